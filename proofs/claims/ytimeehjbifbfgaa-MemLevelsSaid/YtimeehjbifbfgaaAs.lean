/- Byte slices, keys with values, lists: how they lie in cells. No program in sight. -/
import Derived.Test.YtimeehjbifbfgaaAr
namespace Go.Mo
open Go.RowKit
theorem Bs.here' {S : Nat → Prop} {w : World} {A : Option Addr} {n c : Nat} {l : List UInt8} (h : Bs S w A n c l) : Bs (fun b => S b ∧ b < w.heap.size) w A n c l := (h.and h.here).mono fun _ h => h
/-- Bytes. -/
def repB : Rep (List UInt8) where
  size := 1
  R S w l cs := ∃ A n c, cs = [.slice A n c] ∧ Bs S w A n c l
  len := by rintro S w x cs ⟨A, n, c, rfl, _⟩; rfl
  one := by rintro S w x cs ⟨A, n, c, rfl, _⟩; rfl
  mono := by rintro S S' w x cs ⟨A, n, c, rfl, h⟩ hs; exact ⟨A, n, c, rfl, h.mono hs⟩
  agree := by rintro S w w' x cs ⟨A, n, c, rfl, h⟩ hs; exact ⟨A, n, c, rfl, h.agree hs⟩
  here := by rintro S w x cs ⟨A, n, c, rfl, h⟩; exact ⟨A, n, c, rfl, h.here'⟩
/-- A key and a value. -/
abbrev KV := List UInt8 × List UInt8
def repKV : Rep KV where
  size := 2
  R S w x cs := ∃ A n c B q e, cs = [.slice A n c, .slice B q e] ∧ Bs S w A n c x.1 ∧ Bs S w B q e x.2
  len := by rintro S w x cs ⟨A, n, c, B, q, e, rfl, _⟩; rfl
  one := by rintro S w x cs ⟨A, n, c, B, q, e, rfl, _⟩; rfl
  mono := by rintro S S' w x cs ⟨A, n, c, B, q, e, rfl, h, h'⟩ hs; exact ⟨A, n, c, B, q, e, rfl, h.mono hs, h'.mono hs⟩
  agree := by rintro S w w' x cs ⟨A, n, c, B, q, e, rfl, h, h'⟩ hs; exact ⟨A, n, c, B, q, e, rfl, h.agree hs, h'.agree hs⟩
  here := by rintro S w x cs ⟨A, n, c, B, q, e, rfl, h, h'⟩; exact ⟨A, n, c, B, q, e, rfl, h.here', h'.here'⟩
/-- A list. -/
def repL {α : Type} (r : Rep α) : Rep (List α) where
  size := 1
  R S w l cs := ∃ A n c, cs = [.slice A n c] ∧ Ar r S w A n c l
  len := by rintro S w x cs ⟨A, n, c, rfl, _⟩; rfl
  one := by rintro S w x cs ⟨A, n, c, rfl, _⟩; rfl
  mono := by rintro S S' w x cs ⟨A, n, c, rfl, h⟩ hs; exact ⟨A, n, c, rfl, h.mono hs⟩
  agree := by rintro S w w' x cs ⟨A, n, c, rfl, h⟩ hs; exact ⟨A, n, c, rfl, h.agree hs⟩
  here := by rintro S w x cs ⟨A, n, c, rfl, h⟩; exact ⟨A, n, c, rfl, h.here⟩
/-- A field behind an element's address, as the walk spells it. -/
theorem add_fld (a : Addr) (k j : Nat) : a.add (k + (j + 1)) = ⟨(a.add k).block, (a.add k).off + (j + 1), none⟩ := by
  rw [← add_add]; simp [Addr.add]
section
variable {S : Nat → Prop} {w : World} {A : Option Addr} {n c : Nat}
theorem Ar.atB {l : List (List UInt8)} (h : Ar repB S w A n c l) {k : Nat} (hk : k < n) : ∃ ad A' n' c', A = some ad ∧ w.cell? (ad.add k) = some (.slice A' n' c') ∧ Bs S w A' n' c' (l.getD k []) := by
  obtain ⟨ad, x, cs, e, hx, hS, ⟨A', n', c', rfl, hb⟩, hc⟩ := h.at hk (by decide)
  refine ⟨ad, A', n', c', e, ?_, ?_⟩
  · have := hc 0 _ rfl
    rwa [show k * repB.size + 0 = k from by show k * 1 + 0 = k; omega] at this
  · rw [List.getD_eq_getElem?_getD, hx]; exact hb
theorem Ar.atKV {l : List KV} (h : Ar repKV S w A n c l) {k : Nat} (hk : k < n) : ∃ ad A' n' c' B q e, A = some ad ∧ w.cell? (ad.add (k * 2)) = some (.slice A' n' c') ∧ w.cell? ⟨(ad.add (k * 2)).block, (ad.add (k * 2)).off + 1, none⟩ = some (.slice B q e) ∧
    Bs S w A' n' c' (l.getD k ([], [])).1 ∧ Bs S w B q e (l.getD k ([], [])).2 := by
  obtain ⟨ad, x, cs, e, hx, hS, ⟨A', n', c', B, q, e', rfl, hb, hb2⟩, hc⟩ := h.at hk (by decide)
  refine ⟨ad, A', n', c', B, q, e', e, hc 0 _ rfl, by rw [← add_fld ad (k * 2) 0]; exact hc 1 _ rfl, ?_, ?_⟩
  · rw [List.getD_eq_getElem?_getD, hx]; exact hb
  · rw [List.getD_eq_getElem?_getD, hx]; exact hb2
theorem Ar.atL {α : Type} {r : Rep α} {l : List (List α)} (h : Ar (repL r) S w A n c l) {k : Nat} (hk : k < n) : ∃ ad A' n' c', A = some ad ∧ w.cell? (ad.add k) = some (.slice A' n' c') ∧ Ar r S w A' n' c' (l.getD k []) := by
  obtain ⟨ad, x, cs, e, hx, hS, ⟨A', n', c', rfl, hb⟩, hc⟩ := h.at hk (by show 0 < 1; decide)
  refine ⟨ad, A', n', c', e, ?_, ?_⟩
  · have := hc 0 _ rfl
    rwa [show k * (repL r).size + 0 = k from by show k * 1 + 0 = k; omega] at this
  · rw [List.getD_eq_getElem?_getD, hx]; exact hb
end
end Go.Mo
