/- A table in memory, with its heights; what an order is. -/
import Derived.Test.YtimeehjbifbfgaaTv
namespace Go.Mo
open Go.RowKit
/-- A slice of ints that reads as l, in blocks of S. -/
def Bi (S : Nat → Prop) (w : World) (A : Option Addr) (n c : Nat) (l : List Int) : Prop :=
  n = l.length ∧ n ≤ c ∧ n ≤ 4294967296 ∧ c ≤ maxLen ∧ Cs S w A (l.map (.int .i64))
section
variable {S S' : Nat → Prop} {w w' : World} {A : Option Addr} {n c : Nat} {l : List Int}
theorem Bi.len (h : Bi S w A n c l) : n = l.length := h.1
theorem Bi.le (h : Bi S w A n c l) : n ≤ c := h.2.1
theorem Bi.lim (h : Bi S w A n c l) : n ≤ 4294967296 := h.2.2.1
theorem Bi.max (h : Bi S w A n c l) : c ≤ maxLen := h.2.2.2.1
theorem Bi.mono (h : Bi S w A n c l) (hs : ∀ b, S b → S' b) : Bi S' w A n c l := ⟨h.1, h.2.1, h.2.2.1, h.2.2.2.1, h.2.2.2.2.mono hs⟩
theorem Bi.agree (h : Bi S w A n c l) (hg : Agree S w w') : Bi S w' A n c l := ⟨h.1, h.2.1, h.2.2.1, h.2.2.2.1, h.2.2.2.2.agree hg⟩
theorem Bi.below (h : Bi S w A n c l) (hb : Below w.heap.size w w') : Bi S w' A n c l := h.agree (.of_below hb S)
theorem Bi.here (h : Bi S w A n c l) : Bi (fun b => S b ∧ b < w.heap.size) w A n c l := ⟨h.1, h.2.1, h.2.2.1, h.2.2.2.1, h.2.2.2.2.and h.2.2.2.2.here⟩
theorem Bi.at (h : Bi S w A n c l) {k : Nat} (hk : k < n) : ∃ ad, A = some ad ∧ w.cell? (ad.add k) = some (.int .i64 (l.getD k 0)) := by
  have hk' : k < l.length := by have := h.1; omega
  obtain ⟨ad, e, _, hc⟩ := h.2.2.2.2 k (.int .i64 (l.getD k 0)) (by rw [List.getElem?_map, List.getElem?_eq_getElem hk']; simp [hk'])
  exact ⟨ad, e, hc⟩
end
/-- The bytes of entries. -/
def sizeN : List Nd → Nat
  | [] => 0
  | d :: l => d.key.length + d.value.length + sizeN l
theorem sizeN_append (a b : List Nd) : sizeN (a ++ b) = sizeN a + sizeN b := by
  induction a with
  | nil => simp [sizeN]
  | cons d a ih => simp only [List.cons_append, sizeN, ih]; omega
theorem sizeN_ins (N : List Nd) (p : Nat) (x : Nd) : sizeN (ins N p x) = sizeN N + (x.key.length + x.value.length) := by
  unfold ins
  rw [sizeN_append]
  conv => rhs; rw [← List.take_append_drop p N, sizeN_append]
  simp only [sizeN]; omega
theorem ins_length {N : List Nd} {p : Nat} {x : Nd} (hp : p ≤ N.length) : (ins N p x).length = N.length + 1 := by
  unfold ins; simp; omega
/-- A table of entries, all in blocks of F. -/
def Tab (F : Nat → Prop) (w : World) (t : Nat) (hs : List Int) (N : List Nd) : Prop :=
  ∃ A q c, TwIn F w t (.slice A q c) N.length (sizeN N) N ∧ Bi (fun b => F b ∧ b ≠ t ∧ ∀ x ∈ N, b ≠ x.g) w A q c hs
section
variable {F F' : Nat → Prop} {w w' : World} {t : Nat} {hs : List Int} {N : List Nd}
theorem Tab.agree (h : Tab F w t hs N) (hb : Agree F w w') : Tab F w' t hs N := by
  obtain ⟨A, q, c, h1, h2⟩ := h
  exact ⟨A, q, c, Tw.agree h1 hb, h2.agree (hb.mono fun _ h => h.1)⟩
theorem Tab.below (h : Tab F w t hs N) (hb : Below w.heap.size w w') : Tab F w' t hs N := h.agree (.of_below hb F)
theorem Tab.mono (h : Tab F w t hs N) (hF : ∀ b, F b → F' b) : Tab F' w t hs N := by
  obtain ⟨A, q, c, h1, h2⟩ := h
  exact ⟨A, q, c, Tw.mono h1 hF, h2.mono fun b hb => ⟨hF b hb.1, hb.2⟩⟩
theorem Tab.here (h : Tab F w t hs N) : Tab (fun b => F b ∧ b < w.heap.size) w t hs N := by
  obtain ⟨A, q, c, h1, h2⟩ := h
  exact ⟨A, q, c, Tw.here h1, h2.here.mono fun b hb => ⟨⟨hb.1.1, hb.2⟩, hb.1.2⟩⟩
end
/-- Entries in order. -/
structure Ord (N : List Nd) : Prop where
  hok : HOk N
  ok : ∀ (k : Nat) (d : Nd), N[k]? = some d → (splitI d.key).2.2.2 = 0 ∧ d.key.length ≤ 136
  lt : ∀ (j k : Nat) (x y : Nd), N[j]? = some x → N[k]? = some y → j < k → (compareI x.key y.key).1 < 0
end Go.Mo
