/- A link turned in memory. -/
import Derived.Test.YtimeehjbifbfgaaTx
namespace Go.Mo
open Go.RowKit
theorem Bs.setCell_far {S : Nat → Prop} {w : World} {A : Option Addr} {n c : Nat} {l : List UInt8} (h : Bs S w A n c l) {q : Addr} (hq : ¬ S q.block) (u : Value) : Bs S (w.setCell q u) A n c l :=
  h.agree fun b hb _ => Below.heap_setCell w q u b (fun e => hq (e ▸ hb))
theorem Tw.turn {F : Nat → Prop} {w : World} {t : Nat} {hs : Value} {n size : Nat} {N : List Nd} {lv : Nat → Nat → Value} (h : Tw F w t hs n size N lv) {a i : Nat} (ha : a ≤ N.length) (hi : i < 12) {B O : Nat} (e : adr t N a = ⟨B, O, none⟩) (u : Value) :
    Tw F (w.setCell ⟨B, O + 3 + i, none⟩ u) t hs n size N (fun b => if b = a then upd (lv a) i u else lv b) := by
  cases a with
  | zero =>
    simp only [adr] at e
    injection e with e1 e2
    subst e1; subst e2
    refine ⟨h.ft, ?_, fun k d hk => ?_, h.apart⟩
    · have := h.head.set (4 + i) u
      rw [tbCells_set _ _ _ _ hi] at this
      rw [if_pos rfl, show 1 + 3 + i = 4 + i from by omega]
      exact this
    · obtain ⟨A, m, c, B, q, e, h1, h2, h3⟩ := h.node k d hk
      refine ⟨A, m, c, B, q, e, ?_, h2.setCell_far (fun h => h.2.1 rfl) u, h3.setCell_far (fun h => h.2.1 rfl) u⟩
      rw [if_neg (by omega)]
      exact h1.far (h.apart k d hk).2.1 u
  | succ j =>
    obtain ⟨x, hx⟩ : ∃ x, N[j]? = some x := ⟨N[j]'(by omega), by simp⟩
    simp only [adr, hx] at e
    injection e with e1 e2
    subst e1; subst e2
    have hmem : x ∈ N := List.mem_of_getElem? hx
    refine ⟨h.ft, ?_, fun k d hk => ?_, h.apart⟩
    · rw [if_neg (by omega)]
      exact h.head.far (fun e => (h.apart j x hx).2.1 e.symm) u
    · obtain ⟨A, m, c, B, q, e, h1, h2, h3⟩ := h.node k d hk
      refine ⟨A, m, c, B, q, e, ?_, h2.setCell_far (fun h => h.2.2 x hmem rfl) u, h3.setCell_far (fun h => h.2.2 x hmem rfl) u⟩
      by_cases hkj : k = j
      · subst hkj
        rw [hx] at hk; injection hk with hk; subst hk
        rw [if_pos rfl, show 0 + 3 + i = 3 + i from by omega]
        have := h1.set (3 + i) u
        rwa [ndCells_set _ _ _ _ hi] at this
      · rw [if_neg (by omega)]
        exact h1.far (fun e => hkj ((h.apart k d hk).2.2 j x hx e).symm) u
end Go.Mo
