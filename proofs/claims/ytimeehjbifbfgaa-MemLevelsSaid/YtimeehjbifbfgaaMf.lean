/- The walks of a table of towers: Put. -/
import Derived.Test.YtimeehjbifbfgaaMe
import Derived.Test.YtimeehjbifbfgaaTz
namespace Go.Proofs.Ytimeehjbifbfgaa
open Go.RowKit Go.Mo
set_option linter.unusedVariables false
set_option linter.unusedSimpArgs false

/-- Put's faults ahead of the table: the key's, the value's. -/
theorem Put_fault (w : World) (t : Nat) {S S' : Nat → Prop} (A : Option Addr) (m c : Nat) (u : List UInt8) (hu : Bs S w A m c u) (s : Nat) (k : Int) (B : Option Addr) (q e : Nat) (v : List UInt8) (hv : Bs S' w B q e v)
    (hf : Sec ((keyI u s k).2 ≠ 0 ∨ 16384 < v.length)) :
    Calls Try.prog 18 #[.pointer (some ⟨t, 0, none⟩), .slice A m c, .int .u64 (s : Int), .int .i64 k, .slice B q e] w fun e w' =>
      e = .returned (.int .i64 (((if (keyI u s k).2 ≠ 0 then (keyI u s k).2 else 61) : Nat) : Int)) ∧ Below w.heap.size w w' := by
  have hK := Key_calls s k w hu
  obtain ⟨b1, b2, b3⟩ := hv.bds
  have hvl := Sec.mk hv.len
  generalize keyI u s k = R at hK hf ⊢
  obtain ⟨key, f⟩ := R
  dsimp only at hK hf ⊢
  have HK := Sec.mk hK; clear hK
  by_cases hf0 : f ≠ 0
  · generalize hr : (if f ≠ 0 then f else 61) = r
    rw [if_pos hf0] at hr
    have HR := Sec.mk hr; clear hr
    have hf' : ((f : Int) != 0) = true := by simp; exact hf0
    clear hf0 hf
    go_enter Try.func18, Try.ntmps18
    go_wp2_with (go_at_call 62; (with_reducible refine HK.out.mono ?_); rintro e w2 ⟨A2, m2, c2, rfl, ho2, hb2⟩)
    go_ret
    exact ⟨by rw [← HR.out]; rfl, hb2⟩
  · have hf1 : f = 0 := by omega
    subst hf1
    have hq : 16384 < q := by rw [hvl.out]; exact hf.out.resolve_left (by simp)
    clear hf hf0
    go_enter Try.func18, Try.ntmps18
    go_wp2_with (go_at_call 62; (with_reducible refine HK.out.mono ?_); rintro e w2 ⟨A2, m2, c2, rfl, ho2, hb2⟩)
    go_ret
    exact ⟨rfl, hb2⟩
end Go.Proofs.Ytimeehjbifbfgaa
