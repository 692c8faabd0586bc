/- The walks of a table of towers: the first node that isn't ahead. -/
import Derived.Test.YtimeehjbifbfgaaMa
import Derived.ChangeKeysEq
namespace Go.Proofs.Ytimeehjbifbfgaa
open Go.RowKit Go.Mo
set_option linter.unusedVariables false
set_option linter.unusedSimpArgs false

theorem cells106 : Try.prog.cellsOf 106 = 1 := by kernel_rfl
theorem isInfo106 : (Try.prog.info? 106).isSome = true := by kernel_rfl
/-- A link of twelve, by its number. -/
theorem run_link0 (u0 u1 u2 u3 u4 u5 u6 u7 u8 u9 u10 u11 : Value) (W : World) : (Instr.index 107 (.agg #[u0, u1, u2, u3, u4, u5, u6, u7, u8, u9, u10, u11]) (.int .i64 0)).run Try.prog W = .ok u0 W := by
  obtain ⟨i, hi⟩ := Option.isSome_iff_exists.1 isInfo106
  have hs := run_sizeOf (w := W) hi
  rw [cells106] at hs
  simp [Instr.index, asIntOf, run_underlying Try.underlying107, run_underlying Try.underlying106, part, isAgg, hs, Result.andThen]

set_option maxRecDepth 100000 in
set_option maxHeartbeats 1000000 in
theorem first_calls {F : Nat → Prop} (w : World) (t : Nat) (hs : Value) (n size : Nat) (N : List Nd) (hT : TwIn F w t hs n size N) (hh : Sec (HOk N)) (S : Nat → Prop) (A : Option Addr) (m c : Nat) (u : List UInt8) (hu : Bs S w A m c u) (s : Nat) (X : Int) (hX : X = (s : Int))
    (p : Nat) (hp : p ≤ N.length) (h1 : Sec (∀ k d, k < p → N[k]? = some d → (compareI d.key (keyI u s 1).1).1 < 0)) (h2 : Sec (∀ k d, p ≤ k → N[k]? = some d → 0 ≤ (compareI d.key (keyI u s 1).1).1)) :
    Calls Try.prog 67 #[.pointer (some ⟨t, 0, none⟩), .slice A m c, .int .u64 X] w fun e w' =>
      e = .returned (if (keyI u s 1).2 ≠ 0 then .pointer none else lnk ((N[p]?).map (·.g))) ∧ Below w.heap.size w w' := by
  subst hX
  have hK := Key_calls s 1 w hu
  have HT := Sec.mk hT; clear hT
  generalize keyI u s 1 = R at hK h1 h2 ⊢
  obtain ⟨key, f⟩ := R
  dsimp only at hK h1 h2 ⊢
  have HK := Sec.mk hK; clear hK
  by_cases hf : f ≠ 0
  · have hf' : ((f : Int) != 0) = true := by simp; exact hf
    have HF := Sec.mk hf; clear hf
    generalize hr : (if f ≠ 0 then Value.pointer none else lnk ((N[p]?).map (·.g))) = r
    rw [if_pos HF.out] at hr
    have HR := Sec.mk hr; clear hr
    go_enter Try.func67, Try.ntmps67
    go_wp2_with (go_at_call 62; (with_reducible refine HK.out.mono ?_); rintro e w2 ⟨A2, m2, c2, rfl, ho2, hb2⟩)
    go_ret
    exact ⟨by rw [← HR.out]; rfl, hb2⟩
  · have hf0 : f = 0 := by omega
    subst hf0
    generalize hr : (if (0 : Nat) ≠ 0 then Value.pointer none else lnk ((N[p]?).map (·.g))) = r
    rw [if_neg (by simp)] at hr
    have HR := Sec.mk hr; clear hr hf
    obtain ⟨B, O, hadr, hO⟩ := adr_form t N p
    have HA := Sec.mk hadr; clear hadr
    go_enter Try.func67, Try.ntmps67
    go_wp2_with (go_at_call 62; (with_reducible refine HK.out.mono ?_); rintro e w2 ⟨A2, m2, c2, rfl, ho2, hb2⟩)
    have hT2 : TwIn F w2 t hs n size N := HT.out.below hb2
    ((with_reducible refine (before_calls w2 t hs n size N hT2 _ A2 m2 c2 key ho2.bs p hp h1 h2).mono ?_); rintro e w3 ⟨rfl, hb3⟩)
    have hT3 : TwIn F w3 t hs n size N := Tw.below hT2 hb3
    have hlk := Tw.link hT3 (a := p) (i := 0) hp (by omega) HA.out
    rw [lvIn_zero hh.out hp, HR.out] at hlk
    simp only [row12]
    rw [lastAt_zero hh.out hp, HA.out]
    have hix := run_link0
    go_wp2
    go_ret
    exact ⟨rfl, below_then hb2 hb2.size hb3⟩
end Go.Proofs.Ytimeehjbifbfgaa
