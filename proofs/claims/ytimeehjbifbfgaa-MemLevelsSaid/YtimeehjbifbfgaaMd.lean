/- The walks of a table of towers: height. -/
import Derived.Test.YtimeehjbifbfgaaMc
namespace Go.Proofs.Ytimeehjbifbfgaa
open Go.RowKit Go.Mo
set_option linter.unusedVariables false
set_option linter.unusedSimpArgs false

/-- The next tower's height. -/
def heightI (hs : List Int) (n : Nat) : Nat := if hs = [] then 1 else (min (max (hs.getD (n % hs.length) 0) 1) 12).toNat

set_option maxRecDepth 100000 in
set_option maxHeartbeats 1000000 in
theorem height_calls {F : Nat → Prop} (w : World) (t : Nat) (A : Option Addr) (q c : Nat) (n size : Nat) (N : List Nd) (hT : TwIn F w t (.slice A q c) n size N) (hn : n < 4294967296) (hs : List Int) (hq : Sec (q = hs.length)) (hqc : q ≤ c) (hql : q ≤ 4294967296) (hcm : c ≤ maxLen)
    (hr : ∀ i, i < q → ∃ ad, A = some ad ∧ w.cell? (ad.add i) = some (.int .i64 (hs.getD i 0))) :
    Calls Try.prog 66 #[.pointer (some ⟨t, 0, none⟩)] w fun e w' => e = .returned (.int .i64 (heightI hs n : Int)) ∧ Below w.heap.size w w' := by
  have z0 : w.cell? ⟨t, 0, none⟩ = some (.slice A q c) := (Tw.head hT).cell 0
  have z1 : w.cell? ⟨t, 16, none⟩ = some (.int .i64 (n : Int)) := (Tw.head hT).cell 16
  clear hT
  by_cases hq0 : q = 0
  · have hH := Sec.mk (show heightI hs n = 1 from by
      unfold heightI
      rw [if_pos (List.eq_nil_of_length_eq_zero (by rw [← hq.out]; exact hq0))])
    subst hq0
    clear hr
    go_enter Try.func66, Try.ntmps66
    go_wp2
    go_ret
    exact ⟨by rw [hH.out]; rfl, Below.refl _ _⟩
  · obtain ⟨r, hm, hlt, hrr⟩ : ∃ r : Nat, (n : Int) % (q : Int) = (r : Int) ∧ r < q ∧ Sec (r = n % q) := ⟨n % q, by omega, Nat.mod_lt _ (by omega), ⟨rfl⟩⟩
    obtain ⟨ad, rfl, hc⟩ := hr r hlt
    have hH := Sec.mk (show ((heightI hs n : Nat) : Int) = min (max (hs.getD r 0) 1) 12 from by
      unfold heightI
      rw [if_neg (fun h => hq0 (by rw [hq.out, h]; rfl)), hrr.out, hq.out]
      omega)
    generalize hs.getD r 0 = v at hc hH
    have hq0' : ((q : Int) == 0) = false := by simp; omega
    clear hr hq0
    go_enter Try.func66, Try.ntmps66
    go_wp2_with fail
    go_quiet (fail)
    go_wp2
    all_goals
      (go_ret
       refine ⟨?_, below_drewN (Below.refl _ _) nq⟩
       rw [hH.out]
       refine congrArg Ending.returned (congrArg (Value.int .i64) ?_)
       omega)
end Go.Proofs.Ytimeehjbifbfgaa
