/- The laws of a table: few. -/
import Derived.Test.YtimeehjbifbfgaaOp
import Derived.Test.YtimeehjbifbfgaaMk
namespace Go.Mo
/-- Is an entry looked at? -/
def fewOne (e : Ent) : Bool := !((decide (200 < e.value.length) && decide (e.value.length ≤ 16384)) || decide (300 < e.user.length))
/-- Are entries looked at? -/
def fewI (l : List Ent) : Bool := decide (l.length ≤ 60) && l.all fewOne
theorem fewI_iff (l : List Ent) : fewI l = true ↔ l.length ≤ 60 ∧ ∀ e ∈ l, (e.value.length ≤ 200 ∨ 16384 < e.value.length) ∧ e.user.length ≤ 300 := by
  unfold fewI fewOne
  simp only [Bool.and_eq_true, decide_eq_true_eq, List.all_eq_true]
  constructor
  · rintro ⟨h1, h2⟩
    refine ⟨h1, fun e he => ?_⟩
    have := h2 e he
    simp at this
    omega
  · rintro ⟨h1, h2⟩
    refine ⟨h1, fun e he => ?_⟩
    have := h2 e he
    simp
    omega
theorem fewOne_true {e : Ent} (h : fewOne e = true) : (e.value.length ≤ 200 ∨ 16384 < e.value.length) ∧ e.user.length ≤ 300 := by
  unfold fewOne at h; simp at h; omega
theorem fewOne_false {e : Ent} (h : fewOne e = false) : (200 < e.value.length ∧ e.value.length ≤ 16384) ∨ 300 < e.user.length := by
  unfold fewOne at h; simp at h; omega
theorem all_take_step {α : Type} {p : α → Bool} {l : List α} {k : Nat} {d : α} (hk : k < l.length) (h : (l.take k).all p = true) (hx : p (l.getD k d) = true) : (l.take (k + 1)).all p = true := by
  rw [List.take_add_one, List.all_append, h, List.getElem?_eq_getElem hk]
  simpa [List.getD, hk] using hx
theorem all_false_at {α : Type} {p : α → Bool} {l : List α} {k : Nat} {d : α} (hk : k < l.length) (hx : p (l.getD k d) = false) : l.all p = false := by
  rw [List.all_eq_false]
  exact ⟨l[k], List.getElem_mem hk, by simpa [List.getD, hk] using hx⟩
end Go.Mo
namespace Go.Proofs.Ytimeehjbifbfgaa
open Go.RowKit Go.Mo
set_option linter.unusedVariables false
set_option linter.unusedSimpArgs false
set_option maxRecDepth 100000 in
set_option maxHeartbeats 2000000 in
theorem few_calls {S : Nat → Prop} (w : World) (A : Option Addr) (n c : Nat) (l : List Ent) (hl : Ar repEnt S w A n c l) :
    Calls Try.prog 21 #[.slice A n c] w fun e w' => e = .returned (.bool (fewI l)) ∧ w = w' := by
  obtain ⟨b1, b2, b3⟩ := hl.bds
  have hlen := Sec.mk hl.len
  by_cases hn : n ≤ 60
  · have hE : Sec (fewI l = l.all fewOne) := ⟨by unfold fewI; rw [decide_eq_true (by rw [← hlen.out]; exact hn)]; rfl⟩
    go_enter Try.func21, Try.ntmps21
    go_wp2_with (fail)
    go_loopg [3] n (fun r v3 w' => ∃ i : Nat, v3 = .int .i64 (i : Int) ∧ i ≤ n ∧ n ≤ i + r ∧ Sec ((l.take i).all fewOne = true) ∧ w = w')
    case atStart => exact ⟨0, rfl, by omega, by omega, ⟨rfl⟩, rfl⟩
    case round =>
      obtain ⟨i, rfl, hi, hr, hall, rfl⟩ := hrel
      by_cases hlt : i < n
      · obtain ⟨ad, A1, n1, c1, B1, q1, e1, rfl, z0, z1, z2, z3, hu, hv⟩ := hl.atE hlt
        obtain ⟨u1, u2, u3⟩ := hu.bds
        obtain ⟨v1, v2, v3⟩ := hv.bds
        have lu := Sec.mk hu.len
        have lv := Sec.mk hv.len
        clear z2 z3
        have hstep : Sec (fewOne (l.getD i ent0) = true → (l.take (i + 1)).all fewOne = true) := ⟨fun h => all_take_step (by rw [← hlen.out]; exact hlt) hall.out h⟩
        have hstop : Sec (fewOne (l.getD i ent0) = false → fewI l = false) := ⟨fun h => by rw [hE.out]; exact all_false_at (by rw [← hlen.out]; exact hlt) h⟩
        by_cases h1 : 200 < q1
        · by_cases h2 : q1 ≤ 16384
          · have hF := Sec.mk (hstop.out (by unfold fewOne; rw [← lv.out, decide_eq_true h1, decide_eq_true h2]; rfl))
            go_wp2_with (fail)
            go_ret
            exact ⟨by rw [hF.out]; rfl, rfl⟩
          · by_cases h3 : n1 ≤ 300
            · have hF := Sec.mk (hstep.out (by unfold fewOne; rw [← lv.out, ← lu.out]; simp; omega))
              go_wp2_with (fail)
              go_roundg (gk - 1)
              case measure => omega
              case rel => exact ⟨i + 1, by go_num, by omega, by omega, hF, rfl⟩
            · have hF := Sec.mk (hstop.out (by unfold fewOne; rw [← lv.out, ← lu.out]; simp; omega))
              go_wp2_with (fail)
              go_ret
              exact ⟨by rw [hF.out]; rfl, rfl⟩
        · by_cases h3 : n1 ≤ 300
          · have hF := Sec.mk (hstep.out (by unfold fewOne; rw [← lv.out, ← lu.out]; simp; omega))
            go_wp2_with (fail)
            go_roundg (gk - 1)
            case measure => omega
            case rel => exact ⟨i + 1, by go_num, by omega, by omega, hF, rfl⟩
          · have hF := Sec.mk (hstop.out (by unfold fewOne; rw [← lv.out, ← lu.out]; simp; omega))
            go_wp2_with (fail)
            go_ret
            exact ⟨by rw [hF.out]; rfl, rfl⟩
      · have hF := Sec.mk (show fewI l = true from by rw [hE.out]; have := hall.out; rwa [List.take_of_length_le (by rw [← hlen.out]; omega)] at this)
        go_wp2_with (fail)
        go_ret
        exact ⟨by rw [hF.out]; rfl, rfl⟩
  · have hF := Sec.mk (show fewI l = false from by unfold fewI; rw [decide_eq_false (by rw [← hlen.out]; exact hn)]; rfl)
    go_enter Try.func21, Try.ntmps21
    go_wp2
    go_ret
    exact ⟨by rw [hF.out]; rfl, rfl⟩
end Go.Proofs.Ytimeehjbifbfgaa
