/- Items counted: the walks of count and few. -/
import Derived.Test.YtlpmnhnlhleogaaWg
namespace Go.Proofs.Ytlpmnhnlhleogaa
open Go.RowKit Go.Mo
set_option linter.unusedVariables false
set_option linter.unusedSimpArgs false

/-- What a call of count answers, at depth d. -/
def CountAt (d : Nat) : Prop := ∀ (D : Int), D = (d : Int) → ∀ (x : It) (S : Nat → Prop) (w : World) (A : Option Addr) (n c : Nat) (B : Option Addr) (q q' : Nat),
    ItR S w x [.bool x.list, .slice A n c, .slice B q q'] →
    Calls Try.prog 12 #[.agg #[.bool x.list, .slice A n c, .slice B q q'], .int .i64 D] w fun e w' =>
      ∃ v : Nat, e = .returned (.int .i64 (v : Int)) ∧ v ≤ (d + 1) * 8796093022208 ∧ (v ≤ 400 → wt x ≤ 60 * v) ∧ Below w.heap.size w w'

set_option maxRecDepth 100000 in
set_option maxHeartbeats 4000000 in
theorem count_zero : CountAt 0 := by
  intro D hD x S w A n c B q q' hX
  subst hD
  obtain ⟨_, _, _, _, _, _, hcs, hb, hq1, hq2, hq3, hq4, his⟩ := hX.parts
  injection hcs with hl0 hcs; clear hl0; injection hcs with h1 hcs; injection hcs with h2 hn0; clear hn0
  injection h1 with h1a h1b h1c; injection h2 with h2a h2b h2c
  subst h1a; subst h1b; subst h1c; subst h2a; subst h2b; subst h2c
  obtain ⟨b1, b2, b3⟩ := hb.bds
  have HN := Sec.mk hb.len
  unfold LIM at hq3; unfold maxLen at hq4
  have hx1 := wt_eq x
  by_cases hq0 : q = 0
  · have hx2 : x.items = [] := List.eq_nil_of_length_eq_zero (by omega)
    rw [hx2, wt.wts] at hx1
    have hx3 : n / 50 + 1 ≤ 1 * 8796093022208 ∧ wt x ≤ 60 * (1 + n / 50) := ⟨by omega, by rw [← hb.len] at hx1; omega⟩
    have HX3 := Sec.mk hx3
    clear hx1 hx2 hx3 hq1
    subst hq0
    have hb1 := Blk.new w 25 #[.bool x.list, .slice A n c, .slice B 0 q']
    have hB1 : Below w.heap.size w (w.alloc (.cells #[.bool x.list, .slice A n c, .slice B 0 q'] 25)) := (Below.refl _ _).alloc (Nat.le_refl _) _
    go_enter Try.func12, Try.ntmps12
    go_wp2_with fail
    generalize (w.alloc (.cells #[.bool x.list, .slice A n c, .slice B 0 q'] 25)) = W at hb1 hB1 ⊢
    go_loopg [5, 6] 0 (fun r v5 v6 w' => v5 = .int .i64 ((n : Int) / 50 + 1) ∧ v6 = .int .i64 0 ∧ w' = W)
    case atStart => exact ⟨by go_num, rfl, rfl⟩
    case round =>
      obtain ⟨rfl, rfl, rfl⟩ := hrel
      have z2 := hb1.cell 2
      go_wp2
      go_ret
      exact ⟨1 + n / 50, by go_num, by have := HX3.out.1; omega, fun _ => HX3.out.2, hB1⟩
  · have HX := Sec.mk hx1; have HQ := Sec.mk hq1; clear hx1 hq1
    have hb1 := Blk.new w 25 #[.bool x.list, .slice A n c, .slice B q q']
    have hB1 : Below w.heap.size w (w.alloc (.cells #[.bool x.list, .slice A n c, .slice B q q'] 25)) := (Below.refl _ _).alloc (Nat.le_refl _) _
    go_enter Try.func12, Try.ntmps12
    go_wp2_with fail
    go_ret
    exact ⟨401, rfl, by omega, by omega, hB1⟩

set_option maxRecDepth 100000 in
set_option maxHeartbeats 4000000 in
theorem count_succ (d : Nat) (hd18 : d ≤ 20) (IH : Sec (CountAt d)) : CountAt (d + 1) := by
  intro D hD x S w A n c B q q' hX
  obtain ⟨_, _, _, _, _, _, hcs, hb, hq1, hq2, hq3, hq4, his⟩ := hX.parts
  injection hcs with hl0 hcs; clear hl0; injection hcs with h1 hcs; injection hcs with h2 hn0; clear hn0
  injection h1 with h1a h1b h1c; injection h2 with h2a h2b h2c
  subst h1a; subst h1b; subst h1c; subst h2a; subst h2b; subst h2c
  obtain ⟨b1, b2, b3⟩ := hb.bds
  have HN := Sec.mk hb.len
  unfold LIM at hq3; unfold maxLen at hq4
  have HX := Sec.mk (wt_eq x); have HQ := Sec.mk hq1; clear hq1
  have hd0 : (D == 0) = false := by simp; omega
  have hDl : 0 < D ∧ D ≤ 21 := by omega
  have hDp : D - 1 = (d : Int) := by omega
  have HDP := Sec.mk hDp; clear hDp hD
  obtain ⟨hD1, hD2⟩ := hDl
  have hn1 : n / 50 + 1 ≤ 8796093022208 := by omega
  have hn2 : Sec (wt x ≤ 60 * (n / 50 + 1) + wt.wts x.items) := ⟨by rw [HX.out, ← HN.out]; omega⟩
  have hb1 := Blk.new w 25 #[.bool x.list, .slice A n c, .slice B q q']
  have hB1 : Below w.heap.size w (w.alloc (.cells #[.bool x.list, .slice A n c, .slice B q q'] 25)) := (Below.refl _ _).alloc (Nat.le_refl _) _
  go_enter Try.func12, Try.ntmps12
  go_wp2_with fail
  generalize (w.alloc (.cells #[.bool x.list, .slice A n c, .slice B q q'] 25)) = W at hb1 hB1 ⊢
  have g1 : Below W.heap.size W W := Below.refl _ _
  go_loopg [5, 6] q (fun r v5 v6 w' => ∃ (i m : Nat), v5 = .int .i64 (m : Int) ∧ v6 = .int .i64 (i : Int) ∧ i ≤ q ∧ q ≤ i + r ∧ Below w.heap.size w w' ∧ Below W.heap.size W w' ∧
    m ≤ (d + 1 + 1) * 8796093022208 ∧ Sec (m ≤ 400 → wt x ≤ 60 * m + wt.wts (x.items.drop i)))
  case atStart => exact ⟨0, n / 50 + 1, by go_num, rfl, by omega, by omega, hB1, g1, by omega, ⟨fun _ => by have := hn2.out; simpa using this⟩⟩
  case round =>
    obtain ⟨i, m, rfl, rfl, hi, hr, hB', hW', hm5, hs⟩ := hrel
    have hb1r := hb1.below hW'
    have z2 := hb1r.cell 2
    have hsz1 := hW'.size
    have hsz2 := hB'.size
    by_cases h4 : m ≤ 400
    · by_cases hlt : i < q
      · obtain ⟨xi, hxi⟩ : ∃ xi, x.items[i]? = some xi := ⟨x.items[i]'(by rw [← HQ.out]; exact hlt), by simp⟩
        obtain ⟨ad, A3, n3, c3, B3, q3, r3, rfl, hS3, k0, k1, k2, hx3⟩ := (ItsR.agree (Agree.of_below hB' S) his).at hxi
        have hdr : Sec (x.items.drop i = xi :: x.items.drop (i + 1)) := ⟨by
          rw [List.getElem?_eq_some_iff] at hxi
          obtain ⟨hi', rfl⟩ := hxi
          exact List.drop_eq_getElem_cons hi'⟩
        clear hxi
        have hcall := IH.out (D - 1) HDP.out xi S wr _ _ _ _ _ _ hx3
        have HC := Sec.mk hcall; clear hcall
        go_wp2_with (go_at_call 12; (with_reducible refine HC.out.mono ?_); rintro e w5 ⟨v, rfl, hv1, hv2, hb5⟩)
        have hv3 : m + v ≤ (d + 1 + 1) * 8796093022208 := by omega
        have HV1 := Sec.mk hv1
        have HV2 := Sec.mk hv2; clear hv2
        go_wp2
        go_roundg (gk - 1)
        case measure => omega
        case rel => exact ⟨i + 1, m + v, by go_num, by go_num, by omega, by omega, below_then hB' hB'.size hb5, below_then hW' hW'.size hb5, hv3, ⟨fun h => by
          have e1 := hs.out h4
          rw [hdr.out, wt.wts] at e1
          have e2 := HV2.out (by omega)
          omega⟩⟩
      · have hiq : i = q := by omega
        subst hiq
        have hdr : x.items.drop i = [] := List.drop_eq_nil_of_le (by rw [← HQ.out]; exact Nat.le_refl _)
        have hs2 := hs.out h4
        rw [hdr, wt.wts] at hs2
        have HS2 := Sec.mk hs2
        clear hs2 hdr
        go_wp2
        go_ret
        exact ⟨m, rfl, hm5, fun _ => by have := HS2.out; omega, hB'⟩
    · by_cases hlt : i < q
      · go_wp2
        go_ret
        exact ⟨m, rfl, hm5, fun h => absurd h h4, hB'⟩
      · go_wp2
        go_ret
        exact ⟨m, rfl, hm5, fun h => absurd h h4, hB'⟩
theorem count_at : ∀ d, d ≤ 20 → CountAt d
  | 0, _ => count_zero
  | d + 1, h => count_succ d (by omega) ⟨count_at d (by omega)⟩

/-- Few items: the weight has a bound. -/
theorem few_calls (x : It) (S : Nat → Prop) (w : World) (A : Option Addr) (n c : Nat) (B : Option Addr) (q q' : Nat) (hX : ItR S w x [.bool x.list, .slice A n c, .slice B q q']) :
    Calls Try.prog 5 #[.agg #[.bool x.list, .slice A n c, .slice B q q']] w fun e w' =>
      ∃ b : Bool, e = .returned (.bool b) ∧ (b = true → wt x ≤ 24000) ∧ Below w.heap.size w w' := by
  obtain ⟨_, _, _, _, _, _, hcs, hb, hq1, hq2, hq3, hq4, his⟩ := hX.parts
  clear hcs hb hq1 hq2 hq3 hq4 his
  have hb1 := Blk.new w 25 #[.bool x.list, .slice A n c, .slice B q q']
  have hB1 : Below w.heap.size w (w.alloc (.cells #[.bool x.list, .slice A n c, .slice B q q'] 25)) := (Below.refl _ _).alloc (Nat.le_refl _) _
  have hcall := count_at 18 (by omega) 18 rfl x S _ A n c B q q' (hX.alloc (.cells #[.bool x.list, .slice A n c, .slice B q q'] 25))
  have HC := Sec.mk hcall; clear hcall
  go_enter Try.func5, Try.ntmps5
  go_wp2_with (go_at_call 12; (with_reducible refine HC.out.mono ?_); rintro e w5 ⟨v, rfl, hv1, hv2, hb5⟩)
  go_ret
  refine ⟨_, rfl, ?_, below_then hB1 hB1.size hb5⟩
  intro h
  have : v ≤ 400 := by simp at h; omega
  have := hv2 this
  omega
end Go.Proofs.Ytlpmnhnlhleogaa
