/- An item's bytes: the walks of put and Encode. -/
import Derived.Test.YtlpmnhnlhleogaaWb
namespace Go.Proofs.Ytlpmnhnlhleogaa
open Go.RowKit Go.Mo
set_option linter.unusedVariables false
set_option linter.unusedSimpArgs false

theorem put_calls (k : Nat) : ∀ (x : It), wt x ≤ k → Sec (wt x < 256 ^ 5) → ∀ (S : Nat → Prop) (w : World) (A : Option Addr) (n c : Nat) (B : Option Addr) (q q' : Nat),
    ItR S w x [.bool x.list, .slice A n c, .slice B q q'] →
    Calls Try.prog 14 #[.agg #[.bool x.list, .slice A n c, .slice B q q']] w fun e w' =>
      ∃ A' k' c', e = .returned (.slice A' k' c') ∧ Ob w.heap.size w' A' k' c' (putI x) ∧ Below w.heap.size w w' := by
  induction k with
  | zero => intro x hx; rw [wt_eq] at hx; omega
  | succ k ih =>
    intro x hk hx S w A n c B q q' hI
    have IH := Sec.mk ih; clear ih
    have HX := Sec.mk (putI_eq x)
    obtain ⟨_, _, _, _, _, _, hcs, hb, hq1, hq2, hq3, hq4, his⟩ := hI.parts
    injection hcs with _ hcs; injection hcs with h1 hcs; injection hcs with h2 _
    injection h1 with h1a h1b h1c; injection h2 with h2a h2b h2c
    subst h1a; subst h1b; subst h1c; subst h2a; subst h2b; subst h2c
    obtain ⟨b1, b2, b3⟩ := hb.bds
    unfold LIM at hq3; unfold maxLen at hq4
    have HQ1 := Sec.mk hq1; clear hq1
    have HN := Sec.mk hb.len
    have hbx : Blk (w.alloc (.cells #[.bool x.list, .slice A n c, .slice B q q'] 25)) w.heap.size 25 #[.bool x.list, .slice A n c, .slice B q q'] := Blk.new _ _ _
    have HX' := HX.out
    rcases hl : x.list with _ | _
    · rw [hl] at hbx HX'
      rw [if_neg (by simp)] at HX'
      by_cases ho : ownB x.bytes = true
      · rw [if_pos ho] at HX'
        have HP := Sec.mk HX'; clear HX'
        clear hl
        go_enter Try.func14, Try.ntmps14
        go_wp2_with (first | (go_at_call 18; (with_reducible refine (own_calls _ (hb.alloc _)).mono ?_); rintro e w2 ⟨rfl, rfl⟩) | (go_at_call 20; (with_reducible refine (Clone_calls _ (hb.alloc _)).mono ?_); rintro e w2 ⟨A', c', rfl, hO, hB⟩))
        go_ret
        rw [HP.out]
        exact ⟨_, _, _, rfl, hO.mono (by simp), ((Below.refl _ _).alloc (Nat.le_refl _) _).trans (hB.mono (by simp))⟩
      · rw [if_neg ho] at HX'
        have ho' : ownB x.bytes = false := by simpa using ho
        clear hl
        have hnb : n ≤ 1099511627776 := by have := hx.out; rw [wt_eq] at this; rw [HN.out]; omega
        rw [← HN.out] at HX'
        have HP := Sec.mk HX'; clear HX'
        have hh9 := headB_le (n := n) (base := 128) (by omega)
        have d1 := hbx.cell 1
        have d0 := hbx.cell 0
        have hW1 : Below w.heap.size w (w.alloc (.cells #[.bool false, .slice A n c, .slice B q q'] 25)) := (Below.refl _ _).alloc (Nat.le_refl _) _
        generalize hWW : w.alloc (.cells #[.bool false, .slice A n c, .slice B q q'] 25) = W at d0 d1 hW1 hbx
        have HWW := Sec.mk hWW
        go_enter Try.func14, Try.ntmps14
        go_wp2_with (first | (go_at_call 18; (with_reducible refine (own_calls _ (hb.below hW1)).mono ?_); rintro e w2 ⟨rfl, rfl⟩))
        go_region_held3 (fun w' => w'.cell? ⟨w.heap.size, 1, none⟩ = some (.slice A n c)) (first | exact d1 | exact cell_later hb3 d1 | exact (hbl.cell (p := ⟨w.heap.size, 1, none⟩) hbx.lt).trans (cell_later hb3 d1)) (first | (go_at_call 19; (with_reducible refine (head_calls n 128 128 rfl hnb (by omega) _).mono ?_); rintro e w2 ⟨A3, k3, c3, rfl, ho3, hb3⟩) | (refine step_append_bytes _ rfl (.tmp 18) (.tmp 20) 22 rfl W.heap.size Try.underlying22 info5 _ _ _ (headB n 128) rfl ho3 S _ _ _ x.bytes rfl ((hb.below hW1).drew.below hb3) ?c1 ?c2 ?_; (case c1 => have := ho3.len; unfold LIM; omega); (case c2 => exact hb3.size); intro A' c' w3 ho4 hbl hg hat))
        go_wp2
        go_ret
        rw [HP.out]
        exact ⟨_, _, _, rfl, ho4.mono hW1.size, (hW1.drew.trans (hb3.mono hW1.size)).trans (hbl.mono hW1.size)⟩
    · rw [hl] at hbx HX'
      rw [if_pos rfl] at HX'
      clear hl
      have HP := Sec.mk HX'; clear HX'
      have hpl := putL_len x.items (by have := hx.out; rw [wt_eq] at this; omega)
      have hwx := hx.out
      rw [wt_eq] at hwx
      have hpl2 : (putL x.items).length ≤ 1099511627776 := by omega
      clear hpl
      have d0 := hbx.cell 0
      have d2 := hbx.cell 2
      have hW1 : Below w.heap.size w (w.alloc (.cells #[.bool true, .slice A n c, .slice B q q'] 25)) := (Below.refl _ _).alloc (Nat.le_refl _) _
      have his1 := ItsR.agree (Agree.of_below hW1 S) his
      generalize hWW : w.alloc (.cells #[.bool true, .slice A n c, .slice B q q'] 25) = W at d0 d2 hW1 hbx his1
      go_enter Try.func14, Try.ntmps14
      go_wp2
      have HWW := Sec.mk hWW; clear hWW
      go_loopg [3, 25] q (fun r v3 v25 w' => ∃ (i : Nat) (A3 : Option Addr) (k3 c3 : Nat), v3 = .slice A3 k3 c3 ∧ v25 = .int .i64 (i : Int) ∧ i ≤ q ∧ q ≤ i + r ∧ Below W.heap.size W w' ∧
        Ob W.heap.size w' A3 k3 c3 (putL (x.items.take i)))
      case atStart => exact ⟨0, none, 0, 0, rfl, rfl, by omega, by omega, Below.refl _ _, by rw [List.take_zero]; exact Ob.nil _ _⟩
      case round =>
        obtain ⟨i, A3, k3, c3, rfl, rfl, hi, hr, hB, hO⟩ := hrel
        have hBs := hB.size
        by_cases hlt : i < q
        · obtain ⟨y, hy⟩ : ∃ y, x.items[i]? = some y := ⟨x.items[i]'(by rw [← HQ1.out]; exact hlt), by simp⟩
          obtain ⟨ad, A2, n2, c2, B2, m2, e2, rfl, hS, k0, k1, k2, hy2⟩ := (ItsR.agree (Agree.of_below hB S) his1).at hy
          have hyw : wt y < wt x := wt_get hy
          have htk : Sec (putL (x.items.take (i + 1)) = putL (x.items.take i) ++ putI y) := ⟨by
            rw [← putL_snoc, List.take_add_one, hy]; rfl⟩
          have htl : (putL (x.items.take i)).length + (putI y).length ≤ 1099511627776 := by
            have h1 := putL_take_le x.items (i + 1)
            rw [htk.out, List.length_append] at h1
            omega
          clear hy
          have HC := Sec.mk (IH.out y (by omega) ⟨by have := hx.out; omega⟩ S (wr.alloc (.cells #[.bool y.list, .slice A2 n2 c2, .slice B2 m2 e2] 25)) A2 n2 c2 B2 m2 e2 (hy2.alloc _))
          go_wp2_with fail
          ((with_reducible refine HC.out.mono ?_); rintro e w2 ⟨A4, k4, c4, rfl, ho4, hb4⟩)
          have ho3 : Ob W.heap.size w2 A3 k3 c3 (putL (x.items.take i)) := (hO.alloc _).below hb4
          go_wp2_with (at_builtin; go_loud (refine wpList_append_bytes _ rfl (.tmp 29) (.tmp 31) 22 rfl W.heap.size Try.underlying22 info5 _ _ _ _ rfl ho3 (fun _ => True) _ _ _ (putI y) rfl ho4.bsT ?c1 ?c2 ?_); (case c1 => have := ho3.len; have := ho4.len; unfold LIM; omega); (case c2 => have := hb4.size; simp at this; omega); intro A5 c5 w3 ho5 hbl hg hat)
          go_roundg (gk - 1)
          case measure => omega
          case rel => exact ⟨i + 1, A5, _, c5, rfl, by go_num, by omega, by omega, ((hB.alloc hBs _).trans (hb4.mono (by simp; omega))).trans hbl, by rw [htk.out]; exact ho5⟩
        · have hiq : i = q := by omega
          subst hiq
          rw [show List.take i x.items = x.items from List.take_of_length_le (by rw [← HQ1.out]; exact Nat.le_refl _)] at hO
          have hk3 := Sec.mk hO.len
          have hk3' : k3 ≤ 1099511627776 := by rw [hk3.out]; exact hpl2
          have hh9 := headB_le (n := k3) (base := 192) (by omega)
          go_wp2_with fail
          ((with_reducible refine (head_calls k3 192 192 rfl hk3' (by omega) _).mono ?_); rintro e w2 ⟨A4, k4, c4, rfl, ho4, hb4⟩)
          have hOb := hO.below hb4
          go_wp2_with (at_builtin; go_loud (refine wpList_append_bytes _ rfl (.tmp 36) (.tmp 37) 22 rfl wr.heap.size Try.underlying22 info5 _ _ _ _ rfl ho4 (fun _ => True) _ _ _ (putL x.items) rfl hOb.bsT ?c1 ?c2 ?_); (case c1 => have := ho4.len; unfold LIM; omega); (case c2 => exact hb4.size); intro A5 c5 w3 ho5 hbl hg hat)
          go_ret
          rw [HP.out, ← hk3.out]
          exact ⟨_, _, _, rfl, ho5.mono (by have := hW1.size; omega), (hW1.trans (hB.mono hW1.size)).trans ((hb4.mono (by have := hW1.size; omega)).trans (hbl.mono (by have := hW1.size; omega)))⟩

theorem Encode_calls (x : It) (hx : Sec (wt x < 256 ^ 5)) (S : Nat → Prop) (w : World) (A : Option Addr) (n c : Nat) (B : Option Addr) (q q' : Nat)
    (hI : ItR S w x [.bool x.list, .slice A n c, .slice B q q']) :
    Calls Try.prog 6 #[.agg #[.bool x.list, .slice A n c, .slice B q q']] w fun e w' =>
      ∃ A' k' c', e = .returned (.tuple #[.slice A' k' c', .int .i64 ((encI x).2 : Int)]) ∧ Ob w.heap.size w' A' k' c' (encI x).1 ∧ Below w.heap.size w w' := by
  have hbx : Blk (w.alloc (.cells #[.bool x.list, .slice A n c, .slice B q q'] 25)) w.heap.size 25 #[.bool x.list, .slice A n c, .slice B q q'] := Blk.new _ _ _
  have hW1 : Below w.heap.size w (w.alloc (.cells #[.bool x.list, .slice A n c, .slice B q q'] 25)) := (Below.refl _ _).alloc (Nat.le_refl _) _
  have hI1 := ItR.mono (S' := fun b => b ≠ (w.alloc (.cells #[.bool x.list, .slice A n c, .slice B q q'] 25)).heap.size) (fun b (h : b < _) => by simp at h ⊢; omega) (hI.alloc (.cells #[.bool x.list, .slice A n c, .slice B q q'] 25)).here
  have hsz1 : (w.alloc (.cells #[.bool x.list, .slice A n c, .slice B q q'] 25)).heap.size = w.heap.size + 1 := by simp
  generalize hWW : w.alloc (.cells #[.bool x.list, .slice A n c, .slice B q q'] 25) = W at hbx hW1 hI1 hsz1
  have hWk : Wk (W.alloc (.cells #[.int .i64 0] 42)) W.heap.size 0 := Blk.new _ _ _
  have hS := Sec.mk (size_calls _ x (Nat.le_refl _) hx (W.alloc (.cells #[.int .i64 0] 42)) W.heap.size 0 1 1 A n c B q q' rfl (by omega) (by omega) hWk (hI1.alloc _))
  have hWn := hW1.alloc hW1.size (.cells #[.int .i64 0] 42)
  have hne : w.heap.size ≠ W.heap.size := by have := hbx.lt; omega
  have hbx2 := hbx.alloc (.cells #[.int .i64 0] 42)
  have d0 := hbx2.cell 0
  have d1 := hbx2.cell 1
  have d2 := hbx2.cell 2
  have hbd := sizeI_bd x 1 0 (by have := hx.out; omega) (by omega)
  have hEI := Sec.mk (show encI x = if (sizeI x 1 0).2.1 ≠ 0 then ([], (sizeI x 1 0).2.1) else if 65536 < (sizeI x 1 0).1 then ([], 44) else (putI x, 0) from rfl)
  have hsN := hx.out
  generalize sizeI x 1 0 = R at hS hbd hEI
  obtain ⟨s, er, m'⟩ := R
  dsimp only at hbd
  have hbd1 := hbd.1
  clear hbd
  have hs40 : s ≤ 1099511627776 := by omega
  clear hsN hbd1
  have HSZ := Sec.mk hsz1; clear hsz1
  have hIp := hI.below hW1
  go_enter Try.func6, Try.ntmps6
  go_wp2_with fail
  have HWW := Sec.mk hWW; clear hWW
  ((with_reducible refine hS.out.mono ?_); rintro e w1 ⟨rfl, hW1', hK1⟩)
  have hbel : Below w.heap.size w w1 := hK1.below hWn hW1.size (by simp; have := hW1.size; omega)
  have hbx3 := hbx2.kb hK1 hne
  have e0 := hbx3.cell 0
  have e1 := hbx3.cell 1
  have e2 := hbx3.cell 2
  have hI3 := hI.below hbel
  have hP := Sec.mk (put_calls _ x (Nat.le_refl _) hx S w1 A n c B q q' hI3)
  by_cases her : er = 0
  · subst her
    have hEI' := hEI.out
    rw [if_neg (by simp)] at hEI'
    by_cases hs6 : 65536 < s
    · rw [if_pos hs6] at hEI'
      have HE := Sec.mk hEI'; clear hEI'
      go_wp2
      go_ret2
      rw [HE.out]
      exact ⟨_, _, _, rfl, Ob.nil _ _, hbel⟩
    · rw [if_neg hs6] at hEI'
      have HE := Sec.mk hEI'; clear hEI'
      go_wp2_with (go_at_call 14; (with_reducible refine hP.out.mono ?_); rintro e w2 ⟨A3, k3, c3, rfl, ho3, hb3⟩)
      go_ret2
      rw [HE.out]
      exact ⟨_, _, _, rfl, ho3.mono hbel.size, below_then hbel hbel.size hb3⟩
  · have her' : ((er : Int) != 0) = true := by simp; exact her
    have hEI' := hEI.out
    rw [if_pos her] at hEI'
    have HE := Sec.mk hEI'; clear hEI'
    go_wp2
    go_ret2
    rw [HE.out]
    exact ⟨_, _, _, rfl, Ob.nil _ _, hbel⟩
end Go.Proofs.Ytlpmnhnlhleogaa
