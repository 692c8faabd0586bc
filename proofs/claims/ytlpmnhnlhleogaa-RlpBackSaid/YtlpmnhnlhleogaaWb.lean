/- How many bytes an item has: the walks of meets and size. -/
import Derived.Test.YtlpmnhnlhleogaaWa
namespace Go.Proofs.Ytlpmnhnlhleogaa
open Go.RowKit Go.Mo
set_option linter.unusedVariables false
set_option linter.unusedSimpArgs false

/-- The walker in block g has met m items. -/
def Wk (w : World) (g m : Nat) : Prop := Blk w g 42 #[.int .i64 (m : Int)]

theorem meets_calls (g m d : Nat) (hm : m ≤ 4096) (hd : d ≤ 1000000) (w : World) (hW : Wk w g m) :
    Calls Try.prog 17 #[.pointer (some ⟨g, 0, none⟩), .int .i64 (d : Int)] w fun e w' =>
      e = .returned (.int .i64 (if 16 < d ∨ m = 4096 then 43 else 0)) ∧ Wk w' g (if 16 < d ∨ m = 4096 then m else m + 1) ∧ Kb g w w' := by
  have hc : w.cell? ⟨g, 0, none⟩ = some (.int .i64 (m : Int)) := hW.cell 0
  have hf : w.frozen? ⟨g, 0, none⟩ = false := hW.frozen 0
  by_cases h1 : 16 < d
  · have hfin : (16 < d ∨ m = 4096) := .inl h1
    rw [if_pos hfin, if_pos hfin]
    have HW := Sec.mk hW
    clear hfin
    go_enter Try.func17, Try.ntmps17
    go_wp2
    go_ret
    exact ⟨rfl, HW.out, Kb.refl _ _⟩
  · by_cases h2 : m = 4096
    · subst h2
      rw [if_pos (.inr rfl), if_pos (.inr rfl)]
      go_enter Try.func17, Try.ntmps17
      go_wp2
      go_ret
      exact ⟨rfl, hW, Kb.refl _ _⟩
    · have hfin : ¬ (16 < d ∨ m = 4096) := by omega
      rw [if_neg hfin, if_neg hfin]
      have h3 : ((m : Int) == 4096) = false := by simp; omega
      clear hfin
      go_enter Try.func17, Try.ntmps17
      go_wp2
      go_ret
      exact ⟨rfl, hW.set 0 _, (Kb.refl _ _).setCell (.inl rfl) _⟩

theorem size_calls (k : Nat) : ∀ (x : It), wt x ≤ k → Sec (wt x < 256 ^ 5) → ∀ (w : World) (g m d : Nat) (D : Int) (A : Option Addr) (n c : Nat) (B : Option Addr) (q q' : Nat), D = (d : Int) → m ≤ 4096 → d ≤ 17 →
    Wk w g m → ItR (fun b => b ≠ g) w x [.bool x.list, .slice A n c, .slice B q q'] →
    Calls Try.prog 13 #[.pointer (some ⟨g, 0, none⟩), .agg #[.bool x.list, .slice A n c, .slice B q q'], .int .i64 D] w fun e w' =>
      e = .returned (.tuple #[.int .i64 ((sizeI x d m).1 : Int), .int .i64 ((sizeI x d m).2.1 : Int)]) ∧ Wk w' g (sizeI x d m).2.2 ∧ Kb g w w' := by
  induction k with
  | zero => intro x hx; rw [wt_eq] at hx; omega
  | succ k ih =>
    intro x hk hx w g m d D A n c B q q' hD hm hd hW hI
    subst hD
    have IH := Sec.mk ih; clear ih
    have HX := sizeI_eq x d m
    obtain ⟨_, _, _, _, _, _, hcs, hb, hq1, hq2, hq3, hq4, his⟩ := hI.parts
    injection hcs with _ hcs; injection hcs with h1 hcs; injection hcs with h2 _
    injection h1 with h1a h1b h1c; injection h2 with h2a h2b h2c
    subst h1a; subst h1b; subst h1c; subst h2a; subst h2b; subst h2c
    obtain ⟨b1, b2, b3⟩ := hb.bds
    unfold LIM at hq3; unfold maxLen at hq4
    have HQ1 := Sec.mk hq1; clear hq1
    have HN := Sec.mk hb.len
    have hgl := hW.lt
    have hmeets := meets_calls g m d hm (by omega) (w.alloc (.cells #[.bool x.list, .slice A n c, .slice B q q'] 25)) (hW.alloc _)
    by_cases c1 : 16 < d ∨ m = 4096
    · rw [if_pos c1] at HX
      rw [if_pos c1, if_pos c1] at hmeets
      have HM := Sec.mk hmeets; clear hmeets
      rw [HX]
      clear HX c1
      go_enter Try.func13, Try.ntmps13
      go_wp2_with fail
      ((with_reducible refine HM.out.mono ?_); rintro e w1 ⟨rfl, hW1, hK1⟩)
      go_wp2
      go_ret2
      exact ⟨rfl, hW1, ((Kb.refl _ _).alloc _).trans hK1⟩
    · rw [if_neg c1] at HX
      rw [if_neg c1, if_neg c1] at hmeets
      have HM := Sec.mk hmeets; clear hmeets
      have hbx : Blk (w.alloc (.cells #[.bool x.list, .slice A n c, .slice B q q'] 25)) w.heap.size 25 #[.bool x.list, .slice A n c, .slice B q q'] := Blk.new _ _ _
      have hne : w.heap.size ≠ g := by omega
      by_cases c2 : (x.list = true ∧ 0 < x.bytes.length) ∨ (x.list = false ∧ 0 < x.items.length)
      · rw [if_pos c2] at HX
        rw [HX]
        clear HX c1
        rcases c2 with ⟨hl, h0⟩ | ⟨hl, h0⟩
        · rw [hl] at hI HM hbx ⊢
          have h0' : 0 < (n : Int) := by rw [HN.out]; omega
          clear hl
          go_enter Try.func13, Try.ntmps13
          go_wp2_with fail
          ((with_reducible refine HM.out.mono ?_); rintro e w1 ⟨rfl, hW1, hK1⟩)
          have hb1 := hbx.kb hK1 hne
          have d0 := hb1.cell 0
          have d1 := hb1.cell 1
          have d2 := hb1.cell 2
          go_wp2
          go_ret2
          exact ⟨rfl, hW1, ((Kb.refl _ _).alloc _).trans hK1⟩
        · rw [hl] at hI HM hbx ⊢
          have h0' : 0 < (q : Int) := by rw [HQ1.out]; omega
          clear hl
          go_enter Try.func13, Try.ntmps13
          go_wp2_with fail
          ((with_reducible refine HM.out.mono ?_); rintro e w1 ⟨rfl, hW1, hK1⟩)
          have hb1 := hbx.kb hK1 hne
          have d0 := hb1.cell 0
          have d1 := hb1.cell 1
          have d2 := hb1.cell 2
          go_wp2
          go_ret2
          exact ⟨rfl, hW1, ((Kb.refl _ _).alloc _).trans hK1⟩
      · rw [if_neg c2] at HX
        by_cases c3 : ownB x.bytes = true
        · rw [if_pos c3] at HX
          rw [HX]
          have hl : x.list = false := by
            rcases hl : x.list with _ | _
            · rfl
            · exfalso
              have : 0 < x.bytes.length := by unfold ownB at c3; simp at c3; omega
              exact c2 (.inl ⟨hl, this⟩)
          have hq0 : ¬ 0 < (q : Int) := by
            rw [HQ1.out]; intro h; exact c2 (.inr ⟨hl, by omega⟩)
          rw [hl] at hI HM hbx ⊢
          clear HX c1 c2 hl
          go_enter Try.func13, Try.ntmps13
          go_wp2_with fail
          ((with_reducible refine HM.out.mono ?_); rintro e w1 ⟨rfl, hW1, hK1⟩)
          have hb1 := hbx.kb hK1 hne
          have d0 := hb1.cell 0
          have d1 := hb1.cell 1
          have d2 := hb1.cell 2
          have hbb : Bs (fun b => b ≠ g) w1 A n c x.bytes := (hb.alloc _).agree (hK1.agree fun _ h => h)
          go_wp2_with (go_at_call 18; (with_reducible refine (own_calls _ hbb).mono ?_); rintro e w2 ⟨rfl, rfl⟩)
          go_ret2
          exact ⟨rfl, hW1, ((Kb.refl _ _).alloc _).trans hK1⟩
        · rw [if_neg c3] at HX
          have hown : ownB x.bytes = false := by simpa using c3
          have hHX := Sec.mk HX
          have hc2 := Sec.mk c2
          have hd16 : d ≤ 16 := by omega
          have hm1 : m + 1 ≤ 4096 := by omega
          clear HX c1 c2 c3
          have hlist : (x.list = true ∧ n = 0) ∨ (x.list = false ∧ q = 0) := by
            rcases hl : x.list with _ | _
            · right; refine ⟨rfl, ?_⟩
              rcases Nat.eq_zero_or_pos q with h | h
              · exact h
              · exact absurd (.inr ⟨hl, by rw [← HQ1.out]; exact h⟩) hc2.out
            · left; refine ⟨rfl, ?_⟩
              rcases Nat.eq_zero_or_pos n with h | h
              · exact h
              · exact absurd (.inl ⟨hl, by rw [← HN.out]; exact h⟩) hc2.out
          have hlist' := Sec.mk hlist; clear hlist
          rcases hlist'.out with ⟨hl, h0⟩ | ⟨hl, h0⟩
          · have h0' := Int.ofNat_le.2 (Nat.le_of_eq h0)
            rw [hl] at hI HM hbx ⊢
            clear hl h0
            go_enter Try.func13, Try.ntmps13
            go_wp2_with fail
            ((with_reducible refine HM.out.mono ?_); rintro e w1 ⟨rfl, hW1, hK1⟩)
            have hb1 := hbx.kb hK1 hne
            have d0 := hb1.cell 0
            have d1 := hb1.cell 1
            have d2 := hb1.cell 2
            have hbb : Bs (fun b => b ≠ g) w1 A n c x.bytes := (hb.alloc _).agree (hK1.agree fun _ h => h)
            have hK0 : Kb g w w1 := ((Kb.refl _ _).alloc _).trans hK1
            go_wp2_with (go_at_call 18; (with_reducible refine (own_calls _ hbb).mono ?_); rintro e w2 ⟨rfl, rfl⟩)
            go_loopg [9, 48] q (fun r v9 v48 w' => ∃ (i nn mm : Nat), v9 = .int .i64 (nn : Int) ∧ v48 = .int .i64 (i : Int) ∧ i ≤ q ∧ q ≤ i + r ∧ Wk w' g mm ∧ Kb g w w' ∧ mm ≤ 4096 ∧
              Sec (sizeI.sizeL (x.items.drop i) (d + 1) nn mm = sizeI.sizeL x.items (d + 1) x.bytes.length (m + 1)) ∧ Sec (nn + wt.wts (x.items.drop i) ≤ wt x))
            case atStart => exact ⟨0, n, m + 1, rfl, rfl, by omega, by omega, hW1, hK0, by omega, ⟨by rw [← HN.out]; rfl⟩, ⟨by rw [wt_eq, HN.out]; simp only [List.drop_zero]; omega⟩⟩
            case round =>
              obtain ⟨i, nn, mm, rfl, rfl, hi, hr, hW', hK', hmm, hs, hwt⟩ := hrel
              by_cases hlt : i < q
              · obtain ⟨y, hy⟩ : ∃ y, x.items[i]? = some y := ⟨x.items[i]'(by rw [← HQ1.out]; exact hlt), by simp⟩
                obtain ⟨ad, A2, n2, c2, B2, m2, e2, rfl, hS, k0, k1, k2, hy2⟩ := (ItsR.agree (hK'.agree fun _ h => h) his).at hy
                have hyw : wt y < wt x := wt_get hy
                have hdr : Sec (x.items.drop i = y :: x.items.drop (i + 1)) := ⟨by
                  rw [List.getElem?_eq_some_iff] at hy
                  obtain ⟨hi', rfl⟩ := hy
                  exact List.drop_eq_getElem_cons hi'⟩
                clear hy
                have hyb := sizeI_bd y (d + 1) mm (by have := hx.out; omega) hmm
                have hcall := IH.out y (by omega) ⟨by have := hx.out; omega⟩ (wr.alloc (.cells #[.bool y.list, .slice A2 n2 c2, .slice B2 m2 e2] 25)) g mm (d + 1) ((d : Int) + 1) A2 n2 c2 B2 m2 e2 (by omega) hmm (by omega) (hW'.alloc _) (hy2.alloc _)
                have hs2 := hs.out
                rw [hdr.out, sizeL_cons] at hs2
                have hw2 := hwt.out
                rw [hdr.out, wt.wts] at hw2
                have hx5 := hx.out
                generalize sizeI y (d + 1) mm = R at hcall hs2 hyb
                obtain ⟨s, er, m'⟩ := R
                have HC := Sec.mk hcall; clear hcall
                dsimp only at hyb
                obtain ⟨hyb1, hyb2⟩ := hyb
                have hnn : nn + s < 1099511627776 := by omega
                clear hx5
                by_cases her : er = 0
                · subst her
                  rw [if_neg (by simp)] at hs2
                  have HS2 := Sec.mk hs2; clear hs2
                  have HW2 := Sec.mk hw2; clear hw2
                  go_wp2_with fail
                  ((with_reducible refine HC.out.mono ?_); rintro e w2 ⟨rfl, hW2, hK2⟩)
                  go_wp2
                  go_roundg (gk - 1)
                  case measure => omega
                  case rel => exact ⟨i + 1, nn + s, m', by go_num, by go_num, by omega, by omega, hW2, (hK'.alloc _).trans hK2, hyb2, HS2, ⟨by have := HW2.out; omega⟩⟩
                · rw [if_pos her] at hs2
                  have her' : ((er : Int) != 0) = true := by simp; exact her
                  have HS2 := Sec.mk hs2; clear hs2
                  go_wp2_with fail
                  ((with_reducible refine HC.out.mono ?_); rintro e w2 ⟨rfl, hW2, hK2⟩)
                  go_wp2
                  go_ret2
                  have e1 := hHX.out
                  rw [← HS2.out, if_pos her] at e1
                  rw [e1]
                  exact ⟨rfl, hW2, (hK'.alloc _).trans hK2⟩
              · have hiq : i = q := by omega
                subst hiq
                have hs2 := hs.out
                have hdr : x.items.drop i = [] := List.drop_eq_nil_of_le (by rw [← HQ1.out]; exact Nat.le_refl _)
                have hw2 := hwt.out
                rw [hdr] at hs2 hw2
                rw [sizeI.sizeL] at hs2
                have HS2 := Sec.mk hs2; clear hs2
                clear hdr
                have hx5 := hx.out
                have hnn : nn ≤ 1099511627776 := by omega
                have hh9 := headB_le (n := nn) (base := 0) (by omega)
                clear hx5 hw2
                go_wp2_with fail
                ((with_reducible refine (head_calls nn 0 0 rfl hnn (by omega) _).mono ?_); rintro e w2 ⟨A3, k3, c3, rfl, ho3, hb3⟩)
                have hk3 := Sec.mk ho3.len
                have hk9 : k3 ≤ 9 := by rw [hk3.out]; exact hh9
                go_wp2
                go_ret2
                have e1 := hHX.out
                rw [← HS2.out, if_neg (by simp)] at e1
                rw [e1]
                refine ⟨?_, ?_, ?_⟩
                · simp only [← hk3.out]; rfl
                · exact hW'.below hb3
                · exact hK'.trans (Kb.of_below hb3)
          · have h0' := Int.ofNat_le.2 (Nat.le_of_eq h0)
            rw [hl] at hI HM hbx ⊢
            clear hl h0
            go_enter Try.func13, Try.ntmps13
            go_wp2_with fail
            ((with_reducible refine HM.out.mono ?_); rintro e w1 ⟨rfl, hW1, hK1⟩)
            have hb1 := hbx.kb hK1 hne
            have d0 := hb1.cell 0
            have d1 := hb1.cell 1
            have d2 := hb1.cell 2
            have hbb : Bs (fun b => b ≠ g) w1 A n c x.bytes := (hb.alloc _).agree (hK1.agree fun _ h => h)
            have hK0 : Kb g w w1 := ((Kb.refl _ _).alloc _).trans hK1
            go_wp2_with (go_at_call 18; (with_reducible refine (own_calls _ hbb).mono ?_); rintro e w2 ⟨rfl, rfl⟩)
            go_loopg [9, 48] q (fun r v9 v48 w' => ∃ (i nn mm : Nat), v9 = .int .i64 (nn : Int) ∧ v48 = .int .i64 (i : Int) ∧ i ≤ q ∧ q ≤ i + r ∧ Wk w' g mm ∧ Kb g w w' ∧ mm ≤ 4096 ∧
              Sec (sizeI.sizeL (x.items.drop i) (d + 1) nn mm = sizeI.sizeL x.items (d + 1) x.bytes.length (m + 1)) ∧ Sec (nn + wt.wts (x.items.drop i) ≤ wt x))
            case atStart => exact ⟨0, n, m + 1, rfl, rfl, by omega, by omega, hW1, hK0, by omega, ⟨by rw [← HN.out]; rfl⟩, ⟨by rw [wt_eq, HN.out]; simp only [List.drop_zero]; omega⟩⟩
            case round =>
              obtain ⟨i, nn, mm, rfl, rfl, hi, hr, hW', hK', hmm, hs, hwt⟩ := hrel
              by_cases hlt : i < q
              · exact absurd hlt (by omega)
              · have hiq : i = q := by omega
                subst hiq
                have hs2 := hs.out
                have hdr : x.items.drop i = [] := List.drop_eq_nil_of_le (by rw [← HQ1.out]; exact Nat.le_refl _)
                have hw2 := hwt.out
                rw [hdr] at hs2 hw2
                rw [sizeI.sizeL] at hs2
                have HS2 := Sec.mk hs2; clear hs2
                clear hdr
                have hx5 := hx.out
                have hnn : nn ≤ 1099511627776 := by omega
                have hh9 := headB_le (n := nn) (base := 0) (by omega)
                clear hx5 hw2
                go_wp2_with fail
                ((with_reducible refine (head_calls nn 0 0 rfl hnn (by omega) _).mono ?_); rintro e w2 ⟨A3, k3, c3, rfl, ho3, hb3⟩)
                have hk3 := Sec.mk ho3.len
                have hk9 : k3 ≤ 9 := by rw [hk3.out]; exact hh9
                go_wp2
                go_ret2
                have e1 := hHX.out
                rw [← HS2.out, if_neg (by simp)] at e1
                rw [e1]
                refine ⟨?_, ?_, ?_⟩
                · simp only [← hk3.out]; rfl
                · exact hW'.below hb3
                · exact hK'.trans (Kb.of_below hb3)
end Go.Proofs.Ytlpmnhnlhleogaa
