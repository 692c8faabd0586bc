/- An item read off its bytes: the walk of first. -/
import Derived.Test.YtlpmnhnlhleogaaWd
namespace Go.Proofs.Ytlpmnhnlhleogaa
open Go.RowKit Go.Mo
set_option linter.unusedVariables false
set_option linter.unusedSimpArgs false

theorem info25 : (Try.prog.info? 25).map (·.size) = some 3 := by kernel_rfl
theorem info25' : (Try.prog.info? 25).map (fun i => (i.zero, i.size, i.bytes)) = some (some (.agg #[.bool false, .slice none 0 0, .slice none 0 0]), 3, 56) := by kernel_rfl

/-- What first tells, in memory. -/
def FirstPost (w : World) (g : Nat) (r : It × Nat × Nat × Nat) (e : Ending) (w' : World) : Prop :=
  ∃ A1 n1 c1 B1 q1 q1', e = .returned (.tuple #[.agg #[.bool r.1.list, .slice A1 n1 c1, .slice B1 q1 q1'], .int .i64 (r.2.1 : Int), .int .i64 (r.2.2.1 : Int)]) ∧
    ItR (fun k => w.heap.size ≤ k) w' r.1 [.bool r.1.list, .slice A1 n1 c1, .slice B1 q1 q1'] ∧ Wk w' g r.2.2.2 ∧ Kb g w w'

theorem ItR_zero (S : Nat → Prop) (w : World) : ItR S w It0 [.bool It0.list, .slice none 0 0, .slice none 0 0] :=
  ItR.of_parts (x := It0) (Bs.empty _ _) rfl (Nat.le_refl _) (Nat.zero_le _) (Nat.zero_le _) (by unfold It0 It.items ItsR; trivial)

theorem kb_then_new {g : Nat} {w w1 w2 : World} (hK : Kb g w w1) (hK2 : Kb w.heap.size w1 w2) : Kb g w w2 :=
  hK.then_below (hK2.below (B := w.heap.size) (Below.refl _ _) (Nat.le_refl _) hK.size) (Nat.le_refl _)
theorem firstPost_zero {w w1 w2 : World} {g mm : Nat} {er : Nat} (ER : Int) (hE : ER = (er : Int)) (hg : g < w.heap.size) (hW : Wk w1 g mm) (hK : Kb g w w1) (hK2 : Kb w.heap.size w1 w2) :
    FirstPost w g (It0, 0, er, mm) (.returned (.tuple #[.agg #[.bool false, .slice none 0 0, .slice none 0 0], .int .i64 0, .int .i64 ER])) w2 := by
  subst hE
  refine ⟨_, _, _, _, _, _, rfl, ItR_zero _ _, hW.kb hK2 (by omega), ?_⟩
  exact hK.then_below (hK2.below (B := w.heap.size) (Below.refl _ _) (Nat.le_refl _) hK.size) (Nat.le_refl _)

set_option maxHeartbeats 4000000 in
set_option maxRecDepth 100000 in
theorem first_calls (f : Nat) : ∀ (w : World) (g m d : Nat) (D : Int) (A : Option Addr) (n c : Nat) (b : List UInt8), D = (d : Int) → f + d = 17 → m ≤ 4096 → n ≤ 65536 → Wk w g m → Bs (fun k => k ≠ g) w A n c b →
    Calls Try.prog 15 #[.pointer (some ⟨g, 0, none⟩), .slice A n c, .int .i64 D] w (FirstPost w g (firstI f b m)) := by
  induction f with
  | zero =>
    intro w g m d D A n c b hD hfd hm hn hW hb
    subst hD
    obtain ⟨b1, b2, b3⟩ := hb.bds
    have hlen := Sec.mk hb.len
    have hgl := hW.lt
    have hR0 := Blk.new w 25 #[.bool false, .slice none 0 0, .slice none 0 0]
    have hK0 : Kb g w (w.alloc (.cells #[.bool false, .slice none 0 0, .slice none 0 0] 25)) := (Kb.refl _ _).alloc _
    have hW0 : Wk (w.alloc (.cells #[.bool false, .slice none 0 0, .slice none 0 0] 25)) g m := hW.alloc _
    have hne : w.heap.size ≠ g := by omega
    by_cases hn0 : n = 0
    · subst hn0
      have hbn : b = [] := List.eq_nil_of_length_eq_zero hlen.out.symm
      have HE := Sec.mk (show firstI 0 b m = (It0, 0, 41, m) from by rw [firstI, if_pos hbn])
      go_enter Try.func15, Try.ntmps15
      go_wp2_with ((with_reducible refine gate (.store 25 (.tmp 6) (.tmp 21)) rfl ?_); go_loud (refine wpList_store_blk rfl 25 (.tmp 6) (.tmp 21) rfl _ 25 _ _ rfl rfl hR0 rfl info25 rfl ?_); intro w2 hR2 hK2 hz2)
      refine bodyPost_cell2 Try.results15 rfl hR2 Try.underlying25 rfl info25 rfl ?_
      rw [HE.out]
      exact firstPost_zero 41 rfl hgl hW0 hK0 hK2
    · have hbn : b ≠ [] := fun e => hn0 (by rw [hlen.out, e]; rfl)
      have hn0' : ((n : Int) == 0) = false := by simp; omega
      have hM := Sec.mk (meets_calls g m d hm (by omega) (w.alloc (.cells #[.bool false, .slice none 0 0, .slice none 0 0] 25)) hW0)
      have HE := Sec.mk (show firstI 0 b m = (It0, 0, 43, m) from by rw [firstI, if_neg hbn])
      have hM' := hM.out
      rw [if_pos (.inl (by omega)), if_pos (.inl (by omega))] at hM'
      have HM := Sec.mk hM'; clear hM' hM
      go_enter Try.func15, Try.ntmps15
      go_wp2_with fail
      ((with_reducible refine HM.out.mono ?_); rintro e w1 ⟨rfl, hW1, hK1⟩)
      have hR1 := hR0.kb hK1 hne
      go_wp2_with ((with_reducible refine gate (.store 25 (.tmp 6) (.tmp 27)) rfl ?_); go_loud (refine wpList_store_blk rfl 25 (.tmp 6) (.tmp 27) rfl _ 25 _ _ rfl rfl hR1 rfl info25 rfl ?_); intro w2 hR2 hK2 hz2)
      refine bodyPost_cell2 Try.results15 rfl hR2 Try.underlying25 rfl info25 rfl ?_
      rw [HE.out]
      exact firstPost_zero 43 rfl hgl hW1 (hK0.trans hK1) hK2
  | succ f ih =>
    intro w g m d D A n c b hD hfd hm hn hW hb
    subst hD
    have IH := Sec.mk ih; clear ih
    obtain ⟨b1, b2, b3⟩ := hb.bds
    have hlen := Sec.mk hb.len
    have hgl := hW.lt
    have hR0 := Blk.new w 25 #[.bool false, .slice none 0 0, .slice none 0 0]
    have hK0 : Kb g w (w.alloc (.cells #[.bool false, .slice none 0 0, .slice none 0 0] 25)) := (Kb.refl _ _).alloc _
    have hW0 : Wk (w.alloc (.cells #[.bool false, .slice none 0 0, .slice none 0 0] 25)) g m := hW.alloc _
    have hne : w.heap.size ≠ g := by omega
    by_cases hn0 : n = 0
    · subst hn0
      have hbn : b = [] := List.eq_nil_of_length_eq_zero hlen.out.symm
      have HE := Sec.mk (show firstI (f + 1) b m = (It0, 0, 41, m) from by rw [firstI, if_pos hbn])
      go_enter Try.func15, Try.ntmps15
      go_wp2_with ((with_reducible refine gate (.store 25 (.tmp 6) (.tmp 21)) rfl ?_); go_loud (refine wpList_store_blk rfl 25 (.tmp 6) (.tmp 21) rfl _ 25 _ _ rfl rfl hR0 rfl info25 rfl ?_); intro w2 hR2 hK2 hz2)
      refine bodyPost_cell2 Try.results15 rfl hR2 Try.underlying25 rfl info25 rfl ?_
      rw [HE.out]
      exact firstPost_zero 41 rfl hgl hW0 hK0 hK2
    · have hbn : b ≠ [] := fun e => hn0 (by rw [hlen.out, e]; rfl)
      have hn0' : ((n : Int) == 0) = false := by simp; omega
      have hM := Sec.mk (meets_calls g m d hm (by omega) (w.alloc (.cells #[.bool false, .slice none 0 0, .slice none 0 0] 25)) hW0)
      by_cases hm4 : m = 4096
      · have HE := Sec.mk (show firstI (f + 1) b m = (It0, 0, 43, m) from by rw [firstI, if_neg hbn, if_pos hm4])
        have hM' := hM.out
        rw [if_pos (.inr hm4), if_pos (.inr hm4)] at hM'
        have HM := Sec.mk hM'; clear hM' hM
        go_enter Try.func15, Try.ntmps15
        go_wp2_with fail
        ((with_reducible refine HM.out.mono ?_); rintro e w1 ⟨rfl, hW1, hK1⟩)
        have hR1 := hR0.kb hK1 hne
        go_wp2_with ((with_reducible refine gate (.store 25 (.tmp 6) (.tmp 27)) rfl ?_); go_loud (refine wpList_store_blk rfl 25 (.tmp 6) (.tmp 27) rfl _ 25 _ _ rfl rfl hR1 rfl info25 rfl ?_); intro w2 hR2 hK2 hz2)
        refine bodyPost_cell2 Try.results15 rfl hR2 Try.underlying25 rfl info25 rfl ?_
        rw [HE.out]
        exact firstPost_zero 43 rfl hgl hW1 (hK0.trans hK1) hK2
      · have hfm : ¬ (16 < d ∨ m = 4096) := by omega
        have hM' := hM.out
        rw [if_neg hfm, if_neg hfm] at hM'
        have HM := Sec.mk hM'; clear hM' hM hfm
        generalize hfi : firstI (f + 1) b m = r
        rw [firstI, if_neg hbn, if_neg hm4] at hfi
        have hro := readsI_ok hbn
        have hrc : ∀ w1, Bs (fun k => k ≠ g) w1 A n c b → Calls Try.prog 21 #[.slice A n c] w1 fun e w' => e = .returned (.tuple #[hdV (readsI b), .int .i64 ((readsI b).err : Int)]) ∧ Below w1.heap.size w1 w' := fun w1 h => reads_calls w1 h (by omega)
        generalize readsI b = h at hfi hro hrc
        obtain ⟨hl, ha, hk, ho, he⟩ := h
        dsimp only at hfi hro
        obtain ⟨hr1, hr1', hr2, hr3, hr4⟩ := hro
        have hr3' := Sec.mk hr3; clear hr3
        have hr4' := Sec.mk hr4; clear hr4
        have hrn : ha ≤ n := by rw [hlen.out]; exact hr1
        have hm1 : m + 1 ≤ 4096 := by omega
        clear hr1 hm4
        have hHF := Sec.mk hfi; clear hfi
        have HRC := Sec.mk hrc; clear hrc
        by_cases c1 : he ≠ 0
        · have HE := hHF.out
          rw [if_pos c1] at HE
          have HE' := Sec.mk HE; clear HE
          have c1' : ((he : Int) != 0) = true := by simp; exact c1
          clear c1
          go_enter Try.func15, Try.ntmps15
          go_wp2_with fail
          ((with_reducible refine HM.out.mono ?_); rintro e w1 ⟨rfl, hW1, hK1⟩)
          have hR1 := hR0.kb hK1 hne
          have hK01 := hK0.trans hK1
          have hb1 := hb.agree (hK01.agree fun _ h => h)
          go_wp2_with fail
          ((with_reducible refine (HRC.out _ hb1).mono ?_); rintro e w2 ⟨rfl, hB2⟩)
          have hR2 := (hR1.below hB2).alloc (.cells #[.bool hl, .int .i64 (ha : Int), .int .i64 (hk : Int), .bool ho, .bool false] 51)
          have hW2 : Wk (w2.alloc (.cells #[.bool hl, .int .i64 (ha : Int), .int .i64 (hk : Int), .bool ho, .bool false] 51)) g (m + 1) := (hW1.below hB2).alloc _
          have hK2 := (hK01.trans (Kb.of_below hB2)).alloc (.cells #[.bool hl, .int .i64 (ha : Int), .int .i64 (hk : Int), .bool ho, .bool false] 51)
          unfold hdV
          go_wp2_with ((with_reducible refine gate (.store 25 (.tmp 6) (.tmp 37)) rfl ?_); go_loud (refine wpList_store_blk rfl 25 (.tmp 6) (.tmp 37) rfl _ 25 _ _ rfl rfl hR2 rfl info25 rfl ?_); intro w3 hR3 hK3 hz3)
          refine bodyPost_cell2 Try.results15 rfl hR3 Try.underlying25 rfl info25 rfl ?_
          rw [← HE'.out]
          exact firstPost_zero _ rfl hgl hW2 hK2 hK3
        · have he0 : he = 0 := by omega
          subst he0
          clear c1
          have HE := hHF.out
          rw [if_neg (by simp)] at HE
          clear hHF
          by_cases c2 : n < ha + hk
          · rw [if_pos (by rw [← hlen.out]; exact c2)] at HE
            have HE' := Sec.mk HE; clear HE
            have c2' : (n : Int) - (ha : Int) < (hk : Int) := by omega
            clear c2
            go_enter Try.func15, Try.ntmps15
            go_wp2_with fail
            ((with_reducible refine HM.out.mono ?_); rintro e w1 ⟨rfl, hW1, hK1⟩)
            have hR1 := hR0.kb hK1 hne
            have hK01 := hK0.trans hK1
            have hb1 := hb.agree (hK01.agree fun _ h => h)
            go_wp2_with fail
            ((with_reducible refine (HRC.out _ hb1).mono ?_); rintro e w2 ⟨rfl, hB2⟩)
            have hR2 := (hR1.below hB2).alloc (.cells #[.bool hl, .int .i64 (ha : Int), .int .i64 (hk : Int), .bool ho, .bool false] 51)
            have hW2 : Wk (w2.alloc (.cells #[.bool hl, .int .i64 (ha : Int), .int .i64 (hk : Int), .bool ho, .bool false] 51)) g (m + 1) := (hW1.below hB2).alloc _
            have hK2 := (hK01.trans (Kb.of_below hB2)).alloc (.cells #[.bool hl, .int .i64 (ha : Int), .int .i64 (hk : Int), .bool ho, .bool false] 51)
            have hH2 : Blk (w2.alloc (.cells #[.bool hl, .int .i64 (ha : Int), .int .i64 (hk : Int), .bool ho, .bool false] 51)) w2.heap.size 51 #[.bool hl, .int .i64 (ha : Int), .int .i64 (hk : Int), .bool ho, .bool false] := Blk.new _ _ _
            have hgW : w2.heap.size ≠ w.heap.size := by have := hB2.size; have := hR1.lt; omega
            have hgg : w2.heap.size ≠ g := by have := hB2.size; have := hR1.lt; omega
            have hsz3 : w.heap.size ≤ (w2.alloc (.cells #[.bool hl, .int .i64 (ha : Int), .int .i64 (hk : Int), .bool ho, .bool false] 51)).heap.size := hK2.size
            unfold hdV
            go_wp2_with ((with_reducible refine gate (.store 25 (.tmp 6) (.tmp 48)) rfl ?_); go_loud (refine wpList_store_blk rfl 25 (.tmp 6) (.tmp 48) rfl _ 25 _ _ rfl rfl hR2 rfl info25 rfl ?_); intro w3 hR3 hK3 hz3)
            refine bodyPost_cell2 Try.results15 rfl hR3 Try.underlying25 rfl info25 rfl ?_
            rw [← HE'.out]
            exact firstPost_zero 41 rfl hgl hW2 hK2 hK3
          · rw [if_neg (by rw [← hlen.out]; exact c2)] at HE
            have c2' : (ha : Int) + (hk : Int) ≤ (n : Int) := by omega
            have c2n : ¬ ((n : Int) - (ha : Int) < (hk : Int)) := by omega
            obtain ⟨A', hcut, hcb⟩ := bcut_lh (P := Try.prog) 22 .i64 .i64 Try.underlying22 info5 A n c (ha : Int) ((ha : Int) + (hk : Int)) ha (ha + hk) rfl (by omega) (by omega) (by omega) b2
            rw [Nat.add_sub_cancel_left] at hcut hcb
            clear c2
            have hi := hcb _ _ _ hb
            generalize (b.drop ha).take hk = i at HE hi
            clear hcb
            cases hl with
            | false =>
              rw [if_neg (by simp)] at HE
              clear hr3' hr4'
              cases ho with
              | true =>
                rw [if_neg (by simp)] at HE
                have HE' := Sec.mk HE; clear HE
                go_enter Try.func15, Try.ntmps15
                go_wp2_with fail
                ((with_reducible refine HM.out.mono ?_); rintro e w1 ⟨rfl, hW1, hK1⟩)
                have hR1 := hR0.kb hK1 hne
                have hK01 := hK0.trans hK1
                have hb1 := hb.agree (hK01.agree fun _ h => h)
                go_wp2_with fail
                ((with_reducible refine (HRC.out _ hb1).mono ?_); rintro e w2 ⟨rfl, hB2⟩)
                have hR2 := (hR1.below hB2).alloc (.cells #[.bool false, .int .i64 (ha : Int), .int .i64 (hk : Int), .bool true, .bool false] 51)
                have hW2 : Wk (w2.alloc (.cells #[.bool false, .int .i64 (ha : Int), .int .i64 (hk : Int), .bool true, .bool false] 51)) g (m + 1) := (hW1.below hB2).alloc _
                have hK2 := (hK01.trans (Kb.of_below hB2)).alloc (.cells #[.bool false, .int .i64 (ha : Int), .int .i64 (hk : Int), .bool true, .bool false] 51)
                have hH2 : Blk (w2.alloc (.cells #[.bool false, .int .i64 (ha : Int), .int .i64 (hk : Int), .bool true, .bool false] 51)) w2.heap.size 51 #[.bool false, .int .i64 (ha : Int), .int .i64 (hk : Int), .bool true, .bool false] := Blk.new _ _ _
                have hgW : w2.heap.size ≠ w.heap.size := by have := hB2.size; have := hR1.lt; omega
                have hgg : w2.heap.size ≠ g := by have := hB2.size; have := hR1.lt; omega
                have hsz3 : w.heap.size ≤ (w2.alloc (.cells #[.bool false, .int .i64 (ha : Int), .int .i64 (hk : Int), .bool true, .bool false] 51)).heap.size := hK2.size
                have hi2 := hi.agree (hK2.agree fun _ h => h)
                unfold hdV
                go_wp2_with (first | ((go_at_call 20; (with_reducible refine (Clone_calls _ hi2).mono ?_); rintro e w4 ⟨A4, c4, rfl, ho4, hb4⟩)) | ((with_reducible refine gate (.store 25 (.tmp 6) (.tmp 76)) rfl ?_); go_loud (refine wpList_store_blk rfl 25 (.tmp 6) (.tmp 76) rfl _ 25 _ _ rfl rfl (hR2.below hb4) rfl info25 rfl ?_); intro w3 hR3 hK3 hz3))
                refine bodyPost_cell2 Try.results15 rfl hR3 Try.underlying25 rfl info25 rfl ?_
                rw [← HE'.out]
                refine ⟨_, _, _, _, _, _, by simp only [It.list]; rfl, ItR.of_parts (x := .mk false i []) ((ho4.bs.agree (hK3.agree fun k h => by have := hR2.lt; omega)).mono fun k h => by have := hR2.lt; omega) rfl (Nat.le_refl _) (Nat.zero_le _) (Nat.zero_le _) (by unfold It.items ItsR; trivial), (hW2.below hb4).kb hK3 (by omega), kb_then_new (hK2.trans (Kb.of_below hb4)) hK3⟩
              | false =>
                by_cases c3 : ownB i = true
                · rw [if_pos (by simp [c3])] at HE
                  have HE' := Sec.mk HE; clear HE
                  go_enter Try.func15, Try.ntmps15
                  go_wp2_with fail
                  ((with_reducible refine HM.out.mono ?_); rintro e w1 ⟨rfl, hW1, hK1⟩)
                  have hR1 := hR0.kb hK1 hne
                  have hK01 := hK0.trans hK1
                  have hb1 := hb.agree (hK01.agree fun _ h => h)
                  go_wp2_with fail
                  ((with_reducible refine (HRC.out _ hb1).mono ?_); rintro e w2 ⟨rfl, hB2⟩)
                  have hR2 := (hR1.below hB2).alloc (.cells #[.bool false, .int .i64 (ha : Int), .int .i64 (hk : Int), .bool false, .bool false] 51)
                  have hW2 : Wk (w2.alloc (.cells #[.bool false, .int .i64 (ha : Int), .int .i64 (hk : Int), .bool false, .bool false] 51)) g (m + 1) := (hW1.below hB2).alloc _
                  have hK2 := (hK01.trans (Kb.of_below hB2)).alloc (.cells #[.bool false, .int .i64 (ha : Int), .int .i64 (hk : Int), .bool false, .bool false] 51)
                  have hH2 : Blk (w2.alloc (.cells #[.bool false, .int .i64 (ha : Int), .int .i64 (hk : Int), .bool false, .bool false] 51)) w2.heap.size 51 #[.bool false, .int .i64 (ha : Int), .int .i64 (hk : Int), .bool false, .bool false] := Blk.new _ _ _
                  have hgW : w2.heap.size ≠ w.heap.size := by have := hB2.size; have := hR1.lt; omega
                  have hgg : w2.heap.size ≠ g := by have := hB2.size; have := hR1.lt; omega
                  have hsz3 : w.heap.size ≤ (w2.alloc (.cells #[.bool false, .int .i64 (ha : Int), .int .i64 (hk : Int), .bool false, .bool false] 51)).heap.size := hK2.size
                  have hi2 := hi.agree (hK2.agree fun _ h => h)
                  unfold hdV
                  go_wp2_with (first | ((go_at_call 18; (with_reducible refine (own_calls _ hi2).mono ?_); rintro e w4 ⟨rfl, rfl⟩)) | ((with_reducible refine gate (.store 25 (.tmp 6) (.tmp 73)) rfl ?_); go_loud (refine wpList_store_blk rfl 25 (.tmp 6) (.tmp 73) rfl _ 25 _ _ rfl rfl hR2 rfl info25 rfl ?_); intro w3 hR3 hK3 hz3))
                  refine bodyPost_cell2 Try.results15 rfl hR3 Try.underlying25 rfl info25 rfl ?_
                  rw [← HE'.out]
                  exact firstPost_zero 40 rfl hgl hW2 hK2 hK3
                · rw [if_neg (by simp [c3])] at HE
                  have c3' : ownB i = false := by simpa using c3
                  clear c3
                  have HE' := Sec.mk HE; clear HE
                  go_enter Try.func15, Try.ntmps15
                  go_wp2_with fail
                  ((with_reducible refine HM.out.mono ?_); rintro e w1 ⟨rfl, hW1, hK1⟩)
                  have hR1 := hR0.kb hK1 hne
                  have hK01 := hK0.trans hK1
                  have hb1 := hb.agree (hK01.agree fun _ h => h)
                  go_wp2_with fail
                  ((with_reducible refine (HRC.out _ hb1).mono ?_); rintro e w2 ⟨rfl, hB2⟩)
                  have hR2 := (hR1.below hB2).alloc (.cells #[.bool false, .int .i64 (ha : Int), .int .i64 (hk : Int), .bool false, .bool false] 51)
                  have hW2 : Wk (w2.alloc (.cells #[.bool false, .int .i64 (ha : Int), .int .i64 (hk : Int), .bool false, .bool false] 51)) g (m + 1) := (hW1.below hB2).alloc _
                  have hK2 := (hK01.trans (Kb.of_below hB2)).alloc (.cells #[.bool false, .int .i64 (ha : Int), .int .i64 (hk : Int), .bool false, .bool false] 51)
                  have hH2 : Blk (w2.alloc (.cells #[.bool false, .int .i64 (ha : Int), .int .i64 (hk : Int), .bool false, .bool false] 51)) w2.heap.size 51 #[.bool false, .int .i64 (ha : Int), .int .i64 (hk : Int), .bool false, .bool false] := Blk.new _ _ _
                  have hgW : w2.heap.size ≠ w.heap.size := by have := hB2.size; have := hR1.lt; omega
                  have hgg : w2.heap.size ≠ g := by have := hB2.size; have := hR1.lt; omega
                  have hsz3 : w.heap.size ≤ (w2.alloc (.cells #[.bool false, .int .i64 (ha : Int), .int .i64 (hk : Int), .bool false, .bool false] 51)).heap.size := hK2.size
                  have hi2 := hi.agree (hK2.agree fun _ h => h)
                  unfold hdV
                  go_wp2_with (first | ((go_at_call 18; (with_reducible refine (own_calls _ hi2).mono ?_); rintro e w4 ⟨rfl, rfl⟩)) | ((go_at_call 20; (with_reducible refine (Clone_calls _ hi2).mono ?_); rintro e w4 ⟨A4, c4, rfl, ho4, hb4⟩)) | ((with_reducible refine gate (.store 25 (.tmp 6) (.tmp 76)) rfl ?_); go_loud (refine wpList_store_blk rfl 25 (.tmp 6) (.tmp 76) rfl _ 25 _ _ rfl rfl (hR2.below hb4) rfl info25 rfl ?_); intro w3 hR3 hK3 hz3))
                  refine bodyPost_cell2 Try.results15 rfl hR3 Try.underlying25 rfl info25 rfl ?_
                  rw [← HE'.out]
                  refine ⟨_, _, _, _, _, _, by simp only [It.list]; rfl, ItR.of_parts (x := .mk false i []) ((ho4.bs.agree (hK3.agree fun k h => by have := hR2.lt; omega)).mono fun k h => by have := hR2.lt; omega) rfl (Nat.le_refl _) (Nat.zero_le _) (Nat.zero_le _) (by unfold It.items ItsR; trivial), (hW2.below hb4).kb hK3 (by omega), kb_then_new (hK2.trans (Kb.of_below hb4)) hK3⟩
            | true =>
              rw [if_pos rfl] at HE
              clear hr3' hr4'
              have hFm := firstI_m f
              have HE' := Sec.mk HE; clear HE
              go_enter Try.func15, Try.ntmps15
              go_wp2_with fail
              ((with_reducible refine HM.out.mono ?_); rintro e w1 ⟨rfl, hW1, hK1⟩)
              have hR1 := hR0.kb hK1 hne
              have hK01 := hK0.trans hK1
              have hb1 := hb.agree (hK01.agree fun _ h => h)
              go_wp2_with fail
              ((with_reducible refine (HRC.out _ hb1).mono ?_); rintro e w2 ⟨rfl, hB2⟩)
              have hR2 := (hR1.below hB2).alloc (.cells #[.bool true, .int .i64 (ha : Int), .int .i64 (hk : Int), .bool ho, .bool false] 51)
              have hW2 : Wk (w2.alloc (.cells #[.bool true, .int .i64 (ha : Int), .int .i64 (hk : Int), .bool ho, .bool false] 51)) g (m + 1) := (hW1.below hB2).alloc _
              have hK2 := (hK01.trans (Kb.of_below hB2)).alloc (.cells #[.bool true, .int .i64 (ha : Int), .int .i64 (hk : Int), .bool ho, .bool false] 51)
              have hH2 : Blk (w2.alloc (.cells #[.bool true, .int .i64 (ha : Int), .int .i64 (hk : Int), .bool ho, .bool false] 51)) w2.heap.size 51 #[.bool true, .int .i64 (ha : Int), .int .i64 (hk : Int), .bool ho, .bool false] := Blk.new _ _ _
              have hgW : w2.heap.size ≠ w.heap.size := by have := hB2.size; have := hR1.lt; omega
              have hgg : w2.heap.size ≠ g := by have := hB2.size; have := hR1.lt; omega
              have hsz3 : w.heap.size ≤ (w2.alloc (.cells #[.bool true, .int .i64 (ha : Int), .int .i64 (hk : Int), .bool ho, .bool false] 51)).heap.size := hK2.size
              have hX3 := Blk.new (w2.alloc (.cells #[.bool true, .int .i64 (ha : Int), .int .i64 (hk : Int), .bool ho, .bool false] 51)) 25 #[.bool true, .slice none 0 0, .slice none 0 0]
              have hR3 := hR2.alloc (.cells #[.bool true, .slice none 0 0, .slice none 0 0] 25)
              have hW3 : Wk ((w2.alloc (.cells #[.bool true, .int .i64 (ha : Int), .int .i64 (hk : Int), .bool ho, .bool false] 51)).alloc (.cells #[.bool true, .slice none 0 0, .slice none 0 0] 25)) g (m + 1) := Blk.alloc hW2 _
              have hK3 := hK2.alloc (.cells #[.bool true, .slice none 0 0, .slice none 0 0] 25)
              have hgx : w.heap.size < (w2.alloc (.cells #[.bool true, .int .i64 (ha : Int), .int .i64 (hk : Int), .bool ho, .bool false] 51)).heap.size := hR2.lt
              unfold hdV
              go_wp2
              generalize ((w2.alloc (.cells #[.bool true, .int .i64 (ha : Int), .int .i64 (hk : Int), .bool ho, .bool false] 51)).alloc (.cells #[.bool true, .slice none 0 0, .slice none 0 0] 25)) = W at hX3 hR3 hW3 hK3 ⊢
              have hgx1 : (w2.alloc (.cells #[.bool true, .int .i64 (ha : Int), .int .i64 (hk : Int), .bool ho, .bool false] 51)).heap.size < W.heap.size := hX3.lt
              have hgxe : (w2.alloc (.cells #[.bool true, .int .i64 (ha : Int), .int .i64 (hk : Int), .bool ho, .bool false] 51)).heap.size = w2.heap.size + 1 := by simp
              rw [hgxe] at hX3 hgx hgx1
              clear hgxe
              go_loopg [12] hk (fun r v12 w' => ∃ (A2 : Option Addr) (n2 c2 : Nat) (bb : List UInt8) (fu : Nat) (B : Option Addr) (q q' : Nat) (xs : List Value) (is : List It) (mm : Nat),
                v12 = .slice A2 n2 c2 ∧ n2 ≤ r ∧ q + n2 ≤ 65536 ∧ mm ≤ 4096 ∧ Bs (fun k => k ≠ g) w A2 n2 c2 bb ∧ Wk w' g mm ∧ Kb g w w' ∧ Blk w' w.heap.size 25 #[.bool false, .slice none 0 0, .slice none 0 0] ∧
                Blk w' (w2.heap.size + 1) 25 #[.bool true, .slice none 0 0, .slice B q q'] ∧ w'.ownsRow (w2.heap.size + 1 + 1) 25 3 (.slice B q q') q xs ∧
                Sec (Reps (ItR (fun k => w2.heap.size + 1 < k ∧ some k ≠ (Value.slice B q q').ownBlock) w') is xs) ∧ Sec (q = is.length) ∧ Sec (bb.length ≤ fu) ∧
                Sec (itemsI (firstI f) fu bb is mm = itemsI (firstI f) i.length i [] (m + 1)))
              case atStart =>
                exact ⟨A', hk, c - ha, i, i.length, none, 0, 0, [], [], m + 1, rfl, Nat.le_refl _, by omega, by omega, hi, hW3, hK3, hR3, hX3, World.ownsRow_nil _ _ _ _, ⟨rfl⟩, ⟨rfl⟩, ⟨Nat.le_refl _⟩, ⟨rfl⟩⟩
              case round =>
                obtain ⟨A2, n2, c2, bb, fu, B, q, q', xs, is, mm, rfl, hnr, hqn, hmm, hbb, hWr, hKr, hRr, hXr, hO, hreps, hq, hfu, hit⟩ := hrel
                obtain ⟨bb1, bb2, bb3⟩ := hbb.bds
                have hlen2 := Sec.mk hbb.len
                by_cases h20 : n2 = 0
                · subst h20
                  have z0 := hXr.cell 0
                  have z1 := hXr.cell 1
                  have z2 := hXr.cell 2
                  have hbb0 : bb = [] := List.eq_nil_of_length_eq_zero hlen2.out.symm
                  have hit' := hit.out
                  rw [hbb0] at hit'
                  have hie : itemsI (firstI f) fu [] is mm = (is, 0, mm) := by cases fu <;> simp [itemsI]
                  rw [hie] at hit'
                  have HIT := Sec.mk hit'; clear hit' hie hbb0
                  go_wp2_with ((with_reducible refine gate (.store 25 (.tmp 6) (.tmp 104)) rfl ?_); go_loud (refine wpList_store_blk rfl 25 (.tmp 6) (.tmp 104) rfl _ 25 _ _ rfl rfl hRr rfl info25 rfl ?_); intro w6 hR6 hK6 hz6)
                  refine bodyPost_cell2 Try.results15 rfl hR6 Try.underlying25 rfl info25 rfl ?_
                  rw [← HE'.out, ← HIT.out]
                  have hcs := Cs.of_own (S := fun k => w2.heap.size + 1 < k) hO fun k hk1 hk2 => by omega
                  have hkl : ∀ k, w2.heap.size + 1 < k → w.heap.size ≤ k := fun k hk1 => by omega
                  have hits : ItsR (fun k => w2.heap.size + 1 < k) wr B 0 is := ItsR.of_reps hcs (hreps.out.mono fun _ _ _ h => ItR.mono (fun k hk1 => hk1.1) h)
                  refine ⟨none, 0, 0, B, q, q', by simp only [It.list]; rfl, ItR.of_parts (x := .mk true [] is) (Bs.empty _ _) hq.out (own_len hO).1 (by unfold LIM; omega) (own_len hO).2 ?_, hWr.kb hK6 (by omega), kb_then_new hKr hK6⟩
                  exact ItsR.mono hkl (ItsR.agree (hK6.agree fun k hk1 => by omega) hits)
                · have h20' : 0 < (n2 : Int) := by omega
                  have hbbr := hbb.agree (hKr.agree fun _ h => h)
                  have hcall := IH.out wr g mm (d + 1) ((d : Int) + 1) A2 n2 c2 bb (by omega) (by omega) hmm (by omega) hWr hbbr
                  have hit' := hit.out
                  obtain ⟨fu', hfu'⟩ : ∃ fu', fu = fu' + 1 := ⟨fu - 1, by have := hfu.out; have := hlen2.out; omega⟩
                  have hFU := Sec.mk hfu'; clear hfu'
                  rw [hFU.out, itemsI, if_neg (by intro e; rw [e] at hlen2; exact h20 hlen2.out)] at hit'
                  have hmy := firstI_m f bb mm hmm
                  have hny := firstI_n f bb mm
                  generalize firstI f bb mm = R at hcall hit' hmy hny
                  obtain ⟨y, ny, ey, my⟩ := R
                  dsimp only at hit' hmy hny
                  have hC := Sec.mk hcall; clear hcall
                  have hNY := Sec.mk hny; clear hny
                  by_cases hey : ey ≠ 0
                  · rw [if_pos hey] at hit'
                    have hey' : ((ey : Int) != 0) = true := by simp; exact hey
                    have HIT := Sec.mk hit'; clear hit'
                    have HEY := Sec.mk hey; clear hey
                    go_wp2_with fail
                    ((with_reducible refine hC.out.mono ?_); intro e w5 hP; obtain ⟨A1, n1, c1, B1, q1, q1', rfl, hyI, hW5, hK5⟩ := hP)
                    have hR5 := (hRr.kb hK5 hne).alloc (.cells #[.bool y.list, .slice A1 n1 c1, .slice B1 q1 q1'] 25)
                    go_wp2_with ((with_reducible refine gate (.store 25 (.tmp 6) (.tmp 93)) rfl ?_); go_loud (refine wpList_store_blk rfl 25 (.tmp 6) (.tmp 93) rfl _ 25 _ _ rfl rfl hR5 rfl info25 rfl ?_); intro w6 hR6 hK6 hz6)
                    refine bodyPost_cell2 Try.results15 rfl hR6 Try.underlying25 rfl info25 rfl ?_
                    rw [← HE'.out]
                    rw [← HIT.out, if_pos HEY.out]
                    exact firstPost_zero (ey : Int) rfl hgl (Blk.alloc hW5 _) ((hKr.trans hK5).alloc _) hK6
                  · have hey0 : ey = 0 := by omega
                    subst hey0
                    clear hey
                    rw [if_neg (by simp)] at hit'
                    have HIT := Sec.mk hit'; clear hit'
                    obtain ⟨hny1, hny2⟩ := hNY.out rfl
                    rw [← hlen2.out] at hny2
                    clear hNY
                    obtain ⟨A6, hcut6, hcb6⟩ := bcut_l (P := Try.prog) 22 .i64 Try.underlying22 info5 A2 n2 c2 (ny : Int) ny rfl hny2 bb2
                    go_wp2_with fail
                    ((with_reducible refine hC.out.mono ?_); intro e w5 hP; obtain ⟨A1, n1, c1, B1, q1, q1', rfl, hyI, hW5, hK5⟩ := hP)
                    have hR5 := (hRr.kb hK5 hne).alloc (.cells #[.bool y.list, .slice A1 n1 c1, .slice B1 q1 q1'] 25)
                    go_wp2_with fail
                    have hY5 := Blk.new w5 25 #[.bool y.list, .slice A1 n1 c1, .slice B1 q1 q1']
                    have hX5 := (hXr.kb hK5 (by have := hKr.size; omega)).alloc (.cells #[.bool y.list, .slice A1 n1 c1, .slice B1 q1 q1'] 25)
                    have hO5 := (hO.kept hK5 (by rcases B with _ | a <;> simp [Value.ownBlock]; intro e; have := (hO.lt a.block rfl).1; omega)).alloc (.cells #[.bool y.list, .slice A1 n1 c1, .slice B1 q1 q1'] 25)
                    have hW6 : Wk (w5.alloc (.cells #[.bool y.list, .slice A1 n1 c1, .slice B1 q1 q1'] 25)) g my := Blk.alloc hW5 _
                    have hK6 := (hKr.trans hK5).alloc (.cells #[.bool y.list, .slice A1 n1 c1, .slice B1 q1 q1'] 25)
                    have hog : ∀ k, some k = (Value.slice B q q').ownBlock → k < wr.heap.size := fun k e => (hO.lt k e.symm).2
                    have hsw : w2.heap.size + 1 < wr.heap.size := hXr.lt
                    have hre5 := hreps.out.mono fun x cs _ h => (ItR.agree (hK5.agree fun k (hk1 : w2.heap.size + 1 < k ∧ _) => by omega) h).alloc (.cells #[.bool y.list, .slice A1 n1 c1, .slice B1 q1 q1'] 25)
                    have hy5 : ItR (fun k => w2.heap.size + 1 < k ∧ some k ≠ (Value.slice B q q').ownBlock) (w5.alloc (.cells #[.bool y.list, .slice A1 n1 c1, .slice B1 q1 q1'] 25)) y [.bool y.list, .slice A1 n1 c1, .slice B1 q1 q1'] :=
                      (ItR.mono (fun k hk1 => ⟨by omega, fun e => by have := hog k e; omega⟩) hyI).alloc _
                    have HRE := Sec.mk hre5; have HY5 := Sec.mk hy5; clear hre5 hy5
                    have hs5 : wr.heap.size ≤ w5.heap.size := hK5.size
                    have hs6 : (w5.alloc (.cells #[.bool y.list, .slice A1 n1 c1, .slice B1 q1 q1'] 25)).heap.size = w5.heap.size + 1 := by simp
                    generalize (w5.alloc (.cells #[.bool y.list, .slice A1 n1 c1, .slice B1 q1 q1'] 25)) = Wy at hY5 hX5 hO5 hW6 hK6 hR5 hs6 HRE HY5 ⊢
                    have HS6 := Sec.mk hs6; clear hs6
                    have z0 := hX5.cell 0
                    have z2 := hX5.cell 2
                    have z2' := (hX5.alloc (.cells #[.bool y.list, .slice A1 n1 c1, .slice B1 q1 q1'] 25)).cell 2
                    have y0 := hY5.cell 0
                    have y1 := hY5.cell 1
                    have y2 := hY5.cell 2
                    have zf := hX5.frozen 2
                    go_region_law (refine step_append_cs _ rfl (.tmp 96) (.tmp 98) 23 rfl (w2.heap.size + 1 + 1) 25 Try.underlying23 info25' rfl (by decide) B q q' xs rfl (hO5.alloc _).drew _ _ 1 1 [.bool y.list, .slice A1 n1 c1, .slice B1 q1 q1'] rfl rfl (Cs.new _ _ _).drew rfl ?h63 ?hby ?hba ?_; (case h63 => unfold maxLen; omega); (case hby => omega); (case hba => simp; have := hX5.lt; omega); intro A7 c7 w7 hO7 hb7 hg7 hat7; have hX7 := (hX5.alloc (.cells #[.bool y.list, .slice A1 n1 c1, .slice B1 q1 q1'] 25)).drew.below' hb7 (by omega); have p2 := hX7.cell 2; have pf := hX7.frozen 2)
                    all_goals
                      go_wp2
                      go_roundg (gk - 1)
                      case measure => omega
                      case rel =>
                        have hgW7 : g < w2.heap.size + 1 + 1 := by omega
                        have hRlt : w.heap.size < w2.heap.size + 1 + 1 := by omega
                        have hK7 := (hK6.alloc (.cells #[.bool y.list, .slice A1 n1 c1, .slice B1 q1 q1'] 25)).drew.then_below hb7 (by omega)
                        refine ⟨A6, n2 - ny, c2 - ny, bb.drop ny, fu', A7, q + 1, c7, xs ++ [.bool y.list, .slice A1 n1 c1, .slice B1 q1 q1'], is ++ [y], my, rfl, by omega, by omega, hmy, hcb6 _ _ _ hbb, ?_, ?_, ?_, ?_, ?_, ?_, ?_, ?_, ?_⟩
                        · exact ((Blk.alloc hW6 (.cells #[.bool y.list, .slice A1 n1 c1, .slice B1 q1 q1'] 25)).drew.below' hb7 hgW7).far (by show g ≠ w2.heap.size + 1; omega) _
                        · exact hK7.setCell (.inr (by show w.heap.size ≤ w2.heap.size + 1; omega)) _
                        · exact ((hR5.alloc (.cells #[.bool y.list, .slice A1 n1 c1, .slice B1 q1 q1'] 25)).drew.below' hb7 hRlt).far (by show w.heap.size ≠ w2.heap.size + 1; omega) _
                        · exact hX7.set 2 _
                        · exact ownsRow_setCell_below hO7 (by show w2.heap.size + 1 < _; omega) _
                        · exact ⟨items_step (HRE.out.mono fun x cs _ h => (h.alloc (.cells #[.bool y.list, .slice A1 n1 c1, .slice B1 q1 q1'] 25)).drew) (HY5.out.alloc (.cells #[.bool y.list, .slice A1 n1 c1, .slice B1 q1 q1'] 25)).drew hg7 hat7 2 _⟩
                        · exact ⟨by rw [List.length_append, ← hq.out]; rfl⟩
                        · exact ⟨by rw [List.length_drop]; have := hfu.out; have := hFU.out; have := hlen2.out; omega⟩
                        · exact ⟨HIT.out⟩
end Go.Proofs.Ytlpmnhnlhleogaa
