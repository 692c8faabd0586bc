/- Items read: the walks of First and Decode; items held against one another: Equal, Same; counted: count, few. -/
import Derived.Test.YtlpmnhnlhleogaaWe
namespace Go.Proofs.Ytlpmnhnlhleogaa
open Go.RowKit Go.Mo
set_option linter.unusedVariables false
set_option linter.unusedSimpArgs false

/-- An item that a call has made. -/
def MadeIt (w : World) (x : It) (w' : World) (A1 : Option Addr) (n1 c1 : Nat) (B1 : Option Addr) (q1 q1' : Nat) : Prop :=
  ItR (fun k => w.heap.size ≤ k) w' x [.bool x.list, .slice A1 n1 c1, .slice B1 q1 q1'] ∧ Below w.heap.size w w'

set_option maxHeartbeats 1000000 in
theorem First_calls (S : Nat → Prop) (w : World) (A : Option Addr) (n c : Nat) (b : List UInt8) (hb : Bs S w A n c b) :
    Calls Try.prog 8 #[.slice A n c] w fun e w' => ∃ A1 n1 c1 B1 q1 q1', e = .returned (.tuple #[.agg #[.bool (firstTop b).1.list, .slice A1 n1 c1, .slice B1 q1 q1'], .int .i64 ((firstTop b).2.1 : Int), .int .i64 ((firstTop b).2.2 : Int)]) ∧
      MadeIt w (firstTop b).1 w' A1 n1 c1 B1 q1 q1' := by
  obtain ⟨b1, b2, b3⟩ := hb.bds
  have hlen := Sec.mk hb.len
  have hR0 := Blk.new w 25 #[.bool false, .slice none 0 0, .slice none 0 0]
  have hB0 : Below w.heap.size w (w.alloc (.cells #[.bool false, .slice none 0 0, .slice none 0 0] 25)) := (Below.refl _ _).alloc (Nat.le_refl _) _
  by_cases hbig : 65536 < n
  · have HE := Sec.mk (show firstTop b = (It0, 0, 44) from by unfold firstTop; rw [if_pos (by rw [← hlen.out]; exact hbig)])
    go_enter Try.func8, Try.ntmps8
    go_wp2_with ((with_reducible refine gate (.store 25 (.tmp 2) (.tmp 8)) rfl ?_); go_loud (refine wpList_store_blk rfl 25 (.tmp 2) (.tmp 8) rfl _ 25 _ _ rfl rfl hR0 rfl info25 rfl ?_); intro w2 hR2 hK2 hz2)
    refine bodyPost_cell2 Try.results8 rfl hR2 Try.underlying25 rfl info25 rfl ?_
    rw [HE.out]
    exact ⟨_, _, _, _, _, _, rfl, ItR_zero _ _, hK2.below hB0 (Nat.le_refl _) hB0.size⟩
  · generalize hr : firstTop b = r
    unfold firstTop at hr
    rw [if_neg (by rw [← hlen.out]; exact hbig)] at hr
    generalize hWW : w.alloc (.cells #[.bool false, .slice none 0 0, .slice none 0 0] 25) = W at hR0 hB0
    have hWk : Wk (W.alloc (.cells #[.int .i64 0] 42)) W.heap.size 0 := Blk.new _ _ _
    have hbW : Bs (fun k => k ≠ W.heap.size) (W.alloc (.cells #[.int .i64 0] 42)) A n c b := (((hb.below hB0).here).mono (fun k (h : k < _) => by omega)).alloc _
    have hC := first_calls 16 (W.alloc (.cells #[.int .i64 0] 42)) W.heap.size 0 1 1 A n c b rfl rfl (by omega) (by omega) hWk hbW
    have hB1 := hB0.alloc hB0.size (.cells #[.int .i64 0] 42)
    have hR1 := hR0.alloc (.cells #[.int .i64 0] 42)
    have hs1 : (W.alloc (.cells #[.int .i64 0] 42)).heap.size = W.heap.size + 1 := by simp
    have HS1 := Sec.mk hs1; clear hs1
    generalize firstI 16 b 0 = R at hr hC
    obtain ⟨y, ny, ey, my⟩ := R
    dsimp only at hr
    have HR := Sec.mk hr; clear hr
    have hCC := Sec.mk hC; clear hC
    go_enter Try.func8, Try.ntmps8
    go_wp2_with fail
    have HWW := Sec.mk hWW; clear hWW
    ((with_reducible refine hCC.out.mono ?_); intro e w5 hP; obtain ⟨A1, n1, c1, B1, q1, q1', rfl, hyI, hW5, hK5⟩ := hP)
    have hne : w.heap.size ≠ W.heap.size := by have := hR0.lt; omega
    have hR5 := hR1.kb hK5 hne
    have hB5 := hK5.below hB1 hB0.size (by have := HS1.out; have := hB0.size; omega)
    go_wp2_with ((with_reducible refine gate (.store 25 (.tmp 2) (.tmp 13)) rfl ?_); go_loud (refine wpList_store_blk rfl 25 (.tmp 2) (.tmp 13) rfl _ 25 _ _ rfl rfl hR5 rfl info25 rfl ?_); intro w2 hR2 hK2 hz2)
    refine bodyPost_cell2 Try.results8 rfl hR2 Try.underlying25 rfl info25 rfl ?_
    rw [← HR.out]
    refine ⟨_, _, _, _, _, _, rfl, ItR.mono (fun k (h : _ ≤ k) => ?_) (ItR.agree (hK2.agree fun k (h : _ ≤ k) => ?_) hyI), hK2.below hB5 (Nat.le_refl _) hB5.size⟩
    · have := HS1.out; have := hB0.size; omega
    · have := HS1.out; have := hR0.lt; omega

set_option maxHeartbeats 1000000 in
theorem Decode_calls (S : Nat → Prop) (w : World) (A : Option Addr) (n c : Nat) (b : List UInt8) (hb : Bs S w A n c b) :
    Calls Try.prog 7 #[.slice A n c] w fun e w' => ∃ A1 n1 c1 B1 q1 q1', e = .returned (.tuple #[.agg #[.bool (decI b).1.list, .slice A1 n1 c1, .slice B1 q1 q1'], .int .i64 ((decI b).2 : Int)]) ∧
      MadeIt w (decI b).1 w' A1 n1 c1 B1 q1 q1' := by
  obtain ⟨b1, b2, b3⟩ := hb.bds
  have hlen := Sec.mk hb.len
  have hR0 := Blk.new w 25 #[.bool false, .slice none 0 0, .slice none 0 0]
  have hB0 : Below w.heap.size w (w.alloc (.cells #[.bool false, .slice none 0 0, .slice none 0 0] 25)) := (Below.refl _ _).alloc (Nat.le_refl _) _
  generalize hWW : w.alloc (.cells #[.bool false, .slice none 0 0, .slice none 0 0] 25) = W at hR0 hB0
  have hC := First_calls S W A n c b (hb.below hB0)
  generalize hr : decI b = r
  unfold decI at hr
  generalize firstTop b = R at hr hC
  obtain ⟨y, ny, ey⟩ := R
  dsimp only at hr
  rw [← hlen.out] at hr
  have hCC := Sec.mk hC; clear hC
  have hHR := Sec.mk hr; clear hr
  by_cases hey : ey ≠ 0
  · have hey' : ((ey : Int) != 0) = true := by simp; exact hey
    have HR := hHR.out
    rw [if_pos hey] at HR
    have HR' := Sec.mk HR; clear HR hey
    go_enter Try.func7, Try.ntmps7
    go_wp2_with fail
    have HWW := Sec.mk hWW; clear hWW
    ((with_reducible refine hCC.out.mono ?_); intro e w5 hP; obtain ⟨A1, n1, c1, B1, q1, q1', rfl, hyI, hB5⟩ := hP)
    have hR5 := (hR0.below hB5).alloc (.cells #[.bool y.list, .slice A1 n1 c1, .slice B1 q1 q1'] 25)
    have hBB := (below_then hB0 hB0.size hB5).alloc (by have := hB0.size; have := hB5.size; omega) (.cells #[.bool y.list, .slice A1 n1 c1, .slice B1 q1 q1'] 25)
    go_wp2_with ((with_reducible refine gate (.store 25 (.tmp 2) (.tmp 16)) rfl ?_); go_loud (refine wpList_store_blk rfl 25 (.tmp 2) (.tmp 16) rfl _ 25 _ _ rfl rfl hR5 rfl info25 rfl ?_); intro w2 hR2 hK2 hz2)
    refine bodyPost_cell1 Try.results7 rfl hR2 Try.underlying25 rfl info25 rfl ?_
    rw [← HR'.out]
    exact ⟨_, _, _, _, _, _, rfl, ItR_zero _ _, hK2.below hBB (Nat.le_refl _) hBB.size⟩
  · have hey0 : ey = 0 := by omega
    subst hey0
    have HR := hHR.out
    rw [if_neg (by simp)] at HR
    clear hHR hey
    by_cases hlt : ny < n
    · rw [if_pos hlt] at HR
      have HR' := Sec.mk HR; clear HR
      go_enter Try.func7, Try.ntmps7
      go_wp2_with fail
      have HWW := Sec.mk hWW; clear hWW
      ((with_reducible refine hCC.out.mono ?_); intro e w5 hP; obtain ⟨A1, n1, c1, B1, q1, q1', rfl, hyI, hB5⟩ := hP)
      have hR5 := (hR0.below hB5).alloc (.cells #[.bool y.list, .slice A1 n1 c1, .slice B1 q1 q1'] 25)
      have hBB := (below_then hB0 hB0.size hB5).alloc (by have := hB0.size; have := hB5.size; omega) (.cells #[.bool y.list, .slice A1 n1 c1, .slice B1 q1 q1'] 25)
      go_wp2_with ((with_reducible refine gate (.store 25 (.tmp 2) (.tmp 23)) rfl ?_); go_loud (refine wpList_store_blk rfl 25 (.tmp 2) (.tmp 23) rfl _ 25 _ _ rfl rfl hR5 rfl info25 rfl ?_); intro w2 hR2 hK2 hz2)
      refine bodyPost_cell1 Try.results7 rfl hR2 Try.underlying25 rfl info25 rfl ?_
      rw [← HR'.out]
      exact ⟨_, _, _, _, _, _, rfl, ItR_zero _ _, hK2.below hBB (Nat.le_refl _) hBB.size⟩
    · rw [if_neg hlt] at HR
      have HR' := Sec.mk HR; clear HR
      go_enter Try.func7, Try.ntmps7
      go_wp2_with fail
      have HWW := Sec.mk hWW; clear hWW
      ((with_reducible refine hCC.out.mono ?_); intro e w5 hP; obtain ⟨A1, n1, c1, B1, q1, q1', rfl, hyI, hB5⟩ := hP)
      have hR5 := (hR0.below hB5).alloc (.cells #[.bool y.list, .slice A1 n1 c1, .slice B1 q1 q1'] 25)
      have hBB := (below_then hB0 hB0.size hB5).alloc (by have := hB0.size; have := hB5.size; omega) (.cells #[.bool y.list, .slice A1 n1 c1, .slice B1 q1 q1'] 25)
      go_wp2_with ((with_reducible refine gate (.store 25 (.tmp 2) (.tmp 24)) rfl ?_); go_loud (refine wpList_store_blk rfl 25 (.tmp 2) (.tmp 24) rfl _ 25 _ _ rfl rfl hR5 rfl info25 rfl ?_); intro w2 hR2 hK2 hz2)
      refine bodyPost_cell1 Try.results7 rfl hR2 Try.underlying25 rfl info25 rfl ?_
      rw [← HR'.out]
      refine ⟨_, _, _, _, _, _, rfl, ItR.mono (fun k (h : _ ≤ k) => ?_) (ItR.agree (hK2.agree fun k (h : _ ≤ k) => ?_) (hyI.alloc _)), hK2.below hBB (Nat.le_refl _) hBB.size⟩
      · have := hB0.size; omega
      · have := hR0.lt; omega

set_option maxHeartbeats 1000000 in
theorem Equal2_calls (x y : It) (hx : Sec (wt x < 256 ^ 5)) (hy : Sec (wt y < 256 ^ 5)) (S S' : Nat → Prop) (w : World) (A : Option Addr) (n c : Nat) (B : Option Addr) (q q' : Nat) (A2 : Option Addr) (n2 c2 : Nat) (B2 : Option Addr) (q2 q2' : Nat)
    (hX : ItR S w x [.bool x.list, .slice A n c, .slice B q q']) (hY : ItR S' w y [.bool y.list, .slice A2 n2 c2, .slice B2 q2 q2']) :
    Calls Try.prog 10 #[.agg #[.bool x.list, .slice A n c, .slice B q q'], .agg #[.bool y.list, .slice A2 n2 c2, .slice B2 q2 q2']] w fun e w' =>
      e = .returned (.bool (eqI x y)) ∧ Below w.heap.size w w' := by
  have hb1 := Blk.new w 25 #[.bool x.list, .slice A n c, .slice B q q']
  have hB1 : Below w.heap.size w (w.alloc (.cells #[.bool x.list, .slice A n c, .slice B q q'] 25)) := (Below.refl _ _).alloc (Nat.le_refl _) _
  have hb1' := hb1.alloc (.cells #[.bool y.list, .slice A2 n2 c2, .slice B2 q2 q2'] 25)
  have hB2 := hB1.alloc hB1.size (.cells #[.bool y.list, .slice A2 n2 c2, .slice B2 q2 q2'] 25)
  have hb2 := Blk.new' (w.alloc (.cells #[.bool x.list, .slice A n c, .slice B q q'] 25)) 25 #[.bool y.list, .slice A2 n2 c2, .slice B2 q2 q2'] (w.heap.size + 1) (by simp)
  go_enter Try.func10, Try.ntmps10
  go_wp2_with fail
  generalize (w.alloc (.cells #[.bool x.list, .slice A n c, .slice B q q'] 25)).alloc (.cells #[.bool y.list, .slice A2 n2 c2, .slice B2 q2 q2'] 25) = W at hb1' hB2 hb2 ⊢
  ((with_reducible refine (Encode_calls x hx S W A n c B q q' (hX.below hB2)).mono ?_); rintro e w3 ⟨A3, n3, c3, rfl, ho3, hB3⟩)
  have hb4 := hb2.below hB3
  have z0 := hb4.cell 0
  have z1 := hb4.cell 1
  have z2 := hb4.cell 2
  have hB4 := below_then hB2 hB2.size hB3
  go_wp2_with fail
  ((with_reducible refine (Encode_calls y hy S' w3 A2 n2 c2 B2 q2 q2' (hY.below hB4)).mono ?_); rintro e w5 ⟨A5, n5, c5, rfl, ho5, hB5⟩)
  have hB6 := below_then hB4 hB4.size hB5
  have hE := Equal_calls w5 (ho3.bsT.below hB5) ho5.bsT
  by_cases h1 : (encI x).2 = 0
  · by_cases h2 : (encI y).2 = 0
    · have h3 : eqI x y = decide ((encI x).1 = (encI y).1) := by unfold eqI; simp [h1, h2]
      have H3 := Sec.mk h3; clear h3
      rw [h1, h2]
      go_wp2_with (go_at_call 16; (with_reducible refine hE.mono ?_); rintro e w6 ⟨rfl, rfl⟩)
      go_ret
      exact ⟨by rw [H3.out]; rfl, hB6⟩
    · have h3 : eqI x y = false := by unfold eqI; simp [h2]
      have H3 := Sec.mk h3; clear h3
      have h2' : ((((encI y).2 : Nat) : Int) == 0) = false := by simp; exact h2
      rw [h1]
      clear h1
      go_wp2
      go_ret
      exact ⟨by rw [H3.out]; rfl, hB6⟩
  · have h3 : eqI x y = false := by unfold eqI; simp [h1]
    have H3 := Sec.mk h3; clear h3
    have h1' : ((((encI x).2 : Nat) : Int) == 0) = false := by simp; exact h1
    go_wp2
    go_ret
    exact ⟨by rw [H3.out]; rfl, hB6⟩

end Go.Proofs.Ytlpmnhnlhleogaa
