/- Same walked: two items held against one another, part for part. -/
import Derived.Test.YtlpmnhnlhleogaaWf
namespace Go.Proofs.Ytlpmnhnlhleogaa
open Go.RowKit Go.Mo
set_option linter.unusedVariables false
set_option linter.unusedSimpArgs false

theorem sameI_f {x y : It} (h : ¬ (x.list = y.list ∧ x.bytes = y.bytes ∧ x.items = y.items)) : Sec (sameI x y = false) := ⟨by
  rw [← It.ext_iff'] at h; unfold sameI; simp [h]⟩
theorem sameI_t {x y : It} (h1 : x.list = y.list) (h2 : x.bytes = y.bytes) {q : Nat} (h3 : q = x.items.length) (h4 : q = y.items.length) (h : ∀ j, j < q → x.items[j]? = y.items[j]?) : Sec (sameI x y = true) := ⟨by
  rw [sameI_iff, It.ext_iff']
  refine ⟨h1, h2, List.ext_getElem? fun j => ?_⟩
  by_cases hj : j < q
  · exact h j hj
  · rw [List.getElem?_eq_none (by omega), List.getElem?_eq_none (by omega)]⟩


/-- What a call of Same answers, for items of weight to k. -/
def SameAt (k : Nat) : Prop := ∀ (x y : It), wt x ≤ k → ∀ (S S' : Nat → Prop) (w : World) (A : Option Addr) (n c : Nat) (B : Option Addr) (q q' : Nat) (A2 : Option Addr) (n2 c2 : Nat) (B2 : Option Addr) (q2 q2' : Nat),
    ItR S w x [.bool x.list, .slice A n c, .slice B q q'] → ItR S' w y [.bool y.list, .slice A2 n2 c2, .slice B2 q2 q2'] →
    Calls Try.prog 9 #[.agg #[.bool x.list, .slice A n c, .slice B q q'], .agg #[.bool y.list, .slice A2 n2 c2, .slice B2 q2 q2']] w fun e w' =>
      e = .returned (.bool (sameI x y)) ∧ Below w.heap.size w w'

theorem Same_ne (x y : It) (bx : Bool) (w : World) (A : Option Addr) (n c : Nat) (B : Option Addr) (q q' : Nat) (A2 : Option Addr) (n2 c2 : Nat) (B2 : Option Addr) (q2 q2' : Nat) (hs : Sec (sameI x y = false)) :
    Calls Try.prog 9 #[.agg #[.bool bx, .slice A n c, .slice B q q'], .agg #[.bool (!bx), .slice A2 n2 c2, .slice B2 q2 q2']] w fun e w' =>
      e = .returned (.bool (sameI x y)) ∧ Below w.heap.size w w' := by
  have hB1 : Below w.heap.size w (w.alloc (.cells #[.bool bx, .slice A n c, .slice B q q'] 25)) := (Below.refl _ _).alloc (Nat.le_refl _) _
  have hB2 := hB1.alloc hB1.size (.cells #[.bool (!bx), .slice A2 n2 c2, .slice B2 q2 q2'] 25)
  cases bx
  all_goals
    (go_enter Try.func9, Try.ntmps9
     go_wp2
     go_ret
     exact ⟨by rw [hs.out]; rfl, hB2⟩)

set_option maxRecDepth 100000 in
set_option maxHeartbeats 4000000 in
theorem Same_eq (k : Nat) (IH : Sec (SameAt k)) (bx : Bool) (x y : It) (hk : Sec (wt x ≤ k + 1)) (S S' : Nat → Prop) (w : World) (A : Option Addr) (n c : Nat) (B : Option Addr) (q q' : Nat) (A2 : Option Addr) (n2 c2 : Nat) (B2 : Option Addr) (q2 q2' : Nat)
    (hxl : Sec (x.list = bx)) (hyl : Sec (y.list = bx)) (hX : ItR S w x [.bool bx, .slice A n c, .slice B q q']) (hY : ItR S' w y [.bool bx, .slice A2 n2 c2, .slice B2 q2 q2']) :
    Calls Try.prog 9 #[.agg #[.bool bx, .slice A n c, .slice B q q'], .agg #[.bool bx, .slice A2 n2 c2, .slice B2 q2 q2']] w fun e w' =>
      e = .returned (.bool (sameI x y)) ∧ Below w.heap.size w w' := by
  obtain ⟨_, _, _, _, _, _, hcs, hb, hq1, hq2, hq3, hq4, his⟩ := hX.parts
  injection hcs with hl0 hcs; clear hl0; injection hcs with h1 hcs; injection hcs with h2 hn0; clear hn0
  injection h1 with h1a h1b h1c; injection h2 with h2a h2b h2c
  subst h1a; subst h1b; subst h1c; subst h2a; subst h2b; subst h2c
  obtain ⟨_, _, _, _, _, _, hcs, hd, hr1, hr2, hr3, hr4, hjs⟩ := hY.parts
  injection hcs with hl0 hcs; clear hl0; injection hcs with h1 hcs; injection hcs with h2 hn0; clear hn0
  injection h1 with h1a h1b h1c; injection h2 with h2a h2b h2c
  subst h1a; subst h1b; subst h1c; subst h2a; subst h2b; subst h2c
  obtain ⟨b1, b2, b3⟩ := hb.bds
  obtain ⟨e1, e2, e3⟩ := hd.bds
  unfold LIM at hq3 hr3; unfold maxLen at hq4 hr4
  have HQ1 := Sec.mk hq1; clear hq1
  have HR1 := Sec.mk hr1; clear hr1
  have hb1 := Blk.new w 25 #[.bool bx, .slice A n c, .slice B q q']
  have hB1 : Below w.heap.size w (w.alloc (.cells #[.bool bx, .slice A n c, .slice B q q'] 25)) := (Below.refl _ _).alloc (Nat.le_refl _) _
  have hb1' := hb1.alloc (.cells #[.bool bx, .slice A2 n2 c2, .slice B2 q2 q2'] 25)
  have hB2 := hB1.alloc hB1.size (.cells #[.bool bx, .slice A2 n2 c2, .slice B2 q2 q2'] 25)
  have hb2 := Blk.new' (w.alloc (.cells #[.bool bx, .slice A n c, .slice B q q'] 25)) 25 #[.bool bx, .slice A2 n2 c2, .slice B2 q2 q2'] (w.heap.size + 1) (by simp)
  clear hX hY hb1 hB1
  have k1 := run_conv_bs (hb.below hB2) 22 9 Try.underlying22 Try.underlying5 Try.underlying9
  have k2 := run_conv_bs (hd.below hB2) 22 9 Try.underlying22 Try.underlying5 Try.underlying9
  cases bx
  rotate_left
  · skip
    by_cases cb : x.bytes = y.bytes
    · have cb' : ((bstr x.bytes).toList == (bstr y.bytes).toList) = true := by rw [bstr_beq]; simp [cb]
      have CB := Sec.mk cb; clear cb
      by_cases cq : q = q2
      · subst cq
        go_enter Try.func9, Try.ntmps9
        go_wp2_with fail
        clear k1 k2 cb'
        have hgB : ((w.alloc (.cells #[.bool true, .slice A n c, .slice B q q'] 25)).alloc (.cells #[.bool true, .slice A2 n2 c2, .slice B2 q q2'] 25)).heap.size = w.heap.size + 2 := by simp
        generalize (w.alloc (.cells #[.bool true, .slice A n c, .slice B q q'] 25)).alloc (.cells #[.bool true, .slice A2 n2 c2, .slice B2 q q2'] 25) = W at hb1' hB2 hb2 hgB ⊢
        have HGB := Sec.mk hgB; clear hgB
        have g1 : Below W.heap.size W W := Below.refl _ _
        go_loopg [5] q (fun r v5 w' => ∃ i : Nat, v5 = .int .i64 (i : Int) ∧ i ≤ q ∧ q ≤ i + r ∧ Below w.heap.size w w' ∧ Below W.heap.size W w' ∧ Sec (∀ j, j < i → x.items[j]? = y.items[j]?))
        case atStart => exact ⟨0, rfl, by omega, by omega, hB2, g1, ⟨fun j hj => absurd hj (by omega)⟩⟩
        case round =>
          obtain ⟨i, rfl, hi, hr, hB', hW', hs⟩ := hrel
          have hb1r := hb1'.below hW'
          have hb2r := hb2.below hW'
          have z2 := hb1r.cell 2
          have y2 := hb2r.cell 2
          have hsz1 := hW'.size
          have hsz2 := hB'.size
          by_cases hlt : i < q
          · obtain ⟨xi, hxi⟩ : ∃ xi, x.items[i]? = some xi := ⟨x.items[i]'(by rw [← HQ1.out]; exact hlt), by simp⟩
            obtain ⟨yi, hyi⟩ : ∃ yi, y.items[i]? = some yi := ⟨y.items[i]'(by rw [← HR1.out]; exact hlt), by simp⟩
            obtain ⟨ad, A3, n3, c3, B3, q3, r3, rfl, hS3, k0, k1, k2, hx3⟩ := (ItsR.agree (Agree.of_below hB' S) his).at hxi
            obtain ⟨ae, A4, n4, c4, B4, q4, r4, rfl, hS4, l0, l1, l2, hy3⟩ := (ItsR.agree (Agree.of_below hB' S') hjs).at hyi
            have hxw : wt xi < wt x := wt_get hxi
            have hcall := IH.out xi yi (by have := hk.out; omega) S S' wr.drew _ _ _ _ _ _ _ _ _ _ _ _ hx3.drew hy3.drew
            by_cases hse : sameI xi yi = true
            · rw [hse] at hcall
              have hs' : Sec (∀ j, j < i + 1 → x.items[j]? = y.items[j]?) := ⟨fun j hj => by
                by_cases hj2 : j = i
                · rw [hj2, hxi, hyi, (sameI_iff xi yi).1 hse]
                · exact hs.out j (by omega)⟩
              clear hxi hyi hse
              have HC := Sec.mk hcall; clear hcall
              go_wp2_with fail
              go_region_held3 (fun w' => w'.cell? ⟨w.heap.size, 2, none⟩ = some (.slice (some ad) q q') ∧ w'.cell? ⟨w.heap.size + 1, 2, none⟩ = some (.slice (some ae) q q2') ∧ w'.cell? (ad.add (i * 3)) = some (.bool xi.list) ∧ w'.cell? ⟨(ad.add (i * 3)).block, (ad.add (i * 3)).off + 1, none⟩ = some (.slice A3 n3 c3) ∧ w'.cell? ⟨(ad.add (i * 3)).block, (ad.add (i * 3)).off + 2, none⟩ = some (.slice B3 q3 r3) ∧ w'.cell? (ae.add (i * 3)) = some (.bool yi.list) ∧ w'.cell? ⟨(ae.add (i * 3)).block, (ae.add (i * 3)).off + 1, none⟩ = some (.slice A4 n4 c4) ∧ w'.cell? ⟨(ae.add (i * 3)).block, (ae.add (i * 3)).off + 2, none⟩ = some (.slice B4 q4 r4)) (first | exact ⟨z2, y2, k0, k1, k2, l0, l1, l2⟩ | exact ⟨cell_later hb5 z2, cell_later hb5 y2, cell_later hb5 k0, cell_later hb5 k1, cell_later hb5 k2, cell_later hb5 l0, cell_later hb5 l1, cell_later hb5 l2⟩) (first | (go_at_call 9; (with_reducible refine HC.out.mono ?_); rintro e w5 ⟨rfl, hb5⟩))
              go_wp2
              go_roundg (gk - 1)
              case measure => omega
              case rel => exact ⟨i + 1, by go_num, by omega, by omega, below_then hB'.drew hB'.size hb5, below_then hW'.drew hW'.size hb5, hs'⟩
            · have hse : sameI xi yi = false := by simpa using hse
              rw [hse] at hcall
              have hSF : Sec (sameI x y = false) := sameI_f fun h => by
                rw [h.2.2, hyi] at hxi
                injection hxi with hxi
                rw [(sameI_iff xi yi).2 hxi.symm] at hse
                exact absurd hse (by simp)
              clear hxi hyi hse
              have HC := Sec.mk hcall; clear hcall
              go_wp2_with fail
              go_region_held3 (fun w' => w'.cell? ⟨w.heap.size, 2, none⟩ = some (.slice (some ad) q q') ∧ w'.cell? ⟨w.heap.size + 1, 2, none⟩ = some (.slice (some ae) q q2') ∧ w'.cell? (ad.add (i * 3)) = some (.bool xi.list) ∧ w'.cell? ⟨(ad.add (i * 3)).block, (ad.add (i * 3)).off + 1, none⟩ = some (.slice A3 n3 c3) ∧ w'.cell? ⟨(ad.add (i * 3)).block, (ad.add (i * 3)).off + 2, none⟩ = some (.slice B3 q3 r3) ∧ w'.cell? (ae.add (i * 3)) = some (.bool yi.list) ∧ w'.cell? ⟨(ae.add (i * 3)).block, (ae.add (i * 3)).off + 1, none⟩ = some (.slice A4 n4 c4) ∧ w'.cell? ⟨(ae.add (i * 3)).block, (ae.add (i * 3)).off + 2, none⟩ = some (.slice B4 q4 r4)) (first | exact ⟨z2, y2, k0, k1, k2, l0, l1, l2⟩ | exact ⟨cell_later hb5 z2, cell_later hb5 y2, cell_later hb5 k0, cell_later hb5 k1, cell_later hb5 k2, cell_later hb5 l0, cell_later hb5 l1, cell_later hb5 l2⟩) (first | (go_at_call 9; (with_reducible refine HC.out.mono ?_); rintro e w5 ⟨rfl, hb5⟩))
              go_wp2
              go_ret
              exact ⟨by rw [hSF.out]; rfl, below_then hB'.drew hB'.size hb5⟩
          · have hiq : i = q := by omega
            subst hiq
            have hST : Sec (sameI x y = true) := sameI_t (hxl.out.trans hyl.out.symm) CB.out HQ1.out HR1.out hs.out
            go_wp2
            go_ret
            exact ⟨by rw [hST.out]; rfl, hB'⟩
      · have hSF : Sec (sameI x y = false) := sameI_f fun h => cq (by rw [HQ1.out, HR1.out, h.2.2])
        have cq' : ((q : Int) != (q2 : Int)) = true := by simp; omega
        clear cq
        go_enter Try.func9, Try.ntmps9
        go_wp2
        go_ret
        exact ⟨by rw [hSF.out]; rfl, hB2⟩
    · have hSF : Sec (sameI x y = false) := sameI_f fun h => cb h.2.1
      have cb' : ((bstr x.bytes).toList == (bstr y.bytes).toList) = false := by rw [bstr_beq]; simp [cb]
      clear cb
      go_enter Try.func9, Try.ntmps9
      go_wp2
      go_ret
      exact ⟨by rw [hSF.out]; rfl, hB2⟩
  · skip
    by_cases cb : x.bytes = y.bytes
    · have cb' : ((bstr x.bytes).toList == (bstr y.bytes).toList) = true := by rw [bstr_beq]; simp [cb]
      have CB := Sec.mk cb; clear cb
      by_cases cq : q = q2
      · subst cq
        go_enter Try.func9, Try.ntmps9
        go_wp2_with fail
        clear k1 k2 cb'
        have hgB : ((w.alloc (.cells #[.bool false, .slice A n c, .slice B q q'] 25)).alloc (.cells #[.bool false, .slice A2 n2 c2, .slice B2 q q2'] 25)).heap.size = w.heap.size + 2 := by simp
        generalize (w.alloc (.cells #[.bool false, .slice A n c, .slice B q q'] 25)).alloc (.cells #[.bool false, .slice A2 n2 c2, .slice B2 q q2'] 25) = W at hb1' hB2 hb2 hgB ⊢
        have HGB := Sec.mk hgB; clear hgB
        have g1 : Below W.heap.size W W := Below.refl _ _
        go_loopg [5] q (fun r v5 w' => ∃ i : Nat, v5 = .int .i64 (i : Int) ∧ i ≤ q ∧ q ≤ i + r ∧ Below w.heap.size w w' ∧ Below W.heap.size W w' ∧ Sec (∀ j, j < i → x.items[j]? = y.items[j]?))
        case atStart => exact ⟨0, rfl, by omega, by omega, hB2, g1, ⟨fun j hj => absurd hj (by omega)⟩⟩
        case round =>
          obtain ⟨i, rfl, hi, hr, hB', hW', hs⟩ := hrel
          have hb1r := hb1'.below hW'
          have hb2r := hb2.below hW'
          have z2 := hb1r.cell 2
          have y2 := hb2r.cell 2
          have hsz1 := hW'.size
          have hsz2 := hB'.size
          by_cases hlt : i < q
          · obtain ⟨xi, hxi⟩ : ∃ xi, x.items[i]? = some xi := ⟨x.items[i]'(by rw [← HQ1.out]; exact hlt), by simp⟩
            obtain ⟨yi, hyi⟩ : ∃ yi, y.items[i]? = some yi := ⟨y.items[i]'(by rw [← HR1.out]; exact hlt), by simp⟩
            obtain ⟨ad, A3, n3, c3, B3, q3, r3, rfl, hS3, k0, k1, k2, hx3⟩ := (ItsR.agree (Agree.of_below hB' S) his).at hxi
            obtain ⟨ae, A4, n4, c4, B4, q4, r4, rfl, hS4, l0, l1, l2, hy3⟩ := (ItsR.agree (Agree.of_below hB' S') hjs).at hyi
            have hxw : wt xi < wt x := wt_get hxi
            have hcall := IH.out xi yi (by have := hk.out; omega) S S' wr.drew _ _ _ _ _ _ _ _ _ _ _ _ hx3.drew hy3.drew
            by_cases hse : sameI xi yi = true
            · rw [hse] at hcall
              have hs' : Sec (∀ j, j < i + 1 → x.items[j]? = y.items[j]?) := ⟨fun j hj => by
                by_cases hj2 : j = i
                · rw [hj2, hxi, hyi, (sameI_iff xi yi).1 hse]
                · exact hs.out j (by omega)⟩
              clear hxi hyi hse
              have HC := Sec.mk hcall; clear hcall
              go_wp2_with fail
              go_region_held3 (fun w' => w'.cell? ⟨w.heap.size, 2, none⟩ = some (.slice (some ad) q q') ∧ w'.cell? ⟨w.heap.size + 1, 2, none⟩ = some (.slice (some ae) q q2') ∧ w'.cell? (ad.add (i * 3)) = some (.bool xi.list) ∧ w'.cell? ⟨(ad.add (i * 3)).block, (ad.add (i * 3)).off + 1, none⟩ = some (.slice A3 n3 c3) ∧ w'.cell? ⟨(ad.add (i * 3)).block, (ad.add (i * 3)).off + 2, none⟩ = some (.slice B3 q3 r3) ∧ w'.cell? (ae.add (i * 3)) = some (.bool yi.list) ∧ w'.cell? ⟨(ae.add (i * 3)).block, (ae.add (i * 3)).off + 1, none⟩ = some (.slice A4 n4 c4) ∧ w'.cell? ⟨(ae.add (i * 3)).block, (ae.add (i * 3)).off + 2, none⟩ = some (.slice B4 q4 r4)) (first | exact ⟨z2, y2, k0, k1, k2, l0, l1, l2⟩ | exact ⟨cell_later hb5 z2, cell_later hb5 y2, cell_later hb5 k0, cell_later hb5 k1, cell_later hb5 k2, cell_later hb5 l0, cell_later hb5 l1, cell_later hb5 l2⟩) (first | (go_at_call 9; (with_reducible refine HC.out.mono ?_); rintro e w5 ⟨rfl, hb5⟩))
              go_wp2
              go_roundg (gk - 1)
              case measure => omega
              case rel => exact ⟨i + 1, by go_num, by omega, by omega, below_then hB'.drew hB'.size hb5, below_then hW'.drew hW'.size hb5, hs'⟩
            · have hse : sameI xi yi = false := by simpa using hse
              rw [hse] at hcall
              have hSF : Sec (sameI x y = false) := sameI_f fun h => by
                rw [h.2.2, hyi] at hxi
                injection hxi with hxi
                rw [(sameI_iff xi yi).2 hxi.symm] at hse
                exact absurd hse (by simp)
              clear hxi hyi hse
              have HC := Sec.mk hcall; clear hcall
              go_wp2_with fail
              go_region_held3 (fun w' => w'.cell? ⟨w.heap.size, 2, none⟩ = some (.slice (some ad) q q') ∧ w'.cell? ⟨w.heap.size + 1, 2, none⟩ = some (.slice (some ae) q q2') ∧ w'.cell? (ad.add (i * 3)) = some (.bool xi.list) ∧ w'.cell? ⟨(ad.add (i * 3)).block, (ad.add (i * 3)).off + 1, none⟩ = some (.slice A3 n3 c3) ∧ w'.cell? ⟨(ad.add (i * 3)).block, (ad.add (i * 3)).off + 2, none⟩ = some (.slice B3 q3 r3) ∧ w'.cell? (ae.add (i * 3)) = some (.bool yi.list) ∧ w'.cell? ⟨(ae.add (i * 3)).block, (ae.add (i * 3)).off + 1, none⟩ = some (.slice A4 n4 c4) ∧ w'.cell? ⟨(ae.add (i * 3)).block, (ae.add (i * 3)).off + 2, none⟩ = some (.slice B4 q4 r4)) (first | exact ⟨z2, y2, k0, k1, k2, l0, l1, l2⟩ | exact ⟨cell_later hb5 z2, cell_later hb5 y2, cell_later hb5 k0, cell_later hb5 k1, cell_later hb5 k2, cell_later hb5 l0, cell_later hb5 l1, cell_later hb5 l2⟩) (first | (go_at_call 9; (with_reducible refine HC.out.mono ?_); rintro e w5 ⟨rfl, hb5⟩))
              go_wp2
              go_ret
              exact ⟨by rw [hSF.out]; rfl, below_then hB'.drew hB'.size hb5⟩
          · have hiq : i = q := by omega
            subst hiq
            have hST : Sec (sameI x y = true) := sameI_t (hxl.out.trans hyl.out.symm) CB.out HQ1.out HR1.out hs.out
            go_wp2
            go_ret
            exact ⟨by rw [hST.out]; rfl, hB'⟩
      · have hSF : Sec (sameI x y = false) := sameI_f fun h => cq (by rw [HQ1.out, HR1.out, h.2.2])
        have cq' : ((q : Int) != (q2 : Int)) = true := by simp; omega
        clear cq
        go_enter Try.func9, Try.ntmps9
        go_wp2
        go_ret
        exact ⟨by rw [hSF.out]; rfl, hB2⟩
    · have hSF : Sec (sameI x y = false) := sameI_f fun h => cb h.2.1
      have cb' : ((bstr x.bytes).toList == (bstr y.bytes).toList) = false := by rw [bstr_beq]; simp [cb]
      clear cb
      go_enter Try.func9, Try.ntmps9
      go_wp2
      go_ret
      exact ⟨by rw [hSF.out]; rfl, hB2⟩

theorem Same_at (k : Nat) : SameAt k := by
  induction k with
  | zero => intro x y hx; rw [wt_eq] at hx; omega
  | succ k ih =>
    intro x y hk S S' w A n c B q q' A2 n2 c2 B2 q2 q2' hX hY
    by_cases hl : x.list = y.list
    · have hl1 : Sec (x.list = y.list) := ⟨hl⟩
      rw [← hl] at hY ⊢
      have e2 : Sec (y.list = x.list) := ⟨hl.symm⟩
      exact Same_eq k ⟨ih⟩ x.list x y ⟨hk⟩ S S' w A n c B q q' A2 n2 c2 B2 q2 q2' ⟨rfl⟩ e2 hX hY
    · have h2 : y.list = !x.list := by cases h1 : x.list <;> cases h3 : y.list <;> simp_all
      rw [h2]
      exact Same_ne x y x.list w A n c B q q' A2 n2 c2 B2 q2 q2' (sameI_f fun h => hl h.1)

theorem Same_calls (x y : It) (S S' : Nat → Prop) (w : World) (A : Option Addr) (n c : Nat) (B : Option Addr) (q q' : Nat) (A2 : Option Addr) (n2 c2 : Nat) (B2 : Option Addr) (q2 q2' : Nat)
    (hX : ItR S w x [.bool x.list, .slice A n c, .slice B q q']) (hY : ItR S' w y [.bool y.list, .slice A2 n2 c2, .slice B2 q2 q2']) :
    Calls Try.prog 9 #[.agg #[.bool x.list, .slice A n c, .slice B q q'], .agg #[.bool y.list, .slice A2 n2 c2, .slice B2 q2 q2']] w fun e w' =>
      e = .returned (.bool (sameI x y)) ∧ Below w.heap.size w w' :=
  Same_at (wt x) x y (Nat.le_refl _) S S' w A n c B q q' A2 n2 c2 B2 q2 q2' hX hY
end Go.Proofs.Ytlpmnhnlhleogaa
