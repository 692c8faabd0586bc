/- How keys stand: the walks. -/
import Derived.Test.YtimeehjbifbfgaaCa
namespace Go.Proofs.Ytimeehjbifbfgaa
open Go.RowKit Go.Mo
set_option linter.unusedVariables false
set_option linter.unusedSimpArgs false

theorem bytesOf_nats (l : List UInt8) : Go.Lib.bytesOf (l.map fun b => ((b.toNat : Nat) : Int)) = l := by
  unfold Go.Lib.bytesOf
  rw [List.map_map]
  conv => rhs; rw [← List.map_id l]
  apply List.map_congr_left
  intro b _
  simp
theorem run_bytesOf {P : Program} {S : Nat → Prop} {w : World} {A : Option Addr} {n c : Nat} {l : List UInt8} (h : Bs S w A n c l) :
    (Extern.Bytes.bytesOf (.slice A n c)).run P w = .ok ⟨l.toArray⟩ w := by
  have hn := h.len
  subst hn
  rcases A with _ | ad
  · have hl : l = [] := by
      rcases l with _ | ⟨b, bs⟩
      · rfl
      · obtain ⟨ad, e, _⟩ := h.cs 0 (u8 b) (by simp)
        cases e
    subst hl
    rfl
  · have hl := Go.Lib.run_loadBytesX (P := P) (w := w) (l.map fun b => ((b.toNat : Nat) : Int)) ad .empty (fun j x hj => by
      rw [List.getElem?_map] at hj
      cases hb : l[j]? with
      | none => rw [hb] at hj; simp at hj
      | some b =>
        rw [hb] at hj
        simp at hj; subst hj
        obtain ⟨ad', e, _, hc⟩ := h.cs j (u8 b) (by simp [hb])
        injection e with e; subst e; exact hc)
    rw [List.length_map, bytesOf_nats] at hl
    simpa [Extern.Bytes.bytesOf] using hl
theorem run_compare {P : Program} {S S' : Nat → Prop} {w : World} {A A' : Option Addr} {n c n' c' : Nat} {l m : List UInt8} (h : Bs S w A n c l) (h' : Bs S' w A' n' c' m) :
    (Extern.BytealgCompare.compare #[.slice A n c, .slice A' n' c']).run P w = .ok (.int .i64 (Go.Lib.compareBytes l m)) w := by
  change Sem.run P (do pure (goInt (Extern.BytealgCompare.cmp (← Extern.Bytes.bytesOf (.slice A n c)) (← Extern.Bytes.bytesOf (.slice A' n' c'))))) w = _
  simp only [Sem.run_bind, Sem.run_pure, run_bytesOf h, run_bytesOf h', Result.andThen]
  rw [Go.Lib.cmp_eq]
  rfl

set_option maxRecDepth 100000 in
theorem BCompare_calls {S S' : Nat → Prop} {A A' : Option Addr} {n c n' c' : Nat} {l m : List UInt8} (w : World) (h : Bs S w A n c l) (h' : Bs S' w A' n' c' m) :
    Calls Try.prog 69 #[.slice A n c, .slice A' n' c'] w fun e w' => e = .returned (.int .i64 (Go.Lib.compareBytes l m)) ∧ w = w' := by
  have hk := run_compare (P := Try.prog) h h'
  go_enter Try.func69, Try.ntmps69
  go_wp2
  rw [run_callFunc_extern Try.func99 (by kernel_rfl) (by kernel_rfl) (by kernel_rfl) (e := Extern.BytealgCompare.compare) (by kernel_rfl), hk]
  simp only [Result.andThen]
  rw [Oper.upon_value]
  go_wp2
  go_ret
  exact ⟨rfl, rfl⟩

theorem cmpU_calls (a b : Nat) (X Y : Int) (hX : X = (a : Int)) (hY : Y = (b : Int)) (w : World) :
    Calls Try.prog 70 #[.int .u64 X, .int .u64 Y] w fun e w' => e = .returned (.int .i64 (cmpN a b)) ∧ w = w' := by
  subst hX; subst hY
  unfold cmpN
  by_cases h1 : a < b
  · have H := Sec.mk h1
    go_enter Try.func70, Try.ntmps70
    go_wp2
    go_ret
    exact ⟨rfl, rfl⟩
  · by_cases h2 : b < a
    · go_enter Try.func70, Try.ntmps70
      go_wp2
      go_ret
      exact ⟨rfl, rfl⟩
    · go_enter Try.func70, Try.ntmps70
      go_wp2
      go_ret
      exact ⟨rfl, rfl⟩
theorem cmpI_calls (a b : Nat) (X Y : Int) (hX : X = (a : Int)) (hY : Y = (b : Int)) (w : World) :
    Calls Try.prog 71 #[.int .i64 X, .int .i64 Y] w fun e w' => e = .returned (.int .i64 (cmpN a b)) ∧ w = w' := by
  subst hX; subst hY
  unfold cmpN
  by_cases h1 : a < b
  · have H := Sec.mk h1
    go_enter Try.func71, Try.ntmps71
    go_wp2
    go_ret
    exact ⟨rfl, rfl⟩
  · by_cases h2 : b < a
    · go_enter Try.func71, Try.ntmps71
      go_wp2
      go_ret
      exact ⟨rfl, rfl⟩
    · go_enter Try.func71, Try.ntmps71
      go_wp2
      go_ret
      exact ⟨rfl, rfl⟩

set_option maxRecDepth 100000 in
set_option maxHeartbeats 1000000 in
theorem Compare_calls {S S' : Nat → Prop} {A A' : Option Addr} {n c n' c' : Nat} {l m : List UInt8} (w : World) (h : Bs S w A n c l) (h' : Bs S' w A' n' c' m) :
    Calls Try.prog 24 #[.slice A n c, .slice A' n' c'] w fun e w' => e = .returned (.tuple #[.int .i64 (compareI l m).1, .int .i64 ((compareI l m).2 : Int)]) ∧ Below w.heap.size w w' := by
  have hC1 := Split_calls w h
  have hS2 := fun (w2 : World) (hb : Below w.heap.size w w2) => Split_calls w2 (h'.below hb)
  have hcmp : Sec (compareI l m = if (splitI l).2.2.2 ≠ 0 ∨ (splitI m).2.2.2 ≠ 0 then (0, 23) else (standI (splitI l) (splitI m), 0)) := ⟨rfl⟩
  generalize compareI l m = R at hcmp ⊢
  generalize splitI l = x at hC1 hcmp
  generalize splitI m = y at hS2 hcmp
  obtain ⟨ux, sx, kx, ex⟩ := x
  obtain ⟨uy, sy, ky, ey⟩ := y
  dsimp only at hC1 hS2
  have HC1 := Sec.mk hC1; have HS2 := Sec.mk hS2; clear hC1 hS2
  by_cases hex : ex ≠ 0
  · have hR := Sec.mk (show R = (0, 23) from by rw [hcmp.out, if_pos (.inl hex)])
    have hex' : ((ex : Int) != 0) = true := by simp; exact hex
    clear hex
    go_enter Try.func24, Try.ntmps24
    go_wp2_with fail
    ((with_reducible refine HC1.out.mono ?_); rintro e w2 ⟨A2, n2, c2, rfl, ho2, hb2⟩)
    go_wp2_with fail
    ((with_reducible refine (HS2.out _ hb2).mono ?_); rintro e w3 ⟨A3, n3, c3, rfl, ho3, hb3⟩)
    go_wp2
    go_ret2
    rw [hR.out]
    exact ⟨rfl, below_then hb2 hb2.size hb3⟩
  · have hex0 : ex = 0 := by omega
    subst hex0
    by_cases hey : ey ≠ 0
    · have hR := Sec.mk (show R = (0, 23) from by rw [hcmp.out, if_pos (.inr hey)])
      have hey' : ((ey : Int) != 0) = true := by simp; exact hey
      clear hey hex
      go_enter Try.func24, Try.ntmps24
      go_wp2_with fail
      ((with_reducible refine HC1.out.mono ?_); rintro e w2 ⟨A2, n2, c2, rfl, ho2, hb2⟩)
      go_wp2_with fail
      ((with_reducible refine (HS2.out _ hb2).mono ?_); rintro e w3 ⟨A3, n3, c3, rfl, ho3, hb3⟩)
      go_wp2
      go_ret2
      rw [hR.out]
      exact ⟨rfl, below_then hb2 hb2.size hb3⟩
    · have hey0 : ey = 0 := by omega
      subst hey0
      have hR := Sec.mk (show R = (standI (ux, sx, kx, 0) (uy, sy, ky, 0), 0) from by rw [hcmp.out, if_neg (by simp)])
      clear hex hey hcmp
      have hst : Sec (standI (ux, sx, kx, 0) (uy, sy, ky, 0) = if Go.Lib.compareBytes ux uy ≠ 0 then Go.Lib.compareBytes ux uy else if cmpN sy sx ≠ 0 then cmpN sy sx else cmpN ky kx) := ⟨rfl⟩
      have hBC := fun (W : World) {A2 : Option Addr} {n2 c2 : Nat} {A3 : Option Addr} {n3 c3 : Nat} (h2 : Bs (fun _ => True) W A2 n2 c2 ux) (h3 : Bs (fun _ => True) W A3 n3 c3 uy) => BCompare_calls W h2 h3
      have hc1 := cmpU_calls sy sx _ _ rfl rfl
      have hc2 := cmpI_calls ky kx _ _ rfl rfl
      generalize Go.Lib.compareBytes ux uy = v1 at hst hBC
      generalize cmpN sy sx = v2 at hst hc1
      have HBC := Sec.mk @hBC; have HC2 := Sec.mk hc1; have HC3 := Sec.mk hc2; clear hBC hc1 hc2
      by_cases h1 : v1 = 0
      · subst h1
        by_cases h2 : v2 = 0
        · subst h2
          have hV := Sec.mk (show R = (cmpN ky kx, 0) from by rw [hR.out, hst.out]; simp)
          go_enter Try.func24, Try.ntmps24
          go_wp2_with fail
          ((with_reducible refine HC1.out.mono ?_); rintro e w2 ⟨A2, n2, c2, rfl, ho2, hb2⟩)
          go_wp2_with fail
          ((with_reducible refine (HS2.out _ hb2).mono ?_); rintro e w3 ⟨A3, n3, c3, rfl, ho3, hb3⟩)
          have hbb := below_then hb2 hb2.size hb3
          go_wp2_with (first | (go_at_call 69; (with_reducible refine (HBC.out w3 (ho2.bsT.below hb3) ho3.bsT).mono ?_); rintro e w4 ⟨rfl, rfl⟩) | (go_at_call 70; (with_reducible refine (HC2.out w3).mono ?_); rintro e w4 ⟨rfl, rfl⟩) | (go_at_call 71; (with_reducible refine (HC3.out w3).mono ?_); rintro e w4 ⟨rfl, rfl⟩))
          go_ret2
          rw [hV.out]
          exact ⟨rfl, hbb⟩
        · have hV := Sec.mk (show R = (v2, 0) from by rw [hR.out, hst.out]; simp [h2])
          have h2' : (v2 == 0) = false := by simp [h2]
          clear h2
          go_enter Try.func24, Try.ntmps24
          go_wp2_with fail
          ((with_reducible refine HC1.out.mono ?_); rintro e w2 ⟨A2, n2, c2, rfl, ho2, hb2⟩)
          go_wp2_with fail
          ((with_reducible refine (HS2.out _ hb2).mono ?_); rintro e w3 ⟨A3, n3, c3, rfl, ho3, hb3⟩)
          have hbb := below_then hb2 hb2.size hb3
          go_wp2_with (first | (go_at_call 69; (with_reducible refine (HBC.out w3 (ho2.bsT.below hb3) ho3.bsT).mono ?_); rintro e w4 ⟨rfl, rfl⟩) | (go_at_call 70; (with_reducible refine (HC2.out w3).mono ?_); rintro e w4 ⟨rfl, rfl⟩) | (go_at_call 71; (with_reducible refine (HC3.out w3).mono ?_); rintro e w4 ⟨rfl, rfl⟩))
          go_ret2
          rw [hV.out]
          exact ⟨rfl, hbb⟩
      · have hV := Sec.mk (show R = (v1, 0) from by rw [hR.out, hst.out]; simp [h1])
        have h1' : (v1 == 0) = false := by simp [h1]
        clear h1
        go_enter Try.func24, Try.ntmps24
        go_wp2_with fail
        ((with_reducible refine HC1.out.mono ?_); rintro e w2 ⟨A2, n2, c2, rfl, ho2, hb2⟩)
        go_wp2_with fail
        ((with_reducible refine (HS2.out _ hb2).mono ?_); rintro e w3 ⟨A3, n3, c3, rfl, ho3, hb3⟩)
        have hbb := below_then hb2 hb2.size hb3
        go_wp2_with (first | (go_at_call 69; (with_reducible refine (HBC.out w3 (ho2.bsT.below hb3) ho3.bsT).mono ?_); rintro e w4 ⟨rfl, rfl⟩) | (go_at_call 70; (with_reducible refine (HC2.out w3).mono ?_); rintro e w4 ⟨rfl, rfl⟩) | (go_at_call 71; (with_reducible refine (HC3.out w3).mono ?_); rintro e w4 ⟨rfl, rfl⟩))
        go_ret2
        rw [hV.out]
        exact ⟨rfl, hbb⟩
end Go.Proofs.Ytimeehjbifbfgaa
