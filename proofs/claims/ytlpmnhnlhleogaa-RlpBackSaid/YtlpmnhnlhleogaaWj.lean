/- RlpBack walked: it answers true. -/
import Derived.Test.YtlpmnhnlhleogaaWi
import Derived.Test.YtlpmnhnlhleogaaBack
import Derived.Deep.DeepCutAuto
namespace Go.Proofs.Ytlpmnhnlhleogaa
open Go.RowKit Go.Mo
set_option linter.unusedVariables false
set_option linter.unusedSimpArgs false

set_option maxRecDepth 100000 in
set_option maxHeartbeats 4000000 in
theorem RlpBack_calls (x y : It) (more b : List UInt8) (S : Nat → Prop) (w : World) (A : Option Addr) (n c : Nat) (B : Option Addr) (q q' : Nat) (A2 : Option Addr) (n2 c2 : Nat) (B2 : Option Addr) (q2 q2' : Nat)
    (M : Option Addr) (mn mc : Nat) (D : Option Addr) (dn dc : Nat)
    (hX : ItR S w x [.bool x.list, .slice A n c, .slice B q q']) (hY : ItR S w y [.bool y.list, .slice A2 n2 c2, .slice B2 q2 q2']) (hM : Bs S w M mn mc more) (hD : Bs S w D dn dc b) :
    Calls Try.prog 3 #[.agg #[.bool x.list, .slice A n c, .slice B q q'], .agg #[.bool y.list, .slice A2 n2 c2, .slice B2 q2 q2'], .slice M mn mc, .slice D dn dc] w fun e w' =>
      e = .returned (.bool true) ∧ Below w.heap.size w w' := by
  have hb1 := Blk.new w 25 #[.bool x.list, .slice A n c, .slice B q q']
  have hB1 : Below w.heap.size w (w.alloc (.cells #[.bool x.list, .slice A n c, .slice B q q'] 25)) := (Below.refl _ _).alloc (Nat.le_refl _) _
  have hb1' := hb1.alloc (.cells #[.bool y.list, .slice A2 n2 c2, .slice B2 q2 q2'] 25)
  have hB2 := hB1.alloc hB1.size (.cells #[.bool y.list, .slice A2 n2 c2, .slice B2 q2 q2'] 25)
  have hb2 := Blk.new' (w.alloc (.cells #[.bool x.list, .slice A n c, .slice B q q'] 25)) 25 #[.bool y.list, .slice A2 n2 c2, .slice B2 q2 q2'] (w.heap.size + 1) (by simp)
  clear hb1 hB1
  obtain ⟨m1, m2, m3⟩ := hM.bds
  obtain ⟨d1, d2, d3⟩ := hD.bds
  have hml := Sec.mk hM.len
  have hdl := Sec.mk hD.len
  go_enter Try.func3, Try.ntmps3
  go_wp2_with fail
  generalize (w.alloc (.cells #[.bool x.list, .slice A n c, .slice B q q'] 25)).alloc (.cells #[.bool y.list, .slice A2 n2 c2, .slice B2 q2 q2'] 25) = W at hb1' hB2 hb2 ⊢
  ((with_reducible refine (known_calls W).mono ?_); rintro e w3 ⟨rfl, hB3⟩)
  have hb4 := hb1'.below hB3
  have hb5 := hb2.below hB3
  have hB4 := below_then hB2 hB2.size hB3
  have z0 := hb4.cell 0
  have z1 := hb4.cell 1
  have z2 := hb4.cell 2
  have y0 := hb5.cell 0
  have y1 := hb5.cell 1
  have y2 := hb5.cell 2
  go_wp2_with fail
  ((with_reducible refine (few_calls x S w3 A n c B q q' (hX.below hB4)).mono ?_); rintro e w5 ⟨f1, rfl, hf1, hB5⟩)
  have hB6 := below_then hB4 hB4.size hB5
  have hb6 := hb4.below hB5
  have hb7 := hb5.below hB5
  clear z0 z1 z2 y0 y1 y2
  have y0 := hb7.cell 0
  have y1 := hb7.cell 1
  have y2 := hb7.cell 2
  cases f1 with
  | false =>
    go_wp2
    go_ret
    exact ⟨rfl, hB6⟩
  | true =>
    have hwx := hf1 rfl
    go_wp2_with fail
    ((with_reducible refine (few_calls y S w5 A2 n2 c2 B2 q2 q2' (hY.below hB6)).mono ?_); rintro e w7 ⟨f2, rfl, hf2, hB7⟩)
    have hB8 := below_then hB6 hB6.size hB7
    have hb8 := hb6.below hB7
    have hb9 := hb7.below hB7
    clear y0 y1 y2
    have hX8 := hX.below hB8
    have hY8 := hY.below hB8
    have hM8 := hM.below hB8
    have hD8 := hD.below hB8
    clear hX hY hM hD hb1' hb2 hB2 hB3 hb4 hb5 hB4 hB5 hB6 hb6 hb7 hf1 hB7
    cases f2 with
    | false =>
      go_wp2
      go_ret
      exact ⟨rfl, hB8⟩
    | true =>
      have hwy := hf2 rfl
      clear hf2
      by_cases hm200 : 200 < mn
      · go_wp2
        go_ret
        exact ⟨rfl, hB8⟩
      · by_cases hd3 : 3000 < dn
        · go_wp2
          go_ret
          exact ⟨rfl, hB8⟩
        · have z0 := hb8.cell 0
          have z1 := hb8.cell 1
          have z2 := hb8.cell 2
          go_wp2_with fail
          ((with_reducible refine (Encode_calls x ⟨by omega⟩ S w7 A n c B q q' hX8).mono ?_); rintro e w9 ⟨A3, n3, c3, rfl, ho3, hB9⟩)
          have hBA := below_then hB8 hB8.size hB9
          have hbA := hb8.below hB9
          have hbB := hb9.below hB9
          clear z0 z1 z2
          have z0 := hbB.cell 0
          have z1 := hbB.cell 1
          have z2 := hbB.cell 2
          go_wp2_with fail
          ((with_reducible refine (Encode_calls y ⟨by omega⟩ S w9 A2 n2 c2 B2 q2 q2' (hY8.below hB9)).mono ?_); rintro e w10 ⟨A4, n4, c4, rfl, ho4, hB10⟩)
          have hBC := below_then hBA hBA.size hB10
          have hbC := hbA.below hB10
          have hbD := hbB.below hB10
          have hoA := ho3.below hB10
          have hx10 := (hX8.below hB9).below hB10
          have hy10 := (hY8.below hB9).below hB10
          have hm10 := (hM8.below hB9).below hB10
          have hd10 := (hD8.below hB9).below hB10
          have hso := ho3.bsT.bds
          have ho3c := ho3.below hB10
          have ho4c := ho4
          clear hX8 hY8 hM8 hD8 hb8 hb9 hB8 hbA hbB hBA ho3 hB9 hB10 z0 z1 z2
          have hrefl : Below w10.heap.size w10 w10 := Below.refl _ _
          go_upto_if 50 with (fail)
          go_cut [10, 13, 14, 15, 16, 17] (fun s10 s13 s14 s15 s16 s17 wx => s10 = .int .i64 ((encI x).2 : Int) ∧ Below w10.heap.size w10 wx)
          case first =>
            by_cases hfx : (encI x).2 = 0
            · have hE : encI x = ((encI x).1, 0) := Prod.ext rfl hfx
              have hdec := dec_enc hE
              obtain ⟨mz, hsz, hal, hap⟩ := enc_put hE
              have hpl := putI_len x (by omega)
              rw [← hap] at hpl
              have hoL := hoA.len
              have hfst := first_enc (more := more) hE (by have := hml.out; omega)
              rw [← hoL] at hpl hfst
              have hself := eqI_self hfx
              have hsame : sameI x x = true := (sameI_iff x x).2 rfl
              have hwx5 : Sec (wt x < 256 ^ 5) := ⟨by omega⟩
              clear hsz hap hal hE hoL
              have HFX := Sec.mk hfx
              rw [hfx]
              clear hfx
              have hoS : Bs (fun _ => True) w10 A3 n3 c3 (encI x).1 := hoA.bsT
              generalize (encI x).1 = a at hdec hfst hoS hoA
              have hDC := Decode_calls _ w10 A3 n3 c3 a hoS
              rw [hdec] at hDC
              have HDC := Sec.mk hDC; have HF := Sec.mk hfst; have HS := Sec.mk hself; have HSM := Sec.mk hsame
              clear hDC hfst hself hsame hdec
              go_wp2_with fail
              ((with_reducible refine HDC.out.mono ?_); rintro e w11 ⟨A5, n5, c5, B5, q5, q6, rfl, hm5, hB11⟩)
              have hR11 := Blk.new w11 25 #[.bool x.list, .slice A5 n5 c5, .slice B5 q5 q6]
              have hB12 := hB11.alloc hB11.size (.cells #[.bool x.list, .slice A5 n5 c5, .slice B5 q5 q6] 25)
              have hoW := (hoS.below hB11).alloc (.cells #[.bool x.list, .slice A5 n5 c5, .slice B5 q5 q6] 25)
              have hmW := (hm10.below hB11).alloc (.cells #[.bool x.list, .slice A5 n5 c5, .slice B5 q5 q6] 25)
              have hI5 := hm5.alloc (.cells #[.bool x.list, .slice A5 n5 c5, .slice B5 q5 q6] 25)
              go_wp2_with (first
                | (at_builtin; go_loud (refine wpList_append_bytes _ rfl (.const (.slice none 0 0)) (.tmp 57) 22 rfl (w11.alloc (.cells #[.bool x.list, .slice A5 n5 c5, .slice B5 q5 q6] 25)).heap.size Try.underlying22 info5 none 0 0 [] rfl (Ob.nil _ _) (fun _ => True) A3 n3 c3 a rfl hoW ?c1 ?c2 ?_); (case c1 => unfold LIM; omega); (case c2 => exact Nat.le_refl _); intro A6 c6 w12 ho6 hbl6 hg6 hat6; rw [Nat.zero_add] at ho6 ⊢; rw [List.nil_append] at ho6)
                | (at_builtin; go_loud (refine wpList_append_bytes _ rfl (.tmp 58) (.tmp 59) 22 rfl (w11.alloc (.cells #[.bool x.list, .slice A5 n5 c5, .slice B5 q5 q6] 25)).heap.size Try.underlying22 info5 A6 n3 c6 a rfl ho6 S M mn mc more rfl (hmW.below hbl6) ?c3 ?c4 ?_); (case c3 => unfold LIM; omega); (case c4 => exact hbl6.size); intro A7 c7 w13 ho7 hbl7 hg7 hat7))
              have hFC := First_calls _ w13 A7 (n3 + mn) c7 (a ++ more) ho7.bsT
              rw [HF.out] at hFC
              have HFC := Sec.mk hFC; clear hFC
              have hBX := hbl6.trans hbl7
              have hB13 := below_then hB12 hB12.size hBX
              have hR13 := hR11.below hBX
              have hI13 := hI5.below hBX
              clear hR11 hB12 hoW hmW hI5 hbl6 hg6 hat6 hbl7 hg7 hat7 hBX hoS ho6 ho7
              go_wp2_with fail
              ((with_reducible refine HFC.out.mono ?_); rintro e w14 ⟨A8, n8, c8, B8, q8, q9, rfl, hm8, hB14⟩)
              have hR15 := Blk.new w14 25 #[.bool x.list, .slice A8 n8 c8, .slice B8 q8 q9]
              have hB15 := (below_then hB13 hB13.size hB14).alloc (by have := hB13.size; have := hB14.size; omega) (.cells #[.bool x.list, .slice A8 n8 c8, .slice B8 q8 q9] 25)
              have hR14 := (hR13.below hB14).alloc (.cells #[.bool x.list, .slice A8 n8 c8, .slice B8 q8 q9] 25)
              have hI14 := (hI13.below hB14).alloc (.cells #[.bool x.list, .slice A8 n8 c8, .slice B8 q8 q9] 25)
              have hI15 := hm8.alloc (.cells #[.bool x.list, .slice A8 n8 c8, .slice B8 q8 q9] 25)
              clear hR13 hI13 hB13 hm8 HFC HDC hm5
              have hx15 := hx10.below hB15
              have hb15 := hbC.below hB15
              have hS1 := Same_calls x x S _ _ A n c B q q' A5 n5 c5 B5 q5 q6 hx15 hI14
              rw [HSM.out] at hS1
              have HS1 := Sec.mk hS1; clear hS1
              have k0 := hb15.cell 0
              have k1 := hb15.cell 1
              have k2 := hb15.cell 2
              have l0 := hR14.cell 0
              have l1 := hR14.cell 1
              have l2 := hR14.cell 2
              go_wp2_with fail
              ((with_reducible refine HS1.out.mono ?_); rintro e w16 ⟨rfl, hB16⟩)
              have hB17 := below_then hB15 hB15.size hB16
              have hx17 := hx15.below hB16
              have hI17 := hI14.below hB16
              have hJ17 := hI15.below hB16
              have hb17 := hb15.below hB16
              have hR17 := hR14.below hB16
              have hR18 := hR15.below hB16
              clear k0 k1 k2 l0 l1 l2 HS1 hB15 hx15 hI14 hI15 hb15 hR14 hR15 hB16
              have k0 := hb17.cell 0
              have k1 := hb17.cell 1
              have k2 := hb17.cell 2
              have l0 := hR17.cell 0
              have l1 := hR17.cell 1
              have l2 := hR17.cell 2
              have hE1 := Equal2_calls x x hwx5 hwx5 S _ _ A n c B q q' A5 n5 c5 B5 q5 q6 hx17 hI17
              rw [HS.out] at hE1
              have HE1 := Sec.mk hE1; clear hE1
              go_wp2_with fail
              ((with_reducible refine HE1.out.mono ?_); rintro e w18 ⟨rfl, hB18⟩)
              have hB19 := below_then hB17 hB17.size hB18
              have hx19 := hx17.below hB18
              have hJ19 := hJ17.below hB18
              have hb19 := hb17.below hB18
              have hR19 := hR18.below hB18
              clear k0 k1 k2 l0 l1 l2 HE1 hB17 hx17 hI17 hJ17 hb17 hR17 hR18 hB18
              have k0 := hb19.cell 0
              have k1 := hb19.cell 1
              have k2 := hb19.cell 2
              have l0 := hR19.cell 0
              have l1 := hR19.cell 1
              have l2 := hR19.cell 2
              have hS2 := Same_calls x x S _ _ A n c B q q' A8 n8 c8 B8 q8 q9 hx19 hJ19
              rw [HSM.out] at hS2
              have HS2 := Sec.mk hS2; clear hS2
              go_wp2_with fail
              ((with_reducible refine HS2.out.mono ?_); rintro e w20 ⟨rfl, hB20⟩)
              go_wp2_with fail
              go_meet
              exact ⟨by rw [HFX.out]; rfl, below_then hB19 hB19.size hB20⟩
            · have hfx' : ((((encI x).2 : Nat) : Int) == 0) = false := by simp; exact hfx
              clear hfx
              go_wp2_with fail
              go_meet
              exact ⟨rfl, hrefl⟩
          case rest =>
            obtain ⟨rfl, hW⟩ := hcut
            have hoA1 := (ho3c.below hW)
            have hoB1 := (ho4c.below hW)
            have hx1 := hx10.below hW
            have hy1 := hy10.below hW
            have hd1 := hd10.below hW
            have hbx1 := hbC.below hW
            have hby1 := hbD.below hW
            have hBW := below_then hBC hBC.size hW
            clear hoA ho4 hx10 hy10 hm10 hd10 hbC hbD hBC hW hrefl ho3c ho4c hso
            have hex : encI x = ((encI x).1, (encI x).2) := rfl
            have hey : encI y = ((encI y).1, (encI y).2) := rfl
            have heq : Sec (eqI x y = (decide ((encI x).2 = 0) && (decide ((encI y).2 = 0) && decide ((encI x).1 = (encI y).1)))) := ⟨rfl⟩
            have HPF : Sec (∀ a a2 : List UInt8, (encI x).1 = a → (encI y).1 = a2 → (encI x).2 = 0 → (encI y).2 = 0 → a.length < a2.length → a2.take a.length ≠ a) :=
              ⟨fun a a2 h1 h2 h3 h4 hl => prefix_free (Prod.ext h1 h3) (Prod.ext h2 h4) hl⟩
            generalize (encI x).1 = a at *
            generalize (encI x).2 = f at *
            generalize (encI y).1 = a2 at *
            generalize (encI y).2 = f2 at *
            clear hex hey
            have g1 : Below wc.heap.size wc wc := Below.refl _ _
            go_upto_region 14 with fail
            go_cut [10, 12, 123] (fun s10 s12 s123 wx => s10 = .int .i64 (f : Int) ∧ s12 = .int .i64 (f2 : Int) ∧ s123 = .bool false ∧ Below wc.heap.size wc wx)
            case first =>
              by_cases hf0 : f = 0
              · by_cases hf20 : f2 = 0
                · by_cases hlt : n3 < n4
                  · have hA := hoA1.bsT
                    have hB := hoB1.bsT
                    have hne : a2.take n3 ≠ a := by
                      have h1 := hoA1.len
                      have h2 := hoB1.len
                      rw [h1]
                      exact HPF.out a a2 rfl rfl hf0 hf20 (by omega)
                    have hbb := hB.bds
                    have ha := hA.bds
                    have cb' : ((bstr (a2.take n3)).toList == (bstr a).toList) = false := by rw [bstr_beq]; simp [hne]
                    have k1 := run_conv_bs (hB.take (Nat.le_of_lt hlt)) 22 9 Try.underlying22 Try.underlying5 Try.underlying9
                    have k2 := run_conv_bs hA 22 9 Try.underlying22 Try.underlying5 Try.underlying9
                    have k3 := fun m => run_conv_bs ((hB.take (Nat.le_of_lt hlt)).below (below_drewN (Below.refl _ _) m)) 22 9 Try.underlying22 Try.underlying5 Try.underlying9
                    have k4 := fun m => run_conv_bs (hA.below (below_drewN (Below.refl _ _) m)) 22 9 Try.underlying22 Try.underlying5 Try.underlying9
                    obtain ⟨t1, t2, t3⟩ := hbb
                    obtain ⟨t4, t5, t6⟩ := ha
                    have HF0 := Sec.mk hf0; have HF20 := Sec.mk hf20
                    rw [hf0, hf20]
                    clear hf0 hf20 hne
                    go_quiet (fail)
                    go_wp2
                    go_meet
                    exact ⟨by rw [HF0.out] <;> rfl, by rw [HF20.out] <;> rfl, rfl, below_drewN g1 nq⟩
                  · have HF0 := Sec.mk hf0; have HF20 := Sec.mk hf20
                    rw [hf0, hf20]
                    clear hf0 hf20
                    go_quiet (fail)
                    go_wp2
                    go_meet
                    exact ⟨by rw [HF0.out] <;> rfl, by rw [HF20.out] <;> rfl, rfl, below_drewN g1 nq⟩
                · have hf2' : ((f2 : Int) == 0) = false := by simp; exact hf20
                  have HF0 := Sec.mk hf0
                  rw [hf0]
                  clear hf0 hf20
                  go_quiet (fail)
                  go_wp2
                  go_meet
                  exact ⟨by rw [HF0.out] <;> rfl, rfl, rfl, below_drewN g1 nq⟩
              · have hf1' : ((f : Int) == 0) = false := by simp; exact hf0
                clear hf0
                go_quiet (fail)
                go_wp2
                go_meet
                exact ⟨rfl, rfl, rfl, below_drewN g1 nq⟩
            case rest =>
              obtain ⟨rfl, rfl, rfl, hW2⟩ := hcut
              have hoA2 := hoA1.below hW2
              have hoB2 := hoB1.below hW2
              have hx2 := hx1.below hW2
              have hy2 := hy1.below hW2
              have hd2 := hd1.below hW2
              have hbx2 := hbx1.below hW2
              have hby2 := hby1.below hW2
              have hBW2 := below_then hBW hBW.size hW2
              clear hoA1 hoB1 hx1 hy1 hd1 hbx1 hby1 hBW HPF g1 hW2
              have g1 : Below wc.heap.size wc wc := Below.refl _ _
              go_upto_region 16 with fail
              go_cut [10, 12, 140] (fun s10 s12 s140 wx => s10 = .int .i64 (f : Int) ∧ s12 = .int .i64 (f2 : Int) ∧ s140 = .bool false ∧ Below wc.heap.size wc wx)
              case first =>
                have z0 := hbx2.cell 0
                have z1 := hbx2.cell 1
                have z2 := hbx2.cell 2
                have y0 := hby2.cell 0
                have y1 := hby2.cell 1
                have y2 := hby2.cell 2
                have hEC := Equal2_calls x y ⟨by omega⟩ ⟨by omega⟩ S S wc A n c B q q' A2 n2 c2 B2 q2 q2' hx2 hy2
                have ka := fun W (h : Below wc.heap.size wc W) => run_conv_bs (hoA2.bsT.below h) 22 9 Try.underlying22 Try.underlying5 Try.underlying9
                have kb := fun W (h : Below wc.heap.size wc W) => run_conv_bs (hoB2.bsT.below h) 22 9 Try.underlying22 Try.underlying5 Try.underlying9
                by_cases hf0 : f = 0
                · by_cases hf20 : f2 = 0
                  · by_cases hab : a = a2
                    · have hev : eqI x y = true := by rw [heq.out]; simp [hf0, hf20, hab]
                      have cb' : ((bstr a).toList == (bstr a2).toList) = true := by rw [bstr_beq]; simp [hab]
                      rw [hev] at hEC
                      have HEC := Sec.mk hEC
                      have HF0 := Sec.mk hf0; have HF20 := Sec.mk hf20
                      have HKA := Sec.mk ka; have HKB := Sec.mk kb
                      rw [hf0, hf20]
                      clear hf0 hf20 hab hev ka kb hEC
                      go_wp2_with fail
                      ((with_reducible refine HEC.out.mono ?_); rintro e w6 ⟨rfl, hB6⟩)
                      have k1 := HKA.out _ hB6
                      have k2 := HKB.out _ hB6
                      go_wp2
                      go_meet
                      exact ⟨by rw [HF0.out] <;> rfl, by rw [HF20.out] <;> rfl, rfl, hB6⟩
                    · have hev : eqI x y = false := by rw [heq.out]; simp [hab]
                      have cb' : ((bstr a).toList == (bstr a2).toList) = false := by rw [bstr_beq]; simp [hab]
                      rw [hev] at hEC
                      have HEC := Sec.mk hEC
                      have HF0 := Sec.mk hf0; have HF20 := Sec.mk hf20
                      have HKA := Sec.mk ka; have HKB := Sec.mk kb
                      rw [hf0, hf20]
                      clear hf0 hf20 hab hev ka kb hEC
                      go_wp2_with fail
                      ((with_reducible refine HEC.out.mono ?_); rintro e w6 ⟨rfl, hB6⟩)
                      have k1 := HKA.out _ hB6
                      have k2 := HKB.out _ hB6
                      go_wp2
                      go_meet
                      exact ⟨by rw [HF0.out] <;> rfl, by rw [HF20.out] <;> rfl, rfl, hB6⟩
                  · have hev : eqI x y = false := by rw [heq.out]; simp [hf20]
                    have hf2' : ((f2 : Int) == 0) = false := by simp; exact hf20
                    rw [hev] at hEC
                    have HEC := Sec.mk hEC
                    have HF0 := Sec.mk hf0
                    rw [hf0]
                    clear hf0 hf20 hev ka kb hEC
                    go_wp2_with fail
                    ((with_reducible refine HEC.out.mono ?_); rintro e w6 ⟨rfl, hB6⟩)
                    go_wp2
                    go_meet
                    exact ⟨by rw [HF0.out] <;> rfl, rfl, rfl, hB6⟩
                · have hev : eqI x y = false := by rw [heq.out]; simp [hf0]
                  have hf1' : ((f : Int) == 0) = false := by simp; exact hf0
                  rw [hev] at hEC
                  have HEC := Sec.mk hEC
                  clear hf0 hev ka kb hEC
                  go_wp2_with fail
                  ((with_reducible refine HEC.out.mono ?_); rintro e w6 ⟨rfl, hB6⟩)
                  go_wp2
                  go_meet
                  exact ⟨rfl, rfl, rfl, hB6⟩
              case rest =>
                obtain ⟨rfl, rfl, rfl, hW3⟩ := hcut
                have hd3' := hd2.below hW3
                have hBW3 := below_then hBW2 hBW2.size hW3
                clear hoA2 hoB2 hx2 hy2 hd2 hbx2 hby2 hBW2 g1 hW3
                have hDC := Decode_calls S wc D dn dc b hd3'
                have hdb := @dec_back b
                generalize decI b = R at hDC hdb
                obtain ⟨z, ez⟩ := R
                have HDC := Sec.mk hDC; clear hDC
                by_cases hez : ez = 0
                · subst hez
                  obtain ⟨hz1, hz2, hz3⟩ := hdb rfl
                  have hwz : wt z < 256 ^ 5 := by have := hdl.out; omega
                  have HZ1 := Sec.mk hz1
                  clear hdb hz1 hz2 hz3
                  go_wp2_with fail
                  ((with_reducible refine HDC.out.mono ?_); rintro e w6 ⟨A5, n5, c5, B5, q5, q6, rfl, hm5, hB6⟩)
                  have hB7 := below_then hBW3 hBW3.size hB6
                  have hd7 := (hd3'.below hB6).alloc (.cells #[.bool z.list, .slice A5 n5 c5, .slice B5 q5 q6] 25)
                  have hB8 := hB7.alloc hB7.size (.cells #[.bool z.list, .slice A5 n5 c5, .slice B5 q5 q6] 25)
                  have hEC := Encode_calls z ⟨hwz⟩ _ _ A5 n5 c5 B5 q5 q6 (hm5.alloc (.cells #[.bool z.list, .slice A5 n5 c5, .slice B5 q5 q6] 25))
                  rw [HZ1.out] at hEC
                  have HEC := Sec.mk hEC; clear hEC
                  go_wp2_with fail
                  ((with_reducible refine HEC.out.mono ?_); rintro e w9 ⟨A6, n6, c6, rfl, ho6, hB9⟩)
                  have hBy := Bytes_calls w9 ho6.bsT (hd7.below hB9)
                  rw [show decide (b = b) = true from by simp] at hBy
                  have HBY := Sec.mk hBy; clear hBy
                  go_wp2_with (go_at_call 11; (with_reducible refine HBY.out.mono ?_); rintro e w10 ⟨rfl, rfl⟩)
                  go_ret
                  exact ⟨rfl, below_then hB8 hB8.size hB9⟩
                · have hez' : ((ez : Int) != 0) = true := by simp; exact hez
                  clear hez hdb
                  go_wp2_with fail
                  ((with_reducible refine HDC.out.mono ?_); rintro e w6 ⟨A5, n5, c5, B5, q5, q6, rfl, hm5, hB6⟩)
                  have hB7 := below_then hBW3 hBW3.size hB6
                  have hB8 := hB7.alloc hB7.size (.cells #[.bool z.list, .slice A5 n5 c5, .slice B5 q5 q6] 25)
                  go_wp2
                  go_ret
                  exact ⟨rfl, by first | exact hB8 | exact hB7⟩
end Go.Proofs.Ytlpmnhnlhleogaa
