/- The law MemLevels: the walk. -/
import Derived.Test.YtimeehjbifbfgaaPo
import Derived.StillTailTactics
import Derived.IntWalk
namespace Go.Proofs.Ytimeehjbifbfgaa
open Go.RowKit Go.Mo
set_option linter.unusedVariables false
set_option linter.unusedSimpArgs false

theorem Ar.ints {S : Nat → Prop} {w : World} {A : Option Addr} {n c : Nat} {l : List Int} (h : Ar repI S w A n c l) (hn : n ≤ 4294967296) : Bi S w A n c l := by
  obtain ⟨xs, h1, h2⟩ := h.2.2.2.2
  exact ⟨h.len, h.le, hn, h.max, repI_reps h2 ▸ h1⟩

theorem qsame {P : Program} {f : FuncId} {args : Array Value} {w : World} {n : Nat} {v : Value} (h : Calls P f args (w.drewN n) fun e w' => e = .returned v ∧ w.drewN n = w') :
    Calls P f args (w.drewN n) fun e w'' => e = .returned v ∧ ∃ m, w'' = w.drewN m := Calls.quiet_of_same (h.mono fun _ _ ⟨a, b⟩ => ⟨a, b.symm⟩)
/-- Are two byte slices the same, asked in a region that draws? -/
theorem HBytes_quiet {S S' : Nat → Prop} {w : World} {A A' : Option Addr} {n c n' c' : Nat} {l m : List UInt8} (h : Bs S w A n c l) (h' : Bs S' w A' n' c' m) {b : Bool} (hb : decide (l = m) = b) :
    Sec (∀ k, Calls Try.prog 20 #[.slice A n c, .slice A' n' c'] (w.drewN k) fun e w'' => e = .returned (.bool b) ∧ ∃ m, w'' = w.drewN m) :=
  ⟨fun k => qsame (hb ▸ HBytes_calls (w.drewN k) (h.drewN k) (h'.drewN k))⟩

set_option maxRecDepth 100000 in
set_option maxHeartbeats 4000000 in
theorem MemLevels_calls {S S' : Nat → Prop} (w : World) (A : Option Addr) (n c : Nat) (hs : List Int) (hh : Ar repI S w A n c hs) (B : Option Addr) (m d : Nat) (l : List Ent) (hl : Ar repEnt S' w B m d l) :
    Calls Try.prog 4 #[.slice A n c, .slice B m d] w fun e w' => e = .returned (.bool true) ∧ Below w.heap.size w w' := by
  have hK := known_calls w
  obtain ⟨b1, b2, b3⟩ := hh.bds
  obtain ⟨d1, d2, d3⟩ := hl.bds
  have HK := Sec.mk hK; clear hK
  have hF := fun (w2 : World) (hb : Below w.heap.size w w2) => few_calls w2 B m d l (hl.below hb)
  have HF := Sec.mk hF; clear hF
  have HB := Sec.mk (fewI_iff l)
  cases hfew : fewI l with
  | false =>
    rw [hfew] at HF
    clear hfew
    go_enter Try.func4, Try.ntmps4
    go_wp2_with (go_at_call 16; (with_reducible refine HK.out.mono ?_); rintro e w2 ⟨rfl, hb2⟩)
    ((with_reducible refine (HF.out w2 hb2).mono ?_); rintro e w3 ⟨rfl, rfl⟩)
    go_wp2
    go_ret
    exact ⟨rfl, hb2⟩
  | true =>
    obtain ⟨h60, hall⟩ := HB.out.1 hfew
    rw [hfew] at HF
    have H60 := Sec.mk h60; have HALL := Sec.mk hall
    have hm60 : m ≤ 60 := by rw [hl.len]; exact h60
    clear hfew h60 hall
    by_cases hn : n ≤ 40
    · go_enter Try.func4, Try.ntmps4
      go_wp2_with (go_at_call 16; (with_reducible refine HK.out.mono ?_); rintro e w2 ⟨rfl, hb2⟩)
      ((with_reducible refine (HF.out w2 hb2).mono ?_); rintro e w3 ⟨rfl, rfl⟩)
      go_wp2_with (fail)
      ((with_reducible refine (New_calls w2 (Ar.ints (hh.below hb2) (by omega))).mono ?_); rintro e w4 ⟨t, rfl, ht, hTab, hb4⟩)
      have hb24 := below_then hb2 hb2.size hb4
      have hs24 := hb2.size
      go_wp2_with (fail)
      go_loopg [6] m (fun r v6 w' => ∃ i : Nat, v6 = .int .i64 (i : Int) ∧ i ≤ m ∧ m ≤ i + r ∧ Below w.heap.size w w' ∧ ∃ F, Sec (∀ b, F b → w.heap.size ≤ b) ∧ Sec (TabE F w' t hs (putsE hs (l.take i))))
      case atStart => exact ⟨0, rfl, by omega, by omega, hb24, _, ⟨fun b hb => by have := hb.1; omega⟩, ⟨[], hTab, rfl⟩⟩
      case round =>
        clear hTab
        obtain ⟨i, rfl, hi, hr, hb, F, hF, hT⟩ := hrel
        by_cases hlt : i < m
        · obtain ⟨ad, A1, n1, c1, B1, q1, e1, rfl, z0, z1, z2, z3, hu, hv⟩ := (hl.below hb).atE hlt
          obtain ⟨u1, u2, u3⟩ := hu.bds
          obtain ⟨v1, v2, v3⟩ := hv.bds
          obtain ⟨o1, o2, o3⟩ := puts_ok hs (l.take i)
          have hli : (l.take i).length ≤ 60 := by rw [List.length_take]; have := H60.out; omega
          have hstep := Sec.mk (putsE_snoc hs (l := l) (k := i) (by rw [← hl.len]; exact hlt))
          have hP := Put_calls wr.drew t hs _ (hT.out.agree (w' := wr.drew) fun _ _ _ => rfl) o1 (by omega) (by omega) _ _ _ _ hu.drew (l.getD i ent0).seq _ rfl (l.getD i ent0).kind _ _ _ _ hv.drew
          have HP := Sec.mk hP; clear hP o1 o2 o3 hli
          generalize ((l.getD i ent0).seq : Int) = sq at z2 HP
          obtain ⟨kd, hkd⟩ : ∃ kd, kd = (l.getD i ent0).kind := ⟨_, rfl⟩
          rw [← hkd] at z3 HP
          have HKD := Sec.mk hkd; clear hkd
          go_wp2_with (fail)
          go_still_tail 21, (by kernel_rfl)
          go_wp2_with (fail)
          ((with_reducible refine HP.out.mono ?_); rintro e w6 ⟨rfl, hT6, hK6⟩)
          have hb6 := hK6.below (below_drewN hb 1) hF.out hb.size
          have hbs := hb.size
          go_wp2_with (fail)
          go_roundg (gk - 1)
          case measure => omega
          case rel =>
            refine ⟨i + 1, by go_num, by omega, by omega, hb6, _, ⟨fun b hb' => ?_⟩, ⟨by rw [hstep.out]; unfold putOne; rw [← HKD.out]; exact hT6⟩⟩
            rcases hb' with h | h
            · exact hF.out b h
            · have : wr.drew.heap.size = wr.heap.size := rfl
              omega
        · have him : i = m := by omega
          subst him
          obtain ⟨o1, o2, o3⟩ := puts_ok hs l
          have hT' := hT.out
          rw [List.take_of_length_le (by rw [← hl.len]; omega)] at hT'
          generalize putsE hs l = E at hT' o1 o2 o3
          have hO := Sec.mk o1; clear o1
          have hEl : E.length ≤ 60 := by have := H60.out; omega
          have hL := LevelE_calls wr t hs E hT' (by omega) 0 0 rfl (by omega)
          have HL := Sec.mk hL; clear hL
          have HT := Sec.mk hT'; clear hT' hT
          go_wp2_with (fail)
          ((with_reducible refine HL.out.mono ?_); rintro e w7 ⟨A7, n7, c7, rfl, ho7, hb7⟩)
          have hT7 := HT.out.below hb7
          have hn7 := ho7.len
          rw [lev_zero hO.out] at hn7
          have hLn := LenE_calls w7 t hs E hT7
          rw [← hn7] at hLn
          have HLn := Sec.mk hLn; clear hLn
          have hAr7 := ho7.arT (by unfold LIM; omega)
          have HN7 := Sec.mk hn7; clear hn7
          have hn760 : n7 ≤ 60 := by rw [HN7.out]; exact hEl
          go_wp2_with (fail)
          ((with_reducible refine HLn.out.mono ?_); rintro e w8 ⟨rfl, rfl⟩)
          have hb77 := below_then hb hb.size hb7
          have HT7 := Sec.mk hT7; clear hT7
          clear HLn HL ho7 HT
          go_wp2_with (fail)
          obtain ⟨wo, rfl⟩ : ∃ wo : World, wo = wr := ⟨_, rfl⟩
          go_loopg [7, 8] 11 (fun r v7 v8 w' => ∃ (j : Nat) (A : Option Addr) (n c : Nat), v7 = .slice A n c ∧ v8 = .int .i64 ((j : Int) + 1) ∧ j ≤ 11 ∧ 11 ≤ j + r ∧ n ≤ 60 ∧ Ar repB (fun _ => True) w' A n c (levelE E j) ∧ Below w.heap.size w w' ∧ Sec (TabE F w' t hs E))
          case atStart => exact ⟨0, A7, n7, c7, rfl, by rfl, by omega, by omega, hn760, hAr7, hb77, HT7⟩
          case round =>
            clear HT7 hb77 hAr7 HN7 hn760 hb7
            obtain ⟨j, Ab, nb, cb, rfl, rfl, hj, hr2, hnb, hAb, hb8, hT8⟩ := hrel
            obtain ⟨wq, rfl⟩ : ∃ wq : World, wq = wr := ⟨_, rfl⟩
            by_cases hlt : j < 11
            · have hL := LevelE_calls wq t hs E hT8.out (by omega) (j + 1) ((j : Int) + 1) (by omega) (by omega)
              have HL := Sec.mk hL; clear hL
              go_wp2_with (fail)
              ((with_reducible refine HL.out.mono ?_); rintro e w9 ⟨A9, n9, c9, rfl, ho9, hb9⟩)
              have hl9 := lev_len E (j + 1)
              have hn9 : n9 ≤ 60 := by rw [ho9.len]; omega
              have hAr9 := ho9.arT (by unfold LIM; omega)
              have hAb9 := hAb.below hb9
              have hb89 := below_then hb8 hb8.size hb9
              have hT9 := Sec.mk (hT8.out.below hb9)
              have hL9 := Sec.mk ho9.len
              have hLb := Sec.mk hAb.len
              clear ho9 HL hl9
              go_wp2_with (fail)
              go_loopg [10, 11] n9 (fun r v10 v11 w' => ∃ (k a : Nat), v10 = .int .i64 (a : Int) ∧ v11 = .int .i64 (k : Int) ∧ k ≤ n9 ∧ n9 ≤ k + r ∧ a ≤ nb ∧ Sec (k < n9 → a ≤ plc E j k) ∧ Below w9.heap.size w9 w')
              case atStart => exact ⟨0, 0, rfl, rfl, by omega, by omega, by omega, ⟨fun _ => Nat.zero_le _⟩, Below.refl _ _⟩
              case round =>
                obtain ⟨k, a, rfl, rfl, hk, hr3, hab, hap, hbC⟩ := hrel
                obtain ⟨wc, rfl⟩ : ∃ wc : World, wc = wr := ⟨_, rfl⟩
                by_cases hkn : k < n9
                · have hp := plc_at hO.out (i := j) (k := k) (by rw [← hL9.out]; exact hkn)
                  have hpn : plc E j k < nb := by rw [hLb.out]; exact hp.1
                  have hap' := hap.out hkn
                  have HP := Sec.mk hp.2
                  clear hp
                  obtain ⟨ad9, A10, n10, c10, e10, hc10, hb10⟩ := (hAr9.below hbC).atB hkn
                  subst e10
                  have HNE := Sec.mk (fun (a : Nat) (h : a < plc E j k) => plc_ne hO.out (i := j) (k := k) (by rw [← hL9.out]; exact hkn) h)
                  have HMONO := Sec.mk (fun (h : k + 1 < n9) => plc_mono hO.out (i := j) (k := k) (by rw [← hL9.out]; exact h))
                  have HRISE := Sec.mk (fun (h : 0 < k) => lev_rises hO.out (i := j) (k := k - 1) (E := E) (by rw [← hL9.out]; omega))
                  generalize plc E j k = p at hpn hap' HP HNE HMONO
                  have hbCs := hbC.size
                  go_wp2_with (fail)
                  go_loopg [10] nb (fun r v10 w' => ∃ a : Nat, v10 = .int .i64 (a : Int) ∧ a ≤ p ∧ p ≤ a + r ∧ Below wc.heap.size wc w')
                  case atStart => exact ⟨a, rfl, hap', by omega, Below.refl _ _⟩
                  case round =>
                    clear hap' hap hab
                    obtain ⟨a, rfl, hap, hr4, hbD⟩ := hrel
                    have hb10' := hb10.below hbD
                    have hc10' := cell_later hbD hc10
                    obtain ⟨adb, A11, n11, c11, e11, hc11, hb11⟩ := ((hAb9.below hbC).below hbD).atB (k := a) (by omega)
                    subst e11
                    have hbDs := hbD.size
                    have hanb : a < nb := by omega
                    by_cases hlt2 : a < p
                    · have HE := HBytes_quiet hb11 hb10' (b := false) (by simp; exact HNE.out a hlt2)
                      go_wp2_with (fail)
                      go_quiet ((go_at_call 20; exact HE.out _))
                      go_wp2_with (fail)
                      go_roundg (p - (a + 1))
                      case measure => omega
                      case rel => exact ⟨a + 1, by go_num, by omega, by omega, below_drewN hbD nq⟩
                    · have hap2 : a = p := by omega
                      subst hap2
                      have HE := HBytes_quiet hb11 hb10' (b := true) (by simp; exact HP.out)
                      go_wp2_with (fail)
                      go_quiet ((go_at_call 20; exact HE.out _))
                      have hbE := below_drewN hbD nq
                      have hbE9 := below_then hbC hbC.size hbE
                      have hneq : ((a : Int) == (nb : Int)) = false := by simp; omega
                      by_cases hk0 : k = 0
                      · subst hk0
                        go_wp2_with (fail)
                        go_roundg (n9 - 1)
                        case measure => omega
                        case rel => exact ⟨1, a, by rfl, by rfl, by omega, by omega, by omega, ⟨fun h => HMONO.out h⟩, hbE9⟩
                      · obtain ⟨k', q1, hk'⟩ : ∃ k' : Nat, (k : Int) - 1 = (k' : Int) ∧ Sec (k - 1 = k' ∧ k = k' + 1) := ⟨k - 1, by omega, ⟨rfl, by omega⟩⟩
                        have i0 : k' < n9 := by have := hk'.out; omega
                        obtain ⟨ad12, A12, n12, c12, e12, hc12, hb12⟩ := ((hAr9.below hbC).below hbE).atB i0
                        obtain rfl : ad12 = ad9 := by injection e12 with e12; exact e12.symm
                        clear e12
                        have hR := HRISE.out (by omega)
                        rw [hk'.out.1, ← hk'.out.2] at hR
                        have hC := Compare_calls (wr.drewN nq).drew hb12.drew (hb10'.drewN nq).drew
                        rw [hR] at hC
                        have HC := Sec.mk hC; clear hC hR
                        have y1 : (wr.drewN nq).cell? (ad12.add k') = some (.slice A12 n12 c12) := hc12
                        have y2 : (wr.drewN nq).cell? (ad12.add k) = some (.slice A10 n10 c10) := hc10'
                        clear hc10' hc12 hc11 hc10
                        have hkpos : (0 : Int) < (k : Int) := by omega
                        go_wp2_with (fail)
                        generalize wr.drewN nq = wz at HC y1 y2 hbE9 ⊢
                        have i1 : (k' : Int) < (n9 : Int) := by omega
                        have i2 : (k : Int) < (n9 : Int) := by omega
                        have i3 : (0 : Int) ≤ (k' : Int) := by omega
                        have i6 : IntKind.i64.wrap (k' : Int) = (k' : Int) := IntWalk.i64_in _ (by omega)
                        go_region_held3 (fun w' => w'.cell? (ad12.add k') = some (.slice A12 n12 c12) ∧ w'.cell? (ad12.add k) = some (.slice A10 n10 c10)) (first | exact ⟨y1, y2⟩ | exact ⟨cell_later hbz y1, cell_later hbz y2⟩) (first | (go_at_call 24; (with_reducible refine HC.out.mono ?_); rintro e w20 ⟨rfl, hbz⟩))
                        all_goals
                          go_wp2_with (fail)
                          go_roundg (n9 - (k + 1))
                          case measure => omega
                          case rel => exact ⟨k + 1, a, by rfl, by go_num, by omega, by omega, by omega, ⟨fun h => HMONO.out h⟩, below_then (hbE9.drew) hbE9.size hbz⟩
                · have hkk : k = n9 := by omega
                  subst hkk
                  go_wp2_with (fail)
                  go_roundg (11 - (j + 1))
                  case measure => omega
                  case rel => exact ⟨j + 1, A9, k, c9, rfl, by go_num, by omega, by omega, hn9, hAr9.below hbC, below_then hb89 hb89.size hbC, ⟨hT9.out.below hbC⟩⟩
            · have hj11 : j = 11 := by omega
              subst hj11
              go_wp2_with (fail)
              go_ret
              exact ⟨rfl, hb8⟩
    · go_enter Try.func4, Try.ntmps4
      go_wp2_with (go_at_call 16; (with_reducible refine HK.out.mono ?_); rintro e w2 ⟨rfl, hb2⟩)
      ((with_reducible refine (HF.out w2 hb2).mono ?_); rintro e w3 ⟨rfl, rfl⟩)
      go_wp2
      go_ret
      exact ⟨rfl, hb2⟩
end Go.Proofs.Ytimeehjbifbfgaa
