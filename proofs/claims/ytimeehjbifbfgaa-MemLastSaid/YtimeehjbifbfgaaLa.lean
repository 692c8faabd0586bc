/- The law MemLast: the walk. -/
import Derived.Test.YtimeehjbifbfgaaPn
namespace Go.Proofs.Ytimeehjbifbfgaa
open Go.RowKit Go.Mo
set_option linter.unusedVariables false
set_option linter.unusedSimpArgs false

set_option maxRecDepth 100000 in
set_option maxHeartbeats 4000000 in
theorem MemLast_calls {S S' : Nat → Prop} (w : World) (A : Option Addr) (n c : Nat) (vs : List (List UInt8)) (hv : Ar repB S w A n c vs) (B : Option Addr) (m d : Nat) (u : List UInt8) (hu : Bs S' w B m d u) :
    Calls Try.prog 3 #[.slice A n c, .slice B m d] w fun e w' => e = .returned (.bool true) ∧ Below w.heap.size w w' := by
  have hK := known_calls w
  obtain ⟨b1, b2, b3⟩ := hv.bds
  obtain ⟨d1, d2, d3⟩ := hu.bds
  by_cases hn : n ≤ 40
  · by_cases hm : m ≤ 128
    · have hul := Sec.mk (show u.length ≤ 128 from by rw [← hu.len]; exact hm)
      have hlen := Sec.mk hv.len
      have HK := Sec.mk hK; clear hK
      go_enter Try.func3, Try.ntmps3
      go_wp2_with (go_at_call 16; (with_reducible refine HK.out.mono ?_); rintro e w2 ⟨rfl, hb2⟩)
      have hI := Bi.lit w2 [1, 2, 1, 4] 4 rfl (by omega) #[.int .i64 1, .int .i64 2, .int .i64 1, .int .i64 4] rfl
      have hb3' := hb2.trans (((Below.refl w2.heap.size w2).alloc (Nat.le_refl _) (.cells #[.int .i64 1, .int .i64 2, .int .i64 1, .int .i64 4] 3)).mono hb2.size)
      generalize w2.alloc (.cells #[.int .i64 1, .int .i64 2, .int .i64 1, .int .i64 4] 3) = w3 at hI hb3' ⊢
      ((with_reducible refine (New_calls _ hI).mono ?_); rintro e w4 ⟨t, rfl, ht, hTab, hb4⟩)
      have hb34 := below_then hb3' hb3'.size hb4
      have hs34 := hb3'.size
      go_wp2_with (fail)
      go_loopg [6] n (fun r v6 w' => ∃ i : Nat, v6 = .int .i64 (i : Int) ∧ i ≤ n ∧ n ≤ i + r ∧ Below w.heap.size w w' ∧ ∃ F, Sec (∀ b, F b → w.heap.size ≤ b) ∧ Sec (TabE F w' t [1, 2, 1, 4] (lastE [1, 2, 1, 4] u vs i)) ∧ Sec (∀ j, j < i → (vs.getD j []).length ≤ 200))
      case atStart => exact ⟨0, rfl, by omega, by omega, hb34, _, ⟨fun b hb => by have := hb.1; omega⟩, ⟨[], hTab, rfl⟩, ⟨fun j hj => by omega⟩⟩
      case round =>
        clear hTab hI
        obtain ⟨i, rfl, hi, hr, hb, F, hF, hT, hvl⟩ := hrel
        obtain ⟨wo, rfl⟩ : ∃ wo : World, wo = wr := ⟨_, rfl⟩
        by_cases hlt : i < n
        · obtain ⟨ad, A', n', c', rfl, hc, hbs⟩ := (hv.below hb).atB hlt
          obtain ⟨e1, e2, e3⟩ := hbs.bds
          have hl' := Sec.mk hbs.len
          by_cases hn' : n' ≤ 200
          · have hO : OrdE (lastE [1, 2, 1, 4] u vs i) := lastE_ord' hul.out (fun j hj => by have := hvl.out j hj; omega) (by omega)
            have hO2 : OrdE (lastE [1, 2, 1, 4] u vs (i + 1)) := lastE_ord' hul.out (fun j hj => by
              rcases Nat.lt_or_ge j i with h | h
              · have := hvl.out j h; omega
              · have : j = i := by omega
                subst this; rw [← hl'.out]; omega) (by omega)
            have hsz : sizeE (lastE [1, 2, 1, 4] u vs i) ≤ 4294967296 := by
              have := sizeE_last' (hs := [1, 2, 1, 4]) (vs := vs) hul.out (i := i) (fun j hj => by have := hvl.out j hj; omega) (by omega)
              omega
            have hP := Put_calls wo t [1, 2, 1, 4] _ hT.out hO (by rw [lastE_len]; omega) hsz _ _ _ u (hu.below hb) (2 * i + 2) (2 * (i : Int) + 2) (by omega) 1 _ _ _ _ hbs
            rw [put_last hul.out (by omega) (by rw [← hl'.out]; omega)] at hP
            have HP := Sec.mk hP; clear hP hsz hO
            have HO := Sec.mk hO2; clear hO2
            go_wp2_with (fail)
            ((with_reducible refine HP.out.mono ?_); rintro e w6 ⟨rfl, hT6, hK6⟩)
            have hb6 := hK6.below hb hF.out hb.size
            have hF6 : Sec (∀ b, (F b ∨ (wo.heap.size ≤ b ∧ b < w6.heap.size)) → w.heap.size ≤ b) := ⟨fun b hb' => by
              rcases hb' with h | h
              · exact hF.out b h
              · have := hb.size; omega⟩
            have HT6 := Sec.mk hT6; clear hT6
            go_wp2_with (fail)
            go_loopg [7] (2 * i + 6) (fun r v7 w' => ∃ k : Nat, v7 = .int .u64 (k : Int) ∧ k ≤ 2 * i + 5 ∧ 2 * i + 6 ≤ k + r ∧ Below w.heap.size w w' ∧ Sec (TabE (fun b => F b ∨ (wo.heap.size ≤ b ∧ b < w6.heap.size)) w' t [1, 2, 1, 4] (lastE [1, 2, 1, 4] u vs (i + 1))))
            case atStart => exact ⟨0, rfl, by omega, by omega, hb6, HT6⟩
            case round =>
              clear HT6 HP hK6 hb6
              obtain ⟨k, rfl, hk, hr2, hb7, hT7⟩ := hrel
              have hG := GetE_calls wr t [1, 2, 1, 4] _ hT7.out HO.out _ _ _ u (hu.below hb7) k (k : Int) rfl
              have hb7s := hb7.size
              by_cases hk4 : k ≤ 2 * i + 4
              · by_cases hk2 : k < 2
                · rw [get_last hul.out (by omega) (by omega), if_pos hk2] at hG
                  have HG := Sec.mk hG; clear hG
                  have q0 : (k : Int) / 2 = 0 := by omega
                  go_wp2_with (fail)
                  ((with_reducible refine HG.out.mono ?_); rintro e w8 ⟨A8, n8, c8, rfl, ho8, hb8⟩)
                  go_wp2_with (fail)
                  go_roundg (2 * i + 6 - (k + 1))
                  case measure => omega
                  case rel => exact ⟨k + 1, by go_num, by omega, by omega, below_then hb7 hb7s hb8, ⟨hT7.out.below hb8⟩⟩
                · rw [get_last hul.out (by omega) (by omega), if_neg hk2] at hG
                  have HG := Sec.mk hG; clear hG
                  obtain ⟨a, ha, ha1⟩ : ∃ a : Nat, (k : Int) / 2 = (a : Int) + 1 ∧ k / 2 - 1 = a := ⟨k / 2 - 1, by omega, rfl⟩
                  have hk2' : 2 ≤ k := by omega
                  rw [ha1] at HG
                  have ha2 : a ≤ i + 1 := by omega
                  clear ha1 hk2
                  obtain ⟨ad2, A9, n9, c9, e9, hc9, hbs9⟩ := (hv.below hb7).atB (k := min a i) (by omega)
                  obtain rfl : ad2 = ad := by injection e9 with e9; exact e9.symm
                  clear e9
                  rcases Nat.lt_or_ge i a with hia | hia
                  · rw [show min a i = i from by omega] at HG hc9 hbs9
                    go_wp2_with (fail)
                    ((with_reducible refine HG.out.mono ?_); rintro e w8 ⟨A8, n8, c8, rfl, ho8, hb8⟩)
                    have hc10 := cell_later hb8 hc9
                    have hE := HBytes_calls w8 ho8.bsT (hbs9.below hb8)
                    rw [show decide (vs.getD i [] = vs.getD i []) = true from by simp] at hE
                    have HE := Sec.mk hE; clear hE
                    go_wp2_with (fail)
                    ((with_reducible refine HE.out.mono ?_); rintro e w9 ⟨rfl, rfl⟩)
                    go_wp2_with (fail)
                    go_roundg (2 * i + 6 - (k + 1))
                    case measure => omega
                    case rel => exact ⟨k + 1, by go_num, by omega, by omega, below_then hb7 hb7s hb8, ⟨hT7.out.below hb8⟩⟩
                  · rw [show min a i = a from by omega] at HG hc9 hbs9
                    go_wp2_with (fail)
                    ((with_reducible refine HG.out.mono ?_); rintro e w8 ⟨A8, n8, c8, rfl, ho8, hb8⟩)
                    have hc10 := cell_later hb8 hc9
                    have hE := HBytes_calls w8 ho8.bsT (hbs9.below hb8)
                    rw [show decide (vs.getD a [] = vs.getD a []) = true from by simp] at hE
                    have HE := Sec.mk hE; clear hE
                    go_wp2_with (fail)
                    ((with_reducible refine HE.out.mono ?_); rintro e w9 ⟨rfl, rfl⟩)
                    go_wp2_with (fail)
                    go_roundg (2 * i + 6 - (k + 1))
                    case measure => omega
                    case rel => exact ⟨k + 1, by go_num, by omega, by omega, below_then hb7 hb7s hb8, ⟨hT7.out.below hb8⟩⟩
              · clear hG
                go_wp2_with (fail)
                go_roundg (n - (i + 1))
                case measure => omega
                case rel => exact ⟨i + 1, by go_num, by omega, by omega, hb7, _, hF6, hT7, ⟨fun j hj => by
                  rcases Nat.lt_or_ge j i with h | h
                  · exact hvl.out j h
                  · have : j = i := by omega
                    subst this; rw [← hl'.out]; omega⟩⟩
          · go_wp2_with (fail)
            go_ret
            exact ⟨rfl, hb⟩
        · go_wp2_with (fail)
          go_ret
          exact ⟨rfl, hb⟩
    · go_enter Try.func3, Try.ntmps3
      go_wp2_with (go_at_call 16; (with_reducible refine hK.mono ?_); rintro e w2 ⟨rfl, hb2⟩)
      go_ret
      exact ⟨rfl, hb2⟩
  · go_enter Try.func3, Try.ntmps3
    go_wp2_with (go_at_call 16; (with_reducible refine hK.mono ?_); rintro e w2 ⟨rfl, hb2⟩)
    go_ret
    exact ⟨rfl, hb2⟩
end Go.Proofs.Ytimeehjbifbfgaa
