/- The walks of a table of towers: ahead, before. -/
import Derived.Test.YtimeehjbifbfgaaCb
import Derived.Test.YtimeehjbifbfgaaTw
namespace Go.Proofs.Ytimeehjbifbfgaa
open Go.RowKit Go.Mo
set_option linter.unusedVariables false
set_option linter.unusedSimpArgs false
theorem info107 : (Try.prog.info? 107).map (·.size) = some 12 := by kernel_rfl

theorem ahead_calls {S S' : Nat → Prop} {A A' : Option Addr} {n c n' c' : Nat} {l m : List UInt8} (w : World) (h : Bs S w A n c l) (h' : Bs S' w A' n' c' m) :
    Calls Try.prog 97 #[.slice A n c, .slice A' n' c'] w fun e w' => e = .returned (.bool (decide ((compareI l m).1 < 0))) ∧ Below w.heap.size w w' := by
  have hC := Compare_calls w h h'
  generalize compareI l m = R at hC ⊢
  obtain ⟨v, f⟩ := R
  have HC := Sec.mk hC; clear hC
  go_enter Try.func97, Try.ntmps97
  go_wp2_with (go_at_call 24; (with_reducible refine HC.out.mono ?_); rintro e w2 ⟨rfl, hb⟩)
  go_ret
  exact ⟨rfl, hb⟩

set_option maxRecDepth 100000 in
set_option maxHeartbeats 4000000 in
theorem before_calls {F : Nat → Prop} (w : World) (t : Nat) (hs : Value) (n size : Nat) (N : List Nd) (hT : TwIn F w t hs n size N) (S : Nat → Prop) (A : Option Addr) (m c : Nat) (key : List UInt8) (hk : Bs S w A m c key)
    (p : Nat) (hp : p ≤ N.length) (h1 : Sec (∀ k d, k < p → N[k]? = some d → (compareI d.key key).1 < 0)) (h2 : Sec (∀ k d, p ≤ k → N[k]? = some d → 0 ≤ (compareI d.key key).1)) :
    Calls Try.prog 63 #[.pointer (some ⟨t, 0, none⟩), .slice A m c] w fun e w' =>
      e = .returned (.agg (row12 fun i => .pointer (some (adr t N (lastAt N i p))))) ∧ Below w.heap.size w w' := by
  have HT := Sec.mk hT; clear hT
  have hZ : Blk ((w.alloc (.cells (row12 fun _ => .pointer none) 107)).alloc (.cells (row12 fun _ => .pointer none) 107)) (w.heap.size + 1) 107 (row12 fun _ => .pointer none) := Blk.new' _ _ _ _ (by simp)
  have hY : Blk ((w.alloc (.cells (row12 fun _ => .pointer none) 107)).alloc (.cells (row12 fun _ => .pointer none) 107)) w.heap.size 107 (row12 fun _ => .pointer none) := (Blk.new _ _ _).alloc _
  have hB : Below w.heap.size w ((w.alloc (.cells (row12 fun _ => .pointer none) 107)).alloc (.cells (row12 fun _ => .pointer none) 107)) := ((Below.refl _ _).alloc (Nat.le_refl _) _).alloc (by simp) _
  generalize hf0 : (fun _ : Nat => Value.pointer none) = f0 at hZ hY hB
  go_enter Try.func63, Try.ntmps63
  go_wp2_with fail
  subst hf0
  unfold row12 at hZ hY hB
  generalize (w.alloc (.cells _ 107)).alloc (.cells _ 107) = W at hZ hY hB ⊢
  go_loopg [6, 7] 13 (fun r v6 v7 w' => ∃ (j a : Nat) (f : Nat → Value), v7 = .int .i64 ((j : Int) - 1) ∧ v6 = .pointer (some (adr t N a)) ∧ a ≤ p ∧ j ≤ 12 ∧ j ≤ r ∧ Sec (j = 0 ∨ isHi N a (j - 1) = true) ∧
    Blk w' (w.heap.size + 1) 107 (row12 f) ∧ Sec (∀ i, j ≤ i → i < 12 → f i = .pointer (some (adr t N (lastAt N i p)))) ∧ Blk w' w.heap.size 107 (row12 fun _ => .pointer none) ∧ Below w.heap.size w w')
  case atStart => exact ⟨12, 0, fun _ => .pointer none, by rfl, rfl, by omega, by omega, by omega, ⟨.inr rfl⟩, hZ, ⟨fun i h1 h2 => by omega⟩, hY, hB⟩
  case round =>
    obtain ⟨j, a, f, rfl, rfl, ha, hj, hr, hhi, hZ', hf, hY', hB'⟩ := hrel
    by_cases hj0 : j = 0
    · subst hj0
      have hrow : row12 f = row12 fun i => .pointer (some (adr t N (lastAt N i p))) := by
        unfold row12
        rw [hf.out 0 (by omega) (by omega), hf.out 1 (by omega) (by omega), hf.out 2 (by omega) (by omega), hf.out 3 (by omega) (by omega), hf.out 4 (by omega) (by omega), hf.out 5 (by omega) (by omega),
          hf.out 6 (by omega) (by omega), hf.out 7 (by omega) (by omega), hf.out 8 (by omega) (by omega), hf.out 9 (by omega) (by omega), hf.out 10 (by omega) (by omega), hf.out 11 (by omega) (by omega)]
      rw [hrow] at hZ'
      have z0 : wr.cell? ⟨w.heap.size + 1, 0, none⟩ = some (.pointer (some (adr t N (lastAt N 0 p)))) := (hZ'.cell 0).trans (row12_get _ (by omega))
      have z1 : wr.cell? ⟨w.heap.size + 1, 1, none⟩ = some (.pointer (some (adr t N (lastAt N 1 p)))) := (hZ'.cell 1).trans (row12_get _ (by omega))
      have z2 : wr.cell? ⟨w.heap.size + 1, 2, none⟩ = some (.pointer (some (adr t N (lastAt N 2 p)))) := (hZ'.cell 2).trans (row12_get _ (by omega))
      have z3 : wr.cell? ⟨w.heap.size + 1, 3, none⟩ = some (.pointer (some (adr t N (lastAt N 3 p)))) := (hZ'.cell 3).trans (row12_get _ (by omega))
      have z4 : wr.cell? ⟨w.heap.size + 1, 4, none⟩ = some (.pointer (some (adr t N (lastAt N 4 p)))) := (hZ'.cell 4).trans (row12_get _ (by omega))
      have z5 : wr.cell? ⟨w.heap.size + 1, 5, none⟩ = some (.pointer (some (adr t N (lastAt N 5 p)))) := (hZ'.cell 5).trans (row12_get _ (by omega))
      have z6 : wr.cell? ⟨w.heap.size + 1, 6, none⟩ = some (.pointer (some (adr t N (lastAt N 6 p)))) := (hZ'.cell 6).trans (row12_get _ (by omega))
      have z7 : wr.cell? ⟨w.heap.size + 1, 7, none⟩ = some (.pointer (some (adr t N (lastAt N 7 p)))) := (hZ'.cell 7).trans (row12_get _ (by omega))
      have z8 : wr.cell? ⟨w.heap.size + 1, 8, none⟩ = some (.pointer (some (adr t N (lastAt N 8 p)))) := (hZ'.cell 8).trans (row12_get _ (by omega))
      have z9 : wr.cell? ⟨w.heap.size + 1, 9, none⟩ = some (.pointer (some (adr t N (lastAt N 9 p)))) := (hZ'.cell 9).trans (row12_get _ (by omega))
      have z10 : wr.cell? ⟨w.heap.size + 1, 10, none⟩ = some (.pointer (some (adr t N (lastAt N 10 p)))) := (hZ'.cell 10).trans (row12_get _ (by omega))
      have z11 : wr.cell? ⟨w.heap.size + 1, 11, none⟩ = some (.pointer (some (adr t N (lastAt N 11 p)))) := (hZ'.cell 11).trans (row12_get _ (by omega))
      clear hrow hf
      go_wp2_with ((with_reducible refine gate (.store 107 (.tmp 4) (.tmp 44)) rfl ?_); go_loud (refine wpList_store_blk rfl 107 (.tmp 4) (.tmp 44) rfl _ 107 _ _ rfl rfl hY' rfl info107 rfl ?_); intro w2 hR2 hK2 hz2)
      refine bodyPost_cell0 Try.results63 rfl hR2 Try.underlying107 rfl info107 rfl ?_
      exact ⟨rfl, hK2.below hB' (Nat.le_refl _) hB'.size⟩
    · obtain ⟨i, rfl⟩ : ∃ i, j = i + 1 := ⟨j - 1, by omega⟩
      have hji : ((i + 1 : Nat) : Int) - 1 = (i : Int) := by omega
      rw [hji]
      clear hji hj0
      have hhi' : Sec (isHi N a i = true) := ⟨by rcases hhi.out with h | h; exact absurd h (by omega); exact h⟩
      clear hhi
      go_wp2_with fail
      go_loopg [6] p (fun r v6 w' => ∃ a : Nat, v6 = .pointer (some (adr t N a)) ∧ a ≤ p ∧ p ≤ a + r ∧ Sec (isHi N a i = true) ∧ Blk w' (w.heap.size + 1) 107 (row12 f) ∧ Blk w' w.heap.size 107 (row12 fun _ => .pointer none) ∧ Below w.heap.size w w')
      case atStart => exact ⟨a, rfl, ha, by omega, hhi', hZ', hY', hB'⟩
      case round =>
        clear hhi' hZ' hY' hB' ha a
        obtain ⟨a, rfl, ha, hr2, hhi, hZ', hY', hB'⟩ := hrel
        have hTr := HT.out.below hB'
        obtain ⟨B, O, hadr, hO⟩ := adr_form t N a
        have hlk := hTr.link (a := a) (i := i) (by omega) (by omega) hadr
        have hlv : lvIn N a i = lnk ((nextAt N a i).bind fun k => (N[k]?).map (·.g)) := by unfold lvIn; rw [if_pos hhi.out]
        rw [hlv] at hlk
        clear hlv
        rw [hadr]
        cases hnx : nextAt N a i with
        | none =>
          have hla : Sec (lastAt N i p = a) := ⟨lastAt_eq hhi.out ha fun j x hj _ hx => nextAt_none hnx j x hj hx⟩
          rw [hnx] at hlk
          have hlk' : wr.cell? ⟨B, O + 3 + i, none⟩ = some (.pointer none) := hlk
          have HADR := Sec.mk hadr
          clear hlk hnx hadr
          have hjs : Sec (i = 0 ∨ isHi N a (i - 1) = true) := ⟨.inr (isHi_pred hhi.out)⟩
          have hf2 : Sec (∀ j, i ≤ j → j < 12 → upd f i (.pointer (some ⟨B, O, none⟩)) j = .pointer (some (adr t N (lastAt N j p)))) := ⟨fun j h1 h2 => by
            unfold upd
            split
            · rename_i e; subst e; rw [hla.out, HADR.out]
            · exact hf.out j (by omega) h2⟩
          have hz1 := hZ'.frozen i
          have hz2 := hZ'.cell i
          rw [row12_get f (by omega)] at hz2
          have hset := hZ'.set i (.pointer (some ⟨B, O, none⟩))
          rw [row12_set f (by omega)] at hset
          go_wp2_with fail
          go_roundg i
          case measure => omega
          case rel => exact ⟨i, a, _, by go_num, by rw [HADR.out], ha, by omega, by omega, hjs, hset, hf2, hY'.far (by simp) _, hB'.setCell (by simp) _⟩
        | some k =>
          obtain ⟨hk1, d, hd, hdi, hno⟩ := nextAt_some hnx
          obtain ⟨Ak, mk, ck, Bk, qk, ek, hblk, hkey, hval⟩ := hTr.node k d hd
          rw [hnx] at hlk
          have hlk' : wr.cell? ⟨B, O + 3 + i, none⟩ = some (.pointer (some ⟨d.g, 0, none⟩)) := by rw [hlk]; simp [hd, lnk]
          have c0 : wr.cell? ⟨d.g, 0, none⟩ = some (.slice Ak mk ck) := hblk.cell 0
          have hah := ahead_calls wr hkey (hk.below hB')
          have HADR := Sec.mk hadr
          by_cases hkp : k < p
          · have hv := h1.out k d hkp hd
            rw [decide_eq_true hv] at hah
            have HAH := Sec.mk hah
            have hhi2 : Sec (isHi N (k + 1) i = true) := ⟨by simp only [isHi, hd]; simpa using hdi⟩
            have hadr2 : Sec (adr t N (k + 1) = ⟨d.g, 0, none⟩) := ⟨by simp only [adr, hd]⟩
            clear hlk hnx hah hv hno hd hadr
            go_wp2_with fail
            ((with_reducible refine HAH.out.mono ?_); rintro e w2 ⟨rfl, hb2⟩)
            have hlk2 := cell_later hb2 hlk'
            go_wp2_with fail
            go_roundg (gk - 1)
            case measure => omega
            case rel => exact ⟨k + 1, by rw [hadr2.out], by omega, by omega, hhi2, hZ'.below hb2, hY'.below hb2, below_then hB' hB'.size hb2⟩
          · have hv := h2.out k d (by omega) hd
            have hv' : ¬ (compareI d.key key).1 < 0 := by omega
            rw [decide_eq_false hv'] at hah
            have HAH := Sec.mk hah
            have hla : Sec (lastAt N i p = a) := ⟨lastAt_eq hhi.out ha fun j x hj hjp hx => hno j x hj (by omega) hx⟩
            clear hlk hnx hah hv hv' hno hd hadr
            go_wp2_with fail
            ((with_reducible refine HAH.out.mono ?_); rintro e w2 ⟨rfl, hb2⟩)
            have hZ2 := hZ'.below hb2
            have hB2 := below_then hB' hB'.size hb2
            have hjs : Sec (i = 0 ∨ isHi N a (i - 1) = true) := ⟨.inr (isHi_pred hhi.out)⟩
            have hf2 : Sec (∀ j, i ≤ j → j < 12 → upd f i (.pointer (some ⟨B, O, none⟩)) j = .pointer (some (adr t N (lastAt N j p)))) := ⟨fun j h1 h2 => by
              unfold upd
              split
              · rename_i e; subst e; rw [hla.out, HADR.out]
              · exact hf.out j (by omega) h2⟩
            have hz1 := hZ2.frozen i
            have hz2 := hZ2.cell i
            rw [row12_get f (by omega)] at hz2
            have hset := hZ2.set i (.pointer (some ⟨B, O, none⟩))
            rw [row12_set f (by omega)] at hset
            go_wp2_with fail
            go_roundg i
            case measure => omega
            case rel => exact ⟨i, a, _, by go_num, by rw [HADR.out], ha, by omega, by omega, hjs, hset, hf2, (hY'.below hb2).far (by simp) _, hB2.setCell (by simp) _⟩
end Go.Proofs.Ytimeehjbifbfgaa
