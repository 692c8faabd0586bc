/- What a head says: the walk of reads. -/
import Derived.Test.YtlpmnhnlhleogaaWc
namespace Go.Proofs.Ytlpmnhnlhleogaa
open Go.RowKit Go.Mo
set_option linter.unusedVariables false
set_option linter.unusedSimpArgs false

/-- Two blocks may have turned. -/
def Two (g1 g2 : Nat) (w w' : World) : Prop := w'.os = w.os ∧ w'.tape = w.tape ∧ w'.output = w.output ∧ w.heap.size ≤ w'.heap.size ∧ ∀ b, b < w.heap.size → b ≠ g1 → b ≠ g2 → w'.heap[b]? = w.heap[b]?
theorem Two.below {B g1 g2 : Nat} {w w' a : World} (hb : Below B a w) (h : Two g1 g2 w w') (h1 : B ≤ g1) (h2 : B ≤ g2) (hB : B ≤ w.heap.size) : Below B a w' :=
  hb.trans ⟨h.1, h.2.1, h.2.2.1, h.2.2.2.1, fun k hk => h.2.2.2.2 k (by omega) (by omega) (by omega)⟩

theorem long_calls (w : World) (gc gk gh : Nat) (c base k0 at0 n0 : Int) (l o t : Bool) (hc : Blk w gc 3 #[.int .i64 c]) (hk : Blk w gk 3 #[.int .i64 k0]) (hh : Blk w gh 51 #[.bool l, .int .i64 at0, .int .i64 n0, .bool o, .bool t])
    (n1 : gc ≠ gk) (n2 : gc ≠ gh) (n3 : gk ≠ gh) (hb0 : 0 ≤ base) (hb1 : base ≤ 192) (hc0 : base ≤ c) (hc1 : c ≤ 255) (kk nn : Int) (hkk : kk = if c - base ≤ 55 then 0 else c - base - 55) (hnn : nn = c - base) :
    Calls Try.prog 23 #[.int .i64 base, .pointer (some ⟨gc, 0, none⟩), .pointer (some ⟨gk, 0, none⟩), .pointer (some ⟨gh, 0, none⟩)] w fun e w' => e = .returned (.tuple #[]) ∧
      Blk w' gc 3 #[.int .i64 c] ∧ Blk w' gk 3 #[.int .i64 kk] ∧ Blk w' gh 51 #[.bool l, .int .i64 at0, .int .i64 nn, .bool o, .bool t] ∧ Two gk gh w w' := by
  subst hkk; subst hnn
  have c0 := hc.cell 0
  have k0 := hk.cell 0
  have h0 := hh.cell 0
  have h1 := hh.cell 1
  have h2 := hh.cell 2
  have f0 := hk.frozen 0
  have f2 := hh.frozen 2
  have HT : ∀ u v, Two gk gh w ((w.setCell ⟨gk, 0, none⟩ u).setCell ⟨gh, 2, none⟩ v) := fun u v =>
    ⟨rfl, rfl, rfl, by simp [World.setCell], fun b _ hb1 hb2 => (Below.heap_setCell _ _ _ _ hb2).trans (Below.heap_setCell _ _ _ _ hb1)⟩
  have HC : ∀ u v, Blk ((w.setCell ⟨gk, 0, none⟩ u).setCell ⟨gh, 2, none⟩ v) gc 3 #[.int .i64 c] := fun u v => (hc.far n1 u).far n2 v
  have HK : ∀ u v, Blk ((w.setCell ⟨gk, 0, none⟩ u).setCell ⟨gh, 2, none⟩ v) gk 3 #[u] := fun u v => (hk.set 0 u).far n3 v
  have HH : ∀ u v, Blk ((w.setCell ⟨gk, 0, none⟩ u).setCell ⟨gh, 2, none⟩ v) gh 51 #[.bool l, .int .i64 at0, v, .bool o, .bool t] := fun u v => (hh.far (fun e => n3 e.symm) u).set 2 v
  have HT' := Sec.mk HT
  have HC' := Sec.mk HC
  have HK' := Sec.mk HK
  have HH' := Sec.mk HH
  clear HT HC HK HH
  by_cases hcc : c - base ≤ 55
  · rw [if_pos hcc]
    go_enter Try.func23, Try.ntmps23
    go_wp2
    all_goals
      go_end0
      refine ⟨rfl, HC'.out _ _, ?_, HH'.out _ _, HT'.out _ _⟩
      first | exact HK'.out _ _ | (rw [show c - base - 55 = 0 from by omega]; exact HK'.out _ _)
  · rw [if_neg hcc]
    go_enter Try.func23, Try.ntmps23
    go_wp2
    all_goals
      go_end0
      exact ⟨rfl, HC'.out _ _, HK'.out _ _, HH'.out _ _, HT'.out _ _⟩

/-- The head that reads tells, as its five cells. -/
def hdV (h : Hd) : Value := .agg #[.bool h.list, .int .i64 (h.at_ : Int), .int .i64 (h.n : Int), .bool h.own, .bool false]

theorem info51 : (Try.prog.info? 51).map (·.size) = some 5 := by kernel_rfl


set_option maxHeartbeats 4000000 in
set_option maxRecDepth 100000 in
theorem reads_calls {S : Nat → Prop} {A : Option Addr} {n c : Nat} {b : List UInt8} (w : World) (h : Bs S w A n c b) (hn : 0 < n) :
    Calls Try.prog 21 #[.slice A n c] w fun e w' => e = .returned (.tuple #[hdV (readsI b), .int .i64 ((readsI b).err : Int)]) ∧ Below w.heap.size w w' := by
  obtain ⟨b1, b2, b3⟩ := h.bds
  obtain ⟨ad, rfl, k0⟩ := h.at hn
  rw [add_zero'] at k0
  have hlen := Sec.mk h.len
  have hv : ∃ v : Nat, v = (b.getD 0 0).toNat ∧ nb b 0 = (v : Int) ∧ v < 256 := ⟨_, rfl, rfl, (b.getD 0 0).toNat_lt⟩
  obtain ⟨v, hv1, hv2, hv3⟩ := hv
  rw [hv2] at k0
  clear hv2
  have HV := Sec.mk hv1; clear hv1
  have ka : ∀ o, (w.alloc o).cell? ad = some (.int .u8 (v : Int)) := fun o => cell_later ((Below.refl _ _).alloc (Nat.le_refl _) o) k0
  by_cases c1 : v < 128
  · have e1 : readsI b = ⟨false, 0, 1, true, 0⟩ := by unfold readsI; rw [← HV.out, if_pos c1]
    rw [e1]
    clear e1
    set_option maxRecDepth 100000 in
    go_enter Try.func21, Try.ntmps21
    set_option maxRecDepth 100000 in
    go_wp2_with fail
    refine bodyPost_ret (v := .tuple #[hdV ⟨false, 0, 1, true, 0⟩, .int .i64 0]) (by simp [results, Try.results21, go_sem, hdV]) rfl ⟨rfl, ?_⟩
    exact ((((Below.refl _ _).alloc (Nat.le_refl _) _).alloc (by simp) _).alloc (by simp; omega) _).alloc (by simp; omega) _
  · by_cases c2 : 192 ≤ v
    · obtain ⟨s, rfl⟩ : ∃ s, v = 192 + s := ⟨v - 192, by omega⟩
      have HR : readsI b = if s ≤ 55 then ⟨true, 1, s, false, 0⟩ else
          if b.length < 1 + (s - 55) then ⟨true, 1, s, false, 41⟩ else
          if b.getD 1 0 = 0 ∨ beN ((b.drop 1).take (s - 55)) ≤ 55 ∨ 2147483648 < beN ((b.drop 1).take (s - 55)) then ⟨true, 1, s, false, 40⟩ else ⟨true, 1 + (s - 55), beN ((b.drop 1).take (s - 55)), false, 0⟩ := by
        unfold readsI
        rw [← HV.out, if_neg c1]
        have e1 : decide (192 ≤ 192 + s) = true := by rw [decide_eq_true_iff]; omega
        have e2 : (if 192 ≤ 192 + s then 192 + s - 192 else 192 + s - 128) = s := by split <;> omega
        rw [e1, e2]
      have hL := blk4 w 51 3 51 3 #[.bool false, .int .i64 0, .int .i64 0, .bool false, .bool false] #[.int .i64 ((192 + s : Nat) : Int)] #[.bool true, .int .i64 1, .int .i64 0, .bool false, .bool false] #[.int .i64 0]
      generalize hvv : ((192 + s : Nat) : Int) = V at k0 ka hL
      have hV0 : 0 ≤ V := by omega
      have hV1 : V ≤ 255 := by omega
      have hV2 : 192 ≤ V := by omega
      have hV3 : 128 ≤ V := by omega
      have hV4 : 192 ≤ V := by omega
      have HVV := Sec.mk hvv; clear hvv
      obtain ⟨k, hk⟩ : ∃ k : Nat, k = s - 55 := ⟨_, rfl⟩
      set_option maxRecDepth 100000 in
      go_enter Try.func21, Try.ntmps21
      set_option maxRecDepth 100000 in
      go_wp2_with fail
      generalize ((((w.alloc (.cells #[.bool false, .int .i64 0, .int .i64 0, .bool false, .bool false] 51)).alloc (.cells #[.int .i64 V] 3)).alloc
        (.cells #[.bool true, .int .i64 1, .int .i64 0, .bool false, .bool false] 51)).alloc (.cells #[.int .i64 0] 3)) = W at hL ⊢
      obtain ⟨hR, hC, hH, hK, hB⟩ := hL
      have hLc := long_calls W (w.heap.size + 1) (w.heap.size + 1 + 1 + 1) (w.heap.size + 1 + 1) V 192 0 1 0 true false false hC hK hH (by omega) (by omega) (by omega) (by omega) (by omega) (by omega) (by omega) (k : Int) (s : Int) (by have := HVV.out; split <;> omega) (by have := HVV.out; omega)
      ((with_reducible refine hLc.mono ?_); rintro e w1 ⟨rfl, hC1, hK1, hH1, hT⟩)
      have hB1 := hT.below hB (by omega) (by omega) hB.size
      have hR1 : Blk w1 w.heap.size 51 #[.bool false, .int .i64 0, .int .i64 0, .bool false, .bool false] := (hT.2.2.2.2 _ hR.lt (by omega) (by omega)).trans hR
      clear hLc hT hC hK hH hR
      have hs63 : s ≤ 63 := by have := HVV.out; omega
      have hbs := h.below hB1
      have x1 := hK1.cell 0
      have x2 := hH1.cell 0
      have x3 := hH1.cell 1
      have x4 := hH1.cell 2
      have x5 := hH1.cell 3
      have x6 := hH1.cell 4
      have y1 := hH1.frozen 1
      have y2 := hH1.frozen 2
      by_cases c3 : s ≤ 55
      · have hk0 : k = 0 := by omega
        clear hk
        subst hk0
        have e1 : readsI b = ⟨true, 1, s, false, 0⟩ := by rw [HR, if_pos c3]
        have E := Sec.mk e1; clear e1 HR
        set_option maxRecDepth 100000 in
        go_wp2_with ((with_reducible refine gate (.store 51 (.tmp 2) (.tmp 31)) rfl ?_); go_loud (refine wpList_store_blk rfl 51 (.tmp 2) (.tmp 31) rfl w.heap.size 51 _ _ rfl rfl hR1 rfl info51 rfl ?_); intro w2 hR2 hK2 hz2)
        refine bodyPost_cell1 Try.results21 rfl hR2 Try.underlying51 rfl info51 rfl ⟨by rw [E.out]; rfl, hK2.below hB1 (Nat.le_refl _) hB1.size⟩
      · have hkp : 1 ≤ k := by omega
        have hk8 : k ≤ 8 := by omega
        have hsk : s - 55 = k := hk.symm
        rw [hsk] at HR
        have hk0' : ((k : Int) == 0) = false := by simp; omega
        rw [if_neg c3] at HR
        clear hk hsk
        by_cases hlt : (n : Int) < 1 + (k : Int)
        · rw [if_pos (by rw [← hlen.out]; omega)] at HR
          have E := Sec.mk HR; clear HR
          set_option maxRecDepth 100000 in
          go_wp2_with ((with_reducible refine gate (.store 51 (.tmp 2) (.tmp 37)) rfl ?_); go_loud (refine wpList_store_blk rfl 51 (.tmp 2) (.tmp 37) rfl w.heap.size 51 _ _ rfl rfl hR1 rfl info51 rfl ?_); intro w2 hR2 hK2 hz2)
          refine bodyPost_cell1 Try.results21 rfl hR2 Try.underlying51 rfl info51 rfl ⟨by rw [E.out]; rfl, hK2.below hB1 (Nat.le_refl _) hB1.size⟩
        · rw [if_neg (by rw [← hlen.out]; omega)] at HR
          have HRS := Sec.mk HR; clear HR
          have hlt' : 1 + k ≤ n := by omega
          set_option maxRecDepth 100000 in
          go_wp2
          go_loopg [8, 43] k (fun r v8 v43 w' => ∃ (i m : Nat), v8 = .int .u64 (m : Int) ∧ v43 = .int .i64 (i : Int) ∧ i ≤ k ∧ k ≤ i + r ∧ Sec (m = beN ((b.drop 1).take i)) ∧ w1 = w')
          case atStart => exact ⟨0, 0, rfl, rfl, by omega, by omega, ⟨by simp [beN]⟩, rfl⟩
          case round =>
            obtain ⟨i, m, rfl, rfl, hi, hr, hm, rfl⟩ := hrel
            by_cases hik : i < k
            · obtain ⟨ad', e', z0⟩ := hbs.at (k := 1 + i) (by omega)
              injection e' with e'; subst e'
              rw [show ad.add (1 + i) = ⟨ad.block, ad.off + 1 + i, none⟩ from by unfold Addr.add; rw [if_neg (by omega)]; simp [Nat.add_assoc]] at z0
              have hz := nb_bd b (1 + i)
              have hmb : m < 72057594037927936 := by
                have := beN_lt ((b.drop 1).take i)
                rw [← hm.out] at this
                have h2 : ((b.drop 1).take i).length ≤ 7 := by rw [List.length_take]; omega
                have h3 : 256 ^ ((b.drop 1).take i).length ≤ 256 ^ 7 := Nat.pow_le_pow_right (by omega) h2
                omega
              have hsn : Sec ((b.drop 1).take (i + 1) = (b.drop 1).take i ++ [b.getD (1 + i) 0]) := ⟨by
                rw [List.take_add_one, List.getElem?_drop]
                have : 1 + i < b.length := by rw [← hlen.out]; omega
                rw [List.getElem?_eq_getElem this]
                simp [this]⟩
              have hor := Sec.mk (u64_shl8_or m (b.getD (1 + i) 0).toNat hmb (b.getD (1 + i) 0).toNat_lt)
              clear hmb
              go_wp2
              go_roundg (gk - 1)
              case measure => omega
              case rel => exact ⟨i + 1, m * 256 + (b.getD (1 + i) 0).toNat, by rw [← hor.out]; rfl, by go_num, by omega, by omega, ⟨by rw [hsn.out, beN_snoc, ← hm.out]⟩, rfl⟩
            · have hik' : i = k := by omega
              subst hik'
              obtain ⟨ad', e', z1⟩ := hbs.at (k := 1) (by omega)
              injection e' with e'; subst e'
              rw [show ad.add 1 = ⟨ad.block, ad.off + 1, none⟩ from rfl] at z1
              have hz := nb_bd b 1
              have hRR := HRS.out
              rw [← hm.out] at hRR
              clear hm
              by_cases d1 : nb b 1 = 0
              · rw [if_pos (.inl ((nb_zero _ _).1 d1))] at hRR
                have E := Sec.mk hRR; clear hRR
                have d1' : (nb b 1 == 0) = true := by simp [d1]
                clear d1
                set_option maxRecDepth 100000 in
                go_wp2_with ((with_reducible refine gate (.store 51 (.tmp 2) (.tmp 65)) rfl ?_); go_loud (refine wpList_store_blk rfl 51 (.tmp 2) (.tmp 65) rfl w.heap.size 51 _ _ rfl rfl hR1 rfl info51 rfl ?_); intro w2 hR2 hK2 hz2)
                refine bodyPost_cell1 Try.results21 rfl hR2 Try.underlying51 rfl info51 rfl ⟨by rw [E.out]; rfl, hK2.below hB1 (Nat.le_refl _) hB1.size⟩
              · have d1' : (nb b 1 == 0) = false := by simp [d1]
                have d1n : ¬ b.getD 1 0 = 0 := fun h => d1 ((nb_zero _ _).2 h)
                clear d1
                by_cases d2 : m ≤ 55
                · rw [if_pos (.inr (.inl d2))] at hRR
                  have E := Sec.mk hRR; clear hRR
                  set_option maxRecDepth 100000 in
                  go_wp2_with ((with_reducible refine gate (.store 51 (.tmp 2) (.tmp 65)) rfl ?_); go_loud (refine wpList_store_blk rfl 51 (.tmp 2) (.tmp 65) rfl w.heap.size 51 _ _ rfl rfl hR1 rfl info51 rfl ?_); intro w2 hR2 hK2 hz2)
                  refine bodyPost_cell1 Try.results21 rfl hR2 Try.underlying51 rfl info51 rfl ⟨by rw [E.out]; rfl, hK2.below hB1 (Nat.le_refl _) hB1.size⟩
                · by_cases d3 : 2147483648 < m
                  · rw [if_pos (.inr (.inr d3))] at hRR
                    have E := Sec.mk hRR; clear hRR
                    set_option maxRecDepth 100000 in
                    go_wp2_with ((with_reducible refine gate (.store 51 (.tmp 2) (.tmp 65)) rfl ?_); go_loud (refine wpList_store_blk rfl 51 (.tmp 2) (.tmp 65) rfl w.heap.size 51 _ _ rfl rfl hR1 rfl info51 rfl ?_); intro w2 hR2 hK2 hz2)
                    refine bodyPost_cell1 Try.results21 rfl hR2 Try.underlying51 rfl info51 rfl ⟨by rw [E.out]; rfl, hK2.below hB1 (Nat.le_refl _) hB1.size⟩
                  · rw [if_neg (by rintro (h | h | h); exact d1n h; exact d2 h; exact d3 h)] at hRR
                    have E := Sec.mk hRR; clear hRR
                    have hne51 : w.heap.size ≠ w.heap.size + 1 + 1 := by omega
                    set_option maxRecDepth 100000 in
                    go_wp2_with ((with_reducible refine gate (.store 51 (.tmp 2) (.tmp 72)) rfl ?_); go_loud (refine wpList_store_blk rfl 51 (.tmp 2) (.tmp 72) rfl w.heap.size 51 _ _ rfl rfl ((hR1.far (p := ⟨w.heap.size + 1 + 1, 1, none⟩) hne51 _).far (p := ⟨w.heap.size + 1 + 1, 2, none⟩) hne51 _) rfl info51 rfl ?_); intro w2 hR2 hK2 hz2)
                    refine bodyPost_cell1 Try.results21 rfl hR2 Try.underlying51 rfl info51 rfl ⟨by rw [E.out]; rfl, hK2.below ((hB1.setCell (p := ⟨w.heap.size + 1 + 1, 1, none⟩) (by show _ ≤ w.heap.size + 1 + 1; omega) _).setCell (p := ⟨w.heap.size + 1 + 1, 2, none⟩) (by show _ ≤ w.heap.size + 1 + 1; omega) _) (Nat.le_refl _) (by simpa [World.setCell] using hB1.size)⟩
    · obtain ⟨s, rfl⟩ : ∃ s, v = 128 + s := ⟨v - 128, by omega⟩
      have HR : readsI b = if s ≤ 55 then ⟨false, 1, s, false, 0⟩ else
          if b.length < 1 + (s - 55) then ⟨false, 1, s, false, 41⟩ else
          if b.getD 1 0 = 0 ∨ beN ((b.drop 1).take (s - 55)) ≤ 55 ∨ 2147483648 < beN ((b.drop 1).take (s - 55)) then ⟨false, 1, s, false, 40⟩ else ⟨false, 1 + (s - 55), beN ((b.drop 1).take (s - 55)), false, 0⟩ := by
        unfold readsI
        rw [← HV.out, if_neg c1]
        have e1 : decide (192 ≤ 128 + s) = false := by rw [decide_eq_false_iff_not]; omega
        have e2 : (if 192 ≤ 128 + s then 128 + s - 192 else 128 + s - 128) = s := by split <;> omega
        rw [e1, e2]
      have hL := blk4 w 51 3 51 3 #[.bool false, .int .i64 0, .int .i64 0, .bool false, .bool false] #[.int .i64 ((128 + s : Nat) : Int)] #[.bool false, .int .i64 1, .int .i64 0, .bool false, .bool false] #[.int .i64 0]
      generalize hvv : ((128 + s : Nat) : Int) = V at k0 ka hL
      have hV0 : 0 ≤ V := by omega
      have hV1 : V ≤ 255 := by omega
      have hV2 : 128 ≤ V := by omega
      have hV3 : 128 ≤ V := by omega
      have hV4 : V < 192 := by omega
      have HVV := Sec.mk hvv; clear hvv
      obtain ⟨k, hk⟩ : ∃ k : Nat, k = s - 55 := ⟨_, rfl⟩
      set_option maxRecDepth 100000 in
      go_enter Try.func21, Try.ntmps21
      set_option maxRecDepth 100000 in
      go_wp2_with fail
      generalize ((((w.alloc (.cells #[.bool false, .int .i64 0, .int .i64 0, .bool false, .bool false] 51)).alloc (.cells #[.int .i64 V] 3)).alloc
        (.cells #[.bool false, .int .i64 1, .int .i64 0, .bool false, .bool false] 51)).alloc (.cells #[.int .i64 0] 3)) = W at hL ⊢
      obtain ⟨hR, hC, hH, hK, hB⟩ := hL
      have hLc := long_calls W (w.heap.size + 1) (w.heap.size + 1 + 1 + 1) (w.heap.size + 1 + 1) V 128 0 1 0 false false false hC hK hH (by omega) (by omega) (by omega) (by omega) (by omega) (by omega) (by omega) (k : Int) (s : Int) (by have := HVV.out; split <;> omega) (by have := HVV.out; omega)
      ((with_reducible refine hLc.mono ?_); rintro e w1 ⟨rfl, hC1, hK1, hH1, hT⟩)
      have hB1 := hT.below hB (by omega) (by omega) hB.size
      have hR1 : Blk w1 w.heap.size 51 #[.bool false, .int .i64 0, .int .i64 0, .bool false, .bool false] := (hT.2.2.2.2 _ hR.lt (by omega) (by omega)).trans hR
      clear hLc hT hC hK hH hR
      have hs63 : s ≤ 63 := by have := HVV.out; omega
      have hbs := h.below hB1
      have x1 := hK1.cell 0
      have x2 := hH1.cell 0
      have x3 := hH1.cell 1
      have x4 := hH1.cell 2
      have x5 := hH1.cell 3
      have x6 := hH1.cell 4
      have y1 := hH1.frozen 1
      have y2 := hH1.frozen 2
      by_cases c3 : s ≤ 55
      · have hk0 : k = 0 := by omega
        clear hk
        subst hk0
        have e1 : readsI b = ⟨false, 1, s, false, 0⟩ := by rw [HR, if_pos c3]
        have E := Sec.mk e1; clear e1 HR
        set_option maxRecDepth 100000 in
        go_wp2_with ((with_reducible refine gate (.store 51 (.tmp 2) (.tmp 31)) rfl ?_); go_loud (refine wpList_store_blk rfl 51 (.tmp 2) (.tmp 31) rfl w.heap.size 51 _ _ rfl rfl hR1 rfl info51 rfl ?_); intro w2 hR2 hK2 hz2)
        refine bodyPost_cell1 Try.results21 rfl hR2 Try.underlying51 rfl info51 rfl ⟨by rw [E.out]; rfl, hK2.below hB1 (Nat.le_refl _) hB1.size⟩
      · have hkp : 1 ≤ k := by omega
        have hk8 : k ≤ 8 := by omega
        have hsk : s - 55 = k := hk.symm
        rw [hsk] at HR
        have hk0' : ((k : Int) == 0) = false := by simp; omega
        rw [if_neg c3] at HR
        clear hk hsk
        by_cases hlt : (n : Int) < 1 + (k : Int)
        · rw [if_pos (by rw [← hlen.out]; omega)] at HR
          have E := Sec.mk HR; clear HR
          set_option maxRecDepth 100000 in
          go_wp2_with ((with_reducible refine gate (.store 51 (.tmp 2) (.tmp 37)) rfl ?_); go_loud (refine wpList_store_blk rfl 51 (.tmp 2) (.tmp 37) rfl w.heap.size 51 _ _ rfl rfl hR1 rfl info51 rfl ?_); intro w2 hR2 hK2 hz2)
          refine bodyPost_cell1 Try.results21 rfl hR2 Try.underlying51 rfl info51 rfl ⟨by rw [E.out]; rfl, hK2.below hB1 (Nat.le_refl _) hB1.size⟩
        · rw [if_neg (by rw [← hlen.out]; omega)] at HR
          have HRS := Sec.mk HR; clear HR
          have hlt' : 1 + k ≤ n := by omega
          set_option maxRecDepth 100000 in
          go_wp2
          go_loopg [8, 43] k (fun r v8 v43 w' => ∃ (i m : Nat), v8 = .int .u64 (m : Int) ∧ v43 = .int .i64 (i : Int) ∧ i ≤ k ∧ k ≤ i + r ∧ Sec (m = beN ((b.drop 1).take i)) ∧ w1 = w')
          case atStart => exact ⟨0, 0, rfl, rfl, by omega, by omega, ⟨by simp [beN]⟩, rfl⟩
          case round =>
            obtain ⟨i, m, rfl, rfl, hi, hr, hm, rfl⟩ := hrel
            by_cases hik : i < k
            · obtain ⟨ad', e', z0⟩ := hbs.at (k := 1 + i) (by omega)
              injection e' with e'; subst e'
              rw [show ad.add (1 + i) = ⟨ad.block, ad.off + 1 + i, none⟩ from by unfold Addr.add; rw [if_neg (by omega)]; simp [Nat.add_assoc]] at z0
              have hz := nb_bd b (1 + i)
              have hmb : m < 72057594037927936 := by
                have := beN_lt ((b.drop 1).take i)
                rw [← hm.out] at this
                have h2 : ((b.drop 1).take i).length ≤ 7 := by rw [List.length_take]; omega
                have h3 : 256 ^ ((b.drop 1).take i).length ≤ 256 ^ 7 := Nat.pow_le_pow_right (by omega) h2
                omega
              have hsn : Sec ((b.drop 1).take (i + 1) = (b.drop 1).take i ++ [b.getD (1 + i) 0]) := ⟨by
                rw [List.take_add_one, List.getElem?_drop]
                have : 1 + i < b.length := by rw [← hlen.out]; omega
                rw [List.getElem?_eq_getElem this]
                simp [this]⟩
              have hor := Sec.mk (u64_shl8_or m (b.getD (1 + i) 0).toNat hmb (b.getD (1 + i) 0).toNat_lt)
              clear hmb
              go_wp2
              go_roundg (gk - 1)
              case measure => omega
              case rel => exact ⟨i + 1, m * 256 + (b.getD (1 + i) 0).toNat, by rw [← hor.out]; rfl, by go_num, by omega, by omega, ⟨by rw [hsn.out, beN_snoc, ← hm.out]⟩, rfl⟩
            · have hik' : i = k := by omega
              subst hik'
              obtain ⟨ad', e', z1⟩ := hbs.at (k := 1) (by omega)
              injection e' with e'; subst e'
              rw [show ad.add 1 = ⟨ad.block, ad.off + 1, none⟩ from rfl] at z1
              have hz := nb_bd b 1
              have hRR := HRS.out
              rw [← hm.out] at hRR
              clear hm
              by_cases d1 : nb b 1 = 0
              · rw [if_pos (.inl ((nb_zero _ _).1 d1))] at hRR
                have E := Sec.mk hRR; clear hRR
                have d1' : (nb b 1 == 0) = true := by simp [d1]
                clear d1
                set_option maxRecDepth 100000 in
                go_wp2_with ((with_reducible refine gate (.store 51 (.tmp 2) (.tmp 65)) rfl ?_); go_loud (refine wpList_store_blk rfl 51 (.tmp 2) (.tmp 65) rfl w.heap.size 51 _ _ rfl rfl hR1 rfl info51 rfl ?_); intro w2 hR2 hK2 hz2)
                refine bodyPost_cell1 Try.results21 rfl hR2 Try.underlying51 rfl info51 rfl ⟨by rw [E.out]; rfl, hK2.below hB1 (Nat.le_refl _) hB1.size⟩
              · have d1' : (nb b 1 == 0) = false := by simp [d1]
                have d1n : ¬ b.getD 1 0 = 0 := fun h => d1 ((nb_zero _ _).2 h)
                clear d1
                by_cases d2 : m ≤ 55
                · rw [if_pos (.inr (.inl d2))] at hRR
                  have E := Sec.mk hRR; clear hRR
                  set_option maxRecDepth 100000 in
                  go_wp2_with ((with_reducible refine gate (.store 51 (.tmp 2) (.tmp 65)) rfl ?_); go_loud (refine wpList_store_blk rfl 51 (.tmp 2) (.tmp 65) rfl w.heap.size 51 _ _ rfl rfl hR1 rfl info51 rfl ?_); intro w2 hR2 hK2 hz2)
                  refine bodyPost_cell1 Try.results21 rfl hR2 Try.underlying51 rfl info51 rfl ⟨by rw [E.out]; rfl, hK2.below hB1 (Nat.le_refl _) hB1.size⟩
                · by_cases d3 : 2147483648 < m
                  · rw [if_pos (.inr (.inr d3))] at hRR
                    have E := Sec.mk hRR; clear hRR
                    set_option maxRecDepth 100000 in
                    go_wp2_with ((with_reducible refine gate (.store 51 (.tmp 2) (.tmp 65)) rfl ?_); go_loud (refine wpList_store_blk rfl 51 (.tmp 2) (.tmp 65) rfl w.heap.size 51 _ _ rfl rfl hR1 rfl info51 rfl ?_); intro w2 hR2 hK2 hz2)
                    refine bodyPost_cell1 Try.results21 rfl hR2 Try.underlying51 rfl info51 rfl ⟨by rw [E.out]; rfl, hK2.below hB1 (Nat.le_refl _) hB1.size⟩
                  · rw [if_neg (by rintro (h | h | h); exact d1n h; exact d2 h; exact d3 h)] at hRR
                    have E := Sec.mk hRR; clear hRR
                    have hne51 : w.heap.size ≠ w.heap.size + 1 + 1 := by omega
                    set_option maxRecDepth 100000 in
                    go_wp2_with ((with_reducible refine gate (.store 51 (.tmp 2) (.tmp 72)) rfl ?_); go_loud (refine wpList_store_blk rfl 51 (.tmp 2) (.tmp 72) rfl w.heap.size 51 _ _ rfl rfl ((hR1.far (p := ⟨w.heap.size + 1 + 1, 1, none⟩) hne51 _).far (p := ⟨w.heap.size + 1 + 1, 2, none⟩) hne51 _) rfl info51 rfl ?_); intro w2 hR2 hK2 hz2)
                    refine bodyPost_cell1 Try.results21 rfl hR2 Try.underlying51 rfl info51 rfl ⟨by rw [E.out]; rfl, hK2.below ((hB1.setCell (p := ⟨w.heap.size + 1 + 1, 1, none⟩) (by show _ ≤ w.heap.size + 1 + 1; omega) _).setCell (p := ⟨w.heap.size + 1 + 1, 2, none⟩) (by show _ ≤ w.heap.size + 1 + 1; omega) _) (Nat.le_refl _) (by simpa [World.setCell] using hB1.size)⟩
end Go.Proofs.Ytlpmnhnlhleogaa
