/- The walks of a table of towers: Put, of an entry that isn't there. -/
import Derived.Test.YtimeehjbifbfgaaMg
import Derived.Test.YtimeehjbifbfgaaTt
import Derived.BigRegion
import Derived.Deep.DeepCutAuto
namespace Go.Proofs.Ytimeehjbifbfgaa
open Go.RowKit Go.Mo
set_option linter.unusedVariables false
set_option linter.unusedSimpArgs false

theorem lvIn_ptr (N : List Nd) (a i : Nat) : ∃ q, lvIn N a i = .pointer q := by
  unfold lvIn
  split
  · cases ((nextAt N a i).bind fun k => (N[k]?).map (·.g)) <;> exact ⟨_, rfl⟩
  · exact ⟨_, rfl⟩
theorem heightI_bd (hs : List Int) (n : Nat) : 1 ≤ heightI hs n ∧ heightI hs n ≤ 12 := by
  unfold heightI; split <;> omega
set_option maxRecDepth 100000 in
set_option maxHeartbeats 4000000 in
/-- Put of a new key. -/
theorem Put_new {F : Nat → Prop} (w : World) (t : Nat) (hs : List Int) (N : List Nd) (hTab : Tab F w t hs N) (hn : N.length < 4294967296) (hsz : sizeN N ≤ 4294967296) (hh : Sec (HOk N)) {S S' : Nat → Prop} (A : Option Addr) (m c : Nat) (u : List UInt8) (hu : Bs S w A m c u) (s : Nat) (k : Int) (B : Option Addr) (q e : Nat) (v : List UInt8) (hv : Bs S' w B q e v)
    (key : List UInt8) (hk : Sec (keyI u s k = (key, 0))) (hkl : Sec (key.length ≤ 136)) (hvl : q ≤ 16384) (p : Nat) (hp : p ≤ N.length) (h1 : Sec (∀ k d, k < p → N[k]? = some d → (compareI d.key key).1 < 0)) (h2 : Sec (∀ k d, p ≤ k → N[k]? = some d → 0 ≤ (compareI d.key key).1))
    (hno : Sec (∀ d, N[p]? = some d → d.key ≠ key)) :
    Calls Try.prog 18 #[.pointer (some ⟨t, 0, none⟩), .slice A m c, .int .u64 (s : Int), .int .i64 k, .slice B q e] w fun e w' =>
      ∃ g, e = .returned (.int .i64 0) ∧ Tab (fun b => F b ∨ (w.heap.size ≤ b ∧ b < w'.heap.size)) w' t hs (ins N p ⟨g, key, v, heightI hs N.length⟩) ∧ Kt F w w' := by
  obtain ⟨hA, hq, hc, hT, hB⟩ := hTab
  have hK := Key_calls s k w hu
  rw [hk.out] at hK
  have HK := Sec.mk hK; clear hK
  obtain ⟨BB, O, hadr, hO⟩ := adr_form t N p
  have HA := Sec.mk hadr; clear hadr
  have HT : Sec (TwIn (fun b => F b ∧ b < w.heap.size) w t (.slice hA hq hc) N.length (sizeN N) N) := ⟨Tw.here hT⟩; clear hT
  have HB := Sec.mk hB.here; clear hB
  go_enter Try.func18, Try.ntmps18
  go_wp2_with (go_at_call 62; (with_reducible refine HK.out.mono ?_); rintro e w2 ⟨A2, m2, c2, rfl, ho2, hb2⟩)
  have hT2 : TwIn (fun b => F b ∧ b < w.heap.size) w2 t _ _ _ N := Tw.below HT.out hb2
  ((with_reducible refine (before_calls w2 t _ _ _ N hT2 _ A2 m2 c2 key ho2.bs p hp h1 h2).mono ?_); rintro e w3 ⟨rfl, hb3⟩)
  have hT3 : TwIn (fun b => F b ∧ b < w.heap.size) w3 t _ _ _ N := Tw.below hT2 hb3
  have hlk : w3.cell? ⟨BB, O + 3, none⟩ = some (lnk ((N[p]?).map (·.g))) := by
    have := Tw.link hT3 (a := p) (i := 0) hp (by omega) HA.out
    rwa [lvIn_zero hh.out hp] at this
  obtain ⟨f, hf⟩ : ∃ f : Nat → Addr, ∀ i, adr t N (lastAt N i p) = f i := ⟨_, fun _ => rfl⟩
  have hf0 : f 0 = ⟨BB, O, none⟩ := by rw [← hf, lastAt_zero hh.out hp, HA.out]
  simp only [row12, hf, hf0]
  have HF := Sec.mk hf; clear hf
  have hL : Blk (w3.alloc (.cells #[.pointer (some ⟨BB, O, none⟩), .pointer (some (f 1)), .pointer (some (f 2)), .pointer (some (f 3)), .pointer (some (f 4)), .pointer (some (f 5)), .pointer (some (f 6)), .pointer (some (f 7)), .pointer (some (f 8)), .pointer (some (f 9)), .pointer (some (f 10)), .pointer (some (f 11))] 107)) w3.heap.size 107 (row12 fun i => .pointer (some (f i))) := by
    rw [← hf0]; exact Blk.new _ _ _
  have HF0 := Sec.mk hf0; clear hf0
  have hB4 : Below w3.heap.size w3 (w3.alloc (.cells #[.pointer (some ⟨BB, O, none⟩), .pointer (some (f 1)), .pointer (some (f 2)), .pointer (some (f 3)), .pointer (some (f 4)), .pointer (some (f 5)), .pointer (some (f 6)), .pointer (some (f 7)), .pointer (some (f 8)), .pointer (some (f 9)), .pointer (some (f 10)), .pointer (some (f 11))] 107)) := (Below.refl _ _).alloc (Nat.le_refl _) _
  have y0 := cell_later hB4 hlk
  go_upto_region 8 with (fail)
  generalize hW : (w3.alloc (.cells _ 107)) = W at hL hB4 y0 ⊢
  have hbW := hB4
  have hWs : W.heap.size = w3.heap.size + 1 := by rw [← hW]; simp
  clear hW
  generalize hlv : lnk ((N[p]?).map (·.g)) = L14 at y0 ⊢
  have HLV := Sec.mk hlv; clear hlv
  go_cut [48] (fun s48 wx => s48 = .bool false ∧ W = wx)
  case first =>
    cases hd : N[p]? with
    | none =>
      have e : Value.pointer none = L14 := by rw [← HLV.out, hd]; rfl
      subst e
      clear hd
      go_wp2_with (fail)
      go_meet
      exact ⟨rfl, rfl⟩
    | some d =>
      have e : Value.pointer (some ⟨d.g, 0, none⟩) = L14 := by rw [← HLV.out, hd]; rfl
      subst e
      obtain ⟨A4, m4, c4, B4, q4, e4, hblk, hkey, hval⟩ := Tw.node hT3 p d hd
      have z0 : w3.cell? ⟨d.g, 0, none⟩ = some (.slice A4 m4 c4) := hblk.cell 0
      have y1 : W.cell? ⟨d.g, 0, none⟩ = some (.slice A4 m4 c4) := hbW.cell (p := ⟨d.g, 0, none⟩) (World.block_lt_of_cell? w3 _ z0) ▸ z0
      have hE := Equal_calls _ (hkey.below hbW) ((ho2.bsT.below hb3).below hbW)
      rw [decide_eq_false (hno.out d hd)] at hE
      have HE := Sec.mk hE; clear hE hd
      go_wp2_with (go_at_call 64; (with_reducible refine HE.out.mono ?_); rintro e w6 ⟨rfl, rfl⟩)
      go_meet
      exact ⟨rfl, rfl⟩
  case rest =>
    obtain ⟨rfl, rfl⟩ := hcut
    have hwW : Below w.heap.size w W := (below_then hb2 hb2.size hb3).trans (hbW.mono (by have := hb2.size; have := hb3.size; omega))
    have hTW : TwIn (fun b => F b ∧ b < w.heap.size) W t (.slice hA hq hc) N.length (sizeN N) N := Tw.below hT3 hbW
    have hkW := ho2.bs.below hb3 |>.below hbW
    have hvW := hv.below hwW
    have hBW := HB.out.below hwW
    clear y0 hlk HLV
    go_wp2_with (fail)
    ((with_reducible refine (Clone_calls W hvW).mono ?_); rintro e w5 ⟨A5, c5, rfl, ho5, hb5⟩)
    have hT5 : TwIn (fun b => F b ∧ b < w.heap.size) w5 t (.slice hA hq hc) N.length (sizeN N) N := Tw.below hTW hb5
    have hB5 := hBW.below hb5
    go_wp2_with (fail)
    ((with_reducible refine (height_calls w5 t hA hq hc N.length (sizeN N) N hT5 hn hs ⟨hB5.len⟩ hB5.le hB5.lim hB5.max (fun i hi => hB5.at hi)).mono ?_); rintro e w6 ⟨rfl, hb6⟩)
    obtain ⟨h, hh1, hh12, hhe⟩ : ∃ h : Nat, 1 ≤ h ∧ h ≤ 12 ∧ heightI hs N.length = h := ⟨_, (heightI_bd hs N.length).1, (heightI_bd hs N.length).2, rfl⟩
    rw [hhe]
    have HHE := Sec.mk hhe; clear hhe
    go_wp2_with (fail)
    have hN6 := Blk.new w6 109 (ndCells (.slice A2 m2 c2) (.slice A5 q c5) h fun _ => .pointer none)
    have hB6 : Below w6.heap.size w6 (w6.alloc (.cells (ndCells (.slice A2 m2 c2) (.slice A5 q c5) h fun _ => .pointer none) 109)) := (Below.refl _ _).alloc (Nat.le_refl _) _
    unfold ndCells at hN6 hB6
    have s2 := hb2.size; have s3 := hb3.size; have s5 := hb5.size; have s6 := hb6.size
    have hWs' := hWs
    have hbA : Below W.heap.size W w6 := below_then hb5 hb5.size hb6
    have hT7 := (Tw.below hT5 hb6).below hB6
    have hk6 := (hkW.below hb5).below hb6
    have hk7 := (hk6.and hk6.here).below hB6
    have hv6 := ho5.bs.below hb6
    have hv7 := (hv6.and hv6.here).below hB6
    have hi7 := (hB5.below hb6).below hB6
    clear hk6 hv6
    have hL7 := ((hL.below hb5).below hb6).below hB6
    have hKt7 : Kt F w _ := Kt.of_below ((hwW.trans (hbA.mono (by omega))).trans (hB6.mono (by omega)))
    generalize hg : w6.heap.size = g at hN6 hB6 s6 hk7 hv7 ⊢
    generalize htl : w3.heap.size = tl at hL7 hWs s3 ⊢
    have hsz7 : (w6.alloc (.cells #[.slice A2 m2 c2, .slice A5 q c5, .int .i64 (h : Int), .pointer none, .pointer none, .pointer none, .pointer none, .pointer none, .pointer none, .pointer none, .pointer none, .pointer none, .pointer none, .pointer none, .pointer none] 109)).heap.size = g + 1 := by simp [hg]
    generalize (w6.alloc (.cells _ 109)) = W7 at hN6 hB6 hT7 hk7 hv7 hL7 hKt7 hsz7 hi7 ⊢
    have hxF : ¬ (F g ∧ g < w.heap.size) := fun e => by omega
    have hTi : Tw (fun b => F b ∨ w.heap.size ≤ b) W7 t (.slice hA hq hc) N.length (sizeN N) (ins N p ⟨g, key, v, h⟩) (lvM N p ⟨g, key, v, h⟩ 0) :=
      Tw.ins hT7 (F' := fun b => F b ∨ w.heap.size ≤ b) (fun b hb => .inl hb.1) hp (.inr (by show w.heap.size ≤ g; omega)) hxF hN6
        (hk7.mono (fun b hb => ⟨.inr hb.1, by show b ≠ g; have := hb.2; omega, fun e => by have := hb.1; omega⟩))
        (hv7.mono (fun b hb => ⟨.inr (by have := hb.1; omega), by show b ≠ g; have := hb.2; omega, fun e => by have := hb.1; omega⟩))
    have htF : F t := (Tw.ft hT7).1
    have htw : t < w.heap.size := (Tw.ft hT7).2
    have hadF : ∀ a, a ≤ N.length → F (adr t N a).block ∧ (adr t N a).block < w.heap.size := fun a ha => Tw.adrF hT7 ha
    have htg : tl < g := by omega
    have hwtl : w.heap.size ≤ tl := by omega
    have HADF := Sec.mk hadF; clear hadF
    have HI := Sec.mk hi7; clear hi7
    have HKL := Sec.mk hk7.len
    have HVL := Sec.mk hv7.len
    clear hk7 hv7 hT7 hN6  hWs' hbA hBW hvW hkW hTW hT5 hB5 ho5 hb5 hb6 hB6 hbW hB4 hb2 hb3 hT2 hT3 ho2 hL HT HB hWs HF0 HA
    go_loopg [60] h (fun r v60 w' => ∃ i : Nat, v60 = .int .i64 (i : Int) ∧ i ≤ h ∧ h ≤ i + r ∧ Tw (fun b => F b ∨ w.heap.size ≤ b) w' t (.slice hA hq hc) N.length (sizeN N) (ins N p ⟨g, key, v, h⟩) (lvM N p ⟨g, key, v, h⟩ i) ∧
      Blk w' tl 107 (row12 fun i => .pointer (some (f i))) ∧ Kt F w w' ∧ g < w'.heap.size ∧ Sec (Agree (fun b => b < w.heap.size ∧ b ≠ t ∧ ∀ x ∈ N, b ≠ x.g) W7 w'))
    case atStart => exact ⟨0, rfl, by omega, by omega, hTi, hL7, hKt7, by omega, ⟨Agree.refl _ _⟩⟩
    case round =>
      clear hTi hL7 hKt7
      obtain ⟨i, rfl, hi, hr, hTr, hLr, hKr, hgr, hAg⟩ := hrel
      by_cases hlt : i < h
      · obtain ⟨B', O', hadr', hO'⟩ := adr_form t N (lastAt N i p)
        have hla := lastAt_le N i p
        have hF' := HADF.out (lastAt N i p) (by omega)
        rw [hadr'] at hF'
        have hB'lt : B' < w.heap.size := hF'.2
        have hB'F : F B' := hF'.1
        have k1 := hLr.cell i
        rw [row12_get _ (by omega), ← HF.out i, hadr'] at k1
        have k2 := Tw.link hTr (a := lastAt N i p) (i := i) (by rw [ins_length hp]; omega) (by omega) (by rw [adr_ins_le hla hp]; exact hadr')
        have k3 := Tw.link hTr (a := p + 1) (i := i) (by rw [ins_length hp]; omega) (by omega) (adr_ins_eq hp)
        have k2' : wr.cell? ⟨B', O' + 3 + i, none⟩ = some (lvIn N (lastAt N i p) i) := by rw [k2, lvM_read]
        obtain ⟨q2, hq2⟩ := lvIn_ptr N (lastAt N i p) i
        rw [hq2] at k2'
        have HQ2 := Sec.mk hq2; clear hq2 k2
        have k3' : wr.cell? ⟨g, 3 + i, none⟩ = some (lvM N p ⟨g, key, v, h⟩ i (p + 1) i) := by rw [← k3, Nat.zero_add]
        have f3 : wr.frozen? ⟨g, 3 + i, none⟩ = false := by
          obtain ⟨_, _, _, _, _, _, hb, _⟩ := Tw.node hTr p ⟨g, key, v, h⟩ (ins_get_eq hp)
          exact hb.frozen _
        have f2 : wr.frozen? ⟨B', O' + 3 + i, none⟩ = false := by
          exact Tw.linkFree hTr (a := lastAt N i p) (i := i) (by rw [ins_length hp]; omega) (by rw [adr_ins_le hla hp]; exact hadr')
        have hne1 : B' ≠ g := by omega
        have hne2 : B' ≠ tl := by omega
        have hne3 : tl ≠ g := by omega
        have HADR := Sec.mk hadr'; clear hadr' k3
        have HTR := Sec.mk hTr; have HLR := Sec.mk hLr; have HKR := Sec.mk hKr; clear hTr hLr hKr
        clear hF' HADF HI hxF
        go_wp2_with (fail)
        go_region
        go_wp2_with (fail)
        go_roundg (gk - 1)
        case measure => omega
        case rel =>
          have hst := tw_step hp (x := ⟨g, key, v, h⟩) hlt (by omega) HTR.out HADR.out
          rw [HQ2.out] at hst
          refine ⟨i + 1, by go_num, by omega, by omega, hst.drew,
            (HLR.out.far (p := ⟨g, 3 + i, none⟩) hne3 _).far (p := ⟨B', O' + 3 + i, none⟩) (fun e => hne2 e.symm) _,
            ((HKR.out.setCell' (p := ⟨g, 3 + i, none⟩) (.inr (by show w.heap.size ≤ g; omega)) _).setCell' (p := ⟨B', O' + 3 + i, none⟩) (.inl hB'F) _).drew,
            by simpa [World.setCell, World.drew] using hgr, ⟨?_⟩⟩
          intro b hb hlt'
          refine (Below.heap_setCell _ ⟨B', O' + 3 + i, none⟩ _ b (fun e => ?_)).trans ((Below.heap_setCell wr ⟨g, 3 + i, none⟩ _ b (fun e => ?_)).trans (hAg.out b hb hlt'))
          · have := adr_block (t := t) (N := N) (a := lastAt N i p) (by omega)
            rw [HADR.out] at this
            rcases this with h | ⟨x, hx, h⟩
            · exact hb.2.1 (e.trans h)
            · exact hb.2.2 x hx (e.trans h)
          · have h1 := hb.1
            have : b = g := e
            omega
      · have hih : i = h := by omega
        subst hih
        have hlv : lvM N p ⟨g, key, v, i⟩ i = lvIn (ins N p ⟨g, key, v, i⟩) := funext fun a => lvM_all (x := ⟨g, key, v, i⟩) hp a
        rw [hlv] at hTr
        have n0 : wr.cell? ⟨t, 16, none⟩ = some (.int .i64 (N.length : Int)) := (Tw.head hTr).cell 16
        have n1 : wr.cell? ⟨t, 17, none⟩ = some (.int .i64 (sizeN N : Int)) := (Tw.head hTr).cell 17
        have n2 : wr.frozen? ⟨t, 16, none⟩ = false := (Tw.head hTr).frozen 16
        have n3 : wr.frozen? ⟨t, 17, none⟩ = false := (Tw.head hTr).frozen 17
        have HTR := Sec.mk hTr; have HLR := Sec.mk hLr; have HKR := Sec.mk hKr; clear hTr hLr hKr hlv
        have hm2 : m2 ≤ 136 := by rw [HKL.out]; exact hkl.out
        go_wp2_with (fail)
        go_ret
        have e16 : (Value.int IntKind.i64 ((N.length : Int) + 1)) = .int .i64 ((N.length + 1 : Nat) : Int) := by go_num
        have hmv : (m2 : Int) + (q : Int) = ((key.length + v.length : Nat) : Int) := by rw [HKL.out, HVL.out]; omega
        have e17 : (Value.int IntKind.i64 ((sizeN N : Int) + ((m2 : Int) + (q : Int)))) = .int .i64 ((sizeN N + (key.length + v.length) : Nat) : Int) := by rw [hmv]; go_num
        rw [e16, e17]
        have hT9 := Tw.here ((HTR.out.setN (N.length + 1)).setS (sizeN N + (key.length + v.length)))
        rw [HHE.out]
        have hsz9 : ((wr.setCell ⟨t, 16, none⟩ (.int .i64 ((N.length + 1 : Nat) : Int))).setCell ⟨t, 17, none⟩ (.int .i64 ((sizeN N + (key.length + v.length) : Nat) : Int))).heap.size = wr.heap.size := by simp [World.setCell]
        refine ⟨g, rfl, ⟨hA, hq, hc, ?_, ?_⟩, (HKR.out.setCell' (p := ⟨t, 16, none⟩) (.inl htF) _).setCell' (p := ⟨t, 17, none⟩) (.inl htF) _⟩
        · rw [ins_length hp, sizeN_ins]
          refine Tw.mono hT9 fun b hb => ?_
          rcases hb.1 with h | h
          · exact .inl h
          · exact .inr ⟨h, hb.2⟩
        · refine (HI.out.agree (w' := ((wr.setCell ⟨t, 16, none⟩ (.int .i64 ((N.length + 1 : Nat) : Int))).setCell ⟨t, 17, none⟩ (.int .i64 ((sizeN N + (key.length + v.length) : Nat) : Int)))) fun b hb hlt' => ?_).mono fun b hb => ⟨.inl hb.1.1, hb.1.2.1, fun x hx => ?_⟩
          · refine (Below.heap_setCell _ ⟨t, 17, none⟩ _ b hb.1.2.1).trans ((Below.heap_setCell wr ⟨t, 16, none⟩ _ b hb.1.2.1).trans (hAg.out b ⟨hb.2, hb.1.2.1, hb.1.2.2⟩ hlt'))
          · unfold ins at hx
            rw [List.mem_append, List.mem_cons] at hx
            rcases hx with hx | hx | hx
            · exact hb.1.2.2 x (List.mem_of_mem_take hx)
            · have h1 := hb.2
              subst hx
              show b ≠ g
              omega
            · exact hb.1.2.2 x (List.mem_of_mem_drop hx)
end Go.Proofs.Ytimeehjbifbfgaa
