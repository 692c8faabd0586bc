/- The walks of a table of towers: Level. -/
import Derived.Test.YtimeehjbifbfgaaMh
import Derived.Test.YtimeehjbifbfgaaAs
namespace Go.Mo
/-- The keys whose towers are higher than a level. -/
def levelN (N : List Nd) (i : Nat) : List (List UInt8) := (N.filter fun d => decide (i < d.h)).map (·.key)
theorem levelN_step {N : List Nd} {a i k : Nat} {d : Nd} (h : nextAt N a i = some k) (hd : N[k]? = some d) : levelN (N.take (k + 1)) i = levelN (N.take a) i ++ [d.key] := by
  obtain ⟨h1, d', hd', hi, hno⟩ := nextAt_some h
  rw [hd] at hd'; injection hd' with hd'; subst hd'
  have hk : k < N.length := (List.getElem?_eq_some_iff.1 hd).1
  have e1 : N.take (k + 1) = N.take a ++ (N.drop a).take (k - a) ++ [d] := by
    rw [List.take_add_one, hd]
    have : N.take k = N.take a ++ (N.drop a).take (k - a) := by
      conv => lhs; rw [show k = a + (k - a) from by omega, List.take_add]
    rw [this]; rfl
  have e2 : ((N.drop a).take (k - a)).filter (fun d => decide (i < d.h)) = [] := by
    rw [List.filter_eq_nil_iff]
    intro x hx
    rw [List.mem_iff_getElem?] at hx
    obtain ⟨j, hj⟩ := hx
    have hjk : j < k - a := by
      rcases Nat.lt_or_ge j (k - a) with h | h
      · exact h
      · rw [List.getElem?_eq_none (by rw [List.length_take]; omega)] at hj; cases hj
    rw [List.getElem?_take_of_lt hjk, List.getElem?_drop] at hj
    simpa using hno (a + j) x (by omega) (by omega) hj
  unfold levelN
  rw [e1, List.filter_append, List.filter_append, e2]
  simp [hi]
theorem levelN_end {N : List Nd} {a i : Nat} (h : nextAt N a i = none) : levelN N i = levelN (N.take a) i := by
  unfold levelN
  conv => lhs; rw [← List.take_append_drop a N, List.filter_append]
  have e2 : (N.drop a).filter (fun d => decide (i < d.h)) = [] := by
    rw [List.filter_eq_nil_iff]
    intro x hx
    rw [List.mem_iff_getElem?] at hx
    obtain ⟨j, hj⟩ := hx
    rw [List.getElem?_drop] at hj
    simpa using nextAt_none h (a + j) x (by omega) hj
  rw [e2]; simp
theorem levelN_len (N : List Nd) (i : Nat) : (levelN N i).length ≤ N.length := by
  unfold levelN; rw [List.length_map]; exact List.length_filter_le _ _
end Go.Mo
namespace Go.Proofs.Ytimeehjbifbfgaa
open Go.RowKit Go.Mo
set_option linter.unusedVariables false
set_option linter.unusedSimpArgs false
theorem info23 : (Try.prog.info? 23).map (fun i => (i.zero, i.size, i.bytes)) = some (some (.slice none 0 0), 1, 24) := by kernel_rfl

/-- No level. -/
theorem Level_no (w : World) (t : Nat) (i : Int) (hi : i < 0 ∨ 12 ≤ i) :
    Calls Try.prog 22 #[.pointer (some ⟨t, 0, none⟩), .int .i64 i] w fun e w' => e = .returned (.slice none 0 0) ∧ w = w' := by
  rcases hi with h | h
  · go_enter Try.func22, Try.ntmps22
    go_wp2
    go_ret
    exact ⟨rfl, rfl⟩
  · have h0 : ¬ i < 0 := by omega
    go_enter Try.func22, Try.ntmps22
    go_wp2
    go_ret
    exact ⟨rfl, rfl⟩

set_option maxRecDepth 100000 in
set_option maxHeartbeats 2000000 in
theorem Level_calls {F : Nat → Prop} (w : World) (t : Nat) (hs : Value) (n size : Nat) (N : List Nd) (hT : TwIn F w t hs n size N) (hN : N.length < 4294967296) (i : Nat) (hi : i < 12) :
    Calls Try.prog 22 #[.pointer (some ⟨t, 0, none⟩), .int .i64 (i : Int)] w fun e w' => ∃ A m c, e = .returned (.slice A m c) ∧ Oa repB 23 w.heap.size (fun b => w.heap.size ≤ b) w' A m c (levelN N i) ∧ Below w.heap.size w w' := by
  have hlk0 := Tw.link hT (a := 0) (i := i) (by omega) hi rfl
  rw [show (1 + 3 + i) = 4 + i from by omega] at hlk0
  have HT := Sec.mk hT; clear hT
  obtain ⟨q0, hq0⟩ := lvIn_ptr N 0 i
  rw [hq0] at hlk0
  have HQ0 := Sec.mk hq0; clear hq0
  go_enter Try.func22, Try.ntmps22
  go_wp2_with (fail)
  go_loopg [5, 6] N.length (fun r v5 v6 w' => ∃ (A : Option Addr) (m c a : Nat) (q : Option Addr), v5 = .slice A m c ∧ v6 = .pointer q ∧ a ≤ N.length ∧ N.length ≤ a + r ∧ m ≤ a ∧ Sec (isHi N a i = true) ∧ Sec (lvIn N a i = .pointer q) ∧
    Oa repB 23 w.heap.size (fun b => w.heap.size ≤ b) w' A m c (levelN (N.take a) i) ∧ Below w.heap.size w w')
  case atStart => exact ⟨none, 0, 0, 0, q0, rfl, rfl, by omega, by omega, by omega, ⟨rfl⟩, HQ0, by rw [List.take_zero]; exact Oa.nil _ _ _ _ _, Below.refl _ _⟩
  case round =>
    obtain ⟨A, m, c, a, q, rfl, rfl, ha, hr, hma, hhi, hq, ho, hb⟩ := hrel
    have hlv : lvIn N a i = lnk ((nextAt N a i).bind fun k => (N[k]?).map (·.g)) := by unfold lvIn; rw [if_pos hhi.out]
    rw [hq.out] at hlv
    cases hnx : nextAt N a i with
    | none =>
      rw [hnx] at hlv
      have hq' : q = none := by simpa [lnk] using hlv
      subst hq'
      have HL := Sec.mk (levelN_end hnx)
      clear hlv hnx
      go_wp2_with (fail)
      go_ret
      rw [HL.out]
      exact ⟨_, _, _, rfl, ho, hb⟩
    | some k =>
      obtain ⟨hk1, d, hd, hdi, hno⟩ := nextAt_some hnx
      have hkl : k < N.length := (List.getElem?_eq_some_iff.1 hd).1
      rw [hnx] at hlv
      have hq' : q = some ⟨d.g, 0, none⟩ := by simpa [lnk, hd] using hlv
      subst hq'
      have HL := Sec.mk (levelN_step hnx hd)
      have hTr := Tw.below HT.out hb
      obtain ⟨A2, m2, c2, B2, q2, e2, hblk, hkey, hval⟩ := Tw.node hTr k d hd
      have hdg : d.g < w.heap.size := by obtain ⟨_, _, _, _, _, _, hblk0, _⟩ := Tw.node HT.out k d hd; exact hblk0.lt
      have z0 : wr.cell? ⟨d.g, 0, none⟩ = some (.slice A2 m2 c2) := hblk.cell 0
      obtain ⟨q', hq'⟩ := lvIn_ptr N (k + 1) i
      have z1 : wr.cell? ⟨d.g, 3 + i, none⟩ = some (.pointer q') := by
        have := Tw.link hTr (a := k + 1) (i := i) (by omega) hi (B := d.g) (O := 0) (by simp only [adr, hd])
        rw [Nat.zero_add, hq'] at this
        exact this
      have HQ := Sec.mk hq'; clear hq'
      have hhi2 : Sec (isHi N (k + 1) i = true) := ⟨by simp only [isHi, hd]; simpa using hdi⟩
      clear hlv hnx hno hd
      go_wp2_with (fail)
      ((with_reducible refine (Clone_calls wr hkey).mono ?_); rintro e w3 ⟨A3, c3, rfl, ho3, hb3⟩)
      have z2 := cell_later ((Below.refl w3.heap.size w3).alloc (Nat.le_refl _) (.cells #[.slice A3 m2 c3] 23)) (cell_later hb3 z1)
      have hsb := hb.size
      have hs3 := hb3.size
      have hnew : Reps (repB.R (fun k => w.heap.size ≤ k ∧ some k ≠ (Value.slice A m c).ownBlock) (w3.alloc (.cells #[.slice A3 m2 c3] 23))) [d.key] [.slice A3 m2 c3] :=
        ⟨[.slice A3 m2 c3], [], rfl, ⟨A3, m2, c3, rfl, (ho3.alloc _).bs.mono fun b hb' => ⟨by omega, fun e => by have := (ho.lt b e.symm).2; omega⟩⟩, rfl⟩
      have hbB := (below_then hb hsb hb3).alloc (by omega) (.cells #[.slice A3 m2 c3] 23)
      go_wp2_with (at_builtin; go_loud (refine wpList_append_oa rfl (.tmp 28) (.tmp 34) 22 rfl Try.underlying22 info23 rfl (by decide) rfl ((ho.below hb3).alloc _) [d.key] [.slice A3 m2 c3] rfl rfl (Cs.new w3 #[.slice A3 m2 c3] 23) hnew ?c1 ?c2 ?c3 ?_); (case c1 => unfold maxLen; omega); (case c2 => omega); (case c3 => show w.heap.size ≤ (w3.heap.push _).size; rw [Array.size_push]; omega); intro A' c' w1 ho' hbl hg hat; have z3 := (hbl.cell (p := ⟨d.g, 3 + i, none⟩) hdg).trans z2)
      go_roundg (gk - 1)
      case measure => omega
      case rel => exact ⟨A', m + 1, c', k + 1, q', rfl, rfl, by omega, by omega, by omega, hhi2, HQ, by rw [HL.out]; exact ho', hbB.trans hbl⟩
end Go.Proofs.Ytimeehjbifbfgaa
