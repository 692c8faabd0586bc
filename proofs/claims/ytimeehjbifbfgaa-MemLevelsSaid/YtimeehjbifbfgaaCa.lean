/- Numbers as bytes, keys and how they stand: the walks. -/
import Derived.Test.YtimeehjbifbfgaaProg
import Derived.Test.YtimeehjbifbfgaaNum
namespace Go.Proofs.Ytimeehjbifbfgaa
open Go.RowKit Go.Mo
set_option linter.unusedVariables false
set_option linter.unusedSimpArgs false
theorem info5 : (Try.prog.info? 5).map (fun i => (i.zero, i.size, i.bytes)) = some (some (.int .u8 0), 1, 1) := by kernel_rfl

theorem results_tmp4 {P : Program} {fn : Func} {t u v x : Tmp} (h : fn.results = #[.tmp t, .tmp u, .tmp v, .tmp x]) (tmps : Array Value) (w : World) :
    (results fn tmps).run P w = .ok (.tuple #[tmps.getD t undef, tmps.getD u undef, tmps.getD v undef, tmps.getD x undef]) w := by
  simp [results, h]

theorem Clone_calls {S : Nat → Prop} {A : Option Addr} {n c : Nat} {l : List UInt8} (w : World) (h : Bs S w A n c l) :
    Calls Try.prog 65 #[.slice A n c] w fun e w' => ∃ A' c', e = .returned (.slice A' n c') ∧ Ob w.heap.size w' A' n c' l ∧ Below w.heap.size w w' := by
  have he := fun (W : World) => Lib.run_eql_slice_nil (P := Try.prog) W 23 5 A n c 0 0 Try.underlying23
  obtain ⟨b1, b2, b3⟩ := h.bds
  rcases A with _ | ad
  · have hn : n = 0 := by
      rcases Nat.eq_zero_or_pos n with h0 | h0
      · exact h0
      · obtain ⟨ad, e, _⟩ := h.at h0; cases e
    subst hn
    have hl : l = [] := List.eq_nil_of_length_eq_zero h.len.symm
    subst hl
    go_enter Try.func65, Try.ntmps65
    go_wp2
    go_ret
    exact ⟨_, _, rfl, Ob.nil _ _, Below.refl _ _⟩
  · go_enter Try.func65, Try.ntmps65
    go_wp2_with (at_builtin; go_loud (refine wpList_append_bytes _ rfl (.tmp 5) (.tmp 6) 23 rfl w.heap.size Try.underlying23 info5 _ _ _ [] rfl (Ob.lit0 w (Nat.le_refl _)) S _ _ _ l rfl (h.alloc _) ?c1 ?c2 ?_); (case c1 => unfold LIM; omega); (case c2 => simp); intro A' c' w1 ho hbl hg hat)
    go_ret
    exact ⟨_, _, rfl, by simpa using ho, ((Below.refl _ _).alloc (Nat.le_refl _) _).trans hbl⟩

theorem right_calls (A : Option Addr) (n c s : Nat) (N : Int) (hN : N = (s : Int)) (k : Int) (w : World) :
    Calls Try.prog 95 #[.slice A n c, .int .u64 N, .int .i64 k] w fun e w' => e = .returned (.bool (rightI n s k)) ∧ w = w' := by
  subst hN
  by_cases h1 : n ≤ 128
  · by_cases h2 : s ≤ 72057594037927935
    · by_cases h3 : k = 0
      · subst h3
        go_enter Try.func95, Try.ntmps95
        go_wp2
        go_ret
        exact ⟨by simp [rightI, h1, h2], rfl⟩
      · have h3' : (k == 0) = false := by simp [h3]
        by_cases h4 : k = 1
        · subst h4
          go_enter Try.func95, Try.ntmps95
          go_wp2
          go_ret
          exact ⟨by simp [rightI, h1, h2], rfl⟩
        · have h4' : (k == 1) = false := by simp [h4]
          have HR := Sec.mk (show rightI n s k = false from by simp [rightI, h3, h4])
          clear h3 h4
          go_enter Try.func95, Try.ntmps95
          go_wp2
          go_ret
          exact ⟨by rw [HR.out]; rfl, rfl⟩
    · have HR := Sec.mk (show rightI n s k = false from by simp [rightI, h2])
      go_enter Try.func95, Try.ntmps95
      go_wp2
      go_ret
      exact ⟨by rw [HR.out]; rfl, rfl⟩
  · have HR := Sec.mk (show rightI n s k = false from by simp [rightI, h1])
    go_enter Try.func95, Try.ntmps95
    go_wp2
    go_ret
    exact ⟨by rw [HR.out]; rfl, rfl⟩

set_option maxHeartbeats 1000000 in
theorem fixed_calls (n k : Nat) (K : Int) (hK : K = (k : Int)) (hk : k ≤ 8) (hn : Sec (n < 256 ^ 8)) (w : World) :
    Calls Try.prog 118 #[.int .u64 (n : Int), .int .i64 K] w fun e w' => ∃ A c, e = .returned (.slice A k c) ∧ Ob w.heap.size w' A k c (leN n k) ∧ Below w.heap.size w w' := by
  subst hK
  go_enter Try.func118, Try.ntmps118
  go_wp2_with fail
  go_loopg [5, 8] k (fun r v5 v8 w' => ∃ (i c : Nat) (A : Option Addr), v5 = .slice A i c ∧ v8 = .int .i64 (i : Int) ∧ i ≤ k ∧ k ≤ i + r ∧ Ob w.heap.size w' A i c (leN n i) ∧ Below w.heap.size w w')
  case atStart => exact ⟨0, 0, none, rfl, rfl, by omega, by omega, Ob.nil _ _, Below.refl _ _⟩
  case round =>
    obtain ⟨i, c, A, rfl, rfl, hi, hr, ho, hb⟩ := hrel
    by_cases hlt : i < k
    · have hx : Sec ((n : Int) / 2 ^ (8 * i) % 256 = ((UInt8.ofNat (n / 256 ^ i)).toNat : Int)) := ⟨by rw [pow8, ofNat_toNat, Int.natCast_ediv]⟩
      have hsz := hb.size
      go_wp2_with (at_builtin; go_loud (refine wpList_append_bytes _ rfl (.tmp 11) (.tmp 17) 23 rfl w.heap.size Try.underlying23 info5 _ _ _ (leN n i) rfl (ho.alloc _) (fun _ => True) _ _ _ [UInt8.ofNat (n / 256 ^ i)] rfl (Ob.lit1 wr (Nat.le_refl _) _ _ hx.out).bsT ?c1 ?c2 ?_); (case c1 => unfold LIM; omega); (case c2 => show w.heap.size ≤ (wr.heap.push _).size; rw [Array.size_push]; omega); intro A' c' w1 ho' hbl hg hat)
      go_roundg (gk - 1)
      case measure => omega
      case rel => exact ⟨i + 1, c', A', rfl, by go_num, by omega, by omega, by rw [leN_snoc]; exact ho', (hb.alloc hsz _).trans hbl⟩
    · have hik : i = k := by omega
      subst hik
      go_wp2
      go_ret
      exact ⟨_, _, rfl, ho, hb⟩

theorem Fixed8_calls (n : Nat) (N : Int) (hN : N = (n : Int)) (hn : Sec (n < 256 ^ 8)) (w : World) :
    Calls Try.prog 96 #[.int .u64 N] w fun e w' => ∃ A c, e = .returned (.slice A 8 c) ∧ Ob w.heap.size w' A 8 c (leN n 8) ∧ Below w.heap.size w w' := by
  subst hN
  go_enter Try.func96, Try.ntmps96
  go_wp2_with (go_at_call 118; (with_reducible refine (fixed_calls n 8 8 rfl (by omega) hn _).mono ?_); rintro e w2 ⟨A, c, rfl, ho, hb⟩)
  go_ret
  exact ⟨_, _, rfl, ho, hb⟩
theorem Fixed4_calls (n : Nat) (N : Int) (hN : N = (n : Int)) (hn : Sec (n < 256 ^ 4)) (w : World) :
    Calls Try.prog 110 #[.int .u32 N] w fun e w' => ∃ A c, e = .returned (.slice A 4 c) ∧ Ob w.heap.size w' A 4 c (leN n 4) ∧ Below w.heap.size w w' := by
  subst hN
  have h4 := hn.out
  have hc := fixed_calls n 4 4 rfl (by omega) ⟨by omega⟩
  go_enter Try.func110, Try.ntmps110
  go_wp2_with (go_at_call 118; (with_reducible refine (hc _).mono ?_); rintro e w2 ⟨A, c, rfl, ho, hb⟩)
  go_ret
  exact ⟨_, _, rfl, ho, hb⟩

set_option maxHeartbeats 1000000 in
theorem unfixed_calls {S : Nat → Prop} {A : Option Addr} {n c : Nat} {l : List UInt8} (k : Nat) (K : Int) (hK : K = (k : Int)) (hk : k ≤ 8) (w : World) (h : Bs S w A n c l) :
    Calls Try.prog 107 #[.slice A n c, .int .i64 K] w fun e w' => e = .returned (.tuple #[.int .u64 ((if n < k then 0 else unN (l.take k) : Nat) : Int), .int .i64 (if n < k then 20 else 0)]) ∧ w = w' := by
  subst hK
  obtain ⟨b1, b2, b3⟩ := h.bds
  have hlen := Sec.mk h.len
  by_cases hs : n < k
  · have HS := Sec.mk hs
    go_enter Try.func107, Try.ntmps107
    go_wp2
    go_ret2
    exact ⟨rfl, rfl⟩
  · have HS := Sec.mk hs
    go_enter Try.func107, Try.ntmps107
    go_wp2_with fail
    go_loopg [6, 13] k (fun r v6 v13 w' => ∃ (i a : Nat), v6 = .int .u64 (a : Int) ∧ v13 = .int .i64 (i : Int) ∧ i ≤ k ∧ k ≤ i + r ∧ Sec (a = unN (l.take i)) ∧ w = w')
    case atStart => exact ⟨0, 0, rfl, rfl, by omega, by omega, ⟨by simp [unN]⟩, rfl⟩
    case round =>
      obtain ⟨i, a, rfl, rfl, hi, hr, ha, rfl⟩ := hrel
      by_cases hlt : i < k
      · obtain ⟨ad, rfl, hc⟩ := h.at (k := i) (by omega)
        have hd := nb_bd l i
        have hab : a < 256 ^ i := by rw [ha.out]; have := unN_lt (l.take i); rwa [List.length_take, Nat.min_eq_left (by have := hlen.out; omega)] at this
        have hor := Sec.mk (u64_shl_or a (l.getD i 0).toNat i (by omega) hab (l.getD i 0).toNat_lt)
        go_wp2_with fail
        go_roundg (gk - 1)
        case measure => omega
        case rel => exact ⟨i + 1, a + 256 ^ i * (l.getD i 0).toNat, by rw [nb_nat, hor.out], by go_num, by omega, by omega, ⟨by rw [unN_take (by have := hlen.out; omega), ha.out]⟩, rfl⟩
      · have hik : i = k := by omega
        subst hik
        go_wp2
        go_ret2
        exact ⟨by rw [← ha.out]; rfl, rfl⟩

theorem Unfixed8_calls {S : Nat → Prop} {A : Option Addr} {n c : Nat} {l : List UInt8} (w : World) (h : Bs S w A n c l) :
    Calls Try.prog 98 #[.slice A n c] w fun e w' => e = .returned (.tuple #[.int .u64 ((if n < 8 then 0 else unN (l.take 8) : Nat) : Int), .int .i64 (if n < 8 then 20 else 0)]) ∧ w = w' := by
  have hc := unfixed_calls 8 8 rfl (by omega) w h
  generalize (if n < 8 then 0 else unN (l.take 8)) = a at hc ⊢
  generalize (if n < 8 then (20 : Int) else 0) = f at hc ⊢
  go_enter Try.func98, Try.ntmps98
  go_wp2_with (go_at_call 107; (with_reducible refine hc.mono ?_); rintro e w2 ⟨rfl, rfl⟩)
  go_ret2
  exact ⟨rfl, rfl⟩
theorem Unfixed4_calls {S : Nat → Prop} {A : Option Addr} {n c : Nat} {l : List UInt8} (w : World) (h : Bs S w A n c l) :
    Calls Try.prog 82 #[.slice A n c] w fun e w' => e = .returned (.tuple #[.int .u32 ((if n < 4 then 0 else unN (l.take 4) : Nat) : Int), .int .i64 (if n < 4 then 20 else 0)]) ∧ w = w' := by
  have hc := unfixed_calls 4 4 rfl (by omega) w h
  have hb : (if n < 4 then 0 else unN (l.take 4)) < 4294967296 := by
    split
    · omega
    · have h1 := unN_lt (l.take 4)
      have h2 : (l.take 4).length = 4 := by rw [List.length_take, Nat.min_eq_left (by rw [← h.len]; omega)]
      rw [h2] at h1; omega
  generalize (if n < 4 then 0 else unN (l.take 4)) = a at hc hb ⊢
  generalize (if n < 4 then (20 : Int) else 0) = f at hc ⊢
  go_enter Try.func82, Try.ntmps82
  go_wp2_with (go_at_call 107; (with_reducible refine hc.mono ?_); rintro e w2 ⟨rfl, rfl⟩)
  go_ret2
  exact ⟨by first | rfl | (simp; omega), rfl⟩
theorem Equal_calls {S S' : Nat → Prop} {A A' : Option Addr} {n c n' c' : Nat} {l m : List UInt8} (w : World) (h : Bs S w A n c l) (h' : Bs S' w A' n' c' m) :
    Calls Try.prog 64 #[.slice A n c, .slice A' n' c'] w fun e w' => e = .returned (.bool (decide (l = m))) ∧ w = w' := by
  have k1 := run_conv_bs h 23 9 Try.underlying23 Try.underlying5 Try.underlying9
  have k2 := run_conv_bs h' 23 9 Try.underlying23 Try.underlying5 Try.underlying9
  go_enter Try.func64, Try.ntmps64
  go_wp2
  go_ret
  exact ⟨by rw [← bstr_beq]; rfl, rfl⟩
theorem HBytes_calls {S S' : Nat → Prop} {A A' : Option Addr} {n c n' c' : Nat} {l m : List UInt8} (w : World) (h : Bs S w A n c l) (h' : Bs S' w A' n' c' m) :
    Calls Try.prog 20 #[.slice A n c, .slice A' n' c'] w fun e w' => e = .returned (.bool (decide (l = m))) ∧ w = w' := by
  have k1 := run_conv_bs h 23 9 Try.underlying23 Try.underlying5 Try.underlying9
  have k2 := run_conv_bs h' 23 9 Try.underlying23 Try.underlying5 Try.underlying9
  go_enter Try.func20, Try.ntmps20
  go_wp2
  go_ret
  exact ⟨by rw [← bstr_beq]; rfl, rfl⟩

theorem Key_calls {S : Nat → Prop} {A : Option Addr} {n c : Nat} {u : List UInt8} (s : Nat) (k : Int) (w : World) (h : Bs S w A n c u) :
    Calls Try.prog 62 #[.slice A n c, .int .u64 (s : Int), .int .i64 k] w fun e w' => ∃ A' m c', e = .returned (.tuple #[.slice A' m c', .int .i64 ((keyI u s k).2 : Int)]) ∧
      Ob w.heap.size w' A' m c' (keyI u s k).1 ∧ Below w.heap.size w w' := by
  obtain ⟨b1, b2, b3⟩ := h.bds
  have hlen := Sec.mk h.len
  have hR := right_calls A n c s _ rfl k w
  by_cases hr : rightI n s k = true
  · have HK := Sec.mk (show keyI u s k = (keyB u s k.toNat, 0) from by unfold keyI; rw [← hlen.out, if_pos hr])
    rw [hr] at hR
    obtain ⟨h1, h2, h3⟩ := (rightI_iff n s k).1 hr
    clear hr
    obtain ⟨kk, rfl, hkk⟩ : ∃ kk : Nat, k = (kk : Int) ∧ kk ≤ 1 := by rcases h3 with rfl | rfl; exact ⟨0, rfl, by omega⟩; exact ⟨1, rfl, by omega⟩
    clear h3
    have HR := Sec.mk hR; clear hR
    go_enter Try.func62, Try.ntmps62
    go_wp2_with (go_at_call 95; (with_reducible refine HR.out.mono ?_); rintro e w2 ⟨rfl, rfl⟩)
    ((with_reducible refine (Clone_calls _ h).mono ?_); rintro e w3 ⟨A3, c3, rfl, ho3, hb3⟩)
    go_wp2_with fail
    ((with_reducible refine (Fixed8_calls (s * 256 + kk) _ (by omega) ⟨by omega⟩ _).mono ?_); rintro e w4 ⟨A4, c4, rfl, ho4, hb4⟩)
    have hsz3 := hb3.size
    have hsz4 := hb4.size
    go_wp2_with (at_builtin; go_loud (refine wpList_append_bytes _ rfl (.tmp 14) (.tmp 20) 23 rfl w.heap.size Try.underlying23 info5 _ _ _ u rfl (ho3.below hb4) (fun _ => True) _ _ _ (leN (s * 256 + kk) 8) rfl ho4.bsT ?c1 ?c2 ?_); (case c1 => unfold LIM; omega); (case c2 => omega); intro A' c' w1 ho hbl hg hat)
    go_ret2
    rw [HK.out]
    exact ⟨_, _, _, rfl, by unfold keyB; rw [Int.toNat_natCast]; exact ho, (below_then hb3 hb3.size hb4).trans hbl⟩
  · have HK := Sec.mk (show keyI u s k = ([], 23) from by unfold keyI; rw [← hlen.out, if_neg hr])
    have hr' : rightI n s k = false := by simpa using hr
    rw [hr'] at hR
    clear hr hr'
    have HR := Sec.mk hR; clear hR
    go_enter Try.func62, Try.ntmps62
    go_wp2_with (go_at_call 95; (with_reducible refine HR.out.mono ?_); rintro e w2 ⟨rfl, rfl⟩)
    go_ret2
    rw [HK.out]
    exact ⟨_, _, _, rfl, Ob.nil _ _, Below.refl _ _⟩

set_option maxHeartbeats 1000000 in
theorem Split_calls {S : Nat → Prop} {A : Option Addr} {n c : Nat} {l : List UInt8} (w : World) (h : Bs S w A n c l) :
    Calls Try.prog 68 #[.slice A n c] w fun e w' => ∃ A' m c', e = .returned (.tuple #[.slice A' m c', .int .u64 ((splitI l).2.1 : Int), .int .i64 ((splitI l).2.2.1 : Int), .int .i64 ((splitI l).2.2.2 : Int)]) ∧
      Ob w.heap.size w' A' m c' (splitI l).1 ∧ Below w.heap.size w w' := by
  obtain ⟨b1, b2, b3⟩ := h.bds
  have hlen := h.len
  by_cases h8 : n < 8
  · have HS := Sec.mk (show splitI l = ([], 0, 0, 23) from by unfold splitI; rw [← hlen, if_pos h8])
    clear hlen
    go_enter Try.func68, Try.ntmps68
    go_wp2
    (try simp only [Exit.inBlock, Exit.then]); refine bodyPost_ret (results_tmp4 rfl _ _) rfl ?_
    rw [HS.out]
    exact ⟨_, _, _, rfl, Ob.nil _ _, Below.refl _ _⟩
  · have HS := Sec.mk (show splitI l = if rightI (n - 8) (unN (l.drop (n - 8)) / 256) ((unN (l.drop (n - 8)) % 256 : Nat) : Int) then
      (l.take (n - 8), unN (l.drop (n - 8)) / 256, unN (l.drop (n - 8)) % 256, 0) else ([], 0, 0, 23) from by unfold splitI; rw [← hlen, if_neg h8])
    have hN := unN_lt (l.drop (n - 8))
    rw [List.length_drop, ← hlen, show n - (n - 8) = 8 by omega] at hN
    obtain ⟨A', hcut, hcb⟩ := bcut_l (P := Try.prog) 23 .i64 Try.underlying23 info5 A n c ((n : Int) - 8) (n - 8) (by omega) (by omega) b2
    have hb2 := hcb _ _ _ h
    have hU := Unfixed8_calls w hb2
    rw [show n - (n - 8) = 8 by omega] at hU hcut
    rw [if_neg (by omega), if_neg (by omega), List.take_of_length_le (by rw [List.length_drop]; omega)] at hU
    have hbt := h.take (k := n - 8) (by omega)
    generalize unN (l.drop (n - 8)) = N at HS hN hU
    clear hlen hcb hb2
    have hR := right_calls A (n - 8) c (N / 256) ((N : Int) / 256) (by omega) ((N : Int) % 256)
    have hm : ((N % 256 : Nat) : Int) = (N : Int) % 256 := by omega
    have hq : ((N / 256 : Nat) : Int) = (N : Int) / 256 := by omega
    have HU := Sec.mk hU; clear hU
    by_cases hr : rightI (n - 8) (N / 256) ((N : Int) % 256) = true
    · have HS2 := Sec.mk (show splitI l = (l.take (n - 8), N / 256, N % 256, 0) from by rw [HS.out, hm, if_pos hr])
      have HM := Sec.mk hm; have HQ := Sec.mk hq
      rw [hr] at hR
      have HR := Sec.mk hR
      clear hR HS hr hm hq
      go_enter Try.func68, Try.ntmps68
      go_wp2_with fail
      ((with_reducible refine HU.out.mono ?_); rintro e w2 ⟨rfl, rfl⟩)
      go_wp2_with fail
      ((with_reducible refine (HR.out _).mono ?_); rintro e w3 ⟨rfl, rfl⟩)
      go_wp2_with fail
      ((with_reducible refine (Clone_calls _ hbt).mono ?_); rintro e w3 ⟨A3, c3, rfl, ho3, hb3⟩)
      go_wp2_with fail
      (try simp only [Exit.inBlock, Exit.then]); refine bodyPost_ret (results_tmp4 rfl _ _) rfl ?_
      rw [HS2.out]
      exact ⟨A3, _, c3, by rw [HM.out, HQ.out]; rfl, ho3, hb3⟩
    · have HS2 := Sec.mk (show splitI l = ([], 0, 0, 23) from by rw [HS.out, hm, if_neg hr])
      have hr' : rightI (n - 8) (N / 256) ((N : Int) % 256) = false := by simpa using hr
      rw [hr'] at hR
      have HR := Sec.mk hR
      clear hR HS hr hm hq hr'
      go_enter Try.func68, Try.ntmps68
      go_wp2_with fail
      ((with_reducible refine HU.out.mono ?_); rintro e w2 ⟨rfl, rfl⟩)
      go_wp2_with fail
      ((with_reducible refine (HR.out _).mono ?_); rintro e w3 ⟨rfl, rfl⟩)
      go_wp2_with fail
      (try simp only [Exit.inBlock, Exit.then]); refine bodyPost_ret (results_tmp4 rfl _ _) rfl ?_
      rw [HS2.out]
      exact ⟨_, _, _, rfl, Ob.nil _ _, Below.refl _ _⟩
end Go.Proofs.Ytimeehjbifbfgaa
