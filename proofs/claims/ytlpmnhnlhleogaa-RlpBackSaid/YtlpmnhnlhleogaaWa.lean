/- The small functions: bytes compared, cloned; a number's digits; heads. -/
import Derived.Test.YtlpmnhnlhleogaaProg
import Derived.Test.YtlpmnhnlhleogaaPlain
namespace Go.Proofs.Ytlpmnhnlhleogaa
open Go.RowKit Go.Mo
set_option linter.unusedVariables false
set_option linter.unusedSimpArgs false
theorem info5 : (Try.prog.info? 5).map (fun i => (i.zero, i.size, i.bytes)) = some (some (.int .u8 0), 1, 1) := by kernel_rfl

theorem Bytes_calls {S S' : Nat → Prop} {A A' : Option Addr} {n c n' c' : Nat} {l m : List UInt8} (w : World) (h : Bs S w A n c l) (h' : Bs S' w A' n' c' m) :
    Calls Try.prog 11 #[.slice A n c, .slice A' n' c'] w fun e w' => e = .returned (.bool (decide (l = m))) ∧ w = w' := by
  have k1 := run_conv_bs h 22 9 Try.underlying22 Try.underlying5 Try.underlying9
  have k2 := run_conv_bs h' 22 9 Try.underlying22 Try.underlying5 Try.underlying9
  go_enter Try.func11, Try.ntmps11
  go_wp2
  go_ret
  exact ⟨by rw [← bstr_beq]; rfl, rfl⟩

theorem Equal_calls {S S' : Nat → Prop} {A A' : Option Addr} {n c n' c' : Nat} {l m : List UInt8} (w : World) (h : Bs S w A n c l) (h' : Bs S' w A' n' c' m) :
    Calls Try.prog 16 #[.slice A n c, .slice A' n' c'] w fun e w' => e = .returned (.bool (decide (l = m))) ∧ w = w' := by
  have k1 := run_conv_bs h 22 9 Try.underlying22 Try.underlying5 Try.underlying9
  have k2 := run_conv_bs h' 22 9 Try.underlying22 Try.underlying5 Try.underlying9
  go_enter Try.func16, Try.ntmps16
  go_wp2
  go_ret
  exact ⟨by rw [← bstr_beq]; rfl, rfl⟩

theorem own_calls {S : Nat → Prop} {A : Option Addr} {n c : Nat} {l : List UInt8} (w : World) (h : Bs S w A n c l) :
    Calls Try.prog 18 #[.slice A n c] w fun e w' => e = .returned (.bool (ownB l)) ∧ w = w' := by
  obtain ⟨b1, b2, b3⟩ := h.bds
  have hlen := Sec.mk h.len
  by_cases hn : n = 1
  · subst hn
    obtain ⟨ad, rfl, hc⟩ := h.at (k := 0) (by omega)
    rw [add_zero'] at hc
    go_enter Try.func18, Try.ntmps18
    go_wp2
    go_ret
    refine ⟨?_, rfl⟩
    have : ownB l = decide (nb l 0 < 128) := by
      unfold ownB nb
      rw [← hlen.out, Bool.eq_iff_iff]
      simp [UInt8.lt_iff_toNat_lt]; omega
    rw [this]; rfl
  · have hn' : ((n : Int) == 1) = false := by simp; omega
    go_enter Try.func18, Try.ntmps18
    go_wp2
    go_ret
    exact ⟨by simp [ownB, ← hlen.out, hn], rfl⟩

theorem Clone_calls {S : Nat → Prop} {A : Option Addr} {n c : Nat} {l : List UInt8} (w : World) (h : Bs S w A n c l) :
    Calls Try.prog 20 #[.slice A n c] w fun e w' => ∃ A' c', e = .returned (.slice A' n c') ∧ Ob w.heap.size w' A' n c' l ∧ Below w.heap.size w w' := by
  have he := fun (W : World) => Lib.run_eql_slice_nil (P := Try.prog) W 22 5 A n c 0 0 Try.underlying22
  obtain ⟨b1, b2, b3⟩ := h.bds
  rcases A with _ | ad
  · have hn : n = 0 := by
      rcases Nat.eq_zero_or_pos n with h0 | h0
      · exact h0
      · obtain ⟨ad, e, _⟩ := h.at h0; cases e
    subst hn
    have hl : l = [] := List.eq_nil_of_length_eq_zero h.len.symm
    subst hl
    go_enter Try.func20, Try.ntmps20
    go_wp2
    go_ret
    exact ⟨_, _, rfl, Ob.nil _ _, Below.refl _ _⟩
  · go_enter Try.func20, Try.ntmps20
    go_wp2_with (at_builtin; go_loud (refine wpList_append_bytes _ rfl (.tmp 5) (.tmp 6) 22 rfl w.heap.size Try.underlying22 info5 _ _ _ [] rfl (Ob.lit0 w (Nat.le_refl _)) S _ _ _ l rfl (h.alloc _) ?c1 ?c2 ?_); (case c1 => unfold LIM; omega); (case c2 => simp); intro A' c' w1 ho hbl hg hat)
    go_ret
    exact ⟨_, _, rfl, by simpa using ho, ((Below.refl _ _).alloc (Nat.le_refl _) _).trans hbl⟩
theorem digits_calls (n : Nat) (hn : Sec (n < 256 ^ 8)) (w : World) :
    Calls Try.prog 22 #[.int .u64 (n : Int)] w fun e w' => ∃ A' k c', e = .returned (.slice A' k c') ∧ Ob w.heap.size w' A' k c' (digs n) ∧ Below w.heap.size w w' := by
  have hd8 := digs_len 8 n hn.out
  go_enter Try.func22, Try.ntmps22
  go_wp2
  go_loopg [0, 3] n (fun q v0 v3 w' => ∃ (m : Nat) (l : List UInt8) (A : Option Addr) (k c : Nat), v0 = .int .u64 (m : Int) ∧ v3 = .slice A k c ∧ m ≤ q ∧ Sec (digs m ++ l = digs n) ∧ Ob w.heap.size w' A k c l ∧ Below w.heap.size w w')
  case atStart => exact ⟨n, [], none, 0, 0, rfl, rfl, Nat.le_refl _, ⟨by simp⟩, Ob.nil _ _, Below.refl _ _⟩
  case round =>
    obtain ⟨m, l, A, k, c, rfl, rfl, hm, hd, hO, hB⟩ := hrel
    have hlk : k ≤ 8 := by
      have h1 := congrArg List.length hd.out
      rw [List.length_append] at h1
      have h2 := hO.len
      omega
    have hsz := hB.size
    by_cases h0 : m = 0
    · subst h0
      go_wp2
      go_ret
      have e : l = digs n := by simpa [digs_zero] using hd.out
      exact ⟨A, k, c, rfl, e ▸ hO, hB⟩
    · have hp : 0 < (m : Int) := by omega
      have hx := byte_mod m
      go_wp2_with (at_builtin; go_loud (refine wpList_append_bytes _ rfl (.tmp 10) (.tmp 11) 22 rfl w.heap.size Try.underlying22 info5 _ _ _ [UInt8.ofNat m] rfl (Ob.lit1 wr hsz _ _ hx.out) (fun _ => True) _ _ _ l rfl (hO.bsT.alloc _) ?c1 ?c2 ?_); (case c1 => unfold LIM; omega); (case c2 => simp; omega); intro A' c' w1 ho hbl hg hat)
      go_roundg (m / 256)
      case measure => omega
      case rel =>
        refine ⟨m / 256, [UInt8.ofNat m] ++ l, A', 1 + k, c', by go_num, rfl, Nat.le_refl _, ⟨?_⟩, ho, ?_⟩
        · rw [← List.append_assoc, ← digs_pos (by omega)]; exact hd.out
        · exact (hB.alloc hsz _).trans hbl
theorem head_calls (n base : Nat) (b : Int) (hbb : b = (base : Int)) (hn : n ≤ 1099511627776) (hb : base ≤ 192) (w : World) :
    Calls Try.prog 19 #[.int .i64 (n : Int), .int .i64 b] w fun e w' => ∃ A' k c', e = .returned (.slice A' k c') ∧ Ob w.heap.size w' A' k c' (headB n base) ∧ Below w.heap.size w w' := by
  subst hbb
  by_cases h : n ≤ 55
  · go_enter Try.func19, Try.ntmps19
    go_wp2
    go_ret
    refine ⟨some ⟨w.heap.size, 0, none⟩, 1, 1, rfl, ?_, (Below.refl _ _).alloc (Nat.le_refl _) _⟩
    have : headB n base = [UInt8.ofNat (base + n)] := by unfold headB; rw [if_pos h]
    rw [this]
    exact Ob.lit1 w (Nat.le_refl _) _ _ (by rw [ofNat_toNat]; omega)
  · have h3 : Sec (n < 256 ^ 8) := ⟨by omega⟩
    have h8 := digs_len 8 n h3.out
    go_enter Try.func19, Try.ntmps19
    go_wp2_with fail
    ((with_reducible refine (digits_calls n h3 _).mono ?_); rintro e w1 ⟨A', k, c', rfl, ho, hb1⟩)
    have hk := ho.len
    have hk8 : k ≤ 8 := by omega
    have hK := Sec.mk hk; clear hk
    have hsz := hb1.size
    go_wp2_with (at_builtin; go_loud (refine wpList_append_bytes _ rfl (.tmp 22) (.tmp 23) 22 rfl w1.heap.size Try.underlying22 info5 _ _ _ [UInt8.ofNat (base + 55 + k)] rfl (Ob.lit1 w1 (Nat.le_refl _) _ _ (by rw [ofNat_toNat]; omega)) _ _ _ _ (digs n) rfl (ho.bsT.alloc _) ?c1 ?c2 ?_); (case c1 => unfold LIM; omega); (case c2 => simp); intro A2 c2 w2 ho2 hbl hg hat)
    go_ret
    have e : headB n base = [UInt8.ofNat (base + 55 + k)] ++ digs n := by unfold headB; rw [if_neg h, ← hK.out]; rfl
    rw [e]
    exact ⟨_, _, _, rfl, ho2.mono hsz, (hb1.alloc hsz _).trans (hbl.mono hsz)⟩
end Go.Proofs.Ytlpmnhnlhleogaa
