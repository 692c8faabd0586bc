/- What the calls of the layer rlp come to answers as the law says: plain Lean, no program in sight. -/
import Derived.Test.YtlpmnhnlhleogaaPlain
namespace Go.Mo

theorem beN_digs : ∀ n, beN (digs n) = n := by
  intro n
  induction n using Nat.strongRecOn with
  | _ n ih =>
    by_cases h : n = 0
    · subst h; rw [digs_zero]; rfl
    · rw [digs_pos (by omega), beN_snoc, ih (n / 256) (by omega)]
      simp; omega
theorem digs_ne {n : Nat} (h : 0 < n) : digs n ≠ [] := by rw [digs_pos h]; simp
theorem digs_head : ∀ n, 0 < n → (digs n).getD 0 0 ≠ 0 := by
  intro n
  induction n using Nat.strongRecOn with
  | _ n ih =>
    intro h
    rw [digs_pos h]
    by_cases h1 : n / 256 = 0
    · rw [h1, digs_zero]
      simp
      intro e
      have := congrArg UInt8.toNat e
      simp at this; omega
    · have h2 := ih (n / 256) (by omega) (by omega)
      have h3 := digs_ne (n := n / 256) (by omega)
      cases h4 : digs (n / 256) with
      | nil => exact absurd h4 h3
      | cons c cs => rw [h4] at h2; simpa using h2
theorem beN_pos : ∀ (l : List UInt8) (c : UInt8), c ≠ 0 → 0 < beN (c :: l) := by
  intro l c hc
  have : ∀ (l : List UInt8) (a : Nat), 0 < a → 0 < l.foldl (fun a d => a * 256 + d.toNat) a := by
    intro l
    induction l with
    | nil => intro a h; exact h
    | cons d l ih => intro a h; exact ih _ (by show 0 < a * 256 + d.toNat; omega)
  have h0 : 0 < c.toNat := by
    rcases Nat.eq_zero_or_pos c.toNat with h | h
    · exact absurd (UInt8.toNat_inj.1 (by simpa using h)) hc
    · exact h
  exact this l _ (by simpa using h0)
theorem digs_beN (l : List UInt8) (h : l = [] ∨ l.getD 0 0 ≠ 0) : digs (beN l) = l := by
  generalize hk : l.length = k
  induction k generalizing l with
  | zero => have : l = [] := List.eq_nil_of_length_eq_zero hk
            subst this; simp [beN, digs_zero]
  | succ k ih =>
    obtain ⟨l', d, rfl⟩ : ∃ l' d, l = l' ++ [d] := ⟨l.dropLast, l.getLast (by intro e; simp [e] at hk), (List.dropLast_concat_getLast _).symm⟩
    have hd := d.toNat_lt
    have hpos : 0 < beN (l' ++ [d]) := by
      cases l' with
      | nil =>
        have : d ≠ 0 := (h.resolve_left (by simp) : _) |> fun h => by simpa using h
        exact beN_pos [] d this
      | cons c cs =>
        have : c ≠ 0 := (h.resolve_left (by simp) : _) |> fun h => by simpa using h
        exact beN_pos (cs ++ [d]) c this
    rw [digs_pos hpos, beN_snoc]
    have e1 : (beN l' * 256 + d.toNat) / 256 = beN l' := by omega
    have e2 : l' = [] ∨ l'.getD 0 0 ≠ 0 := by
      cases l' with
      | nil => exact .inl rfl
      | cons c cs => right; have := h.resolve_left (by simp); simpa using this
    rw [e1, ih l' e2 (by simpa using hk)]
    congr 1
    simp only [List.cons.injEq, and_true]
    apply UInt8.toNat_inj.1
    simp

theorem reads_head {n base : Nat} (hb : base = 128 ∨ base = 192) (hn : n ≤ 2147483648) (rest : List UInt8) :
    readsI (headB n base ++ rest) = ⟨decide (base = 192), (headB n base).length, n, false, 0⟩ := by
  unfold headB
  by_cases h : n ≤ 55
  · rw [if_pos h]
    have e1 : ((([UInt8.ofNat (base + n)] ++ rest).getD 0 0).toNat) = base + n := by simp; omega
    unfold readsI
    rw [e1]
    dsimp only
    rw [if_neg (by omega)]
    have e2 : (if 192 ≤ base + n then base + n - 192 else base + n - 128) = n := by split <;> omega
    rw [e2, if_pos h]
    have e3 : decide (192 ≤ base + n) = decide (base = 192) := by rw [decide_eq_decide]; omega
    rw [e3]; rfl
  · rw [if_neg h]
    have hk := digs_len 4 n (by omega)
    have hk1 : 1 ≤ (digs n).length := List.length_pos_iff.2 (digs_ne (by omega))
    have e1 : (((UInt8.ofNat (base + 55 + (digs n).length) :: digs n ++ rest).getD 0 0).toNat) = base + 55 + (digs n).length := by simp; omega
    unfold readsI
    rw [e1]
    dsimp only
    rw [if_neg (by omega)]
    have e2 : (if 192 ≤ base + 55 + (digs n).length then base + 55 + (digs n).length - 192 else base + 55 + (digs n).length - 128) = 55 + (digs n).length := by split <;> omega
    rw [e2, if_neg (by omega), if_neg (by simp; omega)]
    have e4 : 55 + (digs n).length - 55 = (digs n).length := by omega
    rw [e4]
    have e5 : (List.drop 1 (UInt8.ofNat (base + 55 + (digs n).length) :: digs n ++ rest)).take (digs n).length = digs n := by simp
    rw [e5, beN_digs]
    have e6 : (UInt8.ofNat (base + 55 + (digs n).length) :: digs n ++ rest).getD 1 0 ≠ 0 := by
      have := digs_head n (by omega)
      cases h4 : digs n with
      | nil => rw [h4] at hk1; simp at hk1
      | cons c cs => rw [h4] at this; simpa using this
    rw [if_neg (fun hh => by rcases hh with hh | hh | hh; exact e6 hh; omega; omega)]
    have e3 : decide (192 ≤ base + 55 + (digs n).length) = decide (base = 192) := by rw [decide_eq_decide]; omega
    rw [e3]
    simp; omega

theorem headB_pos' (n base : Nat) : headB n base ≠ [] := by have := headB_pos n base; intro e; rw [e] at this; simp at this
theorem headB_len0 (n base base' : Nat) : (headB n base).length = (headB n base').length := by rw [headB_len, headB_len]

theorem ownB_iff (b : List UInt8) : ownB b = true ↔ ∃ c, b = [c] ∧ c.toNat < 128 := by
  unfold ownB
  simp only [Bool.and_eq_true, beq_iff_eq, decide_eq_true_eq]
  constructor
  · rintro ⟨h1, h2⟩
    obtain ⟨c, rfl⟩ := List.length_eq_one_iff.1 h1
    refine ⟨c, rfl, ?_⟩
    simp at h2
    exact UInt8.lt_iff_toNat_lt.1 h2
  · rintro ⟨c, rfl, h⟩
    refine ⟨rfl, ?_⟩
    simp
    exact UInt8.lt_iff_toNat_lt.2 h

theorem itemsI_nil (F : List UInt8 → Nat → It × Nat × Nat × Nat) (k : Nat) (acc : List It) (m : Nat) : itemsI F k [] acc m = (acc, 0, m) := by
  cases k with
  | zero => rw [itemsI]
  | succ k => rw [itemsI]; simp

theorem first_own {f m : Nat} {c : UInt8} (hm : m ≠ 4096) (hc : c.toNat < 128) (more : List UInt8) : firstI (f + 1) ([c] ++ more) m = (.mk false [c] [], 1, 0, m + 1) := by
  have hr : readsI ([c] ++ more) = ⟨false, 0, 1, true, 0⟩ := by
    unfold readsI
    simp [hc]
  rw [firstI, if_neg (by simp), if_neg hm]
  dsimp only
  rw [hr]
  simp

theorem first_head {f m n base : Nat} (hm : m ≠ 4096) (hb : base = 128 ∨ base = 192) (hn : n ≤ 2147483648) (p more : List UInt8) (hp : p.length = n) :
    firstI (f + 1) (headB n base ++ p ++ more) m = if base = 192 then
      (if (itemsI (firstI f) n p [] (m + 1)).2.1 ≠ 0 then (It0, 0, (itemsI (firstI f) n p [] (m + 1)).2.1, (itemsI (firstI f) n p [] (m + 1)).2.2) else (.mk true [] (itemsI (firstI f) n p [] (m + 1)).1, (headB n base).length + n, 0, (itemsI (firstI f) n p [] (m + 1)).2.2))
      else if ownB p then (It0, 0, 40, m + 1) else (.mk false p [], (headB n base).length + n, 0, m + 1) := by
  have hr := reads_head hb hn (p ++ more)
  rw [← List.append_assoc] at hr
  have hne : headB n base ++ p ++ more ≠ [] := by have := headB_pos' n base; simp [this]
  rw [firstI, if_neg hne, if_neg hm]
  dsimp only
  rw [hr]
  dsimp only
  rw [if_neg (by simp), if_neg (by simp only [List.length_append]; omega)]
  have e1 : (List.drop (headB n base).length (headB n base ++ p ++ more)).take n = p := by
    rw [List.append_assoc, List.drop_left, ← hp, List.take_left]
  rw [e1, hp]
  by_cases h : base = 192
  · rw [if_pos h, if_pos (by simp [h])]
  · rw [if_neg h, if_neg (by simp [h])]
    simp only [true_and]

mutual
theorem first_put : ∀ (x : It) (d m s m' f : Nat) (more : List UInt8), d + f = 17 → sizeI x d m = (s, 0, m') → s ≤ 65536 →
    firstI f (putI x ++ more) m = (x, s, 0, m') ∧ (putI x).length = s
  | .mk l b is, d, m, s, m', f, more, hf, hs, hlt => by
    rw [sizeI] at hs
    by_cases h1 : 16 < d ∨ m = 4096
    · rw [if_pos h1] at hs; simp at hs
    · rw [if_neg h1] at hs
      obtain ⟨f, rfl⟩ : ∃ g, f = g + 1 := ⟨f - 1, by omega⟩
      have hm : m ≠ 4096 := fun h => h1 (.inr h)
      by_cases h2 : (l = true ∧ 0 < b.length) ∨ (l = false ∧ 0 < is.length)
      · rw [if_pos h2] at hs; simp at hs
      · rw [if_neg h2] at hs
        by_cases h3 : ownB b = true
        · rw [if_pos h3] at hs
          injection hs with hs1 hs2; injection hs2 with _ hs3
          subst hs1; subst hs3
          obtain ⟨c, rfl, hc⟩ := (ownB_iff b).1 h3
          have hl : l = false := by cases l with
            | true => exact absurd (.inl ⟨rfl, by simp⟩) h2
            | false => rfl
          subst hl
          have his : is = [] := by
            cases is with
            | nil => rfl
            | cons i is => exact absurd (.inr ⟨rfl, by simp⟩) h2
          subst his
          rw [putI, if_neg (by simp), if_pos h3]
          exact ⟨first_own hm hc more, rfl⟩
        · rw [if_neg h3] at hs
          dsimp only at hs
          by_cases h4 : (sizeI.sizeL is (d + 1) b.length (m + 1)).2.1 ≠ 0
          · rw [if_pos h4] at hs; injection hs with _ hs; injection hs with hs _; exact absurd hs h4
          · rw [if_neg h4] at hs
            injection hs with hs1 hs2; injection hs2 with _ hs3
            have hq : sizeI.sizeL is (d + 1) b.length (m + 1) = ((sizeI.sizeL is (d + 1) b.length (m + 1)).1, 0, m') := by
              rw [← hs3]
              have : (sizeI.sizeL is (d + 1) b.length (m + 1)).2.1 = 0 := by omega
              rw [← this]
            obtain ⟨e1, e2⟩ := first_putL is (d + 1) b.length (m + 1) _ m' f (by omega) hq (by omega)
            generalize (sizeI.sizeL is (d + 1) b.length (m + 1)).1 = r at hs1 e1 e2
            clear hq h4 hs3
            cases l with
            | true =>
              have hb0 : b = [] := by
                cases b with
                | nil => rfl
                | cons i is => exact absurd (.inl ⟨rfl, by simp⟩) h2
              subst hb0
              have e1' : (putL is).length = r := by simp at e1; omega
              rw [putI, if_pos rfl, e1', first_head hm (.inr rfl) (by omega) _ _ e1', if_pos rfl, e2 r [] (by omega)]
              simp only [List.nil_append]
              rw [if_neg (by simp)]
              rw [headB_len0 r 192 0, List.length_append, headB_len0 r 192 0, e1', ← hs1, Nat.add_comm]
              exact ⟨rfl, rfl⟩
            | false =>
              have hb0 : is = [] := by
                cases is with
                | nil => rfl
                | cons i is => exact absurd (.inr ⟨rfl, by simp⟩) h2
              subst hb0
              have e1' : b.length = r := by simp [putL] at e1; omega
              have e3 := e2 0 [] (by simp [putL])
              rw [show putL [] = [] from by rw [putL], itemsI_nil] at e3
              injection e3 with _ e3; injection e3 with _ e3
              rw [putI, if_neg (by simp), if_neg h3, e1', first_head hm (.inl rfl) (by omega) _ _ e1', if_neg (by omega), if_neg h3]
              rw [headB_len0 r 128 0, List.length_append, headB_len0 r 128 0, e1', ← hs1, e3, Nat.add_comm]
              exact ⟨rfl, rfl⟩
theorem first_putL : ∀ (xs : List It) (d n m s m' f : Nat), d + f = 17 → sizeI.sizeL xs d n m = (s, 0, m') → s ≤ 65536 →
    s = n + (putL xs).length ∧ ∀ k acc, (putL xs).length ≤ k → itemsI (firstI f) k (putL xs) acc m = (acc ++ xs, 0, m')
  | [], d, n, m, s, m', f, hf, hs, hlt => by
    rw [sizeI.sizeL] at hs
    injection hs with hs1 hs2; injection hs2 with _ hs3
    subst hs1; subst hs3
    rw [putL]
    exact ⟨rfl, fun k acc _ => by rw [itemsI_nil, List.append_nil]⟩
  | x :: xs, d, n, m, s, m', f, hf, hs, hlt => by
    rw [sizeI.sizeL] at hs
    by_cases h4 : (sizeI x d m).2.1 ≠ 0
    · rw [if_pos h4] at hs; injection hs with _ hs; injection hs with hs _; exact absurd hs h4
    · rw [if_neg h4] at hs
      have hx : sizeI x d m = ((sizeI x d m).1, 0, (sizeI x d m).2.2) := by
        have : (sizeI x d m).2.1 = 0 := by omega
        rw [← this]
      generalize (sizeI x d m).1 = t at hx hs
      generalize (sizeI x d m).2.2 = m1 at hx hs
      obtain ⟨e1, e2⟩ := first_putL xs d (n + t) m1 s m' f hf hs hlt
      have e3 := first_put x d m t m1 f (putL xs) hf hx (by omega)
      have e5 := firstI_n f (putI x ++ putL xs) m (by rw [e3.1])
      rw [e3.1] at e5
      rw [putL]
      refine ⟨by rw [List.length_append]; omega, fun k acc hk => ?_⟩
      rw [List.length_append] at hk
      obtain ⟨k, rfl⟩ : ∃ g, k = g + 1 := ⟨k - 1, by have := e5.1; simp only at this; omega⟩
      have hne : putI x ++ putL xs ≠ [] := by
        intro e
        have := congrArg List.length e
        rw [List.length_append] at this
        have h6 := e5.1
        simp only at h6
        simp at this
        have h7 := e3.2
        rw [this.1] at h7
        simp at h7; omega
      rw [itemsI, if_neg hne, e3.1]
      simp only
      rw [if_neg (by simp), show List.drop t (putI x ++ putL xs) = putL xs from by rw [← e3.2, List.drop_left], e2 k (acc ++ [x]) (by have := e5.1; simp only at this; omega)]
      simp
end

theorem reads_back {b : List UInt8} (hb : b ≠ []) (he : (readsI b).err = 0) (hl : (readsI b).at_ + (readsI b).n ≤ b.length) :
    ((readsI b).own = true ∧ (readsI b).list = false ∧ (readsI b).at_ = 0 ∧ (readsI b).n = 1 ∧ (b.getD 0 0).toNat < 128) ∨
    ((readsI b).own = false ∧ b.take (readsI b).at_ = headB (readsI b).n (if (readsI b).list then 192 else 128) ∧ (readsI b).at_ = (headB (readsI b).n (if (readsI b).list then 192 else 128)).length) := by
  obtain ⟨c0, b', rfl⟩ : ∃ c0 b', b = c0 :: b' := by cases b with
    | nil => exact absurd rfl hb
    | cons c b' => exact ⟨c, b', rfl⟩
  have hc := c0.toNat_lt
  have h0 : ((c0 :: b').getD 0 0).toNat = c0.toNat := rfl
  unfold readsI at he hl ⊢
  rw [h0] at he hl ⊢
  dsimp only at he hl ⊢
  by_cases h1 : c0.toNat < 128
  · rw [if_pos h1]
    exact .inl ⟨rfl, rfl, rfl, rfl, h1⟩
  · right
    rw [if_neg h1] at he hl ⊢
    have hbase : ∃ base, base = (if 192 ≤ c0.toNat then 192 else 128) ∧ base ≤ c0.toNat ∧ (if 192 ≤ c0.toNat then c0.toNat - 192 else c0.toNat - 128) = c0.toNat - base ∧ (if decide (192 ≤ c0.toNat) = true then 192 else 128) = base := by
      by_cases h : 192 ≤ c0.toNat
      · exact ⟨192, by simp [h], h, by simp [h], by simp [h]⟩
      · exact ⟨128, by simp [h], by omega, by simp [h], by simp [h]⟩
    obtain ⟨base, hb1, hb2, hb3, hb4⟩ := hbase
    have hb5 : base = 192 ∨ base = 128 := by rw [hb1]; split <;> simp
    have hb6 : c0.toNat - base < 64 := by
      rw [hb1]; split <;> omega
    rw [hb3] at he hl ⊢
    by_cases h2 : c0.toNat - base ≤ 55
    · rw [if_pos h2] at he hl ⊢
      dsimp only
      rw [hb4]
      have e : headB (c0.toNat - base) base = [c0] := by
        unfold headB
        rw [if_pos h2]
        congr 1
        apply UInt8.toNat_inj.1
        simp; omega
      rw [e]
      refine ⟨rfl, ?_, ?_⟩ <;> simp
    · rw [if_neg h2] at he hl ⊢
      by_cases h3 : (c0 :: b').length < 1 + (c0.toNat - base - 55)
      · rw [if_pos h3] at he; exact absurd he (by simp)
      · rw [if_neg h3] at he hl ⊢
        generalize hk : c0.toNat - base - 55 = k at he hl h3 ⊢
        by_cases h4 : (c0 :: b').getD 1 0 = 0 ∨ beN (((c0 :: b').drop 1).take k) ≤ 55 ∨ 2147483648 < beN (((c0 :: b').drop 1).take k)
        · rw [if_pos h4] at he; exact absurd he (by simp)
        · rw [if_neg h4] at he hl ⊢
          dsimp only
          rw [hb4]
          simp only [List.drop_succ_cons, List.drop_zero] at h4 hl ⊢
          have hkl : k ≤ b'.length := by simp at h3; omega
          have hd : digs (beN (b'.take k)) = b'.take k := digs_beN _ (.inr (by
            have h5 : ¬ b'.getD 0 0 = 0 := fun h => h4 (.inl (by simpa using h))
            have hk1 : 0 < k := by omega
            cases b' with
            | nil => simp at hkl; omega
            | cons c1 b'' =>
              obtain ⟨k, rfl⟩ : ∃ g, k = g + 1 := ⟨k - 1, by omega⟩
              simpa using h5))
          have e : headB (beN (b'.take k)) base = c0 :: b'.take k := by
            unfold headB
            rw [if_neg (by omega), hd]
            congr 1
            apply UInt8.toNat_inj.1
            simp
            rw [Nat.min_eq_left hkl]; omega
          rw [e]
          refine ⟨trivial, ?_, ?_⟩
          · rw [Nat.add_comm 1 k, List.take_succ_cons]
          · simp; omega

theorem items_back {f d : Nat} (hf : d + f = 17)
    (H : ∀ (b : List UInt8) (m : Nat) (x : It) (n m' : Nat), firstI f b m = (x, n, 0, m') → putI x = b.take n ∧ sizeI x d m = (n, 0, m') ∧ wt x ≤ 11 * n) :
    ∀ (k : Nat) (b : List UInt8) (acc : List It) (m : Nat) (ys : List It) (m' : Nat), b.length ≤ k → itemsI (firstI f) k b acc m = (ys, 0, m') →
      ∃ xs, ys = acc ++ xs ∧ putL xs = b ∧ (∀ n0, sizeI.sizeL xs d n0 m = (n0 + b.length, 0, m')) ∧ wt.wts xs ≤ 11 * b.length
  | 0, b, acc, m, ys, m', hk, h => by
    have hb : b = [] := List.eq_nil_of_length_eq_zero (by omega)
    subst hb
    rw [itemsI_nil] at h
    injection h with h1 h; injection h with _ h2
    subst h1; subst h2
    exact ⟨[], by simp, by rw [putL], fun n0 => by rw [sizeI.sizeL]; rfl, by simp [wt.wts]⟩
  | k + 1, b, acc, m, ys, m', hk, h => by
    by_cases hb : b = []
    · subst hb
      rw [itemsI_nil] at h
      injection h with h1 h; injection h with _ h2
      subst h1; subst h2
      exact ⟨[], by simp, by rw [putL], fun n0 => by rw [sizeI.sizeL]; rfl, by simp [wt.wts]⟩
    · rw [itemsI, if_neg hb] at h
      by_cases h4 : (firstI f b m).2.2.1 ≠ 0
      · rw [if_pos h4] at h; injection h with _ h; injection h with h _; exact absurd h h4
      · rw [if_neg h4] at h
        have h5 : (firstI f b m).2.2.1 = 0 := by omega
        have hn := firstI_n f b m h5
        have hx : firstI f b m = ((firstI f b m).1, (firstI f b m).2.1, 0, (firstI f b m).2.2.2) := by rw [← h5]
        generalize (firstI f b m).1 = x at hx h
        generalize (firstI f b m).2.1 = n at hx h hn
        generalize (firstI f b m).2.2.2 = m1 at hx h
        obtain ⟨p1, p2, p3⟩ := H b m x n m1 hx
        obtain ⟨xs, q1, q2, q3, q4⟩ := items_back hf H k (b.drop n) (acc ++ [x]) m1 ys m' (by rw [List.length_drop]; omega) h
        refine ⟨x :: xs, by rw [q1]; simp, by rw [putL, p1, q2, List.take_append_drop], fun n0 => ?_, ?_⟩
        · rw [sizeL_cons, p2]
          simp only
          rw [if_neg (by simp), q3, List.length_drop]
          congr 1; omega
        · rw [wt.wts]; rw [List.length_drop] at q4; omega

theorem first_back : ∀ (f d : Nat), d + f = 17 → ∀ (b : List UInt8) (m : Nat) (x : It) (n m' : Nat), firstI f b m = (x, n, 0, m') → putI x = b.take n ∧ sizeI x d m = (n, 0, m') ∧ wt x ≤ 11 * n
  | 0, d, hf, b, m, x, n, m', h => by
    rw [firstI] at h
    split at h <;> simp at h
  | f + 1, d, hf, b, m, x, n, m', h => by
    rw [firstI] at h
    dsimp only at h
    by_cases c1 : b = []
    · rw [if_pos c1] at h; simp at h
    · rw [if_neg c1] at h
      by_cases c2 : m = 4096
      · rw [if_pos c2] at h; simp at h
      · rw [if_neg c2] at h
        by_cases c3 : (readsI b).err ≠ 0
        · rw [if_pos c3] at h; injection h with _ h; injection h with _ h; injection h with h _; exact absurd h c3
        · rw [if_neg c3] at h
          by_cases c4 : b.length < (readsI b).at_ + (readsI b).n
          · rw [if_pos c4] at h; simp at h
          · rw [if_neg c4] at h
            have hr := reads_back c1 (by omega) (by omega)
            have hd1 : ¬ (16 < d ∨ m = 4096) := by omega
            generalize readsI b = R at c3 c4 h hr
            obtain ⟨l, at_, rn, own, err⟩ := R
            dsimp only at c3 c4 h hr
            have hil : ((b.drop at_).take rn).length = rn := by rw [List.length_take, List.length_drop]; omega
            have hcut : b.take at_ ++ (b.drop at_).take rn = b.take (at_ + rn) := by rw [List.take_add]
            generalize hi : (b.drop at_).take rn = i at h hil hcut
            rcases hr with ⟨r1, r2, r3, r4, r5⟩ | ⟨r1, r2, r3⟩
            · subst r1; subst r2; subst r3; subst r4
              rw [if_neg (by simp), if_neg (by simp)] at h
              injection h with h1 h; injection h with h2 h; injection h with _ h3
              subst h1; subst h2; subst h3
              obtain ⟨c, rfl⟩ := List.length_eq_one_iff.1 hil
              have hc : c.toNat < 128 := by
                cases b with
                | nil => exact absurd rfl c1
                | cons c0 b' => simp at hi; subst hi; exact r5
              have hown : ownB [c] = true := (ownB_iff _).2 ⟨c, rfl, hc⟩
              refine ⟨?_, ?_, ?_⟩
              · rw [putI, if_neg (by simp), if_pos hown, ← hcut]; simp
              · rw [sizeI, if_neg hd1, if_neg (by simp), if_pos hown]
              · simp [wt, wt.wts]
            · subst r1
              have hp := headB_pos rn (if l = true then 192 else 128)
              cases l with
              | true =>
                rw [if_pos rfl] at h r2 r3 hp
                by_cases h4 : (itemsI (firstI f) i.length i [] (m + 1)).2.1 ≠ 0
                · rw [if_pos h4] at h; injection h with _ h; injection h with _ h; injection h with h _; exact absurd h h4
                · rw [if_neg h4] at h
                  have h5 : (itemsI (firstI f) i.length i [] (m + 1)).2.1 = 0 := by omega
                  have hx : itemsI (firstI f) i.length i [] (m + 1) = ((itemsI (firstI f) i.length i [] (m + 1)).1, 0, (itemsI (firstI f) i.length i [] (m + 1)).2.2) := by rw [← h5]
                  generalize (itemsI (firstI f) i.length i [] (m + 1)).1 = ys at hx h
                  generalize (itemsI (firstI f) i.length i [] (m + 1)).2.2 = m1 at hx h
                  obtain ⟨xs, q1, q2, q3, q4⟩ := items_back (d := d + 1) (by omega) (first_back f (d + 1) (by omega)) i.length i [] (m + 1) ys m1 (Nat.le_refl _) hx
                  rw [List.nil_append] at q1
                  subst q1
                  injection h with h1 h; injection h with h2 h; injection h with _ h3
                  subst h1; subst h2; subst h3
                  refine ⟨?_, ?_, ?_⟩
                  · rw [putI, if_pos rfl, q2, hil, ← r2, hcut]
                  · rw [sizeI, if_neg hd1, if_neg (by simp), if_neg (by simp [ownB])]
                    dsimp only
                    rw [show ([] : List UInt8).length = 0 from rfl, q3 0]
                    simp only
                    rw [if_neg (by simp), hil, Nat.zero_add, r3, headB_len0 rn 192 0, Nat.add_comm]
                  · simp [wt]; omega
              | false =>
                rw [if_neg (by simp)] at h r2 r3 hp
                by_cases h6 : ownB i = true
                · rw [if_pos ⟨rfl, h6⟩] at h; simp at h
                · rw [if_neg (fun h => h6 h.2)] at h
                  injection h with h1 h; injection h with h2 h; injection h with _ h3
                  subst h1; subst h2; subst h3
                  refine ⟨?_, ?_, ?_⟩
                  · rw [putI, if_neg (by simp), if_neg h6, hil, ← r2, hcut]
                  · rw [sizeI, if_neg hd1, if_neg (by simp), if_neg h6]
                    rw [show sizeI.sizeL [] (d + 1) i.length (m + 1) = (i.length, 0, m + 1) from by rw [sizeI.sizeL]]
                    dsimp only
                    rw [if_neg (by simp), hil, r3, headB_len0 rn 128 0, Nat.add_comm]
                  · simp [wt, wt.wts]; omega

/-! ### what the law asks -/
theorem enc_put {x : It} {a : List UInt8} (h : encI x = (a, 0)) : ∃ m', sizeI x 1 0 = (a.length, 0, m') ∧ a.length ≤ 65536 ∧ a = putI x := by
  unfold encI at h
  by_cases h1 : (sizeI x 1 0).2.1 ≠ 0
  · rw [if_pos h1] at h; injection h with _ h; exact absurd h h1
  · rw [if_neg h1] at h
    by_cases h2 : 65536 < (sizeI x 1 0).1
    · rw [if_pos h2] at h; simp at h
    · rw [if_neg h2] at h
      injection h with h _
      have h5 : (sizeI x 1 0).2.1 = 0 := by omega
      have hx : sizeI x 1 0 = ((sizeI x 1 0).1, 0, (sizeI x 1 0).2.2) := Prod.ext rfl (Prod.ext h5 rfl)
      have := (first_put x 1 0 _ _ 16 [] (by omega) hx (by omega)).2
      rw [h] at this
      rw [← this] at hx
      exact ⟨_, hx, by omega, h.symm⟩
theorem first_enc {x : It} {a more : List UInt8} (h : encI x = (a, 0)) (hl : a.length + more.length ≤ 65536) : firstTop (a ++ more) = (x, a.length, 0) := by
  obtain ⟨m', h1, h2, h3⟩ := enc_put h
  have := (first_put x 1 0 _ _ 16 more (by omega) h1 h2).1
  rw [← h3] at this
  unfold firstTop
  rw [if_neg (by rw [List.length_append]; omega), this]
theorem dec_enc {x : It} {a : List UInt8} (h : encI x = (a, 0)) : decI a = (x, 0) := by
  obtain ⟨m', h1, h2, h3⟩ := enc_put h
  have := first_enc (more := []) h (by simpa using h2)
  rw [List.append_nil] at this
  unfold decI
  rw [this]
  simp
theorem prefix_free {x y : It} {a a2 : List UInt8} (h : encI x = (a, 0)) (h2 : encI y = (a2, 0)) (hl : a.length < a2.length) : a2.take a.length ≠ a := by
  intro e
  obtain ⟨m', _, h3, _⟩ := enc_put h2
  have e1 := first_enc (more := a2.drop a.length) h (by rw [List.length_drop]; omega)
  rw [← e, List.length_take, Nat.min_eq_left (by omega), List.take_append_drop] at e1
  have e2 := first_enc (more := []) h2 (by simpa using h3)
  rw [List.append_nil, e1] at e2
  injection e2 with _ e2; injection e2 with e2 _
  omega
theorem dec_back {b : List UInt8} {z : It} (h : decI b = (z, 0)) : encI z = (b, 0) ∧ wt z ≤ 11 * b.length ∧ b.length ≤ 65536 := by
  unfold decI at h
  by_cases h1 : (firstTop b).2.2 ≠ 0
  · rw [if_pos h1] at h; injection h with _ h; exact absurd h h1
  · rw [if_neg h1] at h
    by_cases h2 : (firstTop b).2.1 < b.length
    · rw [if_pos h2] at h; simp at h
    · rw [if_neg h2] at h
      injection h with h _
      unfold firstTop at h h1 h2
      by_cases h3 : 65536 < b.length
      · rw [if_pos h3] at h1; exact absurd (show (44 : Nat) ≠ 0 by omega) h1
      · rw [if_neg h3] at h h1 h2
        dsimp only at h h1 h2
        have h5 : (firstI 16 b 0).2.2.1 = 0 := by omega
        have hn := firstI_n 16 b 0 h5
        have hx : firstI 16 b 0 = (z, (firstI 16 b 0).2.1, 0, (firstI 16 b 0).2.2.2) := Prod.ext h (Prod.ext rfl (Prod.ext h5 rfl))
        have he : (firstI 16 b 0).2.1 = b.length := by omega
        rw [he] at hx
        obtain ⟨p1, p2, p3⟩ := first_back 16 1 (by omega) b 0 z b.length _ hx
        rw [List.take_length] at p1
        refine ⟨?_, p3, by omega⟩
        unfold encI
        rw [p2]
        simp only
        rw [if_neg (by simp), if_neg h3, p1]
theorem eqI_self {x : It} (h : (encI x).2 = 0) : eqI x x = true := by unfold eqI; simp [h]
end Go.Mo
