/- How keys stand: an order. No program in sight. -/
import Derived.Test.YtimeehjbifbfgaaNum
namespace Go.Mo
open Go.Lib
theorem cb_self (a : List UInt8) : compareBytes a a = 0 := by
  induction a with
  | nil => rfl
  | cons x a ih => unfold compareBytes; simp [ih, UInt8.lt_irrefl]
theorem cb_three : ∀ (a b : List UInt8), compareBytes a b = -1 ∨ compareBytes a b = 0 ∨ compareBytes a b = 1
  | [], [] => .inr (.inl rfl)
  | [], _ :: _ => .inl rfl
  | _ :: _, [] => .inr (.inr rfl)
  | x :: a, y :: b => by
    unfold compareBytes
    split
    · exact .inl rfl
    · split
      · exact .inr (.inr rfl)
      · exact cb_three a b
theorem cb_eq : ∀ {a b : List UInt8}, compareBytes a b = 0 → a = b
  | [], [], _ => rfl
  | [], _ :: _, h => by cases h
  | _ :: _, [], h => by cases h
  | x :: a, y :: b, h => by
    unfold compareBytes at h
    split at h
    · cases h
    · split at h
      · cases h
      · rename_i h1 h2
        have : x = y := UInt8.le_antisymm (UInt8.not_lt.1 h2) (UInt8.not_lt.1 h1)
        rw [this, cb_eq h]
theorem cb_swap : ∀ (a b : List UInt8), compareBytes b a = - compareBytes a b
  | [], [] => rfl
  | [], _ :: _ => rfl
  | _ :: _, [] => rfl
  | x :: a, y :: b => by
    unfold compareBytes
    by_cases h1 : x < y
    · have : ¬ y < x := fun h => UInt8.lt_irrefl _ (UInt8.lt_trans h h1)
      simp [h1, this]
    · by_cases h2 : y < x
      · simp [h1, h2]
      · simp [h1, h2, cb_swap a b]
theorem cb_trans : ∀ {a b c : List UInt8}, compareBytes a b = -1 → compareBytes b c = -1 → compareBytes a c = -1
  | [], [], _, h, _ => by cases h
  | [], _ :: _, [], _, h => by cases h
  | [], _ :: _, _ :: _, _, _ => rfl
  | _ :: _, [], _, h, _ => by cases h
  | _ :: _, _ :: _, [], _, h => by cases h
  | x :: a, y :: b, z :: c, h, k => by
    unfold compareBytes at h k ⊢
    by_cases h1 : x < y
    · by_cases k1 : y < z
      · rw [if_pos (UInt8.lt_trans h1 k1)]
      · rw [if_neg k1] at k
        by_cases k2 : z < y
        · rw [if_pos k2] at k; cases k
        · have : y = z := UInt8.le_antisymm (UInt8.not_lt.1 k2) (UInt8.not_lt.1 k1)
          subst this
          rw [if_pos h1]
    · rw [if_neg h1] at h
      by_cases h2 : y < x
      · rw [if_pos h2] at h; cases h
      · rw [if_neg h2] at h
        have : x = y := UInt8.le_antisymm (UInt8.not_lt.1 h2) (UInt8.not_lt.1 h1)
        subst this
        by_cases k1 : x < z
        · rw [if_pos k1]
        · rw [if_neg k1] at k ⊢
          by_cases k2 : z < x
          · rw [if_pos k2] at k; cases k
          · rw [if_neg k2] at k ⊢
            exact cb_trans h k
theorem cmpN_swap (a b : Nat) : cmpN b a = - cmpN a b := by unfold cmpN; split <;> split <;> omega
theorem cmpN_three (a b : Nat) : cmpN a b = -1 ∨ cmpN a b = 0 ∨ cmpN a b = 1 := by unfold cmpN; split <;> (try split) <;> simp
theorem cmpN_eq {a b : Nat} : cmpN a b = 0 ↔ a = b := by unfold cmpN; split <;> (try split) <;> constructor <;> intro h <;> omega
theorem cmpN_lt {a b : Nat} : cmpN a b = -1 ↔ a < b := by unfold cmpN; split <;> (try split) <;> constructor <;> intro h <;> omega
theorem cmpN_gt {a b : Nat} : cmpN a b = 1 ↔ b < a := by unfold cmpN; split <;> (try split) <;> constructor <;> intro h <;> omega

/-- The parts of a key. -/
abbrev Parts := List UInt8 × Nat × Nat × Nat
theorem stand_three (x y : Parts) : standI x y = -1 ∨ standI x y = 0 ∨ standI x y = 1 := by
  unfold standI
  split
  · exact cb_three _ _
  · split
    · exact cmpN_three _ _
    · exact cmpN_three _ _
theorem stand_swap (x y : Parts) : standI y x = - standI x y := by
  unfold standI
  rw [cb_swap x.1 y.1, cmpN_swap y.2.1 x.2.1, cmpN_swap y.2.2.1 x.2.2.1]
  by_cases h1 : compareBytes x.1 y.1 = 0
  · by_cases h2 : cmpN y.2.1 x.2.1 = 0
    · simp [h1, h2]
    · simp [h1, h2]
  · simp [h1]
theorem stand_eq {x y : Parts} (h : standI x y = 0) : x.1 = y.1 ∧ x.2.1 = y.2.1 ∧ x.2.2.1 = y.2.2.1 := by
  unfold standI at h
  split at h
  · exact absurd h (by assumption)
  · rename_i h1
    split at h
    · exact absurd h (by assumption)
    · rename_i h2
      exact ⟨cb_eq (by simpa using h1), (cmpN_eq.1 (by simpa using h2)).symm, (cmpN_eq.1 h).symm⟩
theorem stand_self (x : Parts) : standI x x = 0 := by
  unfold standI
  rw [cb_self, cmpN_eq.2 rfl, cmpN_eq.2 rfl]; simp
theorem stand_lt_iff (x y : Parts) : standI x y = -1 ↔ compareBytes x.1 y.1 = -1 ∨ (x.1 = y.1 ∧ (y.2.1 < x.2.1 ∨ (x.2.1 = y.2.1 ∧ y.2.2.1 < x.2.2.1))) := by
  unfold standI
  constructor
  · intro h
    split at h
    · exact .inl h
    · rename_i h1
      have e1 := cb_eq (by simpa using h1)
      refine .inr ⟨e1, ?_⟩
      split at h
      · exact .inl (cmpN_lt.1 h)
      · rename_i h2
        exact .inr ⟨(cmpN_eq.1 (by simpa using h2)).symm, cmpN_lt.1 h⟩
  · rintro (h | ⟨h1, h | ⟨h2, h⟩⟩)
    · rw [if_pos (by rw [h]; decide)]; exact h
    · rw [h1, cb_self, if_neg (by simp), cmpN_lt.2 h]; simp
    · rw [h1, cb_self, if_neg (by simp), h2, cmpN_eq.2 rfl, if_neg (by simp)]; exact cmpN_lt.2 h
theorem stand_trans {x y z : Parts} (h : standI x y = -1) (k : standI y z = -1) : standI x z = -1 := by
  rw [stand_lt_iff] at *
  rcases h with h | ⟨h1, h⟩
  · rcases k with k | ⟨k1, k⟩
    · exact .inl (cb_trans h k)
    · rw [← k1]; exact .inl h
  · rcases k with k | ⟨k1, k⟩
    · rw [h1]; exact .inl k
    · refine .inr ⟨h1.trans k1, ?_⟩
      omega

/-- A key. -/
def KOk (k : List UInt8) : Prop := (splitI k).2.2.2 = 0
theorem splitI_err (k : List UInt8) : (splitI k).2.2.2 = 0 ∨ (splitI k).2.2.2 = 23 := by
  unfold splitI; split
  · exact .inr rfl
  · split
    · exact .inl rfl
    · exact .inr rfl
/-- A key's parts, where it is one. -/
theorem KOk.parts {k : List UInt8} (h : KOk k) : 8 ≤ k.length ∧ k.length ≤ 136 ∧ (splitI k).1 = k.take (k.length - 8) ∧ (splitI k).2.1 ≤ 72057594037927935 ∧ (splitI k).2.2.1 ≤ 1 ∧ k = keyB (splitI k).1 (splitI k).2.1 (splitI k).2.2.1 := by
  unfold KOk splitI at h
  unfold splitI
  split at h
  · cases h
  · rename_i h8
    rw [if_neg h8]
    split at h
    · rename_i hr
      rw [if_pos hr]
      obtain ⟨h1, h2, h3⟩ := (rightI_iff _ _ _).1 hr
      refine ⟨by omega, by omega, rfl, h2, by show unN _ % 256 ≤ 1; omega, ?_⟩
      show k = keyB (k.take (k.length - 8)) (unN (k.drop (k.length - 8)) / 256) (unN (k.drop (k.length - 8)) % 256)
      unfold keyB
      rw [show unN (k.drop (k.length - 8)) / 256 * 256 + unN (k.drop (k.length - 8)) % 256 = unN (k.drop (k.length - 8)) from by omega]
      have : (k.drop (k.length - 8)).length = 8 := by rw [List.length_drop]; omega
      have e := leN_unN (k.drop (k.length - 8))
      rw [this] at e
      rw [e, List.take_append_drop]
    · cases h
theorem keyB_len (u : List UInt8) (s k : Nat) : (keyB u s k).length = u.length + 8 := by unfold keyB; rw [List.length_append, leN_len]
theorem splitI_keyB {u : List UInt8} {s k : Nat} (hu : u.length ≤ 128) (hs : s ≤ 72057594037927935) (hk : k ≤ 1) : splitI (keyB u s k) = (u, s, k, 0) := by
  have hl := keyB_len u s k
  have e0 : (keyB u s k).length - 8 = u.length := by omega
  unfold splitI
  rw [if_neg (by omega), e0]
  have e1 : (keyB u s k).drop u.length = leN (s * 256 + k) 8 := by unfold keyB; simp
  have e2 : (keyB u s k).take u.length = u := by unfold keyB; simp
  rw [e1, e2, unN_leN]
  have e3 : (s * 256 + k) % 256 ^ 8 = s * 256 + k := Nat.mod_eq_of_lt (by omega)
  rw [e3]
  have e4 : (s * 256 + k) / 256 = s := by omega
  have e5 : (s * 256 + k) % 256 = k := by omega
  rw [e4, e5, if_pos ((rightI_iff _ _ _).2 ⟨hu, hs, by omega⟩)]
theorem keyI_ok {u : List UInt8} {s : Nat} {k : Int} (h : (keyI u s k).2 = 0) : u.length ≤ 128 ∧ s ≤ 72057594037927935 ∧ (k = 0 ∨ k = 1) ∧ (keyI u s k).1 = keyB u s k.toNat ∧ KOk (keyI u s k).1 ∧ splitI (keyI u s k).1 = (u, s, k.toNat, 0) := by
  unfold keyI at *
  split at h
  · rename_i hr
    rw [if_pos hr]
    obtain ⟨h1, h2, h3⟩ := (rightI_iff _ _ _).1 hr
    have e := splitI_keyB h1 h2 (k := k.toNat) (by omega)
    exact ⟨h1, h2, h3, rfl, by unfold KOk; rw [e], e⟩
  · cases h
/-- How two keys stand. -/
theorem cmp_ok {a b : List UInt8} (ha : KOk a) (hb : KOk b) : compareI a b = (standI (splitI a) (splitI b), 0) := by
  unfold compareI; rw [if_neg (by rintro (h | h); exact h ha; exact h hb)]
theorem cmp_eq0 {a b : List UInt8} (ha : KOk a) (hb : KOk b) (h : (compareI a b).1 = 0) : a = b := by
  rw [cmp_ok ha hb] at h
  obtain ⟨h1, h2, h3⟩ := stand_eq h
  rw [ha.parts.2.2.2.2.2, hb.parts.2.2.2.2.2, h1, h2, h3]
theorem cmp_self {a : List UInt8} (ha : KOk a) : (compareI a a).1 = 0 := by rw [cmp_ok ha ha]; exact stand_self _
theorem cmp_three (a b : List UInt8) : (compareI a b).1 = -1 ∨ (compareI a b).1 = 0 ∨ (compareI a b).1 = 1 := by
  unfold compareI
  split
  · exact .inr (.inl rfl)
  · exact stand_three _ _
theorem cmp_lt {a b : List UInt8} : (compareI a b).1 < 0 ↔ (compareI a b).1 = -1 := by rcases cmp_three a b with h | h | h <;> omega
theorem cmp_swap {a b : List UInt8} : (compareI b a).1 = - (compareI a b).1 := by
  unfold compareI
  by_cases h : (splitI a).2.2.2 ≠ 0 ∨ (splitI b).2.2.2 ≠ 0
  · rw [if_pos h, if_pos h.symm]; rfl
  · rw [if_neg h, if_neg (fun e => h e.symm)]; exact stand_swap _ _
theorem cmp_trans {a b c : List UInt8} (ha : KOk a) (hb : KOk b) (hc : KOk c) (h : (compareI a b).1 < 0) (k : (compareI b c).1 < 0) : (compareI a c).1 < 0 := by
  rw [cmp_lt, cmp_ok ha hb] at h
  rw [cmp_lt, cmp_ok hb hc] at k
  rw [cmp_lt, cmp_ok ha hc]
  exact stand_trans h k
end Go.Mo
