/- A key whose numbers rise: which entry is told. No program in sight. -/
import Derived.Test.YtimeehjbifbfgaaMk
namespace Go.Mo
open Go.RowKit
theorem keyB_ok {u : List UInt8} {s k : Nat} (hu : u.length ≤ 128) (hs : s ≤ 72057594037927935) (hk : k ≤ 1) : KOk (keyB u s k) := by unfold KOk; rw [splitI_keyB hu hs hk]
/-- Keys of one user stand by their numbers. -/
theorem cmp_one {u : List UInt8} {s t : Nat} (hu : u.length ≤ 128) (hs : s ≤ 72057594037927935) (ht : t ≤ 72057594037927935) : (compareI (keyB u s 1) (keyB u t 1)).1 = cmpN t s := by
  rw [cmp_ok (keyB_ok hu hs (by omega)) (keyB_ok hu ht (by omega)), splitI_keyB hu hs (by omega), splitI_keyB hu ht (by omega)]
  unfold standI
  simp only [cb_self]
  by_cases h : cmpN t s = 0
  · rw [h]; decide
  · simp [h]
/-- The entries behind i puts. -/
def lastE (hs : List Int) (u : List UInt8) (vs : List (List UInt8)) : Nat → List En
  | 0 => []
  | i + 1 => (keyB u (2 * i + 2) 1, vs.getD i [], Go.Proofs.Ytimeehjbifbfgaa.heightI hs i) :: lastE hs u vs i
section
variable {hs : List Int} {u : List UInt8} {vs : List (List UInt8)}
theorem lastE_len (i : Nat) : (lastE hs u vs i).length = i := by
  induction i with
  | zero => rfl
  | succ i ih => simp [lastE, ih]
theorem lastE_mem {i : Nat} {e : En} (h : e ∈ lastE hs u vs i) : ∃ j, j < i ∧ e.1 = keyB u (2 * j + 2) 1 ∧ e.2.1 = vs.getD j [] := by
  induction i with
  | zero => cases h
  | succ i ih =>
    rcases List.mem_cons.1 h with rfl | h
    · exact ⟨i, by omega, rfl, rfl⟩
    · obtain ⟨j, h1, h2⟩ := ih h; exact ⟨j, by omega, h2⟩
theorem put_last (hu : u.length ≤ 128) {i : Nat} (hi : i ≤ 40) (hv : (vs.getD i []).length ≤ 16384) : putE hs (lastE hs u vs i) u (2 * i + 2) 1 (vs.getD i []) = (0, lastE hs u vs (i + 1)) := by
  have hk : keyI u (2 * i + 2) 1 = (keyB u (2 * i + 2) 1, 0) := by
    unfold keyI; rw [if_pos ((rightI_iff _ _ _).2 ⟨hu, by omega, .inr rfl⟩)]; rfl
  unfold putE
  rw [hk, if_neg (by simp), if_neg (by omega), if_neg]
  · congr 1
    rw [lastE_len]
    have h0 : posE (lastE hs u vs i) (keyB u (2 * i + 2) 1) = 0 := by
      cases i with
      | zero => rfl
      | succ i =>
        unfold posE lastE
        rw [List.takeWhile_cons, cmp_one hu (by omega) (by omega)]
        have : cmpN (2 * (i + 1) + 2) (2 * i + 2) = 1 := cmpN_gt.2 (by omega)
        rw [this]; rfl
    unfold insE
    simp only [h0]
    rfl
  · rintro ⟨e, he, h⟩
    obtain ⟨j, hj, h1, _⟩ := lastE_mem he
    rw [h1] at h
    have := congrArg splitI h
    rw [splitI_keyB hu (by omega) (by omega), splitI_keyB hu (by omega) (by omega)] at this
    simp at this
    omega
theorem get_at (hu : u.length ≤ 128) {n : Nat} (hn : n ≤ 100) {i : Nat} (hi : i ≤ 40) :
    (lastE hs u vs i)[posE (lastE hs u vs i) (keyB u n 1)]? = if n < 2 ∨ i = 0 then none else some (keyB u (2 * min (n / 2 - 1) (i - 1) + 2) 1, vs.getD (min (n / 2 - 1) (i - 1)) [], Go.Proofs.Ytimeehjbifbfgaa.heightI hs (min (n / 2 - 1) (i - 1))) := by
  induction i with
  | zero => rw [if_pos (.inr rfl)]; rfl
  | succ i ih =>
    have ih := ih (by omega)
    by_cases h : n < 2 * i + 2
    · have hp : posE (lastE hs u vs (i + 1)) (keyB u n 1) = posE (lastE hs u vs i) (keyB u n 1) + 1 := by
        unfold posE
        rw [lastE, List.takeWhile_cons, cmp_one hu (by omega) (by omega), cmpN_lt.2 h]
        simp
      rw [hp, lastE, List.getElem?_cons_succ, ih]
      by_cases h2 : n < 2
      · rw [if_pos (.inl h2), if_pos (.inl h2)]
      · rw [if_neg (by omega), if_neg (by omega)]
        rw [show min (n / 2 - 1) (i - 1) = n / 2 - 1 from by omega, show min (n / 2 - 1) (i + 1 - 1) = n / 2 - 1 from by omega]
    · have hp : posE (lastE hs u vs (i + 1)) (keyB u n 1) = 0 := by
        unfold posE
        rw [lastE, List.takeWhile_cons, cmp_one hu (by omega) (by omega)]
        have : ¬ cmpN n (2 * i + 2) < 0 := fun hl => by
          rcases cmpN_three n (2 * i + 2) with e | e | e
          · have := cmpN_lt.1 e; omega
          · omega
          · omega
        simp [this]
      rw [hp, lastE, List.getElem?_cons_zero, if_neg (by omega), show min (n / 2 - 1) (i + 1 - 1) = i from by omega]
theorem get_last (hu : u.length ≤ 128) {n : Nat} (hn : n ≤ 100) {i : Nat} (hi : i < 40) :
    getE (lastE hs u vs (i + 1)) u n = if n < 2 then ([], 0, false) else (vs.getD (min (n / 2 - 1) i) [], 1, true) := by
  unfold getE
  rw [if_pos hu, show min n 72057594037927935 = n from by omega, get_at hu hn (by omega)]
  by_cases h : n < 2
  · rw [if_pos (.inl h), if_pos h]
  · rw [if_neg (by omega), if_neg h]
    simp only [Nat.add_sub_cancel]
    rw [splitI_keyB hu (by omega) (by omega)]
    simp
theorem sizeE_last' (hu : u.length ≤ 128) {i : Nat} (hv : ∀ j, j < i → (vs.getD j []).length ≤ 16384) (hi : i ≤ 40) : sizeE (lastE hs u vs i) ≤ i * 20000 := by
  induction i with
  | zero => simp [lastE, sizeE]
  | succ i ih =>
    have := ih (fun j hj => hv j (by omega)) (by omega)
    have h2 := hv i (by omega)
    simp only [lastE, sizeE, keyB_len]
    omega
theorem lastE_ord' (hu : u.length ≤ 128) {i : Nat} (hv : ∀ j, j < i → (vs.getD j []).length ≤ 16384) (hi : i ≤ 40) : OrdE (lastE hs u vs i) := by
  induction i with
  | zero => exact OrdE.nil
  | succ i ih =>
    have := putE_ord (ih (fun j hj => hv j (by omega)) (by omega)) (hs := hs) u (2 * i + 2) 1 (vs.getD i [])
    rwa [put_last hu (by omega) (hv i (by omega))] at this
end
end Go.Mo
