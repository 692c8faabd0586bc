/- A node put among others: the links, in plain Lean. -/
import Derived.Test.YtimeehjbifbfgaaTw
namespace Go.Mo
open Go.RowKit
theorem findIdx_find {α : Type} (q : α → Bool) : ∀ (l : List α), (l.findIdx? q).bind (fun k => l[k]?) = l.find? q
  | [] => rfl
  | x :: l => by
    rw [List.findIdx?_cons, List.find?_cons]
    cases h : q x with
    | true => simp
    | false =>
      simp only [Bool.false_eq_true, if_false]
      rw [← findIdx_find q l]
      cases l.findIdx? q <;> simp
theorem nextAt_find (N : List Nd) (a i : Nat) : ((nextAt N a i).bind fun k => (N[k]?).map (·.g)) = ((N.drop a).find? fun d => decide (i < d.h)).map (·.g) := by
  rw [← findIdx_find]
  unfold nextAt
  cases (N.drop a).findIdx? (fun d => decide (i < d.h)) with
  | none => rfl
  | some k => simp [List.getElem?_drop]
theorem lvIn_find (N : List Nd) (a i : Nat) : lvIn N a i = if isHi N a i then lnk (((N.drop a).find? fun d => decide (i < d.h)).map (·.g)) else .pointer none := by
  unfold lvIn; rw [nextAt_find]
/-- A node put in at a place. -/
def ins (N : List Nd) (p : Nat) (x : Nd) : List Nd := N.take p ++ x :: N.drop p
theorem ins_drop_le {N : List Nd} {p a : Nat} {x : Nd} (ha : a ≤ p) (hp : p ≤ N.length) : (ins N p x).drop a = (N.take p).drop a ++ x :: N.drop p := by
  unfold ins
  rw [List.drop_append_of_le_length (by rw [List.length_take]; omega)]
theorem drop_le {N : List Nd} {p a : Nat} (ha : a ≤ p) (hp : p ≤ N.length) : N.drop a = (N.take p).drop a ++ N.drop p := by
  conv => lhs; rw [← List.take_append_drop p N]
  rw [List.drop_append_of_le_length (by rw [List.length_take]; omega)]
theorem ins_drop_gt {N : List Nd} {p a : Nat} {x : Nd} (ha : p < a) (hp : p ≤ N.length) : (ins N p x).drop a = N.drop (a - 1) := by
  unfold ins
  obtain ⟨k, rfl⟩ : ∃ k, a = p + (k + 1) := ⟨a - p - 1, by omega⟩
  rw [List.drop_append, List.drop_of_length_le (by rw [List.length_take]; omega), List.length_take, Nat.min_eq_left hp, List.nil_append, show p + (k + 1) - p = k + 1 from by omega, List.drop_succ_cons, List.drop_drop]
  congr 1
theorem ins_get_lt {N : List Nd} {p k : Nat} {x : Nd} (hk : k < p) (hp : p ≤ N.length) : (ins N p x)[k]? = N[k]? := by
  unfold ins
  rw [List.getElem?_append_left (by rw [List.length_take]; omega), List.getElem?_take_of_lt hk]
theorem ins_get_eq {N : List Nd} {p : Nat} {x : Nd} (hp : p ≤ N.length) : (ins N p x)[p]? = some x := by
  unfold ins
  rw [List.getElem?_append_right (by rw [List.length_take]; omega), List.length_take, Nat.min_eq_left hp]
  simp
theorem ins_get_gt {N : List Nd} {p k : Nat} {x : Nd} (hk : p < k) (hp : p ≤ N.length) : (ins N p x)[k]? = N[k - 1]? := by
  unfold ins
  rw [List.getElem?_append_right (by rw [List.length_take]; omega), List.length_take, Nat.min_eq_left hp]
  obtain ⟨j, rfl⟩ : ∃ j, k = p + (j + 1) := ⟨k - p - 1, by omega⟩
  rw [show p + (j + 1) - p = j + 1 from by omega, List.getElem?_cons_succ, List.getElem?_drop]
  congr 1
theorem isHi_ins_le {N : List Nd} {p a i : Nat} {x : Nd} (ha : a ≤ p) (hp : p ≤ N.length) : isHi (ins N p x) a i = isHi N a i := by
  cases a with
  | zero => rfl
  | succ k => simp only [isHi]; rw [ins_get_lt (by omega) hp]
theorem isHi_ins_eq {N : List Nd} {p i : Nat} {x : Nd} (hp : p ≤ N.length) : isHi (ins N p x) (p + 1) i = decide (i < x.h) := by
  simp only [isHi]; rw [ins_get_eq hp]
theorem isHi_ins_gt {N : List Nd} {p a i : Nat} {x : Nd} (ha : p + 1 < a) (hp : p ≤ N.length) : isHi (ins N p x) a i = isHi N (a - 1) i := by
  obtain ⟨k, rfl⟩ : ∃ k, a = k + 2 := ⟨a - 2, by omega⟩
  simp only [isHi, show k + 2 - 1 = k + 1 from rfl]
  rw [ins_get_gt (by omega) hp, show k + 1 - 1 = k from rfl]
/-- Behind the place: as before. -/
theorem lv_ins_gt {N : List Nd} {p a i : Nat} {x : Nd} (ha : p + 1 < a) (hp : p ≤ N.length) : lvIn (ins N p x) a i = lvIn N (a - 1) i := by
  rw [lvIn_find, lvIn_find, isHi_ins_gt ha hp, ins_drop_gt (by omega) hp]
/-- At a level above the new node: as before. -/
theorem lv_ins_high {N : List Nd} {p a i : Nat} {x : Nd} (ha : a ≤ p) (hp : p ≤ N.length) (hi : ¬ i < x.h) : lvIn (ins N p x) a i = lvIn N a i := by
  rw [lvIn_find, lvIn_find, isHi_ins_le ha hp, ins_drop_le ha hp, drop_le ha hp, List.find?_append, List.find?_append, List.find?_cons]
  simp [hi]
theorem lv_ins_x_high {N : List Nd} {p i : Nat} {x : Nd} (hp : p ≤ N.length) (hi : ¬ i < x.h) : lvIn (ins N p x) (p + 1) i = .pointer none := by
  rw [lvIn_find, isHi_ins_eq hp]
  simp [hi]
/-- Between the last high place and p none is high. -/
theorem none_between {N : List Nd} {p a i : Nat} (h : lastAt N i p ≤ a) (hp : p ≤ N.length) : ((N.take p).drop a).find? (fun d => decide (i < d.h)) = none := by
  rw [List.find?_eq_none]
  intro d hd
  rw [List.mem_iff_getElem?] at hd
  obtain ⟨k, hk⟩ := hd
  rw [List.getElem?_drop] at hk
  have hkp : a + k < p := by
    rcases Nat.lt_or_ge (a + k) p with h | h
    · exact h
    · rw [List.getElem?_eq_none (by rw [List.length_take]; omega)] at hk; cases hk
  rw [List.getElem?_take_of_lt hkp] at hk
  intro hi
  have : ∀ q, a + k < q → a + k < lastAt N i q := by
    intro q
    induction q with
    | zero => intro h; omega
    | succ q ih =>
      intro hq
      rw [lastAt]
      by_cases he : a + k = q
      · rw [← he, hk]
        simp only
        rw [if_pos (by simpa using hi)]
        omega
      · have := ih (by omega)
        split
        · split
          · omega
          · exact this
        · exact this
  have := this p hkp
  omega
/-- The new node's link: what the last high place's was. -/
theorem lv_ins_x {N : List Nd} {p i : Nat} {x : Nd} (hp : p ≤ N.length) (hi : i < x.h) : lvIn (ins N p x) (p + 1) i = lvIn N (lastAt N i p) i := by
  have hL := lastAt_le N i p
  rw [lvIn_find, lvIn_find, isHi_ins_eq hp, lastAt_hi, ins_drop_gt (by omega) hp, drop_le hL hp, List.find?_append, none_between (Nat.le_refl _) hp]
  simp [hi]
/-- The last high place's link: the new node. -/
theorem lv_ins_last {N : List Nd} {p i : Nat} {x : Nd} (hp : p ≤ N.length) (hi : i < x.h) : lvIn (ins N p x) (lastAt N i p) i = lnk (some x.g) := by
  have hL := lastAt_le N i p
  rw [lvIn_find, isHi_ins_le hL hp, lastAt_hi, ins_drop_le hL hp, List.find?_append, none_between (Nat.le_refl _) hp, List.find?_cons]
  simp [hi]
/-- Another place up to p: as before. -/
theorem lv_ins_other {N : List Nd} {p a i : Nat} {x : Nd} (ha : a ≤ p) (hp : p ≤ N.length) (hne : a ≠ lastAt N i p) : lvIn (ins N p x) a i = lvIn N a i := by
  rw [lvIn_find, lvIn_find, isHi_ins_le ha hp]
  cases hh : isHi N a i with
  | false => rfl
  | true =>
    have hsome : ∃ d, ((N.take p).drop a).find? (fun d => decide (i < d.h)) = some d := by
      cases hf : ((N.take p).drop a).find? (fun d => decide (i < d.h)) with
      | some d => exact ⟨d, rfl⟩
      | none =>
        exfalso
        refine hne (lastAt_eq hh ha fun j y hj hjp hy hi => ?_).symm
        rw [List.find?_eq_none] at hf
        refine hf y ?_ (by simpa using hi)
        rw [List.mem_iff_getElem?]
        exact ⟨j - a, by rw [List.getElem?_drop, show a + (j - a) = j from by omega, List.getElem?_take_of_lt hjp]; exact hy⟩
    obtain ⟨d, hd⟩ := hsome
    rw [ins_drop_le ha hp, drop_le ha hp, List.find?_append, List.find?_append, hd]
    rfl
/-- The links while a node is put in, the first i levels done. -/
def lvM (N : List Nd) (p : Nat) (x : Nd) (i a j : Nat) : Value :=
  if j < i then lvIn (ins N p x) a j else if a = p + 1 then .pointer none else lvIn N (if a ≤ p then a else a - 1) j
theorem lvM_zero_le {N : List Nd} {p a : Nat} {x : Nd} (ha : a ≤ p) (j : Nat) : lvM N p x 0 a j = lvIn N a j := by
  unfold lvM; rw [if_neg (by omega), if_neg (by omega), if_pos ha]
theorem lvM_zero_x {N : List Nd} {p : Nat} {x : Nd} (j : Nat) : lvM N p x 0 (p + 1) j = .pointer none := by
  unfold lvM; rw [if_neg (by omega), if_pos rfl]
theorem lvM_zero_gt {N : List Nd} {p a : Nat} {x : Nd} (ha : p + 1 < a) (j : Nat) : lvM N p x 0 a j = lvIn N (a - 1) j := by
  unfold lvM; rw [if_neg (by omega), if_neg (by omega), if_neg (by omega)]
/-- A level's step. -/
theorem lvM_step {N : List Nd} {p i : Nat} {x : Nd} (hp : p ≤ N.length) (hi : i < x.h) (a : Nat) :
    lvM N p x (i + 1) a = if a = p + 1 then upd (lvM N p x i a) i (lvIn N (lastAt N i p) i) else if a = lastAt N i p then upd (lvM N p x i a) i (lnk (some x.g)) else lvM N p x i a := by
  have hL := lastAt_le N i p
  funext j
  by_cases hj : j = i
  · subst hj
    have e : lvM N p x (j + 1) a j = lvIn (ins N p x) a j := by unfold lvM; rw [if_pos (by omega)]
    rw [e]
    by_cases h1 : a = p + 1
    · rw [if_pos h1]; subst h1
      unfold upd; rw [if_pos rfl, lv_ins_x hp hi]
    · rw [if_neg h1]
      by_cases h2 : a = lastAt N j p
      · rw [if_pos h2]; subst h2
        unfold upd; rw [if_pos rfl, lv_ins_last hp hi]
      · rw [if_neg h2]
        unfold lvM; rw [if_neg (by omega), if_neg h1]
        by_cases h3 : a ≤ p
        · rw [if_pos h3, lv_ins_other h3 hp h2]
        · rw [if_neg h3, lv_ins_gt (by omega) hp]
  · have e : lvM N p x (i + 1) a j = lvM N p x i a j := by
      unfold lvM
      by_cases h : j < i
      · rw [if_pos (by omega), if_pos h]
      · rw [if_neg (by omega), if_neg h]
    rw [e]
    split
    · unfold upd; rw [if_neg hj]
    · split
      · unfold upd; rw [if_neg hj]
      · rfl
/-- All levels done. -/
theorem lvM_all {N : List Nd} {p : Nat} {x : Nd} (hp : p ≤ N.length) (a : Nat) : lvM N p x x.h a = lvIn (ins N p x) a := by
  funext j
  unfold lvM
  by_cases h : j < x.h
  · rw [if_pos h]
  · rw [if_neg h]
    by_cases h1 : a = p + 1
    · rw [if_pos h1, h1, lv_ins_x_high hp h]
    · rw [if_neg h1]
      by_cases h3 : a ≤ p
      · rw [if_pos h3, lv_ins_high h3 hp h]
      · rw [if_neg h3, lv_ins_gt (by omega) hp]
end Go.Mo
