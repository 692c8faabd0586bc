/- What the calls of the layer rlp come to, on items as trees: plain functions, no program in sight. -/
import Derived.Test.YtlpmnhnlhleogaaItem
namespace Go.Mo

/-- The digits of a number, the highest first, none of them 0 ahead. -/
def digs (n : Nat) : List UInt8 := if _h : n = 0 then [] else digs (n / 256) ++ [UInt8.ofNat n]
termination_by n
decreasing_by omega
theorem digs_zero : digs 0 = [] := by rw [digs]; simp
theorem digs_pos {n : Nat} (h : 0 < n) : digs n = digs (n / 256) ++ [UInt8.ofNat n] := by
  rw [digs]; simp; omega
theorem digs_len (k : Nat) : ∀ n, n < 256 ^ k → (digs n).length ≤ k := by
  induction k with
  | zero => intro n hn; have : n = 0 := by simpa using hn
            subst this; rw [digs_zero]; simp
  | succ k ih =>
    intro n hn
    by_cases h0 : n = 0
    · subst h0; rw [digs_zero]; simp
    · rw [digs_pos (by omega), List.length_append]
      have := ih (n / 256) (by rw [Nat.pow_succ] at hn; omega)
      simp; omega

/-- Is a string its own encoding? -/
def ownB (l : List UInt8) : Bool := l.length == 1 && decide (l.getD 0 0 < 128)
/-- The head of so many bytes. -/
def headB (n base : Nat) : List UInt8 := if n ≤ 55 then [UInt8.ofNat (base + n)] else UInt8.ofNat (base + 55 + (digs n).length) :: digs n
theorem headB_len (n base : Nat) : (headB n base).length = if n ≤ 55 then 1 else 1 + (digs n).length := by
  unfold headB; split <;> simp; omega
theorem headB_le {n base : Nat} (h : n < 256 ^ 8) : (headB n base).length ≤ 9 := by
  rw [headB_len]; have := digs_len 8 n h; split <;> omega
theorem headB_pos (n base : Nat) : 1 ≤ (headB n base).length := by
  rw [headB_len]; split <;> omega

/-- An item's weight: ten for each item in it, and its bytes. -/
def wt : It → Nat
  | .mk _ b is => 10 + b.length + wts is
where wts : List It → Nat
  | [] => 0
  | x :: xs => wt x + wts xs
theorem wt_eq (x : It) : wt x = 10 + x.bytes.length + wt.wts x.items := by cases x; rw [wt]; rfl
theorem wts_get {xs : List It} : ∀ {k : Nat} {x : It}, xs[k]? = some x → wt x ≤ wt.wts xs := by
  induction xs with
  | nil => intro k x h; simp at h
  | cons y ys ih =>
    intro k x h
    rw [wt.wts]
    match k with
    | 0 => simp at h; subst h; omega
    | k + 1 => have := ih (k := k) (x := x) (by simpa using h); omega
theorem wt_get {x y : It} {k : Nat} (h : x.items[k]? = some y) : wt y < wt x := by
  have := wts_get h; rw [wt_eq x]; omega
theorem wts_length (xs : List It) : 10 * xs.length ≤ wt.wts xs := by
  induction xs with
  | nil => simp [wt.wts]
  | cons x xs ih => rw [wt.wts, wt_eq x]; simp only [List.length_cons]; omega

/-! ### encoding -/
mutual
def putI : It → List UInt8
  | .mk l b is => if l then headB (putL is).length 192 ++ putL is else if ownB b then b else headB b.length 128 ++ b
def putL : List It → List UInt8
  | [] => []
  | x :: xs => putI x ++ putL xs
end
theorem putI_eq (x : It) : putI x = if x.list then headB (putL x.items).length 192 ++ putL x.items else if ownB x.bytes then x.bytes else headB x.bytes.length 128 ++ x.bytes := by
  cases x; rw [putI]; rfl
theorem putL_append (xs ys : List It) : putL (xs ++ ys) = putL xs ++ putL ys := by
  induction xs with
  | nil => simp [putL]
  | cons x xs ih => simp [putL, ih]
theorem putL_take_le (xs : List It) (i : Nat) : (putL (xs.take i)).length ≤ (putL xs).length := by
  have h := putL_append (xs.take i) (xs.drop i)
  rw [List.take_append_drop] at h
  rw [h, List.length_append]; omega
theorem putL_snoc (xs : List It) (x : It) : putL (xs ++ [x]) = putL xs ++ putI x := by
  induction xs with
  | nil => simp [putL]
  | cons y ys ih => simp [putL, ih]

mutual
theorem putI_len : ∀ (x : It), wt x < 256 ^ 8 → (putI x).length ≤ wt x
  | .mk l b is, h => by
    rw [wt] at h ⊢
    have hL := putL_len is (by omega)
    rw [putI]
    split
    · have := headB_le (n := (putL is).length) (base := 192) (by omega)
      rw [List.length_append]; omega
    · split
      · omega
      · have := headB_le (n := b.length) (base := 128) (by omega)
        rw [List.length_append]; omega
theorem putL_len : ∀ (xs : List It), wt.wts xs < 256 ^ 8 → (putL xs).length ≤ wt.wts xs
  | [], _ => by simp [putL]
  | x :: xs, h => by
    rw [wt.wts] at h ⊢
    have h1 := putI_len x (by omega)
    have h2 := putL_len xs (by omega)
    rw [putL, List.length_append]; omega
end

/-- What 'size' tells of an item at a depth, so many items met before: the size, the fault, how many were met. -/
def sizeI (x : It) (d m : Nat) : Nat × Nat × Nat :=
  match x with
  | .mk l b is =>
    if 16 < d ∨ m = 4096 then (0, 43, m) else
    if (l = true ∧ 0 < b.length) ∨ (l = false ∧ 0 < is.length) then (0, 40, m + 1) else
    if ownB b then (1, 0, m + 1) else
    let r := sizeL is (d + 1) b.length (m + 1)
    if r.2.1 ≠ 0 then (0, r.2.1, r.2.2) else (r.1 + (headB r.1 0).length, 0, r.2.2)
where sizeL : List It → Nat → Nat → Nat → Nat × Nat × Nat
  | [], _, n, m => (n, 0, m)
  | x :: xs, d, n, m =>
    let r := sizeI x d m
    if r.2.1 ≠ 0 then (0, r.2.1, r.2.2) else sizeL xs d (n + r.1) r.2.2
theorem sizeI_eq (x : It) (d m : Nat) : sizeI x d m = if 16 < d ∨ m = 4096 then (0, 43, m) else
    if (x.list = true ∧ 0 < x.bytes.length) ∨ (x.list = false ∧ 0 < x.items.length) then (0, 40, m + 1) else
    if ownB x.bytes then (1, 0, m + 1) else
    if (sizeI.sizeL x.items (d + 1) x.bytes.length (m + 1)).2.1 ≠ 0 then (0, (sizeI.sizeL x.items (d + 1) x.bytes.length (m + 1)).2.1, (sizeI.sizeL x.items (d + 1) x.bytes.length (m + 1)).2.2)
    else ((sizeI.sizeL x.items (d + 1) x.bytes.length (m + 1)).1 + (headB (sizeI.sizeL x.items (d + 1) x.bytes.length (m + 1)).1 0).length, 0, (sizeI.sizeL x.items (d + 1) x.bytes.length (m + 1)).2.2) := by
  cases x; rw [sizeI]; rfl

mutual
theorem sizeI_bd : ∀ (x : It) (d m : Nat), wt x < 256 ^ 8 → m ≤ 4096 → (sizeI x d m).1 ≤ wt x ∧ (sizeI x d m).2.2 ≤ 4096
  | .mk l b is, d, m, hw, hm => by
    rw [wt] at hw ⊢
    have hL := sizeL_bd is (d + 1) b.length (m + 1) (by omega)
    rw [sizeI]
    by_cases h1 : 16 < d ∨ m = 4096
    · rw [if_pos h1]; exact ⟨by simp, hm⟩
    · rw [if_neg h1]
      have hL := hL (by omega)
      by_cases h2 : (l = true ∧ 0 < b.length) ∨ (l = false ∧ 0 < is.length)
      · rw [if_pos h2]; exact ⟨by simp, by simp; omega⟩
      · rw [if_neg h2]
        by_cases h3 : ownB b = true
        · rw [if_pos h3]; exact ⟨by simp; omega, by simp; omega⟩
        · rw [if_neg h3]
          dsimp only
          by_cases h4 : (sizeI.sizeL is (d + 1) b.length (m + 1)).2.1 ≠ 0
          · rw [if_pos h4]; exact ⟨by simp, hL.2⟩
          · rw [if_neg h4]
            have := headB_le (n := (sizeI.sizeL is (d + 1) b.length (m + 1)).1) (base := 0) (by omega)
            exact ⟨by simp only; omega, hL.2⟩
theorem sizeL_bd : ∀ (xs : List It) (d n m : Nat), wt.wts xs < 256 ^ 8 → m ≤ 4096 → (sizeI.sizeL xs d n m).1 ≤ n + wt.wts xs ∧ (sizeI.sizeL xs d n m).2.2 ≤ 4096
  | [], d, n, m, _, hm => by rw [sizeI.sizeL]; exact ⟨by simp [wt.wts], hm⟩
  | x :: xs, d, n, m, hw, hm => by
    rw [wt.wts] at hw ⊢
    have h1 := sizeI_bd x d m (by omega) hm
    rw [sizeI.sizeL]
    by_cases h4 : (sizeI x d m).2.1 ≠ 0
    · rw [if_pos h4]; exact ⟨by simp, h1.2⟩
    · rw [if_neg h4]
      have h2 := sizeL_bd xs d (n + (sizeI x d m).1) (sizeI x d m).2.2 (by omega) h1.2
      exact ⟨by omega, h2.2⟩
end
theorem sizeL_cons (x : It) (xs : List It) (d n m : Nat) : sizeI.sizeL (x :: xs) d n m = if (sizeI x d m).2.1 ≠ 0 then (0, (sizeI x d m).2.1, (sizeI x d m).2.2) else sizeI.sizeL xs d (n + (sizeI x d m).1) (sizeI x d m).2.2 := by
  rw [sizeI.sizeL]

/-- What 'Encode' tells: the bytes, the fault. -/
def encI (x : It) : List UInt8 × Nat :=
  if (sizeI x 1 0).2.1 ≠ 0 then ([], (sizeI x 1 0).2.1) else if 65536 < (sizeI x 1 0).1 then ([], 44) else (putI x, 0)

/-! ### decoding -/
/-- The number of bytes, the highest first. -/
def beN (l : List UInt8) : Nat := l.foldl (fun a d => a * 256 + d.toNat) 0
theorem beN_snoc (l : List UInt8) (d : UInt8) : beN (l ++ [d]) = beN l * 256 + d.toNat := by simp [beN]
theorem beF_lt (l : List UInt8) : ∀ a, l.foldl (fun a d => a * 256 + d.toNat) a < (a + 1) * 256 ^ l.length := by
  induction l with
  | nil => intro a; simp
  | cons d l ih =>
    intro a
    have h := ih (a * 256 + d.toNat)
    have hd : d.toNat < 256 := d.toNat_lt
    simp only [List.foldl_cons, List.length_cons]
    refine Nat.lt_of_lt_of_le h ?_
    rw [Nat.pow_succ, Nat.mul_comm (256 ^ l.length) 256, ← Nat.mul_assoc]
    exact Nat.mul_le_mul_right _ (by omega)
theorem beN_lt (l : List UInt8) : beN l < 256 ^ l.length := by
  have := beF_lt l 0
  unfold beN; omega

/-- What a head says: whether it is a list, where what is in it begins, how much that is, whether it is the byte itself, the fault. -/
structure Hd where
  list : Bool
  at_ : Nat
  n : Nat
  own : Bool
  err : Nat

def readsI (b : List UInt8) : Hd :=
  let c := (b.getD 0 0).toNat
  if c < 128 then ⟨false, 0, 1, true, 0⟩ else
  let l := decide (192 ≤ c)
  let s := if 192 ≤ c then c - 192 else c - 128
  if s ≤ 55 then ⟨l, 1, s, false, 0⟩ else
  if b.length < 1 + (s - 55) then ⟨l, 1, s, false, 41⟩ else
  let n := beN ((b.drop 1).take (s - 55))
  if b.getD 1 0 = 0 ∨ n ≤ 55 ∨ 2147483648 < n then ⟨l, 1, s, false, 40⟩ else ⟨l, 1 + (s - 55), n, false, 0⟩

def It0 : It := .mk false [] []

/-- The items of a list's payload, one behind the other, told by F. -/
def itemsI (F : List UInt8 → Nat → It × Nat × Nat × Nat) : Nat → List UInt8 → List It → Nat → List It × Nat × Nat
  | 0, _, acc, m => (acc, 0, m)
  | k + 1, b, acc, m =>
    if b = [] then (acc, 0, m) else
    if (F b m).2.2.1 ≠ 0 then ([], (F b m).2.2.1, (F b m).2.2.2) else itemsI F k (b.drop (F b m).2.1) (acc ++ [(F b m).1]) (F b m).2.2.2

/-- What 'first' tells of bytes, at a depth 17 - f, so many items met before: the item, how many bytes it has, the fault, how many items were met. -/
def firstI : Nat → List UInt8 → Nat → It × Nat × Nat × Nat
  | 0, b, m => if b = [] then (It0, 0, 41, m) else (It0, 0, 43, m)
  | f + 1, b, m =>
    if b = [] then (It0, 0, 41, m) else
    if m = 4096 then (It0, 0, 43, m) else
    let h := readsI b
    if h.err ≠ 0 then (It0, 0, h.err, m + 1) else
    if b.length < h.at_ + h.n then (It0, 0, 41, m + 1) else
    let i := (b.drop h.at_).take h.n
    if h.list then
      let r := itemsI (firstI f) i.length i [] (m + 1)
      if r.2.1 ≠ 0 then (It0, 0, r.2.1, r.2.2) else (.mk true [] r.1, h.at_ + h.n, 0, r.2.2)
    else if h.own = false ∧ ownB i = true then (It0, 0, 40, m + 1) else (.mk false i [], h.at_ + h.n, 0, m + 1)

/-- What 'First' and 'Decode' tell. -/
def firstTop (b : List UInt8) : It × Nat × Nat := if 65536 < b.length then (It0, 0, 44) else ((firstI 16 b 0).1, (firstI 16 b 0).2.1, (firstI 16 b 0).2.2.1)
def decI (b : List UInt8) : It × Nat := if (firstTop b).2.2 ≠ 0 then (It0, (firstTop b).2.2) else if (firstTop b).2.1 < b.length then (It0, 42) else ((firstTop b).1, 0)

theorem readsI_ok {b : List UInt8} (hb : b ≠ []) : (readsI b).at_ ≤ b.length ∧ (readsI b).at_ ≤ 73 ∧ (readsI b).n ≤ 2147483648 ∧
    ((readsI b).own = true → (readsI b).list = false ∧ (readsI b).at_ = 0 ∧ (readsI b).n = 1) ∧ ((readsI b).own = false → 1 ≤ (readsI b).at_) := by
  have hp : 0 < b.length := List.length_pos_iff.2 hb
  have hc := (b.getD 0 0).toNat_lt
  unfold readsI
  generalize (b.getD 0 0).toNat = c at hc
  dsimp only
  split
  · refine ⟨by simp, by simp, by simp, by simp, by simp⟩
  · have hs : (if 192 ≤ c then c - 192 else c - 128) ≤ 127 := by split <;> omega
    generalize (if 192 ≤ c then c - 192 else c - 128) = s at hs
    split
    · exact ⟨by simp; omega, by simp, by simp; omega, by simp, by simp⟩
    · split
      · exact ⟨by simp; omega, by simp, by simp; omega, by simp, by simp⟩
      · split
        · exact ⟨by simp; omega, by simp, by simp; omega, by simp, by simp⟩
        · rename_i h1 h2 h3
          exact ⟨by show 1 + (s - 55) ≤ b.length; omega, by show 1 + (s - 55) ≤ 73; omega, by show beN ((b.drop 1).take (s - 55)) ≤ 2147483648; omega, by simp, by simp⟩

theorem itemsI_bd {F : List UInt8 → Nat → It × Nat × Nat × Nat} (hF : ∀ b m, m ≤ 4096 → (F b m).2.2.2 ≤ 4096) : ∀ (k : Nat) (b : List UInt8) (acc : List It) (m : Nat), m ≤ 4096 → (itemsI F k b acc m).2.2 ≤ 4096
  | 0, b, acc, m, hm => by rw [itemsI]; exact hm
  | k + 1, b, acc, m, hm => by
    rw [itemsI]
    split
    · exact hm
    · split
      · exact hF _ _ hm
      · exact itemsI_bd hF k _ _ _ (hF _ _ hm)
theorem firstI_m : ∀ (f : Nat) (b : List UInt8) (m : Nat), m ≤ 4096 → (firstI f b m).2.2.2 ≤ 4096
  | 0, b, m, hm => by rw [firstI]; split <;> exact hm
  | f + 1, b, m, hm => by
    rw [firstI]
    dsimp only
    split
    · exact hm
    · split
      · exact hm
      · split
        · simp; omega
        · split
          · simp; omega
          · split
            · have := itemsI_bd (firstI_m f) ((b.drop (readsI b).at_).take (readsI b).n).length ((b.drop (readsI b).at_).take (readsI b).n) [] (m + 1) (by omega)
              split <;> simpa using this
            · split <;> (simp; omega)
theorem firstI_n (f : Nat) (b : List UInt8) (m : Nat) : (firstI f b m).2.2.1 = 0 → 1 ≤ (firstI f b m).2.1 ∧ (firstI f b m).2.1 ≤ b.length := by
  intro h
  cases f with
  | zero => rw [firstI] at h; split at h <;> simp at h
  | succ f =>
    rw [firstI] at h ⊢
    dsimp only at h ⊢
    by_cases c1 : b = []
    · rw [if_pos c1] at h; simp at h
    · rw [if_neg c1] at h ⊢
      have hr := readsI_ok c1
      by_cases c2 : m = 4096
      · rw [if_pos c2] at h; simp at h
      · rw [if_neg c2] at h ⊢
        by_cases c3 : (readsI b).err ≠ 0
        · rw [if_pos c3] at h; exact absurd h c3
        · rw [if_neg c3] at h ⊢
          by_cases c4 : b.length < (readsI b).at_ + (readsI b).n
          · rw [if_pos c4] at h; simp at h
          · rw [if_neg c4] at h ⊢
            have hpos : 1 ≤ (readsI b).at_ + (readsI b).n := by
              rcases ho : (readsI b).own with _ | _
              · have := hr.2.2.2.2 ho; omega
              · have := hr.2.2.2.1 ho; omega
            split
            · rename_i c5
              rw [if_pos c5] at h
              split
              · rename_i c6; rw [if_pos c6] at h; exact absurd h c6
              · exact ⟨hpos, by simp only; omega⟩
            · rename_i c5
              rw [if_neg c5] at h
              split
              · rename_i c6; rw [if_pos c6] at h; simp at h
              · exact ⟨hpos, by simp only; omega⟩

/-- What 'Equal' tells. -/
def eqI (x y : It) : Bool := decide ((encI x).2 = 0) && (decide ((encI y).2 = 0) && decide ((encI x).1 = (encI y).1))
open Classical in
/-- The same item? -/
noncomputable def sameI (x y : It) : Bool := decide (x = y)
theorem sameI_iff (x y : It) : sameI x y = true ↔ x = y := by unfold sameI; simp
theorem It.ext_iff' (x y : It) : x = y ↔ x.list = y.list ∧ x.bytes = y.bytes ∧ x.items = y.items := by
  cases x; cases y; simp [It.list, It.bytes, It.items]
end Go.Mo
