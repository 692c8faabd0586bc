/- Numbers as bytes, keys and how they stand: plain Lean, no program in sight. -/
import Derived.Test.YtimeehjbifbfgaaBase
import Derived.Lib.Bytealg
import Derived.Lib.BytesEntry
import Derived.Laws.Externs
namespace Go.Mo
open Go.RowKit

/-- So many bytes of a number, the lowest first. -/
def leN (n : Nat) : Nat → List UInt8
  | 0 => []
  | k + 1 => UInt8.ofNat n :: leN (n / 256) k
theorem leN_len (n k : Nat) : (leN n k).length = k := by
  induction k generalizing n with
  | zero => rfl
  | succ k ih => simp [leN, ih]
theorem leN_snoc (n k : Nat) : leN n (k + 1) = leN n k ++ [UInt8.ofNat (n / 256 ^ k)] := by
  induction k generalizing n with
  | zero => simp [leN]
  | succ k ih =>
    rw [leN, ih (n / 256), leN, Nat.div_div_eq_div_mul, Nat.pow_succ, Nat.mul_comm 256]
    rfl
/-- The number of bytes, the lowest first. -/
def unN : List UInt8 → Nat
  | [] => 0
  | d :: l => d.toNat + 256 * unN l
theorem unN_lt (l : List UInt8) : unN l < 256 ^ l.length := by
  induction l with
  | nil => simp [unN]
  | cons d l ih =>
    have := d.toNat_lt
    simp only [unN, List.length_cons, Nat.pow_succ]
    omega
theorem unN_snoc (l : List UInt8) (d : UInt8) : unN (l ++ [d]) = unN l + 256 ^ l.length * d.toNat := by
  induction l with
  | nil => simp [unN]
  | cons c l ih =>
    simp only [List.cons_append, unN, ih, List.length_cons, Nat.pow_succ]
    rw [Nat.mul_add, Nat.mul_comm (256 ^ l.length) 256, Nat.mul_assoc]; omega
theorem unN_leN (n k : Nat) : unN (leN n k) = n % 256 ^ k := by
  induction k generalizing n with
  | zero => simp [leN, unN]; omega
  | succ k ih =>
    simp only [leN, unN, ih]
    rw [toNat_ofNat8, Nat.pow_succ, Nat.mul_comm (256 ^ k) 256, Nat.mod_mul]
theorem leN_unN (l : List UInt8) : leN (unN l) l.length = l := by
  induction l with
  | nil => rfl
  | cons d l ih =>
    have hd := d.toNat_lt
    simp only [List.length_cons, leN, unN]
    have h1 : (d.toNat + 256 * unN l) / 256 = unN l := by omega
    rw [h1, ih]
    congr 1
    apply UInt8.toNat_inj.1
    simp

/-- Can a key's parts be? -/
def rightI (u s : Nat) (k : Int) : Bool := decide (u ≤ 128) && (decide (s ≤ 72057594037927935) && (k == 0 || k == 1))
/-- A key of its parts. -/
def keyB (u : List UInt8) (s k : Nat) : List UInt8 := u ++ leN (s * 256 + k) 8
def splitI (k : List UInt8) : List UInt8 × Nat × Nat × Nat :=
  if k.length < 8 then ([], 0, 0, 23) else
  if rightI (k.length - 8) (unN (k.drop (k.length - 8)) / 256) ((unN (k.drop (k.length - 8)) % 256 : Nat) : Int) then
    (k.take (k.length - 8), unN (k.drop (k.length - 8)) / 256, unN (k.drop (k.length - 8)) % 256, 0) else ([], 0, 0, 23)
def cmpN (a b : Nat) : Int := if a < b then -1 else if b < a then 1 else 0
/-- How two keys stand by their parts. -/
def standI (x y : List UInt8 × Nat × Nat × Nat) : Int :=
  if Go.Lib.compareBytes x.1 y.1 ≠ 0 then Go.Lib.compareBytes x.1 y.1 else if cmpN y.2.1 x.2.1 ≠ 0 then cmpN y.2.1 x.2.1 else cmpN y.2.2.1 x.2.2.1
def compareI (a b : List UInt8) : Int × Nat := if (splitI a).2.2.2 ≠ 0 ∨ (splitI b).2.2.2 ≠ 0 then (0, 23) else (standI (splitI a) (splitI b), 0)

theorem pow8 (i : Nat) : (2 : Int) ^ (8 * i) = ((256 ^ i : Nat) : Int) := by
  have h : (2 : Nat) ^ (8 * i) = 256 ^ i := by rw [Nat.pow_mul]
  rw [← h]; push_cast; rfl
theorem u64_shl_or (a d i : Nat) (hi : i < 8) (ha : a < 256 ^ i) (hd : d < 256) : bits .or .u64 (a : Int) (IntKind.u64.wrap ((d : Int) * 2 ^ (8 * i))) = ((a + 256 ^ i * d : Nat) : Int) := by
  have hp : 256 ^ i ≤ 72057594037927936 := by
    have : 256 ^ i ≤ 256 ^ 7 := Nat.pow_le_pow_right (by omega) (by omega)
    omega
  have h0 : (d : Int) * 2 ^ (8 * i) = ((d * 256 ^ i : Nat) : Int) := by rw [pow8, Int.natCast_mul]
  have h1 : d * 256 ^ i < 18446744073709551616 := by
    have : d * 256 ^ i ≤ 255 * 72057594037927936 := Nat.mul_le_mul (by omega) hp
    omega
  have h2 : a < 18446744073709551616 := by omega
  rw [h0, u64_wrap _ h1, u64_or_nat _ _ h2 h1]
  congr 1
  have h3 : (256 : Nat) ^ i = 2 ^ (8 * i) := by rw [Nat.pow_mul]
  rw [h3] at ha ⊢
  rw [Nat.or_comm, Nat.mul_comm d, ← Nat.two_pow_add_eq_or_of_lt ha, Nat.add_comm]
theorem nb_nat (l : List UInt8) (k : Nat) : nb l k = ((l.getD k 0).toNat : Int) := rfl
theorem unN_take {l : List UInt8} {i : Nat} (h : i < l.length) : unN (l.take (i + 1)) = unN (l.take i) + 256 ^ i * (l.getD i 0).toNat := by
  have e : l.take (i + 1) = l.take i ++ [l.getD i 0] := by
    rw [List.take_add_one]
    congr 1
    simp [List.getD, h]
  rw [e, unN_snoc, List.length_take, Nat.min_eq_left (by omega)]
def keyI (u : List UInt8) (s : Nat) (k : Int) : List UInt8 × Nat := if rightI u.length s k = true then (keyB u s k.toNat, 0) else ([], 23)
theorem rightI_iff (n s : Nat) (k : Int) : rightI n s k = true ↔ n ≤ 128 ∧ s ≤ 72057594037927935 ∧ (k = 0 ∨ k = 1) := by
  unfold rightI; simp
end Go.Mo
