/- Words for memory that the walks of this seat share: slices of bytes that are read, rows that a call owns, append and conversion laws over them. -/
import Derived.Below
import Derived.Deep.Draws
import Derived.Deep.AppendLies
import Derived.Maps.AppendAt
import Derived.OwnWalk
import Derived.Laws.BytesArg
import Derived.Laws.MakeOwn
import Derived.Laws.OwnMore
import Derived.Deep.OwnRows
import Derived.Tactics
import Derived.Lib.ConvBytes
import Derived.Laws.Slices
import Derived.WalkKit
import Derived.KernelRfl
import Derived.RowKit3
import Derived.Deep.LoopGhost
import Derived.Deep.QuietTactic
import Derived.BigQuiet
import Derived.WideLaws
import Derived.Deep.DeepCutAuto
import Derived.Deep.CutBlock
import Derived.Deep.RegionHeld3
import Derived.Laws.Rows
import Derived.Lib.AppendStr
import Derived.ArgAppend
import Derived.Laws.IdiomCopy
import Derived.OrdersHeld
import Derived.Laws.BitsLemmas
import Derived.RowKit
import Derived.WalkSpells
import Derived.Outline
import Derived.RegionTactic
import Derived.Laws.IdiomStrings
import Derived.Laws.BitsAllLaws
import Derived.Deep.RegionLaw
namespace Go.Mo
open Go.RowKit
set_option linter.unusedVariables false

/-- A fact that the walk's simp does not look into. -/
structure Sec (p : Prop) : Prop where
  out : p

/-! ### cells that are read -/

theorem block_add (a : Addr) (n : Nat) : (a.add n).block = a.block := by unfold Addr.add; split <;> rfl
theorem add_add (a : Addr) (i j : Nat) : (a.add i).add j = a.add (i + j) := by
  unfold Addr.add
  by_cases hi : i = 0 <;> by_cases hj : j = 0 <;> simp [hi, hj, Nat.add_assoc]
theorem add_zero' (a : Addr) : a.add 0 = a := by simp [Addr.add]

/-- The cells xs stand from A on, in blocks of S. -/
def Cs (S : Nat → Prop) (w : World) (A : Option Addr) (xs : List Value) : Prop :=
  ∀ j u, xs[j]? = some u → ∃ ad, A = some ad ∧ S ad.block ∧ w.cell? (ad.add j) = some u

/-- w' has what w has, in the blocks of S. -/
def Agree (S : Nat → Prop) (w w' : World) : Prop := ∀ b, S b → b < w.heap.size → w'.heap[b]? = w.heap[b]?

section
variable {S S' : Nat → Prop} {w w' w'' : World} {A : Option Addr} {xs ys : List Value}

theorem Agree.refl (S : Nat → Prop) (w : World) : Agree S w w := fun _ _ _ => rfl
theorem Agree.trans (h : Agree S w w') (hs : w.heap.size ≤ w'.heap.size) (k : Agree S w' w'') : Agree S w w'' :=
  fun b hb hlt => (k b hb (Nat.lt_of_lt_of_le hlt hs)).trans (h b hb hlt)
theorem Agree.cell (h : Agree S w w') {a : Addr} {v : Value} (hS : S a.block) (hc : w.cell? a = some v) : w'.cell? a = some v :=
  (World.cell?_of_block (h a.block hS (World.block_lt_of_cell? w a hc))).trans hc
theorem Agree.mono (h : Agree S w w') (hs : ∀ b, S' b → S b) : Agree S' w w' := fun b hb => h b (hs b hb)
theorem Agree.of_below (h : Below w.heap.size w w') (S : Nat → Prop) : Agree S w w' := fun b _ hlt => h.block b hlt
theorem Agree.of_grown {row : Option Nat} (h : w.grownBy w' row) (hS : ∀ b, S b → some b ≠ row) : Agree S w w' := fun b hb hlt => h.block b hlt (hS b hb)

theorem Cs.nil (S : Nat → Prop) (w : World) (A : Option Addr) : Cs S w A [] := fun j u h => by simp at h
theorem Cs.mono (h : Cs S w A xs) (hs : ∀ b, S b → S' b) : Cs S' w A xs := fun j u hu => let ⟨ad, e, hS, hc⟩ := h j u hu; ⟨ad, e, hs _ hS, hc⟩
theorem Cs.agree (h : Cs S w A xs) (hg : Agree S w w') : Cs S w' A xs := fun j u hu =>
  let ⟨ad, e, hS, hc⟩ := h j u hu; ⟨ad, e, hS, hg.cell (by rw [block_add]; exact hS) hc⟩
theorem Cs.below (h : Cs S w A xs) (hb : Below w.heap.size w w') : Cs S w' A xs := h.agree (.of_below hb S)
theorem Cs.drew (h : Cs S w A xs) : Cs S w.drew A xs := h
theorem Cs.drewN (h : Cs S w A xs) (n : Nat) : Cs S (w.drewN n) A xs := h
theorem Cs.alloc (h : Cs S w A xs) (o : Obj) : Cs S (w.alloc o) A xs := h.agree fun b _ hlt => Below.heap_alloc w o b hlt
theorem Cs.setCell (h : Cs S w A xs) {p : Addr} (hp : ¬ S p.block) (u : Value) : Cs S (w.setCell p u) A xs :=
  h.agree fun b hb _ => Below.heap_setCell w p u b (fun e => hp (e ▸ hb))
theorem Cs.here (h : Cs S w A xs) : Cs (fun b => b < w.heap.size) w A xs := fun j u hu =>
  let ⟨ad, e, _, hc⟩ := h j u hu; ⟨ad, e, by have := World.block_lt_of_cell? w _ hc; rwa [block_add] at this, hc⟩
theorem Cs.and (h : Cs S w A xs) (h' : Cs S' w A xs) : Cs (fun b => S b ∧ S' b) w A xs := fun j u hu => by
  obtain ⟨ad, e, hS, hc⟩ := h j u hu
  obtain ⟨ad', e', hS', _⟩ := h' j u hu
  rw [e] at e'; injection e' with e'; subst e'
  exact ⟨ad, e, ⟨hS, hS'⟩, hc⟩
theorem Cs.at (h : Cs S w A xs) {j : Nat} {u : Value} (hu : xs[j]? = some u) : ∃ ad, A = some ad ∧ S ad.block ∧ w.cell? (ad.add j) = some u := h j u hu
theorem Cs.drop (h : Cs S w A xs) (k : Nat) : Cs S w (A.map (·.add k)) (xs.drop k) := fun j u hu => by
  rw [List.getElem?_drop] at hu
  obtain ⟨ad, rfl, hS, hc⟩ := h (k + j) u hu
  exact ⟨ad.add k, rfl, by rw [block_add]; exact hS, by rw [add_add]; exact hc⟩
theorem Cs.cut (h : Cs S w A xs) {k cap : Nat} (hl : xs.length ≤ cap) : Cs S w (if cap = k then A else A.map (·.add k)) (xs.drop k) := by
  by_cases e : cap = k
  · have : xs.drop k = [] := List.drop_eq_nil_of_le (by omega)
    rw [this]; exact Cs.nil _ _ _
  · rw [if_neg e]; exact h.drop k
theorem Cs.take (h : Cs S w A xs) (k : Nat) : Cs S w A (xs.take k) := fun j u hu => by
  rw [List.getElem?_take] at hu
  split at hu
  · exact h j u hu
  · cases hu
theorem Cs.front (h : Cs S w A (xs ++ ys)) : Cs S w A xs := by have := h.take xs.length; simpa using this
theorem Cs.of_own {base : Nat} {e : TypeId} {size n c : Nat} (h : w.ownsRow base e size (.slice A n c) n xs) (hS : ∀ b, base ≤ b → b < w.heap.size → S b) : Cs S w A xs := fun j u hu => by
  rcases A with _ | ad
  · rcases h.2 with ⟨_, hn⟩ | ⟨g, _, _, hv, _⟩
    · have h0 := h.1
      rw [hn] at h0
      have hx : xs = [] := List.eq_nil_of_length_eq_zero (by simpa using h0)
      rw [hx] at hu; simp at hu
    · cases hv
  · obtain ⟨hlo, hhi⟩ := h.lt ad.block rfl
    refine ⟨ad, rfl, hS _ hlo hhi, ?_⟩
    have := h.cells (g := ad.block) rfl j u hu
    rcases h.2 with ⟨hv, _⟩ | ⟨g, _, _, hv, _⟩
    · cases hv
    · injection hv with hv; injection hv with hv; subst hv; exact this
end

/-! ### bytes -/

/-- A byte's cell. -/
def u8 (b : UInt8) : Value := .int .u8 (b.toNat : Int)
theorem u8_def (b : UInt8) : u8 b = .int .u8 (b.toNat : Int) := rfl
/-- No slice's bytes are more. -/
def LIM : Nat := 140737488355328

/-- The k-th byte, as a number. -/
def nb (l : List UInt8) (k : Nat) : Int := ((l.getD k 0).toNat : Int)
theorem nb_bd (l : List UInt8) (k : Nat) : 0 ≤ nb l k ∧ nb l k ≤ 255 := by
  unfold nb; have := (l.getD k 0).toNat_lt; omega
theorem nb_of (l : List UInt8) (k : Nat) : nb l k = ((l.getD k 0).toNat : Int) := rfl

/-- The slice of bytes '.slice A n c' reads as l, in blocks of S. -/
def Bs (S : Nat → Prop) (w : World) (A : Option Addr) (n c : Nat) (l : List UInt8) : Prop :=
  n = l.length ∧ n ≤ c ∧ n ≤ LIM ∧ c ≤ maxLen ∧ Cs S w A (l.map u8)

/-- The slice of bytes '.slice A n c' is the call's own, from block base on, and reads as l. -/
def Ob (base : Nat) (w : World) (A : Option Addr) (n c : Nat) (l : List UInt8) : Prop :=
  n = l.length ∧ n ≤ c ∧ n ≤ LIM ∧ c ≤ maxLen ∧ w.ownsRow base 5 1 (.slice A n c) n (l.map u8)

section
variable {S S' : Nat → Prop} {w w' : World} {A : Option Addr} {n c base base' : Nat} {l : List UInt8}
theorem Bs.len (h : Bs S w A n c l) : n = l.length := h.1
theorem Bs.le (h : Bs S w A n c l) : n ≤ c := h.2.1
theorem Bs.lim (h : Bs S w A n c l) : n ≤ LIM := h.2.2.1
theorem Bs.max (h : Bs S w A n c l) : c ≤ maxLen := h.2.2.2.1
theorem Bs.cs (h : Bs S w A n c l) : Cs S w A (l.map u8) := h.2.2.2.2
theorem Bs.bds (h : Bs S w A n c l) : n ≤ 140737488355328 ∧ n ≤ c ∧ c ≤ 9223372036854775807 := ⟨h.lim, h.le, by have := h.max; unfold maxLen at this; omega⟩
theorem Bs.empty (S : Nat → Prop) (w : World) : Bs S w none 0 0 [] := ⟨rfl, Nat.le_refl _, Nat.zero_le _, Nat.zero_le _, Cs.nil _ _ _⟩
theorem Bs.mono (h : Bs S w A n c l) (hs : ∀ b, S b → S' b) : Bs S' w A n c l := ⟨h.len, h.le, h.lim, h.max, h.cs.mono hs⟩
theorem Bs.agree (h : Bs S w A n c l) (hg : Agree S w w') : Bs S w' A n c l := ⟨h.len, h.le, h.lim, h.max, h.cs.agree hg⟩
theorem Bs.below (h : Bs S w A n c l) (hb : Below w.heap.size w w') : Bs S w' A n c l := ⟨h.len, h.le, h.lim, h.max, h.cs.below hb⟩
theorem Bs.drew (h : Bs S w A n c l) : Bs S w.drew A n c l := h
theorem Bs.drewN (h : Bs S w A n c l) (k : Nat) : Bs S (w.drewN k) A n c l := h
theorem Bs.alloc (h : Bs S w A n c l) (o : Obj) : Bs S (w.alloc o) A n c l := ⟨h.len, h.le, h.lim, h.max, h.cs.alloc o⟩
theorem Bs.setCell (h : Bs S w A n c l) {p : Addr} (hp : ¬ S p.block) (u : Value) : Bs S (w.setCell p u) A n c l := ⟨h.len, h.le, h.lim, h.max, h.cs.setCell hp u⟩
theorem Bs.here (h : Bs S w A n c l) : Bs (fun b => b < w.heap.size) w A n c l := ⟨h.len, h.le, h.lim, h.max, h.cs.here⟩
theorem Bs.and (h : Bs S w A n c l) (h' : Bs S' w A n c l) : Bs (fun b => S b ∧ S' b) w A n c l := ⟨h.len, h.le, h.lim, h.max, h.cs.and h'.cs⟩
/-- The k-th byte's cell. -/
theorem Bs.at (h : Bs S w A n c l) {k : Nat} (hk : k < n) : ∃ ad, A = some ad ∧ w.cell? (ad.add k) = some (.int .u8 (nb l k)) := by
  have hk' : k < l.length := by have := h.len; omega
  obtain ⟨ad, e, _, hc⟩ := h.cs k (u8 (l.getD k 0)) (by rw [List.getElem?_map, List.getElem?_eq_getElem hk']; simp [hk'])
  exact ⟨ad, e, hc⟩
theorem Bs.cut (h : Bs S w A n c l) {k : Nat} (hk : k ≤ n) : Bs S w (if c = k then A else A.map (·.add k)) (n - k) (c - k) (l.drop k) := by
  refine ⟨by rw [List.length_drop, h.len], by have := h.le; omega, by have := h.lim; omega, by have := h.max; omega, ?_⟩
  rw [List.map_drop]
  exact h.cs.cut (by rw [List.length_map, ← h.len]; exact h.le)
theorem Bs.take (h : Bs S w A n c l) {k : Nat} (hk : k ≤ n) : Bs S w A k c (l.take k) := by
  refine ⟨by rw [List.length_take, ← h.len]; omega, by have := h.le; omega, by have := h.lim; omega, h.max, ?_⟩
  rw [List.map_take]
  exact h.cs.take k
theorem Ob.len (h : Ob base w A n c l) : n = l.length := h.1
theorem Ob.own (h : Ob base w A n c l) : w.ownsRow base 5 1 (.slice A n c) n (l.map u8) := h.2.2.2.2
theorem Ob.bs (h : Ob base w A n c l) : Bs (fun b => base ≤ b) w A n c l := ⟨h.1, h.2.1, h.2.2.1, h.2.2.2.1, Cs.of_own h.own fun _ hb _ => hb⟩
theorem Ob.bs' (h : Ob base w A n c l) (hb : base' ≤ base) : Bs (fun b => base' ≤ b) w A n c l := h.bs.mono fun _ hk => Nat.le_trans hb hk
theorem Ob.bsT (h : Ob base w A n c l) : Bs (fun _ => True) w A n c l := h.bs.mono fun _ _ => trivial
theorem Ob.kept {row : Option Nat} (h : Ob base w A n c l) (hg : w.grownBy w' row) (hne : (Value.slice A n c).ownBlock = none ∨ (Value.slice A n c).ownBlock ≠ row) : Ob base w' A n c l := ⟨h.1, h.2.1, h.2.2.1, h.2.2.2.1, h.own.kept hg hne⟩
theorem grown_of_below (hb : Below w.heap.size w w') : w.grownBy w' none := ⟨hb.os, hb.tape, hb.output, hb.size, fun k hk _ => hb.block k hk⟩
theorem Ob.below (h : Ob base w A n c l) (hb : Below w.heap.size w w') : Ob base w' A n c l := h.kept (grown_of_below hb) (by cases hv : (Value.slice A n c).ownBlock <;> simp)
theorem Ob.drew (h : Ob base w A n c l) : Ob base w.drew A n c l := h
theorem Ob.drewN (h : Ob base w A n c l) (k : Nat) : Ob base (w.drewN k) A n c l := h
theorem Ob.alloc (h : Ob base w A n c l) (o : Obj) : Ob base (w.alloc o) A n c l := ⟨h.1, h.2.1, h.2.2.1, h.2.2.2.1, h.own.alloc o⟩
theorem own_mono {e : TypeId} {size : Nat} {v : Value} {xs : List Value} (h : w.ownsRow base e size v n xs) (hb : base' ≤ base) : w.ownsRow base' e size v n xs := by
  refine ⟨h.1, ?_⟩
  rcases h.2 with h | ⟨g, cap, cur, h1, h2, h3⟩
  · exact .inl h
  · exact .inr ⟨g, cap, cur, h1, Nat.le_trans hb h2, h3⟩
theorem Ob.mono (h : Ob base w A n c l) (hb : base' ≤ base) : Ob base' w A n c l := ⟨h.1, h.2.1, h.2.2.1, h.2.2.2.1, own_mono h.own hb⟩
theorem Ob.nil (base : Nat) (w : World) : Ob base w none 0 0 [] := ⟨rfl, Nat.le_refl _, Nat.zero_le _, Nat.zero_le _, World.ownsRow_nil w base 5 1⟩
end

/-! ### append -/
section
variable {P : Program} (w : World)

theorem own_len {base : Nat} {e : TypeId} {size n c : Nat} {A : Option Addr} {xs : List Value} {w : World} (h : w.ownsRow base e size (.slice A n c) n xs) : n ≤ c ∧ c ≤ maxLen := by
  rcases h.2 with ⟨hv, hn⟩ | ⟨g, cap, cur, hv, _, _, h1, h2, _⟩
  · injection hv with _ _ h; subst h; subst hn; exact ⟨Nat.le_refl _, Nat.zero_le _⟩
  · injection hv with _ _ h; subst h; exact ⟨h1, h2⟩
theorem own_slice {base : Nat} {e : TypeId} {size n : Nat} {v : Value} {xs : List Value} {w : World} (h : w.ownsRow base e size v n xs) : ∃ A c, v = .slice A n c := by
  rcases h.2 with ⟨hv, hn⟩ | ⟨g, cap, cur, hv, _⟩
  · exact ⟨none, 0, by rw [hv, hn]⟩
  · exact ⟨_, _, hv⟩

theorem below_of_grown {base n c : Nat} {A : Option Addr} {e : TypeId} {size : Nat} {xs : List Value} {w w' : World} (ho : w.ownsRow base e size (.slice A n c) n xs)
    (hg : w.grownBy w' (Value.slice A n c).ownBlock) (hb : base ≤ w.heap.size) : Below base w w' :=
  (Below.refl base w).grown hg hb fun k hk => (ho.lt k hk).1

/-- append onto a row of the call's own, the source nil, empty or not. -/
theorem run_append_cs (base : Nat) (t ty e : TypeId) (i : TypeInfo) (z : Value) (size bytes : Nat) (ht : P.underlying t = some (.slice e)) (hi : P.info? e = some i) (hz : i.zero = some z)
    (hsize : i.size = size) (hby : i.bytes = bytes) (hzs : z.cells.size = size) (hsz : 0 < size)
    (A : Option Addr) (n c : Nat) (xs : List Value) (hown : w.ownsRow base e size (.slice A n c) n xs)
    (S : Nat → Prop) (B : Option Addr) (m d : Nat) (news : List Value) (hl : news.length = m * size) (hr : Cs S w B news) (h1 : ∀ u ∈ news, u.oneCell' = true)
    (h63 : n + m ≤ maxLen) (hbytes : (n + m) * bytes ≤ 140737488355328) (hbase : base ≤ w.heap.size) :
    ∃ A' c' w', (Builtin.append_ #[t, t] ty #[.slice A n c, .slice B m d]).run P w = .ok (.slice A' (n + m) c') w' ∧ w'.ownsRow base e size (.slice A' (n + m) c') (n + m) (xs ++ news) ∧
      w.grownBy w' (Value.slice A n c).ownBlock ∧ ((Value.slice A' (n + m) c').ownBlock = (Value.slice A n c).ownBlock ∨ (Value.slice A' (n + m) c').ownBlock = some w.heap.size) := by
  rcases B with _ | ad
  · have hn : news = [] := by
      rcases news with _ | ⟨u, us⟩
      · rfl
      · obtain ⟨ad, h, _⟩ := hr 0 u (by simp)
        cases h
    subst hn
    have hm : m = 0 := by
      rcases Nat.eq_zero_or_pos m with h0 | h0
      · exact h0
      · have : 0 < m * size := Nat.mul_pos h0 hsz
        simp at hl; omega
    subst hm
    refine ⟨A, c, w, ?_, by simpa using hown, World.grownBy.refl w _, .inl rfl⟩
    rcases hown.2 with ⟨hv, rfl⟩ | ⟨g, cap, cur, hv, _, _, hnc, _⟩
    · injection hv with h1 _ h2; subst h1; subst h2
      simp [Builtin.append_, run_underlying ht, sizeOf, typeInfo, hi, Builtin.lenOf, Builtin.firstCells]
    · injection hv with h1 _ h2; subst h1; subst h2
      simp [Builtin.append_, run_underlying ht, sizeOf, typeInfo, hi, Builtin.lenOf, Builtin.firstCells, hnc, storeCells]
  · have hcells : ∀ j u, news[j]? = some u → w.cell? (ad.add j) = some u := fun j u hu => by
      obtain ⟨ad', h, _, hc⟩ := hr j u hu
      injection h with h
      subst h
      exact hc
    obtain ⟨v', w', hrun, h2, h3, _, h5⟩ := run_append_own_at (P := P) w base t ty e i z size bytes ht hi hz hsize hby hzs hsz _ n xs hown ad m d news hl hcells h1 h63 hbytes hbase
    obtain ⟨A', c', rfl⟩ := own_slice h2
    exact ⟨A', c', w', hrun, h2, h3, h5⟩

theorem wp_append_cs {o : Oper} {a : Act} {K : Act → World → Prop} {Q : Exit → Act → World → Prop} (s x : Operand) (t : TypeId)
    (ho : o.op = .call { callee := .builtin .append, args := #[s, x], argTypes := #[t, t] })
    (base : Nat) (e : TypeId) (i : TypeInfo) (z : Value) (size bytes : Nat) (ht : P.underlying t = some (.slice e)) (hi : P.info? e = some i) (hz : i.zero = some z)
    (hsize : i.size = size) (hby : i.bytes = bytes) (hzs : z.cells.size = size) (hsz : 0 < size)
    (A : Option Addr) (n c : Nat) (xs : List Value) (hs : a.eval s = .slice A n c) (hown : w.ownsRow base e size (.slice A n c) n xs)
    (S : Nat → Prop) (B : Option Addr) (m d : Nat) (news : List Value) (hx : a.eval x = .slice B m d) (hl : news.length = m * size) (hr : Cs S w B news) (h1 : ∀ u ∈ news, u.oneCell' = true)
    (h63 : n + m ≤ maxLen) (hbytes : (n + m) * bytes ≤ 140737488355328) (hbase : base ≤ w.heap.size)
    (h : ∀ A' c' w', w'.ownsRow base e size (.slice A' (n + m) c') (n + m) (xs ++ news) → w.grownBy w' (Value.slice A n c).ownBlock → ((Value.slice A' (n + m) c').ownBlock = (Value.slice A n c).ownBlock ∨ (Value.slice A' (n + m) c').ownBlock = some w.heap.size) →
      K (a.put o.dst (.slice A' (n + m) c')) w') : o.wp P a w K Q := by
  obtain ⟨A', c', w', hrun, h2, h3, h4⟩ := run_append_cs (P := P) w base t o.type e i z size bytes ht hi hz hsize hby hzs hsz A n c xs hown S B m d news hl hr h1 h63 hbytes hbase
  unfold Oper.wp execOp
  simp only [ho, resolve, invoke, builtin, Sem.run_bind, Sem.run_pure, Result.andThen_ok, List.map_toArray, List.map_cons, List.map_nil, hs, hx, hrun]
  exact h A' c' w' h2 h3 h4

theorem wpList_append_cs {ops : Array Oper} {rest : List Oper} {o : Oper} {a : Act} {Q : Exit → Act → World → Prop} (hgd : o.guard = none) (s x : Operand) (t : TypeId)
    (ho : o.op = .call { callee := .builtin .append, args := #[s, x], argTypes := #[t, t] })
    (base : Nat) (e : TypeId) {z : Value} {size bytes : Nat} (ht : P.underlying t = some (.slice e)) (hi : (P.info? e).map (fun i => (i.zero, i.size, i.bytes)) = some (some z, size, bytes))
    (hzs : z.cells.size = size) (hsz : 0 < size)
    (A : Option Addr) (n c : Nat) (xs : List Value) (hs : a.eval s = .slice A n c) (hown : w.ownsRow base e size (.slice A n c) n xs)
    (S : Nat → Prop) (B : Option Addr) (m d : Nat) (news : List Value) (hx : a.eval x = .slice B m d) (hl : news.length = m * size) (hr : Cs S w B news) (h1 : news.all (·.oneCell') = true)
    (h63 : n + m ≤ maxLen) (hbytes : (n + m) * bytes ≤ 140737488355328) (hbase : base ≤ w.heap.size)
    (h : ∀ A' c' w', w'.ownsRow base e size (.slice A' (n + m) c') (n + m) (xs ++ news) → Below base w w' → w.grownBy w' (Value.slice A n c).ownBlock → ((Value.slice A' (n + m) c').ownBlock = (Value.slice A n c).ownBlock ∨ (Value.slice A' (n + m) c').ownBlock = some w.heap.size) →
      wpList P ops Q rest (a.put o.dst (.slice A' (n + m) c')) w') : wpList P ops Q (o :: rest) a w := by
  obtain ⟨i, hi1, hz, h3, h4⟩ := info_parts hi
  exact wpList_plain hgd fun _ hK => wp_append_cs w s x t ho base e i _ size bytes ht hi1 hz h3 h4 hzs hsz A n c xs hs hown S B m d news hx hl hr (by simpa using h1) h63 hbytes hbase fun A' c' w' h5 h6 h7 => hK _ _ (h A' c' w' h5 (below_of_grown hown h6 hbase) h6 h7)
theorem step_append_cs {ops : Array Oper} {o : Oper} {a : Act} {K : Act → World → Prop} {Q : Exit → Act → World → Prop} {E : Prop} (hgd : o.guard = none) (s x : Operand) (t : TypeId)
    (ho : o.op = .call { callee := .builtin .append, args := #[s, x], argTypes := #[t, t] })
    (base : Nat) (e : TypeId) {z : Value} {size bytes : Nat} (ht : P.underlying t = some (.slice e)) (hi : (P.info? e).map (fun i => (i.zero, i.size, i.bytes)) = some (some z, size, bytes))
    (hzs : z.cells.size = size) (hsz : 0 < size)
    (A : Option Addr) (n c : Nat) (xs : List Value) (hs : a.eval s = .slice A n c) (hown : w.ownsRow base e size (.slice A n c) n xs)
    (S : Nat → Prop) (B : Option Addr) (m d : Nat) (news : List Value) (hx : a.eval x = .slice B m d) (hl : news.length = m * size) (hr : Cs S w B news) (h1 : news.all (·.oneCell') = true)
    (h63 : n + m ≤ maxLen) (hbytes : (n + m) * bytes ≤ 140737488355328) (hbase : base ≤ w.heap.size)
    (h : ∀ A' c' w', w'.ownsRow base e size (.slice A' (n + m) c') (n + m) (xs ++ news) → Below base w w' → w.grownBy w' (Value.slice A n c).ownBlock → ((Value.slice A' (n + m) c').ownBlock = (Value.slice A n c).ownBlock ∨ (Value.slice A' (n + m) c').ownBlock = some w.heap.size) →
      K (a.put o.dst (.slice A' (n + m) c')) w') : if Region.wanted o (yielded ops a.tmps) = true then Oper.wp P o a w K Q else E := by
  rw [if_pos (by simp [Region.wanted, hgd])]
  obtain ⟨i, hi1, hz, h3, h4⟩ := info_parts hi
  exact wp_append_cs w s x t ho base e i _ size bytes ht hi1 hz h3 h4 hzs hsz A n c xs hs hown S B m d news hx hl hr (by simpa using h1) h63 hbytes hbase fun A' c' w' h5 h6 h7 => h A' c' w' h5 (below_of_grown hown h6 hbase) h6 h7
/-- The cells of a new block. -/
theorem Cs.new (w : World) (cs : Array Value) (t : TypeId) : Cs (fun b => b = w.heap.size) (w.alloc (.cells cs t)) (some ⟨w.heap.size, 0, none⟩) cs.toList := fun j u hu =>
  ⟨_, rfl, rfl, World.news_of_block (heap_alloc_new w _) j u hu⟩

/-- append of bytes: onto a row of bytes of the call's own. -/
theorem wp_append_bytes {o : Oper} {a : Act} {K : Act → World → Prop} {Q : Exit → Act → World → Prop} (s x : Operand) (t : TypeId)
    (ho : o.op = .call { callee := .builtin .append, args := #[s, x], argTypes := #[t, t] })
    (base : Nat) (ht : P.underlying t = some (.slice 5)) (hi : (P.info? 5).map (fun i => (i.zero, i.size, i.bytes)) = some (some (.int .u8 0), 1, 1))
    (A : Option Addr) (n c : Nat) (l : List UInt8) (hs : a.eval s = .slice A n c) (hown : Ob base w A n c l)
    (S : Nat → Prop) (B : Option Addr) (m d : Nat) (l2 : List UInt8) (hx : a.eval x = .slice B m d) (hr : Bs S w B m d l2)
    (hlim : n + m ≤ LIM) (hbase : base ≤ w.heap.size)
    (h : ∀ A' c' w', Ob base w' A' (n + m) c' (l ++ l2) → Below base w w' → w.grownBy w' (Value.slice A n c).ownBlock → ((Value.slice A' (n + m) c').ownBlock = (Value.slice A n c).ownBlock ∨ (Value.slice A' (n + m) c').ownBlock = some w.heap.size) →
      K (a.put o.dst (.slice A' (n + m) c')) w') : o.wp P a w K Q := by
  obtain ⟨i, hi1, hz, h1, h2⟩ := info_parts hi
  refine wp_append_cs w s x t ho base 5 i _ 1 1 ht hi1 hz h1 h2 rfl (by decide) A n c _ hs hown.own S B m d (l2.map u8) hx (by simp [hr.len]) hr.cs (by intro u hu; obtain ⟨b, _, rfl⟩ := List.mem_map.1 hu; rfl)
    (by unfold LIM at hlim; unfold maxLen; omega) (by unfold LIM at hlim; omega) hbase fun A' c' w' h3 h4 h5 => h A' c' w' ⟨by rw [List.length_append, ← hown.len, ← hr.len], (own_len h3).1, hlim, (own_len h3).2, by rw [List.map_append]; exact h3⟩ (below_of_grown hown.own h4 hbase) h4 h5

theorem wpList_append_bytes {ops : Array Oper} {rest : List Oper} {o : Oper} {a : Act} {Q : Exit → Act → World → Prop} (hgd : o.guard = none) (s x : Operand) (t : TypeId)
    (ho : o.op = .call { callee := .builtin .append, args := #[s, x], argTypes := #[t, t] })
    (base : Nat) (ht : P.underlying t = some (.slice 5)) (hi : (P.info? 5).map (fun i => (i.zero, i.size, i.bytes)) = some (some (.int .u8 0), 1, 1))
    (A : Option Addr) (n c : Nat) (l : List UInt8) (hs : a.eval s = .slice A n c) (hown : Ob base w A n c l)
    (S : Nat → Prop) (B : Option Addr) (m d : Nat) (l2 : List UInt8) (hx : a.eval x = .slice B m d) (hr : Bs S w B m d l2)
    (hlim : n + m ≤ LIM) (hbase : base ≤ w.heap.size)
    (h : ∀ A' c' w', Ob base w' A' (n + m) c' (l ++ l2) → Below base w w' → w.grownBy w' (Value.slice A n c).ownBlock → ((Value.slice A' (n + m) c').ownBlock = (Value.slice A n c).ownBlock ∨ (Value.slice A' (n + m) c').ownBlock = some w.heap.size) →
      wpList P ops Q rest (a.put o.dst (.slice A' (n + m) c')) w') : wpList P ops Q (o :: rest) a w :=
  wpList_plain hgd fun _ hK => wp_append_bytes w s x t ho base ht hi A n c l hs hown S B m d l2 hx hr hlim hbase fun A' c' w' h1 h2 h3 h4 => hK _ _ (h A' c' w' h1 h2 h3 h4)

theorem step_append_bytes {ops : Array Oper} {o : Oper} {a : Act} {K : Act → World → Prop} {Q : Exit → Act → World → Prop} {E : Prop} (hgd : o.guard = none) (s x : Operand) (t : TypeId)
    (ho : o.op = .call { callee := .builtin .append, args := #[s, x], argTypes := #[t, t] })
    (base : Nat) (ht : P.underlying t = some (.slice 5)) (hi : (P.info? 5).map (fun i => (i.zero, i.size, i.bytes)) = some (some (.int .u8 0), 1, 1))
    (A : Option Addr) (n c : Nat) (l : List UInt8) (hs : a.eval s = .slice A n c) (hown : Ob base w A n c l)
    (S : Nat → Prop) (B : Option Addr) (m d : Nat) (l2 : List UInt8) (hx : a.eval x = .slice B m d) (hr : Bs S w B m d l2)
    (hlim : n + m ≤ LIM) (hbase : base ≤ w.heap.size)
    (h : ∀ A' c' w', Ob base w' A' (n + m) c' (l ++ l2) → Below base w w' → w.grownBy w' (Value.slice A n c).ownBlock → ((Value.slice A' (n + m) c').ownBlock = (Value.slice A n c).ownBlock ∨ (Value.slice A' (n + m) c').ownBlock = some w.heap.size) →
      K (a.put o.dst (.slice A' (n + m) c')) w') : if Region.wanted o (yielded ops a.tmps) = true then Oper.wp P o a w K Q else E := by
  rw [if_pos (by simp [Region.wanted, hgd])]
  exact wp_append_bytes w s x t ho base ht hi A n c l hs hown S B m d l2 hx hr hlim hbase h
end

/-! ### worlds -/
section
variable {w w' w'' : World}
theorem below_drewN {B : Nat} {a : World} (h : Below B a w) (n : Nat) : Below B a (w.drewN n) := ⟨h.os, h.tape, h.output, h.size, h.block⟩
theorem below_then {B : Nat} (h : Below B w w') (hB : B ≤ w'.heap.size) (k : Below w'.heap.size w' w'') : Below B w w'' := h.trans (k.mono hB)
/-- Behind a step that grew a row of the call's own. -/
theorem below_grown {B base n c : Nat} {A : Option Addr} {e : TypeId} {size : Nat} {xs : List Value} (h : Below B w w') (hg : w'.grownBy w'' (Value.slice A n c).ownBlock) (hB : B ≤ w'.heap.size)
    (ho : w'.ownsRow base e size (.slice A n c) n xs) (hb : B ≤ base) : Below B w w'' :=
  h.grown hg hB fun k hk => Nat.le_trans hb (ho.lt k hk).1
end

/-! ### strings -/
/-- The string of bytes. -/
def bstr (l : List UInt8) : ByteArray := ⟨l.toArray⟩
theorem bstr_inj {l m : List UInt8} : bstr l = bstr m ↔ l = m := by
  unfold bstr
  constructor
  · intro h; injection h with h; exact List.toArray_inj h
  · rintro rfl; rfl
theorem bstr_toList (l : List UInt8) : (bstr l).toList = l := ByteArray.toList_mk l
theorem bstr_beq (l m : List UInt8) : ((bstr l).toList == (bstr m).toList) = decide (l = m) := by
  rw [bstr_toList, bstr_toList, Bool.eq_iff_iff]; simp
theorem bstr_bne (l m : List UInt8) : ((bstr l).toList != (bstr m).toList) = !decide (l = m) := by
  rw [← bstr_beq]; rfl
theorem run_conv_bs {P : Program} {S : Nat → Prop} {w : World} {A : Option Addr} {n c : Nat} {l : List UInt8} (h : Bs S w A n c l) (src dst : TypeId)
    (hs : P.underlying src = some (.slice 5)) (he : P.underlying 5 = some (.int .u8)) (hd : P.underlying dst = some .string) :
    (convert src dst (.slice A n c)).run P w = .ok (.string (bstr l)) w := by
  have hn := h.len
  subst hn
  rcases A with _ | ad
  · have hl : l = [] := by
      rcases l with _ | ⟨b, bs⟩
      · rfl
      · obtain ⟨ad, e, _⟩ := h.cs 0 (u8 b) (by simp)
        cases e
    subst hl
    exact run_convert_bytes_nil w src 5 hs he _ _ dst hd
  · exact run_convert_bytes_back w src dst 5 ad c l hs he hd fun j hj => by
      obtain ⟨ad', e, _, hc⟩ := h.cs j (u8 l[j]) (by simp [hj])
      injection e with e; subst e; exact hc
section
variable {w : World} {base : Nat}
/-- A slice literal of bytes. -/
theorem Ob.lit (w : World) (hb : base ≤ w.heap.size) (l : List UInt8) (n : Nat) (hn : n = l.length) (hm : n ≤ LIM) (cs : Array Value) (hc : cs = (l.map u8).toArray) :
    Ob base (w.alloc (.cells cs 5)) (some ⟨w.heap.size, 0, none⟩) n n l := by
  subst hn; subst hc
  refine ⟨rfl, Nat.le_refl _, hm, by unfold LIM at hm; unfold maxLen; omega, ?_⟩
  refine ⟨by simp, .inr ⟨w.heap.size, _, _, rfl, hb, heap_alloc_new w _, Nat.le_refl _, by unfold LIM at hm; unfold maxLen; omega, by simp, ?_⟩⟩
  simp only [Nat.mul_one]
  exact List.take_of_length_le (by simp)
theorem Ob.lit0 (w : World) (hb : base ≤ w.heap.size) : Ob base (w.alloc (.cells #[] 5)) (some ⟨w.heap.size, 0, none⟩) 0 0 [] := Ob.lit w hb [] 0 rfl (Nat.zero_le _) _ rfl
theorem Ob.lit1 (w : World) (hb : base ≤ w.heap.size) (x : Int) (b : UInt8) (hx : x = (b.toNat : Int)) : Ob base (w.alloc (.cells #[.int .u8 x] 5)) (some ⟨w.heap.size, 0, none⟩) 1 1 [b] :=
  Ob.lit w hb [b] 1 rfl (by unfold LIM; omega) _ (by subst hx; rfl)
end
theorem byte_mod (m : Nat) : Sec ((m : Int) % 256 = ((UInt8.ofNat m).toNat : Int)) := ⟨by simp⟩
theorem ofNat_toNat (m : Nat) : ((UInt8.ofNat m).toNat : Int) = (m : Int) % 256 := by simp
theorem toNat_ofNat8 (m : Nat) : (UInt8.ofNat m).toNat = m % 256 := by simp
/-! ### bits -/
theorem u64_wrap (a : Nat) (ha : a < 18446744073709551616) : IntKind.u64.wrap (a : Int) = (a : Int) := by
  have : IntKind.u64.wrap (a : Int) = (a : Int) % 18446744073709551616 := by
    simp [IntKind.wrap, IntKind.bits, IntKind.signed]
  rw [this]; omega
theorem mul256_or (a d : Nat) (hd : d < 256) : a * 256 ||| d = a * 256 + d := by
  have := Nat.shiftLeft_add_eq_or_of_lt (i := 8) (b := d) (by simpa using hd) a
  rw [Nat.shiftLeft_eq, show (2 ^ 8 : Nat) = 256 from rfl] at this
  exact this.symm
theorem u64_shl8_or (a d : Nat) (ha : a < 72057594037927936) (hd : d < 256) : bits .or .u64 (IntKind.u64.wrap ((a : Int) * 256)) (d : Int) = ((a * 256 + d : Nat) : Int) := by
  have h0 : (a : Int) * 256 = ((a * 256 : Nat) : Int) := by omega
  have h1 : a * 256 < 18446744073709551616 := by omega
  have h2 : d < 18446744073709551616 := by omega
  rw [h0, u64_wrap _ h1, u64_or_nat _ _ h1 h2, mul256_or a d hd]
theorem nb_zero (l : List UInt8) (k : Nat) : nb l k = 0 ↔ l.getD k 0 = 0 := by
  unfold nb
  constructor
  · intro h; exact UInt8.toNat_inj.1 (by simpa using h)
  · intro h; rw [h]; rfl
/-! ### cuts -/
section
variable {P : Program}
/-- 's[lo:hi]' with no case on the capacity: A' is a letter. -/
theorem cut_lh (t e : TypeId) (kl kh : IntKind) {z : Value} {size bytes : Nat} (ht : P.underlying t = some (.slice e)) (hi : (P.info? e).map (fun i => (i.zero, i.size, i.bytes)) = some (some z, size, bytes))
    (A : Option Addr) (n c : Nat) (lo hi' : Int) (l h : Nat) (hlo : lo = (l : Int)) (hhi : hi' = (h : Int)) (hlh : l ≤ h) (hh : h ≤ c) :
    ∃ A' : Option Addr, (∀ W : World, (Instr.slice t (.slice A n c) (some (.int kl lo)) (some (.int kh hi')) none).run P W = .ok (.slice A' (h - l) (c - l)) W) ∧
      ∀ (S : Nat → Prop) (w : World) (xs : List Value), xs.length ≤ c * size → Cs S w A xs → Cs S w A' ((xs.drop (l * size)).take ((h - l) * size)) := by
  subst hlo; subst hhi
  obtain ⟨i, hi1, _, hsz, _⟩ := info_parts hi
  refine ⟨if c = l then A else A.map (·.add (l * size)), fun W => ?_, fun S w xs hc hx => ?_⟩
  · have hel : P.elem t = e := by simp [Program.elem, ht]
    have hu : P.underlying t = some (.slice (P.elem t)) := by rw [hel]; exact ht
    rw [run_slice_lh W t A n c hu kl kh (l : Int) (h : Int) (Int.natCast_nonneg _) (by omega) (by omega), hel]
    simp [sizeOf, typeInfo, hi1, hsz, sliced, Result.andThen]
  · refine Cs.take ?_ _
    by_cases e : c = l
    · have : xs.drop (l * size) = [] := List.drop_eq_nil_of_le (by subst e; exact hc)
      rw [this]; exact Cs.nil _ _ _
    · rw [if_neg e]; exact hx.drop _
theorem cut_l (t e : TypeId) (kl : IntKind) {z : Value} {size bytes : Nat} (ht : P.underlying t = some (.slice e)) (hi : (P.info? e).map (fun i => (i.zero, i.size, i.bytes)) = some (some z, size, bytes))
    (A : Option Addr) (n c : Nat) (lo : Int) (l : Nat) (hlo : lo = (l : Int)) (hl : l ≤ n) (hn : n ≤ c) :
    ∃ A' : Option Addr, (∀ W : World, (Instr.slice t (.slice A n c) (some (.int kl lo)) none none).run P W = .ok (.slice A' (n - l) (c - l)) W) ∧
      ∀ (S : Nat → Prop) (w : World) (xs : List Value), xs.length ≤ c * size → Cs S w A xs → Cs S w A' (xs.drop (l * size)) := by
  subst hlo
  obtain ⟨i, hi1, _, hsz, _⟩ := info_parts hi
  refine ⟨if c = l then A else A.map (·.add (l * size)), fun W => ?_, fun S w xs hc hx => ?_⟩
  · have hel : P.elem t = e := by simp [Program.elem, ht]
    have hu : P.underlying t = some (.slice (P.elem t)) := by rw [hel]; exact ht
    rw [run_slice_l W t A n c hu kl (l : Int) (Int.natCast_nonneg _) (by omega), hel]
    simp [sizeOf, typeInfo, hi1, hsz, sliced, Result.andThen]
  · by_cases e : c = l
    · have : xs.drop (l * size) = [] := List.drop_eq_nil_of_le (by subst e; exact hc)
      rw [this]; exact Cs.nil _ _ _
    · rw [if_neg e]; exact hx.drop _
/-- Of bytes. -/
theorem bcut_lh (t : TypeId) (kl kh : IntKind) (ht : P.underlying t = some (.slice 5)) (hi : (P.info? 5).map (fun i => (i.zero, i.size, i.bytes)) = some (some (.int .u8 0), 1, 1))
    (A : Option Addr) (n c : Nat) (lo hi' : Int) (l h : Nat) (hlo : lo = (l : Int)) (hhi : hi' = (h : Int)) (hlh : l ≤ h) (hh : h ≤ n) (_hn : n ≤ c) :
    ∃ A' : Option Addr, (∀ W : World, (Instr.slice t (.slice A n c) (some (.int kl lo)) (some (.int kh hi')) none).run P W = .ok (.slice A' (h - l) (c - l)) W) ∧
      ∀ (S : Nat → Prop) (w : World) (b : List UInt8), Bs S w A n c b → Bs S w A' (h - l) (c - l) ((b.drop l).take (h - l)) := by
  obtain ⟨A', h1, h2⟩ := cut_lh t 5 kl kh ht hi A n c lo hi' l h hlo hhi hlh (by omega)
  refine ⟨A', h1, fun S w b hb => ⟨by rw [List.length_take, List.length_drop, ← hb.len]; omega, by omega, by have := hb.lim; omega, by have := hb.max; omega, ?_⟩⟩
  have := h2 S w (b.map u8) (by rw [List.length_map, ← hb.len]; omega) hb.cs
  simpa [List.map_take, List.map_drop] using this
theorem bcut_l (t : TypeId) (kl : IntKind) (ht : P.underlying t = some (.slice 5)) (hi : (P.info? 5).map (fun i => (i.zero, i.size, i.bytes)) = some (some (.int .u8 0), 1, 1))
    (A : Option Addr) (n c : Nat) (lo : Int) (l : Nat) (hlo : lo = (l : Int)) (hl : l ≤ n) (hn : n ≤ c) :
    ∃ A' : Option Addr, (∀ W : World, (Instr.slice t (.slice A n c) (some (.int kl lo)) none none).run P W = .ok (.slice A' (n - l) (c - l)) W) ∧
      ∀ (S : Nat → Prop) (w : World) (b : List UInt8), Bs S w A n c b → Bs S w A' (n - l) (c - l) (b.drop l) := by
  obtain ⟨A', h1, h2⟩ := cut_l t 5 kl ht hi A n c lo l hlo hl hn
  refine ⟨A', h1, fun S w b hb => ⟨by rw [List.length_drop, ← hb.len], by omega, by have := hb.lim; omega, by have := hb.max; omega, ?_⟩⟩
  have := h2 S w (b.map u8) (by rw [List.length_map, ← hb.len]; omega) hb.cs
  simpa [List.map_drop] using this
end

/-! ### cells of several things, one behind the other -/
def Reps {α : Type} (R : α → List Value → Prop) : List α → List Value → Prop
  | [], xs => xs = []
  | x :: l, xs => ∃ cs rest, xs = cs ++ rest ∧ R x cs ∧ Reps R l rest
section
variable {α : Type} {R R' : α → List Value → Prop} {l : List α} {xs : List Value} {s : Nat}
theorem Reps.mono (h : Reps R l xs) (hr : ∀ x cs, x ∈ l → R x cs → R' x cs) : Reps R' l xs := by
  induction l generalizing xs with
  | nil => exact h
  | cons x l ih =>
    obtain ⟨cs, rest, e, h1, h2⟩ := h
    exact ⟨cs, rest, e, hr _ _ (by simp) h1, ih h2 fun y cs hy => hr y cs (by simp [hy])⟩
theorem Reps.snoc (h : Reps R l xs) {x : α} {cs : List Value} (hx : R x cs) : Reps R (l ++ [x]) (xs ++ cs) := by
  induction l generalizing xs with
  | nil => cases h; exact ⟨cs, [], by simp, hx, rfl⟩
  | cons y l ih =>
    obtain ⟨c1, rest, rfl, h1, h2⟩ := h
    exact ⟨c1, rest ++ cs, by simp, h1, ih h2⟩
theorem Reps.append {l2 : List α} {ys : List Value} (h : Reps R l xs) (h2 : Reps R l2 ys) : Reps R (l ++ l2) (xs ++ ys) := by
  induction l generalizing xs with
  | nil => cases h; simpa using h2
  | cons y l ih =>
    obtain ⟨c1, rest, rfl, h1, h3⟩ := h
    exact ⟨c1, rest ++ ys, by simp, h1, ih h3⟩
theorem Reps.length (h : Reps R l xs) (hs : ∀ x cs, R x cs → cs.length = s) : xs.length = l.length * s := by
  induction l generalizing xs with
  | nil => cases h; simp
  | cons y l ih =>
    obtain ⟨c1, rest, rfl, h1, h3⟩ := h
    rw [List.length_append, hs _ _ h1, ih h3, List.length_cons, Nat.add_mul]; omega
theorem Reps.get (h : Reps R l xs) (hs : ∀ x cs, R x cs → cs.length = s) {k : Nat} {x : α} (hk : l[k]? = some x) :
    ∃ cs, R x cs ∧ ∀ j u, cs[j]? = some u → xs[k * s + j]? = some u := by
  induction l generalizing xs k with
  | nil => simp at hk
  | cons y l ih =>
    obtain ⟨c1, rest, rfl, h1, h3⟩ := h
    match k with
    | 0 =>
      simp at hk; subst hk
      refine ⟨c1, h1, fun j u hu => ?_⟩
      rw [Nat.zero_mul, Nat.zero_add, List.getElem?_append_left (List.getElem?_eq_some_iff.1 hu).1]; exact hu
    | k + 1 =>
      obtain ⟨cs, r1, r2⟩ := ih h3 (by simpa using hk)
      refine ⟨cs, r1, fun j u hu => ?_⟩
      have := r2 j u hu
      rw [List.getElem?_append_right (by rw [hs _ _ h1, Nat.add_mul]; omega), hs _ _ h1, show (k + 1) * s + j - s = k * s + j from by rw [Nat.add_mul]; omega]
      exact this
end
end Go.Mo
