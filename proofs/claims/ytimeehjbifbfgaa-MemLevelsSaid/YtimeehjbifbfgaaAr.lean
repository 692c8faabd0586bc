/- Slices of several things: read, owned, appended to. No program in sight. -/
import Derived.Test.YtimeehjbifbfgaaBlk
namespace Go.Mo
open Go.RowKit

/-- How a thing lies in cells, in blocks of S. -/
structure Rep (α : Type) where
  size : Nat
  R : (Nat → Prop) → World → α → List Value → Prop
  len : ∀ {S w x cs}, R S w x cs → cs.length = size
  one : ∀ {S w x cs}, R S w x cs → cs.all (·.oneCell') = true
  mono : ∀ {S S' : Nat → Prop} {w x cs}, R S w x cs → (∀ b, S b → S' b) → R S' w x cs
  agree : ∀ {S w w' x cs}, R S w x cs → Agree S w w' → R S w' x cs
  here : ∀ {S w x cs}, R S w x cs → R (fun b => S b ∧ b < w.heap.size) w x cs

/-- A slice that reads as l, in blocks of S. -/
def Ar {α : Type} (r : Rep α) (S : Nat → Prop) (w : World) (A : Option Addr) (n c : Nat) (l : List α) : Prop :=
  n = l.length ∧ n ≤ c ∧ n ≤ LIM ∧ c ≤ maxLen ∧ ∃ xs, Cs S w A xs ∧ Reps (r.R S w) l xs

section
variable {α : Type} {r : Rep α} {S S' : Nat → Prop} {w w' : World} {A : Option Addr} {n c : Nat} {l : List α}
theorem Ar.len (h : Ar r S w A n c l) : n = l.length := h.1
theorem Ar.le (h : Ar r S w A n c l) : n ≤ c := h.2.1
theorem Ar.lim (h : Ar r S w A n c l) : n ≤ LIM := h.2.2.1
theorem Ar.max (h : Ar r S w A n c l) : c ≤ maxLen := h.2.2.2.1
theorem Ar.bds (h : Ar r S w A n c l) : n ≤ 140737488355328 ∧ n ≤ c ∧ c ≤ 9223372036854775807 := ⟨h.lim, h.le, by have := h.max; unfold maxLen at this; omega⟩
theorem Ar.empty (r : Rep α) (S : Nat → Prop) (w : World) : Ar r S w none 0 0 [] := ⟨rfl, Nat.le_refl _, Nat.zero_le _, Nat.zero_le _, [], Cs.nil _ _ _, rfl⟩
theorem Ar.mono (h : Ar r S w A n c l) (hs : ∀ b, S b → S' b) : Ar r S' w A n c l := by
  obtain ⟨xs, h1, h2⟩ := h.2.2.2.2
  exact ⟨h.len, h.le, h.lim, h.max, xs, h1.mono hs, h2.mono fun _ _ _ h => r.mono h hs⟩
theorem Ar.agree (h : Ar r S w A n c l) (hg : Agree S w w') : Ar r S w' A n c l := by
  obtain ⟨xs, h1, h2⟩ := h.2.2.2.2
  exact ⟨h.len, h.le, h.lim, h.max, xs, h1.agree hg, h2.mono fun _ _ _ h => r.agree h hg⟩
theorem Ar.below (h : Ar r S w A n c l) (hb : Below w.heap.size w w') : Ar r S w' A n c l := h.agree (.of_below hb S)
theorem Ar.drew (h : Ar r S w A n c l) : Ar r S w.drew A n c l := h.agree fun _ _ _ => rfl
theorem Ar.drewN (h : Ar r S w A n c l) (k : Nat) : Ar r S (w.drewN k) A n c l := h.agree fun _ _ _ => rfl
theorem Ar.alloc (h : Ar r S w A n c l) (o : Obj) : Ar r S (w.alloc o) A n c l := h.agree fun b _ hlt => Below.heap_alloc w o b hlt
theorem Ar.setCell (h : Ar r S w A n c l) {p : Addr} (hp : ¬ S p.block) (u : Value) : Ar r S (w.setCell p u) A n c l :=
  h.agree fun b hb _ => Below.heap_setCell w p u b (fun e => hp (e ▸ hb))
theorem Ar.here (h : Ar r S w A n c l) : Ar r (fun b => S b ∧ b < w.heap.size) w A n c l := by
  obtain ⟨xs, h1, h2⟩ := h.2.2.2.2
  exact ⟨h.len, h.le, h.lim, h.max, xs, (h1.and h1.here).mono fun _ h => h, h2.mono fun _ _ _ h => r.here h⟩
/-- The k-th thing's cells. -/
theorem Ar.at (h : Ar r S w A n c l) {k : Nat} (hk : k < n) (hs : 0 < r.size) : ∃ ad x cs, A = some ad ∧ l[k]? = some x ∧ S ad.block ∧ r.R S w x cs ∧ ∀ j u, cs[j]? = some u → w.cell? (ad.add (k * r.size + j)) = some u := by
  have hk' : k < l.length := by have := h.len; omega
  obtain ⟨xs, h1, h2⟩ := h.2.2.2.2
  obtain ⟨cs, h3, h4⟩ := h2.get (fun _ _ h => r.len h) (List.getElem?_eq_getElem hk')
  have hc0 : 0 < cs.length := by rw [r.len h3]; exact hs
  obtain ⟨ad, e, hS, hc⟩ := h1 _ _ (h4 0 _ (List.getElem?_eq_getElem hc0))
  refine ⟨ad, _, cs, e, List.getElem?_eq_getElem hk', hS, h3, fun j u hu => ?_⟩
  obtain ⟨ad', e', _, hc'⟩ := h1 _ _ (h4 j u hu)
  rw [e] at e'; injection e' with e'; subst e'
  exact hc'
end

section
variable {α : Type} {R : α → List Value → Prop} {l : List α} {xs : List Value} {s : Nat}
theorem Reps.drop (h : Reps R l xs) (hs : ∀ x cs, R x cs → cs.length = s) (k : Nat) (hk : k ≤ l.length) : Reps R (l.drop k) (xs.drop (k * s)) := by
  induction l generalizing xs k with
  | nil => cases h; have : k = 0 := by simpa using hk
           subst this; simp [Reps]
  | cons y l ih =>
    match k with
    | 0 => simpa using h
    | k + 1 =>
      obtain ⟨c1, rest, rfl, h1, h3⟩ := h
      have := ih h3 k (by simpa using hk)
      have e : (c1 ++ rest).drop ((k + 1) * s) = rest.drop (k * s) := by
        rw [List.drop_append, List.drop_of_length_le (l := c1) (by rw [hs _ _ h1, Nat.add_mul]; omega), List.nil_append, hs _ _ h1, show (k + 1) * s - s = k * s from by rw [Nat.add_mul]; omega]
      rw [List.drop_succ_cons, e]
      exact this
theorem Reps.take (h : Reps R l xs) (hs : ∀ x cs, R x cs → cs.length = s) (k : Nat) (hk : k ≤ l.length) : Reps R (l.take k) (xs.take (k * s)) := by
  induction l generalizing xs k with
  | nil => cases h; simp [Reps]
  | cons y l ih =>
    match k with
    | 0 => simp [Reps]
    | k + 1 =>
      obtain ⟨c1, rest, rfl, h1, h3⟩ := h
      have := ih h3 k (by simpa using hk)
      have e : (c1 ++ rest).take ((k + 1) * s) = c1 ++ rest.take (k * s) := by
        rw [List.take_append, List.take_of_length_le (l := c1) (by rw [hs _ _ h1, Nat.add_mul]; omega), hs _ _ h1, show (k + 1) * s - s = k * s from by rw [Nat.add_mul]; omega]
      rw [List.take_succ_cons, e]
      exact ⟨c1, _, rfl, h1, this⟩
end

theorem Reps.one {α : Type} {R : α → List Value → Prop} {l : List α} {xs : List Value} (h : Reps R l xs) (h1 : ∀ x cs, R x cs → cs.all (·.oneCell') = true) : xs.all (·.oneCell') = true := by
  induction l generalizing xs with
  | nil => cases h; rfl
  | cons y l ih =>
    obtain ⟨c1, rst, rfl, h5, h6⟩ := h
    rw [List.all_append, h1 _ _ h5, ih h6]
    rfl
/-- A slice of the call's own, from block base on, that reads as l; its things in blocks of S. -/
def Oa {α : Type} (r : Rep α) (e : TypeId) (base : Nat) (S : Nat → Prop) (w : World) (A : Option Addr) (n c : Nat) (l : List α) : Prop :=
  n = l.length ∧ ∃ xs, w.ownsRow base e r.size (.slice A n c) n xs ∧ Reps (r.R (fun k => S k ∧ some k ≠ (Value.slice A n c).ownBlock) w) l xs
section
variable {α : Type} {r : Rep α} {e : TypeId} {base base' : Nat} {S S' : Nat → Prop} {w w' : World} {A : Option Addr} {n c : Nat} {l : List α}
theorem Oa.len (h : Oa r e base S w A n c l) : n = l.length := h.1
theorem Oa.le (h : Oa r e base S w A n c l) : n ≤ c ∧ c ≤ maxLen := by obtain ⟨xs, h1, _⟩ := h.2; exact own_len h1
theorem Oa.lt (h : Oa r e base S w A n c l) (k : Nat) (hk : (Value.slice A n c).ownBlock = some k) : base ≤ k ∧ k < w.heap.size := by obtain ⟨xs, h1, _⟩ := h.2; exact h1.lt k hk
theorem Oa.nil (r : Rep α) (e : TypeId) (base : Nat) (S : Nat → Prop) (w : World) : Oa r e base S w none 0 0 [] := ⟨rfl, [], World.ownsRow_nil w base e r.size, rfl⟩
theorem Oa.ar (h : Oa r e base S w A n c l) (hn : n ≤ LIM) : Ar r (fun b => S b ∨ base ≤ b) w A n c l := by
  obtain ⟨xs, h1, h2⟩ := h.2
  exact ⟨h.len, h.le.1, hn, h.le.2, xs, Cs.of_own h1 fun _ hb _ => .inr hb, h2.mono fun _ _ _ h => r.mono h fun b hb => .inl hb.1⟩
theorem Oa.arT (h : Oa r e base S w A n c l) (hn : n ≤ LIM) : Ar r (fun _ => True) w A n c l := (h.ar hn).mono fun _ _ => trivial
theorem Oa.kept {row : Option Nat} (h : Oa r e base S w A n c l) (hg : w.grownBy w' row) (hne : (Value.slice A n c).ownBlock = none ∨ (Value.slice A n c).ownBlock ≠ row) (hS : ∀ b, S b → some b ≠ row) : Oa r e base S w' A n c l := by
  obtain ⟨xs, h1, h2⟩ := h.2
  exact ⟨h.1, xs, h1.kept hg hne, h2.mono fun _ _ _ h => r.agree h (Agree.of_grown hg fun b hb => hS b hb.1)⟩
theorem Oa.below (h : Oa r e base S w A n c l) (hb : Below w.heap.size w w') : Oa r e base S w' A n c l :=
  h.kept (grown_of_below hb) (by cases (Value.slice A n c).ownBlock <;> simp) fun b _ => by simp
theorem Oa.alloc (h : Oa r e base S w A n c l) (o : Obj) : Oa r e base S (w.alloc o) A n c l := h.below ((Below.refl _ _).alloc (Nat.le_refl _) o)
theorem Oa.drew (h : Oa r e base S w A n c l) : Oa r e base S w.drew A n c l := by
  obtain ⟨xs, h1, h2⟩ := h.2
  exact ⟨h.1, xs, h1, h2.mono fun _ _ _ h => r.agree h fun _ _ _ => rfl⟩
theorem Oa.drewN (h : Oa r e base S w A n c l) (k : Nat) : Oa r e base S (w.drewN k) A n c l := by
  obtain ⟨xs, h1, h2⟩ := h.2
  exact ⟨h.1, xs, h1, h2.mono fun _ _ _ h => r.agree h fun _ _ _ => rfl⟩
theorem Oa.mono (h : Oa r e base S w A n c l) (hS : ∀ b, S b → S' b) : Oa r e base S' w A n c l := by
  obtain ⟨xs, h1, h2⟩ := h.2
  exact ⟨h.1, xs, h1, h2.mono fun _ _ _ h => r.mono h fun b hb => ⟨hS b hb.1, hb.2⟩⟩
theorem Oa.rebase (h : Oa r e base S w A n c l) (hb : base' ≤ base) : Oa r e base' S w A n c l := by
  obtain ⟨xs, h1, h2⟩ := h.2
  exact ⟨h.1, xs, own_mono h1 hb, h2⟩
/-- Behind an append of things that lie elsewhere. -/
theorem Oa.step {A' : Option Addr} {c' m : Nat} {xs news : List Value} {l2 : List α} (hl : n = l.length) (hm : m = l2.length) (h2 : Reps (r.R (fun k => S k ∧ some k ≠ (Value.slice A n c).ownBlock) w) l xs)
    (h3 : Reps (r.R (fun k => S k ∧ some k ≠ (Value.slice A n c).ownBlock) w) l2 news) (ho : w'.ownsRow base e r.size (.slice A' (n + m) c') (n + m) (xs ++ news))
    (hg : w.grownBy w' (Value.slice A n c).ownBlock) (hat : (Value.slice A' (n + m) c').ownBlock = (Value.slice A n c).ownBlock ∨ (Value.slice A' (n + m) c').ownBlock = some w.heap.size) :
    Oa r e base S w' A' (n + m) c' (l ++ l2) := by
  have step : ∀ x cs, r.R (fun k => S k ∧ some k ≠ (Value.slice A n c).ownBlock) w x cs → r.R (fun k => S k ∧ some k ≠ (Value.slice A' (n + m) c').ownBlock) w' x cs := fun x cs h => by
    have h4 := r.agree (r.here h) (w' := w') (Agree.of_grown hg fun b hb => hb.1.2)
    refine r.mono h4 fun k hk => ⟨hk.1.1, ?_⟩
    rcases hat with e | e
    · rw [e]; exact hk.1.2
    · rw [e]; intro e2; injection e2 with e2; have := hk.2; omega
  exact ⟨by rw [List.length_append, hl, hm], _, ho, (h2.mono fun x cs _ h => step x cs h).append (h3.mono fun x cs _ h => step x cs h)⟩

variable {P : Program}
theorem wpList_append_oa {ops : Array Oper} {rest : List Oper} {o : Oper} {a : Act} {Q : Exit → Act → World → Prop} (hgd : o.guard = none) (s x : Operand) (t : TypeId)
    (ho : o.op = .call { callee := .builtin .append, args := #[s, x], argTypes := #[t, t] })
    {z : Value} {bytes : Nat} (ht : P.underlying t = some (.slice e)) (hi : (P.info? e).map (fun i => (i.zero, i.size, i.bytes)) = some (some z, r.size, bytes))
    (hzs : z.cells.size = r.size) (hsz : 0 < r.size)
    (hs : a.eval s = .slice A n c) (hown : Oa r e base S w A n c l)
    {S2 : Nat → Prop} {B : Option Addr} {m d : Nat} (l2 : List α) (news : List Value) (hx : a.eval x = .slice B m d) (hm : m = l2.length) (hr : Cs S2 w B news) (hnews : Reps (r.R (fun k => S k ∧ some k ≠ (Value.slice A n c).ownBlock) w) l2 news)
    (h63 : n + m ≤ maxLen) (hbytes : (n + m) * bytes ≤ 140737488355328) (hbase : base ≤ w.heap.size)
    (h : ∀ A' c' w', Oa r e base S w' A' (n + m) c' (l ++ l2) → Below base w w' → w.grownBy w' (Value.slice A n c).ownBlock → ((Value.slice A' (n + m) c').ownBlock = (Value.slice A n c).ownBlock ∨ (Value.slice A' (n + m) c').ownBlock = some w.heap.size) →
      wpList P ops Q rest (a.put o.dst (.slice A' (n + m) c')) w') : wpList P ops Q (o :: rest) a w := by
  obtain ⟨xs, h1, h2⟩ := hown.2
  have hone : news.all (·.oneCell') = true := hnews.one fun _ _ h => r.one h
  exact wpList_append_cs w hgd s x t ho base e ht hi hzs hsz A n c xs hs h1 S2 B m d news hx (by rw [hnews.length (fun _ _ h => r.len h), hm]) hr hone h63 hbytes hbase
    fun A' c' w' h5 h6 h7 h8 => h A' c' w' (Oa.step hown.1 hm h2 hnews h5 h7 h8) h6 h7 h8
end
end Go.Mo
