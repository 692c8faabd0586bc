/- Items as trees of their own, what memory reads as one, and blocks that a call writes: no program in sight. -/
import Derived.Test.YtlpmnhnlhleogaaBase
namespace Go.Mo
open Go.RowKit

/-! ### all but one block -/
/-- Of what there was only block g may have turned. -/
def Kb (g : Nat) (w w' : World) : Prop := w.grownBy w' (some g)
section
variable {g : Nat} {w w' w'' : World}
theorem Kb.refl (g : Nat) (w : World) : Kb g w w := World.grownBy.refl w _
theorem Kb.trans (h : Kb g w w') (k : Kb g w' w'') : Kb g w w'' := World.grownBy.trans h k
theorem Kb.of_below (h : Below w.heap.size w w') : Kb g w w' := ⟨h.os, h.tape, h.output, h.size, fun k hk _ => h.block k hk⟩
theorem Kb.size (h : Kb g w w') : w.heap.size ≤ w'.heap.size := World.grownBy.size h
theorem Kb.drew (h : Kb g w w') : Kb g w w'.drew := ⟨h.os, h.tape, h.output, h.size, h.block⟩
theorem Kb.drewN (h : Kb g w w') (n : Nat) : Kb g w (w'.drewN n) := ⟨h.os, h.tape, h.output, h.size, h.block⟩
theorem Kb.alloc (h : Kb g w w') (o : Obj) : Kb g w (w'.alloc o) := h.trans (Kb.of_below ((Below.refl _ _).alloc (Nat.le_refl _) o))
theorem Kb.setCell (h : Kb g w w') {p : Addr} (hp : p.block = g ∨ w.heap.size ≤ p.block) (u : Value) : Kb g w (w'.setCell p u) :=
  ⟨h.os, h.tape, h.output, by simpa [World.setCell] using h.size, fun i hi hne => (Below.heap_setCell w' p u i (by
    rintro rfl
    rcases hp with hp | hp
    · exact hne (by rw [hp])
    · omega)).trans (h.block i hi hne)⟩
theorem Kb.then_below {B : Nat} (h : Kb g w w') (hb : Below B w' w'') (hB : w.heap.size ≤ B) : Kb g w w'' :=
  ⟨hb.os.trans h.os, hb.tape.trans h.tape, hb.output.trans h.output, Nat.le_trans h.size hb.size, fun k hk hne => (hb.block k (Nat.lt_of_lt_of_le hk hB)).trans (h.block k hk hne)⟩
/-- Where g is new to an elder world, that one's blocks are as they were. -/
theorem Kb.below {B : Nat} {a : World} (hb : Below B a w) (h : Kb g w w') (hg : B ≤ g) (hB : B ≤ w.heap.size) : Below B a w' :=
  hb.grown h hB fun k hk => by injection hk with hk; omega
theorem Kb.agree {S : Nat → Prop} (h : Kb g w w') (hS : ∀ b, S b → b ≠ g) : Agree S w w' := Agree.of_grown h fun b hb e => hS b hb (by injection e)
end

/-! ### a block known whole -/
def Blk (w : World) (g : Nat) (t : TypeId) (cs : Array Value) : Prop := w.heap[g]? = some (.cells cs t (0, 0))
section
variable {w w' : World} {g : Nat} {t : TypeId} {cs : Array Value}
theorem Blk.lt (h : Blk w g t cs) : g < w.heap.size := (Array.getElem?_eq_some_iff.1 h).1
theorem Blk.cell (h : Blk w g t cs) (i : Nat) : w.cell? ⟨g, i, none⟩ = cs[i]? := cell_of_row w g i cs t (0, 0) h
theorem Blk.frozen (h : Blk w g t cs) (i : Nat) : w.frozen? ⟨g, i, none⟩ = false := by
  unfold Blk at h; simp [World.frozen?, h]
theorem Blk.new (w : World) (t : TypeId) (cs : Array Value) : Blk (w.alloc (.cells cs t)) w.heap.size t cs := heap_alloc_new w _
theorem Blk.drew (h : Blk w g t cs) : Blk w.drew g t cs := h
theorem Blk.drewN (h : Blk w g t cs) (n : Nat) : Blk (w.drewN n) g t cs := h
theorem Blk.alloc (h : Blk w g t cs) (o : Obj) : Blk (w.alloc o) g t cs := (Below.heap_alloc w o g h.lt).trans h
theorem Blk.set (h : Blk w g t cs) (i : Nat) (u : Value) : Blk (w.setCell ⟨g, i, none⟩ u) g t (cs.setIfInBounds i u) := by
  unfold Blk at h ⊢; simp [World.setCell, Array.getElem?_modify, h]
theorem Blk.far (h : Blk w g t cs) {p : Addr} (hp : g ≠ p.block) (u : Value) : Blk (w.setCell p u) g t cs := (Below.heap_setCell w p u g hp).trans h
theorem Blk.agree {S : Nat → Prop} (h : Blk w g t cs) (ha : Agree S w w') (hS : S g) : Blk w' g t cs := (ha g hS h.lt).trans h
theorem Blk.below (h : Blk w g t cs) (hb : Below w.heap.size w w') : Blk w' g t cs := (hb.block g h.lt).trans h
theorem Blk.below' {B : Nat} (h : Blk w g t cs) (hb : Below B w w') (hg : g < B) : Blk w' g t cs := (hb.block g hg).trans h
theorem Blk.kb {k : Nat} (h : Blk w g t cs) (hb : Kb k w w') (hne : g ≠ k) : Blk w' g t cs := (hb.block g h.lt (fun e => hne (by injection e))).trans h
end

theorem Blk.new' (w : World) (t : TypeId) (cs : Array Value) (g : Nat) (h : g = w.heap.size) : Blk (w.alloc (.cells cs t)) g t cs := h ▸ Blk.new w t cs
/-- Four new blocks. -/
theorem blk4 (w : World) (t0 t1 t2 t3 : TypeId) (c0 c1 c2 c3 : Array Value) :
    Blk ((((w.alloc (.cells c0 t0)).alloc (.cells c1 t1)).alloc (.cells c2 t2)).alloc (.cells c3 t3)) w.heap.size t0 c0 ∧
    Blk ((((w.alloc (.cells c0 t0)).alloc (.cells c1 t1)).alloc (.cells c2 t2)).alloc (.cells c3 t3)) (w.heap.size + 1) t1 c1 ∧
    Blk ((((w.alloc (.cells c0 t0)).alloc (.cells c1 t1)).alloc (.cells c2 t2)).alloc (.cells c3 t3)) (w.heap.size + 1 + 1) t2 c2 ∧
    Blk ((((w.alloc (.cells c0 t0)).alloc (.cells c1 t1)).alloc (.cells c2 t2)).alloc (.cells c3 t3)) (w.heap.size + 1 + 1 + 1) t3 c3 ∧
    Below w.heap.size w ((((w.alloc (.cells c0 t0)).alloc (.cells c1 t1)).alloc (.cells c2 t2)).alloc (.cells c3 t3)) :=
  ⟨(((Blk.new _ _ _).alloc _).alloc _).alloc _, ((Blk.new' _ _ _ _ (by simp)).alloc _).alloc _, (Blk.new' _ _ _ _ (by simp)).alloc _, Blk.new' _ _ _ _ (by simp),
   ((((Below.refl _ _).alloc (Nat.le_refl _) _).alloc (by simp) _).alloc (by simp; omega) _).alloc (by simp; omega) _⟩

/-! ### a struct that lies in a block of its own: stored whole, read whole -/
section
variable {P : Program}
theorem Blk.range {w : World} {g : Nat} {t : TypeId} {cs : Array Value} (h : Blk w g t cs) : w.rangeAt g 0 cs.toList := fun j v hv => by
  rw [Nat.zero_add, h.cell j]; simpa using hv
theorem Blk.there {w : World} {g : Nat} {t : TypeId} {cs : Array Value} (h : Blk w g t cs) : w.there g 0 cs.size := fun j hj => by
  rw [Nat.zero_add]; exact ⟨by rw [h.cell j, Array.getElem?_eq_getElem hj]; rfl, h.frozen j⟩
theorem setCells_all {t : TypeId} {g : Nat} : ∀ (vs : List Value) (o : Nat) (w : World) (cs : Array Value), Blk w g t cs → o + vs.length ≤ cs.size →
    Blk (w.setCells g o vs) g t ((cs.toList.take o ++ vs ++ cs.toList.drop (o + vs.length)).toArray) ∧ Kb g w (w.setCells g o vs) ∧ (w.setCells g o vs).heap.size = w.heap.size
  | [], o, w, cs, h, _ => by
    refine ⟨?_, Kb.refl _ _, rfl⟩
    show Blk w g t _
    simpa using h
  | v :: vs, o, w, cs, h, hl => by
    have hl' : o + (vs.length + 1) ≤ cs.size := by simpa using hl
    have h1 := h.set o v
    obtain ⟨r1, r2, r3⟩ := setCells_all vs (o + 1) (w.setCell ⟨g, o, none⟩ v) _ h1 (by simp; omega)
    refine ⟨?_, ((Kb.refl g w).setCell (.inl rfl) v).trans r2, r3.trans (by simp [World.setCell])⟩
    show Blk ((w.setCell ⟨g, o, none⟩ v).setCells g (o + 1) vs) g t _
    have e : (cs.setIfInBounds o v).toList.take (o + 1) ++ vs ++ (cs.setIfInBounds o v).toList.drop (o + 1 + vs.length) = cs.toList.take o ++ (v :: vs) ++ cs.toList.drop (o + (v :: vs).length) := by
      rw [Array.toList_setIfInBounds, List.length_cons, show o + (vs.length + 1) = o + 1 + vs.length from by omega]
      rw [List.drop_set_of_lt (by omega)]
      rw [List.take_add_one, List.take_set_of_le (by omega)]
      rw [List.getElem?_set_self (by simpa using (by omega : o < cs.size))]
      simp
    rw [e] at r1
    exact r1
theorem setCells_blk {w : World} {g : Nat} {t : TypeId} {cs vs : Array Value} (h : Blk w g t cs) (hs : vs.size = cs.size) :
    Blk (w.setCells g 0 vs.toList) g t vs ∧ Kb g w (w.setCells g 0 vs.toList) ∧ (w.setCells g 0 vs.toList).heap.size = w.heap.size := by
  obtain ⟨r1, r2, r3⟩ := setCells_all vs.toList 0 w cs h (by simp [hs])
  refine ⟨?_, r2, r3⟩
  have : ([] ++ vs.toList ++ cs.toList.drop (0 + vs.toList.length)).toArray = vs := by
    rw [List.nil_append, List.drop_of_length_le (by simp [hs]), List.append_nil]
  rwa [List.take_zero, this] at r1

/-- Stands the walk at this operation? -/
theorem gate (op : Op) {ops : Array Oper} {rest : List Oper} {o : Oper} {a : Act} {w : World} {Q : Exit → Act → World → Prop} (_ho : o.op = op) (h : wpList P ops Q (o :: rest) a w) : wpList P ops Q (o :: rest) a w := h

/-- A struct is stored whole into a block of its own: of the world behind it this is known. -/
theorem wpList_store_blk {ops : Array Oper} {rest : List Oper} {o : Oper} {a : Act} {w : World} {Q : Exit → Act → World → Prop} (hgd : o.guard = none) (ty : TypeId) (x y : Operand) (ho : o.op = .store ty x y)
    (g : Nat) (t : TypeId) (cs vs : Array Value) (hx : a.eval x = .pointer (some ⟨g, 0, none⟩)) (hy : a.eval y = .agg vs) (hb : Blk w g t cs) (hs : vs.size = cs.size)
    (hi : (P.info? ty).map (·.size) = some vs.size) (h1 : vs.toList.all (·.oneCell') = true)
    (h : ∀ w', Blk w' g t vs → Kb g w w' → w'.heap.size = w.heap.size → wpList P ops Q rest (a.put o.dst undef) w') : wpList P ops Q (o :: rest) a w := by
  refine wpList_store_mid hgd ty x y ho g 0 vs hx hy (by rw [hs]; exact hb.there) hi (by rw [← Array.all_toList]; exact h1) ?_
  obtain ⟨r1, r2, r3⟩ := setCells_blk hb hs
  exact h _ r1 r2 r3

theorem run_load_blk {w : World} {g : Nat} {t ty : TypeId} {cs : Array Value} {d : TypeDesc} (hg : Blk w g t cs) (hu : P.underlying ty = some d) (hd : d.isRow = true) (hi : (P.info? ty).map (·.size) = some cs.size) :
    (loadVar ty ⟨g, 0, none⟩).run P w = .ok (.agg cs) w := run_loadVar_row w g t ty cs (0, 0) d hg hu (by cases d <;> first | rfl | cases hd) hi

/-- A struct in a block of its own is the first result, one more stands in a slot. -/
theorem bodyPost_cell1 {fn : Func} {R : Ending → World → Prop} {a : Act} {w : World} {p u : Tmp} {ty : TypeId} (h : fn.results = #[.cell p ty, .tmp u]) {g : Nat} (hp : a.tmps.getD p undef = .pointer (some ⟨g, 0, none⟩))
    {t : TypeId} {cs : Array Value} {d : TypeDesc} (hg : Blk w g t cs) (hu : P.underlying ty = some d) (hd : d.isRow = true) (hi : (P.info? ty).map (·.size) = some cs.size) (hdf : a.defers = [])
    (hR : R (.returned (.tuple #[.agg cs, a.tmps.getD u undef])) w) : bodyPost P fn R .ret a w := by
  have hp' : a.tmps[p]?.getD undef = .pointer (some ⟨g, 0, none⟩) := by simpa using hp
  refine bodyPost_ret (v := .tuple #[.agg cs, a.tmps.getD u undef]) ?_ hdf hR
  simp [results, h, hp', asAddr, run_load_blk hg hu hd hi]
/-- A struct in a block of its own is the first result, two more stand in slots. -/
theorem bodyPost_cell2 {fn : Func} {R : Ending → World → Prop} {a : Act} {w : World} {p u v : Tmp} {ty : TypeId} (h : fn.results = #[.cell p ty, .tmp u, .tmp v]) {g : Nat} (hp : a.tmps.getD p undef = .pointer (some ⟨g, 0, none⟩))
    {t : TypeId} {cs : Array Value} {d : TypeDesc} (hg : Blk w g t cs) (hu : P.underlying ty = some d) (hd : d.isRow = true) (hi : (P.info? ty).map (·.size) = some cs.size) (hdf : a.defers = [])
    (hR : R (.returned (.tuple #[.agg cs, a.tmps.getD u undef, a.tmps.getD v undef])) w) : bodyPost P fn R .ret a w := by
  have hp' : a.tmps[p]?.getD undef = .pointer (some ⟨g, 0, none⟩) := by simpa using hp
  refine bodyPost_ret (v := .tuple #[.agg cs, a.tmps.getD u undef, a.tmps.getD v undef]) ?_ hdf hR
  simp [results, h, hp', asAddr, run_load_blk hg hu hd hi]
end

/-! ### items -/
inductive It where
  | mk (list : Bool) (bytes : List UInt8) (items : List It)

def It.list : It → Bool | .mk l _ _ => l
def It.bytes : It → List UInt8 | .mk _ b _ => b
def It.items : It → List It | .mk _ _ l => l

mutual
/-- The cells cs read as an item, in blocks of S. -/
def ItR (S : Nat → Prop) (w : World) : It → List Value → Prop
  | .mk l b is, cs => ∃ A n c B m d, cs = [.bool l, .slice A n c, .slice B m d] ∧ Bs S w A n c b ∧ m = is.length ∧ m ≤ d ∧ m ≤ LIM ∧ d ≤ maxLen ∧ ItsR S w B 0 is
/-- The items from the i-th one on, of those that lie from B on. -/
def ItsR (S : Nat → Prop) (w : World) (B : Option Addr) : Nat → List It → Prop
  | _, [] => True
  | i, x :: xs => (∃ ad cs, B = some ad ∧ S ad.block ∧ (∀ j u, cs[j]? = some u → w.cell? (ad.add (i * 3 + j)) = some u) ∧ ItR S w x cs) ∧ ItsR S w B (i + 1) xs
end

mutual
theorem ItR.agree {S : Nat → Prop} {w w' : World} (ha : Agree S w w') : ∀ {x : It} {cs : List Value}, ItR S w x cs → ItR S w' x cs
  | .mk l b is, cs, h => by
    unfold ItR at h ⊢
    obtain ⟨A, n, c, B, m, d, h1, h2, h3, h4, h5, h6, h7⟩ := h
    exact ⟨A, n, c, B, m, d, h1, h2.agree ha, h3, h4, h5, h6, ItsR.agree ha h7⟩
theorem ItsR.agree {S : Nat → Prop} {w w' : World} (ha : Agree S w w') {B : Option Addr} : ∀ {i : Nat} {xs : List It}, ItsR S w B i xs → ItsR S w' B i xs
  | _, [], _ => by unfold ItsR; trivial
  | i, x :: xs, h => by
    unfold ItsR at h ⊢
    obtain ⟨⟨ad, cs, h1, h2, h3, h4⟩, h5⟩ := h
    exact ⟨⟨ad, cs, h1, h2, fun j u hu => ha.cell (by rw [block_add]; exact h2) (h3 j u hu), ItR.agree ha h4⟩, ItsR.agree ha h5⟩
end

mutual
theorem ItR.mono {S S' : Nat → Prop} {w : World} (hs : ∀ b, S b → S' b) : ∀ {x : It} {cs : List Value}, ItR S w x cs → ItR S' w x cs
  | .mk l b is, cs, h => by
    unfold ItR at h ⊢
    obtain ⟨A, n, c, B, m, d, h1, h2, h3, h4, h5, h6, h7⟩ := h
    exact ⟨A, n, c, B, m, d, h1, h2.mono hs, h3, h4, h5, h6, ItsR.mono hs h7⟩
theorem ItsR.mono {S S' : Nat → Prop} {w : World} (hs : ∀ b, S b → S' b) {B : Option Addr} : ∀ {i : Nat} {xs : List It}, ItsR S w B i xs → ItsR S' w B i xs
  | _, [], _ => by unfold ItsR; trivial
  | i, x :: xs, h => by
    unfold ItsR at h ⊢
    obtain ⟨⟨ad, cs, h1, h2, h3, h4⟩, h5⟩ := h
    exact ⟨⟨ad, cs, h1, hs _ h2, h3, ItR.mono hs h4⟩, ItsR.mono hs h5⟩
end

mutual
theorem ItR.here2 {S : Nat → Prop} {w : World} : ∀ {x : It} {cs : List Value}, ItR S w x cs → ItR (fun b => S b ∧ b < w.heap.size) w x cs
  | .mk l b is, cs, h => by
    unfold ItR at h ⊢
    obtain ⟨A, n, c, B, m, d, h1, h2, h3, h4, h5, h6, h7⟩ := h
    exact ⟨A, n, c, B, m, d, h1, h2.and h2.here, h3, h4, h5, h6, ItsR.here2 h7⟩
theorem ItsR.here2 {S : Nat → Prop} {w : World} {B : Option Addr} : ∀ {i : Nat} {xs : List It}, ItsR S w B i xs → ItsR (fun b => S b ∧ b < w.heap.size) w B i xs
  | _, [], _ => by unfold ItsR; trivial
  | i, x :: xs, h => by
    unfold ItsR at h ⊢
    obtain ⟨⟨ad, cs, h1, h2, h3, h4⟩, h5⟩ := h
    refine ⟨⟨ad, cs, h1, ⟨h2, ?_⟩, h3, ItR.here2 h4⟩, ItsR.here2 h5⟩
    rcases x with ⟨l, b, is⟩
    unfold ItR at h4
    obtain ⟨A, n, c, B, m, d, rfl, _⟩ := h4
    have := World.block_lt_of_cell? w _ (h3 0 _ rfl)
    rwa [block_add] at this
end
theorem ItR.here {S : Nat → Prop} {w : World} {x : It} {cs : List Value} (h : ItR S w x cs) : ItR (fun b => b < w.heap.size) w x cs := ItR.mono (fun _ h => h.2) h.here2

theorem ItR.below {S : Nat → Prop} {w w' : World} {x : It} {cs : List Value} (h : ItR S w x cs) (hb : Below w.heap.size w w') : ItR S w' x cs := ItR.agree (Agree.of_below hb S) h
theorem ItR.alloc {S : Nat → Prop} {w : World} {x : It} {cs : List Value} (h : ItR S w x cs) (o : Obj) : ItR S (w.alloc o) x cs := h.below ((Below.refl _ _).alloc (Nat.le_refl _) o)
theorem ItR.drew {S : Nat → Prop} {w : World} {x : It} {cs : List Value} (h : ItR S w x cs) : ItR S w.drew x cs := ItR.agree (w := w) (w' := w.drew) (fun _ _ _ => rfl) h
theorem ItsR.get {S : Nat → Prop} {w : World} {B : Option Addr} : ∀ {i : Nat} {xs : List It}, ItsR S w B i xs → ∀ k x, xs[k]? = some x →
    ∃ ad cs, B = some ad ∧ S ad.block ∧ (∀ j u, cs[j]? = some u → w.cell? (ad.add ((i + k) * 3 + j)) = some u) ∧ ItR S w x cs
  | _, [], _, k, x, hx => by simp at hx
  | i, y :: xs, h, 0, x, hx => by
    unfold ItsR at h
    simp at hx; subst hx
    simpa using h.1
  | i, y :: xs, h, k + 1, x, hx => by
    unfold ItsR at h
    have := ItsR.get h.2 k x (by simpa using hx)
    rwa [show i + 1 + k = i + (k + 1) from by omega] at this
theorem ItsR.mk_get {S : Nat → Prop} {w : World} {B : Option Addr} : ∀ {i : Nat} {xs : List It}, (∀ k x, xs[k]? = some x →
    ∃ ad cs, B = some ad ∧ S ad.block ∧ (∀ j u, cs[j]? = some u → w.cell? (ad.add ((i + k) * 3 + j)) = some u) ∧ ItR S w x cs) → ItsR S w B i xs
  | _, [], _ => by unfold ItsR; trivial
  | i, y :: xs, h => by
    unfold ItsR
    refine ⟨by simpa using h 0 y rfl, ItsR.mk_get fun k x hx => ?_⟩
    rw [show i + 1 + k = i + (k + 1) from by omega]
    exact h (k + 1) x (by simpa using hx)

/-- An item's parts. -/
theorem ItR.parts {S : Nat → Prop} {w : World} {x : It} {cs : List Value} (h : ItR S w x cs) : ∃ A n c B m d, cs = [.bool x.list, .slice A n c, .slice B m d] ∧ Bs S w A n c x.bytes ∧
    m = x.items.length ∧ m ≤ d ∧ m ≤ LIM ∧ d ≤ maxLen ∧ ItsR S w B 0 x.items := by
  rcases x with ⟨l, b, is⟩
  unfold ItR at h
  exact h
theorem ItR.of_parts {S : Nat → Prop} {w : World} {x : It} {A : Option Addr} {n c : Nat} {B : Option Addr} {m d : Nat} (h1 : Bs S w A n c x.bytes)
    (h2 : m = x.items.length) (h3 : m ≤ d) (h4 : m ≤ LIM) (h5 : d ≤ maxLen) (h6 : ItsR S w B 0 x.items) : ItR S w x [.bool x.list, .slice A n c, .slice B m d] := by
  rcases x with ⟨l, b, is⟩
  unfold ItR
  exact ⟨A, n, c, B, m, d, rfl, h1, h2, h3, h4, h5, h6⟩
/-- The k-th item of an item's, as the walk reads its three cells. -/
theorem ItsR.at {S : Nat → Prop} {w : World} {B : Option Addr} {xs : List It} (h : ItsR S w B 0 xs) {k : Nat} {x : It} (hk : xs[k]? = some x) :
    ∃ ad A n c B' m d, B = some ad ∧ S ad.block ∧ w.cell? (ad.add (k * 3)) = some (.bool x.list) ∧ w.cell? ⟨(ad.add (k * 3)).block, (ad.add (k * 3)).off + 1, none⟩ = some (.slice A n c) ∧
      w.cell? ⟨(ad.add (k * 3)).block, (ad.add (k * 3)).off + 2, none⟩ = some (.slice B' m d) ∧ ItR S w x [.bool x.list, .slice A n c, .slice B' m d] := by
  obtain ⟨ad, cs, e, hS, hc, hx⟩ := h.get k x hk
  obtain ⟨A, n, c, B', m, d, rfl, _⟩ := hx.parts
  rw [Nat.zero_add] at hc
  have ha : ∀ j, 0 < j → ad.add (k * 3 + j) = ⟨(ad.add (k * 3)).block, (ad.add (k * 3)).off + j, none⟩ := fun j hj => by
    rw [← add_add]; unfold Addr.add; split
    · omega
    · simp
  exact ⟨ad, A, n, c, B', m, d, e, hS, hc 0 _ rfl, by rw [← ha 1 (by omega)]; exact hc 1 _ rfl, by rw [← ha 2 (by omega)]; exact hc 2 _ rfl, hx⟩
theorem ItR.len3 {S : Nat → Prop} {w : World} {x : It} {cs : List Value} (h : ItR S w x cs) : cs.length = 3 := by
  obtain ⟨_, _, _, _, _, _, rfl, _⟩ := h.parts; rfl
theorem ItsR.of_reps {S : Nat → Prop} {w : World} {B : Option Addr} {is : List It} {xs : List Value} (hc : Cs S w B xs) (h : Reps (ItR S w) is xs) : ItsR S w B 0 is := by
  refine ItsR.mk_get fun k x hk => ?_
  obtain ⟨cs, h1, h2⟩ := h.get (s := 3) (fun _ _ h => h.len3) hk
  have h3 := h1.len3
  obtain ⟨ad, e, hS, _⟩ := hc (k * 3 + 0) (cs[0]'(by omega)) (h2 0 _ (List.getElem?_eq_getElem (by omega)))
  refine ⟨ad, cs, e, hS, fun j u hu => ?_, h1⟩
  obtain ⟨ad', e', _, hc'⟩ := hc (k * 3 + j) u (h2 j u hu)
  rw [e] at e'; injection e' with e'; subst e'
  rwa [Nat.zero_add]
/-- An item more, behind the append and the store of the slice into block gx. -/
theorem items_step {gx : Nat} {Wa w7 : World} {B A7 : Option Addr} {q q' c7 : Nat} {is : List It} {xs : List Value} {y : It} {ys : List Value}
    (h1 : Reps (ItR (fun k => gx < k ∧ some k ≠ (Value.slice B q q').ownBlock) Wa) is xs) (h2 : ItR (fun k => gx < k ∧ some k ≠ (Value.slice B q q').ownBlock) Wa y ys)
    (hg : Wa.grownBy w7 (Value.slice B q q').ownBlock) (hat : (Value.slice A7 (q + 1) c7).ownBlock = (Value.slice B q q').ownBlock ∨ (Value.slice A7 (q + 1) c7).ownBlock = some Wa.heap.size) (o : Nat) (u : Value) :
    Reps (ItR (fun k => gx < k ∧ some k ≠ (Value.slice A7 (q + 1) c7).ownBlock) (w7.setCell ⟨gx, o, none⟩ u)) (is ++ [y]) (xs ++ ys) := by
  have step : ∀ x cs, ItR (fun k => gx < k ∧ some k ≠ (Value.slice B q q').ownBlock) Wa x cs → ItR (fun k => gx < k ∧ some k ≠ (Value.slice A7 (q + 1) c7).ownBlock) (w7.setCell ⟨gx, o, none⟩ u) x cs := fun x cs h => by
    have h3 := ItR.agree (Agree.of_grown hg fun b hb => hb.1.2) h.here2
    have h4 : ItR (fun k => gx < k ∧ some k ≠ (Value.slice A7 (q + 1) c7).ownBlock) w7 x cs := by
      refine ItR.mono (fun k hk => ⟨hk.1.1, ?_⟩) h3
      rcases hat with e | e
      · rw [e]; exact hk.1.2
      · rw [e]; intro e2; injection e2 with e2; have := hk.2; omega
    exact ItR.agree (fun b hb _ => Below.heap_setCell w7 _ u b (fun e => by have := hb.1; simp at e; omega)) h4
  exact (h1.mono fun x cs _ h => step x cs h).snoc (step y ys h2)
end Go.Mo
