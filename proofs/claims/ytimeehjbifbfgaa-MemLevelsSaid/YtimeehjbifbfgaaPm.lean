/- A table's entries: put, got. No program in sight. -/
import Derived.Test.YtimeehjbifbfgaaPl
namespace Go.Mo

/-- An entry: its key, its value, its tower's height. -/
abbrev En := List UInt8 × List UInt8 × Nat
/-- How many entries stand ahead of a key. -/
def posE (E : List En) (key : List UInt8) : Nat := (E.takeWhile fun e => decide ((compareI e.1 key).1 < 0)).length
structure OrdE (E : List En) : Prop where
  hok : ∀ e ∈ E, 1 ≤ e.2.2 ∧ e.2.2 ≤ 12
  ok : ∀ e ∈ E, KOk e.1
  lt : E.Pairwise fun x y => (compareI x.1 y.1).1 < 0
theorem OrdE.nil : OrdE [] := ⟨by simp, by simp, List.Pairwise.nil⟩
theorem posE_le (E : List En) (key : List UInt8) : posE E key ≤ E.length := (List.takeWhile_sublist _).length_le
theorem posE_take (E : List En) (key : List UInt8) : E.take (posE E key) = E.takeWhile fun e => decide ((compareI e.1 key).1 < 0) := by
  unfold posE
  conv => lhs; arg 2; rw [← List.takeWhile_append_dropWhile (p := fun e => decide ((compareI e.1 key).1 < 0)) (l := E)]
  rw [List.take_left]
theorem posE_drop (E : List En) (key : List UInt8) : E.drop (posE E key) = E.dropWhile fun e => decide ((compareI e.1 key).1 < 0) := by
  unfold posE
  conv => lhs; arg 2; rw [← List.takeWhile_append_dropWhile (p := fun e => decide ((compareI e.1 key).1 < 0)) (l := E)]
  rw [List.drop_left]
theorem takeWhile_all {α : Type} {p : α → Bool} : ∀ {l : List α} {x : α}, x ∈ l.takeWhile p → p x = true
  | y :: l, x, h => by
    rw [List.takeWhile_cons] at h
    split at h
    · rename_i hy
      rcases List.mem_cons.1 h with rfl | h
      · exact hy
      · exact takeWhile_all h
    · cases h
theorem posE_lt {E : List En} {key : List UInt8} {k : Nat} {e : En} (hk : k < posE E key) (he : E[k]? = some e) : (compareI e.1 key).1 < 0 := by
  have : e ∈ E.take (posE E key) := by
    rw [List.mem_iff_getElem?]
    exact ⟨k, by rw [List.getElem?_take_of_lt hk]; exact he⟩
  rw [posE_take] at this
  simpa using takeWhile_all this
theorem dropWhile_head {α : Type} {p : α → Bool} : ∀ {l : List α} {x : α} {xs : List α}, l.dropWhile p = x :: xs → p x = false
  | y :: l, x, xs, h => by
    rw [List.dropWhile_cons] at h
    split at h
    · exact dropWhile_head h
    · rename_i hy
      injection h with h _
      subst h; simpa using hy
theorem posE_ge {E : List En} (hE : OrdE E) {key : List UInt8} (hkey : KOk key) {k : Nat} {e : En} (hk : posE E key ≤ k) (he : E[k]? = some e) : 0 ≤ (compareI e.1 key).1 := by
  have h1 : (E.drop (posE E key))[k - posE E key]? = some e := by rw [List.getElem?_drop, show posE E key + (k - posE E key) = k from by omega]; exact he
  have hp : (E.drop (posE E key)).Pairwise fun x y => (compareI x.1 y.1).1 < 0 := hE.lt.drop
  have hmem : ∀ x ∈ E.drop (posE E key), KOk x.1 := fun x hx => hE.ok x (List.mem_of_mem_drop hx)
  cases hd : E.drop (posE E key) with
  | nil => rw [hd] at h1; simp at h1
  | cons y ys =>
    rw [hd] at h1 hp hmem
    have hy : 0 ≤ (compareI y.1 key).1 := by
      rw [posE_drop] at hd
      have := dropWhile_head hd
      simpa using this
    rcases Nat.eq_zero_or_pos (k - posE E key) with h0 | h0
    · rw [h0] at h1; simp at h1; subst h1; exact hy
    · have hm : e ∈ ys := by
        rw [List.mem_iff_getElem?]
        refine ⟨k - posE E key - 1, ?_⟩
        rw [← h1, show k - posE E key = (k - posE E key - 1) + 1 from by omega, List.getElem?_cons_succ]
        rfl
      have hye := List.rel_of_pairwise_cons hp hm
      rcases cmp_three e.1 key with h | h | h
      · exfalso
        have := cmp_trans (hmem y (by simp)) (hmem e (by simp [hm])) hkey hye (by rw [h]; decide)
        omega
      · omega
      · omega
/-- An entry put in. -/
def insE (E : List En) (x : En) : List En := E.take (posE E x.1) ++ x :: E.drop (posE E x.1)
theorem insE_len (E : List En) (x : En) : (insE E x).length = E.length + 1 := by
  have := posE_le E x.1
  unfold insE; simp; omega
theorem insE_mem {E : List En} {x y : En} : y ∈ insE E x ↔ y = x ∨ y ∈ E := by
  unfold insE
  rw [List.mem_append, List.mem_cons]
  constructor
  · rintro (h | h | h)
    · exact .inr (List.mem_of_mem_take h)
    · exact .inl h
    · exact .inr (List.mem_of_mem_drop h)
  · rintro (h | h)
    · exact .inr (.inl h)
    · rw [← List.take_append_drop (posE E x.1) E, List.mem_append] at h
      rcases h with h | h
      · exact .inl h
      · exact .inr (.inr h)
theorem OrdE.ins {E : List En} (hE : OrdE E) {x : En} (hx : KOk x.1) (hh : 1 ≤ x.2.2 ∧ x.2.2 ≤ 12) (hno : ∀ e ∈ E, e.1 ≠ x.1) : OrdE (insE E x) := by
  refine ⟨fun e he => ?_, fun e he => ?_, ?_⟩
  · rcases insE_mem.1 he with rfl | he
    · exact hh
    · exact hE.hok e he
  · rcases insE_mem.1 he with rfl | he
    · exact hx
    · exact hE.ok e he
  · unfold insE
    have hlt : ∀ e ∈ E.take (posE E x.1), (compareI e.1 x.1).1 < 0 := fun e he => by
      rw [posE_take] at he
      simpa using takeWhile_all he
    have hge : ∀ e ∈ E.drop (posE E x.1), (compareI x.1 e.1).1 < 0 := fun e he => by
      have heE := List.mem_of_mem_drop he
      obtain ⟨j, hj⟩ := List.mem_iff_getElem?.1 he
      rw [List.getElem?_drop] at hj
      have h1 := posE_ge hE hx (by omega) hj
      have h2 : (compareI e.1 x.1).1 ≠ 0 := fun h => hno e heE (cmp_eq0 (hE.ok e heE) hx h)
      rw [cmp_swap (a := e.1)]; omega
    have hp := hE.lt
    rw [← List.take_append_drop (posE E x.1) E, List.pairwise_append] at hp
    rw [List.pairwise_append]
    refine ⟨hp.1, List.pairwise_cons.2 ⟨fun e he => hge e he, hp.2.1⟩, fun a ha b hb => ?_⟩
    rcases List.mem_cons.1 hb with rfl | hb
    · exact hlt a ha
    · exact hp.2.2 a ha b hb
/-- Is the key there? -/
theorem posE_there {E : List En} (hE : OrdE E) {key : List UInt8} (hkey : KOk key) : (∃ e ∈ E, e.1 = key) ↔ ∃ e, E[posE E key]? = some e ∧ e.1 = key := by
  constructor
  · rintro ⟨e, he, rfl⟩
    obtain ⟨j, hj⟩ := List.mem_iff_getElem?.1 he
    have hself := cmp_self hkey
    have hjp : posE E e.1 ≤ j := by
      rcases Nat.lt_or_ge j (posE E e.1) with h | h
      · have := posE_lt h hj; omega
      · exact h
    have hjl : j < E.length := (List.getElem?_eq_some_iff.1 hj).1
    rcases Nat.eq_or_lt_of_le hjp with h | h
    · exact ⟨e, by rw [h]; exact hj, rfl⟩
    · exfalso
      obtain ⟨y, hy⟩ : ∃ y, E[posE E e.1]? = some y := ⟨E[posE E e.1]'(by omega), by simp⟩
      have h1 := posE_ge hE hkey (Nat.le_refl _) hy
      have h2 : (compareI y.1 e.1).1 < 0 := by
        have := List.pairwise_iff_getElem.1 hE.lt (posE E e.1) j (by omega) hjl h
        rw [List.getElem?_eq_some_iff] at hy hj
        obtain ⟨_, rfl⟩ := hy
        obtain ⟨_, hj⟩ := hj
        rw [hj] at this
        exact this
      omega
  · rintro ⟨e, he, rfl⟩
    exact ⟨e, List.mem_of_getElem? he, rfl⟩
end Go.Mo
