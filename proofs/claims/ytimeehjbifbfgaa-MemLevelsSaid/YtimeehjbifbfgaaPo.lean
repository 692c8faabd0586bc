/- Entries put one behind the other; levels. No program in sight. -/
import Derived.Test.YtimeehjbifbfgaaLb
namespace Go.Mo
open Go.RowKit
/-- An entry put. -/
def putOne (hs : List Int) (E : List En) (e : Ent) : List En := (putE hs E e.user e.seq e.kind e.value).2
/-- All of them. -/
def putsE (hs : List Int) (l : List Ent) : List En := l.foldl (putOne hs) []
theorem putsE_snoc (hs : List Int) {l : List Ent} {k : Nat} (hk : k < l.length) : putsE hs (l.take (k + 1)) = putOne hs (putsE hs (l.take k)) (l.getD k ent0) := by
  unfold putsE
  rw [List.take_add_one, List.foldl_append, List.getElem?_eq_getElem hk]
  simp [List.getD, hk]
theorem putE_len (hs : List Int) (E : List En) (u : List UInt8) (s : Nat) (k : Int) (v : List UInt8) : (putE hs E u s k v).2.length ≤ E.length + 1 := by
  unfold putE
  split
  · simp
  · split
    · simp
    · split
      · simp
      · simp [insE_len]
theorem sizeE_append (a b : List En) : sizeE (a ++ b) = sizeE a + sizeE b := by
  induction a with
  | nil => simp [sizeE]
  | cons d a ih => simp only [List.cons_append, sizeE, ih]; omega
theorem sizeE_ins (E : List En) (x : En) : sizeE (insE E x) = sizeE E + (x.1.length + x.2.1.length) := by
  unfold insE
  rw [sizeE_append]
  have : sizeE E = sizeE (E.take (posE E x.1)) + sizeE (E.drop (posE E x.1)) := by rw [← sizeE_append, List.take_append_drop]
  simp only [sizeE]; omega
theorem putE_size (hs : List Int) (E : List En) (u : List UInt8) (s : Nat) (k : Int) (v : List UInt8) : sizeE (putE hs E u s k v).2 ≤ sizeE E + 20000 := by
  unfold putE
  split
  · simp
  · split
    · simp
    · split
      · simp
      · rename_i h1 h2 h3
        rw [sizeE_ins]
        obtain ⟨hu, _, _, hk, _⟩ := keyI_ok (u := u) (s := s) (k := k) (by omega)
        rw [hk, keyB_len]
        show sizeE E + (u.length + 8 + v.length) ≤ _
        omega
theorem puts_ok (hs : List Int) (l : List Ent) : OrdE (putsE hs l) ∧ (putsE hs l).length ≤ l.length ∧ sizeE (putsE hs l) ≤ l.length * 20000 := by
  unfold putsE
  have : ∀ (l : List Ent) (E : List En), OrdE E → OrdE (l.foldl (putOne hs) E) ∧ (l.foldl (putOne hs) E).length ≤ E.length + l.length ∧ sizeE (l.foldl (putOne hs) E) ≤ sizeE E + l.length * 20000 := by
    intro l
    induction l with
    | nil => intro E h; exact ⟨h, by simp, by simp⟩
    | cons x l ih =>
      intro E h
      obtain ⟨h1, h2, h3⟩ := ih (putOne hs E x) (putE_ord h _ _ _ _)
      have h4 := putE_len hs E x.user x.seq x.kind x.value
      have h5 := putE_size hs E x.user x.seq x.kind x.value
      refine ⟨h1, Nat.le_trans h2 ?_, Nat.le_trans h3 ?_⟩
      · unfold putOne; simp; omega
      · unfold putOne; simp; omega
  have h := this l [] OrdE.nil
  simpa [sizeE] using h
/-- A level's entries. -/
def lev (E : List En) (i : Nat) : List En := E.filter fun e => decide (i < e.2.2)
theorem levelE_lev (E : List En) (i : Nat) : levelE E i = (lev E i).map (·.1) := rfl
theorem lev_ord {E : List En} (hE : OrdE E) (i : Nat) : OrdE (lev E i) :=
  ⟨fun e he => hE.hok e ((List.mem_filter.1 he).1), fun e he => hE.ok e ((List.mem_filter.1 he).1), hE.lt.filter _⟩
theorem lev_zero {E : List En} (hE : OrdE E) : (levelE E 0).length = E.length := by
  unfold levelE
  rw [List.length_map, List.filter_eq_self.2 fun e he => by have := (hE.hok e he).1; simp; omega]
theorem lev_sub {E : List En} {i : Nat} {e : En} (he : e ∈ lev E (i + 1)) : e ∈ lev E i := by
  unfold lev at *
  rw [List.mem_filter] at *
  exact ⟨he.1, by have := he.2; simp at this ⊢; omega⟩
theorem lev_len (E : List En) (i : Nat) : (levelE E i).length ≤ E.length := by unfold levelE; rw [List.length_map]; exact List.length_filter_le _ _
/-- Where the k-th key of a level stands in the level below. -/
def plc (E : List En) (i k : Nat) : Nat := posE (lev E i) ((levelE E (i + 1)).getD k [])
section
variable {E : List En} {i k : Nat}
theorem lev_at (hk : k < (levelE E (i + 1)).length) : ∃ e, (lev E (i + 1))[k]? = some e ∧ (levelE E (i + 1)).getD k [] = e.1 := by
  rw [levelE_lev, List.length_map] at hk
  refine ⟨(lev E (i + 1))[k], by simp, ?_⟩
  rw [levelE_lev, List.getD_eq_getElem?_getD, List.getElem?_map, List.getElem?_eq_getElem hk]; rfl
theorem plc_at (hE : OrdE E) (hk : k < (levelE E (i + 1)).length) : plc E i k < (levelE E i).length ∧ (levelE E i).getD (plc E i k) [] = (levelE E (i + 1)).getD k [] := by
  obtain ⟨e, he, hg⟩ := lev_at hk
  have hm := lev_sub (List.mem_of_getElem? he)
  have hok := (lev_ord hE (i + 1)).ok e (List.mem_of_getElem? he)
  obtain ⟨y, hy, hye⟩ := (posE_there (lev_ord hE i) hok).1 ⟨e, hm, rfl⟩
  unfold plc
  rw [hg]
  refine ⟨by rw [levelE_lev, List.length_map]; exact (List.getElem?_eq_some_iff.1 hy).1, ?_⟩
  rw [levelE_lev, List.getD_eq_getElem?_getD, List.getElem?_map, hy]
  exact hye
theorem plc_ne (hE : OrdE E) (hk : k < (levelE E (i + 1)).length) {j : Nat} (hj : j < plc E i k) : (levelE E i).getD j [] ≠ (levelE E (i + 1)).getD k [] := by
  have hp := (plc_at hE hk).1
  obtain ⟨e, he, hg⟩ := lev_at hk
  have hok := (lev_ord hE (i + 1)).ok e (List.mem_of_getElem? he)
  rw [levelE_lev, List.length_map] at hp
  obtain ⟨y, hy⟩ : ∃ y, (lev E i)[j]? = some y := ⟨(lev E i)[j]'(by omega), by simp⟩
  intro h
  have h1 := posE_lt hj hy
  rw [levelE_lev, List.getD_eq_getElem?_getD, List.getElem?_map, hy] at h
  rw [← h] at h1
  have : KOk y.1 := (lev_ord hE i).ok y (List.mem_of_getElem? hy)
  have := cmp_self this
  simp only [Option.map_some, Option.getD_some] at h1
  omega
theorem lev_rises (hE : OrdE E) (hk : k + 1 < (levelE E (i + 1)).length) : compareI ((levelE E (i + 1)).getD k []) ((levelE E (i + 1)).getD (k + 1) []) = (-1, 0) := by
  obtain ⟨e, he, hg⟩ := lev_at (k := k) (i := i) (E := E) (by omega)
  obtain ⟨f, hf, hgf⟩ := lev_at (k := k + 1) (i := i) (E := E) hk
  rw [hg, hgf]
  have ho := lev_ord hE (i + 1)
  have hlt := List.pairwise_iff_getElem.1 ho.lt k (k + 1) (List.getElem?_eq_some_iff.1 he).1 (List.getElem?_eq_some_iff.1 hf).1 (by omega)
  rw [(List.getElem?_eq_some_iff.1 he).2, (List.getElem?_eq_some_iff.1 hf).2] at hlt
  have h1 := cmp_ok (ho.ok e (List.mem_of_getElem? he)) (ho.ok f (List.mem_of_getElem? hf))
  have h2 := cmp_lt.1 hlt
  rw [h1] at h2 ⊢
  simp only at h2
  rw [h2]
theorem plc_mono (hE : OrdE E) (hk : k + 1 < (levelE E (i + 1)).length) : plc E i k ≤ plc E i (k + 1) := by
  rcases Nat.lt_or_ge (plc E i (k + 1)) (plc E i k) with h | h
  · exfalso
    have h1 := (plc_at hE hk).2
    have hp := (plc_at hE (k := k) (i := i) (by omega)).1
    have hp2 := (plc_at hE hk).1
    rw [levelE_lev, List.length_map] at hp2
    obtain ⟨y, hy⟩ : ∃ y, (lev E i)[plc E i (k + 1)]? = some y := ⟨(lev E i)[plc E i (k + 1)]'hp2, by simp⟩
    have h2 := posE_lt h hy
    rw [levelE_lev, List.getD_eq_getElem?_getD, List.getElem?_map, hy] at h1
    simp only [Option.map_some, Option.getD_some] at h1
    rw [h1] at h2
    have h3 := lev_rises hE hk
    have h4 := cmp_swap (a := (levelE E (i + 1)).getD k []) (b := (levelE E (i + 1)).getD (k + 1) [])
    rw [h3] at h4
    have h5 : -((-1, 0) : Int × Nat).1 = 1 := rfl
    rw [h5] at h4
    omega
  · exact h
end
end Go.Mo
