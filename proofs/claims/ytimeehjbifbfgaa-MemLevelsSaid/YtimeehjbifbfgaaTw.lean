/- A table of towers in memory: the head, the nodes, their links; what stands where. No program in sight. -/
import Derived.Test.YtimeehjbifbfgaaBlk
namespace Go.Mo
open Go.RowKit

/-- A node: where it lies, its entry, its tower's height. -/
structure Nd where
  g : Nat
  key : List UInt8
  value : List UInt8
  h : Nat

/-- A link. -/
def lnk : Option Nat → Value
  | none => .pointer none
  | some g => .pointer (some ⟨g, 0, none⟩)
/-- Twelve links. -/
def row12 (f : Nat → Value) : Array Value := #[f 0, f 1, f 2, f 3, f 4, f 5, f 6, f 7, f 8, f 9, f 10, f 11]
theorem row12_size (f : Nat → Value) : (row12 f).size = 12 := rfl
theorem row12_get (f : Nat → Value) {i : Nat} (h : i < 12) : (row12 f)[i]? = some (f i) := by
  match i, h with
  | 0, _ => rfl
  | 1, _ => rfl
  | 2, _ => rfl
  | 3, _ => rfl
  | 4, _ => rfl
  | 5, _ => rfl
  | 6, _ => rfl
  | 7, _ => rfl
  | 8, _ => rfl
  | 9, _ => rfl
  | 10, _ => rfl
  | 11, _ => rfl
/-- A node's cells. -/
def ndCells (k v : Value) (h : Nat) (f : Nat → Value) : Array Value := #[k, v, .int .i64 (h : Int), f 0, f 1, f 2, f 3, f 4, f 5, f 6, f 7, f 8, f 9, f 10, f 11]
/-- A table's cells. -/
def tbCells (hs : Value) (f : Nat → Value) (n size : Nat) : Array Value :=
  #[hs, .slice none 0 0, .slice none 0 0, .int .i64 0, f 0, f 1, f 2, f 3, f 4, f 5, f 6, f 7, f 8, f 9, f 10, f 11, .int .i64 (n : Int), .int .i64 (size : Int)]
theorem ndCells_get (k v : Value) (h : Nat) (f : Nat → Value) {i : Nat} (hi : i < 12) : (ndCells k v h f)[3 + i]? = some (f i) := by
  match i, hi with
  | 0, _ => rfl
  | 1, _ => rfl
  | 2, _ => rfl
  | 3, _ => rfl
  | 4, _ => rfl
  | 5, _ => rfl
  | 6, _ => rfl
  | 7, _ => rfl
  | 8, _ => rfl
  | 9, _ => rfl
  | 10, _ => rfl
  | 11, _ => rfl
theorem tbCells_get (hs : Value) (f : Nat → Value) (n size : Nat) {i : Nat} (hi : i < 12) : (tbCells hs f n size)[4 + i]? = some (f i) := by
  match i, hi with
  | 0, _ => rfl
  | 1, _ => rfl
  | 2, _ => rfl
  | 3, _ => rfl
  | 4, _ => rfl
  | 5, _ => rfl
  | 6, _ => rfl
  | 7, _ => rfl
  | 8, _ => rfl
  | 9, _ => rfl
  | 10, _ => rfl
  | 11, _ => rfl
/-- One link turned. -/
def upd (f : Nat → Value) (i : Nat) (u : Value) : Nat → Value := fun j => if j = i then u else f j
theorem ndCells_set (k v : Value) (h : Nat) (f : Nat → Value) {i : Nat} (hi : i < 12) (u : Value) : (ndCells k v h f).setIfInBounds (3 + i) u = ndCells k v h (upd f i u) := by
  match i, hi with
  | 0, _ => rfl
  | 1, _ => rfl
  | 2, _ => rfl
  | 3, _ => rfl
  | 4, _ => rfl
  | 5, _ => rfl
  | 6, _ => rfl
  | 7, _ => rfl
  | 8, _ => rfl
  | 9, _ => rfl
  | 10, _ => rfl
  | 11, _ => rfl
theorem tbCells_set (hs : Value) (f : Nat → Value) (n size : Nat) {i : Nat} (hi : i < 12) (u : Value) : (tbCells hs f n size).setIfInBounds (4 + i) u = tbCells hs (upd f i u) n size := by
  match i, hi with
  | 0, _ => rfl
  | 1, _ => rfl
  | 2, _ => rfl
  | 3, _ => rfl
  | 4, _ => rfl
  | 5, _ => rfl
  | 6, _ => rfl
  | 7, _ => rfl
  | 8, _ => rfl
  | 9, _ => rfl
  | 10, _ => rfl
  | 11, _ => rfl

/-! ### positions: 0 is the head, k + 1 the node k -/
/-- The first node from a place on that is higher than a level. -/
def nextAt (N : List Nd) (a i : Nat) : Option Nat := ((N.drop a).findIdx? fun d => decide (i < d.h)).map (a + ·)
/-- The last place that isn't behind p and is higher than a level. -/
def lastAt (N : List Nd) (i : Nat) : Nat → Nat
  | 0 => 0
  | p + 1 => match N[p]? with
    | some d => if i < d.h then p + 1 else lastAt N i p
    | none => lastAt N i p
theorem lastAt_le (N : List Nd) (i p : Nat) : lastAt N i p ≤ p := by
  induction p with
  | zero => exact Nat.le_refl _
  | succ p ih =>
    rw [lastAt]
    split
    · split
      · exact Nat.le_refl _
      · omega
    · omega
/-- A place's block. -/
def blkAt (t : Nat) (N : List Nd) : Nat → Nat
  | 0 => t
  | k + 1 => match N[k]? with
    | some d => d.g
    | none => 0
/-- A place's address: the head stands in the table. -/
def adr (t : Nat) (N : List Nd) : Nat → Addr
  | 0 => ⟨t, 1, none⟩
  | k + 1 => match N[k]? with
    | some d => ⟨d.g, 0, none⟩
    | none => ⟨0, 0, none⟩

/-- The towers in memory, all in blocks of F: lv: each place's links. -/
structure Tw (F : Nat → Prop) (w : World) (t : Nat) (hs : Value) (n size : Nat) (N : List Nd) (lv : Nat → Nat → Value) : Prop where
  ft : F t
  head : Blk w t 111 (tbCells hs (lv 0) n size)
  node : ∀ (k : Nat) (d : Nd), N[k]? = some d → ∃ A m c B q e, Blk w d.g 109 (ndCells (.slice A m c) (.slice B q e) d.h (lv (k + 1))) ∧
    Bs (fun b => F b ∧ b ≠ t ∧ ∀ x ∈ N, b ≠ x.g) w A m c d.key ∧ Bs (fun b => F b ∧ b ≠ t ∧ ∀ x ∈ N, b ≠ x.g) w B q e d.value
  apart : ∀ (k : Nat) (d : Nd), N[k]? = some d → F d.g ∧ d.g ≠ t ∧ ∀ (j : Nat) (x : Nd), N[j]? = some x → d.g = x.g → j = k
theorem Tw.agree {F : Nat → Prop} {w w' : World} {t : Nat} {hs : Value} {n size : Nat} {N : List Nd} {lv : Nat → Nat → Value} (h : Tw F w t hs n size N lv) (hb : Agree F w w') : Tw F w' t hs n size N lv :=
  ⟨h.ft, h.head.agree hb h.ft, fun k d hk => by
    obtain ⟨A, m, c, B, q, e, h1, h2, h3⟩ := h.node k d hk
    exact ⟨A, m, c, B, q, e, h1.agree hb (h.apart k d hk).1, h2.agree (hb.mono fun _ h => h.1), h3.agree (hb.mono fun _ h => h.1)⟩, h.apart⟩
theorem Tw.below {F : Nat → Prop} {w w' : World} {t : Nat} {hs : Value} {n size : Nat} {N : List Nd} {lv : Nat → Nat → Value} (h : Tw F w t hs n size N lv) (hb : Below w.heap.size w w') : Tw F w' t hs n size N lv :=
  h.agree (.of_below hb F)
theorem Tw.here {F : Nat → Prop} {w : World} {t : Nat} {hs : Value} {n size : Nat} {N : List Nd} {lv : Nat → Nat → Value} (h : Tw F w t hs n size N lv) : Tw (fun b => F b ∧ b < w.heap.size) w t hs n size N lv :=
  ⟨⟨h.ft, h.head.lt⟩, h.head, fun k d hk => by
    obtain ⟨A, m, c, B, q, e, h1, h2, h3⟩ := h.node k d hk
    exact ⟨A, m, c, B, q, e, h1, (h2.and h2.here).mono fun b hb => ⟨⟨hb.1.1, hb.2⟩, hb.1.2⟩, (h3.and h3.here).mono fun b hb => ⟨⟨hb.1.1, hb.2⟩, hb.1.2⟩⟩,
    fun k d hk => by
      obtain ⟨A, m, c, B, q, e, h1, _⟩ := h.node k d hk
      exact ⟨⟨(h.apart k d hk).1, h1.lt⟩, (h.apart k d hk).2⟩⟩
theorem Tw.mono {F F' : Nat → Prop} {w : World} {t : Nat} {hs : Value} {n size : Nat} {N : List Nd} {lv : Nat → Nat → Value} (h : Tw F w t hs n size N lv) (hF : ∀ b, F b → F' b) : Tw F' w t hs n size N lv :=
  ⟨hF _ h.ft, h.head, fun k d hk => by
    obtain ⟨A, m, c, B, q, e, h1, h2, h3⟩ := h.node k d hk
    exact ⟨A, m, c, B, q, e, h1, h2.mono fun b hb => ⟨hF _ hb.1, hb.2⟩, h3.mono fun b hb => ⟨hF _ hb.1, hb.2⟩⟩,
    fun k d hk => ⟨hF _ (h.apart k d hk).1, (h.apart k d hk).2⟩⟩
/-- Is a place's tower higher than a level? -/
def isHi (N : List Nd) : Nat → Nat → Bool
  | 0, _ => true
  | k + 1, i => match N[k]? with
    | some d => decide (i < d.h)
    | none => false
/-- The links of a table in order. -/
def lvIn (N : List Nd) (a i : Nat) : Value := if isHi N a i then lnk ((nextAt N a i).bind fun k => (N[k]?).map (·.g)) else .pointer none
/-- A table in order: of n entries of so many bytes. -/
def TwIn (F : Nat → Prop) (w : World) (t : Nat) (hs : Value) (n size : Nat) (N : List Nd) : Prop := Tw F w t hs n size N (lvIn N)
theorem lastAt_hi (N : List Nd) (i p : Nat) : isHi N (lastAt N i p) i = true := by
  induction p with
  | zero => rfl
  | succ p ih =>
    rw [lastAt]
    cases h : N[p]? with
    | none => exact ih
    | some d =>
      simp only
      split
      · simp only [isHi, h]; simpa
      · exact ih
/-- From a higher level's last place on, one walks to the last place of a level. -/
theorem lastAt_mono (N : List Nd) (i p : Nat) : lastAt N (i + 1) p ≤ lastAt N i p := by
  induction p with
  | zero => exact Nat.le_refl _
  | succ p ih =>
    rw [lastAt, lastAt]
    cases h : N[p]? with
    | none => exact ih
    | some d =>
      simp only
      split
      · rw [if_pos (by omega)]; exact Nat.le_refl _
      · split
        · have := lastAt_le N (i + 1) p; omega
        · exact ih
theorem nextAt_some {N : List Nd} {a i k : Nat} (h : nextAt N a i = some k) : a ≤ k ∧ ∃ d, N[k]? = some d ∧ i < d.h ∧ ∀ (j : Nat) (x : Nd), a ≤ j → j < k → N[j]? = some x → ¬ i < x.h := by
  unfold nextAt at h
  rw [Option.map_eq_some_iff] at h
  obtain ⟨m, hm, rfl⟩ := h
  rw [List.findIdx?_eq_some_iff_getElem] at hm
  obtain ⟨hl, h1, h2⟩ := hm
  rw [List.length_drop] at hl
  refine ⟨by omega, N[a + m], by simp, by simpa using h1, fun j x hj hk hx hi => ?_⟩
  have := h2 (j - a) (by omega)
  rw [List.getElem_drop] at this
  rw [List.getElem?_eq_some_iff] at hx
  obtain ⟨hxl, rfl⟩ := hx
  simp [show a + (j - a) = j from by omega, hi] at this
theorem nextAt_none {N : List Nd} {a i : Nat} (h : nextAt N a i = none) : ∀ (j : Nat) (x : Nd), a ≤ j → N[j]? = some x → ¬ i < x.h := by
  intro j x hj hx hi
  unfold nextAt at h
  rw [Option.map_eq_none_iff, List.findIdx?_eq_none_iff] at h
  have := h x (by
    rw [List.mem_iff_getElem?]
    exact ⟨j - a, by rw [List.getElem?_drop, show a + (j - a) = j from by omega]; exact hx⟩)
  simp [hi] at this
/-- No place behind a, up to p, is higher: a is the last one. -/
theorem lastAt_eq {N : List Nd} {i a : Nat} (ha : isHi N a i = true) : ∀ {p : Nat}, a ≤ p → (∀ (j : Nat) (x : Nd), a ≤ j → j < p → N[j]? = some x → ¬ i < x.h) → lastAt N i p = a := by
  intro p
  induction p with
  | zero => intro h _; have : a = 0 := by omega
            rw [lastAt, this]
  | succ p ih =>
    intro h hx
    rw [lastAt]
    by_cases hap : a = p + 1
    · subst hap
      simp only [isHi] at ha
      cases hp : N[p]? with
      | none => rw [hp] at ha; simp at ha
      | some d => rw [hp] at ha; simp at ha; simp [ha]
    · have ih' := ih (by omega) (fun j x hj hjp => hx j x hj (by omega))
      cases hp : N[p]? with
      | none => exact ih'
      | some d =>
        have := hx p d (by omega) (by omega) hp
        simp [this, ih']
theorem adr_form (t : Nat) (N : List Nd) (a : Nat) : ∃ B O, adr t N a = ⟨B, O, none⟩ ∧ O ≤ 1 := by
  cases a with
  | zero => exact ⟨t, 1, rfl, Nat.le_refl _⟩
  | succ k =>
    simp only [adr]
    cases N[k]? with
    | none => exact ⟨0, 0, rfl, Nat.zero_le _⟩
    | some d => exact ⟨d.g, 0, rfl, Nat.zero_le _⟩
theorem add_off (B O i : Nat) : (⟨B, O, none⟩ : Addr).add i = ⟨B, O + i, none⟩ := by
  unfold Addr.add; split
  · rename_i h; subst h; rfl
  · rfl
/-- A place's link, as the walk reads it. -/
theorem Tw.link {F : Nat → Prop} {w : World} {t : Nat} {hs : Value} {n size : Nat} {N : List Nd} {lv : Nat → Nat → Value} (h : Tw F w t hs n size N lv) {a i : Nat} (ha : a ≤ N.length) (hi : i < 12) {B O : Nat} (e : adr t N a = ⟨B, O, none⟩) :
    w.cell? ⟨B, O + 3 + i, none⟩ = some (lv a i) := by
  cases a with
  | zero =>
    simp only [adr] at e
    injection e with e1 e2
    subst e1; subst e2
    rw [h.head.cell, show 1 + 3 + i = 4 + i from by omega]
    exact tbCells_get _ _ _ _ hi
  | succ k =>
    obtain ⟨d, hd⟩ : ∃ d, N[k]? = some d := ⟨N[k]'(by omega), by simp⟩
    simp only [adr, hd] at e
    injection e with e1 e2
    subst e1; subst e2
    obtain ⟨A, m, c, B, q, e, h1, _⟩ := h.node k d hd
    rw [h1.cell, show 0 + 3 + i = 3 + i from by omega]
    exact ndCells_get _ _ _ _ hi
theorem isHi_pred {N : List Nd} {a i : Nat} (h : isHi N a i = true) : isHi N a (i - 1) = true := by
  cases a with
  | zero => rfl
  | succ k =>
    simp only [isHi] at h ⊢
    cases hk : N[k]? with
    | none => rw [hk] at h; simp at h
    | some d => rw [hk] at h; simp at h ⊢; omega
theorem row12_set (f : Nat → Value) {i : Nat} (hi : i < 12) (u : Value) : (row12 f).setIfInBounds i u = row12 (upd f i u) := by
  match i, hi with
  | 0, _ => rfl
  | 1, _ => rfl
  | 2, _ => rfl
  | 3, _ => rfl
  | 4, _ => rfl
  | 5, _ => rfl
  | 6, _ => rfl
  | 7, _ => rfl
  | 8, _ => rfl
  | 9, _ => rfl
  | 10, _ => rfl
  | 11, _ => rfl
/-- Heights that can be. -/
def HOk (N : List Nd) : Prop := ∀ (k : Nat) (d : Nd), N[k]? = some d → 1 ≤ d.h ∧ d.h ≤ 12
theorem lastAt_zero {N : List Nd} (hh : HOk N) : ∀ {p : Nat}, p ≤ N.length → lastAt N 0 p = p
  | 0, _ => rfl
  | p + 1, hp => by
    rw [lastAt]
    have hd : N[p]? = some (N[p]'(by omega)) := by simp
    rw [hd]
    simp only
    rw [if_pos (by have := (hh p _ hd).1; omega)]
theorem nextAt_zero {N : List Nd} (hh : HOk N) {p : Nat} : nextAt N p 0 = if p < N.length then some p else none := by
  split
  · rename_i h
    cases hn : nextAt N p 0 with
    | none =>
      have hd : N[p]? = some N[p] := by simp
      have := nextAt_none hn p _ (Nat.le_refl _) hd
      have := (hh p _ hd).1
      omega
    | some k =>
      obtain ⟨h1, d, h2, h3, h4⟩ := nextAt_some hn
      have hd : N[p]? = some N[p] := by simp
      by_cases hk : p < k
      · have := h4 p _ (Nat.le_refl _) hk hd
        have := (hh p _ hd).1
        omega
      · have : k = p := by omega
        rw [this]
  · rename_i h
    unfold nextAt
    rw [List.drop_of_length_le (by omega)]
    rfl
theorem isHi_zero {N : List Nd} (hh : HOk N) {p : Nat} (hp : p ≤ N.length) : isHi N p 0 = true := by
  have := lastAt_hi N 0 p
  rwa [lastAt_zero hh hp] at this
theorem lvIn_zero {N : List Nd} (hh : HOk N) {p : Nat} (hp : p ≤ N.length) : lvIn N p 0 = lnk ((N[p]?).map (·.g)) := by
  unfold lvIn
  rw [if_pos (isHi_zero hh hp), nextAt_zero hh]
  split
  · rfl
  · rename_i h
    rw [List.getElem?_eq_none (by omega)]; rfl
end Go.Mo
