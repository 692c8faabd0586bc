/- What is handed in, read as bytes, as lists of things. No program in sight. -/
import Derived.Test.YtimeehjbifbfgaaAs
import Derived.ChangeSlices
import Derived.ChangeArms
import Derived.DataReads
import Derived.SizedLaws
import Derived.OpenShut
import Derived.Deep.Strs
import Derived.Deep.Slices
namespace Go.Mo
open Go.RowKit Go.ChangeShapes Go.WideShapes
set_option linter.unusedVariables false
section
variable {H : Type} {enc : TypeId × Value → H} {P : Program} {w : World}

/-- A reading that is within reach. -/
def Fits (P : Program) (t : TypeId) (d : DataW H) : Prop := (DataW.weights P t d).all (· ≤ reachBytes) = true
theorem Fits.slice {t e : TypeId} {elems spare : List (DataW H)} (ht : P.underlying t = some (.slice e)) (h : Fits P t (.slice elems spare)) :
    (elems.length + spare.length) * P.bytesOf e ≤ 140737488351232 ∧ (DataW.weightsAll P e elems).all (· ≤ reachBytes) = true := by
  unfold Fits at h
  rw [DataW.weights, ht] at h
  simp only [List.all_cons, List.all_append, Bool.and_eq_true, decide_eq_true_eq] at h
  exact ⟨h.1, h.2.1⟩
theorem fits_of_all {e : TypeId} : ∀ {ds : List (DataW H)}, (DataW.weightsAll P e ds).all (· ≤ reachBytes) = true → ∀ {i : Nat} {d : DataW H}, ds[i]? = some d → Fits P e d
  | [], _, i, d, hd => by simp at hd
  | x :: r, h, i, d, hd => by
    rw [DataW.weightsAll, List.all_append, Bool.and_eq_true] at h
    cases i with
    | zero => simp at hd; subst hd; exact h.1
    | succ i => exact fits_of_all h.2 (by simpa using hd)
theorem fits_of_each : ∀ {ts : List TypeId} {ds : List (DataW H)}, (DataW.weightsEach P ts ds).all (· ≤ reachBytes) = true → ∀ {i : Nat} {t : TypeId} {d : DataW H}, ts[i]? = some t → ds[i]? = some d → Fits P t d
  | [], _, _, i, t, d, ht, _ => by simp at ht
  | _ :: _, [], _, i, t, d, _, hd => by simp at hd
  | t' :: ts, x :: r, h, i, t, d, ht, hd => by
    rw [DataW.weightsEach, List.all_append, Bool.and_eq_true] at h
    cases i with
    | zero => simp at hd ht; subst hd; subst ht; exact h.1
    | succ i => exact fits_of_each h.2 (by simpa using ht) (by simpa using hd)
theorem Fits.agg {t : TypeId} {fs : Array Field} {parts : List (DataW H)} (ht : P.underlying t = some (.struct fs)) (h : Fits P t (.agg parts)) {i : Nat} {f : Field} {d : DataW H}
    (hf : fs[i]? = some f) (hd : parts[i]? = some d) : Fits P f.type d := by
  unfold Fits at h
  rw [DataW.weights, ht] at h
  refine fits_of_each h (i := i) ?_ hd
  simp [hf]
theorem wf_u8 {z : Int} (h : (Lit.int .u8 z).wf = true) : 0 ≤ z ∧ z ≤ 255 := by
  unfold Lit.wf at h
  rw [Bool.and_eq_true, decide_eq_true_eq, decide_eq_true_eq] at h
  exact h
theorem open_bs {t : TypeId} (ht : P.underlying t = some (.slice 5)) (he : P.underlying 5 = some (.int .u8)) (hc : P.cellsOf 5 = 1) (hb : P.bytesOf 5 = 1) {fuel : Nat} {v : Value} {x : DataW H × List MemPlace}
    (h : DataW.trod enc P w 0 (fun _ => true) true fuel t [v] = some x) (hf : Fits P t x.1) : ∃ A n c l, v = .slice A n c ∧ Bs (fun _ => True) w A n c l := by
  rcases open_ints ht he hc h with ⟨hcs, _⟩ | ⟨ad, len, cap, zs, hcs, _, hl, hm, hz, rfl, hcell, hwz⟩
  · injection hcs with hcs _
    exact ⟨none, 0, 0, [], hcs, rfl, Nat.le_refl _, Nat.zero_le _, Nat.zero_le _, fun j u hj => by simp at hj⟩
  · injection hcs with hcs _
    rw [if_pos rfl] at hz
    obtain ⟨h1, _⟩ := hf.slice ht
    have hll : (lits (H := H) .u8 (zs.take len)).length + (lits (H := H) .u8 (zs.drop len)).length = zs.length := by simp [lits]; omega
    rw [hll, hb] at h1
    refine ⟨some ad, len, cap, (zs.take len).map fun z => UInt8.ofNat z.toNat, hcs, by simp; omega, hl, by unfold LIM; omega, hm, fun j u hj => ⟨ad, rfl, trivial, ?_⟩⟩
    simp only [List.map_map, List.getElem?_map] at hj
    have hjl : j < len := by
      rcases Nat.lt_or_ge j len with h | h
      · exact h
      · rw [List.getElem?_eq_none (by simp; omega)] at hj; simp at hj
    have hjz : j < zs.length := by omega
    rw [List.getElem?_take_of_lt hjl, List.getElem?_eq_getElem hjz] at hj
    simp only [Option.map_some, Option.some.injEq, Function.comp] at hj
    rw [← hj, hcell j hjz]
    have hg : zs.getD j 0 = zs[j] := by simp [List.getD, hjz]
    rw [hg]
    have hw := hwz zs[j] (List.getElem_mem hjz)
    have h2 := wf_u8 hw
    unfold u8
    congr 2
    simp
    omega

/-- What is read of a type reads as a thing. -/
def Opens (enc : TypeId × Value → H) (P : Program) (w : World) (t : TypeId) {α : Type} (r : Rep α) : Prop :=
  ∀ (fuel : Nat) (cs : List Value) (x : DataW H × List MemPlace), DataW.trod enc P w 0 (fun _ => true) true fuel t cs = some x → Fits P t x.1 → ∃ a, r.R (fun _ => True) w a cs
theorem opens_b {t : TypeId} (ht : P.underlying t = some (.slice 5)) (he : P.underlying 5 = some (.int .u8)) (hc : P.cellsOf 5 = 1) (hb : P.bytesOf 5 = 1) : Opens enc P w t repB := by
  intro fuel cs x h hf
  have : ∃ v, cs = [v] := by
    rcases DataW.trod_slice ht h with ⟨hcs, _⟩ | ⟨ad, len, cap, elems, rest, k, _, hcs, _⟩
    · exact ⟨_, hcs⟩
    · exact ⟨_, hcs⟩
  obtain ⟨v, rfl⟩ := this
  obtain ⟨A, n, c, l, rfl, hb⟩ := open_bs ht he hc hb h hf
  exact ⟨l, A, n, c, rfl, hb⟩
theorem reps_get {α : Type} {R : α → List Value → Prop} : ∀ {l : List α} {css : List (List Value)}, l.length = css.length → (∀ (k : Nat) (x : α) (cs : List Value), l[k]? = some x → css[k]? = some cs → R x cs) → Reps R l css.flatten
  | [], [], _, _ => rfl
  | x :: l, cs :: css, hl, h => ⟨cs, css.flatten, by simp, h 0 x cs rfl rfl, reps_get (by simpa using hl) fun k x cs h1 h2 => h (k + 1) x cs (by simpa using h1) (by simpa using h2)⟩
theorem opens_slice {t e : TypeId} {α : Type} [Inhabited α] {r : Rep α} (ht : P.underlying t = some (.slice e)) (hc : P.cellsOf e = r.size) (hb : 1 ≤ P.bytesOf e) (h0 : Opens enc P w e r) : Opens enc P w t (repL r) := by
  intro fuel cs x h hf
  rcases DataW.trod_slice ht h with ⟨hcs, _⟩ | ⟨ad, len, cap, elems, rest, k, rfl, hcs, rfl, _, hl, hm, hlen, hev, hsp, _⟩
  · exact ⟨[], none, 0, 0, hcs, Ar.empty _ _ _⟩
  · obtain ⟨g1, g2⟩ := Fits.slice ht hf
    have hrl : rest.length = cap - len := (hsp rfl).1
    rw [List.length_map, List.length_map, hlen, hrl] at g1
    have hcap : cap ≤ 140737488351232 := by
      have := Nat.le_mul_of_pos_right (len + (cap - len)) hb
      omega
    have key : ∀ i, i < len → ∃ p : α × List Value, r.R (fun _ => True) w p.1 p.2 ∧ ∀ j u, p.2[j]? = some u → w.cell? (ad.add (i * r.size + j)) = some u := fun i hi => by
      have e1 := hev i hi
      rw [List.getElem?_eq_getElem (by omega)] at e1
      obtain ⟨cs', c1, c2⟩ := Option.bind_eq_some_iff.1 e1
      rw [hc] at c1
      obtain ⟨c5, c3, c4⟩ := World.cells?_some c1
      obtain ⟨a, ha⟩ := h0 k cs' _ c2 (fits_of_all g2 (i := i) (by simp [List.getElem?_eq_getElem (show i < elems.length by omega)]))
      refine ⟨(a, cs'), ha, fun j u hj => ?_⟩
      have hjr : j < r.size := by
        rcases Nat.lt_or_ge j r.size with h | h
        · exact h
        · rw [List.getElem?_eq_none (by rw [r.len ha]; exact h)] at hj; simp at hj
      have := c4 j hjr
      rw [Go.Deep.add_add] at this
      rw [this]; exact hj
    obtain ⟨ps, hps⟩ := Go.Deep.choose_lt (α := α × List Value) (p := fun i p => r.R (fun _ => True) w p.1 p.2 ∧ ∀ j u, p.2[j]? = some u → w.cell? (ad.add (i * r.size + j)) = some u) key
    refine ⟨(List.range len).map fun i => (ps i).1, some ad, len, cap, hcs, by simp, hl, by unfold LIM; omega, hm, ((List.range len).map fun i => (ps i).2).flatten, ?_, reps_get (by simp) ?_⟩
    · intro j u hu
      refine ⟨ad, rfl, trivial, ?_⟩
      have hflat : ∀ (m : Nat) (f : Nat → List Value) (g : Nat → α), (∀ i, i < m → r.R (fun _ => True) w (g i) (f i)) → ∀ j u, (((List.range m).map f).flatten)[j]? = some u → ∃ i k, i < m ∧ j = i * r.size + k ∧ (f i)[k]? = some u := by
        intro m f g
        induction m with
        | zero => intro _ j u hu; simp at hu
        | succ m ih =>
          intro hR j u hu
          rw [List.range_succ, List.map_append, List.flatten_append] at hu
          have hlen' : (((List.range m).map f).flatten).length = m * r.size := by
            clear hu ih
            induction m with
            | zero => simp
            | succ m ih2 =>
              rw [List.range_succ, List.map_append, List.flatten_append, List.length_append, ih2 (fun i hi => hR i (by omega))]
              simp [r.len (hR m (by omega)), Nat.add_mul]
          rcases Nat.lt_or_ge j (m * r.size) with h | h
          · rw [List.getElem?_append_left (by omega)] at hu
            obtain ⟨i, k, h1, h2, h3⟩ := ih (fun i hi => hR i (by omega)) j u hu
            exact ⟨i, k, by omega, h2, h3⟩
          · rw [List.getElem?_append_right (by omega), hlen'] at hu
            exact ⟨m, j - m * r.size, by omega, by omega, by simpa using hu⟩
      obtain ⟨i, k', h1, rfl, h3⟩ := hflat len (fun i => (ps i).2) (fun i => (ps i).1) (fun i hi => (hps i hi).1) j u hu
      exact (hps i h1).2 k' u h3
    · intro i x cs hx hcs'
      have hil : i < len := by
        rcases Nat.lt_or_ge i len with h | h
        · exact h
        · rw [List.getElem?_eq_none (by simpa using h)] at hx; simp at hx
      rw [List.getElem?_map, List.getElem?_range hil] at hx hcs'
      simp at hx hcs'
      subst hx; subst hcs'
      exact (hps i hil).1
/-- A whole number's cell. -/
theorem trod_int {k : IntKind} {t : TypeId} (ht : P.underlying t = some (.int k)) {fuel : Nat} {v : Value} {x : DataW H × List MemPlace} (h : DataW.trod enc P w 0 (fun _ => true) true fuel t [v] = some x) : ∃ n, v = .int k n ∧ (Lit.int k n).wf = true := by
  cases fuel with
  | zero => simp [DataW.trod] at h
  | succ n =>
    unfold DataW.trod at h
    rw [ht] at h
    split at h <;> simp_all
theorem trod_int_cs {k : IntKind} {t : TypeId} (ht : P.underlying t = some (.int k)) {fuel : Nat} {cs : List Value} {x : DataW H × List MemPlace} (h : DataW.trod enc P w 0 (fun _ => true) true fuel t cs = some x) : ∃ v, cs = [v] := by
  cases fuel with
  | zero => simp [DataW.trod] at h
  | succ n =>
    unfold DataW.trod at h
    rw [ht] at h
    split at h <;> first | exact ⟨_, rfl⟩ | simp_all
end
end Go.Mo
