/- What is handed in, read as bytes and as items. -/
import Derived.Test.YtlpmnhnlhleogaaItem
import Derived.ChangeSlices
import Derived.ChangeArms
import Derived.DataReads
import Derived.SizedLaws
import Derived.OpenShut
import Derived.Deep.Strs
namespace Go.Mo
open Go.RowKit Go.ChangeShapes Go.WideShapes
set_option linter.unusedVariables false
section
variable {H : Type} {enc : TypeId × Value → H} {P : Program} {w : World}

/-- A reading that is within reach. -/
def Fits (P : Program) (t : TypeId) (d : DataW H) : Prop := (DataW.weights P t d).all (· ≤ reachBytes) = true
theorem Fits.slice {t e : TypeId} {elems spare : List (DataW H)} (ht : P.underlying t = some (.slice e)) (h : Fits P t (.slice elems spare)) :
    (elems.length + spare.length) * P.bytesOf e ≤ 140737488351232 ∧ (DataW.weightsAll P e elems).all (· ≤ reachBytes) = true := by
  unfold Fits at h
  rw [DataW.weights, ht] at h
  simp only [List.all_cons, List.all_append, Bool.and_eq_true, decide_eq_true_eq] at h
  exact ⟨h.1, h.2.1⟩
theorem fits_of_all {e : TypeId} : ∀ {ds : List (DataW H)}, (DataW.weightsAll P e ds).all (· ≤ reachBytes) = true → ∀ {i : Nat} {d : DataW H}, ds[i]? = some d → Fits P e d
  | [], _, i, d, hd => by simp at hd
  | x :: r, h, i, d, hd => by
    rw [DataW.weightsAll, List.all_append, Bool.and_eq_true] at h
    cases i with
    | zero => simp at hd; subst hd; exact h.1
    | succ i => exact fits_of_all h.2 (by simpa using hd)
theorem fits_of_each : ∀ {ts : List TypeId} {ds : List (DataW H)}, (DataW.weightsEach P ts ds).all (· ≤ reachBytes) = true → ∀ {i : Nat} {t : TypeId} {d : DataW H}, ts[i]? = some t → ds[i]? = some d → Fits P t d
  | [], _, _, i, t, d, ht, _ => by simp at ht
  | _ :: _, [], _, i, t, d, _, hd => by simp at hd
  | t' :: ts, x :: r, h, i, t, d, ht, hd => by
    rw [DataW.weightsEach, List.all_append, Bool.and_eq_true] at h
    cases i with
    | zero => simp at hd ht; subst hd; subst ht; exact h.1
    | succ i => exact fits_of_each h.2 (by simpa using ht) (by simpa using hd)
theorem Fits.agg {t : TypeId} {fs : Array Field} {parts : List (DataW H)} (ht : P.underlying t = some (.struct fs)) (h : Fits P t (.agg parts)) {i : Nat} {f : Field} {d : DataW H}
    (hf : fs[i]? = some f) (hd : parts[i]? = some d) : Fits P f.type d := by
  unfold Fits at h
  rw [DataW.weights, ht] at h
  refine fits_of_each h (i := i) ?_ hd
  simp [hf]
theorem wf_u8 {z : Int} (h : (Lit.int .u8 z).wf = true) : 0 ≤ z ∧ z ≤ 255 := by
  unfold Lit.wf at h
  rw [Bool.and_eq_true, decide_eq_true_eq, decide_eq_true_eq] at h
  exact h
theorem open_bs {t : TypeId} (ht : P.underlying t = some (.slice 5)) (he : P.underlying 5 = some (.int .u8)) (hc : P.cellsOf 5 = 1) (hb : P.bytesOf 5 = 1) {fuel : Nat} {v : Value} {x : DataW H × List MemPlace}
    (h : DataW.trod enc P w 0 (fun _ => true) true fuel t [v] = some x) (hf : Fits P t x.1) : ∃ A n c l, v = .slice A n c ∧ Bs (fun _ => True) w A n c l := by
  rcases open_ints ht he hc h with ⟨hcs, _⟩ | ⟨ad, len, cap, zs, hcs, _, hl, hm, hz, rfl, hcell, hwz⟩
  · injection hcs with hcs _
    exact ⟨none, 0, 0, [], hcs, rfl, Nat.le_refl _, Nat.zero_le _, Nat.zero_le _, fun j u hj => by simp at hj⟩
  · injection hcs with hcs _
    rw [if_pos rfl] at hz
    obtain ⟨h1, _⟩ := hf.slice ht
    have hll : (lits (H := H) .u8 (zs.take len)).length + (lits (H := H) .u8 (zs.drop len)).length = zs.length := by simp [lits]; omega
    rw [hll, hb] at h1
    refine ⟨some ad, len, cap, (zs.take len).map fun z => UInt8.ofNat z.toNat, hcs, by simp; omega, hl, by unfold LIM; omega, hm, fun j u hj => ⟨ad, rfl, trivial, ?_⟩⟩
    simp only [List.map_map, List.getElem?_map] at hj
    have hjl : j < len := by
      rcases Nat.lt_or_ge j len with h | h
      · exact h
      · rw [List.getElem?_eq_none (by simp; omega)] at hj; simp at hj
    have hjz : j < zs.length := by omega
    rw [List.getElem?_take_of_lt hjl, List.getElem?_eq_getElem hjz] at hj
    simp only [Option.map_some, Option.some.injEq, Function.comp] at hj
    rw [← hj, hcell j hjz]
    have hg : zs.getD j 0 = zs[j] := by simp [List.getD, hjz]
    rw [hg]
    have hw := hwz zs[j] (List.getElem_mem hjz)
    have h2 := wf_u8 hw
    unfold u8
    congr 2
    simp
    omega
end
end Go.Mo
