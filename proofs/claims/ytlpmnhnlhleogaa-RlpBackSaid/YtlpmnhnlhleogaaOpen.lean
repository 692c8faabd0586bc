/- An item that is handed in, read as a tree. -/
import Derived.Test.YtlpmnhnlhleogaaProg
import Derived.Test.YtlpmnhnlhleogaaReach
import Derived.KernelRfl
import Derived.Deep.Slices
import Derived.Test.YtlpmnhnlhleogaaPlain
namespace Go.Proofs.Ytlpmnhnlhleogaa
open Go.RowKit Go.Mo Go.ChangeShapes Go.WideShapes
set_option linter.unusedVariables false

theorem cells5 : Try.prog.cellsOf 5 = 1 := by kernel_rfl
theorem bytes5 : Try.prog.bytesOf 5 = 1 := by kernel_rfl
theorem cells25 : Try.prog.cellsOf 25 = 3 := by kernel_rfl
theorem cells4 : Try.prog.cellsOf 4 = 1 := by kernel_rfl
theorem cells22 : Try.prog.cellsOf 22 = 1 := by kernel_rfl
theorem cells23 : Try.prog.cellsOf 23 = 1 := by kernel_rfl
theorem bytes25 : 1 ≤ Try.prog.bytesOf 25 := of_decide_eq_true (by kernel_rfl)

variable {H : Type} {enc : TypeId × Value → H} {w : World}
theorem open_b22 {fuel : Nat} {v : Value} {x : DataW H × List MemPlace} (h : DataW.trod enc Try.prog w 0 (fun _ => true) true fuel 22 [v] = some x) (hf : Fits Try.prog 22 x.1) :
    ∃ A n c l, v = .slice A n c ∧ Bs (fun _ => True) w A n c l := open_bs Try.underlying22 Try.underlying5 cells5 bytes5 h hf

theorem open_bool4 {fuel : Nat} {v : Value} {x : DataW H × List MemPlace} (h : DataW.trod enc Try.prog w 0 (fun _ => true) true fuel 4 [v] = some x) : ∃ b, v = .bool b := by
  cases fuel with
  | zero => simp [DataW.trod] at h
  | succ n =>
    unfold DataW.trod at h
    rw [Try.underlying4] at h
    split at h <;> simp_all

theorem open_item : ∀ (fuel : Nat) (cs : List Value) (x : DataW H × List MemPlace), DataW.trod enc Try.prog w 0 (fun _ => true) true fuel 25 cs = some x → Fits Try.prog 25 x.1 →
    ∃ it, ItR (fun _ => True) w it cs := by
  intro fuel
  induction fuel using Nat.strongRecOn with
  | _ fuel ih =>
    intro cs x h hf
    obtain ⟨xs, n, rfl, rfl, hlen, hxs, hel⟩ := DataW.trod_struct Try.underlying25 h
    rw [cells25] at hlen
    match cs, hlen with
    | [v0, v1, v2], _ =>
    match xs, hxs with
    | [x0, x1, x2], _ =>
    have h0 : DataW.trod enc Try.prog w 0 (fun _ => true) true n 4 (([v0, v1, v2].drop 0).take (Try.prog.cellsOf 4)) = [x0, x1, x2][0]? := hel 0 _ rfl
    have h1 : DataW.trod enc Try.prog w 0 (fun _ => true) true n 22 (([v0, v1, v2].drop 1).take (Try.prog.cellsOf 22)) = [x0, x1, x2][1]? := hel 1 _ rfl
    have h2 : DataW.trod enc Try.prog w 0 (fun _ => true) true n 23 (([v0, v1, v2].drop 2).take (Try.prog.cellsOf 23)) = [x0, x1, x2][2]? := hel 2 _ rfl
    have f1 : Fits Try.prog 22 x1.1 := hf.agg Try.underlying25 (i := 1) rfl rfl
    have f2 : Fits Try.prog 23 x2.1 := hf.agg Try.underlying25 (i := 2) rfl rfl
    rw [cells4] at h0
    rw [cells22] at h1
    rw [cells23] at h2
    simp only [List.drop_zero, List.drop_succ_cons, List.take_succ_cons, List.take_zero, List.getElem?_cons_zero, List.getElem?_cons_succ] at h0 h1 h2
    obtain ⟨b, rfl⟩ := open_bool4 h0
    obtain ⟨A, m, c, l, rfl, hb⟩ := open_b22 h1 f1
    rcases DataW.trod_slice Try.underlying23 h2 with ⟨hcs, _⟩ | ⟨ad, len, cap, elems, rest, k, rfl, hcs, rfl, _, hl, hm, hlen, hev, hsp, _⟩
    · injection hcs with hcs _
      subst hcs
      exact ⟨.mk b l [], ItR.of_parts hb rfl (Nat.le_refl _) (Nat.zero_le _) (Nat.zero_le _) (ItsR.mk_get fun k x hx => by simp [It.items] at hx)⟩
    · injection hcs with hcs _
      subst hcs
      obtain ⟨g1, g2⟩ := Fits.slice Try.underlying23 f2
      have hrl : rest.length = cap - len := (hsp rfl).1
      rw [List.length_map, List.length_map, hlen, hrl] at g1
      have hcap : cap ≤ 140737488351232 := by
        have := Nat.le_mul_of_pos_right (len + (cap - len)) bytes25
        omega
      have key : ∀ i, i < len → ∃ it cs', ItR (fun _ => True) w it cs' ∧ ∀ j u, cs'[j]? = some u → w.cell? (ad.add (i * 3 + j)) = some u := fun i hi => by
        have e1 := hev i hi
        rw [List.getElem?_eq_getElem (by omega)] at e1
        obtain ⟨cs', c1, c2⟩ := Option.bind_eq_some_iff.1 e1
        rw [cells25] at c1
        obtain ⟨_, c3, c4⟩ := World.cells?_some c1
        obtain ⟨it, hit⟩ := ih k (by omega) cs' _ c2 (fits_of_all g2 (i := i) (by simp [List.getElem?_eq_getElem (show i < elems.length by omega)]))
        refine ⟨it, cs', hit, fun j u hj => ?_⟩
        have hj3 : j < 3 := by
          rcases Nat.lt_or_ge j 3 with h | h
          · exact h
          · rw [List.getElem?_eq_none (by omega)] at hj; simp at hj
        rw [← hj, ← c4 j hj3, Go.Deep.add_add]
      haveI : Inhabited It := ⟨It0⟩
      obtain ⟨its, hits⟩ := Go.Deep.choose_lt (α := It) (p := fun i it => ∃ cs', ItR (fun _ => True) w it cs' ∧ ∀ j u, cs'[j]? = some u → w.cell? (ad.add (i * 3 + j)) = some u) key
      refine ⟨.mk b l ((List.range len).map its), ItR.of_parts hb (by simp [It.items]) hl (by unfold LIM; omega) hm (ItsR.mk_get fun i it hi => ?_)⟩
      simp only [It.items, List.getElem?_map] at hi
      have hil : i < len := by
        rcases Nat.lt_or_ge i len with h | h
        · exact h
        · rw [List.getElem?_eq_none (by simpa using h)] at hi; simp at hi
      rw [List.getElem?_range hil] at hi
      simp at hi
      subst hi
      obtain ⟨cs', k1, k2⟩ := hits i hil
      exact ⟨ad, cs', rfl, trivial, fun j u hj => by rw [Nat.zero_add]; exact k2 j u hj, k1⟩
end Go.Proofs.Ytlpmnhnlhleogaa
