/- What is handed in to the laws, read. -/
import Derived.Test.YtimeehjbifbfgaaProg
import Derived.Test.YtimeehjbifbfgaaRd
import Derived.KernelRfl
namespace Go.Mo
open Go.RowKit
/-- A whole number. -/
def repI : Rep Int where
  size := 1
  R S w x cs := cs = [.int .i64 x]
  len := by rintro S w x cs rfl; rfl
  one := by rintro S w x cs rfl; rfl
  mono := by rintro S S' w x cs rfl _; rfl
  agree := by rintro S w w' x cs rfl _; rfl
  here := by rintro S w x cs rfl; rfl
/-- An entry that is put. -/
structure Ent where
  user : List UInt8
  value : List UInt8
  seq : Nat
  kind : Int
instance : Inhabited Ent := ⟨⟨[], [], 0, 0⟩⟩
def ent0 : Ent := ⟨[], [], 0, 0⟩
def repEnt : Rep Ent where
  size := 4
  R S w x cs := ∃ A n c B q e, cs = [.slice A n c, .slice B q e, .int .u64 (x.seq : Int), .int .i64 x.kind] ∧ Bs S w A n c x.user ∧ Bs S w B q e x.value
  len := by rintro S w x cs ⟨A, n, c, B, q, e, rfl, _⟩; rfl
  one := by rintro S w x cs ⟨A, n, c, B, q, e, rfl, _⟩; rfl
  mono := by rintro S S' w x cs ⟨A, n, c, B, q, e, rfl, h, h'⟩ hs; exact ⟨A, n, c, B, q, e, rfl, h.mono hs, h'.mono hs⟩
  agree := by rintro S w w' x cs ⟨A, n, c, B, q, e, rfl, h, h'⟩ hs; exact ⟨A, n, c, B, q, e, rfl, h.agree hs, h'.agree hs⟩
  here := by rintro S w x cs ⟨A, n, c, B, q, e, rfl, h, h'⟩; exact ⟨A, n, c, B, q, e, rfl, h.here', h'.here'⟩
section
variable {S : Nat → Prop} {w : World} {A : Option Addr} {n c : Nat}
theorem Ar.atE {l : List Ent} (h : Ar repEnt S w A n c l) {k : Nat} (hk : k < n) : ∃ ad A' n' c' B q e, A = some ad ∧ w.cell? (ad.add (k * 4)) = some (.slice A' n' c') ∧ w.cell? ⟨(ad.add (k * 4)).block, (ad.add (k * 4)).off + 1, none⟩ = some (.slice B q e) ∧
    w.cell? ⟨(ad.add (k * 4)).block, (ad.add (k * 4)).off + 2, none⟩ = some (.int .u64 ((l.getD k ent0).seq : Int)) ∧ w.cell? ⟨(ad.add (k * 4)).block, (ad.add (k * 4)).off + 3, none⟩ = some (.int .i64 (l.getD k ent0).kind) ∧
    Bs S w A' n' c' (l.getD k ent0).user ∧ Bs S w B q e (l.getD k ent0).value := by
  obtain ⟨ad, x, cs, e, hx, hS, ⟨A', n', c', B, q, e', rfl, hb, hb2⟩, hc⟩ := h.at hk (by decide)
  have hg : l.getD k ent0 = x := by rw [List.getD_eq_getElem?_getD, hx]; rfl
  rw [hg]
  exact ⟨ad, A', n', c', B, q, e', e, hc 0 _ rfl, by rw [← add_fld ad (k * 4) 0]; exact hc 1 _ rfl, by rw [← add_fld ad (k * 4) 1]; exact hc 2 _ rfl, by rw [← add_fld ad (k * 4) 2]; exact hc 3 _ rfl, hb, hb2⟩
theorem repI_reps {R : Nat → Prop} {w : World} : ∀ {l : List Int} {xs : List Value}, Reps (repI.R R w) l xs → xs = l.map (.int .i64)
  | [], _, h => h
  | x :: l, _, h => by
    obtain ⟨cs, rest, rfl, h1, h2⟩ := h
    rw [repI_reps h2]
    have : cs = [.int .i64 x] := h1
    rw [this]; rfl
end
end Go.Mo
namespace Go.Proofs.Ytimeehjbifbfgaa
open Go.RowKit Go.Mo Go.ChangeShapes Go.WideShapes
set_option linter.unusedVariables false
theorem list2 {α : Type} {l : List α} (h : l.length = 2) : ∃ a b, l = [a, b] := by
  match l, h with
  | [a, b], _ => exact ⟨a, b, rfl⟩
theorem list4 {α : Type} {l : List α} (h : l.length = 4) : ∃ a b c d, l = [a, b, c, d] := by
  match l, h with
  | [a, b, c, d], _ => exact ⟨a, b, c, d, rfl⟩
theorem cells5 : Try.prog.cellsOf 5 = 1 := by kernel_rfl
theorem bytes5 : Try.prog.bytesOf 5 = 1 := by kernel_rfl
theorem cells23 : Try.prog.cellsOf 23 = 1 := by kernel_rfl
theorem bytes23 : 1 ≤ Try.prog.bytesOf 23 := of_decide_eq_true (by kernel_rfl)
theorem cells50 : Try.prog.cellsOf 50 = 2 := by kernel_rfl
theorem bytes50 : 1 ≤ Try.prog.bytesOf 50 := of_decide_eq_true (by kernel_rfl)
theorem cells85 : Try.prog.cellsOf 85 = 2 := by kernel_rfl
theorem bytes85 : 1 ≤ Try.prog.bytesOf 85 := of_decide_eq_true (by kernel_rfl)
theorem cells45 : Try.prog.cellsOf 45 = 1 := by kernel_rfl
theorem bytes45 : 1 ≤ Try.prog.bytesOf 45 := of_decide_eq_true (by kernel_rfl)
theorem cells38 : Try.prog.cellsOf 38 = 4 := by kernel_rfl
theorem bytes38 : 1 ≤ Try.prog.bytesOf 38 := of_decide_eq_true (by kernel_rfl)
theorem cells3 : Try.prog.cellsOf 3 = 1 := by kernel_rfl
theorem bytes3 : 1 ≤ Try.prog.bytesOf 3 := of_decide_eq_true (by kernel_rfl)
theorem cells30 : Try.prog.cellsOf 30 = 1 := by kernel_rfl
section
variable {H : Type} {enc : TypeId × Value → H} {w : World}
theorem opens23 : Opens enc Try.prog w 23 repB := opens_b Try.underlying23 Try.underlying5 cells5 bytes5
theorem opens22 : Opens enc Try.prog w 22 (repL repB) := opens_slice Try.underlying22 cells23 bytes23 opens23
theorem opens50 : Opens enc Try.prog w 50 repKV := by
  intro fuel cs x h hf
  obtain ⟨xs, n, rfl, rfl, hlen, hxs, hel⟩ := DataW.trod_struct Try.underlying50 h
  rw [cells50] at hlen
  obtain ⟨v0, v1, rfl⟩ := list2 hlen
  obtain ⟨x0, x1, rfl⟩ := list2 hxs
  have h0 : DataW.trod enc Try.prog w 0 (fun _ => true) true n 23 (([v0, v1].drop 0).take (Try.prog.cellsOf 23)) = [x0, x1][0]? := hel 0 _ rfl
  have h1 : DataW.trod enc Try.prog w 0 (fun _ => true) true n 23 (([v0, v1].drop 1).take (Try.prog.cellsOf 23)) = [x0, x1][1]? := hel 1 _ rfl
  have f0 : Fits Try.prog 23 x0.1 := hf.agg Try.underlying50 (i := 0) rfl rfl
  have f1 : Fits Try.prog 23 x1.1 := hf.agg Try.underlying50 (i := 1) rfl rfl
  rw [cells23] at h0 h1
  simp only [List.drop_zero, List.drop_succ_cons, List.take_succ_cons, List.take_zero, List.getElem?_cons_zero, List.getElem?_cons_succ] at h0 h1
  obtain ⟨l, A, m, c, e0, hb⟩ := opens23 _ _ _ h0 f0
  obtain ⟨l2, A2, m2, c2, e1, hb2⟩ := opens23 _ _ _ h1 f1
  injection e0 with e0 _; injection e1 with e1 _
  subst e0; subst e1
  exact ⟨(l, l2), A, m, c, A2, m2, c2, rfl, hb, hb2⟩
theorem opens85 : Opens enc Try.prog w 85 repKV := by
  intro fuel cs x h hf
  obtain ⟨xs, n, rfl, rfl, hlen, hxs, hel⟩ := DataW.trod_struct Try.underlying85 h
  rw [cells85] at hlen
  obtain ⟨v0, v1, rfl⟩ := list2 hlen
  obtain ⟨x0, x1, rfl⟩ := list2 hxs
  have h0 : DataW.trod enc Try.prog w 0 (fun _ => true) true n 23 (([v0, v1].drop 0).take (Try.prog.cellsOf 23)) = [x0, x1][0]? := hel 0 _ rfl
  have h1 : DataW.trod enc Try.prog w 0 (fun _ => true) true n 23 (([v0, v1].drop 1).take (Try.prog.cellsOf 23)) = [x0, x1][1]? := hel 1 _ rfl
  have f0 : Fits Try.prog 23 x0.1 := hf.agg Try.underlying85 (i := 0) rfl rfl
  have f1 : Fits Try.prog 23 x1.1 := hf.agg Try.underlying85 (i := 1) rfl rfl
  rw [cells23] at h0 h1
  simp only [List.drop_zero, List.drop_succ_cons, List.take_succ_cons, List.take_zero, List.getElem?_cons_zero, List.getElem?_cons_succ] at h0 h1
  obtain ⟨l, A, m, c, e0, hb⟩ := opens23 _ _ _ h0 f0
  obtain ⟨l2, A2, m2, c2, e1, hb2⟩ := opens23 _ _ _ h1 f1
  injection e0 with e0 _; injection e1 with e1 _
  subst e0; subst e1
  exact ⟨(l, l2), A, m, c, A2, m2, c2, rfl, hb, hb2⟩
theorem opens45 : Opens enc Try.prog w 45 (repL repKV) := opens_slice Try.underlying45 cells50 bytes50 opens50
theorem opens66 : Opens enc Try.prog w 66 (repL (repL repKV)) := opens_slice Try.underlying66 cells45 bytes45 opens45
theorem opens67 : Opens enc Try.prog w 67 (repL repKV) := opens_slice Try.underlying67 cells85 bytes85 opens85
theorem wf_u64 {z : Int} (h : (Lit.int .u64 z).wf = true) : 0 ≤ z := by
  unfold Lit.wf at h
  rw [Bool.and_eq_true, decide_eq_true_eq, decide_eq_true_eq] at h
  exact h.1
theorem opens38 : Opens enc Try.prog w 38 repEnt := by
  intro fuel cs x h hf
  obtain ⟨xs, n, rfl, rfl, hlen, hxs, hel⟩ := DataW.trod_struct Try.underlying38 h
  rw [cells38] at hlen
  obtain ⟨v0, v1, v2, v3, rfl⟩ := list4 hlen
  obtain ⟨x0, x1, x2, x3, rfl⟩ := list4 hxs
  have h0 : DataW.trod enc Try.prog w 0 (fun _ => true) true n 23 (([v0, v1, v2, v3].drop 0).take (Try.prog.cellsOf 23)) = [x0, x1, x2, x3][0]? := hel 0 _ rfl
  have h1 : DataW.trod enc Try.prog w 0 (fun _ => true) true n 23 (([v0, v1, v2, v3].drop 1).take (Try.prog.cellsOf 23)) = [x0, x1, x2, x3][1]? := hel 1 _ rfl
  have h2 : DataW.trod enc Try.prog w 0 (fun _ => true) true n 30 (([v0, v1, v2, v3].drop 2).take (Try.prog.cellsOf 30)) = [x0, x1, x2, x3][2]? := hel 2 _ rfl
  have h3 : DataW.trod enc Try.prog w 0 (fun _ => true) true n 3 (([v0, v1, v2, v3].drop 3).take (Try.prog.cellsOf 3)) = [x0, x1, x2, x3][3]? := hel 3 _ rfl
  have f0 : Fits Try.prog 23 x0.1 := hf.agg Try.underlying38 (i := 0) rfl rfl
  have f1 : Fits Try.prog 23 x1.1 := hf.agg Try.underlying38 (i := 1) rfl rfl
  rw [cells23] at h0 h1
  rw [cells30] at h2
  rw [cells3] at h3
  simp only [List.drop_zero, List.drop_succ_cons, List.take_succ_cons, List.take_zero, List.getElem?_cons_zero, List.getElem?_cons_succ] at h0 h1 h2 h3
  obtain ⟨l, A, m, c, e0, hb⟩ := opens23 _ _ _ h0 f0
  obtain ⟨l2, A2, m2, c2, e1, hb2⟩ := opens23 _ _ _ h1 f1
  obtain ⟨s, rfl, hs⟩ := trod_int Try.underlying30 h2
  obtain ⟨k, rfl, _⟩ := trod_int Try.underlying3 h3
  injection e0 with e0 _; injection e1 with e1 _
  subst e0; subst e1
  have := wf_u64 hs
  exact ⟨⟨l, l2, s.toNat, k⟩, A, m, c, A2, m2, c2, by simp only [Int.toNat_of_nonneg this], hb, hb2⟩
theorem opens35 : Opens enc Try.prog w 35 (repL repEnt) := opens_slice Try.underlying35 cells38 bytes38 opens38
theorem opens3 : Opens enc Try.prog w 3 repI := by
  intro fuel cs x h hf
  have := trod_int_cs Try.underlying3 h
  obtain ⟨v, rfl⟩ := this
  obtain ⟨n, rfl, _⟩ := trod_int Try.underlying3 h
  exact ⟨n, rfl⟩
theorem opens27 : Opens enc Try.prog w 27 (repL repI) := opens_slice Try.underlying27 cells3 bytes3 opens3
end
end Go.Proofs.Ytimeehjbifbfgaa
