/- The row of RlpBack: what is handed in, opened; the walk; what is read behind it. -/
import Derived.Test.YtlpmnhnlhleogaaRows
import Derived.Test.YtlpmnhnlhleogaaWj
import Derived.Test.YtlpmnhnlhleogaaOpen
import Derived.WalkKit
import Derived.ProofKit
import Derived.OpenShut
import Derived.ShutString
import Derived.ChangeOld
import Derived.Below
import Derived.SizedLaws
namespace Go.Proofs.Ytlpmnhnlhleogaa.rlpBack
open Go.ChangeShapes Go.WideShapes Go.ChangeAt Go.RowKit Go.Mo
set_option linter.unusedVariables false
theorem own : ownKnob Try.prog.godebug = none := by kernel_rfl
theorem laidOut : laidOutB Try.prog = true := by kernel_rfl

theorem opened {H : Type} {enc : TypeId × Value → H} {W : World} {b0 : Nat} {v : Value} {d : DataW H} {p : List MemPlace} (hv : Value.okWide Try.prog W .any b0 25 v)
    (h : DataW.Trod enc Try.prog W 0 (fun _ => true) true 25 v d p) (hf : Fits Try.prog 25 d) :
    ∃ it A n c B q q', v = .agg #[.bool it.list, .slice A n c, .slice B q q'] ∧ ItR (fun _ => True) W it [.bool it.list, .slice A n c, .slice B q q'] := by
  obtain ⟨cs, rfl, hsz⟩ := okWide_struct Try.underlying25 hv
  obtain ⟨fuel, h⟩ := h
  obtain ⟨it, hit⟩ := open_item fuel _ _ h hf
  obtain ⟨A, n, c, B, q, q', hcs, _⟩ := hit.parts
  refine ⟨it, A, n, c, B, q, q', ?_, hcs ▸ hit⟩
  have : cs = #[.bool it.list, .slice A n c, .slice B q q'] := by
    apply Array.toList_inj.1
    simpa [Value.cells] using hcs
  rw [this]

set_option maxRecDepth 100000 in
theorem lifted (os : Os) (started : os.Started) (H : Type) (enc : TypeId × Value → H) :
    ReturnsInHanded {} Try.checked os 3 .any (Rows.rlpBackSpec.pre6 enc Try.prog Try.f3 Rows.rlpBackRow.domain false) (Rows.rlpBackSpec.post enc Try.prog Try.f3 false true false false) := by
  refine returnsInHanded_of_change_sized (C := Try.checked) own started (by kernel_rfl) Try.func3
    (ChangeSpec.witness6 (enc := enc) (C := Try.checked) false ⟨#[], #[.agg #[.bool false, .slice none 0 0, .slice none 0 0], .agg #[.bool false, .slice none 0 0, .slice none 0 0], .slice none 0 0, .slice none 0 0], []⟩ 8 (by kernel_rfl) (by kernel_rfl) (by kernel_rfl) (by kernel_rfl)) ?_
  intro W base args ds gs before hval0 hW hcnd hsz0 _
  have hsz : (DataW.weightsEach Try.prog (Try.f3.params.toList ++ Rows.rlpBackSpec.plain.varTypes Try.prog) (ds ++ gs)).all (· ≤ reachBytes) = true := hsz0
  have hval : ∀ (j : Nat) t v, Try.f3.params[j]? = some t → args[j]? = some v → Value.okWide Try.prog W .any base t v := hval0
  have hW' := hW
  obtain ⟨p, q, hA0, hV, rfl, hfz, hnd⟩ := hW
  have hA : DataW.TrodAll enc Try.prog W 0 (fun _ => true) true Try.f3.params.toList args.toList ds p := hA0
  rw [Try.params3] at hA hval hsz
  obtain ⟨v0, vs0, d0, ds0, p0, q0, hargs, rfl, rfl, h0, r0⟩ := trodAll_cons hA
  obtain ⟨v1, vs1, d1, ds1, p1, q1, rfl, rfl, rfl, h1, r1⟩ := trodAll_cons r0
  obtain ⟨v2, vs2, d2, ds2, p2, q2, rfl, rfl, rfl, h2, r2⟩ := trodAll_cons r1
  obtain ⟨v3, vs3, d3, ds3, p3, q3, rfl, rfl, rfl, h3, r3⟩ := trodAll_cons r2
  obtain ⟨rfl, rfl, rfl⟩ := trodAll_nil r3
  obtain rfl : args = #[v0, v1, v2, v3] := by cases args; simp_all
  obtain ⟨rfl, rfl⟩ := trodVars_none hV
  have f0 : Fits Try.prog 25 d0 := fits_of_each hsz (i := 0) rfl rfl
  have f1 : Fits Try.prog 25 d1 := fits_of_each hsz (i := 1) rfl rfl
  have f2 : Fits Try.prog 22 d2 := fits_of_each hsz (i := 2) rfl rfl
  have f3 : Fits Try.prog 22 d3 := fits_of_each hsz (i := 3) rfl rfl
  obtain ⟨x, A, n, c, B, m, m', rfl, hx⟩ := opened (hval 0 25 v0 rfl rfl) h0 f0
  obtain ⟨y, A2, n2, c2, B2, m2, m2', rfl, hy⟩ := opened (hval 1 25 v1 rfl rfl) h1 f1
  obtain ⟨a2, len2, cap2, rfl⟩ := okWide_slice Try.underlying22 (hval 2 22 v2 rfl rfl)
  obtain ⟨a3, len3, cap3, rfl⟩ := okWide_slice Try.underlying22 (hval 3 22 v3 rfl rfl)
  have k0 := h0
  have k1 := h1
  have k2 := h2
  have k3 := h3
  have lt0 : ∀ x ∈ p0, x.block < W.heap.size := by obtain ⟨m, hm⟩ := k0; exact DataW.trod_lt m _ _ _ hm
  have lt1 : ∀ x ∈ p1, x.block < W.heap.size := by obtain ⟨m, hm⟩ := k1; exact DataW.trod_lt m _ _ _ hm
  have lt2 : ∀ x ∈ p2, x.block < W.heap.size := by obtain ⟨m, hm⟩ := k2; exact DataW.trod_lt m _ _ _ hm
  have lt3 : ∀ x ∈ p3, x.block < W.heap.size := by obtain ⟨m, hm⟩ := k3; exact DataW.trod_lt m _ _ _ hm
  obtain ⟨fu2, h2⟩ := h2
  obtain ⟨fu3, h3⟩ := h3
  obtain ⟨A5, n5, c5, l2, e2, hb2⟩ := open_b22 (v := .slice a2 len2 cap2) (by simpa [Value.cells] using h2) f2
  obtain ⟨A6, n6, c6, l3, e3, hb3⟩ := open_b22 (v := .slice a3 len3 cap3) (by simpa [Value.cells] using h3) f3
  injection e2 with e2a e2b e2c
  subst e2a; subst e2b; subst e2c
  injection e3 with e3a e3b e3c
  subst e3a; subst e3b; subst e3c
  clear hA0 hval0 hsz0 hsz
  refine (RlpBack_calls x y l2 l3 (fun _ => True) W A n c B m m' A2 n2 c2 B2 m2 m2' _ _ _ _ _ _ hx hy hb2 hb3).mono fun e W' ⟨he, bel⟩ => ?_
  subst he
  exact ⟨_, rfl, _, _, _, [], _, [], hW', trodAll_mk1 (shut_bool Try.underlying4 _),
    (trodAll_cons_mk (Below.trod laidOut (by kernel_rfl) (of_decide_eq_true (by kernel_rfl)) k0 bel lt0) (trodAll_cons_mk (Below.trod laidOut (by kernel_rfl) (of_decide_eq_true (by kernel_rfl)) k1 bel lt1)
      (trodAll_cons_mk (Below.trod laidOut (by kernel_rfl) (of_decide_eq_true (by kernel_rfl)) k2 bel lt2) (trodAll_cons_mk (Below.trod laidOut (by kernel_rfl) (of_decide_eq_true (by kernel_rfl)) k3 bel lt3) trodAll_mk0)))), rfl, bel.frame _, fun h => by cases h⟩

theorem over : Rows.rlpBackRow.holds Try.pinned (OpenSpec.ofChange Rows.rlpBackSpec) :=
  OpenClaim.holds_of_wide 3 Try.f3 rfl rfl rfl rfl rfl rfl rfl ⟨rfl, rfl, rfl, rfl, rfl⟩ rfl rfl rfl rfl rfl (by kernel_rfl) Try.func3 (by kernel_rfl)
    (of_decide_eq_true (by kernel_rfl)) (by unfold Func.isWrapper; first | (rw [if_pos (by decide +kernel)]; kernel_rfl) | (rw [if_neg (by decide +kernel)]; exact ⟨rfl, rfl⟩))
    (fun os started H enc _ => lifted os started H enc)
theorem proved : Rows.RlpBackSaid := over
#print axioms proved
end Go.Proofs.Ytlpmnhnlhleogaa.rlpBack
namespace Go.Proofs.Ytlpmnhnlhleogaa
/-- The row, under a short name, for the claim. -/
theorem rlpBackHolds : Rows.RlpBackSaid := rlpBack.proved
end Go.Proofs.Ytlpmnhnlhleogaa
