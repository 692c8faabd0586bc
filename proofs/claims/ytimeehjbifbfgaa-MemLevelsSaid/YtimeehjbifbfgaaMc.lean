/- The walks of a table of towers: Get, Len, Size. -/
import Derived.Test.YtimeehjbifbfgaaMb
namespace Go.Proofs.Ytimeehjbifbfgaa
open Go.RowKit Go.Mo
set_option linter.unusedVariables false
set_option linter.unusedSimpArgs false

/-- What Get tells of the first node that isn't ahead. -/
def getAt (d : Option Nd) (u : List UInt8) : List UInt8 × Nat × Bool :=
  match d with
  | none => ([], 0, false)
  | some d => if (splitI d.key).1 = u then (d.value, (splitI d.key).2.2.1, true) else ([], 0, false)

set_option maxRecDepth 100000 in
set_option maxHeartbeats 1000000 in
theorem Get_calls {F : Nat → Prop} (w : World) (t : Nat) (hs : Value) (n size : Nat) (N : List Nd) (hT : TwIn F w t hs n size N) (hh : Sec (HOk N)) (S : Nat → Prop) (A : Option Addr) (m c : Nat) (u : List UInt8) (hu : Bs S w A m c u) (s : Nat) (X : Int) (hX : X = (s : Int)) (hul : Sec (u.length ≤ 128))
    (p : Nat) (hp : p ≤ N.length) (h1 : Sec (∀ k d, k < p → N[k]? = some d → (compareI d.key (keyI u (min s 72057594037927935) 1).1).1 < 0)) (h2 : Sec (∀ k d, p ≤ k → N[k]? = some d → 0 ≤ (compareI d.key (keyI u (min s 72057594037927935) 1).1).1)) :
    Calls Try.prog 19 #[.pointer (some ⟨t, 0, none⟩), .slice A m c, .int .u64 X] w fun e w' =>
      ∃ A' m' c', e = .returned (.tuple #[.slice A' m' c', .int .i64 ((getAt N[p]? u).2.1 : Int), .bool (getAt N[p]? u).2.2]) ∧ Ob w.heap.size w' A' m' c' (getAt N[p]? u).1 ∧ Below w.heap.size w w' := by
  subst hX
  have hk2 : (keyI u (min s 72057594037927935) 1).2 = 0 := by
    unfold keyI
    rw [if_pos ((rightI_iff _ _ _).2 ⟨hul.out, Nat.min_le_right _ _, .inr rfl⟩)]
  have HT : Sec (TwIn F w t hs n size N) := ⟨hT⟩
  rcases Nat.lt_or_ge 72057594037927935 s with hs1 | hs1
  · have hF := first_calls w t hs n size N hT hh S A m c u hu (min s 72057594037927935) 72057594037927935 (by omega) p hp h1 h2
    rw [hk2, if_neg (by simp)] at hF
    clear h1 h2 hk2 hul hT
    cases hd : N[p]? with
    | none =>
      rw [hd] at hF
      have HF := Sec.mk hF; clear hF hd
      go_enter Try.func19, Try.ntmps19
      go_wp2_with fail
      ((with_reducible refine HF.out.mono ?_); rintro e w2 ⟨rfl, hb2⟩)
      simp only [Option.map_none, lnk]
      go_wp2
      go_ret3
      exact ⟨_, _, _, rfl, Ob.nil _ _, hb2⟩
    | some d =>
      rw [hd] at hF
      have hF' : Sec (Calls Try.prog 67 _ w fun e w' => e = .returned (.pointer (some ⟨d.g, 0, none⟩)) ∧ Below w.heap.size w w') := ⟨hF⟩
      have HD := Sec.mk hd
      have hgt : Sec (getAt (some d) u = if (splitI d.key).1 = u then (d.value, (splitI d.key).2.2.1, true) else ([], 0, false)) := ⟨rfl⟩
      clear hF hd
      generalize getAt (some d) u = G at hgt ⊢
      by_cases hsu : (splitI d.key).1 = u
      · have HG := Sec.mk (show G = (d.value, (splitI d.key).2.2.1, true) from by rw [hgt.out, if_pos hsu])
        clear hgt
        have hdec := Sec.mk (decide_eq_true hsu)
        clear hsu
        go_enter Try.func19, Try.ntmps19
        go_wp2_with fail
        ((with_reducible refine hF'.out.mono ?_); rintro e w2 ⟨rfl, hb2⟩)
        obtain ⟨A2, m2, c2, B2, q2, e2, hblk, hkey, hval⟩ := Tw.node (Tw.below HT.out hb2) p d HD.out
        have z0 : w2.cell? ⟨d.g, 0, none⟩ = some (.slice A2 m2 c2) := hblk.cell 0
        have z1 : w2.cell? ⟨d.g, 1, none⟩ = some (.slice B2 q2 e2) := hblk.cell 1
        go_wp2_with fail
        ((with_reducible refine (Split_calls w2 hkey).mono ?_); rintro e w3 ⟨A3, m3, c3, rfl, ho3, hb3⟩)
        have hE := Equal_calls w3 ho3.bsT ((hu.below hb2).below hb3)
        rw [hdec.out] at hE
        have HE := Sec.mk hE; clear hE
        have y1 := cell_later hb3 z1
        go_wp2_with fail
        ((with_reducible refine HE.out.mono ?_); rintro e w4 ⟨rfl, rfl⟩)
        go_wp2_with fail
        ((with_reducible refine (Clone_calls w3 (hval.below hb3)).mono ?_); rintro e w5 ⟨A5, c5, rfl, ho5, hb5⟩)
        go_wp2
        go_ret3
        rw [HG.out]
        have hb23 := below_then hb2 hb2.size hb3
        exact ⟨_, _, _, rfl, ho5.mono hb23.size, below_then hb23 hb23.size hb5⟩
      · have HG := Sec.mk (show G = ([], 0, false) from by rw [hgt.out, if_neg hsu])
        clear hgt
        have hdec := Sec.mk (decide_eq_false hsu)
        clear hsu
        go_enter Try.func19, Try.ntmps19
        go_wp2_with fail
        ((with_reducible refine hF'.out.mono ?_); rintro e w2 ⟨rfl, hb2⟩)
        obtain ⟨A2, m2, c2, B2, q2, e2, hblk, hkey, hval⟩ := Tw.node (Tw.below HT.out hb2) p d HD.out
        have z0 : w2.cell? ⟨d.g, 0, none⟩ = some (.slice A2 m2 c2) := hblk.cell 0
        go_wp2_with fail
        ((with_reducible refine (Split_calls w2 hkey).mono ?_); rintro e w3 ⟨A3, m3, c3, rfl, ho3, hb3⟩)
        have hE := Equal_calls w3 ho3.bsT ((hu.below hb2).below hb3)
        rw [hdec.out] at hE
        have HE := Sec.mk hE; clear hE
        go_wp2_with fail
        ((with_reducible refine HE.out.mono ?_); rintro e w4 ⟨rfl, rfl⟩)
        go_wp2
        go_ret3
        rw [HG.out]
        exact ⟨_, _, _, rfl, Ob.nil _ _, below_then hb2 hb2.size hb3⟩
  · have hF := first_calls w t hs n size N hT hh S A m c u hu (min s 72057594037927935) (s : Int) (by omega) p hp h1 h2
    rw [hk2, if_neg (by simp)] at hF
    clear h1 h2 hk2 hul hT
    cases hd : N[p]? with
    | none =>
      rw [hd] at hF
      have HF := Sec.mk hF; clear hF hd
      go_enter Try.func19, Try.ntmps19
      go_wp2_with fail
      ((with_reducible refine HF.out.mono ?_); rintro e w2 ⟨rfl, hb2⟩)
      simp only [Option.map_none, lnk]
      go_wp2
      go_ret3
      exact ⟨_, _, _, rfl, Ob.nil _ _, hb2⟩
    | some d =>
      rw [hd] at hF
      have hF' : Sec (Calls Try.prog 67 _ w fun e w' => e = .returned (.pointer (some ⟨d.g, 0, none⟩)) ∧ Below w.heap.size w w') := ⟨hF⟩
      have HD := Sec.mk hd
      have hgt : Sec (getAt (some d) u = if (splitI d.key).1 = u then (d.value, (splitI d.key).2.2.1, true) else ([], 0, false)) := ⟨rfl⟩
      clear hF hd
      generalize getAt (some d) u = G at hgt ⊢
      by_cases hsu : (splitI d.key).1 = u
      · have HG := Sec.mk (show G = (d.value, (splitI d.key).2.2.1, true) from by rw [hgt.out, if_pos hsu])
        clear hgt
        have hdec := Sec.mk (decide_eq_true hsu)
        clear hsu
        go_enter Try.func19, Try.ntmps19
        go_wp2_with fail
        ((with_reducible refine hF'.out.mono ?_); rintro e w2 ⟨rfl, hb2⟩)
        obtain ⟨A2, m2, c2, B2, q2, e2, hblk, hkey, hval⟩ := Tw.node (Tw.below HT.out hb2) p d HD.out
        have z0 : w2.cell? ⟨d.g, 0, none⟩ = some (.slice A2 m2 c2) := hblk.cell 0
        have z1 : w2.cell? ⟨d.g, 1, none⟩ = some (.slice B2 q2 e2) := hblk.cell 1
        go_wp2_with fail
        ((with_reducible refine (Split_calls w2 hkey).mono ?_); rintro e w3 ⟨A3, m3, c3, rfl, ho3, hb3⟩)
        have hE := Equal_calls w3 ho3.bsT ((hu.below hb2).below hb3)
        rw [hdec.out] at hE
        have HE := Sec.mk hE; clear hE
        have y1 := cell_later hb3 z1
        go_wp2_with fail
        ((with_reducible refine HE.out.mono ?_); rintro e w4 ⟨rfl, rfl⟩)
        go_wp2_with fail
        ((with_reducible refine (Clone_calls w3 (hval.below hb3)).mono ?_); rintro e w5 ⟨A5, c5, rfl, ho5, hb5⟩)
        go_wp2
        go_ret3
        rw [HG.out]
        have hb23 := below_then hb2 hb2.size hb3
        exact ⟨_, _, _, rfl, ho5.mono hb23.size, below_then hb23 hb23.size hb5⟩
      · have HG := Sec.mk (show G = ([], 0, false) from by rw [hgt.out, if_neg hsu])
        clear hgt
        have hdec := Sec.mk (decide_eq_false hsu)
        clear hsu
        go_enter Try.func19, Try.ntmps19
        go_wp2_with fail
        ((with_reducible refine hF'.out.mono ?_); rintro e w2 ⟨rfl, hb2⟩)
        obtain ⟨A2, m2, c2, B2, q2, e2, hblk, hkey, hval⟩ := Tw.node (Tw.below HT.out hb2) p d HD.out
        have z0 : w2.cell? ⟨d.g, 0, none⟩ = some (.slice A2 m2 c2) := hblk.cell 0
        go_wp2_with fail
        ((with_reducible refine (Split_calls w2 hkey).mono ?_); rintro e w3 ⟨A3, m3, c3, rfl, ho3, hb3⟩)
        have hE := Equal_calls w3 ho3.bsT ((hu.below hb2).below hb3)
        rw [hdec.out] at hE
        have HE := Sec.mk hE; clear hE
        go_wp2_with fail
        ((with_reducible refine HE.out.mono ?_); rintro e w4 ⟨rfl, rfl⟩)
        go_wp2
        go_ret3
        rw [HG.out]
        exact ⟨_, _, _, rfl, Ob.nil _ _, below_then hb2 hb2.size hb3⟩

theorem Len_calls {F : Nat → Prop} (w : World) (t : Nat) (hs : Value) (n size : Nat) (N : List Nd) (hT : TwIn F w t hs n size N) :
    Calls Try.prog 23 #[.pointer (some ⟨t, 0, none⟩)] w fun e w' => e = .returned (.int .i64 (n : Int)) ∧ w = w' := by
  have z : w.cell? ⟨t, 16, none⟩ = some (.int .i64 (n : Int)) := (Tw.head hT).cell 16
  clear hT
  go_enter Try.func23, Try.ntmps23
  go_wp2
  go_ret
  exact ⟨rfl, rfl⟩
theorem Size_calls {F : Nat → Prop} (w : World) (t : Nat) (hs : Value) (n size : Nat) (N : List Nd) (hT : TwIn F w t hs n size N) :
    Calls Try.prog 28 #[.pointer (some ⟨t, 0, none⟩)] w fun e w' => e = .returned (.int .i64 (size : Int)) ∧ w = w' := by
  have z : w.cell? ⟨t, 17, none⟩ = some (.int .i64 (size : Int)) := (Tw.head hT).cell 17
  clear hT
  go_enter Try.func28, Try.ntmps28
  go_wp2
  go_ret
  exact ⟨rfl, rfl⟩
end Go.Proofs.Ytimeehjbifbfgaa
