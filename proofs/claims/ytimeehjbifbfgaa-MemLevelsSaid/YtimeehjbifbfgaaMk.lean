/- The laws of a table: known, few. -/
import Derived.Test.YtimeehjbifbfgaaMj
import Derived.Lib.SlBytesConst
namespace Go.Mo
def k1 : List UInt8 := [97, 1, 1, 0, 0, 0, 0, 0, 0]
def k2 : List UInt8 := [97, 0, 3, 0, 0, 0, 0, 0, 0]
theorem known1 : putE [1, 3] [] [97] 1 1 [120] = (0, [(k1, [120], 1)]) := by decide +kernel
theorem known2 : putE [1, 3] [(k1, [120], 1)] [97] 3 0 [] = (0, [(k2, [], 3), (k1, [120], 1)]) := by decide +kernel
theorem known3 : getE [(k2, [], 3), (k1, [120], 1)] [97] 2 = ([120], 1, true) := by decide +kernel
theorem known4 : (levelE [(k2, [], 3), (k1, [120], 1)] 1).length = 1 := by decide +kernel
theorem putE_ord {hs : List Int} {E : List En} (hE : OrdE E) (u : List UInt8) (s : Nat) (k : Int) (v : List UInt8) : OrdE (putE hs E u s k v).2 := by
  unfold putE
  split
  · exact hE
  · split
    · exact hE
    · split
      · exact hE
      · rename_i h1 h2 h3
        exact hE.ins (keyI_ok (by omega)).2.2.2.2.1 (Go.Proofs.Ytimeehjbifbfgaa.heightI_bd _ _) fun e he h => h3 ⟨e, he, h⟩
end Go.Mo
namespace Go.Proofs.Ytimeehjbifbfgaa
open Go.RowKit Go.Mo
set_option linter.unusedVariables false
set_option linter.unusedSimpArgs false
theorem Bi.lit (w : World) (l : List Int) (n : Nat) (hn : n = l.length) (hl : n ≤ 4294967296) (cs : Array Value) (hc : cs = (l.map (.int .i64)).toArray) :
    Bi (fun b => w.heap.size ≤ b) (w.alloc (.cells cs 3)) (some ⟨w.heap.size, 0, none⟩) n n l := by
  subst hc
  refine ⟨hn, Nat.le_refl _, hl, by unfold maxLen; omega, ?_⟩
  have := (Cs.new w (l.map (.int .i64)).toArray 3).mono (S' := fun b => w.heap.size ≤ b) (fun b hb => by omega)
  simpa using this
/-- A literal of one byte that bears the constants' mark. -/
theorem marked1 (w : World) (x : Int) (b : UInt8) (hx : x = (b.toNat : Int)) (k : Nat × Nat) : Bs (fun g => w.heap.size ≤ g) (w.alloc (.cells #[.int .u8 x] 5 k)) (some ⟨w.heap.size, 0, none⟩) 1 1 [b] := by
  subst hx
  refine ⟨rfl, Nat.le_refl _, by unfold LIM; omega, by unfold maxLen; omega, fun j u hu => ⟨_, rfl, Nat.le_refl _, ?_⟩⟩
  exact World.news_of_block (heap_alloc_new w _) j u (by simpa [u8] using hu)
theorem kc2 (w : World) (o : Obj) (C : Array Value) (n c : Nat) : (convert 23 23 (.slice (some ⟨w.heap.size + 1, 0, none⟩) n c)).run Try.prog ((w.alloc o).alloc (.cells C 5)) = .ok (.slice (some ⟨w.heap.size + 1, 0, none⟩) n c) ((w.alloc o).alloc (.cells C 5 (C.size, C.size + 1))) := by
  have := Lib.run_convert_bytes_const (P := Try.prog) (w.alloc o) 23 5 C n c Try.underlying23 Try.underlying5
  rwa [show (w.alloc o).heap.size = w.heap.size + 1 from by simp] at this
set_option maxRecDepth 100000 in
set_option maxHeartbeats 2000000 in
theorem known_calls (w : World) : Calls Try.prog 16 #[] w fun e w' => e = .returned (.bool true) ∧ Below w.heap.size w w' := by
  have kc := fun (w : World) (C : Array Value) (n c : Nat) => Lib.run_convert_bytes_const (P := Try.prog) w 23 5 C n c Try.underlying23 Try.underlying5
  have kc2 := kc2
  have hI := Bi.lit w [1, 3] 2 rfl (by omega) #[.int .i64 1, .int .i64 3] rfl
  have hb1 : Below w.heap.size w (w.alloc (.cells #[.int .i64 1, .int .i64 3] 3)) := (Below.refl _ _).alloc (Nat.le_refl _) _
  have hN := New_calls _ hI
  have hs1 : (w.alloc (.cells #[.int .i64 1, .int .i64 3] 3)).heap.size = w.heap.size + 1 := by simp
  have HN := Sec.mk hN; clear hN
  go_enter Try.func16, Try.ntmps16
  go_wp2_with (fail)
  generalize w.alloc (.cells #[.int .i64 1, .int .i64 3] 3) = W at HN hI hb1 hs1 ⊢
  ((with_reducible refine HN.out.mono ?_); rintro e w2 ⟨t, rfl, ht, hTab, hb2⟩)
  go_wp2_with (fail)
  have m1 := marked1 w2 97 97 rfl (1, 2)
  have m2 := marked1 (w2.alloc (.cells #[.int .u8 97] 5 (1, 2))) 120 120 rfl (1, 2)
  have s2 : (w2.alloc (.cells #[.int .u8 97] 5 (1, 2))).heap.size = w2.heap.size + 1 := by simp
  rw [s2] at m2
  have b3 : Below w2.heap.size w2 ((w2.alloc (.cells #[.int .u8 97] 5 (1, 2))).alloc (.cells #[.int .u8 120] 5 (1, 2))) := ((Below.refl _ _).alloc (Nat.le_refl _) _).alloc (by simp) _
  have hP := Put_calls _ t [1, 3] [] ⟨[], (hTab.below b3), rfl⟩ OrdE.nil (by decide) (by decide) _ _ _ [97] (m1.alloc (.cells #[.int .u8 120] 5 (1, 2))) 1 1 rfl 1 _ _ _ [120] m2
  rw [known1] at hP
  have HP := Sec.mk hP; clear hP m1 m2
  generalize (w2.alloc (.cells #[.int .u8 97] 5 (1, 2))).alloc (.cells #[.int .u8 120] 5 (1, 2)) = w3 at HP b3 ⊢
  ((with_reducible refine HP.out.mono ?_); rintro e w4 ⟨rfl, hTab4, hK4⟩)
  go_wp2_with (fail)
  have hb3 : Below w.heap.size w w3 := (below_then hb1 (by omega) hb2).trans (b3.mono (by have := hb2.size; omega))
  have hb4 := hK4.below hb3 (fun b hb => by omega) hb3.size
  have m3 := marked1 w4 97 97 rfl (1, 2)
  have b4 : Below w4.heap.size w4 (w4.alloc (.cells #[.int .u8 97] 5 (1, 2))) := (Below.refl _ _).alloc (Nat.le_refl _) _
  have hb5 := hb4.trans (b4.mono hb4.size)
  have hP2 := Put_calls _ t [1, 3] _ (hTab4.below b4) (by have := putE_ord OrdE.nil (hs := [1, 3]) [97] 1 1 [120]; rwa [known1] at this) (by decide) (by decide) _ _ _ [97] m3 3 3 rfl 0 _ _ _ [] (Bs.empty (fun _ => True) _)
  rw [known2] at hP2
  have HP2 := Sec.mk hP2; clear hP2 m3
  have HTF : Sec (∀ b, (fun b => (W.heap.size ≤ b ∧ b < w2.heap.size) ∨ w3.heap.size ≤ b ∧ b < w4.heap.size) b → w.heap.size ≤ b) := ⟨fun b hb => by have := hb3.size; have := hb1.size; omega⟩
  clear hTab4 hK4 hTab hI HP
  generalize (w4.alloc (.cells #[.int .u8 97] 5 (1, 2))) = w5 at HP2 b4 hb5 ⊢
  ((with_reducible refine HP2.out.mono ?_); rintro e w6 ⟨rfl, hTab6, hK6⟩)
  have hb6 := hK6.below hb5 HTF.out hb5.size
  go_wp2_with (fail)
  have m4 := marked1 w6 97 97 rfl (1, 2)
  have b6 : Below w6.heap.size w6 (w6.alloc (.cells #[.int .u8 97] 5 (1, 2))) := (Below.refl _ _).alloc (Nat.le_refl _) _
  have hb7 := hb6.trans (b6.mono hb6.size)
  have hTab7 := hTab6.below b6
  have hO : OrdE [(k2, [], 3), (k1, [120], 1)] := by
    have := putE_ord (putE_ord OrdE.nil (hs := [1, 3]) [97] 1 1 [120]) (hs := [1, 3]) [97] 3 0 []
    rwa [known1, known2] at this
  have hG := GetE_calls _ t [1, 3] _ hTab7 hO _ _ _ [97] m4 2 2 rfl
  rw [known3] at hG
  have HG := Sec.mk hG; clear hG m4
  have HO := Sec.mk hO; clear hO
  generalize (w6.alloc (.cells #[.int .u8 97] 5 (1, 2))) = w7 at HG hTab7 hb7 ⊢
  ((with_reducible refine HG.out.mono ?_); rintro e w8 ⟨A8, n8, c8, rfl, ho8, hb8⟩)
  have k8 := run_conv_bs ho8.bsT 23 9 Try.underlying23 Try.underlying5 Try.underlying9
  have hL := LevelE_calls w8 t [1, 3] _ (hTab7.below hb8) (by decide) 1 1 rfl (by decide)
  have HL := Sec.mk hL; clear hL
  have hb78 := below_then hb7 hb7.size hb8
  have hx : ((bstr [120]).toList == [120]) = true := by rw [bstr_toList]; rfl
  go_wp2_with (fail)
  ((with_reducible refine HL.out.mono ?_); rintro e w9 ⟨A9, n9, c9, rfl, ho9, hb9⟩)
  have hn9 : n9 = 1 := by rw [ho9.len, known4]
  subst hn9
  go_wp2
  go_ret
  exact ⟨rfl, below_then hb78 hb78.size hb9⟩
end Go.Proofs.Ytimeehjbifbfgaa
