/- known walked: one encoding, one decoding that fails. -/
import Derived.Test.YtlpmnhnlhleogaaWh
import Derived.Lib.SlBytesConst
namespace Go.Proofs.Ytlpmnhnlhleogaa
open Go.RowKit Go.Mo
set_option linter.unusedVariables false
set_option linter.unusedSimpArgs false

def dog : It := .mk false [100, 111, 103] []
theorem enc_dog : encI dog = ([131, 100, 111, 103], 0) := by
  unfold dog encI
  simp [sizeI, sizeI.sizeL, ownB, headB, putI]
theorem dec_129 : decI [129, 5] = (It0, 40) := by
  unfold decI firstTop
  simp [firstI, readsI, ownB]
theorem wt_dog : wt dog < 256 ^ 5 := by unfold dog; simp [wt, wt.wts]
theorem dog_at {S : Nat → Prop} {w : World} {A : Option Addr} {n c : Nat} (h : Bs S w A n c [100, 111, 103]) : ItR S w dog [.bool false, .slice A n c, .slice none 0 0] :=
  ItR.of_parts h rfl (Nat.le_refl _) (Nat.zero_le _) (Nat.zero_le _) (ItsR.mk_get fun k x hx => by simp [dog, It.items] at hx)


theorem marked_bs (w : World) : Bs (fun _ => True) (w.alloc (.cells #[.int .u8 100, .int .u8 111, .int .u8 103] 5 (3, 4))) (some ⟨w.heap.size, 0, none⟩) 3 3 [100, 111, 103] := by
  refine ⟨rfl, by omega, by decide, by decide, fun j u hj => ⟨_, rfl, trivial, ?_⟩⟩
  have hl : (w.alloc (.cells #[.int .u8 100, .int .u8 111, .int .u8 103] 5 (3, 4))).heap[w.heap.size]? = some (.cells #[.int .u8 100, .int .u8 111, .int .u8 103] 5 (3, 4)) := by
    show (w.heap.push _)[w.heap.size]? = _
    simp
  exact World.news_of_block hl j u hj

set_option maxHeartbeats 1000000 in
theorem known_calls (w : World) : Calls Try.prog 4 #[] w fun e w' => e = .returned (.bool true) ∧ Below w.heap.size w w' := by
  have kc := fun (w : World) (C : Array Value) (n c : Nat) => Lib.run_convert_bytes_const (P := Try.prog) w 22 5 C n c Try.underlying22 Try.underlying5
  have hB0 : Below w.heap.size w (w.alloc (.cells #[.int .u8 100, .int .u8 111, .int .u8 103] 5 (3, 4))) := (Below.refl _ _).alloc (Nat.le_refl _) _
  have hC := Encode_calls dog ⟨wt_dog⟩ _ _ _ _ _ _ _ _ (dog_at (marked_bs w))
  rw [enc_dog, show dog.list = false from rfl] at hC
  have HC := Sec.mk hC; clear hC
  go_enter Try.func4, Try.ntmps4
  go_wp2_with fail
  ((with_reducible refine HC.out.mono ?_); rintro e w3 ⟨A3, n3, c3, rfl, ho3, hB3⟩)
  have hB4 := below_then hB0 hB0.size hB3
  have ho5 := Ob.lit w3 (Nat.le_refl _) [129, 5] 2 rfl (by decide) #[.int .u8 129, .int .u8 5] rfl
  have hD := Decode_calls _ _ _ _ _ _ ho5.bsT
  rw [dec_129, show It0.list = false from rfl] at hD
  have HD := Sec.mk hD; clear hD
  have hB5 := hB4.alloc hB4.size (.cells #[.int .u8 129, .int .u8 5] 5)
  go_wp2_with fail
  ((with_reducible refine HD.out.mono ?_); rintro e w6 ⟨A6, n6, c6, B6, q6, q7, rfl, hm6⟩)
  have hB6 := below_then hB5 hB5.size hm6.2
  have k1 := run_conv_bs (((ho3.bsT.alloc (.cells #[.int .u8 129, .int .u8 5] 5)).below hm6.2).alloc (.cells #[.bool false, .slice A6 n6 c6, .slice B6 q6 q7] 25)) 22 9 Try.underlying22 Try.underlying5 Try.underlying9
  go_wp2
  go_ret
  exact ⟨by show Ending.returned (.bool ((bstr [131, 100, 111, 103]).toList == [131, 100, 111, 103])) = _; rw [bstr_toList]; rfl, by first | exact hB6 | exact hB6.alloc hB6.size _⟩
end Go.Proofs.Ytlpmnhnlhleogaa
