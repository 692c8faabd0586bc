/- The walks of a table of towers: New. -/
import Derived.Test.YtimeehjbifbfgaaMd
import Derived.Test.YtimeehjbifbfgaaTu
namespace Go.Proofs.Ytimeehjbifbfgaa
open Go.RowKit Go.Mo
set_option linter.unusedVariables false
set_option linter.unusedSimpArgs false
theorem info3 : (Try.prog.info? 3).map (fun i => (i.zero, i.size, i.bytes)) = some (some (.int .i64 0), 1, 8) := by kernel_rfl

theorem CloneI_calls {S : Nat → Prop} {A : Option Addr} {n c : Nat} {l : List Int} (w : World) (hl : Sec (n = l.length)) (hn : n ≤ 4294967296) (hnc : n ≤ c) (hc : c ≤ maxLen) (h : Cs S w A (l.map (.int .i64))) :
    Calls Try.prog 61 #[.slice A n c] w fun e w' => ∃ A' c', e = .returned (.slice A' n c') ∧ w'.ownsRow w.heap.size 3 1 (.slice A' n c') n (l.map (.int .i64)) ∧ Below w.heap.size w w' := by
  have he := fun (W : World) => Lib.run_eql_slice_nil (P := Try.prog) W 27 3 A n c 0 0 Try.underlying27
  rcases A with _ | ad
  · have hl0 : l = [] := by
      cases l with
      | nil => rfl
      | cons x xs => obtain ⟨ad, e, _⟩ := h 0 (.int .i64 x) (by simp); cases e
    have hn0 : n = 0 := by rw [hl.out, hl0]; rfl
    subst hn0; subst hl0
    go_enter Try.func61, Try.ntmps61
    go_wp2
    go_ret
    exact ⟨_, _, rfl, World.ownsRow_nil _ _ 3 1, Below.refl _ _⟩
  · have ho : (w.alloc (.cells #[] 3)).ownsRow w.heap.size 3 1 (.slice (some ⟨w.heap.size, 0, none⟩) 0 0) 0 [] :=
      ⟨by simp, .inr ⟨w.heap.size, _, _, rfl, Nat.le_refl _, heap_alloc_new w _, Nat.le_refl _, Nat.zero_le _, by simp, by simp⟩⟩
    have hB : Below w.heap.size w (w.alloc (.cells #[] 3)) := (Below.refl _ _).alloc (Nat.le_refl _) _
    have hcs : Cs S (w.alloc (.cells #[] 3)) (some ad) (l.map (.int .i64)) := fun j u hj => by
      obtain ⟨ad', e, h1, h2⟩ := h j u hj
      exact ⟨ad', e, h1, cell_later hB h2⟩
    unfold maxLen at hc
    go_enter Try.func61, Try.ntmps61
    go_wp2_with (at_builtin; go_loud (refine wpList_append_cs _ rfl (.tmp 5) (.tmp 6) 27 rfl w.heap.size 3 Try.underlying27 info3 rfl (by omega) _ _ _ [] rfl ho S _ _ _ (l.map (.int .i64)) rfl (by rw [List.length_map, ← hl.out]; omega) hcs (by simp [Value.oneCell']) ?c1 ?c2 ?c3 ?_); (case c1 => unfold maxLen; omega); (case c2 => omega); (case c3 => exact hB.size); intro A' c' w1 ho' hbl hg hat)
    go_ret
    exact ⟨_, _, rfl, by simpa using ho', hB.trans hbl⟩

theorem New_calls {S : Nat → Prop} {A : Option Addr} {n c : Nat} {l : List Int} (w : World) (h : Bi S w A n c l) :
    Calls Try.prog 17 #[.slice A n c] w fun e w' => ∃ t, e = .returned (.pointer (some ⟨t, 0, none⟩)) ∧ w.heap.size ≤ t ∧ Tab (fun b => w.heap.size ≤ b ∧ b < w'.heap.size) w' t l [] ∧ Below w.heap.size w w' := by
  obtain ⟨hl, hnc, hn, hc, hcs⟩ := h
  have hC := CloneI_calls w ⟨hl⟩ hn hnc hc hcs
  have HC := Sec.mk hC; clear hC
  have HL := Sec.mk hl; clear hl
  go_enter Try.func17, Try.ntmps17
  go_wp2_with (go_at_call 61; (with_reducible refine HC.out.mono ?_); rintro e w2 ⟨A', c', rfl, ho, hb⟩)
  go_ret
  have hsz := hb.size
  have ho1 := ho.alloc (.cells #[.slice A' n c', .slice none 0 0, .slice none 0 0, .int .i64 0, .pointer none, .pointer none, .pointer none, .pointer none, .pointer none, .pointer none, .pointer none, .pointer none, .pointer none, .pointer none, .pointer none, .pointer none, .int .i64 0, .int .i64 0] 111)
  refine ⟨w2.heap.size, rfl, hsz, ⟨A', n, c', ⟨⟨hsz, by simp⟩, Blk.new _ _ _, fun k d hk => by simp at hk, fun k d hk => by simp at hk⟩, HL.out, (own_len ho).1, hn, (own_len ho).2, ?_⟩, hb.alloc hsz _⟩
  intro j u hu
  obtain ⟨ad, e, h1, h2⟩ := Cs.of_own (S := fun b => w.heap.size ≤ b) ho (fun b h1 _ => h1) j u hu
  subst e
  have hlt := World.block_lt_of_cell? w2 _ h2
  rw [block_add] at hlt
  exact ⟨ad, rfl, ⟨⟨h1, by simp; omega⟩, by omega, by simp⟩, cell_later ((Below.refl _ _).alloc (Nat.le_refl _) _) h2⟩
end Go.Proofs.Ytimeehjbifbfgaa
