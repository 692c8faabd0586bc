/- A new node beside a table: its links are none yet. -/
import Derived.Test.YtimeehjbifbfgaaTz
namespace Go.Mo
open Go.RowKit
theorem Tw.ins {F F' : Nat → Prop} {w : World} {t : Nat} {hs : Value} {n size : Nat} {N : List Nd} (h0 : TwIn F w t hs n size N) (hF : ∀ b, F b → F' b) {p : Nat} (hp : p ≤ N.length) {x : Nd} (hFx : F' x.g) (hxF : ¬ F x.g) {A : Option Addr} {m c : Nat} {B : Option Addr} {q e : Nat}
    (hx : Blk w x.g 109 (ndCells (.slice A m c) (.slice B q e) x.h fun _ => .pointer none)) (hk : Bs (fun b => F' b ∧ b ≠ x.g ∧ ¬ F b) w A m c x.key) (hv : Bs (fun b => F' b ∧ b ≠ x.g ∧ ¬ F b) w B q e x.value) :
    Tw F' w t hs n size (Go.Mo.ins N p x) (lvM N p x 0) := by
  have h : TwIn F' w t hs n size N := Tw.mono h0 hF
  have hxt : x.g ≠ t := fun e => hxF (e ▸ h0.ft)
  have hxN : ∀ y ∈ N, x.g ≠ y.g := fun y hy e => by
    obtain ⟨k, hk⟩ := List.mem_iff_getElem?.1 hy
    exact hxF (e ▸ (Tw.apart h0 k y hk).1)
  have hmem : ∀ b, F' b → b ≠ t → b ≠ x.g → (∀ y ∈ N, b ≠ y.g) → (F' b ∧ b ≠ t ∧ ∀ y ∈ Go.Mo.ins N p x, b ≠ y.g) := fun b h1 h2 h3 h4 => ⟨h1, h2, fun y hy => by
    unfold Go.Mo.ins at hy
    rw [List.mem_append, List.mem_cons] at hy
    rcases hy with hy | hy | hy
    · exact h4 y (List.mem_of_mem_take hy)
    · rw [hy]; exact h3
    · exact h4 y (List.mem_of_mem_drop hy)⟩
  have hnew : ∀ b, (F' b ∧ b ≠ x.g ∧ ¬ F b) → (F' b ∧ b ≠ t ∧ ∀ y ∈ Go.Mo.ins N p x, b ≠ y.g) := fun b hb => hmem b hb.1 (fun e => hb.2.2 (e ▸ h0.ft)) hb.2.1 fun y hy e => by
    obtain ⟨k, hk⟩ := List.mem_iff_getElem?.1 hy
    exact hb.2.2 (e ▸ (Tw.apart h0 k y hk).1)
  have hold : ∀ b, (F b ∧ b ≠ t ∧ ∀ x ∈ N, b ≠ x.g) → (F' b ∧ b ≠ t ∧ ∀ y ∈ Go.Mo.ins N p x, b ≠ y.g) := fun b hb => hmem b (hF b hb.1) hb.2.1 (fun e => hxF (e ▸ hb.1)) hb.2.2
  have key : ∀ (k : Nat) (d : Nd), N[k]? = some d → ∃ A m c B q e, Blk w d.g 109 (ndCells (.slice A m c) (.slice B q e) d.h (lvIn N (k + 1))) ∧
      Bs (fun b => F' b ∧ b ≠ t ∧ ∀ y ∈ Go.Mo.ins N p x, b ≠ y.g) w A m c d.key ∧ Bs (fun b => F' b ∧ b ≠ t ∧ ∀ y ∈ Go.Mo.ins N p x, b ≠ y.g) w B q e d.value := fun k d hd => by
    obtain ⟨A, m, c, B, q, e, h1, h2, h3⟩ := Tw.node h0 k d hd
    exact ⟨A, m, c, B, q, e, h1, h2.mono hold, h3.mono hold⟩
  have hpos : ∀ (k : Nat) (d : Nd), (Go.Mo.ins N p x)[k]? = some d → (k < p ∧ N[k]? = some d) ∨ (k = p ∧ d = x) ∨ (p < k ∧ N[k - 1]? = some d) := fun k d hd => by
    rcases Nat.lt_trichotomy k p with h | h | h
    · rw [ins_get_lt h hp] at hd; exact .inl ⟨h, hd⟩
    · subst h; rw [ins_get_eq hp] at hd; injection hd with hd; exact .inr (.inl ⟨rfl, hd.symm⟩)
    · rw [ins_get_gt h hp] at hd; exact .inr (.inr ⟨h, hd⟩)
  refine ⟨h.ft, ?_, fun k d hd => ?_, fun k d hd => ⟨?_, ?_, fun j y hj e => ?_⟩⟩
  · have e : lvM N p x 0 0 = lvIn N 0 := funext fun j => lvM_zero_le (Nat.zero_le _) j
    rw [e]; exact Tw.head h
  · rcases hpos k d hd with ⟨h1, h2⟩ | ⟨rfl, rfl⟩ | ⟨h1, h2⟩
    · have e : lvM N p x 0 (k + 1) = lvIn N (k + 1) := funext fun j => lvM_zero_le (by omega) j
      rw [e]; exact key k d h2
    · have e : lvM N k d 0 (k + 1) = fun _ => .pointer none := funext fun j => lvM_zero_x j
      rw [e]; exact ⟨A, m, c, B, q, _, hx, hk.mono hnew, hv.mono hnew⟩
    · have e : lvM N p x 0 (k + 1) = lvIn N (k - 1 + 1) := funext fun j => by rw [lvM_zero_gt (by omega) j]; congr 1; omega
      rw [e]; exact key (k - 1) d h2
  · rcases hpos k d hd with ⟨_, h2⟩ | ⟨_, rfl⟩ | ⟨_, h2⟩
    · exact (Tw.apart h k d h2).1
    · exact hFx
    · exact (Tw.apart h _ d h2).1
  · rcases hpos k d hd with ⟨_, h2⟩ | ⟨_, rfl⟩ | ⟨_, h2⟩
    · exact (Tw.apart h k d h2).2.1
    · exact hxt
    · exact (Tw.apart h _ d h2).2.1
  · rcases hpos k d hd with ⟨h1, h2⟩ | ⟨h1, h2⟩ | ⟨h1, h2⟩ <;> rcases hpos j y hj with ⟨g1, g2⟩ | ⟨g1, g2⟩ | ⟨g1, g2⟩
    · exact (Tw.apart h k d h2).2.2 j y g2 e
    · subst g2; exact absurd e.symm (hxN d (List.mem_of_getElem? h2))
    · have := (Tw.apart h k d h2).2.2 _ y g2 e; omega
    · subst h2; exact absurd e (hxN y (List.mem_of_getElem? g2))
    · omega
    · subst h2; exact absurd e (hxN y (List.mem_of_getElem? g2))
    · have := (Tw.apart h _ d h2).2.2 j y g2 e; omega
    · subst g2; exact absurd e.symm (hxN d (List.mem_of_getElem? h2))
    · have := (Tw.apart h _ d h2).2.2 _ y g2 e; omega
end Go.Mo
