/- A node put into a table in memory: a level's step, the counts. -/
import Derived.Test.YtimeehjbifbfgaaTu
namespace Go.Mo
open Go.RowKit
section
variable {F : Nat → Prop} {w : World} {t : Nat} {hs : Value} {n size : Nat} {N : List Nd} {lv : Nat → Nat → Value}
theorem Tw.adrF (h : Tw F w t hs n size N lv) {a : Nat} (ha : a ≤ N.length) : F (adr t N a).block := by
  cases a with
  | zero => exact h.ft
  | succ k =>
    have hd : N[k]? = some (N[k]'(by omega)) := by simp
    simp only [adr, hd]
    exact (h.apart k _ hd).1
theorem Tw.linkFree (h : Tw F w t hs n size N lv) {a i : Nat} (ha : a ≤ N.length) {B O : Nat} (e : adr t N a = ⟨B, O, none⟩) : w.frozen? ⟨B, O + 3 + i, none⟩ = false := by
  cases a with
  | zero =>
    simp only [adr] at e
    injection e with e1 e2
    subst e1; subst e2
    exact h.head.frozen _
  | succ k =>
    have hd : N[k]? = some (N[k]'(by omega)) := by simp
    simp only [adr, hd] at e
    injection e with e1 e2
    subst e1; subst e2
    obtain ⟨A, m, c, B, q, e, h1, _⟩ := h.node k _ hd
    exact h1.frozen _
theorem Tw.drew (h : Tw F w t hs n size N lv) : Tw F w.drew t hs n size N lv := h.agree fun _ _ _ => rfl
theorem adr_block {a : Nat} (ha : a ≤ N.length) : (adr t N a).block = t ∨ ∃ x ∈ N, (adr t N a).block = x.g := by
  cases a with
  | zero => exact .inl rfl
  | succ k =>
    have hd : N[k]? = some (N[k]'(by omega)) := by simp
    simp only [adr, hd]
    exact .inr ⟨_, List.mem_of_getElem? hd, rfl⟩
theorem adr_ins_le {p a : Nat} {x : Nd} (ha : a ≤ p) (hp : p ≤ N.length) : adr t (ins N p x) a = adr t N a := by
  cases a with
  | zero => rfl
  | succ k => simp only [adr]; rw [ins_get_lt (by omega) hp]
theorem adr_ins_eq {p : Nat} {x : Nd} (hp : p ≤ N.length) : adr t (ins N p x) (p + 1) = ⟨x.g, 0, none⟩ := by
  simp only [adr]; rw [ins_get_eq hp]
theorem lvM_read {p i : Nat} {x : Nd} : lvM N p x i (lastAt N i p) i = lvIn N (lastAt N i p) i := by
  have := lastAt_le N i p
  unfold lvM
  rw [if_neg (by omega), if_neg (by omega), if_pos this]
/-- A level's step in memory: the new node's link, then the last high place's. -/
theorem tw_step {p i : Nat} {x : Nd} (hp : p ≤ N.length) (hi : i < x.h) (hi12 : i < 12) (h : Tw F w t hs n size (ins N p x) (lvM N p x i)) {B O : Nat} (e : adr t N (lastAt N i p) = ⟨B, O, none⟩) :
    Tw F ((w.setCell ⟨x.g, 3 + i, none⟩ (lvIn N (lastAt N i p) i)).setCell ⟨B, O + 3 + i, none⟩ (.pointer (some ⟨x.g, 0, none⟩))) t hs n size (ins N p x) (lvM N p x (i + 1)) := by
  have hL := lastAt_le N i p
  have hlen := ins_length (x := x) hp
  have h1 := h.turn (a := p + 1) (i := i) (by omega) hi12 (adr_ins_eq hp) (lvIn N (lastAt N i p) i)
  rw [show 0 + 3 + i = 3 + i from by omega] at h1
  have h2 := h1.turn (a := lastAt N i p) (i := i) (by omega) hi12 (by rw [adr_ins_le hL hp]; exact e) (.pointer (some ⟨x.g, 0, none⟩))
  have hf : (fun b => if b = lastAt N i p then upd ((fun b => if b = p + 1 then upd (lvM N p x i (p + 1)) i (lvIn N (lastAt N i p) i) else lvM N p x i b) (lastAt N i p)) i (.pointer (some ⟨x.g, 0, none⟩))
      else (fun b => if b = p + 1 then upd (lvM N p x i (p + 1)) i (lvIn N (lastAt N i p) i) else lvM N p x i b) b) = lvM N p x (i + 1) := by
    funext b
    rw [lvM_step hp hi b]
    by_cases hb : b = p + 1
    · subst hb
      rw [if_neg (by omega), if_pos rfl]
      simp
    · rw [if_neg hb]
      by_cases hb2 : b = lastAt N i p
      · subst hb2
        rw [if_pos rfl, if_pos rfl]
        simp only [if_neg hb]
        rfl
      · rw [if_neg hb2, if_neg hb2]
        simp only [if_neg hb]
  exact hf ▸ h2
theorem Tw.setN (h : Tw F w t hs n size N lv) (n' : Nat) : Tw F (w.setCell ⟨t, 16, none⟩ (.int .i64 (n' : Int))) t hs n' size N lv :=
  ⟨h.ft, h.head.set 16 _, fun k d hk => by
    obtain ⟨A, m, c, B, q, e, h1, h2, h3⟩ := h.node k d hk
    exact ⟨A, m, c, B, q, e, h1.far (h.apart k d hk).2.1 _, h2.setCell (fun h => h.2.1 rfl) _, h3.setCell (fun h => h.2.1 rfl) _⟩, h.apart⟩
theorem Tw.setS (h : Tw F w t hs n size N lv) (s' : Nat) : Tw F (w.setCell ⟨t, 17, none⟩ (.int .i64 (s' : Int))) t hs n s' N lv :=
  ⟨h.ft, h.head.set 17 _, fun k d hk => by
    obtain ⟨A, m, c, B, q, e, h1, h2, h3⟩ := h.node k d hk
    exact ⟨A, m, c, B, q, e, h1.far (h.apart k d hk).2.1 _, h2.setCell (fun h => h.2.1 rfl) _, h3.setCell (fun h => h.2.1 rfl) _⟩, h.apart⟩
end
theorem Kt.setCell' {T : Nat → Prop} {w w' : World} (h : Kt T w w') {p : Addr} (hp : T p.block ∨ w.heap.size ≤ p.block) (u : Value) : Kt T w (w'.setCell p u) :=
  ⟨h.os, h.tape, h.output, by simpa [World.setCell] using h.size, fun i hi hn => (Below.heap_setCell w' p u i (by
    rintro rfl
    rcases hp with hp | hp
    · exact hn hp
    · omega)).trans (h.block i hi hn)⟩
theorem Kt.drew {T : Nat → Prop} {w w' : World} (h : Kt T w w') : Kt T w w'.drew := ⟨h.os, h.tape, h.output, h.size, h.block⟩
theorem Kt.drewN' {T : Nat → Prop} {w w' : World} (h : Kt T w w') (n : Nat) : Kt T w (w'.drewN n) := ⟨h.os, h.tape, h.output, h.size, h.block⟩
theorem Kt.then_below {T : Nat → Prop} {w w' w'' : World} {B : Nat} (h : Kt T w w') (hb : Below B w' w'') (hB : w.heap.size ≤ B) : Kt T w w'' :=
  ⟨hb.os.trans h.os, hb.tape.trans h.tape, hb.output.trans h.output, Nat.le_trans h.size hb.size, fun k hk hne => (hb.block k (Nat.lt_of_lt_of_le hk hB)).trans (h.block k hk hne)⟩
end Go.Mo
