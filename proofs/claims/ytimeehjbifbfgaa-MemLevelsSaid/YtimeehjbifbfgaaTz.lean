/- What a call that writes a table leaves. -/
import Derived.Test.YtimeehjbifbfgaaTy
namespace Go.Mo
open Go.RowKit
/-- Of what there was only blocks of T may have turned. -/
structure Kt (T : Nat → Prop) (w w' : World) : Prop where
  os : w'.os = w.os
  tape : w'.tape = w.tape
  output : w'.output = w.output
  size : w.heap.size ≤ w'.heap.size
  block : ∀ k, k < w.heap.size → ¬ T k → w'.heap[k]? = w.heap[k]?
section
variable {T : Nat → Prop} {w w' w'' : World}
theorem Kt.refl (T : Nat → Prop) (w : World) : Kt T w w := ⟨rfl, rfl, rfl, Nat.le_refl _, fun _ _ _ => rfl⟩
theorem Kt.trans (h : Kt T w w') (k : Kt T w' w'') : Kt T w w'' :=
  ⟨k.os.trans h.os, k.tape.trans h.tape, k.output.trans h.output, Nat.le_trans h.size k.size, fun i hi hT => (k.block i (Nat.lt_of_lt_of_le hi h.size) hT).trans (h.block i hi hT)⟩
theorem Kt.of_below (h : Below w.heap.size w w') : Kt T w w' := ⟨h.os, h.tape, h.output, h.size, fun k hk _ => h.block k hk⟩
theorem Kt.mono {T' : Nat → Prop} (h : Kt T w w') (hT : ∀ b, b < w.heap.size → T b → T' b) : Kt T' w w' := ⟨h.os, h.tape, h.output, h.size, fun k hk hn => h.block k hk fun e => hn (hT k hk e)⟩
theorem Kt.setCell {p : Addr} (hp : T p.block) (u : Value) : Kt T w (w.setCell p u) :=
  ⟨rfl, rfl, rfl, by simp [World.setCell], fun k _ hn => Below.heap_setCell w p u k (fun e => hn (e ▸ hp))⟩
theorem Kt.drewN (n : Nat) : Kt T w (w.drewN n) := ⟨rfl, rfl, rfl, Nat.le_refl _, fun _ _ _ => rfl⟩
theorem Kt.agree {S : Nat → Prop} (h : Kt T w w') (hS : ∀ b, S b → ¬ T b) : Agree S w w' := fun b hb hlt => h.block b hlt (hS b hb)
/-- Where T's blocks are new to an elder world, that one's blocks are as they were. -/
theorem Kt.below {B : Nat} {a : World} (hb : Below B a w) (h : Kt T w w') (hT : ∀ b, T b → B ≤ b) (hB : B ≤ w.heap.size) : Below B a w' :=
  ⟨h.os.trans hb.os, h.tape.trans hb.tape, h.output.trans hb.output, Nat.le_trans hb.size h.size, fun k hk => (h.block k (by omega) (fun e => by have := hT k e; omega)).trans (hb.block k hk)⟩
end
end Go.Mo
