/- The walks of a table of towers: Put, of an entry that is there. -/
import Derived.Test.YtimeehjbifbfgaaMf
namespace Go.Proofs.Ytimeehjbifbfgaa
open Go.RowKit Go.Mo
set_option linter.unusedVariables false
set_option linter.unusedSimpArgs false

set_option maxRecDepth 100000 in
set_option maxHeartbeats 2000000 in
/-- Put of a key that is there. -/
theorem Put_twice {F : Nat → Prop} (w : World) (t : Nat) (hs : Value) (n size : Nat) (N : List Nd) (hT : TwIn F w t hs n size N) (hh : Sec (HOk N)) {S S' : Nat → Prop} (A : Option Addr) (m c : Nat) (u : List UInt8) (hu : Bs S w A m c u) (s : Nat) (k : Int) (B : Option Addr) (q e : Nat) (v : List UInt8) (hv : Bs S' w B q e v)
    (key : List UInt8) (hk : Sec (keyI u s k = (key, 0))) (hvl : q ≤ 16384) (p : Nat) (hp : p ≤ N.length) (h1 : Sec (∀ k d, k < p → N[k]? = some d → (compareI d.key key).1 < 0)) (h2 : Sec (∀ k d, p ≤ k → N[k]? = some d → 0 ≤ (compareI d.key key).1))
    (d : Nd) (hd : Sec (N[p]? = some d)) (hdk : Sec (d.key = key)) :
    Calls Try.prog 18 #[.pointer (some ⟨t, 0, none⟩), .slice A m c, .int .u64 (s : Int), .int .i64 k, .slice B q e] w fun e w' =>
      e = .returned (.int .i64 60) ∧ Below w.heap.size w w' := by
  have hK := Key_calls s k w hu
  rw [hk.out] at hK
  have HK := Sec.mk hK; clear hK
  obtain ⟨BB, O, hadr, hO⟩ := adr_form t N p
  have HA := Sec.mk hadr; clear hadr
  have HT := Sec.mk hT; clear hT
  go_enter Try.func18, Try.ntmps18
  go_wp2_with (go_at_call 62; (with_reducible refine HK.out.mono ?_); rintro e w2 ⟨A2, m2, c2, rfl, ho2, hb2⟩)
  have hT2 : TwIn F w2 t hs n size N := Tw.below HT.out hb2
  ((with_reducible refine (before_calls w2 t hs n size N hT2 _ A2 m2 c2 key ho2.bs p hp h1 h2).mono ?_); rintro e w3 ⟨rfl, hb3⟩)
  have hT3 : TwIn F w3 t hs n size N := Tw.below hT2 hb3
  obtain ⟨A4, m4, c4, B4, q4, e4, hblk, hkey, hval⟩ := Tw.node hT3 p d hd.out
  have hlk : w3.cell? ⟨BB, O + 3, none⟩ = some (.pointer (some ⟨d.g, 0, none⟩)) := by
    have := Tw.link hT3 (a := p) (i := 0) hp (by omega) HA.out
    rw [lvIn_zero hh.out hp, hd.out] at this
    exact this
  have z0 : w3.cell? ⟨d.g, 0, none⟩ = some (.slice A4 m4 c4) := hblk.cell 0
  simp only [row12]
  rw [lastAt_zero hh.out hp, HA.out]
  rw [hdk.out] at hkey
  generalize hcs : (#[.pointer (some ⟨BB, O, none⟩), .pointer (some (adr t N (lastAt N 1 p))), .pointer (some (adr t N (lastAt N 2 p))), .pointer (some (adr t N (lastAt N 3 p))), .pointer (some (adr t N (lastAt N 4 p))), .pointer (some (adr t N (lastAt N 5 p))), .pointer (some (adr t N (lastAt N 6 p))), .pointer (some (adr t N (lastAt N 7 p))), .pointer (some (adr t N (lastAt N 8 p))), .pointer (some (adr t N (lastAt N 9 p))), .pointer (some (adr t N (lastAt N 10 p))), .pointer (some (adr t N (lastAt N 11 p)))] : Array Value) = cs
  have hB4 : Below w3.heap.size w3 (w3.alloc (.cells cs 107)) := (Below.refl _ _).alloc (Nat.le_refl _) _
  have y0 := cell_later hB4 hlk
  have y1 := cell_later hB4 z0
  have hE := Equal_calls _ (hkey.below hB4) ((ho2.bsT.below hb3).below hB4)
  rw [show decide (key = key) = true from by simp] at hE
  subst hcs
  have HE := Sec.mk hE; clear hE
  go_wp2_with (go_at_call 64; (with_reducible refine HE.out.mono ?_); rintro e w6 ⟨rfl, rfl⟩)
  go_ret
  exact ⟨rfl, (below_then hb2 hb2.size hb3).trans (hB4.mono (by have := hb2.size; have := hb3.size; omega))⟩
end Go.Proofs.Ytimeehjbifbfgaa
