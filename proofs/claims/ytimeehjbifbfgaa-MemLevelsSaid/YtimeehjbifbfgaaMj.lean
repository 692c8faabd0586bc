/- A table's calls, by its entries. -/
import Derived.Test.YtimeehjbifbfgaaMi
import Derived.Test.YtimeehjbifbfgaaPm
namespace Go.Mo
open Go.RowKit
set_option linter.unusedVariables false
def en (d : Nd) : En := (d.key, d.value, d.h)
/-- The bytes of entries. -/
def sizeE : List En → Nat
  | [] => 0
  | e :: l => e.1.length + e.2.1.length + sizeE l
theorem sizeN_eq (N : List Nd) : sizeN N = sizeE (N.map en) := by
  induction N with
  | nil => rfl
  | cons d N ih => simp only [List.map_cons, sizeN, sizeE, ih]; rfl
/-- A table that holds entries, all in blocks of F. -/
def TabE (F : Nat → Prop) (w : World) (t : Nat) (hs : List Int) (E : List En) : Prop := ∃ N, Tab F w t hs N ∧ N.map en = E
section
variable {F F' : Nat → Prop} {w w' : World} {t : Nat} {hs : List Int} {E : List En}
theorem TabE.agree (h : TabE F w t hs E) (hb : Agree F w w') : TabE F w' t hs E := by obtain ⟨N, h1, h2⟩ := h; exact ⟨N, h1.agree hb, h2⟩
theorem TabE.below (h : TabE F w t hs E) (hb : Below w.heap.size w w') : TabE F w' t hs E := h.agree (.of_below hb F)
theorem TabE.mono (h : TabE F w t hs E) (hF : ∀ b, F b → F' b) : TabE F' w t hs E := by obtain ⟨N, h1, h2⟩ := h; exact ⟨N, h1.mono hF, h2⟩
theorem TabE.here (h : TabE F w t hs E) : TabE (fun b => F b ∧ b < w.heap.size) w t hs E := by obtain ⟨N, h1, h2⟩ := h; exact ⟨N, h1.here, h2⟩
end
/-- What Put tells, and what entries there are behind it. -/
def putE (hs : List Int) (E : List En) (u : List UInt8) (s : Nat) (k : Int) (v : List UInt8) : Nat × List En :=
  if (keyI u s k).2 ≠ 0 then ((keyI u s k).2, E) else if 16384 < v.length then (61, E) else
  if ∃ e ∈ E, e.1 = (keyI u s k).1 then (60, E) else (0, insE E ((keyI u s k).1, v, Go.Proofs.Ytimeehjbifbfgaa.heightI hs E.length))
/-- What Get tells. -/
def getE (E : List En) (u : List UInt8) (s : Nat) : List UInt8 × Nat × Bool :=
  if u.length ≤ 128 then match E[posE E (keyB u (min s 72057594037927935) 1)]? with
    | some e => if (splitI e.1).1 = u then (e.2.1, (splitI e.1).2.2.1, true) else ([], 0, false)
    | none => ([], 0, false)
  else ([], 0, false)
theorem keyB_le {u : List UInt8} {s k : Nat} (h : u.length ≤ 128) : (keyB u s k).length ≤ 136 := by rw [keyB_len]; omega
theorem posN_lt {N : List Nd} {key : List UInt8} {j : Nat} {d : Nd} (hj : j < posE (N.map en) key) (hd : N[j]? = some d) : (compareI d.key key).1 < 0 := by
  have := posE_lt hj (e := en d) (by rw [List.getElem?_map, hd]; rfl)
  exact this
theorem posN_ge {N : List Nd} (hE : OrdE (N.map en)) {key : List UInt8} (hk : KOk key) {j : Nat} {d : Nd} (hj : posE (N.map en) key ≤ j) (hd : N[j]? = some d) : 0 ≤ (compareI d.key key).1 := by
  have := posE_ge hE hk hj (e := en d) (by rw [List.getElem?_map, hd]; rfl)
  exact this
theorem map_get {N : List Nd} {k : Nat} {d : Nd} (h : N[k]? = some d) : (N.map en)[k]? = some (en d) := by rw [List.getElem?_map, h]; rfl
theorem hok_of {N : List Nd} (h : OrdE (N.map en)) : HOk N := fun k d hd => h.hok (en d) (List.mem_map_of_mem (List.mem_of_getElem? hd))
theorem map_ins (N : List Nd) (x : Nd) : (ins N (posE (N.map en) x.key) x).map en = insE (N.map en) (en x) := by
  unfold ins insE
  rw [List.map_append, List.map_cons, List.map_take, List.map_drop]
  rfl
/-- The keys whose towers are higher than a level. -/
def levelE (E : List En) (i : Nat) : List (List UInt8) := (E.filter fun e => decide (i < e.2.2)).map (·.1)
end Go.Mo
namespace Go.Proofs.Ytimeehjbifbfgaa
open Go.RowKit Go.Mo
set_option linter.unusedVariables false
set_option linter.unusedSimpArgs false

theorem Put_calls {F : Nat → Prop} (w : World) (t : Nat) (hs : List Int) (E : List En) (hTab : TabE F w t hs E) (hE : OrdE E) (hn : E.length < 4294967296) (hsz : sizeE E ≤ 4294967296) {S S' : Nat → Prop} (A : Option Addr) (m c : Nat) (u : List UInt8) (hu : Bs S w A m c u)
    (s : Nat) (X : Int) (hX : X = (s : Int)) (k : Int) (B : Option Addr) (q e : Nat) (v : List UInt8) (hv : Bs S' w B q e v) :
    Calls Try.prog 18 #[.pointer (some ⟨t, 0, none⟩), .slice A m c, .int .u64 X, .int .i64 k, .slice B q e] w fun e w' =>
      e = .returned (.int .i64 ((putE hs E u s k v).1 : Int)) ∧ TabE (fun b => F b ∨ (w.heap.size ≤ b ∧ b < w'.heap.size)) w' t hs (putE hs E u s k v).2 ∧ Kt F w w' := by
  subst hX
  have below : ∀ {w' : World}, Below w.heap.size w w' → TabE (fun b => F b ∨ (w.heap.size ≤ b ∧ b < w'.heap.size)) w' t hs E ∧ Kt F w w' := fun hb => ⟨(hTab.below hb).mono fun b h => .inl h, Kt.of_below hb⟩
  unfold putE
  by_cases h1 : (keyI u s k).2 ≠ 0
  · rw [if_pos h1]
    refine (Put_fault w t A m c u hu s k B q e v hv ⟨.inl h1⟩).mono ?_
    rintro e w' ⟨rfl, hb⟩
    rw [if_pos h1]
    exact ⟨rfl, below hb⟩
  · rw [if_neg h1]
    by_cases h2 : 16384 < v.length
    · rw [if_pos h2]
      refine (Put_fault w t A m c u hu s k B q e v hv ⟨.inr h2⟩).mono ?_
      rintro e w' ⟨rfl, hb⟩
      rw [if_neg h1]
      exact ⟨rfl, below hb⟩
    · rw [if_neg h2]
      have h0 : (keyI u s k).2 = 0 := by omega
      obtain ⟨hu1, hs1, hk1, hkey, hok, _⟩ := keyI_ok h0
      have hvl : q ≤ 16384 := by rw [hv.len]; omega
      obtain ⟨N, hN, rfl⟩ := hTab
      have hh := hok_of hE
      have hp : posE (N.map en) (keyI u s k).1 ≤ N.length := by have := posE_le (N.map en) (keyI u s k).1; simpa using this
      have p1 : ∀ j d, j < posE (N.map en) (keyI u s k).1 → N[j]? = some d → (compareI d.key (keyI u s k).1).1 < 0 := fun j d hj hd => posN_lt hj hd
      have p2 : ∀ j d, posE (N.map en) (keyI u s k).1 ≤ j → N[j]? = some d → 0 ≤ (compareI d.key (keyI u s k).1).1 := fun j d hj hd => posN_ge hE hok hj hd
      have hki : keyI u s k = ((keyI u s k).1, 0) := by rw [← h0]
      by_cases h3 : ∃ e ∈ N.map en, e.1 = (keyI u s k).1
      · rw [if_pos h3]
        obtain ⟨x, hx, hxk⟩ := (posE_there hE hok).1 h3
        rw [List.getElem?_map, Option.map_eq_some_iff] at hx
        obtain ⟨d, hd, rfl⟩ := hx
        obtain ⟨hA, hq, hc, hT, hB⟩ := id hN
        refine (Put_twice w t _ _ _ N hT ⟨hh⟩ A m c u hu s k B q e v hv _ ⟨hki⟩ hvl _ hp ⟨p1⟩ ⟨p2⟩ d ⟨hd⟩ ⟨hxk⟩).mono ?_
        rintro e w' ⟨rfl, hb⟩
        exact ⟨rfl, below hb⟩
      · rw [if_neg h3]
        have hno : ∀ d, N[posE (N.map en) (keyI u s k).1]? = some d → d.key ≠ (keyI u s k).1 := fun d hd e => h3 ⟨en d, List.mem_map_of_mem (List.mem_of_getElem? hd), e⟩
        have hkl : (keyI u s k).1.length ≤ 136 := by rw [hkey]; exact keyB_le hu1
        refine (Put_new w t hs N hN (by simpa using hn) (by rw [sizeN_eq]; exact hsz) ⟨hh⟩ A m c u hu s k B q e v hv _ ⟨hki⟩ ⟨hkl⟩ hvl _ hp ⟨p1⟩ ⟨p2⟩ ⟨hno⟩).mono ?_
        rintro e w' ⟨g, rfl, hTab', hK⟩
        refine ⟨rfl, ⟨_, hTab', ?_⟩, hK⟩
        have := map_ins N ⟨g, (keyI u s k).1, v, heightI hs N.length⟩
        rw [this, List.length_map]
        rfl

set_option maxRecDepth 100000 in
/-- Get of a user key that is too long. -/
theorem Get_long (w : World) (t : Nat) {S : Nat → Prop} (A : Option Addr) (m c : Nat) (u : List UInt8) (hu : Bs S w A m c u) (s : Nat) (X : Int) (hX : X = (s : Int)) (hul : 128 < u.length) :
    Calls Try.prog 19 #[.pointer (some ⟨t, 0, none⟩), .slice A m c, .int .u64 X] w fun e w' => e = .returned (.tuple #[.slice none 0 0, .int .i64 0, .bool false]) ∧ Below w.heap.size w w' := by
  have hk : ∀ s, keyI u s 1 = ([], 23) := fun s => by
    unfold keyI; rw [if_neg (fun h => by have := ((rightI_iff _ _ _).1 h).1; omega)]
  have hF : ∀ (s : Nat) (X : Int), X = (s : Int) → Calls Try.prog 67 #[.pointer (some ⟨t, 0, none⟩), .slice A m c, .int .u64 X] w fun e w' => e = .returned (.pointer none) ∧ Below w.heap.size w w' := fun s X hX => by
    subst hX
    have hK := Key_calls s 1 w hu
    rw [hk s] at hK
    have HK := Sec.mk hK; clear hK hk
    go_enter Try.func67, Try.ntmps67
    go_wp2_with (go_at_call 62; (with_reducible refine HK.out.mono ?_); rintro e w2 ⟨A2, m2, c2, rfl, ho2, hb2⟩)
    go_ret
    exact ⟨rfl, hb2⟩
  subst hX
  rcases Nat.lt_or_ge 72057594037927935 s with hs1 | hs1
  · have HF := Sec.mk (hF 72057594037927935 72057594037927935 rfl); clear hF hk hul
    go_enter Try.func19, Try.ntmps19
    go_wp2_with fail
    ((with_reducible refine HF.out.mono ?_); rintro e w2 ⟨rfl, hb2⟩)
    go_wp2
    go_ret3
    exact ⟨rfl, hb2⟩
  · have HF := Sec.mk (hF s (s : Int) rfl); clear hF hk hul
    go_enter Try.func19, Try.ntmps19
    go_wp2_with fail
    ((with_reducible refine HF.out.mono ?_); rintro e w2 ⟨rfl, hb2⟩)
    go_wp2
    go_ret3
    exact ⟨rfl, hb2⟩

theorem GetE_calls {F : Nat → Prop} (w : World) (t : Nat) (hs : List Int) (E : List En) (hTab : TabE F w t hs E) (hE : OrdE E) {S : Nat → Prop} (A : Option Addr) (m c : Nat) (u : List UInt8) (hu : Bs S w A m c u) (s : Nat) (X : Int) (hX : X = (s : Int)) :
    Calls Try.prog 19 #[.pointer (some ⟨t, 0, none⟩), .slice A m c, .int .u64 X] w fun e w' =>
      ∃ A' m' c', e = .returned (.tuple #[.slice A' m' c', .int .i64 ((getE E u s).2.1 : Int), .bool (getE E u s).2.2]) ∧ Ob w.heap.size w' A' m' c' (getE E u s).1 ∧ Below w.heap.size w w' := by
  unfold getE
  by_cases hul : u.length ≤ 128
  · rw [if_pos hul]
    obtain ⟨N, hN, rfl⟩ := hTab
    obtain ⟨hA, hq, hc, hT, hB⟩ := hN
    have hke : keyI u (min s 72057594037927935) 1 = (keyB u (min s 72057594037927935) 1, 0) := by
      unfold keyI; rw [if_pos ((rightI_iff _ _ _).2 ⟨hul, Nat.min_le_right _ _, .inr rfl⟩)]; rfl
    have hok : KOk (keyB u (min s 72057594037927935) 1) := by
      have := (keyI_ok (u := u) (s := min s 72057594037927935) (k := 1) (by rw [hke])).2.2.2.2.1
      rwa [hke] at this
    have hp : posE (N.map en) (keyB u (min s 72057594037927935) 1) ≤ N.length := by have := posE_le (N.map en) (keyB u (min s 72057594037927935) 1); simpa using this
    refine (Get_calls w t _ _ _ N hT ⟨hok_of hE⟩ _ A m c u hu s X hX ⟨hul⟩ (posE (N.map en) (keyB u (min s 72057594037927935) 1)) hp ⟨fun j d hj hd => by rw [hke]; exact posN_lt hj hd⟩ ⟨fun j d hj hd => by rw [hke]; exact posN_ge hE hok hj hd⟩).mono ?_
    rintro e w' ⟨A', m', c', rfl, ho, hb⟩
    have hg : getAt N[posE (N.map en) (keyB u (min s 72057594037927935) 1)]? u = (match (N.map en)[posE (N.map en) (keyB u (min s 72057594037927935) 1)]? with
      | some e => if (splitI e.1).1 = u then (e.2.1, (splitI e.1).2.2.1, true) else ([], 0, false)
      | none => ([], 0, false)) := by
      rw [List.getElem?_map]
      cases N[posE (N.map en) (keyB u (min s 72057594037927935) 1)]? <;> rfl
    rw [hg] at ho ⊢
    exact ⟨A', m', c', rfl, ho, hb⟩
  · rw [if_neg hul]
    refine (Get_long w t A m c u hu s X hX (by omega)).mono ?_
    rintro e w' ⟨rfl, hb⟩
    exact ⟨_, _, _, rfl, Ob.nil _ _, hb⟩
theorem LenE_calls {F : Nat → Prop} (w : World) (t : Nat) (hs : List Int) (E : List En) (hTab : TabE F w t hs E) :
    Calls Try.prog 23 #[.pointer (some ⟨t, 0, none⟩)] w fun e w' => e = .returned (.int .i64 (E.length : Int)) ∧ w = w' := by
  obtain ⟨N, ⟨hA, hq, hc, hT, hB⟩, rfl⟩ := hTab
  rw [List.length_map]
  exact Len_calls w t _ _ _ N hT
theorem SizeE_calls {F : Nat → Prop} (w : World) (t : Nat) (hs : List Int) (E : List En) (hTab : TabE F w t hs E) :
    Calls Try.prog 28 #[.pointer (some ⟨t, 0, none⟩)] w fun e w' => e = .returned (.int .i64 (sizeE E : Int)) ∧ w = w' := by
  obtain ⟨N, ⟨hA, hq, hc, hT, hB⟩, rfl⟩ := hTab
  rw [← sizeN_eq]
  exact Size_calls w t _ _ _ N hT
theorem levelN_eq (N : List Nd) (i : Nat) : levelN N i = levelE (N.map en) i := by
  unfold levelN levelE
  rw [List.filter_map, List.map_map]
  rfl
theorem LevelE_calls {F : Nat → Prop} (w : World) (t : Nat) (hs : List Int) (E : List En) (hTab : TabE F w t hs E) (hN : E.length < 4294967296) (i : Nat) (X : Int) (hX : X = (i : Int)) (hi : i < 12) :
    Calls Try.prog 22 #[.pointer (some ⟨t, 0, none⟩), .int .i64 X] w fun e w' => ∃ A m c, e = .returned (.slice A m c) ∧ Oa repB 23 w.heap.size (fun b => w.heap.size ≤ b) w' A m c (levelE E i) ∧ Below w.heap.size w w' := by
  obtain ⟨N, ⟨hA, hq, hc, hT, hB⟩, rfl⟩ := hTab
  subst hX
  rw [← levelN_eq]
  exact Level_calls w t _ _ _ N hT (by simpa using hN) i hi
end Go.Proofs.Ytimeehjbifbfgaa
