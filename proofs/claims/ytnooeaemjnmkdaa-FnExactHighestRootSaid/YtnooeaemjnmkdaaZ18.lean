/-
  Contracts of the places of braid moves and of braid moves one after the other, of the program and of the reference.
  Contracts of membership in lists of roots and of copies of matrices; a word read off its inversions, as plain functions.
  Contracts of ReducedWords, of the reference: a search by braid moves, and insertions in the order of words.
  A search for a path of braid moves, and a word's text.
  The contract of BraidPath of the reference.
-/
import Derived.Test.YtnooeaemjnmkdaaZ17
namespace Go.Proofs.Ytnooeaemjnmkdaa.Hx
open Go.RowKit
variable {dm : Bool}

theorem ap_none {c : List (List Int)} {w l : List Int} (h : braids c w l = none) : apOk c w l = false ∧ apW c w l = w := by simp [apOk, apW, h]
theorem ap_off {c : List (List Int)} {w l : List Int} (h : isWord c w = false) : apOk c w l = false ∧ apW c w l = w := by
  refine ⟨by simp [apOk, h], ?_⟩
  match l with
  | [] => rfl
  | n :: l => exact (ap_none (braids_word (l := n :: l) (by simp) h)).2
theorem ap_some {c : List (List Int)} {w l x : List Int} (h : braids c w l = some x) : apOk c w l = isWord c w ∧ apW c w l = x := by simp [apOk, apW, h]


theorem impl_BraidPlaces (h : Heap) (x0 : H0) (a0 : List (List Int)) (x1 : H0) (a1 : List Int) (hx0 : Rows h x0 a0) (hx1 : Ints h x1 a1) (s0 : a0.length ≤ 1048576 ∧ tot a0 ≤ 1048576) (s1 : a1.length ≤ 1048576) :
    HCalls dm Try.prog 37 [.s x0, .s x1] h (fun r h' => ∃ y, r = .s y ∧ Fresh h h' y (brTo a0 a1 a1.length)) := by
  have E0 := Ext.push h [Row.own []]
  have O0 := OwnR.push h []
  have hx10 := hx1.ext E0
  refine calls_of_hFun (m := 0) kd_ok mixed Try.func37 rfl (by kernel_rfl) rfl rfl (of_decide_eq_true rfl) ?_; unfold hFun; (conv => whnf)
  refine HLit.empty ?_
  (conv => whnf)
  refine ⟨rfl, hx10.len ?_⟩
  (conv => whnf)
  refine HLoop.intro [12, 5] [13, 14, 6, 16, 17, 18, 19, 15, 20, 21, 7, 8, 22, 23, 24, 25, 26, 5, 27, 12] (by kernel_rfl) (by kernel_rfl) (fun vs h' => ∃ (k : Nat) (z : H0) (r : Nat), vs = [I k, .s z] ∧ k ≤ a1.length ∧ Ext h h' ∧ h.length ≤ r ∧ OwnR r h' z (brTo a0 a1 k)) (fun vs _ => a1.length - natAt vs 0) ⟨0, _, h.length, rfl, by omega, E0, Nat.le_refl _, O0⟩ ?_
  rintro vs h' ⟨k, z, r, rfl, hk, E, hr, O⟩
  have hbl := brTo_le a0 a1 k
  (conv => whnf)
  refine HIf.dec (fun hlt => ?_) (fun hge => ?_)
  · (conv => whnf)
    refine (impl_BraidAt0 _ _ a0 _ a1 (k : Int) (hx0.ext E) (hx1.ext E) s0 s1).mono ?_
    rintro r2 h2 ⟨y2, rfl, f2⟩
    have E2 := E.trans f2.1
    have hE2 := E2.1
    have O2 := O.ext f2.1
    cases hb : brOk a0 a1 k
    · rw [← brTo_out hb] at O2
      (conv => whnf)
      refine HIf.no ?_
      (conv => whnf)
      refine HArith.fits (by omega) (by omega) ?_
      (conv => whnf)
      exact ⟨⟨k + 1, z, r, rfl, by omega, E2, hr, O2⟩, by show a1.length - (k + 1) < a1.length - k; omega⟩
    · (conv => whnf)
      refine HIf.yes ?_
      (conv => whnf)
      refine HLit.one ?_
      (conv => whnf)
      refine ⟨rfl, rfl, HApp.snocR O2 (by omega) (fun h3 r3 y3 B3 hr3 O3 => ?_)⟩
      rw [← brTo_in hb] at O3
      (conv => whnf)
      refine HArith.fits (by omega) (by omega) ?_
      (conv => whnf)
      exact ⟨⟨k + 1, y3, r3, rfl, by omega, E2.but B3 hr, by omega, O3⟩, by show a1.length - (k + 1) < a1.length - k; omega⟩
  · have e : k = a1.length := by omega
    subst e
    (conv => whnf)
    exact ⟨_, rfl, Fresh.ofRow E O hr⟩

theorem spec_BraidPlaces (h : Heap) (x0 : H0) (a0 : List (List Int)) (x1 : H0) (a1 : List Int) (hx0 : Rows h x0 a0) (hx1 : Ints h x1 a1) (s0 : a0.length ≤ 1048576 ∧ tot a0 ≤ 1048576) (s1 : a1.length ≤ 1048576) :
    HCalls dm Try.prog 30 [.s x0, .s x1] h (fun r h' => ∃ y, r = .s y ∧ Fresh h h' y (brTo a0 a1 a1.length)) := by
  have E0 := Ext.push h [Row.own []]
  have O0 := OwnR.push h []
  refine calls_of_hFun (m := 0) kd_ok mixed Try.func30 rfl (by kernel_rfl) rfl rfl (of_decide_eq_true rfl) ?_; unfold hFun; (conv => whnf)
  refine HLit.empty ?_
  (conv => whnf)
  refine HLoop.intro [6, 5] [10, 11, 12, 13, 17, 18, 19, 20, 16, 21, 22, 7, 8, 23, 24, 25, 26, 27, 5, 14, 15, 6] (by kernel_rfl) (by kernel_rfl) (fun vs h' => ∃ (k : Nat) (z : H0) (r : Nat), vs = [I k, .s z] ∧ k ≤ a1.length ∧ Ext h h' ∧ h.length ≤ r ∧ OwnR r h' z (brTo a0 a1 k)) (fun vs _ => a1.length - natAt vs 0) ⟨0, _, h.length, rfl, by omega, E0, Nat.le_refl _, O0⟩ ?_
  rintro vs h' ⟨k, z, r, rfl, hk, E, hr, O⟩
  have hbl := brTo_le a0 a1 k
  have hx11 := hx1.ext E
  (conv => whnf)
  refine ⟨rfl, hx11.len ?_⟩
  (conv => whnf)
  refine HIf.dec (fun hlt => ?_) (fun hge => ?_)
  · (conv => whnf)
    refine (spec_BraidAt0 _ _ a0 _ a1 (k : Int) (hx0.ext E) (hx1.ext E) s0 s1).mono ?_
    rintro r2 h2 ⟨y2, rfl, f2⟩
    have E2 := E.trans f2.1
    have hE2 := E2.1
    have O2 := O.ext f2.1
    cases hb : brOk a0 a1 k
    · rw [← brTo_out hb] at O2
      (conv => whnf)
      refine HIf.no ?_
      (conv => whnf)
      refine HArith.fits (by omega) (by omega) ?_
      (conv => whnf)
      exact ⟨⟨k + 1, z, r, rfl, by omega, E2, hr, O2⟩, by show a1.length - (k + 1) < a1.length - k; omega⟩
    · (conv => whnf)
      refine HIf.yes ?_
      (conv => whnf)
      refine HLit.one ?_
      (conv => whnf)
      refine ⟨rfl, rfl, HApp.snocR O2 (by omega) (fun h3 r3 y3 B3 hr3 O3 => ?_)⟩
      rw [← brTo_in hb] at O3
      (conv => whnf)
      refine HArith.fits (by omega) (by omega) ?_
      (conv => whnf)
      exact ⟨⟨k + 1, y3, r3, rfl, by omega, E2.but B3 hr, by omega, O3⟩, by show a1.length - (k + 1) < a1.length - k; omega⟩
  · have e : k = a1.length := by omega
    subst e
    (conv => whnf)
    exact ⟨_, rfl, Fresh.ofRow E O hr⟩

end Go.Proofs.Ytnooeaemjnmkdaa.Hx

namespace Go.Proofs.Ytnooeaemjnmkdaa.Hx
open Go.RowKit
variable {dm : Bool}

theorem takeL_snoc (L : List (List Int)) {k : Nat} (h : k < L.length) : L.take (k + 1) = L.take k ++ [L.getD k []] := by
  rw [List.take_succ_eq_append_getElem h]
  simp [List.getD, h]
theorem memL_snoc {L : List (List Int)} {a : List Int} {k : Nat} (hk : k < L.length) (h : a ∉ L.take k) (h2 : L.getD k [] ≠ a) : a ∉ L.take (k + 1) := by
  rw [takeL_snoc L hk]
  simp only [List.mem_append, List.mem_singleton, not_or]
  exact ⟨h, fun e => h2 e.symm⟩
theorem memL_at {L : List (List Int)} {a : List Int} {k : Nat} (hk : k < L.length) (h2 : L.getD k [] = a) : a ∈ L := by
  have : L[k] = a := by simpa [List.getD, hk] using h2
  rw [← this]
  exact List.getElem_mem hk

/-- The first simple root in a list. -/
def firstS (c : List (List Int)) (L : List (List Int)) : Option Nat := (List.range c.length).find? fun i => decide (simpleRoot c (i : Nat) ∈ L)
/-- The first k roots reflected, the simple one left out; nothing if one of them is not positive or comes twice. -/
def nextTo (c : List (List Int)) (i : Nat) (L : List (List Int)) : Nat → Option (List (List Int))
  | 0 => some []
  | k + 1 => match nextTo c i L k with
    | none => none
    | some R => if L.getD k [] = simpleRoot c (i : Nat) then some R else if rootSign (reflectRoot c (i : Nat) (L.getD k [])) = 1 ∧ reflectRoot c (i : Nat) (L.getD k []) ∉ R then some (R ++ [reflectRoot c (i : Nat) (L.getD k [])]) else none
def woi (c : List (List Int)) : Nat → List (List Int) → List Int → Option (List Int)
  | 0, _, _ => none
  | f + 1, L, o => if L.length = 0 then some o else match firstS c L with
    | none => none
    | some i => match nextTo c i L L.length with
      | none => none
      | some R => woi c f R (o ++ [(i : Int)])
def woiOk (c : List (List Int)) (L : List (List Int)) : Bool := isCartan c && (woi c 16 L []).isSome
def woiW (c : List (List Int)) (L : List (List Int)) : List Int := if isCartan c then (woi c 16 L []).getD [] else []

theorem firstS_at {c L : List (List Int)} {i : Nat} (hi : i < c.length) (h : simpleRoot c (i : Nat) ∈ L) (hb : ∀ t : Nat, t < i → simpleRoot c (t : Nat) ∉ L) : firstS c L = some i := by
  unfold firstS
  rw [List.find?_range_eq_some]
  exact ⟨decide_eq_true h, by simpa using hi, fun t ht => by simp [hb t ht]⟩
theorem firstS_none {c L : List (List Int)} (hb : ∀ t : Nat, t < c.length → simpleRoot c (t : Nat) ∉ L) : firstS c L = none := by
  unfold firstS
  rw [List.find?_range_eq_none]
  intro t ht
  simp [hb t ht]
theorem nextTo_skip {c L R : List (List Int)} {i k : Nat} (h : nextTo c i L k = some R) (h2 : L.getD k [] = simpleRoot c (i : Nat)) : nextTo c i L (k + 1) = some R := by
  rw [nextTo, h]
  simp only
  rw [if_pos h2]
theorem nextTo_add {c L R : List (List Int)} {i k : Nat} (h : nextTo c i L k = some R) (h2 : L.getD k [] ≠ simpleRoot c (i : Nat)) (h3 : rootSign (reflectRoot c (i : Nat) (L.getD k [])) = 1) (h4 : reflectRoot c (i : Nat) (L.getD k []) ∉ R) :
    nextTo c i L (k + 1) = some (R ++ [reflectRoot c (i : Nat) (L.getD k [])]) := by
  rw [nextTo, h]
  simp only
  rw [if_neg h2, if_pos ⟨h3, h4⟩]
theorem nextTo_bad {c L R : List (List Int)} {i k : Nat} (h : nextTo c i L k = some R) (h2 : L.getD k [] ≠ simpleRoot c (i : Nat)) (h3 : rootSign (reflectRoot c (i : Nat) (L.getD k [])) ≠ 1 ∨ reflectRoot c (i : Nat) (L.getD k []) ∈ R) : nextTo c i L (k + 1) = none := by
  rw [nextTo, h]
  simp only
  rw [if_neg h2, if_neg]
  rintro ⟨a, b⟩
  rcases h3 with h3 | h3
  · exact h3 a
  · exact b h3
theorem nextTo_none {c L : List (List Int)} {i k : Nat} (h : nextTo c i L k = none) : ∀ m, k ≤ m → nextTo c i L m = none := by
  intro m hm
  induction m with
  | zero =>
    have : k = 0 := by omega
    subst this
    exact h
  | succ m ih =>
    by_cases e : k = m + 1
    · subst e; exact h
    · rw [nextTo, ih (by omega)]
theorem woi_done {c L : List (List Int)} {f : Nat} {o : List Int} (h : L.length = 0) : woi c (f + 1) L o = some o := by
  rw [woi, if_pos h]
theorem woi_nofirst {c L : List (List Int)} {f : Nat} {o : List Int} (h : L.length ≠ 0) (h2 : firstS c L = none) : woi c (f + 1) L o = none := by
  rw [woi, if_neg h, h2]
theorem woi_nonext {c L : List (List Int)} {f i : Nat} {o : List Int} (h : L.length ≠ 0) (h2 : firstS c L = some i) (h3 : nextTo c i L L.length = none) : woi c (f + 1) L o = none := by
  rw [woi, if_neg h, h2]
  simp only
  rw [h3]
theorem woi_next {c L R : List (List Int)} {f i : Nat} {o : List Int} (h : L.length ≠ 0) (h2 : firstS c L = some i) (h3 : nextTo c i L L.length = some R) : woi c (f + 1) L o = woi c f R (o ++ [(i : Int)]) := by
  rw [woi, if_neg h, h2]
  simp only
  rw [h3]
theorem woi_one {c L : List (List Int)} {o : List Int} (h : L.length ≠ 0) : woi c 1 L o = none := by
  cases h2 : firstS c L with
  | none => exact woi_nofirst h h2
  | some i =>
    cases h3 : nextTo c i L L.length with
    | none => exact woi_nonext h h2 h3
    | some R => rw [woi_next h h2 h3, woi]
theorem woi_off {c L : List (List Int)} (h : isCartan c = false) : woiOk c L = false ∧ woiW c L = [] := by simp [woiOk, woiW, h]
theorem woi_some {c L : List (List Int)} {o : List Int} (h : isCartan c = true) (h2 : woi c 16 L [] = some o) : woiOk c L = true ∧ woiW c L = o := by simp [woiOk, woiW, h, h2]
theorem woi_none {c L : List (List Int)} (h2 : woi c 16 L [] = none) : woiOk c L = false ∧ woiW c L = [] := by
  refine ⟨by simp [woiOk, h2], ?_⟩
  unfold woiW
  rw [h2]
  split <;> rfl
theorem woi_len {c : List (List Int)} : ∀ (f : Nat) (L : List (List Int)) (o y : List Int), woi c f L o = some y → y.length ≤ o.length + f
  | 0, _, _, _, h => by rw [woi] at h; cases h
  | f + 1, L, o, y, h => by
    rw [woi] at h
    split at h
    · injection h with h
      subst h
      omega
    · split at h
      · cases h
      · split at h
        · cases h
        · have := woi_len f _ _ y h
          simp only [List.length_append, List.length_cons, List.length_nil] at this
          omega
theorem woiW_len (c L : List (List Int)) : (woiW c L).length ≤ 16 := by
  unfold woiW
  split
  · cases h : woi c 16 L [] with
    | none => simp
    | some y =>
      have := woi_len 16 L [] y h
      simpa using this
  · simp
theorem rootSign_cases (a : List Int) : rootSign a = 0 ∨ rootSign a = 1 ∨ rootSign a = -1 := by
  unfold rootSign
  split
  · exact Or.inl rfl
  · split
    · exact Or.inr (Or.inl rfl)
    · exact Or.inr (Or.inr rfl)
theorem letter_root {c : List (List Int)} (h : isCartan c = true) {i : Nat} (hi : i < c.length) : simpleRoot c (i : Nat) = (List.replicate c.length (0 : Int)).set (i : Int).toNat 1 :=
  simpleRoot_eq h (by simp [isPoint, inRange]; omega)
theorem tot_app (L : List (List Int)) (l : List Int) : tot (L ++ [l]) = tot L + l.length := by
  rw [← flat_len, ← flat_len, List.flatten_append]
  simp

/-- A slice of slices that is only read: it lay there before, or lies in rows of its own, not row r. -/
def RdM (h0 : Heap) (r : Nat) (h : Heap) (y : H0) (L : List (List Int)) : Prop := Rows h0 y L ∨ ∃ b e, e ≤ h.length ∧ (r < b ∨ e ≤ r) ∧ OwnM b e h y L
theorem OwnM.but {b e r : Nat} {h h' : Heap} {x : H0} {L : List (List Int)} (H : OwnM b e h x L) (k : But r h h') (o : r < b ∨ e ≤ r) : OwnM b e h' x L := by
  obtain ⟨q, ρ, g1, g2, g3, g4, m⟩ := H
  refine ⟨q, ρ, g1, g2, g3, g4, m.move ?_ (fun i hi => ?_)⟩
  · obtain ⟨cs, h1, _⟩ := m.outer
    exact k.2 q (get_lt h1) (by omega)
  · obtain ⟨t, h1⟩ := m.inner i hi
    have := g4 i hi
    exact k.2 _ (get_lt h1) (by omega)
theorem RdM.rows {h0 h : Heap} {r : Nat} {y : H0} {L : List (List Int)} (H : RdM h0 r h y L) (E : Ext h0 h) : Rows h y L := by
  rcases H with H | ⟨b, e, _, _, O⟩
  · exact H.ext E
  · exact O.rows
theorem RdM.ext {h0 h h' : Heap} {r : Nat} {y : H0} {L : List (List Int)} (H : RdM h0 r h y L) (E : Ext h h') : RdM h0 r h' y L := by
  rcases H with H | ⟨b, e, g1, g2, O⟩
  · exact Or.inl H
  · have := E.1
    exact Or.inr ⟨b, e, by omega, g2, O.ext E⟩
theorem RdM.but {h0 h h' : Heap} {r r' : Nat} {y : H0} {L : List (List Int)} (H : RdM h0 r h y L) (B : But r h h') (hr : h.length ≤ r') : RdM h0 r' h' y L := by
  rcases H with H | ⟨b, e, g1, g2, O⟩
  · exact Or.inl H
  · have := B.1
    exact Or.inr ⟨b, e, by omega, Or.inr (by omega), O.but B g2⟩


theorem impl_hasRoot_1 (h : Heap) (x : H0) (r : Nat) (y : H0) (a b : List Int) (hx : Ints h x a) (hr : At h (.ptr r 0) y) (hy : Ints h y b) (hbl : b.length ≤ 2199023255552) :
    HCalls dm Try.prog 80 [.s x, .s (.ptr r 0)] h (fun v h' => v = B (decide (b = a)) ∧ h' = h) := by
  refine calls_of_hFun (m := 0) kd_ok mixed Try.func80 rfl (by kernel_rfl) rfl rfl (of_decide_eq_true rfl) ?_; unfold hFun; (conv => whnf)
  refine ⟨rfl, hr.load ?_⟩
  (conv => whnf)
  refine (lib_Equal _ _ _ b a hy hx hbl).mono ?_
  rintro v h' ⟨rfl, rfl⟩
  (conv => whnf)
  exact ⟨rfl, rfl⟩

theorem lib_IndexFunc_root (h : Heap) (x : H0) (r : Nat) (y : H0) (L : List (List Int)) (w : List Int) (hx : Rows h x L) (hr : At h (.ptr r 0) y) (hy : Ints h y w) (hL : L.length ≤ 1048576) (hw : w.length ≤ 1048576) :
    HCalls dm Try.prog 101 [.s x, .fn 80 [.ptr r 0]] h (fun v h' => ∃ k : Int, v = I k ∧ (0 ≤ k ↔ w ∈ L) ∧ h' = h) := by
  refine calls_of_hFun (m := 0) kd_ok mixed Try.func101 rfl (by kernel_rfl) rfl rfl (of_decide_eq_true rfl) ?_; unfold hFun; (conv => whnf)
  refine ⟨rfl, hx.len ?_⟩
  (conv => whnf)
  refine HLoop.intro [8] [9, 10, 5, 11, 12, 13, 14, 15, 16, 17, 4, 18, 8] (by kernel_rfl) (by kernel_rfl) (fun vs h' => ∃ i : Nat, vs = [I i] ∧ h' = h ∧ i ≤ L.length ∧ w ∉ L.take i) (fun vs _ => L.length - natAt vs 0) ⟨0, rfl, rfl, by omega, by simp⟩ ?_
  rintro vs h' ⟨i, rfl, hh, hi, hb⟩
  subst h'
  (conv => whnf)
  refine HIf.dec (fun hlt => ?_) (fun hge => ?_)
  · (conv => whnf)
    refine ⟨rfl, Rows.idxN hx (by omega) (fun p z hp hz => ?_)⟩
    (conv => whnf)
    refine ⟨rfl, hp.load ?_⟩
    (conv => whnf)
    refine (impl_hasRoot_1 _ _ r y _ w hz hr hy (by omega)).mono ?_
    rintro v h2 ⟨rfl, hh⟩
    subst h2
    (conv => whnf)
    refine HIf.dec (fun he => ?_) (fun hne => ?_)
    · (conv => whnf)
      exact ⟨_, rfl, ⟨fun _ => memL_at (by omega) he.symm, fun _ => by omega⟩, rfl⟩
    · (conv => whnf)
      refine HArith.fits (by omega) (by omega) ?_
      (conv => whnf)
      exact ⟨⟨i + 1, rfl, rfl, by omega, memL_snoc (by omega) hb (Ne.symm hne)⟩, by show L.length - (i + 1) < L.length - i; omega⟩
  · have e : i = L.length := by omega
    subst e
    rw [List.take_length] at hb
    (conv => whnf)
    exact ⟨_, rfl, ⟨fun h => by omega, fun h => absurd h hb⟩, rfl⟩

theorem impl_hasRoot (h : Heap) (x0 : H0) (L : List (List Int)) (x1 : H0) (w : List Int) (hx0 : Rows h x0 L) (hx1 : Ints h x1 w) (hL : L.length ≤ 1048576) (hw : w.length ≤ 1048576) :
    HCalls dm Try.prog 53 [.s x0, .s x1] h (fun r h' => r = B (decide (w ∈ L)) ∧ Ext h h') := by
  have index : ∀ (r : Nat) (h2 : Heap), Ext h h2 → At h2 (.ptr r 0) x1 → HCalls dm Try.prog 79 [.s x0, .fn 80 [.ptr r 0]] h2 (fun v h' => v = B (decide (w ∈ L)) ∧ h' = h2) := by
    intro r h2 E hr
    refine calls_of_hFun (m := 0) kd_ok mixed Try.func79 rfl (by kernel_rfl) rfl rfl (of_decide_eq_true rfl) ?_; unfold hFun; (conv => whnf)
    refine (lib_IndexFunc_root _ _ r x1 L w (hx0.ext E) hr (hx1.ext E) hL hw).mono ?_
    rintro v h3 ⟨k, rfl, hk, hh⟩
    subst h3
    (conv => whnf)
    refine ⟨bEq ?_, rfl⟩
    by_cases h0 : w ∈ L
    · have := hk.2 h0
      simp [h0, this]
    · have : ¬ 0 ≤ k := fun h => h0 (hk.1 h)
      simp [h0]
      omega
  have E := Ext.push h [Row.own [x1]]
  refine calls_of_hFun (m := 0) kd_ok mixed Try.func53 rfl (by kernel_rfl) rfl rfl (of_decide_eq_true rfl) ?_; unfold hFun; (conv => whnf)
  refine ⟨rfl, ⟨x1, rfl, hx1.one, ?_⟩⟩
  (conv => whnf)
  refine (index h.length _ E (At.own (get_new _ _))).mono ?_
  rintro v h2 ⟨rfl, hh⟩
  subst h2
  (conv => whnf)
  exact ⟨rfl, E⟩

theorem spec_l7In (h : Heap) (x0 : H0) (L : List (List Int)) (x1 : H0) (w : List Int) (hx0 : Rows h x0 L) (hx1 : Ints h x1 w) (hL : L.length ≤ 1048576 ∧ tot L ≤ 1048576) :
    HCalls dm Try.prog 32 [.s x0, .s x1] h (fun r h' => r = B (decide (w ∈ L)) ∧ h' = h) := by
  refine calls_of_hFun (m := 0) kd_ok mixed Try.func32 rfl (by kernel_rfl) rfl rfl (of_decide_eq_true rfl) ?_; unfold hFun; (conv => whnf)
  refine HLoop.intro [5] [6, 7, 8, 9, 12, 13, 14, 15, 16, 17, 4, 10, 11, 5] (by kernel_rfl) (by kernel_rfl) (fun vs h' => ∃ i : Nat, vs = [I i] ∧ h' = h ∧ i ≤ L.length ∧ w ∉ L.take i) (fun vs _ => L.length - natAt vs 0) ⟨0, rfl, rfl, by omega, by simp⟩ ?_
  rintro vs h' ⟨i, rfl, hh, hi, hb⟩
  subst h'
  (conv => whnf)
  refine ⟨rfl, hx0.len ?_⟩
  (conv => whnf)
  refine HIf.dec (fun hlt => ?_) (fun hge => ?_)
  · have hle := len_le_tot (L := L) (i := i) (by omega)
    (conv => whnf)
    refine ⟨rfl, Rows.idxN hx0 (by omega) (fun p z hp hz => ?_)⟩
    (conv => whnf)
    refine ⟨rfl, hp.load ?_⟩
    (conv => whnf)
    refine (spec_EqualWords _ _ _ _ w hz hx1 (by omega)).mono ?_
    rintro v h2 ⟨rfl, hh⟩
    subst h2
    (conv => whnf)
    refine HIf.dec (fun he => ?_) (fun hne => ?_)
    · (conv => whnf)
      exact ⟨bEq (decide_eq_true (memL_at (by omega) he)), rfl⟩
    · (conv => whnf)
      refine HArith.fits (by omega) (by omega) ?_
      (conv => whnf)
      exact ⟨⟨i + 1, rfl, rfl, by omega, memL_snoc (by omega) hb hne⟩, by show L.length - (i + 1) < L.length - i; omega⟩
  · have e : i = L.length := by omega
    subst e
    rw [List.take_length] at hb
    (conv => whnf)
    exact ⟨bEq (decide_eq_false hb), rfl⟩

end Go.Proofs.Ytnooeaemjnmkdaa.Hx

namespace Go.Proofs.Ytnooeaemjnmkdaa.Hx
open Go.RowKit
variable {dm : Bool}

theorem HCallF.tupF {P : Program} {k : FuncId} {args : List HV} {h : Heap} {K : HV → Heap → Prop} {l : List Int} {b : Bool} (hc : HCalls dm P k args (freeze h) (fun r h' => ∃ y, r = T2 y b ∧ Fresh (freeze h) h' y l))
    (hK : ∀ h' y, Fresh h h' y l → K (T2 y b) h') : HCallF dm P k args h K := by
  refine HCallF.soft (Q := fun r h' => ∃ y, r = T2 y b ∧ Fresh (freeze h) h' y l) (hc.mono fun r h' ⟨y, e, f⟩ => ⟨f.1, y, e, f⟩) ?_
  rintro r h' h'' ⟨y, rfl, f⟩ E E2 hl hk
  obtain ⟨_, q, t, rfl, hq, ho⟩ := f
  rw [freeze_length] at hq
  exact hK _ _ ⟨E2, q, t, rfl, hq, hk q _ hq ho⟩

theorem putW_at {w : List Int} {L : List (List Int)} {i : Nat} (hi : i < L.length) : putW w (L.drop i) = if cmpW w (L.getD i []) = 0 then L.drop i else if cmpW w (L.getD i []) < 0 then w :: L.drop i else L.getD i [] :: putW w (L.drop (i + 1)) := by
  rw [List.drop_eq_getElem_cons hi]
  simp [putW, List.getD, hi]

theorem mem_getD {L : List (List Int)} {w : List Int} (h : w ∈ L) : ∃ i, i < L.length ∧ L.getD i [] = w := by
  obtain ⟨i, hi, e⟩ := List.getElem_of_mem h
  exact ⟨i, hi, by simp [List.getD, hi, e]⟩
theorem getD_mem {L : List (List Int)} {i : Nat} (h : i < L.length) : L.getD i [] ∈ L := by
  have e : L.getD i [] = L[i] := by simp [List.getD, h]
  rw [e]
  exact List.getElem_mem h

theorem mem_brTo {c : List (List Int)} {w : List Int} {k : Nat} {i : Int} : i ∈ brTo c w k ↔ ∃ t : Nat, i = t ∧ t < k ∧ brOk c w t = true := by
  unfold brTo
  simp only [List.mem_map, List.mem_filter, List.mem_range]
  constructor
  · rintro ⟨t, ⟨h1, h2⟩, rfl⟩
    exact ⟨t, rfl, h1, h2⟩
  · rintro ⟨t, rfl, h1, h2⟩
    exact ⟨t, ⟨h1, h2⟩, rfl⟩

theorem brOk_lt {c : List (List Int)} {w : List Int} {t : Nat} (h : brOk c w t = true) : t < w.length := by
  simp only [brOk, Bool.and_eq_true, decide_eq_true_eq] at h
  have := h.1.2.2
  omega

theorem reducedWords_size (c : List (List Int)) (w : List Int) : (reducedWords c w).length ≤ 120 ∧ tot (reducedWords c w) ≤ 15 * 120 := by
  cases h : redOk c w
  · rw [reducedWords_off h]
    exact ⟨by simp, by simp [tot]⟩
  · rw [reducedWords_on h]
    have h2 := h
    simp only [redOk, Bool.and_eq_true, decide_eq_true_eq] at h2
    obtain ⟨hw, hl⟩ := h2
    obtain ⟨P, hn, R⟩ := normF_red hw
    have := tot_le 15 (redAll c w) fun l hl => by
      have := ((spell_mem (word_cartan hw).1 _ _ P (by omega) l).1 hl).1
      omega
    omega

/-- One word only: a slice of slices anew. -/
theorem OutM.single {h2 : Heap} {y : H0} {l : List Int} {q : Nat} (R : OwnR q h2 y l) : OutM (fun r => r = q ∨ r = h2.length) (h2 ++ [.own [y]]) (.sl h2.length 0 1) [l] := by
  have hq2 := R.lt
  obtain ⟨t, rfl, hqo⟩ := R
  refine Or.inr ⟨h2.length, fun _ => q, rfl, Or.inr rfl, fun i _ => Or.inl rfl, ⟨[.sl q 0 l.length], get_new _ _, by simp, fun i hi => ?_⟩, fun i hi => ⟨t, ?_⟩, fun i hi => by omega, fun i j hij hj => by simp at hj; omega⟩
  · have e : i = 0 := by simp at hi; omega
    subst e
    simp
  · have e : i = 0 := by simp at hi; omega
    subst e
    rw [List.getElem?_append_left (by omega)]
    simpa using hqo

theorem OutM.rows {F : Nat → Prop} {h : Heap} {x : H0} {L : List (List Int)} (O : OutM F h x L) : Rows h x L := by
  rcases O with ⟨rfl, rfl⟩ | ⟨r, ρ, rfl, g2, g3, m⟩
  · exact ⟨[], .nils _ _, rfl, fun i y l a _ => by simp at a⟩
  · exact m.rows


theorem spec_CompareWordsW (h : Heap) (x y : H0) (a b : List Int) (hx : Ints h x a) (hy : Ints h y b) (hal : a.length ≤ 1048576) :
    HCalls dm Try.prog 56 [.s x, .s y] h (fun r h' => r = I (cmpW a b) ∧ h' = h) := by
  refine calls_of_hFun (m := 0) kd_ok mixed Try.func56 rfl (by kernel_rfl) rfl rfl (of_decide_eq_true rfl) ?_; unfold hFun; (conv => whnf)
  refine ⟨rfl, hx.len ?_⟩
  (conv => whnf)
  refine ⟨rfl, hy.len ?_⟩
  (conv => whnf)
  refine HIf.bne (fun hne => ?_) (fun heq => ?_)
  · (conv => whnf)
    refine ⟨rfl, hx.len ?_⟩
    (conv => whnf)
    refine ⟨rfl, hy.len ?_⟩
    (conv => whnf)
    refine HIf.dec (fun h1 => ?_) (fun h1 => ?_)
    · (conv => whnf)
      exact ⟨iEq' (by rw [cmpW, if_pos (by omega)]), rfl⟩
    · (conv => whnf)
      exact ⟨iEq' (by rw [cmpW, if_neg (by omega), if_pos (by omega)]), rfl⟩
  · have hcw : cmpW a b = lexC a b := by rw [cmpW, if_neg (by omega), if_neg (by omega)]
    (conv => whnf)
    refine HLoop.intro [5] [16, 17, 18, 19, 22, 23, 24, 25, 26, 27, 28, 29, 30, 4, 31, 32, 33, 34, 35, 36, 37, 38, 39, 4, 20, 21, 5] (by kernel_rfl) (by kernel_rfl) (fun vs h' => ∃ i : Nat, vs = [I i] ∧ h' = h ∧ i ≤ a.length ∧ lexC a b = lexC (a.drop i) (b.drop i)) (fun vs _ => a.length - natAt vs 0) ⟨0, rfl, rfl, by omega, rfl⟩ ?_
    rintro vs h' ⟨i, rfl, hh, hi, hb⟩
    subst h'
    (conv => whnf)
    refine ⟨rfl, hx.len ?_⟩
    (conv => whnf)
    refine HIf.dec (fun hlt => ?_) (fun hge => ?_)
    · have hd := lexC_drop (a := a) (b := b) (i := i) (by omega) (by omega)
      (conv => whnf)
      refine Or.inl (And.intro (show Region.lexB _ _ = true by kernel_rfl) ?_); (conv => whnf)
      refine ⟨rfl, Ints.idxN hx (by omega) (fun p hp => ?_)⟩
      (conv => whnf)
      refine ⟨rfl, hp.load ?_⟩
      (conv => whnf)
      refine ⟨rfl, Ints.idxN hy (by omega) (fun p2 hp2 => ?_)⟩
      (conv => whnf)
      refine ⟨rfl, hp2.load ?_⟩
      (conv => whnf)
      refine HIf.dec (fun h1 => ?_) (fun h1 => ?_)
      · rw [if_pos h1] at hd
        (conv => whnf)
        exact ⟨iEq' (by rw [hcw, hb, hd]), rfl⟩
      · rw [if_neg h1] at hd
        (conv => whnf)
        refine Or.inl (And.intro (show Region.lexB _ _ = true by kernel_rfl) ?_); (conv => whnf)
        refine ⟨rfl, Ints.idxN hx (by omega) (fun p3 hp3 => ?_)⟩
        (conv => whnf)
        refine ⟨rfl, hp3.load ?_⟩
        (conv => whnf)
        refine ⟨rfl, Ints.idxN hy (by omega) (fun p4 hp4 => ?_)⟩
        (conv => whnf)
        refine ⟨rfl, hp4.load ?_⟩
        (conv => whnf)
        refine HIf.dec (fun h2 => ?_) (fun h2 => ?_)
        · rw [if_pos (by omega)] at hd
          (conv => whnf)
          exact ⟨iEq' (by rw [hcw, hb, hd]), rfl⟩
        · rw [if_neg (by omega)] at hd
          (conv => whnf)
          refine HArith.fits (by omega) (by omega) ?_
          (conv => whnf)
          exact ⟨⟨i + 1, rfl, rfl, by omega, hb.trans hd⟩, by show a.length - (i + 1) < a.length - i; omega⟩
    · have he := lexC_end (a := a) (b := b) (i := i) (by omega)
      rw [if_neg (by omega)] at he
      (conv => whnf)
      exact ⟨iEq' (by rw [hcw, hb, he]), rfl⟩

end Go.Proofs.Ytnooeaemjnmkdaa.Hx

namespace Go.Proofs.Ytnooeaemjnmkdaa.Hx
open Go.RowKit

/-! ### The search -/

abbrev Two := List (List Int) × List (List Int)

/-- One more move. -/
def bpStep (c : List (List Int)) (q p : List Int) (S : Two) (t : Int) : Two :=
  if braid c q t ∉ S.1 ∧ S.1.length < 120 then (S.1 ++ [braid c q t], S.2 ++ [p ++ [t]]) else S
def bpIn (c : List (List Int)) (q p : List Int) (S : Two) (l : List Int) : Two := l.foldl (bpStep c q p) S
def bpAll (c : List (List Int)) (S : Two) (k : Nat) : Two := bpIn c (S.1.getD k []) (S.2.getD k []) S (brTo c (S.1.getD k []) (S.1.getD k []).length)
def bpOut (c : List (List Int)) (b : List Int) : Nat → Nat → Two → Bool × List Int
  | 0, _, _ => (false, [])
  | f + 1, k, S => if k < S.1.length then (if S.1.getD k [] = b then (true, S.2.getD k []) else bpOut c b f (k + 1) (bpAll c S k)) else (false, [])

def bpOk (c : List (List Int)) (a b : List Int) : Bool := isReduced c a && isReduced c b && (bpOut c b 121 0 ([a], [[]])).1
def bpPath (c : List (List Int)) (a b : List Int) : List Int := if isReduced c a && isReduced c b then (bpOut c b 121 0 ([a], [[]])).2 else []

theorem bpOut_end {c : List (List Int)} {b : List Int} {f k : Nat} {S : Two} (h : ¬ k < S.1.length) : bpOut c b f k S = (false, []) := by
  cases f with
  | zero => rfl
  | succ f => rw [bpOut, if_neg h]
theorem bpOut_hit {c : List (List Int)} {b : List Int} {f k : Nat} {S : Two} (h : k < S.1.length) (h2 : S.1.getD k [] = b) : bpOut c b (f + 1) k S = (true, S.2.getD k []) := by rw [bpOut, if_pos h, if_pos h2]
theorem bpOut_next {c : List (List Int)} {b : List Int} {f k : Nat} {S : Two} (h : k < S.1.length) (h2 : S.1.getD k [] ≠ b) : bpOut c b (f + 1) k S = bpOut c b f (k + 1) (bpAll c S k) := by rw [bpOut, if_pos h, if_neg h2]

theorem bp_off {c : List (List Int)} {a b : List Int} (h : ¬ (isReduced c a = true ∧ isReduced c b = true)) : bpOk c a b = false ∧ bpPath c a b = [] := by
  have e : (isReduced c a && isReduced c b) = false := by
    rw [Bool.eq_false_iff]
    intro k
    exact h (by simpa using k)
  simp [bpOk, bpPath, e]
theorem bp_on {c : List (List Int)} {a b : List Int} (h1 : isReduced c a = true) (h2 : isReduced c b = true) {r : Bool × List Int} (h : bpOut c b 121 0 ([a], [[]]) = r) : bpOk c a b = r.1 ∧ bpPath c a b = r.2 := by
  simp [bpOk, bpPath, h1, h2, h]

/-- What is true of the two lists at every time. -/
structure BpS (c : List (List Int)) (n : Nat) (v : List Int) (Q P : List (List Int)) : Prop where
  len : P.length = Q.length
  few : Q.length ≤ 120
  red : ∀ q ∈ Q, Red c n v q
  path : ∀ i, i < P.length → (P.getD i []).length ≤ i

theorem getD_snoc {L : List (List Int)} {x : List Int} : (L ++ [x]).getD L.length [] = x := by simp [List.getD]
theorem getD_app {L T : List (List Int)} {i : Nat} (h : i < L.length) : (L ++ T).getD i [] = L.getD i [] := by
  simp only [List.getD]
  rw [List.getElem?_append_left h]

theorem BpS.start (c : List (List Int)) (a : List Int) (h : lettersOk c a = true) : BpS c a.length (imageOf c a) [a] [[]] :=
  ⟨rfl, by simp, fun q hq => by
    obtain rfl : q = a := by simpa using hq
    exact ⟨rfl, h, rfl⟩, fun i hi => by
    have : i = 0 := by simp at hi; omega
    subst this
    simp⟩

theorem BpS.step {c : List (List Int)} {n : Nat} {v : List Int} {Q P : List (List Int)} (B : BpS c n v Q P) (hn : n ≤ 31) {k : Nat} (hk : k < Q.length) {t : Nat} (ht : brOk c (Q.getD k []) t = true) (hQ : Q.length < 120) : BpS c n v (Q ++ [braid c (Q.getD k []) t]) (P ++ [P.getD k [] ++ [(t : Int)]]) := by
  refine ⟨by simp [B.len], by simp; omega, fun q hq => ?_, fun i hi => ?_⟩
  · rcases List.mem_append.1 hq with hq | hq
    · exact B.red q hq
    · have e : q = braid c (Q.getD k []) t := by simpa using hq
      rw [e]
      exact (br_of_braid ht).red hn (B.red _ (getD_mem hk))
  · by_cases e : i < P.length
    · rw [getD_app e]
      exact B.path i e
    · have ei : i = P.length := by simp at hi; omega
      subst ei
      rw [getD_snoc]
      have h1 := B.path k (by rw [B.len]; exact hk)
      have h2 := B.len
      rw [List.length_append, List.length_cons, List.length_nil]
      omega

theorem bpIn_nil (c : List (List Int)) (q p : List Int) (S : Two) : bpIn c q p S [] = S := rfl
theorem bpIn_snoc (c : List (List Int)) (q p : List Int) (S : Two) (l : List Int) (t : Int) : bpIn c q p S (l ++ [t]) = bpStep c q p (bpIn c q p S l) t := by
  rw [bpIn, List.foldl_append]
  rfl
theorem bpStep_old {c : List (List Int)} {q p : List Int} {S : Two} {t : Int} (h : ¬ (braid c q t ∉ S.1 ∧ S.1.length < 120)) : bpStep c q p S t = S := by rw [bpStep, if_neg h]
theorem bpStep_new {c : List (List Int)} {q p : List Int} {S : Two} {t : Int} (h : braid c q t ∉ S.1 ∧ S.1.length < 120) : bpStep c q p S t = (S.1 ++ [braid c q t], S.2 ++ [p ++ [t]]) := by rw [bpStep, if_pos h]

theorem take_snoc' {l : List Int} {k : Nat} (h : k < l.length) : l.take (k + 1) = l.take k ++ [l.getD k 0] := by
  rw [List.take_add_one, List.getD]
  simp [h]

/-- A path is not longer than its number. -/
theorem bpOut_len {c : List (List Int)} {b : List Int} : ∀ (f k : Nat) (S : Two), S.2.length = S.1.length → S.1.length ≤ 120 → (∀ i, i < S.2.length → (S.2.getD i []).length ≤ i) → (bpOut c b f k S).2.length ≤ 120
  | 0, _, _, _, _, _ => by simp [bpOut]
  | f + 1, k, S, h1, h2, h3 => by
    by_cases hk : k < S.1.length
    rotate_left
    · rw [bpOut_end hk]
      simp
    by_cases hb : S.1.getD k [] = b
    · rw [bpOut_hit hk hb]
      have := h3 k (by omega)
      show (S.2.getD k []).length ≤ 120
      omega
    · rw [bpOut_next hk hb]
      have hp := h3 k (by omega)
      have key : ∀ (l : List Int) (T : Two), k < T.1.length → T.2.length = T.1.length → T.1.length ≤ 120 → (∀ i, i < T.2.length → (T.2.getD i []).length ≤ i) →
          (bpIn c (S.1.getD k []) (S.2.getD k []) T l).2.length = (bpIn c (S.1.getD k []) (S.2.getD k []) T l).1.length ∧ (bpIn c (S.1.getD k []) (S.2.getD k []) T l).1.length ≤ 120 ∧ ∀ i, i < (bpIn c (S.1.getD k []) (S.2.getD k []) T l).2.length → ((bpIn c (S.1.getD k []) (S.2.getD k []) T l).2.getD i []).length ≤ i := by
        intro l
        induction l with
        | nil => intro T _ a b d; exact ⟨a, b, d⟩
        | cons t l ih =>
          intro T a0 a b d
          have e : bpIn c (S.1.getD k []) (S.2.getD k []) T (t :: l) = bpIn c (S.1.getD k []) (S.2.getD k []) (bpStep c (S.1.getD k []) (S.2.getD k []) T t) l := rfl
          rw [e]
          by_cases g : braid c (S.1.getD k []) t ∉ T.1 ∧ T.1.length < 120
          · rw [bpStep_new g]
            refine ih _ (by simp; omega) (by simp [a]) (by simp; omega) fun i hi => ?_
            by_cases ei : i < T.2.length
            · rw [getD_app ei]
              exact d i ei
            · have ei : i = T.2.length := by simp at hi; omega
              subst ei
              rw [getD_snoc, List.length_append, List.length_cons, List.length_nil]
              omega
          · rw [bpStep_old g]
            exact ih T a0 a b d
      obtain ⟨g1, g2, g3⟩ := key (brTo c (S.1.getD k []) (S.1.getD k []).length) S hk h1 h2 h3
      exact bpOut_len f (k + 1) _ g1 g2 g3

theorem bpPath_len (c : List (List Int)) (a b : List Int) : (bpPath c a b).length ≤ 120 := by
  unfold bpPath
  split
  · exact bpOut_len _ _ _ rfl (by simp) fun i hi => by
      have : i = 0 := by simp at hi; omega
      subst this
      simp
  · simp

/-! ### Two slices of slices that grow -/

def Half (F : Nat → Prop) (r : Nat) (Q : List (List Int)) (h : Heap) : Prop :=
  ∃ cs, h[r]? = some (.own cs) ∧ Q.length ≤ cs.length ∧ ∀ i, i < Q.length → ∃ y, cs[i]? = some y ∧ ∀ h', KeepN F h h' → Ints h' y (Q.getD i [])

theorem Half.rows {F : Nat → Prop} {r : Nat} {Q : List (List Int)} {h : Heap} (H : Half F r Q h) : Rows h (.sl r 0 Q.length) Q := by
  obtain ⟨cs, g1, g2, g3⟩ := H
  refine ⟨cs.take Q.length, ?_, by rw [List.length_take]; omega, fun i z l a b => ?_⟩
  · have := Shows.own (h := h) r 0 Q.length cs g1 (by omega)
    simpa using this
  · have hi : i < Q.length := by
      have := (List.getElem?_eq_some_iff.1 b).1
      exact this
    obtain ⟨y, e1, e2⟩ := g3 i hi
    rw [List.getElem?_take_of_lt hi, e1] at a
    obtain rfl := Option.some.inj a
    have := e2 h (KeepN.refl F h)
    simp only [List.getD, b, Option.getD_some] at this
    exact this

theorem Half.keep {F G : Nat → Prop} {r : Nat} {Q : List (List Int)} {h h' : Heap} (H : Half F r Q h) (k : KeepN G h h') (hr : ¬ G r) (hG : ∀ q, q < h.length → G q → F q) {F' : Nat → Prop} (hF : ∀ q, q < h.length → F' q → F q) : Half F' r Q h' := by
  obtain ⟨cs, g1, g2, g3⟩ := H
  have hlt : r < h.length := (List.getElem?_eq_some_iff.1 g1).1
  refine ⟨cs, by rw [k.2 r hlt hr]; exact g1, g2, fun i hi => ?_⟩
  obtain ⟨y, e1, e2⟩ := g3 i hi
  refine ⟨y, e1, fun h'' k2 => e2 h'' ⟨Nat.le_trans k.1 k2.1, fun q hq hn => ?_⟩⟩
  rw [k2.2 q (Nat.lt_of_lt_of_le hq k.1) (fun f => hn (hF q hq f)), k.2 q hq (fun g => hn (hG q hq g))]

/-- The two lists: one in row r, one in row r'. -/
structure Twin (b r r' : Nat) (Q P : List (List Int)) (h : Heap) : Prop where
  q : Half (fun z => z = r ∨ z = r') r Q h
  p : Half (fun z => z = r ∨ z = r') r' P h
  ne : r ≠ r'
  low : b ≤ r ∧ b ≤ r'

theorem Twin.swap {b r r' : Nat} {Q P : List (List Int)} {h : Heap} (T : Twin b r r' Q P h) : Twin b r' r P Q h :=
  ⟨T.p.keep (KeepN.refl (fun _ => False) h) (fun e => e) (fun _ _ e => e.elim) (fun _ _ e => e.elim Or.inr Or.inl), T.q.keep (KeepN.refl (fun _ => False) h) (fun e => e) (fun _ _ e => e.elim) (fun _ _ e => e.elim Or.inr Or.inl), T.ne.symm, T.low.2, T.low.1⟩
theorem Twin.ext {b r r' : Nat} {Q P : List (List Int)} {h h' : Heap} (T : Twin b r r' Q P h) (E : Ext h h') : Twin b r r' Q P h' :=
  ⟨T.q.keep (KeepN.ofExt (F := fun _ => False) E) (fun e => e) (fun _ _ e => e.elim) (fun _ _ e => e), T.p.keep (KeepN.ofExt (F := fun _ => False) E) (fun e => e) (fun _ _ e => e.elim) (fun _ _ e => e), T.ne, T.low⟩
theorem Twin.lt {b r r' : Nat} {Q P : List (List Int)} {h : Heap} (T : Twin b r r' Q P h) : r < h.length ∧ r' < h.length := by
  obtain ⟨_, g1, _⟩ := T.q
  obtain ⟨_, g2, _⟩ := T.p
  exact ⟨(List.getElem?_eq_some_iff.1 g1).1, (List.getElem?_eq_some_iff.1 g2).1⟩

/-- One more entry of the first list. -/
theorem HApp.twin {b r r' : Nat} {Q P : List (List Int)} {h : Heap} {y : H0} {l : List Int} (T : Twin b r r' Q P h) (hone : y.one = true) (hy : ∀ h', KeepN (fun z => z = r ∨ z = r') h h' → Ints h' y l) (hl : Q.length ≤ 1048576) {K : HV → Heap → Prop}
    (hK : ∀ h' r2, KeepN (fun z => z = r) h h' → h.length ≤ r2 → Twin b r2 r' (Q ++ [l]) P h' → K (.s (.sl r2 0 (Q ++ [l]).length)) h') : HApp (h ++ [.own [y]]) (.s (.sl r 0 Q.length)) (.s (.sl h.length 0 1)) K := by
  have hlt := T.lt
  have hlow := T.low
  have hne := T.ne
  obtain ⟨cs, g1, g2, g3⟩ := T.q
  refine ⟨[y], ?_, by simpa using hone, cs, rfl, by rw [List.getElem?_append_left hlt.1]; exact g1, g2, Or.inl ⟨by simp; omega, ?_⟩⟩
  · have := Shows.own h.length 0 1 _ (get_new h (.own [y])) (by simp)
    simpa using this
  have e1 : Q.length + [y].length = (Q ++ [l]).length := by simp
  rw [e1]
  have old : ∀ p, p < h.length → p ≠ r → ((h ++ [Row.own [y]]).set r .gone ++ [Row.own (cs.take Q.length ++ [y])])[p]? = h[p]? := fun p hp hn => by
    rw [List.getElem?_append_left (by simp; omega), List.getElem?_set_ne (Ne.symm hn), List.getElem?_append_left hp]
  have k : KeepN (fun z => z = r) h ((h ++ [Row.own [y]]).set r .gone ++ [Row.own (cs.take Q.length ++ [y])]) := ⟨by simp; omega, fun p hp hn => old p hp hn⟩
  have hnew : ((h ++ [Row.own [y]]).set r .gone ++ [Row.own (cs.take Q.length ++ [y])])[(h ++ [Row.own [y]]).length]? = some (.own (cs.take Q.length ++ [y])) := by
    rw [List.getElem?_append_right (by simp)]
    simp
  have hlen : (h ++ [Row.own [y]]).length = h.length + 1 := by simp
  have trans : ∀ h'', KeepN (fun z => z = (h ++ [Row.own [y]]).length ∨ z = r') ((h ++ [Row.own [y]]).set r .gone ++ [Row.own (cs.take Q.length ++ [y])]) h'' → KeepN (fun z => z = r ∨ z = r') h h'' := fun h'' k2 => ⟨Nat.le_trans k.1 k2.1, fun p hp hn => by
    rw [k2.2 p (Nat.lt_of_lt_of_le hp k.1) (fun e => by rcases e with e | e; omega; exact hn (Or.inr e)), old p hp (fun e => hn (Or.inl e))]⟩
  refine hK _ _ k (by omega) ⟨⟨cs.take Q.length ++ [y], hnew, by simp; omega, fun i hi => ?_⟩, T.p.keep k (fun e => hne e.symm) (fun q _ e => Or.inl e) (fun q hq e => ?_), by omega, by omega, hlow.2⟩
  · by_cases e : i < Q.length
    · obtain ⟨z, z1, z2⟩ := g3 i e
      refine ⟨z, by rw [List.getElem?_append_left (by rw [List.length_take]; omega), List.getElem?_take_of_lt e]; exact z1, fun h'' k2 => ?_⟩
      rw [getD_app e]
      exact z2 h'' (trans h'' k2)
    · have ei : i = Q.length := by simp at hi; omega
      subst ei
      refine ⟨y, ?_, fun h'' k2 => ?_⟩
      · have e3 : (cs.take Q.length).length = Q.length := by rw [List.length_take]; omega
        rw [List.getElem?_append_right (by omega), e3, Nat.sub_self]
        rfl
      · rw [getD_snoc]
        exact hy h'' (trans h'' k2)
  · rcases e with e | e
    · omega
    · exact Or.inr e

/-- A row of one's own stays what it is when others change. -/
theorem OwnR.stays {F : Nat → Prop} {r : Nat} {h : Heap} {x : H0} {l : List Int} (O : OwnR r h x l) (hr : ¬ F r) : ∀ h', KeepN F h h' → Ints h' x l := fun h' k => by
  obtain ⟨t, rfl, ht⟩ := O
  have hlt : r < h.length := (List.getElem?_eq_some_iff.1 ht).1
  exact Ints.ofOwn (t := t) (by rw [k.2 r hlt hr]; exact ht)

end Go.Proofs.Ytnooeaemjnmkdaa.Hx

namespace Go.Proofs.Ytnooeaemjnmkdaa.Hx
open Go.RowKit
variable {dm : Bool}

theorem isRed_word {c : List (List Int)} {w : List Int} (h : isReduced c w = true) : isWord c w = true := by
  simp only [isReduced, Bool.and_eq_true] at h
  exact h.1

theorem At.ext' {h h' : Heap} {p c : H0} (H : At h p c) (E : Ext h h') : At h' p c := by
  obtain ⟨r, o, w, cs, e, hr, h1, h2⟩ := H
  exact ⟨r, o, w, cs, e, E.row hr, h1, h2⟩
theorem HLit.emptyF {z : Value} {h0 h : Heap} {K : HV → Heap → Prop} (F : Ext h0 h) (hK : ∀ h' y r, Ext h h' → Ext h0 h' → OwnR r h' y [] → h.length ≤ r → K (.s y) h') : HLit z 0 (some []) h K := HLit.empty (hK _ _ _ (Ext.push _ _) (F.pushed _) (OwnR.push h []) (Nat.le_refl _))
theorem HLit.oneF {z : Value} {v : Int} {h0 h : Heap} {K : HV → Heap → Prop} (F : Ext h0 h) (hK : ∀ h' y r, Ext h h' → Ext h0 h' → OwnR r h' y [v] → h.length ≤ r → K (.s y) h') : HLit z 1 (some [ci v]) h K := HLit.one (hK _ _ _ (Ext.push _ _) (F.pushed _) (OwnR.push h [v]) (Nat.le_refl _))

theorem Twin.start {h0 h : Heap} {x : H0} {a : List Int} (hx : Ints h x a) (E : Ext h0 h) : Twin h0.length h.length (h.length + 2) [a] [[]] (h ++ [.own [x]] ++ [.own []] ++ [.own [.sl (h ++ [Row.own [x]]).length 0 0]]) := by
  have hE := E.1
  have e1 : (h ++ [Row.own [x]] ++ [Row.own []] ++ [Row.own [.sl (h ++ [Row.own [x]]).length 0 0]])[h.length]? = some (.own [x]) := by
    rw [List.getElem?_append_left (by simp), List.getElem?_append_left (by simp)]
    exact get_new h _
  have e2 : (h ++ [Row.own [x]] ++ [Row.own []] ++ [Row.own [.sl (h ++ [Row.own [x]]).length 0 0]])[h.length + 2]? = some (.own [.sl (h ++ [Row.own [x]]).length 0 0]) := by
    rw [List.getElem?_append_right (by simp)]
    simp
  have e3 : OwnR (h ++ [Row.own [x]]).length (h ++ [Row.own [x]] ++ [Row.own []] ++ [Row.own [.sl (h ++ [Row.own [x]]).length 0 0]]) (.sl (h ++ [Row.own [x]]).length 0 0) [] := (OwnR.push (h ++ [Row.own [x]]) []).ext (Ext.push _ _)
  refine ⟨⟨[x], e1, by simp, fun i hi => ?_⟩, ⟨_, e2, by simp, fun i hi => ?_⟩, by omega, by omega, by omega⟩
  · have : i = 0 := by simp at hi; omega
    subst this
    refine ⟨x, rfl, fun h' k => ?_⟩
    have : Ext h h' := ⟨by have := k.1; simp at this; omega, fun q hq => by
      rw [k.2 q (by simp; omega) (by omega), List.getElem?_append_left (by simp; omega), List.getElem?_append_left (by simp; omega), List.getElem?_append_left hq]⟩
    exact hx.ext this
  · have : i = 0 := by simp at hi; omega
    subst this
    refine ⟨_, rfl, e3.stays ?_⟩
    simp


set_option maxHeartbeats 2000000 in
theorem spec_BraidPath (h : Heap) (x0 : H0) (a0 : List (List Int)) (x1 : H0) (a1 : List Int) (x2 : H0) (a2 : List Int) (hx0 : Rows h x0 a0) (hx1 : Ints h x1 a1) (hx2 : Ints h x2 a2) (s0 : a0.length ≤ 1048576 ∧ tot a0 ≤ 1048576) (s1 : a1.length ≤ 1048576) (s2 : a2.length ≤ 1048576) :
    HCalls dm Try.prog 9 [.s x0, .s x1, .s x2] h (fun r h' => ∃ y, r = T2 y (bpOk a0 a1 a2) ∧ Fresh h h' y (bpPath a0 a1 a2)) := by
  obtain ⟨V, hV⟩ : ∃ V, V = bpOk a0 a1 a2 := ⟨_, rfl⟩
  obtain ⟨W, hW⟩ : ∃ W, W = bpPath a0 a1 a2 := ⟨_, rfl⟩
  rw [← hV, ← hW]
  refine calls_of_hFun (m := 0) kd_ok mixed Try.func9 rfl (by kernel_rfl) rfl rfl (of_decide_eq_true rfl) ?_; unfold hFun; (conv => whnf)
  have bad : ∀ h2, Ext h h2 → bpOk a0 a1 a2 = false ∧ bpPath a0 a1 a2 = [] → V = false ∧ Fresh h (h2 ++ [Row.own []]) (.sl h2.length 0 0) W := fun h2 E hb => by
    rw [hV, hW, hb.1, hb.2]
    exact ⟨rfl, Fresh.of (E.trans (Ext.push _ _)) ((OwnR.push h2 []).own E.1)⟩
  refine (spec_IsReduced _ _ a0 _ a1 hx0 hx1 s0 s1).mono ?_
  rintro r h1 ⟨rfl, E1⟩
  cases hr1 : isReduced a0 a1
  · obtain ⟨g1, g2⟩ := bad h1 E1 (bp_off fun k => by rw [hr1] at k; cases k.1)
    subst g1
    (conv => whnf)
    (repeat (first | (refine HIf.yes ?_; conv => whnf) | (refine HIf.no ?_; conv => whnf)))
    refine HLit.empty ?_
    (conv => whnf)
    exact ⟨_, rfl, g2⟩
  (conv => whnf)
  (repeat (first | (refine HIf.yes ?_; conv => whnf) | (refine HIf.no ?_; conv => whnf)))
  refine (spec_IsReduced _ _ a0 _ a2 (hx0.ext E1) (hx2.ext E1) s0 s2).mono ?_
  rintro r h2 ⟨rfl, E2⟩
  replace E2 := E1.trans E2
  cases hr2 : isReduced a0 a2
  · obtain ⟨g1, g2⟩ := bad h2 E2 (bp_off fun k => by rw [hr2] at k; cases k.2)
    subst g1
    (conv => whnf)
    (repeat (first | (refine HIf.yes ?_; conv => whnf) | (refine HIf.no ?_; conv => whnf)))
    refine HLit.empty ?_
    (conv => whnf)
    exact ⟨_, rfl, g2⟩
  have hw1 := isRed_word hr1
  obtain ⟨hC, hl1, hle1⟩ := word_cartan hw1
  have hres : ∀ {r : Bool × List Int}, bpOut a0 a2 121 0 ([a1], [[]]) = r → V = r.1 ∧ W = r.2 := fun {r} e => by
    rw [hV, hW]
    exact bp_on hr1 hr2 e
  (conv => whnf)
  (repeat (first | (refine HIf.yes ?_; conv => whnf) | (refine HIf.no ?_; conv => whnf)))
  have hx12 := hx1.ext E2
  refine HLit.row hx12.one ?_
  (conv => whnf)
  refine HLit.empty ?_
  (conv => whnf)
  refine HLit.row rfl ?_
  (conv => whnf)
  have T0 := Twin.start hx12 E2
  have B0 := BpS.start a0 a1 hle1
  have elen : (h2 ++ [Row.own [x1]] ++ [Row.own []]).length = h2.length + 2 := by simp
  rw [elen]
  refine HLoop.intro [10, 8, 9] [30, 31, 32, 33, 36, 37, 38, 39, 40, 41, 42, 43, 44, 45, 46, 47, 6, 7, 48, 49, 50, 51, 52, 53, 11, 12, 54, 55, 56, 57, 61, 62, 63, 64, 65, 66, 67, 68, 69, 70, 60, 71, 72, 13, 14, 73, 74, 75, 76, 77, 78, 79, 80, 81, 82, 83, 84, 85, 8, 86, 87, 88, 89, 90, 91, 92, 93, 94, 95, 96, 97, 98, 99, 100, 9, 58, 59, 12, 34, 35, 10] (by kernel_rfl) (by kernel_rfl) (fun vs h' => ∃ (k r r' : Nat) (Q P : List (List Int)), vs = [I k, .s (.sl r 0 Q.length), .s (.sl r' 0 P.length)] ∧ k ≤ Q.length ∧ Ext h h' ∧ Twin h.length r r' Q P h' ∧ BpS a0 a1.length (imageOf a0 a1) Q P ∧ bpOut a0 a2 (121 - k) k (Q, P) = bpOut a0 a2 121 0 ([a1], [[]])) (fun vs _ => 121 - natAt vs 0) ⟨0, _, _, [a1], [[]], rfl, by omega, ((E2.pushed _).pushed _).pushed _, T0, B0, rfl⟩ ?_
  clear T0 B0 elen hx12 E2 E1
  rintro vs h' ⟨k, r, r', Q, P, rfl, hk, E, T, S, hout⟩
  have hfew := S.few
  have hPl := S.len
  (conv => whnf)
  refine ⟨rfl, T.q.rows.len ?_⟩
  (conv => whnf)
  refine HIf.dec (fun hlt => ?_) (fun hge => ?_)
  rotate_left
  · (conv => whnf)
    obtain ⟨g1, g2⟩ := hres (r := (false, [])) (by rw [← hout]; exact bpOut_end (by show ¬ k < Q.length; omega))
    subst g1 g2
    refine HLit.empty ?_
    (conv => whnf)
    exact ⟨_, rfl, Fresh.of (E.trans (Ext.push _ _)) ((OwnR.push h' []).own E.1)⟩
  have hkl : k < Q.length := by omega
  have hkp : k < P.length := by omega
  have hRq := S.red _ (getD_mem hkl)
  have hql : (Q.getD k []).length ≤ 15 := by rw [hRq.1]; exact hl1
  have hpl120 := S.path k hkp
  have efu : 121 - k = (121 - (k + 1)) + 1 := by omega
  rw [efu] at hout
  (conv => whnf)
  refine ⟨rfl, Rows.idxN T.q.rows hkl (fun p y hp hy => ?_)⟩
  (conv => whnf)
  refine ⟨rfl, hp.load ?_⟩
  (conv => whnf)
  refine (spec_EqualWords _ _ _ _ a2 hy (hx2.ext E) (by omega)).mono ?_
  rintro v h3 ⟨rfl, hh⟩
  subst h3
  (conv => whnf)
  refine HIf.dec (fun he => ?_) (fun hne => ?_)
  · (conv => whnf)
    obtain ⟨g1, g2⟩ := hres (r := (true, P.getD k [])) (by rw [← hout]; exact bpOut_hit hkl he)
    subst g1 g2
    refine HLit.empty ?_
    (conv => whnf)
    refine ⟨rfl, Rows.idxN (T.ext (Ext.push _ _)).p.rows hkp (fun p2 y2 hp2 hy2 => ?_)⟩
    (conv => whnf)
    refine ⟨rfl, hp2.load ?_⟩
    (conv => whnf)
    refine ⟨rfl, rfl, HApp.moreR (OwnR.push h' []) hy2 (by rw [List.length_nil]; omega) (fun h4 r4 y4 B4 hr4 O4 => ?_)⟩
    rw [List.nil_append] at O4
    have F4 : Ext h' h4 := (Ext.push h' [Row.own []]).but B4 (Nat.le_refl _)
    have u1 := E.1
    simp only [List.length_append, List.length_cons, List.length_nil] at hr4
    (conv => whnf)
    exact ⟨_, rfl, Fresh.of (E.trans F4) (O4.own (by omega))⟩
  (conv => whnf)
  refine ⟨rfl, Rows.idxN T.q.rows hkl (fun p2 y2 hp2 hy2 => ?_)⟩
  (conv => whnf)
  refine ⟨rfl, hp2.load ?_⟩
  (conv => whnf)
  refine (spec_BraidPlaces _ _ a0 _ _ (hx0.ext E) hy2 s0 (by omega)).mono ?_
  rintro rr h3 ⟨y3, rfl, f3⟩
  obtain ⟨rp, hrp, Op⟩ := f3.row
  have E3 := E.trans f3.1
  have T3 := T.ext f3.1
  have hlt3 := T.lt
  have hpl := brTo_le a0 (Q.getD k []) (Q.getD k []).length
  have hmem : ∀ i : Int, i ∈ brTo a0 (Q.getD k []) (Q.getD k []).length → ∃ t : Nat, i = t ∧ t < (Q.getD k []).length ∧ brOk a0 (Q.getD k []) t = true := fun i hi => mem_brTo.1 hi
  have hnext := bpOut_next (f := 121 - (k + 1)) (b := a2) (c := a0) (S := (Q, P)) hkl hne
  have hall : bpAll a0 (Q, P) k = bpIn a0 (Q.getD k []) (P.getD k []) (Q, P) (brTo a0 (Q.getD k []) (Q.getD k []).length) := rfl
  rw [hall] at hnext
  clear hall
  generalize brTo a0 (Q.getD k []) (Q.getD k []).length = pl at *
  generalize hq : Q.getD k [] = q at *
  generalize hpk : P.getD k [] = pk at *
  clear hy hy2 hp hp2
  (conv => whnf)
  refine HLoop.intro [12, 8, 9] [54, 55, 56, 57, 61, 62, 63, 64, 65, 66, 67, 68, 69, 70, 60, 71, 72, 13, 14, 73, 74, 75, 76, 77, 78, 79, 80, 81, 82, 83, 84, 85, 8, 86, 87, 88, 89, 90, 91, 92, 93, 94, 95, 96, 97, 98, 99, 100, 9, 58, 59, 12] (by kernel_rfl) (by kernel_rfl) (fun vs h'' => ∃ (n r r' : Nat) (Q' P' : List (List Int)), vs = [I n, .s (.sl r 0 Q'.length), .s (.sl r' 0 P'.length)] ∧ n ≤ pl.length ∧ Ext h h'' ∧ Twin h.length r r' Q' P' h'' ∧ BpS a0 a1.length (imageOf a0 a1) Q' P' ∧ OwnR rp h'' y3 pl ∧ rp ≠ r ∧ rp ≠ r' ∧ (Q', P') = bpIn a0 q pk (Q, P) (pl.take n) ∧ k < Q'.length ∧ Q'.getD k [] = q ∧ P'.getD k [] = pk) (fun vs _ => pl.length - natAt vs 0) ⟨0, r, r', Q, P, rfl, by omega, E3, T3, S, Op, by omega, by omega, rfl, hkl, hq, hpk⟩ ?_
  clear E3 T3 S Op hrp f3 T E hlt3 hkl hkp hq hpk
  rintro vs h4 ⟨n, r, r', Q', P', rfl, hn, E, T, S, Op, hrp1, hrp2, hstate, hkl, hq, hpk⟩
  have hfew' := S.few
  have hPl' := S.len
  (conv => whnf)
  refine ⟨rfl, Op.ints.len ?_⟩
  (conv => whnf)
  refine HIf.dec (fun hlt2 => ?_) (fun hge2 => ?_)
  rotate_left
  · have en : n = pl.length := by omega
    subst en
    rw [List.take_length] at hstate
    (conv => whnf)
    refine HArith.fits (by omega) (by omega) ?_
    (conv => whnf)
    exact ⟨⟨k + 1, r, r', Q', P', rfl, by omega, E, T, S, by rw [hstate, ← hnext]; exact hout⟩, by show 121 - (k + 1) < 121 - k; omega⟩
  have hnl : n < pl.length := by omega
  have hin : pl.getD n 0 ∈ pl := by
    have e : pl.getD n 0 = pl[n] := by simp [List.getD, hnl]
    rw [e]
    exact List.getElem_mem hnl
  obtain ⟨t, et, htq, htok⟩ := hmem _ hin
  have hbS : Q'.length ≤ 1048576 ∧ tot Q' ≤ 1048576 := by
    have u2 := tot_le 15 Q' fun l hl => by
      have u3 := (S.red l hl).1
      omega
    omega
  have htake : (Q', P').1.length = Q'.length := rfl
  have hsn := take_snoc' hnl
  rw [et] at hsn
  (conv => whnf)
  refine Or.inr (Or.inr (Or.inl (Exists.intro 15 (Exists.intro [0, 1, 2, 3, 4, 5, 6, 7, 8] (Exists.intro [9, 10, 11, 12, 13, 14] (And.intro (show heldOk _ _ _ _ = true by kernel_rfl) ?_)))))); (conv => whnf)
  refine ⟨rfl, Rows.idxN T.q.rows hkl (fun p2 y2 hp2 hy2 => ?_)⟩
  rw [hq] at hy2
  (conv => whnf)
  refine ⟨rfl, hp2.load ?_⟩
  (conv => whnf)
  refine ⟨rfl, Ints.idxN Op.ints hnl (fun p5 hp5 => ?_)⟩
  rw [et] at hp5
  (conv => whnf)
  refine ⟨rfl, hp5.load ?_⟩
  (conv => whnf)
  refine HCallF.tupF (spec_BraidAt0 _ _ a0 _ q (t : Int) (hx0.ext E).frz hy2.frz s0 (by omega)) (fun h5 y5 f5 => ?_)
  obtain ⟨r5, hr5, O5⟩ := f5.row
  have E5 := E.trans f5.1
  have hE5 := f5.1.1
  have hlt4 := T.lt
  have hoplt4 := Op.lt
  have T5 := T.ext f5.1
  have Op5 := Op.ext f5.1
  clear hy2 hp2 hp5
  (conv => whnf)
  refine (spec_l7In _ _ Q' _ _ T5.q.rows f5.ints hbS).mono ?_
  rintro rr h6 ⟨rfl, hh⟩
  subst h6
  have same : ¬ (braid a0 q (t : Int) ∉ Q' ∧ Q'.length < 120) → ∃ (n_1 r_1 r'_1 : Nat) (Q'_1 P'_1 : List (List Int)), [I ((n : Int) + 1), .s (.sl r 0 Q'.length), .s (.sl r' 0 P'.length)] = [I n_1, .s (.sl r_1 0 Q'_1.length), .s (.sl r'_1 0 P'_1.length)] ∧ n_1 ≤ pl.length ∧ Ext h h5 ∧ Twin h.length r_1 r'_1 Q'_1 P'_1 h5 ∧ BpS a0 a1.length (imageOf a0 a1) Q'_1 P'_1 ∧ OwnR rp h5 y3 pl ∧ rp ≠ r_1 ∧ rp ≠ r'_1 ∧ (Q'_1, P'_1) = bpIn a0 q pk (Q, P) (pl.take n_1) ∧ k < Q'_1.length ∧ Q'_1.getD k [] = q ∧ P'_1.getD k [] = pk := fun hno =>
    ⟨n + 1, r, r', Q', P', rfl, by omega, E5, T5, S, Op5, hrp1, hrp2, by rw [hsn, bpIn_snoc, ← hstate, bpStep_old hno], hkl, hq, hpk⟩
  by_cases hold : braid a0 q (t : Int) ∈ Q'
  · (conv => whnf)
    (repeat (first | (refine HIf.bnot (HIf.decT hold ?_); conv => whnf) | (refine HIf.no ?_; conv => whnf)))
    refine HArith.fits (by omega) (by omega) ?_
    (conv => whnf)
    exact ⟨same fun k => k.1 hold, by show pl.length - (n + 1) < pl.length - n; omega⟩
  (conv => whnf)
  (repeat (refine HIf.bnot (HIf.decF hold ?_); conv => whnf))
  refine ⟨rfl, T5.q.rows.len ?_⟩
  (conv => whnf)
  refine HIf.bnot (HIf.decF hold ?_)
  (conv => whnf)
  refine HIf.bnot (HIf.decF hold ?_)
  (conv => whnf)
  refine HIf.dec (fun hroom => ?_) (fun hfull => ?_)
  rotate_left
  · (conv => whnf)
    refine HArith.fits (by omega) (by omega) ?_
    (conv => whnf)
    exact ⟨same fun k => by omega, by show pl.length - (n + 1) < pl.length - n; omega⟩
  have hroom' : Q'.length < 120 := by omega
  have S2 := S.step (t := t) (by omega) hkl (by rw [hq]; exact htok) hroom'
  rw [hq, hpk] at S2
  (conv => whnf)
  refine HLit.row f5.own.one ?_
  (conv => whnf)
  refine ⟨rfl, rfl, HApp.twin T5 f5.own.one (O5.stays (by omega)) (by omega) (fun h7 r7 k7 hr7 T7 => ?_)⟩
  have E7 : Ext h h7 := k7.ext (fun q e => by have u4 := T.low; omega) E5
  have Op7 := Op5.keep k7 hrp1
  have hk7 := k7.1
  have hkp7 : k < P'.length := by omega
  have hpk120 : pk.length ≤ 1048576 := by omega
  (conv => whnf)
  have F := Ext.refl h7
  refine Or.inr (Or.inr (Or.inr (Exists.intro [0, 2, 3, 4, 7, 8, 9] (Exists.intro (Tr.three 1 (Tr.two 5 (Tr.two 6 (Tr.one 10 (Tr.one 11 (Tr.one 12 (Tr.one 13 (Tr.one 14 (Tr.one 15 Tr.done)))))) 10 (Tr.two 6 (Tr.one 11 (Tr.one 12 (Tr.one 13 (Tr.one 14 (Tr.one 15 Tr.done))))) 11 (Tr.one 6 (Tr.one 12 (Tr.one 13 (Tr.one 14 (Tr.one 15 Tr.done))))))) 10 (Tr.two 5 (Tr.two 6 (Tr.one 11 (Tr.one 12 (Tr.one 13 (Tr.one 14 (Tr.one 15 Tr.done))))) 11 (Tr.one 6 (Tr.one 12 (Tr.one 13 (Tr.one 14 (Tr.one 15 Tr.done)))))) 11 (Tr.one 5 (Tr.one 6 (Tr.one 12 (Tr.one 13 (Tr.one 14 (Tr.one 15 Tr.done)))))))) 5 (Tr.two 1 (Tr.two 6 (Tr.one 10 (Tr.one 11 (Tr.one 12 (Tr.one 13 (Tr.one 14 (Tr.one 15 Tr.done)))))) 10 (Tr.two 6 (Tr.one 11 (Tr.one 12 (Tr.one 13 (Tr.one 14 (Tr.one 15 Tr.done))))) 11 (Tr.one 6 (Tr.one 12 (Tr.one 13 (Tr.one 14 (Tr.one 15 Tr.done))))))) 10 (Tr.two 1 (Tr.two 6 (Tr.one 11 (Tr.one 12 (Tr.one 13 (Tr.one 14 (Tr.one 15 Tr.done))))) 11 (Tr.one 6 (Tr.one 12 (Tr.one 13 (Tr.one 14 (Tr.one 15 Tr.done)))))) 11 (Tr.one 1 (Tr.one 6 (Tr.one 12 (Tr.one 13 (Tr.one 14 (Tr.one 15 Tr.done)))))))) 10 (Tr.three 1 (Tr.two 5 (Tr.two 6 (Tr.one 11 (Tr.one 12 (Tr.one 13 (Tr.one 14 (Tr.one 15 Tr.done))))) 11 (Tr.one 6 (Tr.one 12 (Tr.one 13 (Tr.one 14 (Tr.one 15 Tr.done)))))) 11 (Tr.one 5 (Tr.one 6 (Tr.one 12 (Tr.one 13 (Tr.one 14 (Tr.one 15 Tr.done))))))) 5 (Tr.two 1 (Tr.two 6 (Tr.one 11 (Tr.one 12 (Tr.one 13 (Tr.one 14 (Tr.one 15 Tr.done))))) 11 (Tr.one 6 (Tr.one 12 (Tr.one 13 (Tr.one 14 (Tr.one 15 Tr.done)))))) 11 (Tr.one 1 (Tr.one 6 (Tr.one 12 (Tr.one 13 (Tr.one 14 (Tr.one 15 Tr.done))))))) 11 (Tr.two 1 (Tr.one 5 (Tr.one 6 (Tr.one 12 (Tr.one 13 (Tr.one 14 (Tr.one 15 Tr.done)))))) 5 (Tr.one 1 (Tr.one 6 (Tr.one 12 (Tr.one 13 (Tr.one 14 (Tr.one 15 Tr.done))))))))) (And.intro (show treeAll _ _ _ = true by kernel_rfl) ?_))))); (conv => whnf)
  refine ⟨rfl, Rows.idxN T7.p.rows hkp7 (fun p8 y8 hp8 hy8 => ?_)⟩
  rw [hpk] at hy8
  (conv => whnf)
  refine ⟨rfl, Ints.idxN Op7.ints hnl (fun p9 hp9 => ?_)⟩
  rw [et] at hp9
  (conv => whnf)
  (repeat' (first
    | (refine ⟨rfl, (hp8.ext' F).load ?_⟩; (conv => whnf))
    | (refine ⟨rfl, (hp9.ext' F).load ?_⟩; (conv => whnf))
    | (refine HLit.emptyF F (fun hc1 y1 r1 G1 F1 O1 g1 => ?_); (try (have n1 : r11 ≠ r1 := by have := O11.lt; omega)); (try replace O11 := O11.ext G1); replace g1 : h7.length ≤ r1 := Nat.le_trans F.1 g1; replace F := F1; (conv => whnf))
    | (refine HLit.oneF F (fun hc2 y11 r11 G11 F11 O11 g11 => ?_); (try (have n1 : r11 ≠ r1 := by have := O1.lt; omega)); (try replace O1 := O1.ext G11); (try replace O6 := O6.ext G11); replace F := F11; (conv => whnf))
    | (refine ⟨rfl, rfl, HApp.moreR O1 (hy8.ext F) (by rw [List.length_nil]; omega) (fun hc3 r6 y6 B6 g6 O6 => ?_)⟩; rw [List.nil_append] at O6; replace g6 : h7.length ≤ r6 := Nat.le_trans F.1 g6; (try replace O11 := O11.but B6 n1); replace F := F.but B6 g1; (conv => whnf))
    | (refine ⟨rfl, rfl, HApp.moreR O6 O11.ints (by rw [List.length_cons, List.length_nil]; omega) (fun h9 r9 y9 B9 g9 O9 => ?_)⟩; replace g9 : h7.length ≤ r9 := Nat.le_trans F.1 g9; have F9 := F.but B9 g6; (conv => whnf))
    | (refine And.intro ?_ ?_ <;> (conv => whnf))))
  all_goals
    have hl9 := F9.1
    have T9 := (T7.ext F9).swap
    have hlt9 := T7.lt
    (conv => whnf)
    refine HLit.row (O9.own (Nat.zero_le _)).one ?_
    (conv => whnf)
    refine ⟨rfl, rfl, HApp.twin T9 (O9.own (Nat.zero_le _)).one (O9.stays (by omega)) (by omega) (fun h10 r10 k10 hr10 T10 => ?_)⟩
    have E10 : Ext h h10 := k10.ext (fun q e => by have u5 := T.low; omega) (E7.trans F9)
    have Op10 := (Op7.ext F9).keep k10 hrp2
    have hoplt := Op7.lt
    (conv => whnf)
    refine HArith.fits (by omega) (by omega) ?_
    (conv => whnf)
    refine ⟨⟨n + 1, r7, r10, _, _, rfl, by omega, E10, T10.swap, S2, Op10, by omega, by omega, ?_, by rw [List.length_append]; omega, ?_, ?_⟩, by show pl.length - (n + 1) < pl.length - n; omega⟩
    · rw [hsn, bpIn_snoc, ← hstate, bpStep_new ⟨hold, hroom'⟩]
    · rw [getD_app hkl]
      exact hq
    · rw [getD_app hkp7]
      exact hpk

end Go.Proofs.Ytnooeaemjnmkdaa.Hx
