/-
  Contracts of membership in lists of roots and of copies of matrices; a word read off its inversions, as plain functions.
  The reference's named matrices: chains, entries set anew, two matrices side by side.
-/
import Derived.Test.YtkkniibnlniflaaZ21
namespace Go.Proofs.Ytkkniibnlniflaa.Hx
open Go.RowKit
variable {dm : Bool}

theorem takeL_snoc (L : List (List Int)) {k : Nat} (h : k < L.length) : L.take (k + 1) = L.take k ++ [L.getD k []] := by
  rw [List.take_succ_eq_append_getElem h]
  simp [List.getD, h]
theorem memL_snoc {L : List (List Int)} {a : List Int} {k : Nat} (hk : k < L.length) (h : a ∉ L.take k) (h2 : L.getD k [] ≠ a) : a ∉ L.take (k + 1) := by
  rw [takeL_snoc L hk]
  simp only [List.mem_append, List.mem_singleton, not_or]
  exact ⟨h, fun e => h2 e.symm⟩
theorem memL_at {L : List (List Int)} {a : List Int} {k : Nat} (hk : k < L.length) (h2 : L.getD k [] = a) : a ∈ L := by
  have : L[k] = a := by simpa [List.getD, hk] using h2
  rw [← this]
  exact List.getElem_mem hk

/-- The first simple root in a list. -/
def firstS (c : List (List Int)) (L : List (List Int)) : Option Nat := (List.range c.length).find? fun i => decide (simpleRoot c (i : Nat) ∈ L)
/-- The first k roots reflected, the simple one left out; nothing if one of them is not positive or comes twice. -/
def nextTo (c : List (List Int)) (i : Nat) (L : List (List Int)) : Nat → Option (List (List Int))
  | 0 => some []
  | k + 1 => match nextTo c i L k with
    | none => none
    | some R => if L.getD k [] = simpleRoot c (i : Nat) then some R else if rootSign (reflectRoot c (i : Nat) (L.getD k [])) = 1 ∧ reflectRoot c (i : Nat) (L.getD k []) ∉ R then some (R ++ [reflectRoot c (i : Nat) (L.getD k [])]) else none
def woi (c : List (List Int)) : Nat → List (List Int) → List Int → Option (List Int)
  | 0, _, _ => none
  | f + 1, L, o => if L.length = 0 then some o else match firstS c L with
    | none => none
    | some i => match nextTo c i L L.length with
      | none => none
      | some R => woi c f R (o ++ [(i : Int)])
def woiOk (c : List (List Int)) (L : List (List Int)) : Bool := isCartan c && (woi c 16 L []).isSome
def woiW (c : List (List Int)) (L : List (List Int)) : List Int := if isCartan c then (woi c 16 L []).getD [] else []

theorem firstS_at {c L : List (List Int)} {i : Nat} (hi : i < c.length) (h : simpleRoot c (i : Nat) ∈ L) (hb : ∀ t : Nat, t < i → simpleRoot c (t : Nat) ∉ L) : firstS c L = some i := by
  unfold firstS
  rw [List.find?_range_eq_some]
  exact ⟨decide_eq_true h, by simpa using hi, fun t ht => by simp [hb t ht]⟩
theorem firstS_none {c L : List (List Int)} (hb : ∀ t : Nat, t < c.length → simpleRoot c (t : Nat) ∉ L) : firstS c L = none := by
  unfold firstS
  rw [List.find?_range_eq_none]
  intro t ht
  simp [hb t ht]
theorem nextTo_skip {c L R : List (List Int)} {i k : Nat} (h : nextTo c i L k = some R) (h2 : L.getD k [] = simpleRoot c (i : Nat)) : nextTo c i L (k + 1) = some R := by
  rw [nextTo, h]
  simp only
  rw [if_pos h2]
theorem nextTo_add {c L R : List (List Int)} {i k : Nat} (h : nextTo c i L k = some R) (h2 : L.getD k [] ≠ simpleRoot c (i : Nat)) (h3 : rootSign (reflectRoot c (i : Nat) (L.getD k [])) = 1) (h4 : reflectRoot c (i : Nat) (L.getD k []) ∉ R) :
    nextTo c i L (k + 1) = some (R ++ [reflectRoot c (i : Nat) (L.getD k [])]) := by
  rw [nextTo, h]
  simp only
  rw [if_neg h2, if_pos ⟨h3, h4⟩]
theorem nextTo_bad {c L R : List (List Int)} {i k : Nat} (h : nextTo c i L k = some R) (h2 : L.getD k [] ≠ simpleRoot c (i : Nat)) (h3 : rootSign (reflectRoot c (i : Nat) (L.getD k [])) ≠ 1 ∨ reflectRoot c (i : Nat) (L.getD k []) ∈ R) : nextTo c i L (k + 1) = none := by
  rw [nextTo, h]
  simp only
  rw [if_neg h2, if_neg]
  rintro ⟨a, b⟩
  rcases h3 with h3 | h3
  · exact h3 a
  · exact b h3
theorem nextTo_none {c L : List (List Int)} {i k : Nat} (h : nextTo c i L k = none) : ∀ m, k ≤ m → nextTo c i L m = none := by
  intro m hm
  induction m with
  | zero =>
    have : k = 0 := by omega
    subst this
    exact h
  | succ m ih =>
    by_cases e : k = m + 1
    · subst e; exact h
    · rw [nextTo, ih (by omega)]
theorem woi_done {c L : List (List Int)} {f : Nat} {o : List Int} (h : L.length = 0) : woi c (f + 1) L o = some o := by
  rw [woi, if_pos h]
theorem woi_nofirst {c L : List (List Int)} {f : Nat} {o : List Int} (h : L.length ≠ 0) (h2 : firstS c L = none) : woi c (f + 1) L o = none := by
  rw [woi, if_neg h, h2]
theorem woi_nonext {c L : List (List Int)} {f i : Nat} {o : List Int} (h : L.length ≠ 0) (h2 : firstS c L = some i) (h3 : nextTo c i L L.length = none) : woi c (f + 1) L o = none := by
  rw [woi, if_neg h, h2]
  simp only
  rw [h3]
theorem woi_next {c L R : List (List Int)} {f i : Nat} {o : List Int} (h : L.length ≠ 0) (h2 : firstS c L = some i) (h3 : nextTo c i L L.length = some R) : woi c (f + 1) L o = woi c f R (o ++ [(i : Int)]) := by
  rw [woi, if_neg h, h2]
  simp only
  rw [h3]
theorem woi_one {c L : List (List Int)} {o : List Int} (h : L.length ≠ 0) : woi c 1 L o = none := by
  cases h2 : firstS c L with
  | none => exact woi_nofirst h h2
  | some i =>
    cases h3 : nextTo c i L L.length with
    | none => exact woi_nonext h h2 h3
    | some R => rw [woi_next h h2 h3, woi]
theorem woi_off {c L : List (List Int)} (h : isCartan c = false) : woiOk c L = false ∧ woiW c L = [] := by simp [woiOk, woiW, h]
theorem woi_some {c L : List (List Int)} {o : List Int} (h : isCartan c = true) (h2 : woi c 16 L [] = some o) : woiOk c L = true ∧ woiW c L = o := by simp [woiOk, woiW, h, h2]
theorem woi_none {c L : List (List Int)} (h2 : woi c 16 L [] = none) : woiOk c L = false ∧ woiW c L = [] := by
  refine ⟨by simp [woiOk, h2], ?_⟩
  unfold woiW
  rw [h2]
  split <;> rfl
theorem woi_len {c : List (List Int)} : ∀ (f : Nat) (L : List (List Int)) (o y : List Int), woi c f L o = some y → y.length ≤ o.length + f
  | 0, _, _, _, h => by rw [woi] at h; cases h
  | f + 1, L, o, y, h => by
    rw [woi] at h
    split at h
    · injection h with h
      subst h
      omega
    · split at h
      · cases h
      · split at h
        · cases h
        · have := woi_len f _ _ y h
          simp only [List.length_append, List.length_cons, List.length_nil] at this
          omega
theorem woiW_len (c L : List (List Int)) : (woiW c L).length ≤ 16 := by
  unfold woiW
  split
  · cases h : woi c 16 L [] with
    | none => simp
    | some y =>
      have := woi_len 16 L [] y h
      simpa using this
  · simp
theorem rootSign_cases (a : List Int) : rootSign a = 0 ∨ rootSign a = 1 ∨ rootSign a = -1 := by
  unfold rootSign
  split
  · exact Or.inl rfl
  · split
    · exact Or.inr (Or.inl rfl)
    · exact Or.inr (Or.inr rfl)
theorem letter_root {c : List (List Int)} (h : isCartan c = true) {i : Nat} (hi : i < c.length) : simpleRoot c (i : Nat) = (List.replicate c.length (0 : Int)).set (i : Int).toNat 1 :=
  simpleRoot_eq h (by simp [isPoint, inRange]; omega)
theorem tot_app (L : List (List Int)) (l : List Int) : tot (L ++ [l]) = tot L + l.length := by
  rw [← flat_len, ← flat_len, List.flatten_append]
  simp

/-- A slice of slices that is only read: it lay there before, or lies in rows of its own, not row r. -/
def RdM (h0 : Heap) (r : Nat) (h : Heap) (y : H0) (L : List (List Int)) : Prop := Rows h0 y L ∨ ∃ b e, e ≤ h.length ∧ (r < b ∨ e ≤ r) ∧ OwnM b e h y L
theorem OwnM.but {b e r : Nat} {h h' : Heap} {x : H0} {L : List (List Int)} (H : OwnM b e h x L) (k : But r h h') (o : r < b ∨ e ≤ r) : OwnM b e h' x L := by
  obtain ⟨q, ρ, g1, g2, g3, g4, m⟩ := H
  refine ⟨q, ρ, g1, g2, g3, g4, m.move ?_ (fun i hi => ?_)⟩
  · obtain ⟨cs, h1, _⟩ := m.outer
    exact k.2 q (get_lt h1) (by omega)
  · obtain ⟨t, h1⟩ := m.inner i hi
    have := g4 i hi
    exact k.2 _ (get_lt h1) (by omega)
theorem RdM.rows {h0 h : Heap} {r : Nat} {y : H0} {L : List (List Int)} (H : RdM h0 r h y L) (E : Ext h0 h) : Rows h y L := by
  rcases H with H | ⟨b, e, _, _, O⟩
  · exact H.ext E
  · exact O.rows
theorem RdM.ext {h0 h h' : Heap} {r : Nat} {y : H0} {L : List (List Int)} (H : RdM h0 r h y L) (E : Ext h h') : RdM h0 r h' y L := by
  rcases H with H | ⟨b, e, g1, g2, O⟩
  · exact Or.inl H
  · have := E.1
    exact Or.inr ⟨b, e, by omega, g2, O.ext E⟩
theorem RdM.but {h0 h h' : Heap} {r r' : Nat} {y : H0} {L : List (List Int)} (H : RdM h0 r h y L) (B : But r h h') (hr : h.length ≤ r') : RdM h0 r' h' y L := by
  rcases H with H | ⟨b, e, g1, g2, O⟩
  · exact Or.inl H
  · have := B.1
    exact Or.inr ⟨b, e, by omega, Or.inr (by omega), O.but B g2⟩


theorem impl_hasRoot_1 (h : Heap) (x : H0) (r : Nat) (y : H0) (a b : List Int) (hx : Ints h x a) (hr : At h (.ptr r 0) y) (hy : Ints h y b) (hbl : b.length ≤ 2199023255552) :
    HCalls dm Try.prog 130 [.s x, .s (.ptr r 0)] h (fun v h' => v = B (decide (b = a)) ∧ h' = h) := by
  refine calls_of_hFun (m := 0) kd_ok mixed Try.func130 rfl (by kernel_rfl) rfl rfl (of_decide_eq_true rfl) ?_; unfold hFun; (conv => whnf)
  refine ⟨rfl, hr.load ?_⟩
  (conv => whnf)
  refine (lib_Equal _ _ _ b a hy hx hbl).mono ?_
  rintro v h' ⟨rfl, rfl⟩
  (conv => whnf)
  exact ⟨rfl, rfl⟩

theorem lib_IndexFunc_root (h : Heap) (x : H0) (r : Nat) (y : H0) (L : List (List Int)) (w : List Int) (hx : Rows h x L) (hr : At h (.ptr r 0) y) (hy : Ints h y w) (hL : L.length ≤ 1048576) (hw : w.length ≤ 1048576) :
    HCalls dm Try.prog 164 [.s x, .fn 130 [.ptr r 0]] h (fun v h' => ∃ k : Int, v = I k ∧ (0 ≤ k ↔ w ∈ L) ∧ h' = h) := by
  refine calls_of_hFun (m := 0) kd_ok mixed Try.func164 rfl (by kernel_rfl) rfl rfl (of_decide_eq_true rfl) ?_; unfold hFun; (conv => whnf)
  refine ⟨rfl, hx.len ?_⟩
  (conv => whnf)
  refine HLoop.intro [8] [9, 10, 5, 11, 12, 13, 14, 15, 16, 17, 4, 18, 8] (by kernel_rfl) (by kernel_rfl) (fun vs h' => ∃ i : Nat, vs = [I i] ∧ h' = h ∧ i ≤ L.length ∧ w ∉ L.take i) (fun vs _ => L.length - natAt vs 0) ⟨0, rfl, rfl, by omega, by simp⟩ ?_
  rintro vs h' ⟨i, rfl, hh, hi, hb⟩
  subst h'
  (conv => whnf)
  refine HIf.dec (fun hlt => ?_) (fun hge => ?_)
  · (conv => whnf)
    refine ⟨rfl, Rows.idxN hx (by omega) (fun p z hp hz => ?_)⟩
    (conv => whnf)
    refine ⟨rfl, hp.load ?_⟩
    (conv => whnf)
    refine (impl_hasRoot_1 _ _ r y _ w hz hr hy (by omega)).mono ?_
    rintro v h2 ⟨rfl, hh⟩
    subst h2
    (conv => whnf)
    refine HIf.dec (fun he => ?_) (fun hne => ?_)
    · (conv => whnf)
      exact ⟨_, rfl, ⟨fun _ => memL_at (by omega) he.symm, fun _ => by omega⟩, rfl⟩
    · (conv => whnf)
      refine HArith.fits (by omega) (by omega) ?_
      (conv => whnf)
      exact ⟨⟨i + 1, rfl, rfl, by omega, memL_snoc (by omega) hb (Ne.symm hne)⟩, by show L.length - (i + 1) < L.length - i; omega⟩
  · have e : i = L.length := by omega
    subst e
    rw [List.take_length] at hb
    (conv => whnf)
    exact ⟨_, rfl, ⟨fun h => by omega, fun h => absurd h hb⟩, rfl⟩

theorem impl_hasRoot (h : Heap) (x0 : H0) (L : List (List Int)) (x1 : H0) (w : List Int) (hx0 : Rows h x0 L) (hx1 : Ints h x1 w) (hL : L.length ≤ 1048576) (hw : w.length ≤ 1048576) :
    HCalls dm Try.prog 79 [.s x0, .s x1] h (fun r h' => r = B (decide (w ∈ L)) ∧ Ext h h') := by
  have index : ∀ (r : Nat) (h2 : Heap), Ext h h2 → At h2 (.ptr r 0) x1 → HCalls dm Try.prog 129 [.s x0, .fn 130 [.ptr r 0]] h2 (fun v h' => v = B (decide (w ∈ L)) ∧ h' = h2) := by
    intro r h2 E hr
    refine calls_of_hFun (m := 0) kd_ok mixed Try.func129 rfl (by kernel_rfl) rfl rfl (of_decide_eq_true rfl) ?_; unfold hFun; (conv => whnf)
    refine (lib_IndexFunc_root _ _ r x1 L w (hx0.ext E) hr (hx1.ext E) hL hw).mono ?_
    rintro v h3 ⟨k, rfl, hk, hh⟩
    subst h3
    (conv => whnf)
    refine ⟨bEq ?_, rfl⟩
    by_cases h0 : w ∈ L
    · have := hk.2 h0
      simp [h0, this]
    · have : ¬ 0 ≤ k := fun h => h0 (hk.1 h)
      simp [h0]
      omega
  have E := Ext.push h [Row.own [x1]]
  refine calls_of_hFun (m := 0) kd_ok mixed Try.func79 rfl (by kernel_rfl) rfl rfl (of_decide_eq_true rfl) ?_; unfold hFun; (conv => whnf)
  refine ⟨rfl, ⟨x1, rfl, hx1.one, ?_⟩⟩
  (conv => whnf)
  refine (index h.length _ E (At.own (get_new _ _))).mono ?_
  rintro v h2 ⟨rfl, hh⟩
  subst h2
  (conv => whnf)
  exact ⟨rfl, E⟩

theorem spec_l7In (h : Heap) (x0 : H0) (L : List (List Int)) (x1 : H0) (w : List Int) (hx0 : Rows h x0 L) (hx1 : Ints h x1 w) (hL : L.length ≤ 1048576 ∧ tot L ≤ 1048576) :
    HCalls dm Try.prog 78 [.s x0, .s x1] h (fun r h' => r = B (decide (w ∈ L)) ∧ h' = h) := by
  refine calls_of_hFun (m := 0) kd_ok mixed Try.func78 rfl (by kernel_rfl) rfl rfl (of_decide_eq_true rfl) ?_; unfold hFun; (conv => whnf)
  refine HLoop.intro [5] [6, 7, 8, 9, 12, 13, 14, 15, 16, 17, 4, 10, 11, 5] (by kernel_rfl) (by kernel_rfl) (fun vs h' => ∃ i : Nat, vs = [I i] ∧ h' = h ∧ i ≤ L.length ∧ w ∉ L.take i) (fun vs _ => L.length - natAt vs 0) ⟨0, rfl, rfl, by omega, by simp⟩ ?_
  rintro vs h' ⟨i, rfl, hh, hi, hb⟩
  subst h'
  (conv => whnf)
  refine ⟨rfl, hx0.len ?_⟩
  (conv => whnf)
  refine HIf.dec (fun hlt => ?_) (fun hge => ?_)
  · have hle := len_le_tot (L := L) (i := i) (by omega)
    (conv => whnf)
    refine ⟨rfl, Rows.idxN hx0 (by omega) (fun p z hp hz => ?_)⟩
    (conv => whnf)
    refine ⟨rfl, hp.load ?_⟩
    (conv => whnf)
    refine (spec_EqualWords _ _ _ _ w hz hx1 (by omega)).mono ?_
    rintro v h2 ⟨rfl, hh⟩
    subst h2
    (conv => whnf)
    refine HIf.dec (fun he => ?_) (fun hne => ?_)
    · (conv => whnf)
      exact ⟨bEq (decide_eq_true (memL_at (by omega) he)), rfl⟩
    · (conv => whnf)
      refine HArith.fits (by omega) (by omega) ?_
      (conv => whnf)
      exact ⟨⟨i + 1, rfl, rfl, by omega, memL_snoc (by omega) hb hne⟩, by show L.length - (i + 1) < L.length - i; omega⟩
  · have e : i = L.length := by omega
    subst e
    rw [List.take_length] at hb
    (conv => whnf)
    exact ⟨bEq (decide_eq_false hb), rfl⟩

theorem spec_l2Copy (h : Heap) (x0 : H0) (L : List (List Int)) (hx0 : Rows h x0 L) (hL : L.length ≤ 1048576 ∧ tot L ≤ 1048576) :
    HCalls dm Try.prog 184 [.s x0] h (fun r h' => ∃ y, r = .s y ∧ Ext h h' ∧ OwnM h.length h'.length h' y L) := by
  refine calls_of_hFun (m := 0) kd_ok mixed Try.func184 rfl (by kernel_rfl) rfl rfl (of_decide_eq_true rfl) ?_; unfold hFun; (conv => whnf)
  refine HLit.empty ?_
  (conv => whnf)
  refine HLoop.intro [4, 3] [6, 7, 8, 9, 12, 13, 14, 15, 16, 17, 18, 19, 20, 3, 10, 11, 4] (by kernel_rfl) (by kernel_rfl) (fun vs h' => ∃ (k : Nat) (z : H0), vs = [I k, .s z] ∧ k ≤ L.length ∧ Ext h h' ∧ OwnM h.length h'.length h' z (L.take k)) (fun vs _ => L.length - natAt vs 0) ⟨0, _, rfl, by omega, Ext.push _ _, OwnM.none h⟩ ?_
  rintro vs h' ⟨k, z, rfl, hk, E, O⟩
  have hx0 := hx0.ext E
  (conv => whnf)
  refine ⟨rfl, hx0.len ?_⟩
  (conv => whnf)
  refine HIf.dec (fun hlt => ?_) (fun hge => ?_)
  · have hle := len_le_tot (L := L) (i := k) (by omega)
    have E1 := Ext.push h' [Row.own []]
    (conv => whnf)
    refine HLit.empty ?_
    (conv => whnf)
    refine ⟨rfl, Rows.idxN (hx0.ext E1) (by omega) (fun p y hp hy => ?_)⟩
    (conv => whnf)
    refine ⟨rfl, hp.load ?_⟩
    (conv => whnf)
    refine ⟨rfl, rfl, HApp.moreR (OwnR.push h' []) hy (by rw [List.length_nil]; omega) (fun h2 r2 y2 B2 hr2 O2 => ?_)⟩
    have E2 := E1.but B2 (Nat.le_refl _)
    have hE1 := E1.1
    rw [List.nil_append] at O2
    (conv => whnf)
    refine HLit.row (O2.own (Nat.zero_le _)).one ?_
    (conv => whnf)
    refine ⟨rfl, rfl, HApp.snocM E O E2 (O2.own (by omega)) (by simp; omega) (fun h4 y4 E4 O4 => ?_)⟩
    rw [← takeL_snoc L (by omega)] at O4
    (conv => whnf)
    refine HArith.fits (by omega) (by omega) ?_
    (conv => whnf)
    exact ⟨⟨k + 1, y4, rfl, by omega, E4, O4⟩, by show L.length - (k + 1) < L.length - k; omega⟩
  · have e : k = L.length := by omega
    subst e
    rw [List.take_length] at O
    (conv => whnf)
    exact ⟨_, rfl, E, O⟩

end Go.Proofs.Ytkkniibnlniflaa.Hx

namespace Go.Proofs.Ytkkniibnlniflaa.Hx
open Go.RowKit
variable {dm : Bool}

def chainR (n i : Nat) : List Int :=
  let r1 := (List.replicate n (0 : Int)).set i 2
  let r2 := if 0 < i then r1.set (i - 1) (-1) else r1
  if i + 1 < n then r2.set (i + 1) (-1) else r2
def chainTo (n k : Nat) : List (List Int) := (List.range k).map (chainR n)
def chainC (n : Nat) : List (List Int) := chainTo n n
def setM (L : List (List Int)) (i j : Nat) (a : Int) : List (List Int) := L.set i ((L.getD i []).set j a)
def setC (L : List (List Int)) (i j : Nat) (a b : Int) : List (List Int) := setM (setM L i j a) j i b
def zerosL (n : Nat) : List Int := List.replicate n 0
def joinTo1 (a b : List (List Int)) (k : Nat) : List (List Int) := (List.range k).map fun i => a.getD i [] ++ zerosL b.length
def joinTo2 (a b : List (List Int)) (k : Nat) : List (List Int) := joinTo1 a b a.length ++ (List.range k).map fun i => zerosL a.length ++ b.getD i []
def joinC (a b : List (List Int)) : List (List Int) := joinTo2 a b b.length

theorem chainR_length (n i : Nat) : (chainR n i).length = n := by
  unfold chainR
  simp only
  split <;> split <;> simp
theorem chainTo_length (n k : Nat) : (chainTo n k).length = k := by simp [chainTo]
theorem chainTo_succ (n k : Nat) : chainTo n (k + 1) = chainTo n k ++ [chainR n k] := by simp [chainTo, List.range_succ]
theorem setM_length (L : List (List Int)) (i j : Nat) (a : Int) : (setM L i j a).length = L.length := by simp [setM]
theorem setM_get {L : List (List Int)} {i : Nat} (hi : i < L.length) (j : Nat) (a : Int) (k : Nat) : (setM L i j a).getD k [] = if k = i then (L.getD i []).set j a else L.getD k [] := by
  unfold setM
  by_cases hk : k = i
  · subst hk
    simp [List.getD, hi]
  · rw [if_neg hk]
    simp [List.getD, List.getElem?_set_ne (Ne.symm hk)]
theorem setM_row {L : List (List Int)} {i : Nat} (hi : i < L.length) (j : Nat) (a : Int) (k : Nat) : ((setM L i j a).getD k []).length = (L.getD k []).length := by
  rw [setM_get hi]
  split
  · rename_i h
    subst h
    simp
  · rfl
theorem joinTo1_length (a b : List (List Int)) (k : Nat) : (joinTo1 a b k).length = k := by simp [joinTo1]
theorem joinTo1_succ (a b : List (List Int)) (k : Nat) : joinTo1 a b (k + 1) = joinTo1 a b k ++ [a.getD k [] ++ zerosL b.length] := by simp [joinTo1, List.range_succ]
theorem joinTo2_succ (a b : List (List Int)) (k : Nat) : joinTo2 a b (k + 1) = joinTo2 a b k ++ [zerosL a.length ++ b.getD k []] := by simp [joinTo2, List.range_succ]
theorem joinTo2_none (a b : List (List Int)) : joinTo2 a b 0 = joinTo1 a b a.length := by simp [joinTo2]
theorem joinTo2_length (a b : List (List Int)) (k : Nat) : (joinTo2 a b k).length = a.length + k := by simp [joinTo2, joinTo1]

/-- One cell of one's own slice written anew. -/
theorem OwnR.put {r : Nat} {h : Heap} {x : H0} {l : List Int} (O : OwnR r h x l) {o : Nat} (ho : o < l.length) {v : Int} {K : HV → Heap → Prop} (hK : ∀ h', But r h h' → h'.length = h.length → OwnR r h' x (l.set o v) → K .dead h') : HStore h (.s (.ptr r o)) (I v) K := by
  have hlt := O.lt
  obtain ⟨t, rfl, hr⟩ := O
  refine HStore.own hr (by simp; omega) rfl (hK _ ⟨by simp, fun q hq hn => by rw [List.getElem?_set_ne (Ne.symm hn)]⟩ (by simp) ⟨t, by simp, ?_⟩)
  rw [List.getElem?_set_self hlt, List.set_append_left _ _ (by simpa using ho), List.map_set]

theorem OwnR.idx {r : Nat} {h : Heap} {x : H0} {l : List Int} (O : OwnR r h x l) {j : Int} (h0 : 0 ≤ j) (h1 : j < l.length) {k : IntKind} {K : HV → Prop} (hK : K (.s (.ptr r j.toNat))) : HIdx h (.s x) (.s (.pl (.int k j))) K := by
  obtain ⟨t, rfl, hr⟩ := O
  exact HIdx.sl h0 h1 (by rw [Nat.zero_add]; exact hK)

/-- One cell of a slice of slices of one's own written anew. -/
theorem MatAt.put {h : Heap} {r : Nat} {ρ : Nat → Nat} {L : List (List Int)} (m : MatAt h r ρ L) {i o : Nat} (hi : i < L.length) (ho : o < (L.getD i []).length) {v : Int} {K : HV → Heap → Prop}
    (hK : ∀ h', h'.length = h.length → KeepN (fun q => q = ρ i) h h' → MatAt h' r ρ (setM L i o v) → K .dead h') : HStore h (.s (.ptr (ρ i) o)) (I v) K := by
  obtain ⟨t, ht⟩ := m.inner i hi
  have hlt := get_lt ht
  refine HStore.own ht (by simp only [List.length_append, List.length_map]; omega) rfl (hK _ (by simp) ⟨by simp, fun q hq hn => by rw [List.getElem?_set_ne (Ne.symm hn)]⟩ ⟨?_, fun k hk => ?_, fun k hk => ?_, fun k j hkj hj => ?_⟩)
  · obtain ⟨cs, g1, g2, g3⟩ := m.outer
    refine ⟨cs, by rw [List.getElem?_set_ne (m.ne i hi)]; exact g1, by rw [setM_length]; exact g2, fun k hk => ?_⟩
    rw [setM_length] at hk
    rw [setM_row hi]
    exact g3 k hk
  · rw [setM_length] at hk
    rw [setM_get hi]
    by_cases hki : k = i
    · subst hki
      refine ⟨t, ?_⟩
      rw [if_pos rfl, List.getElem?_set_self hlt, List.set_append_left _ _ (by simpa using ho), List.map_set]
    · obtain ⟨t2, ht2⟩ := m.inner k hk
      refine ⟨t2, ?_⟩
      have hne : ρ i ≠ ρ k := by
        rcases Nat.lt_or_gt_of_ne hki with h | h
        · exact fun e => m.inj k i h hi e.symm
        · exact m.inj i k h hk
      rw [if_neg hki, List.getElem?_set_ne hne]
      exact ht2
  · exact m.ne k (by simpa [setM_length] using hk)
  · exact m.inj k j hkj (by simpa [setM_length] using hj)

/-- One slice of a slice of slices of one's own put in anew. -/
theorem MatAt.putRow {h : Heap} {r : Nat} {ρ : Nat → Nat} {L : List (List Int)} (m : MatAt h r ρ L) {i q : Nat} (hi : i < L.length) {y : H0} {l : List Int} (O : OwnR q h y l) (hq : q ≠ r) (hqs : ∀ k, k < L.length → q ≠ ρ k) {K : HV → Heap → Prop}
    (hK : ∀ h', h'.length = h.length → KeepN (fun q => q = r) h h' → MatAt h' r (fun k => if k = i then q else ρ k) (L.set i l) → K .dead h') : HStore h (.s (.ptr r i)) (.s y) K := by
  obtain ⟨cs, g1, g2, g3⟩ := m.outer
  obtain ⟨t, rfl, hr⟩ := O
  have hlt := get_lt g1
  have gd : ∀ k, (L.set i l).getD k [] = if k = i then l else L.getD k [] := fun k => by
    by_cases hk : k = i
    · subst hk
      simp [List.getD, hi]
    · rw [if_neg hk]
      simp [List.getD, List.getElem?_set_ne (Ne.symm hk)]
  refine HStore.own g1 (by omega) rfl (hK _ (by simp) ⟨by simp, fun q hq hn => by rw [List.getElem?_set_ne (Ne.symm hn)]⟩ ⟨⟨_, List.getElem?_set_self hlt, by simpa using g2, fun k hk => ?_⟩, fun k hk => ?_, fun k hk => ?_, fun k j hkj hj => ?_⟩)
  · rw [gd]
    simp only [List.length_set] at hk
    by_cases hki : k = i
    · subst hki
      rw [List.getElem?_set_self (by omega), if_pos rfl, if_pos rfl]
    · rw [List.getElem?_set_ne (Ne.symm hki), if_neg hki, if_neg hki]
      exact g3 k hk
  · rw [gd]
    simp only [List.length_set] at hk
    by_cases hki : k = i
    · subst hki
      rw [if_pos rfl, if_pos rfl]
      exact ⟨t, by rw [List.getElem?_set_ne (Ne.symm hq)]; exact hr⟩
    · obtain ⟨t2, ht2⟩ := m.inner k hk
      rw [if_neg hki, if_neg hki]
      exact ⟨t2, by rw [List.getElem?_set_ne (Ne.symm (m.ne k hk))]; exact ht2⟩
  · simp only [List.length_set] at hk
    show (if k = i then q else ρ k) ≠ r
    by_cases hki : k = i
    · rw [if_pos hki]; exact hq
    · rw [if_neg hki]; exact m.ne k hk
  · simp only [List.length_set] at hj
    show (if k = i then q else ρ k) ≠ (if j = i then q else ρ j)
    by_cases hki : k = i
    · rw [if_pos hki, if_neg (by omega)]
      exact hqs j hj
    · by_cases hji : j = i
      · rw [if_neg hki, if_pos hji]
        exact fun e => hqs k (by omega) e.symm
      · rw [if_neg hki, if_neg hji]
        exact m.inj k j hkj hj

/-- Zeros, appended to one's own slice. -/
theorem HAppZ2.ints {r : Nat} {h : Heap} {y : H0} {l : List Int} {n : Int} {K : HV → Heap → Prop} (H : OwnR r h y l) (h0 : 0 < n) (hn : (l.length : Int) + n ≤ 1048576)
    (hK : ∀ h' r' y', But r h h' → h.length ≤ r' → OwnR r' h' y' (l ++ zerosL n.toNat) → K (.s y') h') : HAppZ2 (.int .i64 0) h (.s y) (I n) K := by
  obtain ⟨t, rfl, hr⟩ := H
  refine ⟨.i64, n.toNat, r, l.length, _, rfl, by rw [Int.toNat_of_nonneg (by omega)], by omega, by omega, hr, by simp, ?_⟩
  have e1 : l.length + n.toNat = (l ++ zerosL n.toNat).length := by simp [zerosL]
  have e2 : (l.map ci ++ t).take l.length ++ List.replicate n.toNat (H0.pl (.int .i64 0)) = (l ++ zerosL n.toNat).map ci := by
    rw [List.take_append_of_le_length (by simp), List.take_of_length_le (by simp)]
    simp [zerosL]
  rw [e1, e2]
  refine hK _ h.length _ ⟨by simp, fun q hq hn => ?_⟩ (Nat.le_refl _) ⟨[], rfl, ?_⟩
  · rw [List.getElem?_append_left (by simpa using hq), List.getElem?_set_ne (Ne.symm hn)]
  · rw [List.getElem?_append_right (by simp)]
    simp

theorem OwnM.keep {F : Nat → Prop} {b e : Nat} {h h' : Heap} {x : H0} {L : List (List Int)} (H : OwnM b e h x L) (k : KeepN F h h') (hf : ∀ q, b ≤ q → q < e → ¬ F q) : OwnM b e h' x L := by
  obtain ⟨r, ρ, g1, g2, g3, g4, m⟩ := H
  exact ⟨r, ρ, g1, g2, g3, g4, m.move (k.2 r m.lt.1 (hf r g2 g3)) (fun i hi => k.2 _ (m.lt.2 i hi) (hf _ (g4 i hi).1 (g4 i hi).2))⟩

theorem OwnM.rowsN {F : Nat → Prop} {b e : Nat} {h : Heap} {x : H0} {L : List (List Int)} (H : OwnM b e h x L) (hf : ∀ q, b ≤ q → q < e → ¬ F q) : RowsN F h x L := by
  obtain ⟨r, ρ, rfl, g2, g3, g4, m⟩ := H
  obtain ⟨cs, h1, h2, h3⟩ := m.outer
  refine ⟨(cs.drop 0).take L.length, Shows.own r 0 L.length cs h1 (by omega), fun r' o n e => by cases e; exact hf _ g2 g3, by simp; omega, fun i y l hy hl => ?_⟩
  have hi : i < L.length := (List.getElem?_eq_some_iff.1 hl).1
  rw [List.drop_zero, List.getElem?_take_of_lt hi, h3 i hi] at hy
  cases hy
  obtain ⟨t, ht⟩ := m.inner i hi
  have e : L.getD i [] = l := by simp [List.getD, hl]
  rw [e] at ht ⊢
  exact ⟨Ints.ofOwn ht, fun r' o n e => by cases e; exact hf _ (g4 i hi).1 (g4 i hi).2⟩

/-- Two texts compared. -/
theorem HStr.eql {a b : ByteArray} {K : HV → Prop} (hK : K (B (a.toList == b.toList))) : HStr .eql a b K := ⟨_, fun _ _ => rfl, hK⟩
theorem HIf.str {a b : ByteArray} {A C : Prop} (h1 : a = b → A) (h2 : a ≠ b → C) : HIf (a.toList == b.toList) A C := by
  refine HIf.split (fun h => h1 ?_) (fun h => h2 (fun e => ?_))
  · rw [ByteArray.toList_eq, ByteArray.toList_eq] at h
    exact Go.WideShapes.bytes_inj (by simpa using h)
  · subst e
    simp at h
theorem HIf.strT {a b : ByteArray} {A C : Prop} (e : a = b) (h : A) : HIf (a.toList == b.toList) A C := HIf.str (fun _ => h) (fun k => absurd e k)
theorem HIf.strF {a b : ByteArray} {A C : Prop} (e : a ≠ b) (h : C) : HIf (a.toList == b.toList) A C := HIf.str (fun k => absurd k e) (fun _ => h)

/-- The names of which the reference draws. -/
def namesT : List ByteArray := [⟨#[65, 49]⟩, ⟨#[65, 50]⟩, ⟨#[65, 51]⟩, ⟨#[65, 52]⟩, ⟨#[66, 50]⟩, ⟨#[66, 51]⟩, ⟨#[66, 52]⟩, ⟨#[67, 51]⟩, ⟨#[67, 52]⟩, ⟨#[68, 52]⟩, ⟨#[70, 52]⟩, ⟨#[71, 50]⟩, ⟨#[65, 49, 126]⟩, ⟨#[65, 50, 126]⟩, ⟨#[65, 51, 126]⟩, ⟨#[67, 50, 126]⟩, ⟨#[71, 50, 126]⟩]
theorem cartA1 : isCartan (chainC 1) = true := by decide +kernel
theorem cartA2 : isCartan (chainC 2) = true := by decide +kernel
theorem cartA3 : isCartan (chainC 3) = true := by decide +kernel
theorem cartA4 : isCartan (chainC 4) = true := by decide +kernel
theorem cartB2 : isCartan (setC (chainC 2) 0 1 (-1) (-2)) = true := by decide +kernel
theorem cartB3 : isCartan (setC (chainC 3) 1 2 (-1) (-2)) = true := by decide +kernel
theorem cartB4 : isCartan (setC (chainC 4) 2 3 (-1) (-2)) = true := by decide +kernel
theorem cartC3 : isCartan (setC (chainC 3) 1 2 (-2) (-1)) = true := by decide +kernel
theorem cartC4 : isCartan (setC (chainC 4) 2 3 (-2) (-1)) = true := by decide +kernel
theorem cartD4 : isCartan (setC (setC (chainC 4) 2 3 0 0) 1 3 (-1) (-1)) = true := by decide +kernel
theorem cartF4 : isCartan (setC (chainC 4) 1 2 (-1) (-2)) = true := by decide +kernel
theorem cartG2 : isCartan (setC (chainC 2) 0 1 (-1) (-3)) = true := by decide +kernel
theorem cartA1t : isCartan (setC (chainC 2) 0 1 (-2) (-2)) = true := by decide +kernel
theorem cartA2t : isCartan (setC (chainC 3) 0 2 (-1) (-1)) = true := by decide +kernel
theorem cartA3t : isCartan (setC (chainC 4) 0 3 (-1) (-1)) = true := by decide +kernel
theorem cartC2t : isCartan (setC (setC (chainC 3) 0 1 (-1) (-2)) 1 2 (-2) (-1)) = true := by decide +kernel
theorem cartG2t : isCartan (setC (chainC 3) 1 2 (-1) (-3)) = true := by decide +kernel

/-- A matrix as the draws make them: square, of one to four points. -/
structure Shape (L : List (List Int)) : Prop where
  pos : 1 ≤ L.length
  le : L.length ≤ 4
  row : ∀ k, k < L.length → (L.getD k []).length = L.length

theorem Shape.of {L : List (List Int)} (h : isCartan L = true) : Shape L := by
  have := (isCartan_iff L).1 h
  exact ⟨this.pos, this.le, this.row⟩
theorem tot_rows {n : Nat} {L : List (List Int)} (h : ∀ k, k < L.length → (L.getD k []).length ≤ n) : tot L ≤ n * L.length :=
  tot_le n L (fun l hl => by
    obtain ⟨i, hi, e⟩ := List.getElem_of_mem hl
    have := h i hi
    have e2 : L.getD i [] = l := by simp [List.getD, hi, e]
    rw [e2] at this
    exact this)
theorem Shape.tot {L : List (List Int)} (h : Shape L) : tot L ≤ 16 := by
  have h1 := tot_rows (n := 4) (L := L) (fun k hk => by rw [h.row k hk]; exact h.le)
  have := h.le
  omega
theorem Shape.set {L : List (List Int)} (h : Shape L) {i j : Nat} (hi : i < L.length) (hj : j < L.length) (a b : Int) : Shape (setC L i j a b) := by
  unfold setC
  refine ⟨?_, ?_, fun k hk => ?_⟩
  · rw [setM_length, setM_length]; exact h.pos
  · rw [setM_length, setM_length]; exact h.le
  · rw [setM_length, setM_length] at hk
    rw [setM_length, setM_length, setM_row (by rw [setM_length]; exact hj), setM_row hi]
    exact h.row k hk


theorem spec_l2Chain (h : Heap) (n : Nat) (hn : n ≤ 4) : HCalls dm Try.prog 183 [I n] h (fun r h' => ∃ y, r = .s y ∧ Ext h h' ∧ OwnM h.length h'.length h' y (chainC n)) := by
  refine calls_of_hFun (m := 0) kd_ok mixed Try.func183 rfl (by kernel_rfl) rfl rfl (of_decide_eq_true rfl) ?_; unfold hFun; (conv => whnf)
  refine HLit.empty ?_
  (conv => whnf)
  refine HLoop.intro [4, 3] [7, 8, 9, 12, 13, 5, 14, 15, 16, 17, 18, 19, 20, 21, 22, 23, 24, 25, 26, 27, 28, 29, 30, 31, 32, 33, 34, 3, 10, 11, 4] (by kernel_rfl) (by kernel_rfl) (fun vs h' => ∃ (k : Nat) (z : H0), vs = [I k, .s z] ∧ k ≤ n ∧ Ext h h' ∧ OwnM h.length h'.length h' z (chainTo n k)) (fun vs _ => n - natAt vs 0) ⟨0, _, rfl, by omega, Ext.push _ _, OwnM.none h⟩ ?_
  rintro vs h' ⟨k, z, rfl, hk, E, O⟩
  have hcl := chainTo_length n k
  (conv => whnf)
  refine HIf.dec (fun hlt => ?_) (fun hge => ?_)
  · (conv => whnf)
    refine HMake.ints n rfl (by omega) ?_
    have O1 : OwnR h'.length (h' ++ [.own (List.replicate n (ci 0))]) (.sl h'.length 0 n) (List.replicate n (0 : Int)) := ⟨[], by simp, by rw [get_new]; simp⟩
    have E1 := Ext.push h' [.own (List.replicate n (ci 0))]
    generalize h' ++ [Row.own (List.replicate n (ci 0))] = h1 at O1 E1 ⊢
    have hE1 := E1.1
    have hrl : (List.replicate n (0 : Int)).length = n := by simp
    (conv => whnf)
    refine ⟨rfl, O1.idx (by omega) (by omega) ?_⟩
    (conv => whnf)
    refine ⟨rfl, O1.put (o := k) (by omega) (fun h2 B2 n2 O2 => ?_)⟩
    have E2 := E1.but B2 (Nat.le_refl _)
    have l2 : (((List.replicate n (0 : Int)).set k 2)).length = n := by simp
    (conv => whnf)
    refine HIf.dec (fun h0 => ?_) (fun h0 => ?_)
    · (conv => whnf)
      refine HArith.fits (by omega) (by omega) ?_
      (conv => whnf)
      refine ⟨rfl, O2.idx (by omega) (by omega) ?_⟩
      (conv => whnf)
      refine ⟨rfl, O2.put (by omega) (fun h3 B3 n3 O3 => ?_)⟩
      have E3 := E2.but B3 (Nat.le_refl _)
      have e3 : ((k : Int) - 1).toNat = k - 1 := by omega
      rw [e3] at O3
      have l3 : ((((List.replicate n (0 : Int)).set k 2)).set (k - 1) (-1)).length = n := by simp
      (conv => whnf)
      refine HArith.fits (by omega) (by omega) ?_
      (conv => whnf)
      refine HIf.dec (fun h1 => ?_) (fun h1 => ?_)
      · (conv => whnf)
        refine HArith.fits (by omega) (by omega) ?_
        (conv => whnf)
        refine ⟨rfl, O3.idx (by omega) (by omega) ?_⟩
        (conv => whnf)
        refine ⟨rfl, O3.put (by omega) (fun h4 B4 n4 O4 => ?_)⟩
        have E4 := E3.but B4 (Nat.le_refl _)
        have e4 : ((k : Int) + 1).toNat = k + 1 := by omega
        have e5 : (((((List.replicate n (0 : Int)).set k 2)).set (k - 1) (-1)).set ((k : Int) + 1).toNat (-1)) = chainR n k := by
          rw [e4]
          unfold chainR
          simp only
          rw [if_pos (by omega), if_pos (by omega)]
        rw [e5] at O4
        (conv => whnf)
        refine HLit.row (O4.own (Nat.zero_le _)).one ?_
        (conv => whnf)
        refine ⟨rfl, rfl, HApp.snocM E O E4 (O4.own (by omega)) (by omega) (fun h6 y6 E6 O6 => ?_)⟩
        rw [← chainTo_succ] at O6
        (conv => whnf)
        refine HArith.fits (by omega) (by omega) ?_
        (conv => whnf)
        exact ⟨⟨k + 1, y6, rfl, by omega, E6, O6⟩, by show n - (k + 1) < n - k; omega⟩
      · have e5 : ((((List.replicate n (0 : Int)).set k 2)).set (k - 1) (-1)) = chainR n k := by
          unfold chainR
          simp only
          rw [if_neg (by omega), if_pos (by omega)]
        rw [e5] at O3
        (conv => whnf)
        refine HLit.row (O3.own (Nat.zero_le _)).one ?_
        (conv => whnf)
        refine ⟨rfl, rfl, HApp.snocM E O E3 (O3.own (by omega)) (by omega) (fun h6 y6 E6 O6 => ?_)⟩
        rw [← chainTo_succ] at O6
        (conv => whnf)
        refine HArith.fits (by omega) (by omega) ?_
        (conv => whnf)
        exact ⟨⟨k + 1, y6, rfl, by omega, E6, O6⟩, by show n - (k + 1) < n - k; omega⟩
    · (conv => whnf)
      refine HArith.fits (by omega) (by omega) ?_
      (conv => whnf)
      refine HIf.dec (fun h1 => ?_) (fun h1 => ?_)
      · (conv => whnf)
        refine HArith.fits (by omega) (by omega) ?_
        (conv => whnf)
        refine ⟨rfl, O2.idx (by omega) (by omega) ?_⟩
        (conv => whnf)
        refine ⟨rfl, O2.put (by omega) (fun h4 B4 n4 O4 => ?_)⟩
        have E4 := E2.but B4 (Nat.le_refl _)
        have e4 : ((k : Int) + 1).toNat = k + 1 := by omega
        have e5 : (((List.replicate n (0 : Int)).set k 2)).set ((k : Int) + 1).toNat (-1) = chainR n k := by
          rw [e4]
          unfold chainR
          simp only
          rw [if_pos (by omega), if_neg (by omega)]
        rw [e5] at O4
        (conv => whnf)
        refine HLit.row (O4.own (Nat.zero_le _)).one ?_
        (conv => whnf)
        refine ⟨rfl, rfl, HApp.snocM E O E4 (O4.own (by omega)) (by omega) (fun h6 y6 E6 O6 => ?_)⟩
        rw [← chainTo_succ] at O6
        (conv => whnf)
        refine HArith.fits (by omega) (by omega) ?_
        (conv => whnf)
        exact ⟨⟨k + 1, y6, rfl, by omega, E6, O6⟩, by show n - (k + 1) < n - k; omega⟩
      · have e5 : (((List.replicate n (0 : Int)).set k 2)) = chainR n k := by
          unfold chainR
          simp only
          rw [if_neg (by omega), if_neg (by omega)]
        rw [e5] at O2
        (conv => whnf)
        refine HLit.row (O2.own (Nat.zero_le _)).one ?_
        (conv => whnf)
        refine ⟨rfl, rfl, HApp.snocM E O E2 (O2.own (by omega)) (by omega) (fun h6 y6 E6 O6 => ?_)⟩
        rw [← chainTo_succ] at O6
        (conv => whnf)
        refine HArith.fits (by omega) (by omega) ?_
        (conv => whnf)
        exact ⟨⟨k + 1, y6, rfl, by omega, E6, O6⟩, by show n - (k + 1) < n - k; omega⟩
  · have e : k = n := by omega
    subst e
    (conv => whnf)
    exact ⟨_, rfl, E, O⟩

theorem spec_l2Set (h : Heap) (x : H0) (L : List (List Int)) (i j : Nat) (a b : Int) (hx : Rows h x L) (hL : L.length ≤ 1048576 ∧ tot L ≤ 1048576) (hi : i < L.length) (hj : j < L.length) (hij : j < (L.getD i []).length) (hji : i < (L.getD j []).length) :
    HCalls dm Try.prog 178 [.s x, I i, I j, I a, I b] h (fun r h' => ∃ y, r = .s y ∧ Ext h h' ∧ OwnM h.length h'.length h' y (setC L i j a b)) := by
  refine calls_of_hFun (m := 0) kd_ok mixed Try.func178 rfl (by kernel_rfl) rfl rfl (of_decide_eq_true rfl) ?_; unfold hFun; (conv => whnf)
  refine (spec_l2Copy _ _ _ hx hL).mono ?_
  rintro r h1 ⟨y, rfl, E1, O1⟩
  obtain ⟨r0, ρ, rfl, hb, he, hρ, m⟩ := O1
  (conv => whnf)
  refine ⟨rfl, m.idx hi (fun p hp => ?_)⟩
  (conv => whnf)
  refine ⟨rfl, hp.load ?_⟩
  (conv => whnf)
  refine ⟨rfl, (m.inner' hi).idx (by omega) (by omega) ?_⟩
  (conv => whnf)
  refine ⟨rfl, m.put hi hij (fun h2 n2 k2 m2 => ?_)⟩
  have E2 : Ext h h2 := k2.ext (fun q e => by have := hρ i hi; omega) E1
  have hj2 : j < (setM L i j a).length := by rw [setM_length]; exact hj
  have hl2 : (setM L i j a).length = L.length := setM_length _ _ _ _
  have hji2 : i < ((setM L i j a).getD j []).length := by rw [setM_row hi]; exact hji
  rw [← hl2]
  (conv => whnf)
  refine ⟨rfl, m2.idx hj2 (fun p hp => ?_)⟩
  (conv => whnf)
  refine ⟨rfl, hp.load ?_⟩
  (conv => whnf)
  refine ⟨rfl, (m2.inner' hj2).idx (by omega) (by omega) ?_⟩
  (conv => whnf)
  refine ⟨rfl, m2.put hj2 hji2 (fun h3 n3 k3 m3 => ?_)⟩
  have E3 : Ext h h3 := k3.ext (fun q e => by have := hρ j hj; omega) E2
  have hl3 : (setC L i j a b).length = L.length := by unfold setC; rw [setM_length, setM_length]
  (conv => whnf)
  exact ⟨_, rfl, E3, r0, ρ, by rw [hl3, hl2], hb, by omega, fun k hk => by rw [hl3] at hk; have := hρ k hk; omega, m3⟩

set_option maxRecDepth 20000 in
theorem spec_TypeCartan (h : Heap) (s : ByteArray) (hs : s ∈ namesT) : HCalls dm Try.prog 176 [St s] h (fun r h' => ∃ y L, r = TM y true ∧ Ext h h' ∧ OwnM h.length h'.length h' y L ∧ isCartan L = true) := by
  refine calls_of_hFun (m := 0) kd_ok mixed Try.func176 rfl (by kernel_rfl) rfl rfl (of_decide_eq_true rfl) ?_; unfold hFun; (conv => whnf)
  refine HStr.eql ?_
  (conv => whnf)
  refine HIf.str (fun e => ?_) (fun neA1 => ?_)
  · subst e
    (conv => whnf)
    refine HIf.strT rfl ?_
    (conv => whnf)
    refine ⟨_, .i64, 1, by decide, rfl, rfl, ?_⟩
    (conv => whnf)
    refine HArith.any ?_
    (conv => whnf)
    refine HConv.of ?_
    (conv => whnf)
    refine (show HCalls _ _ _ [I ((1 : Nat) : Int)] _ _ from (spec_l2Chain h 1 (by omega)).mono ?_)
    rintro r h1 ⟨y1, rfl, E1, O1⟩
    (conv => whnf)
    exact ⟨_, _, rfl, E1, O1, cartA1⟩
  (conv => whnf)
  refine HStr.eql ?_
  (conv => whnf)
  refine HIf.str (fun e => ?_) (fun neA2 => ?_)
  · subst e
    (conv => whnf)
    refine HIf.strT rfl ?_
    (conv => whnf)
    refine ⟨_, .i64, 1, by decide, rfl, rfl, ?_⟩
    (conv => whnf)
    refine HArith.any ?_
    (conv => whnf)
    refine HConv.of ?_
    (conv => whnf)
    refine (show HCalls _ _ _ [I ((2 : Nat) : Int)] _ _ from (spec_l2Chain h 2 (by omega)).mono ?_)
    rintro r h1 ⟨y1, rfl, E1, O1⟩
    (conv => whnf)
    exact ⟨_, _, rfl, E1, O1, cartA2⟩
  (conv => whnf)
  refine HStr.eql ?_
  (conv => whnf)
  refine HIf.str (fun e => ?_) (fun neA3 => ?_)
  · subst e
    (conv => whnf)
    refine HIf.strT rfl ?_
    (conv => whnf)
    refine ⟨_, .i64, 1, by decide, rfl, rfl, ?_⟩
    (conv => whnf)
    refine HArith.any ?_
    (conv => whnf)
    refine HConv.of ?_
    (conv => whnf)
    refine (show HCalls _ _ _ [I ((3 : Nat) : Int)] _ _ from (spec_l2Chain h 3 (by omega)).mono ?_)
    rintro r h1 ⟨y1, rfl, E1, O1⟩
    (conv => whnf)
    exact ⟨_, _, rfl, E1, O1, cartA3⟩
  (conv => whnf)
  refine HStr.eql ?_
  (conv => whnf)
  refine HIf.str (fun e => ?_) (fun neA4 => ?_)
  · subst e
    (conv => whnf)
    refine ⟨_, .i64, 1, by decide, rfl, rfl, ?_⟩
    (conv => whnf)
    refine HArith.any ?_
    (conv => whnf)
    refine HConv.of ?_
    (conv => whnf)
    refine (show HCalls _ _ _ [I ((4 : Nat) : Int)] _ _ from (spec_l2Chain h 4 (by omega)).mono ?_)
    rintro r h1 ⟨y1, rfl, E1, O1⟩
    (conv => whnf)
    exact ⟨_, _, rfl, E1, O1, cartA4⟩
  (conv => whnf)
  refine HStr.eql ?_
  (conv => whnf)
  refine HIf.str (fun e => ?_) (fun neB2 => ?_)
  · subst e
    (conv => whnf)
    refine (show HCalls _ _ _ [I ((2 : Nat) : Int)] _ _ from (spec_l2Chain h 2 (by omega)).mono ?_)
    rintro r h1 ⟨y1, rfl, E1, O1⟩
    (conv => whnf)
    refine (spec_l2Set h1 _ (chainC 2) 0 1 (-1) (-2) O1.rows (by decide +kernel) (by decide +kernel) (by decide +kernel) (by decide +kernel) (by decide +kernel)).mono ?_
    rintro r h2 ⟨y2, rfl, E2, O2⟩
    (conv => whnf)
    replace O2 := O2.lower E1.1
    replace E2 := E1.trans E2
    exact ⟨_, _, rfl, E2, O2, cartB2⟩
  (conv => whnf)
  refine HStr.eql ?_
  (conv => whnf)
  refine HIf.str (fun e => ?_) (fun neB3 => ?_)
  · subst e
    (conv => whnf)
    refine (show HCalls _ _ _ [I ((3 : Nat) : Int)] _ _ from (spec_l2Chain h 3 (by omega)).mono ?_)
    rintro r h1 ⟨y1, rfl, E1, O1⟩
    (conv => whnf)
    refine (spec_l2Set h1 _ (chainC 3) 1 2 (-1) (-2) O1.rows (by decide +kernel) (by decide +kernel) (by decide +kernel) (by decide +kernel) (by decide +kernel)).mono ?_
    rintro r h2 ⟨y2, rfl, E2, O2⟩
    (conv => whnf)
    replace O2 := O2.lower E1.1
    replace E2 := E1.trans E2
    exact ⟨_, _, rfl, E2, O2, cartB3⟩
  (conv => whnf)
  refine HStr.eql ?_
  (conv => whnf)
  refine HIf.str (fun e => ?_) (fun neB4 => ?_)
  · subst e
    (conv => whnf)
    refine (show HCalls _ _ _ [I ((4 : Nat) : Int)] _ _ from (spec_l2Chain h 4 (by omega)).mono ?_)
    rintro r h1 ⟨y1, rfl, E1, O1⟩
    (conv => whnf)
    refine (spec_l2Set h1 _ (chainC 4) 2 3 (-1) (-2) O1.rows (by decide +kernel) (by decide +kernel) (by decide +kernel) (by decide +kernel) (by decide +kernel)).mono ?_
    rintro r h2 ⟨y2, rfl, E2, O2⟩
    (conv => whnf)
    replace O2 := O2.lower E1.1
    replace E2 := E1.trans E2
    exact ⟨_, _, rfl, E2, O2, cartB4⟩
  (conv => whnf)
  refine HStr.eql ?_
  (conv => whnf)
  refine HIf.str (fun e => ?_) (fun neC3 => ?_)
  · subst e
    (conv => whnf)
    refine (show HCalls _ _ _ [I ((3 : Nat) : Int)] _ _ from (spec_l2Chain h 3 (by omega)).mono ?_)
    rintro r h1 ⟨y1, rfl, E1, O1⟩
    (conv => whnf)
    refine (spec_l2Set h1 _ (chainC 3) 1 2 (-2) (-1) O1.rows (by decide +kernel) (by decide +kernel) (by decide +kernel) (by decide +kernel) (by decide +kernel)).mono ?_
    rintro r h2 ⟨y2, rfl, E2, O2⟩
    (conv => whnf)
    replace O2 := O2.lower E1.1
    replace E2 := E1.trans E2
    exact ⟨_, _, rfl, E2, O2, cartC3⟩
  (conv => whnf)
  refine HStr.eql ?_
  (conv => whnf)
  refine HIf.str (fun e => ?_) (fun neC4 => ?_)
  · subst e
    (conv => whnf)
    refine (show HCalls _ _ _ [I ((4 : Nat) : Int)] _ _ from (spec_l2Chain h 4 (by omega)).mono ?_)
    rintro r h1 ⟨y1, rfl, E1, O1⟩
    (conv => whnf)
    refine (spec_l2Set h1 _ (chainC 4) 2 3 (-2) (-1) O1.rows (by decide +kernel) (by decide +kernel) (by decide +kernel) (by decide +kernel) (by decide +kernel)).mono ?_
    rintro r h2 ⟨y2, rfl, E2, O2⟩
    (conv => whnf)
    replace O2 := O2.lower E1.1
    replace E2 := E1.trans E2
    exact ⟨_, _, rfl, E2, O2, cartC4⟩
  (conv => whnf)
  refine HStr.eql ?_
  (conv => whnf)
  refine HIf.str (fun e => ?_) (fun neD4 => ?_)
  · subst e
    (conv => whnf)
    refine (show HCalls _ _ _ [I ((4 : Nat) : Int)] _ _ from (spec_l2Chain h 4 (by omega)).mono ?_)
    rintro r h1 ⟨y1, rfl, E1, O1⟩
    (conv => whnf)
    refine (spec_l2Set h1 _ (chainC 4) 2 3 0 0 O1.rows (by decide +kernel) (by decide +kernel) (by decide +kernel) (by decide +kernel) (by decide +kernel)).mono ?_
    rintro r h2 ⟨y2, rfl, E2, O2⟩
    (conv => whnf)
    replace O2 := O2.lower E1.1
    replace E2 := E1.trans E2
    refine (spec_l2Set h2 _ (setC (chainC 4) 2 3 0 0) 1 3 (-1) (-1) O2.rows (by decide +kernel) (by decide +kernel) (by decide +kernel) (by decide +kernel) (by decide +kernel)).mono ?_
    rintro r h3 ⟨y3, rfl, E3, O3⟩
    (conv => whnf)
    replace O3 := O3.lower E2.1
    replace E3 := E2.trans E3
    exact ⟨_, _, rfl, E3, O3, cartD4⟩
  (conv => whnf)
  refine HStr.eql ?_
  (conv => whnf)
  refine HIf.str (fun e => ?_) (fun neF4 => ?_)
  · subst e
    (conv => whnf)
    refine (show HCalls _ _ _ [I ((4 : Nat) : Int)] _ _ from (spec_l2Chain h 4 (by omega)).mono ?_)
    rintro r h1 ⟨y1, rfl, E1, O1⟩
    (conv => whnf)
    refine (spec_l2Set h1 _ (chainC 4) 1 2 (-1) (-2) O1.rows (by decide +kernel) (by decide +kernel) (by decide +kernel) (by decide +kernel) (by decide +kernel)).mono ?_
    rintro r h2 ⟨y2, rfl, E2, O2⟩
    (conv => whnf)
    replace O2 := O2.lower E1.1
    replace E2 := E1.trans E2
    exact ⟨_, _, rfl, E2, O2, cartF4⟩
  (conv => whnf)
  refine HStr.eql ?_
  (conv => whnf)
  refine HIf.str (fun e => ?_) (fun neG2 => ?_)
  · subst e
    (conv => whnf)
    refine (show HCalls _ _ _ [I ((2 : Nat) : Int)] _ _ from (spec_l2Chain h 2 (by omega)).mono ?_)
    rintro r h1 ⟨y1, rfl, E1, O1⟩
    (conv => whnf)
    refine (spec_l2Set h1 _ (chainC 2) 0 1 (-1) (-3) O1.rows (by decide +kernel) (by decide +kernel) (by decide +kernel) (by decide +kernel) (by decide +kernel)).mono ?_
    rintro r h2 ⟨y2, rfl, E2, O2⟩
    (conv => whnf)
    replace O2 := O2.lower E1.1
    replace E2 := E1.trans E2
    exact ⟨_, _, rfl, E2, O2, cartG2⟩
  (conv => whnf)
  refine HStr.eql ?_
  (conv => whnf)
  refine HIf.str (fun e => ?_) (fun neA1t => ?_)
  · subst e
    (conv => whnf)
    refine (show HCalls _ _ _ [I ((2 : Nat) : Int)] _ _ from (spec_l2Chain h 2 (by omega)).mono ?_)
    rintro r h1 ⟨y1, rfl, E1, O1⟩
    (conv => whnf)
    refine (spec_l2Set h1 _ (chainC 2) 0 1 (-2) (-2) O1.rows (by decide +kernel) (by decide +kernel) (by decide +kernel) (by decide +kernel) (by decide +kernel)).mono ?_
    rintro r h2 ⟨y2, rfl, E2, O2⟩
    (conv => whnf)
    replace O2 := O2.lower E1.1
    replace E2 := E1.trans E2
    exact ⟨_, _, rfl, E2, O2, cartA1t⟩
  (conv => whnf)
  refine HStr.eql ?_
  (conv => whnf)
  refine HIf.str (fun e => ?_) (fun neA2t => ?_)
  · subst e
    (conv => whnf)
    refine (show HCalls _ _ _ [I ((3 : Nat) : Int)] _ _ from (spec_l2Chain h 3 (by omega)).mono ?_)
    rintro r h1 ⟨y1, rfl, E1, O1⟩
    (conv => whnf)
    refine (spec_l2Set h1 _ (chainC 3) 0 2 (-1) (-1) O1.rows (by decide +kernel) (by decide +kernel) (by decide +kernel) (by decide +kernel) (by decide +kernel)).mono ?_
    rintro r h2 ⟨y2, rfl, E2, O2⟩
    (conv => whnf)
    replace O2 := O2.lower E1.1
    replace E2 := E1.trans E2
    exact ⟨_, _, rfl, E2, O2, cartA2t⟩
  (conv => whnf)
  refine HStr.eql ?_
  (conv => whnf)
  refine HIf.str (fun e => ?_) (fun neA3t => ?_)
  · subst e
    (conv => whnf)
    refine (show HCalls _ _ _ [I ((4 : Nat) : Int)] _ _ from (spec_l2Chain h 4 (by omega)).mono ?_)
    rintro r h1 ⟨y1, rfl, E1, O1⟩
    (conv => whnf)
    refine (spec_l2Set h1 _ (chainC 4) 0 3 (-1) (-1) O1.rows (by decide +kernel) (by decide +kernel) (by decide +kernel) (by decide +kernel) (by decide +kernel)).mono ?_
    rintro r h2 ⟨y2, rfl, E2, O2⟩
    (conv => whnf)
    replace O2 := O2.lower E1.1
    replace E2 := E1.trans E2
    exact ⟨_, _, rfl, E2, O2, cartA3t⟩
  (conv => whnf)
  refine HStr.eql ?_
  (conv => whnf)
  refine HIf.str (fun e => ?_) (fun neC2t => ?_)
  · subst e
    (conv => whnf)
    refine (show HCalls _ _ _ [I ((3 : Nat) : Int)] _ _ from (spec_l2Chain h 3 (by omega)).mono ?_)
    rintro r h1 ⟨y1, rfl, E1, O1⟩
    (conv => whnf)
    refine (spec_l2Set h1 _ (chainC 3) 0 1 (-1) (-2) O1.rows (by decide +kernel) (by decide +kernel) (by decide +kernel) (by decide +kernel) (by decide +kernel)).mono ?_
    rintro r h2 ⟨y2, rfl, E2, O2⟩
    (conv => whnf)
    replace O2 := O2.lower E1.1
    replace E2 := E1.trans E2
    refine (spec_l2Set h2 _ (setC (chainC 3) 0 1 (-1) (-2)) 1 2 (-2) (-1) O2.rows (by decide +kernel) (by decide +kernel) (by decide +kernel) (by decide +kernel) (by decide +kernel)).mono ?_
    rintro r h3 ⟨y3, rfl, E3, O3⟩
    (conv => whnf)
    replace O3 := O3.lower E2.1
    replace E3 := E2.trans E3
    exact ⟨_, _, rfl, E3, O3, cartC2t⟩
  (conv => whnf)
  refine HStr.eql ?_
  (conv => whnf)
  refine HIf.str (fun e => ?_) (fun neG2t => ?_)
  · subst e
    (conv => whnf)
    refine (show HCalls _ _ _ [I ((3 : Nat) : Int)] _ _ from (spec_l2Chain h 3 (by omega)).mono ?_)
    rintro r h1 ⟨y1, rfl, E1, O1⟩
    (conv => whnf)
    refine (spec_l2Set h1 _ (chainC 3) 1 2 (-1) (-3) O1.rows (by decide +kernel) (by decide +kernel) (by decide +kernel) (by decide +kernel) (by decide +kernel)).mono ?_
    rintro r h2 ⟨y2, rfl, E2, O2⟩
    (conv => whnf)
    replace O2 := O2.lower E1.1
    replace E2 := E1.trans E2
    exact ⟨_, _, rfl, E2, O2, cartG2t⟩
  (conv => whnf)
  exfalso
  simp only [namesT, List.mem_cons, List.not_mem_nil, or_false] at hs
  rcases hs with rfl | rfl | rfl | rfl | rfl | rfl | rfl | rfl | rfl | rfl | rfl | rfl | rfl | rfl | rfl | rfl | rfl <;> contradiction

end Go.Proofs.Ytkkniibnlniflaa.Hx
