/-
  Contracts of membership in lists of roots and of copies of matrices; a word read off its inversions, as plain functions.
  Words as maps of all places: the exchange of a letter, the deletion of two letters, and that the image of rho tells the map. Plain theory.
-/
import Derived.Test.YtgliajcgcbnemaaGreatDoorZ19
namespace Go.Proofs.YtgliajcgcbnemaaGreatDoor.Hx
open Go.RowKit
variable {dm : Bool}

theorem takeL_snoc (L : List (List Int)) {k : Nat} (h : k < L.length) : L.take (k + 1) = L.take k ++ [L.getD k []] := by
  rw [List.take_succ_eq_append_getElem h]
  simp [List.getD, h]
theorem memL_snoc {L : List (List Int)} {a : List Int} {k : Nat} (hk : k < L.length) (h : a ∉ L.take k) (h2 : L.getD k [] ≠ a) : a ∉ L.take (k + 1) := by
  rw [takeL_snoc L hk]
  simp only [List.mem_append, List.mem_singleton, not_or]
  exact ⟨h, fun e => h2 e.symm⟩
theorem memL_at {L : List (List Int)} {a : List Int} {k : Nat} (hk : k < L.length) (h2 : L.getD k [] = a) : a ∈ L := by
  have : L[k] = a := by simpa [List.getD, hk] using h2
  rw [← this]
  exact List.getElem_mem hk

/-- The first simple root in a list. -/
def firstS (c : List (List Int)) (L : List (List Int)) : Option Nat := (List.range c.length).find? fun i => decide (simpleRoot c (i : Nat) ∈ L)
/-- The first k roots reflected, the simple one left out; nothing if one of them is not positive or comes twice. -/
def nextTo (c : List (List Int)) (i : Nat) (L : List (List Int)) : Nat → Option (List (List Int))
  | 0 => some []
  | k + 1 => match nextTo c i L k with
    | none => none
    | some R => if L.getD k [] = simpleRoot c (i : Nat) then some R else if rootSign (reflectRoot c (i : Nat) (L.getD k [])) = 1 ∧ reflectRoot c (i : Nat) (L.getD k []) ∉ R then some (R ++ [reflectRoot c (i : Nat) (L.getD k [])]) else none
def woi (c : List (List Int)) : Nat → List (List Int) → List Int → Option (List Int)
  | 0, _, _ => none
  | f + 1, L, o => if L.length = 0 then some o else match firstS c L with
    | none => none
    | some i => match nextTo c i L L.length with
      | none => none
      | some R => woi c f R (o ++ [(i : Int)])
def woiOk (c : List (List Int)) (L : List (List Int)) : Bool := isCartan c && (woi c 16 L []).isSome
def woiW (c : List (List Int)) (L : List (List Int)) : List Int := if isCartan c then (woi c 16 L []).getD [] else []

theorem firstS_at {c L : List (List Int)} {i : Nat} (hi : i < c.length) (h : simpleRoot c (i : Nat) ∈ L) (hb : ∀ t : Nat, t < i → simpleRoot c (t : Nat) ∉ L) : firstS c L = some i := by
  unfold firstS
  rw [List.find?_range_eq_some]
  exact ⟨decide_eq_true h, by simpa using hi, fun t ht => by simp [hb t ht]⟩
theorem firstS_none {c L : List (List Int)} (hb : ∀ t : Nat, t < c.length → simpleRoot c (t : Nat) ∉ L) : firstS c L = none := by
  unfold firstS
  rw [List.find?_range_eq_none]
  intro t ht
  simp [hb t ht]
theorem nextTo_skip {c L R : List (List Int)} {i k : Nat} (h : nextTo c i L k = some R) (h2 : L.getD k [] = simpleRoot c (i : Nat)) : nextTo c i L (k + 1) = some R := by
  rw [nextTo, h]
  simp only
  rw [if_pos h2]
theorem nextTo_add {c L R : List (List Int)} {i k : Nat} (h : nextTo c i L k = some R) (h2 : L.getD k [] ≠ simpleRoot c (i : Nat)) (h3 : rootSign (reflectRoot c (i : Nat) (L.getD k [])) = 1) (h4 : reflectRoot c (i : Nat) (L.getD k []) ∉ R) :
    nextTo c i L (k + 1) = some (R ++ [reflectRoot c (i : Nat) (L.getD k [])]) := by
  rw [nextTo, h]
  simp only
  rw [if_neg h2, if_pos ⟨h3, h4⟩]
theorem nextTo_bad {c L R : List (List Int)} {i k : Nat} (h : nextTo c i L k = some R) (h2 : L.getD k [] ≠ simpleRoot c (i : Nat)) (h3 : rootSign (reflectRoot c (i : Nat) (L.getD k [])) ≠ 1 ∨ reflectRoot c (i : Nat) (L.getD k []) ∈ R) : nextTo c i L (k + 1) = none := by
  rw [nextTo, h]
  simp only
  rw [if_neg h2, if_neg]
  rintro ⟨a, b⟩
  rcases h3 with h3 | h3
  · exact h3 a
  · exact b h3
theorem nextTo_none {c L : List (List Int)} {i k : Nat} (h : nextTo c i L k = none) : ∀ m, k ≤ m → nextTo c i L m = none := by
  intro m hm
  induction m with
  | zero =>
    have : k = 0 := by omega
    subst this
    exact h
  | succ m ih =>
    by_cases e : k = m + 1
    · subst e; exact h
    · rw [nextTo, ih (by omega)]
theorem woi_done {c L : List (List Int)} {f : Nat} {o : List Int} (h : L.length = 0) : woi c (f + 1) L o = some o := by
  rw [woi, if_pos h]
theorem woi_nofirst {c L : List (List Int)} {f : Nat} {o : List Int} (h : L.length ≠ 0) (h2 : firstS c L = none) : woi c (f + 1) L o = none := by
  rw [woi, if_neg h, h2]
theorem woi_nonext {c L : List (List Int)} {f i : Nat} {o : List Int} (h : L.length ≠ 0) (h2 : firstS c L = some i) (h3 : nextTo c i L L.length = none) : woi c (f + 1) L o = none := by
  rw [woi, if_neg h, h2]
  simp only
  rw [h3]
theorem woi_next {c L R : List (List Int)} {f i : Nat} {o : List Int} (h : L.length ≠ 0) (h2 : firstS c L = some i) (h3 : nextTo c i L L.length = some R) : woi c (f + 1) L o = woi c f R (o ++ [(i : Int)]) := by
  rw [woi, if_neg h, h2]
  simp only
  rw [h3]
theorem woi_one {c L : List (List Int)} {o : List Int} (h : L.length ≠ 0) : woi c 1 L o = none := by
  cases h2 : firstS c L with
  | none => exact woi_nofirst h h2
  | some i =>
    cases h3 : nextTo c i L L.length with
    | none => exact woi_nonext h h2 h3
    | some R => rw [woi_next h h2 h3, woi]
theorem woi_off {c L : List (List Int)} (h : isCartan c = false) : woiOk c L = false ∧ woiW c L = [] := by simp [woiOk, woiW, h]
theorem woi_some {c L : List (List Int)} {o : List Int} (h : isCartan c = true) (h2 : woi c 16 L [] = some o) : woiOk c L = true ∧ woiW c L = o := by simp [woiOk, woiW, h, h2]
theorem woi_none {c L : List (List Int)} (h2 : woi c 16 L [] = none) : woiOk c L = false ∧ woiW c L = [] := by
  refine ⟨by simp [woiOk, h2], ?_⟩
  unfold woiW
  rw [h2]
  split <;> rfl
theorem woi_len {c : List (List Int)} : ∀ (f : Nat) (L : List (List Int)) (o y : List Int), woi c f L o = some y → y.length ≤ o.length + f
  | 0, _, _, _, h => by rw [woi] at h; cases h
  | f + 1, L, o, y, h => by
    rw [woi] at h
    split at h
    · injection h with h
      subst h
      omega
    · split at h
      · cases h
      · split at h
        · cases h
        · have := woi_len f _ _ y h
          simp only [List.length_append, List.length_cons, List.length_nil] at this
          omega
theorem woiW_len (c L : List (List Int)) : (woiW c L).length ≤ 16 := by
  unfold woiW
  split
  · cases h : woi c 16 L [] with
    | none => simp
    | some y =>
      have := woi_len 16 L [] y h
      simpa using this
  · simp
theorem rootSign_cases (a : List Int) : rootSign a = 0 ∨ rootSign a = 1 ∨ rootSign a = -1 := by
  unfold rootSign
  split
  · exact Or.inl rfl
  · split
    · exact Or.inr (Or.inl rfl)
    · exact Or.inr (Or.inr rfl)
theorem letter_root {c : List (List Int)} (h : isCartan c = true) {i : Nat} (hi : i < c.length) : simpleRoot c (i : Nat) = (List.replicate c.length (0 : Int)).set (i : Int).toNat 1 :=
  simpleRoot_eq h (by simp [isPoint, inRange]; omega)
theorem tot_app (L : List (List Int)) (l : List Int) : tot (L ++ [l]) = tot L + l.length := by
  rw [← flat_len, ← flat_len, List.flatten_append]
  simp

/-- A slice of slices that is only read: it lay there before, or lies in rows of its own, not row r. -/
def RdM (h0 : Heap) (r : Nat) (h : Heap) (y : H0) (L : List (List Int)) : Prop := Rows h0 y L ∨ ∃ b e, e ≤ h.length ∧ (r < b ∨ e ≤ r) ∧ OwnM b e h y L
theorem OwnM.but {b e r : Nat} {h h' : Heap} {x : H0} {L : List (List Int)} (H : OwnM b e h x L) (k : But r h h') (o : r < b ∨ e ≤ r) : OwnM b e h' x L := by
  obtain ⟨q, ρ, g1, g2, g3, g4, m⟩ := H
  refine ⟨q, ρ, g1, g2, g3, g4, m.move ?_ (fun i hi => ?_)⟩
  · obtain ⟨cs, h1, _⟩ := m.outer
    exact k.2 q (get_lt h1) (by omega)
  · obtain ⟨t, h1⟩ := m.inner i hi
    have := g4 i hi
    exact k.2 _ (get_lt h1) (by omega)
theorem RdM.rows {h0 h : Heap} {r : Nat} {y : H0} {L : List (List Int)} (H : RdM h0 r h y L) (E : Ext h0 h) : Rows h y L := by
  rcases H with H | ⟨b, e, _, _, O⟩
  · exact H.ext E
  · exact O.rows
theorem RdM.ext {h0 h h' : Heap} {r : Nat} {y : H0} {L : List (List Int)} (H : RdM h0 r h y L) (E : Ext h h') : RdM h0 r h' y L := by
  rcases H with H | ⟨b, e, g1, g2, O⟩
  · exact Or.inl H
  · have := E.1
    exact Or.inr ⟨b, e, by omega, g2, O.ext E⟩
theorem RdM.but {h0 h h' : Heap} {r r' : Nat} {y : H0} {L : List (List Int)} (H : RdM h0 r h y L) (B : But r h h') (hr : h.length ≤ r') : RdM h0 r' h' y L := by
  rcases H with H | ⟨b, e, g1, g2, O⟩
  · exact Or.inl H
  · have := B.1
    exact Or.inr ⟨b, e, by omega, Or.inr (by omega), O.but B g2⟩

set_option smartUnfolding false

theorem impl_hasRoot_1 (h : Heap) (x : H0) (r : Nat) (y : H0) (a b : List Int) (hx : Ints h x a) (hr : At h (.ptr r 0) y) (hy : Ints h y b) (hbl : b.length ≤ 2199023255552) :
    HCalls dm Tryz.prog 159 [.s x, .s (.ptr r 0)] h (fun v h' => v = B (decide (b = a)) ∧ h' = h) := by
  refine calls_of_hFun (m := 0) kd_ok mixed Tryz.func159 rfl (by kernel_rfl) rfl rfl (of_decide_eq_true rfl) ?_; unfold hFun; (conv => whnf)
  refine ⟨rfl, hr.load ?_⟩
  (conv => whnf)
  refine (lib_Equal _ _ _ b a hy hx hbl).mono ?_
  rintro v h' ⟨rfl, rfl⟩
  (conv => whnf)
  exact ⟨rfl, rfl⟩

theorem lib_IndexFunc_root (h : Heap) (x : H0) (r : Nat) (y : H0) (L : List (List Int)) (w : List Int) (hx : Rows h x L) (hr : At h (.ptr r 0) y) (hy : Ints h y w) (hL : L.length ≤ 1048576) (hw : w.length ≤ 1048576) :
    HCalls dm Tryz.prog 210 [.s x, .fn 159 [.ptr r 0]] h (fun v h' => ∃ k : Int, v = I k ∧ (0 ≤ k ↔ w ∈ L) ∧ h' = h) := by
  refine calls_of_hFun (m := 0) kd_ok mixed Tryz.func210 rfl (by kernel_rfl) rfl rfl (of_decide_eq_true rfl) ?_; unfold hFun; (conv => whnf)
  refine ⟨rfl, hx.len ?_⟩
  (conv => whnf)
  refine HLoop.intro [8] [9, 10, 5, 11, 12, 13, 14, 15, 16, 17, 4, 18, 8] (by kernel_rfl) (by kernel_rfl) (fun vs h' => ∃ i : Nat, vs = [I i] ∧ h' = h ∧ i ≤ L.length ∧ w ∉ L.take i) (fun vs _ => L.length - natAt vs 0) ⟨0, rfl, rfl, by omega, by simp⟩ ?_
  rintro vs h' ⟨i, rfl, hh, hi, hb⟩
  subst h'
  (conv => whnf)
  refine HIf.dec (fun hlt => ?_) (fun hge => ?_)
  · (conv => whnf)
    refine ⟨rfl, Rows.idxN hx (by omega) (fun p z hp hz => ?_)⟩
    (conv => whnf)
    refine ⟨rfl, hp.load ?_⟩
    (conv => whnf)
    refine (impl_hasRoot_1 _ _ r y _ w hz hr hy (by omega)).mono ?_
    rintro v h2 ⟨rfl, hh⟩
    subst h2
    (conv => whnf)
    refine HIf.dec (fun he => ?_) (fun hne => ?_)
    · (conv => whnf)
      exact ⟨_, rfl, ⟨fun _ => memL_at (by omega) he.symm, fun _ => by omega⟩, rfl⟩
    · (conv => whnf)
      refine HArith.fits (by omega) (by omega) ?_
      (conv => whnf)
      exact ⟨⟨i + 1, rfl, rfl, by omega, memL_snoc (by omega) hb (Ne.symm hne)⟩, by show L.length - (i + 1) < L.length - i; omega⟩
  · have e : i = L.length := by omega
    subst e
    rw [List.take_length] at hb
    (conv => whnf)
    exact ⟨_, rfl, ⟨fun h => by omega, fun h => absurd h hb⟩, rfl⟩

theorem impl_hasRoot (h : Heap) (x0 : H0) (L : List (List Int)) (x1 : H0) (w : List Int) (hx0 : Rows h x0 L) (hx1 : Ints h x1 w) (hL : L.length ≤ 1048576) (hw : w.length ≤ 1048576) :
    HCalls dm Tryz.prog 94 [.s x0, .s x1] h (fun r h' => r = B (decide (w ∈ L)) ∧ Ext h h') := by
  have index : ∀ (r : Nat) (h2 : Heap), Ext h h2 → At h2 (.ptr r 0) x1 → HCalls dm Tryz.prog 158 [.s x0, .fn 159 [.ptr r 0]] h2 (fun v h' => v = B (decide (w ∈ L)) ∧ h' = h2) := by
    intro r h2 E hr
    refine calls_of_hFun (m := 0) kd_ok mixed Tryz.func158 rfl (by kernel_rfl) rfl rfl (of_decide_eq_true rfl) ?_; unfold hFun; (conv => whnf)
    refine (lib_IndexFunc_root _ _ r x1 L w (hx0.ext E) hr (hx1.ext E) hL hw).mono ?_
    rintro v h3 ⟨k, rfl, hk, hh⟩
    subst h3
    (conv => whnf)
    refine ⟨bEq ?_, rfl⟩
    by_cases h0 : w ∈ L
    · have := hk.2 h0
      simp [h0, this]
    · have : ¬ 0 ≤ k := fun h => h0 (hk.1 h)
      simp [h0]
      omega
  have E := Ext.push h [Row.own [x1]]
  refine calls_of_hFun (m := 0) kd_ok mixed Tryz.func94 rfl (by kernel_rfl) rfl rfl (of_decide_eq_true rfl) ?_; unfold hFun; (conv => whnf)
  refine ⟨rfl, ⟨x1, rfl, hx1.one, ?_⟩⟩
  (conv => whnf)
  refine (index h.length _ E (At.own (get_new _ _))).mono ?_
  rintro v h2 ⟨rfl, hh⟩
  subst h2
  (conv => whnf)
  exact ⟨rfl, E⟩

theorem spec_l7In (h : Heap) (x0 : H0) (L : List (List Int)) (x1 : H0) (w : List Int) (hx0 : Rows h x0 L) (hx1 : Ints h x1 w) (hL : L.length ≤ 1048576 ∧ tot L ≤ 1048576) :
    HCalls dm Tryz.prog 105 [.s x0, .s x1] h (fun r h' => r = B (decide (w ∈ L)) ∧ h' = h) := by
  refine calls_of_hFun (m := 0) kd_ok mixed Tryz.func105 rfl (by kernel_rfl) rfl rfl (of_decide_eq_true rfl) ?_; unfold hFun; (conv => whnf)
  refine HLoop.intro [5] [6, 7, 8, 9, 12, 13, 14, 15, 16, 17, 4, 10, 11, 5] (by kernel_rfl) (by kernel_rfl) (fun vs h' => ∃ i : Nat, vs = [I i] ∧ h' = h ∧ i ≤ L.length ∧ w ∉ L.take i) (fun vs _ => L.length - natAt vs 0) ⟨0, rfl, rfl, by omega, by simp⟩ ?_
  rintro vs h' ⟨i, rfl, hh, hi, hb⟩
  subst h'
  (conv => whnf)
  refine ⟨rfl, hx0.len ?_⟩
  (conv => whnf)
  refine HIf.dec (fun hlt => ?_) (fun hge => ?_)
  · have hle := len_le_tot (L := L) (i := i) (by omega)
    (conv => whnf)
    refine ⟨rfl, Rows.idxN hx0 (by omega) (fun p z hp hz => ?_)⟩
    (conv => whnf)
    refine ⟨rfl, hp.load ?_⟩
    (conv => whnf)
    refine (spec_EqualWords _ _ _ _ w hz hx1 (by omega)).mono ?_
    rintro v h2 ⟨rfl, hh⟩
    subst h2
    (conv => whnf)
    refine HIf.dec (fun he => ?_) (fun hne => ?_)
    · (conv => whnf)
      exact ⟨bEq (decide_eq_true (memL_at (by omega) he)), rfl⟩
    · (conv => whnf)
      refine HArith.fits (by omega) (by omega) ?_
      (conv => whnf)
      exact ⟨⟨i + 1, rfl, rfl, by omega, memL_snoc (by omega) hb hne⟩, by show L.length - (i + 1) < L.length - i; omega⟩
  · have e : i = L.length := by omega
    subst e
    rw [List.take_length] at hb
    (conv => whnf)
    exact ⟨bEq (decide_eq_false hb), rfl⟩

theorem spec_l2Copy (h : Heap) (x0 : H0) (L : List (List Int)) (hx0 : Rows h x0 L) (hL : L.length ≤ 1048576 ∧ tot L ≤ 1048576) :
    HCalls dm Tryz.prog 104 [.s x0] h (fun r h' => ∃ y, r = .s y ∧ Ext h h' ∧ OwnM h.length h'.length h' y L) := by
  refine calls_of_hFun (m := 0) kd_ok mixed Tryz.func104 rfl (by kernel_rfl) rfl rfl (of_decide_eq_true rfl) ?_; unfold hFun; (conv => whnf)
  refine HLit.empty ?_
  (conv => whnf)
  refine HLoop.intro [4, 3] [6, 7, 8, 9, 12, 13, 14, 15, 16, 17, 18, 19, 20, 3, 10, 11, 4] (by kernel_rfl) (by kernel_rfl) (fun vs h' => ∃ (k : Nat) (z : H0), vs = [I k, .s z] ∧ k ≤ L.length ∧ Ext h h' ∧ OwnM h.length h'.length h' z (L.take k)) (fun vs _ => L.length - natAt vs 0) ⟨0, _, rfl, by omega, Ext.push _ _, OwnM.none h⟩ ?_
  rintro vs h' ⟨k, z, rfl, hk, E, O⟩
  have hx0 := hx0.ext E
  (conv => whnf)
  refine ⟨rfl, hx0.len ?_⟩
  (conv => whnf)
  refine HIf.dec (fun hlt => ?_) (fun hge => ?_)
  · have hle := len_le_tot (L := L) (i := k) (by omega)
    have E1 := Ext.push h' [Row.own []]
    (conv => whnf)
    refine HLit.empty ?_
    (conv => whnf)
    refine ⟨rfl, Rows.idxN (hx0.ext E1) (by omega) (fun p y hp hy => ?_)⟩
    (conv => whnf)
    refine ⟨rfl, hp.load ?_⟩
    (conv => whnf)
    refine ⟨rfl, rfl, HApp.moreR (OwnR.push h' []) hy (by rw [List.length_nil]; omega) (fun h2 r2 y2 B2 hr2 O2 => ?_)⟩
    have E2 := E1.but B2 (Nat.le_refl _)
    have hE1 := E1.1
    rw [List.nil_append] at O2
    (conv => whnf)
    refine HLit.row (O2.own (Nat.zero_le _)).one ?_
    (conv => whnf)
    refine ⟨rfl, rfl, HApp.snocM E O E2 (O2.own (by omega)) (by simp; omega) (fun h4 y4 E4 O4 => ?_)⟩
    rw [← takeL_snoc L (by omega)] at O4
    (conv => whnf)
    refine HArith.fits (by omega) (by omega) ?_
    (conv => whnf)
    exact ⟨⟨k + 1, y4, rfl, by omega, E4, O4⟩, by show L.length - (k + 1) < L.length - k; omega⟩
  · have e : k = L.length := by omega
    subst e
    rw [List.take_length] at O
    (conv => whnf)
    exact ⟨_, rfl, E, O⟩

end Go.Proofs.YtgliajcgcbnemaaGreatDoor.Hx

namespace Go.Proofs.YtgliajcgcbnemaaGreatDoor.Hx
open Go.RowKit

/-- Two words do the same to every place. -/
def Lin (c : List (List Int)) (a b : List Int) : Prop := ∀ v : Pos, actS (ent c) a v = actS (ent c) b v

theorem Lin.refl (c : List (List Int)) (a : List Int) : Lin c a a := fun _ => rfl
theorem Lin.symm {c : List (List Int)} {a b : List Int} (h : Lin c a b) : Lin c b a := fun v => (h v).symm
theorem Lin.trans {c : List (List Int)} {a b d : List Int} (h : Lin c a b) (k : Lin c b d) : Lin c a d := fun v => (h v).trans (k v)
theorem Lin.app {c : List (List Int)} {a b a' b' : List Int} (h : Lin c a b) (k : Lin c a' b') : Lin c (a ++ a') (b ++ b') := fun v => by rw [actS_app, actS_app, k v, h]
theorem Lin.cons {c : List (List Int)} {a b : List Int} (i : Int) (h : Lin c a b) : Lin c (i :: a) (i :: b) := Lin.app (Lin.refl c [i]) h

theorem Br.lin {c : List (List Int)} {a b : List Int} (h : Br c a b) : Lin c a b := by
  cases h with
  | mk p i j m q hb h2 =>
    obtain ⟨hC, hi, hj, hij, e⟩ := bond_info hb h2
    have p1 := point_of hi
    have p2 := point_of hj
    refine Lin.app (Lin.refl c p) (Lin.app (fun v => ?_) (Lin.refl c q))
    rw [actS_alt, actS_alt, e, alt_rel (matOk hC) (i := i.toNat) (j := j.toNat) (by omega) (by omega) (by omega)]

theorem Conn.lin {c : List (List Int)} {a b : List Int} (h : Conn c a b) : Lin c a b := by
  induction h with
  | refl => exact Lin.refl c _
  | tail _ s ih => exact ih.trans s.lin
theorem Conn.letters {c : List (List Int)} {a b : List Int} (h : Conn c a b) (ha : lettersOk c a = true) : lettersOk c b = true := by
  induction h with
  | refl => exact ha
  | tail _ s ih => exact s.letters ih

theorem twice {c : List (List Int)} (hC : Cartan c) {i : Int} (hi : isPoint c i = true) (w : List Int) : Lin c (i :: i :: w) w := fun v => by
  have p1 := point_of hi
  exact sr_sr ((matOk hC).diag i.toNat (by omega)) _

theorem bondP_cases {p : Int} (h : 2 ≤ bondP p) : bondP p = 2 ∨ bondP p = 3 ∨ bondP p = 4 ∨ bondP p = 6 := by
  unfold bondP at h ⊢
  split
  · exact Or.inl rfl
  · split
    · exact Or.inr (Or.inl rfl)
    · split
      · exact Or.inr (Or.inr (Or.inl rfl))
      · split
        · exact Or.inr (Or.inr (Or.inr rfl))
        · rename_i h1 h2 h3 h4
          rw [if_neg h1, if_neg h2, if_neg h3, if_neg h4] at h
          omega

/-- A letter less of one row of turns is a letter less of the other. -/
theorem alt_erase {c : List (List Int)} (hC : Cartan c) {i j : Int} (hi : isPoint c i = true) (hj : isPoint c j = true) {m : Nat} (hm : m = 2 ∨ m = 3 ∨ m = 4 ∨ m = 6) {k : Nat} (hk : k < m) :
    Lin c ((altTo i j m).eraseIdx k) ((altTo j i m).eraseIdx (m - 1 - k)) := by
  have p1 := point_of hi
  have p2 := point_of hj
  have d1 : ∀ v, sr (ent c) i.toNat (sr (ent c) i.toNat v) = v := sr_sr ((matOk hC).diag i.toNat (by omega))
  have d2 : ∀ v, sr (ent c) j.toNat (sr (ent c) j.toNat v) = v := sr_sr ((matOk hC).diag j.toNat (by omega))
  intro v
  rcases hm with rfl | rfl | rfl | rfl
  · have e : k = 0 ∨ k = 1 := by omega
    rcases e with rfl | rfl <;> rfl
  · have e : k = 0 ∨ k = 1 ∨ k = 2 := by omega
    rcases e with rfl | rfl | rfl
    · rfl
    · show sr (ent c) i.toNat (sr (ent c) i.toNat v) = sr (ent c) j.toNat (sr (ent c) j.toNat v)
      rw [d1, d2]
    · rfl
  · have e : k = 0 ∨ k = 1 ∨ k = 2 ∨ k = 3 := by omega
    rcases e with rfl | rfl | rfl | rfl
    · rfl
    · show sr (ent c) i.toNat (sr (ent c) i.toNat (sr (ent c) j.toNat v)) = sr (ent c) j.toNat (sr (ent c) i.toNat (sr (ent c) i.toNat v))
      rw [d1, d1]
    · show sr (ent c) i.toNat (sr (ent c) j.toNat (sr (ent c) j.toNat v)) = sr (ent c) j.toNat (sr (ent c) j.toNat (sr (ent c) i.toNat v))
      rw [d2, d2]
    · rfl
  · have e : k = 0 ∨ k = 1 ∨ k = 2 ∨ k = 3 ∨ k = 4 ∨ k = 5 := by omega
    have u : ∀ (m : Nat) (x y : Int), altTo x y (m + 1) = x :: altTo y x m := fun m x y => altTo_cons x y m
    rcases e with rfl | rfl | rfl | rfl | rfl | rfl <;> simp only [u, altTo_none, List.eraseIdx, actS, d1, d2] <;> try rfl

/-- One letter of w can be left out for letter i put ahead. -/
def Exch (c : List (List Int)) (i : Int) (w : List Int) : Prop := ∃ k, k < w.length ∧ Lin c (w.eraseIdx k) (i :: w)

theorem Exch.br {c : List (List Int)} {a b : List Int} {i : Int} (h : Br c a b) (H : Exch c i a) : Exch c i b := by
  have hl := h.lin
  have hbr := h.length
  obtain ⟨k, hk, e⟩ := H
  cases h with
  | mk p s t m q hb h2 =>
    obtain ⟨hC, hs, ht, hst, em⟩ := bond_info hb h2
    have p1 := point_of hs
    have p2 := point_of ht
    have halt : Lin c (altTo s t m) (altTo t s m) := fun v => by
      rw [actS_alt, actS_alt, em, alt_rel (matOk hC) (i := s.toNat) (j := t.toNat) (by omega) (by omega) (by omega)]
    have l1 : (altTo s t m).length = m := altTo_len s t m
    have l2 : (altTo t s m).length = m := altTo_len t s m
    by_cases h1 : k < p.length
    · refine ⟨k, by rw [hbr]; exact hk, ?_⟩
      rw [List.eraseIdx_append_of_lt_length h1] at e ⊢
      exact (Lin.app (Lin.refl c _) (Lin.app halt.symm (Lin.refl c q))).trans (e.trans (hl.cons i))
    · rw [List.eraseIdx_append_of_length_le (by omega)] at e
      by_cases h3 : k - p.length < m
      · rw [List.eraseIdx_append_of_lt_length (by omega)] at e
        refine ⟨p.length + (m - 1 - (k - p.length)), by simp [l2]; omega, ?_⟩
        rw [List.eraseIdx_append_of_length_le (by omega), Nat.add_sub_cancel_left, List.eraseIdx_append_of_lt_length (by omega)]
        have hal := alt_erase hC hs ht (m := m) (k := k - p.length) (by rw [em]; exact bondP_cases (by omega)) h3
        exact (Lin.app (Lin.refl c p) (Lin.app hal.symm (Lin.refl c q))).trans (e.trans (hl.cons i))
      · rw [List.eraseIdx_append_of_length_le (by omega)] at e
        refine ⟨k, by rw [hbr]; exact hk, ?_⟩
        rw [List.eraseIdx_append_of_length_le (by omega), List.eraseIdx_append_of_length_le (by omega), l2]
        rw [l1] at e
        exact (Lin.app (Lin.refl c p) (Lin.app halt.symm (Lin.refl c _))).trans (e.trans (hl.cons i))

theorem Exch.conn {c : List (List Int)} {a b : List Int} {i : Int} (h : Conn c a b) (H : Exch c i a) : Exch c i b := by
  induction h with
  | refl => exact H
  | tail _ s ih => exact ih.br s

/-- The exchange of a letter. -/
theorem exchange {c : List (List Int)} (hC : Cartan c) {n : Nat} {v w : List Int} (P : PlayL c n v) (hn : n ≤ 29) (R : Red c n v w) {i : Int} (hi : isPoint c i = true) (h : v.getD i.toNat 0 < 0) : Exch c i w := by
  have p1 := point_of hi
  obtain ⟨m, rfl, Q⟩ := P.down hC (by omega) (i := i.toNat) (by omega) h
  have Rz : Red c m (reflW c i.toNat v) (nf c 30 (reflW c i.toNat v)) := ⟨nf_len hC m _ 30 Q (by omega) (by omega), nf_letters hC m _ 30 Q (by omega) (by omega), nf_image hC m _ 30 Q (by omega) (by omega)⟩
  have Ri := Red.cons hC P (by omega) hi h Rz
  refine Exch.conn (conn_all hC (m + 1) v P hn _ w Ri R) ⟨0, by simp, ?_⟩
  exact (twice hC hi _).symm

theorem lin_image {c : List (List Int)} (hC : Cartan c) {a b : List Int} (h : Lin c a b) (ha : lettersOk c a = true) (hb : lettersOk c b = true) (hla : a.length ≤ 31) (hlb : b.length ≤ 31) : imageOf c a = imageOf c b := by
  apply posOf_inj (by rw [imageOf_length, imageOf_length])
  rw [image_pos hC ha hla, image_pos hC hb hlb]
  exact h _

theorem letters_erase {c : List (List Int)} {w : List Int} (h : lettersOk c w = true) (k : Nat) : lettersOk c (w.eraseIdx k) = true :=
  List.all_eq_true.2 fun x hx => List.all_eq_true.1 h x (List.mem_of_mem_eraseIdx hx)

/-- The deletion of two letters. -/
theorem deletion {c : List (List Int)} (hC : Cartan c) : ∀ (w : List Int) (n : Nat), lettersOk c w = true → w.length ≤ 29 → PlayL c n (imageOf c w) → n < w.length →
    ∃ a b, a < b ∧ b < w.length ∧ Lin c ((w.eraseIdx b).eraseIdx a) w
  | [], _, _, _, _, h => by simp at h
  | s :: q, n, hw, hl, P, hn => by
    obtain ⟨hs, hq⟩ := letters_cons.1 hw
    have p1 := point_of hs
    simp only [List.length_cons] at hl hn
    obtain ⟨m, hm, Q⟩ := play_image hC hq (by omega)
    by_cases h : m < q.length
    · obtain ⟨a, b, h1, h2, h3⟩ := deletion hC q m hq (by omega) Q h
      exact ⟨a + 1, b + 1, by omega, by simp; omega, by simpa using h3.cons s⟩
    · have em : m = q.length := by omega
      have hneg : (imageOf c q).getD s.toNat 0 < 0 := by
        have hne := Q.ne hC (i := s.toNat) (by omega)
        by_cases hlt : (imageOf c q).getD s.toNat 0 < 0
        · exact hlt
        · exfalso
          have U : PlayL c (m + 1) (imageOf c (s :: q)) := by
            rw [imageW_cons]
            refine ⟨by rw [reflW_length]; exact Q.1, ?_⟩
            rw [pos_refl hC Q (by omega) (by omega)]
            exact Q.2.up (matOk hC) (by omega) (by show 0 < (imageOf c q).getD s.toNat 0; omega)
          have := play_unique hC P U (by omega) (by omega)
          omega
      obtain ⟨k, hk, e⟩ := exchange hC Q (by omega) (w := q) ⟨em.symm, hq, rfl⟩ hs hneg
      exact ⟨0, k + 1, by omega, by simp; omega, by simpa using e⟩

/-- Each word is as good as a reduced one. -/
theorem reduce_to {c : List (List Int)} (hC : Cartan c) : ∀ (l : Nat) (w : List Int) (n : Nat), w.length ≤ l → lettersOk c w = true → w.length ≤ 29 → n ≤ 30 → PlayL c n (imageOf c w) → ∃ r, Red c n (imageOf c w) r ∧ Lin c r w
  | l, w, n, hl, hw, h29, h30, P => by
    obtain ⟨m, hm, Q⟩ := play_image hC hw (by omega)
    have hn : n = m := play_unique hC P Q h30 (by omega)
    subst hn
    by_cases h : n < w.length
    · obtain ⟨a, b, h1, h2, h3⟩ := deletion hC w n hw h29 P h
      have hwl : ((w.eraseIdx b).eraseIdx a).length + 2 = w.length := by
        rw [List.length_eraseIdx_of_lt (by rw [List.length_eraseIdx_of_lt h2]; omega), List.length_eraseIdx_of_lt h2]
        omega
      have hlt := letters_erase (letters_erase hw b) a
      have him := lin_image hC h3 hlt hw (by omega) (by omega)
      obtain ⟨l', rfl⟩ : ∃ l', l = l' + 1 := ⟨l - 1, by omega⟩
      obtain ⟨r, Rr, hr⟩ := reduce_to hC l' ((w.eraseIdx b).eraseIdx a) n (by omega) hlt (by omega) h30 (by rw [him]; exact P)
      rw [him] at Rr
      exact ⟨r, Rr, hr.trans h3⟩
    · exact ⟨w, ⟨by omega, hw, rfl⟩, Lin.refl c w⟩

/-- The image of rho tells the map. -/
theorem faithful {c : List (List Int)} (hC : Cartan c) {a b : List Int} (ha : lettersOk c a = true) (hb : lettersOk c b = true) (hla : a.length ≤ 29) (hlb : b.length ≤ 29) (h : imageOf c a = imageOf c b) : Lin c a b := by
  obtain ⟨n, hn, P⟩ := play_image hC ha (by omega)
  obtain ⟨r, Rr, hr⟩ := reduce_to hC a.length a n (Nat.le_refl _) ha hla (by omega) P
  obtain ⟨s, Rs, hs⟩ := reduce_to hC b.length b n (Nat.le_refl _) hb hlb (by omega) (by rw [← h]; exact P)
  rw [← h] at Rs
  exact hr.symm.trans ((conn_all hC n _ P (by omega) r s Rr Rs).lin.trans hs)

theorem actS_rev {c : List (List Int)} (hC : Cartan c) : ∀ (w : List Int), lettersOk c w = true → ∀ v, actS (ent c) w (actS (ent c) w.reverse v) = v ∧ actS (ent c) w.reverse (actS (ent c) w v) = v
  | [], _, _ => ⟨rfl, rfl⟩
  | i :: w, h, v => by
    obtain ⟨h1, h2⟩ := letters_cons.1 h
    have p1 := point_of h1
    have d : ∀ v, sr (ent c) i.toNat (sr (ent c) i.toNat v) = v := sr_sr ((matOk hC).diag i.toNat (by omega))
    rw [List.reverse_cons, actS_app, actS_app]
    show sr (ent c) i.toNat (actS (ent c) w (actS (ent c) w.reverse (sr (ent c) i.toNat v))) = v ∧ actS (ent c) w.reverse (sr (ent c) i.toNat (sr (ent c) i.toNat (actS (ent c) w v))) = v
    rw [(actS_rev hC w h2 _).1, d, d, (actS_rev hC w h2 _).2]
    exact ⟨rfl, rfl⟩

theorem letters_rev {c : List (List Int)} {w : List Int} (h : lettersOk c w = true) : lettersOk c w.reverse = true :=
  List.all_eq_true.2 fun x hx => List.all_eq_true.1 h x (List.mem_reverse.1 hx)

theorem Lin.rev {c : List (List Int)} (hC : Cartan c) {a b : List Int} (ha : lettersOk c a = true) (hb : lettersOk c b = true) (h : Lin c a b) : Lin c a.reverse b.reverse := fun v => by
  have h1 := (actS_rev hC a ha v).1
  have h2 := (actS_rev hC b hb v).1
  have h3 := (actS_rev hC a ha (actS (ent c) b.reverse v)).2
  rw [h (actS (ent c) b.reverse v), h2] at h3
  exact h3

/-- A word from behind is as long as the word. -/
theorem play_rev {c : List (List Int)} (hC : Cartan c) {w : List Int} {n m : Nat} (hw : lettersOk c w = true) (hl : w.length ≤ 29) (P : PlayL c n (imageOf c w)) (Q : PlayL c m (imageOf c w.reverse)) (hm : m ≤ 30) (hn : n ≤ 30) : m = n := by
  have key : ∀ (w : List Int) (n m : Nat), lettersOk c w = true → w.length ≤ 29 → PlayL c n (imageOf c w) → PlayL c m (imageOf c w.reverse) → m ≤ 30 → n ≤ 30 → m ≤ n := by
    intro w n m hw hl P Q hm hn
    obtain ⟨r, Rr, hr⟩ := reduce_to hC w.length w n (Nat.le_refl _) hw hl hn P
    have him := lin_image hC (hr.rev hC Rr.2.1 hw) (letters_rev Rr.2.1) (letters_rev hw) (by rw [List.length_reverse, Rr.1]; omega) (by rw [List.length_reverse]; omega)
    obtain ⟨k, hk, K⟩ := play_image hC (letters_rev Rr.2.1) (by rw [List.length_reverse, Rr.1]; omega)
    rw [him] at K
    rw [List.length_reverse, Rr.1] at hk
    have := play_unique hC Q K hm (by omega)
    omega
  have h1 := key w n m hw hl P Q hm hn
  have h2 := key w.reverse m n (letters_rev hw) (by rw [List.length_reverse]; exact hl) Q (by rw [List.reverse_reverse]; exact P) hn hm
  omega

end Go.Proofs.YtgliajcgcbnemaaGreatDoor.Hx
