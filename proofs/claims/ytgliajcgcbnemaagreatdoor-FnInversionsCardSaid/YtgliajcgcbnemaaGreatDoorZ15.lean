/-
  The roots up to a height: whatever way leads to a root above zero, a way that only goes up leads to it too. Plain theory on lists.
  Inversions as places: which roots above zero a reduced word takes below zero, the same ones for all reduced words of an element. Plain theory.
  slices.SortFunc over a slice of slices of ints, for the calculus of rows: the library's contract (cells sorted by a comparing function) led over to heaps of rows.
-/
import Derived.Test.YtgliajcgcbnemaaGreatDoorZ14
import Derived.Shelf.SlSortCmp.NoneTotal
namespace Go.Proofs.YtgliajcgcbnemaaGreatDoor.Hx
open Go.RowKit

def Tame (n : Int) (r : List Int) : Prop := ∀ k, - n ≤ r.getD k 0 ∧ r.getD k 0 ≤ n

theorem dotP_bound {f g : Pos} {a b : Int} : ∀ (N : Nat), (∀ k, k < N → - a ≤ f k * g k ∧ f k * g k ≤ a) → b = N * a → - b ≤ dotP N f g ∧ dotP N f g ≤ b := by
  intro N
  induction N generalizing b with
  | zero => intro _ hb; simp at hb; subst hb; simp [dotP]
  | succ n ih =>
    intro h hb
    have h1 := ih (b := n * a) (fun k hk => h k (by omega)) rfl
    have h2 := h n (by omega)
    have e : b = n * a + a := by rw [hb]; push_cast; rw [Int.add_mul, Int.one_mul]
    simp only [dotP]
    omega

theorem mul_tame {x y : Int} (hx : -3 ≤ x ∧ x ≤ 2) (hy : -1000 ≤ y ∧ y ≤ 1000) : -3000 ≤ x * y ∧ x * y ≤ 3000 := by
  have f : x = -3 ∨ x = -2 ∨ x = -1 ∨ x = 0 ∨ x = 1 ∨ x = 2 := by omega
  rcases f with f | f | f | f | f | f <;> rw [f] <;> omega

theorem ent_tame {c : List (List Int)} (hC : Cartan c) (i k : Nat) : -3 ≤ ent c i k ∧ ent c i k ≤ 2 := by
  by_cases hi : i < c.length
  · by_cases hk : k < c.length
    · by_cases e : i = k
      · subst e
        have := (matOk hC).diag i hi
        omega
      · have := (matOk hC).off i k hi hk e
        omega
    · rw [ent_row hC (by omega)]
      omega
  · rw [ent_off (by omega)]
    omega

theorem dotTo_tame {c : List (List Int)} (hC : Cartan c) (i : Nat) {r : List Int} (h : Tame 1000 r) : ∀ k, k ≤ 4 → dotTo (c.getD i []) r k = dotP k (ent c i) (posOf r)
  | 0, _ => rfl
  | k + 1, hk => by
    have ih := dotTo_tame hC i h k (by omega)
    have b := dotP_bound (f := ent c i) (g := posOf r) (a := 3000) k (fun t _ => mul_tame (ent_tame hC i t) (h t)) rfl
    have m := mul_tame (ent_tame hC i k) (h k)
    rw [dotTo_succ, ih]
    have hk4 : (k : Int) * 3000 ≤ 12000 := by omega
    show w64 (dotP k (ent c i) (posOf r) + w64 (ent c i k * r.getD k 0)) = dotP k (ent c i) (posOf r) + ent c i k * r.getD k 0
    rw [w64_in (e := ent c i k * r.getD k 0) (by omega) (by omega), w64_in (by omega) (by omega)]

theorem mirror_pos {c : List (List Int)} (hC : Cartan c) {i : Nat} (hi : i < c.length) {r : List Int} (hl : r.length = c.length) (h : Tame 1000 r) : posOf (mirror c i r) = mr c.length (ent c) i (posOf r) := by
  have h4 := hC.le
  funext k
  have b := dotP_bound (f := ent c i) (g := posOf r) (a := 3000) c.length (fun t _ => mul_tame (ent_tame hC i t) (h t)) rfl
  have hb : (c.length : Int) * 3000 ≤ 12000 := by omega
  have hi2 := h i
  unfold mirror
  rw [hl, dotTo_tame hC i h _ h4]
  show (r.set i (w64 (r.getD i 0 - dotP c.length (ent c i) (posOf r)))).getD k 0 = posOf r k - dotP c.length (ent c i) (posOf r) * unitP i k
  rw [w64_in (by omega) (by omega)]
  by_cases e : k = i
  · subst e
    have : k < r.length := by omega
    simp [List.getD, this, unitP, posOf]
  · simp [List.getD, List.getElem?_set_ne (fun x => e x.symm), unitP, e, posOf]

theorem height_take {r : List Int} (h : Tame 1000 r) : ∀ k, k ≤ r.length → k ≤ 4 → heightOf (r.take k) = dotP k (fun _ => 1) (posOf r)
  | 0, _, _ => by simp [heightOf, dotP]
  | k + 1, hk, h4 => by
    have ih := height_take h k (by omega) (by omega)
    have b := dotP_bound (f := fun _ => 1) (g := posOf r) (a := 1000) k (fun t _ => by rw [Int.one_mul]; exact h t) rfl
    have hk4 : (k : Int) * 1000 ≤ 4000 := by omega
    have m := h k
    rw [heightOf_snoc r k (by omega), ih]
    show w64 (dotP k (fun _ => 1) (posOf r) + r.getD k 0) = dotP k (fun _ => 1) (posOf r) + 1 * r.getD k 0
    rw [w64_in (by omega) (by omega), Int.one_mul]

theorem height_pos {r : List Int} (h : Tame 1000 r) (h4 : r.length ≤ 4) : heightOf r = dotP r.length (fun _ => 1) (posOf r) := by
  have := height_take h r.length (Nat.le_refl _) h4
  rwa [List.take_length] at this

theorem rootSign_one {r : List Int} : rootSign r = 1 ↔ (∀ k, 0 ≤ r.getD k 0) ∧ ∃ k, 0 < r.getD k 0 := by
  have hu : anyUp r = true ↔ ∃ k, 0 < r.getD k 0 := by
    unfold anyUp
    rw [List.any_eq_true]
    constructor
    · rintro ⟨x, hx, h⟩
      obtain ⟨k, hk, rfl⟩ := List.getElem_of_mem hx
      exact ⟨k, by simpa [List.getD, hk] using h⟩
    · rintro ⟨k, h⟩
      by_cases hk : k < r.length
      · exact ⟨r[k], List.getElem_mem hk, by simpa [List.getD, hk] using h⟩
      · simp [List.getD, Nat.le_of_not_lt hk] at h
  have hd : anyDown r = true ↔ ∃ k, r.getD k 0 < 0 := by
    unfold anyDown
    rw [List.any_eq_true]
    constructor
    · rintro ⟨x, hx, h⟩
      obtain ⟨k, hk, rfl⟩ := List.getElem_of_mem hx
      exact ⟨k, by simpa [List.getD, hk] using h⟩
    · rintro ⟨k, h⟩
      by_cases hk : k < r.length
      · exact ⟨r[k], List.getElem_mem hk, by simpa [List.getD, hk] using h⟩
      · simp [List.getD, Nat.le_of_not_lt hk] at h
  have hn : (∀ k, 0 ≤ r.getD k 0) ↔ anyDown r = false := by
    rw [← Bool.not_eq_true, hd]
    constructor
    · rintro h ⟨k, hk⟩
      have := h k
      omega
    · intro h k
      by_cases hk : r.getD k 0 < 0
      · exact absurd ⟨k, hk⟩ h
      · omega
  rw [hn, ← hu]
  unfold rootSign
  cases anyUp r <;> cases anyDown r <;> simp

/-- The roots to which ways that only go up lead. -/
inductive RootUp (c : List (List Int)) (H : Int) : List Int → Prop where
  | simple (i : Nat) (hi : i < c.length) : RootUp c H (simpleRoot c (i : Nat))
  | step {r : List Int} (i : Nat) (hi : i < c.length) (h : RootUp c H r) (hs : rootSign (mirror c i r) = 1) (hh : heightOf (mirror c i r) ≤ H) (hl : heightOf r < heightOf (mirror c i r)) : RootUp c H (mirror c i r)

/-- What is known of such a root. -/
structure RootIs (c : List (List Int)) (r : List Int) (n : Nat) : Prop where
  len : r.length = c.length
  nonneg : ∀ k, 0 ≤ r.getD k 0
  le : ∀ k, r.getD k 0 ≤ n
  height : heightOf r = n
  word : ∃ (w : List Int) (i : Nat), lettersOk c w = true ∧ i < c.length ∧ w.length + 1 ≤ n ∧ posOf r = rootP c w i

theorem simple_pos {c : List (List Int)} (hC : Cartan c) {i : Nat} (hi : i < c.length) : simpleRoot c (i : Nat) = (List.replicate c.length (0 : Int)).set i 1 ∧ posOf (simpleRoot c (i : Nat)) = unitP i := by
  have e : simpleRoot c (i : Nat) = (List.replicate c.length (0 : Int)).set i 1 := by
    unfold simpleRoot
    rw [(isCartan_iff c).2 hC]
    have : isPoint c (i : Nat) = true := by simp [isPoint, inRange]; omega
    rw [this]
    rfl
  refine ⟨e, ?_⟩
  rw [e]
  funext k
  unfold posOf unitP
  by_cases h : k = i
  · subst h
    simp [List.getD, hi]
  · rw [if_neg h]
    simp only [List.getD, List.getElem?_set_ne (fun x => h x.symm), List.getElem?_replicate]
    split <;> rfl

theorem dot_ge {r : Pos} : ∀ (N : Nat), PosR N r → ∀ k, k < N → r k ≤ dotP N (fun _ => 1) r
  | 0, _, k, hk => by omega
  | n + 1, h, k, hk => by
    have h1 := dotP_ones_pos n (fun k hk => h k (by omega) : PosR n r)
    have h2 := h n (by omega)
    simp only [dotP, Int.one_mul]
    by_cases e : k = n
    · subst e; omega
    · have := dot_ge n (fun k hk => h k (by omega)) k (by omega)
      omega

theorem getD_off {r : List Int} {k : Nat} (h : r.length ≤ k) : r.getD k 0 = 0 := by simp [List.getD, h]

/-- A list of a root's numbers, all above zero. -/
theorem rootIs_of {c : List (List Int)} (hC : Cartan c) {r : List Int} {w : List Int} {i : Nat} (hl : r.length = c.length) (hw : lettersOk c w = true) (hi : i < c.length) (hp : posOf r = rootP c w i) (ht : Tame 1000 r) (h0 : ∀ k, 0 ≤ r.getD k 0) {n : Nat} (hn : heightOf r = n) (hwn : w.length + 1 ≤ n) : RootIs c r n := by
  have h4 := hC.le
  have hh := height_pos ht (by omega)
  rw [hl] at hh
  refine ⟨hl, h0, fun k => ?_, hn, w, i, hw, hi, hwn, hp⟩
  by_cases hk : k < c.length
  · have := dot_ge (r := posOf r) c.length (fun k _ => h0 k) k hk
    rw [← hh, hn] at this
    exact this
  · rw [getD_off (by omega)]
    omega

theorem RootIs.tame {c : List (List Int)} {r : List Int} {n : Nat} (h : RootIs c r n) (hn : n ≤ 12) : Tame 12 r := fun k => by
  have := h.nonneg k
  have := h.le k
  omega
theorem Tame.more {a b : Int} {r : List Int} (h : Tame a r) (hab : a ≤ b) : Tame b r := fun k => by
  have := h k
  omega

/-- Its mirrors are still small. -/
theorem RootIs.mirror {c : List (List Int)} (hC : Cartan c) {r : List Int} {n : Nat} (h : RootIs c r n) (hn : n ≤ 12) {i : Nat} (hi : i < c.length) : Tame 200 (mirror c i r) ∧ posOf (mirror c i r) = mr c.length (ent c) i (posOf r) := by
  have h4 := hC.le
  have ht := h.tame hn
  have e := mirror_pos hC hi h.len (ht.more (by omega))
  refine ⟨fun k => ?_, e⟩
  have b := dotP_bound (f := ent c i) (g := posOf r) (a := 36) c.length (fun t _ => by
    have g := ent_tame hC i t
    have q := ht t
    show -36 ≤ ent c i t * r.getD t 0 ∧ ent c i t * r.getD t 0 ≤ 36
    have f : ent c i t = -3 ∨ ent c i t = -2 ∨ ent c i t = -1 ∨ ent c i t = 0 ∨ ent c i t = 1 ∨ ent c i t = 2 := by omega
    rcases f with f | f | f | f | f | f <;> rw [f] <;> omega) rfl
  have hb : (c.length : Int) * 36 ≤ 144 := by omega
  have q := ht k
  have := congrFun e k
  show -200 ≤ posOf (Hx.mirror c i r) k ∧ posOf (Hx.mirror c i r) k ≤ 200
  rw [this]
  show -200 ≤ posOf r k - dotP c.length (ent c i) (posOf r) * unitP i k ∧ posOf r k - dotP c.length (ent c i) (posOf r) * unitP i k ≤ 200
  have hq : -12 ≤ posOf r k ∧ posOf r k ≤ 12 := q
  unfold unitP
  split <;> omega

theorem RootUp.facts {c : List (List Int)} (hC : Cartan c) {H : Int} (hH : H ≤ 12) (h1 : 1 ≤ H) {r : List Int} (h : RootUp c H r) : ∃ n : Nat, RootIs c r n ∧ 1 ≤ n ∧ (n : Int) ≤ H := by
  have h4 := hC.le
  induction h with
  | simple i hi =>
    obtain ⟨e1, e2⟩ := simple_pos hC hi
    have hl : (simpleRoot c (i : Nat)).length = c.length := by rw [e1]; simp
    have hg : ∀ k, (simpleRoot c (i : Nat)).getD k 0 = if k = i then 1 else 0 := fun k => congrFun e2 k
    have ht : Tame 1000 (simpleRoot c (i : Nat)) := fun k => by rw [hg]; split <;> omega
    have hh : heightOf (simpleRoot c (i : Nat)) = (1 : Nat) := by
      rw [height_pos ht (by omega), hl, e2, dotP_unit, if_pos hi]
      rfl
    exact ⟨1, rootIs_of hC hl (w := []) (i := i) rfl hi e2 ht (fun k => by rw [hg]; split <;> omega) hh (Nat.le_refl _), Nat.le_refl _, h1⟩
  | @step r i hi _ hs hh hl ih =>
    obtain ⟨n, R, g1, g2⟩ := ih
    obtain ⟨t1, t2⟩ := R.mirror hC (by omega) hi
    obtain ⟨w, j, hw, hj, hwn, hp⟩ := R.word
    have hge := (rootSign_one.1 hs).1
    rw [R.height] at hl
    obtain ⟨m, hm⟩ : ∃ m : Nat, heightOf (Hx.mirror c i r) = m := ⟨(heightOf (Hx.mirror c i r)).toNat, by omega⟩
    refine ⟨m, rootIs_of hC (by rw [mirror_length]; exact R.len) (w := (i : Int) :: w) (i := j) (letters_cons.2 ⟨by simp [isPoint, inRange]; omega, hw⟩) hj (by rw [t2, hp]; rfl) (t1.more (by omega)) hge hm (by simp; omega), by omega, by omega⟩

/-- Each root above zero of a small height is reached by going up. -/
theorem root_reached {c : List (List Int)} (hC : Cartan c) {H : Int} : ∀ (n : Nat) (r w : List Int) (i : Nat), r.length = c.length → lettersOk c w = true → i < c.length → posOf r = rootP c w i → Tame 1000 r → (∀ k, 0 ≤ r.getD k 0) → heightOf r = n → (n : Int) ≤ H → n ≤ 12 → w.length + n ≤ 28 → RootUp c H r
  | 0, r, w, i, hl, hw, hi, hp, ht, h0, hn, _, _, _ => by
    exfalso
    have h4 := hC.le
    have hh := height_pos ht (by omega)
    rw [hl, hp, hn] at hh
    exact (root_height hC hw hi).1 hh.symm
  | n + 1, r, w, i, hl, hw, hi, hp, ht, h0, hn, hH, h12, hs => by
    have h4 := hC.le
    have hP : PosR c.length (rootP c w i) := fun k _ => by rw [← hp]; exact h0 k
    by_cases hsim : ∃ j, j < c.length ∧ rootP c w i = unitP j
    · obtain ⟨j, hj, e⟩ := hsim
      obtain ⟨e1, e2⟩ := simple_pos hC hj
      have : r = simpleRoot c (j : Nat) := posOf_inj (by rw [hl, e1]; simp) (by rw [hp, e, e2])
      rw [this]
      exact .simple j hj
    · obtain ⟨j, hj, hpos⟩ := root_down hC hw (by omega) hi hP
      have hne : rootP c w i ≠ unitP j := fun e => hsim ⟨j, hj, e⟩
      have hP2 := root_step hC hw hi hj hP hne
      have hRI := rootIs_of hC hl hw hi hp ht h0 hn
      have hle : ∀ k, r.getD k 0 ≤ (n + 1 : Nat) := fun k => by
        have hh := height_pos ht (by omega)
        rw [hl] at hh
        by_cases hk : k < c.length
        · have := dot_ge (r := posOf r) c.length (fun k _ => h0 k) k hk
          rw [← hh, hn] at this
          exact this
        · rw [getD_off (by omega)]
          omega
      have e := mirror_pos hC hj hl ht
      have hw2 : lettersOk c ((j : Int) :: w) = true := letters_cons.2 ⟨by simp [isPoint, inRange]; omega, hw⟩
      have hp2 : posOf (mirror c j r) = rootP c ((j : Int) :: w) i := by rw [e, hp]; rfl
      have h02 : ∀ k, 0 ≤ (mirror c j r).getD k 0 := fun k => by
        by_cases hk : k < c.length
        · have := hP2 k hk
          rw [← hp2] at this
          exact this
        · rw [getD_off (by rw [mirror_length]; omega)]
          omega
      have hpos' : 0 < dotP c.length (ent c j) (posOf r) := by rw [hp]; exact hpos
      have hle2 : ∀ k, (mirror c j r).getD k 0 ≤ r.getD k 0 := fun k => by
        have := congrFun e k
        show posOf (mirror c j r) k ≤ posOf r k
        rw [this]
        show posOf r k - dotP c.length (ent c j) (posOf r) * unitP j k ≤ posOf r k
        unfold unitP
        split <;> omega
      have ht2 : Tame 1000 (mirror c j r) := fun k => by
        have a1 := h02 k
        have a2 := hle2 k
        have a3 := hle k
        omega
      have hl2 : (mirror c j r).length = c.length := by rw [mirror_length]; exact hl
      have hh1 := height_pos ht (by omega)
      have hh2 := height_pos ht2 (by omega)
      rw [hl] at hh1
      rw [hl2, e] at hh2
      have hdec : dotP c.length (fun _ => 1) (mr c.length (ent c) j (posOf r)) = dotP c.length (fun _ => 1) (posOf r) - dotP c.length (ent c j) (posOf r) := by
        unfold mr
        rw [dotP_subr, dotP_unit, if_pos hj, Int.mul_one]
      have h0h : 0 ≤ heightOf (mirror c j r) := by
        rw [hh2, ← e]
        exact dotP_ones_pos _ (fun k _ => h02 k)
      obtain ⟨m, hm⟩ : ∃ m : Nat, heightOf (mirror c j r) = m := ⟨(heightOf (mirror c j r)).toNat, by omega⟩
      have hmn : m ≤ n := by omega
      have IH := root_reached hC (H := H) m (mirror c j r) ((j : Int) :: w) i hl2 hw2 hi hp2 ht2 h02 hm (by omega) (by omega) (by simp; omega)
      have back : mirror c j (mirror c j r) = r := posOf_inj (by rw [mirror_length, mirror_length]) (by
        rw [mirror_pos hC hj hl2 ht2, e, mr_mr (matOk hC) hj])
      have hsg : rootSign (mirror c j (mirror c j r)) = 1 := by
        rw [back]
        refine rootSign_one.2 ⟨h0, ?_⟩
        refine Classical.byContradiction fun hn0 => ?_
        have hz : ∀ k, k < c.length → posOf r k ≤ 0 := fun k _ => by
          by_cases g : 0 < r.getD k 0
          · exact absurd ⟨k, g⟩ hn0
          · show r.getD k 0 ≤ 0
            omega
        have := dotP_ones_neg c.length hz
        omega
      have := RootUp.step (H := H) j hj IH hsg (by rw [back, hn]; omega) (by rw [back, hn, hm]; omega)
      rw [back] at this
      exact this
  termination_by n => n

/-- Whatever mirror keeps above zero and low is reached. -/
theorem RootUp.close {c : List (List Int)} (hC : Cartan c) {H : Int} (hH : H ≤ 12) (h1 : 1 ≤ H) {r : List Int} (h : RootUp c H r) {i : Nat} (hi : i < c.length) (hs : rootSign (mirror c i r) = 1) (hh : heightOf (mirror c i r) ≤ H) : RootUp c H (mirror c i r) := by
  obtain ⟨n, R, g1, g2⟩ := h.facts hC hH h1
  obtain ⟨t1, t2⟩ := R.mirror hC (by omega) hi
  obtain ⟨w, j, hw, hj, hwn, hp⟩ := R.word
  have hge := (rootSign_one.1 hs).1
  have h4 := hC.le
  have hl : (Hx.mirror c i r).length = c.length := by rw [mirror_length]; exact R.len
  have h0h : 0 ≤ heightOf (Hx.mirror c i r) := by
    rw [height_pos (t1.more (by omega)) (by omega)]
    exact dotP_ones_pos _ (fun k _ => hge k)
  obtain ⟨m, hm⟩ : ∃ m : Nat, heightOf (Hx.mirror c i r) = m := ⟨(heightOf (Hx.mirror c i r)).toNat, by omega⟩
  exact root_reached hC m _ ((i : Int) :: w) j hl (letters_cons.2 ⟨by simp [isPoint, inRange]; omega, hw⟩) hj (by rw [t2, hp]; rfl) (t1.more (by omega)) hge hm (by omega) (by omega) (by simp; omega)

/-! ### The list of them -/

def RootList (c : List (List Int)) (H : Int) (L : List (List Int)) : Prop := SortedR L ∧ L.Nodup ∧ ∀ r, r ∈ L ↔ RootUp c H r

theorem RootList.one {c : List (List Int)} {H : Int} {A B : List (List Int)} (a : RootList c H A) (b : RootList c H B) : A = B :=
  sortedR_one a.1 b.1 ((List.perm_ext_iff_of_nodup a.2.1 b.2.1).2 fun r => (a.2.2 r).trans (b.2.2 r).symm)

open Classical in
noncomputable def rootsUp (c : List (List Int)) (H : Int) : List (List Int) :=
  if isCartan c = true ∧ 1 ≤ H ∧ H ≤ 12 then (if h : ∃ L, RootList c H L then Classical.choose h else []) else []

theorem rootsUp_off {c : List (List Int)} {H : Int} (h : ¬ (isCartan c = true ∧ 1 ≤ H ∧ H ≤ 12)) : rootsUp c H = [] := by
  unfold rootsUp
  rw [if_neg h]

theorem rootsUp_on {c : List (List Int)} {H : Int} (hc : isCartan c = true ∧ 1 ≤ H ∧ H ≤ 12) {L : List (List Int)} (h : RootList c H L) : rootsUp c H = L := by
  have hx : ∃ L, RootList c H L := ⟨L, h⟩
  unfold rootsUp
  rw [if_pos hc, dif_pos hx]
  exact (Classical.choose_spec hx).one h

/-! ### There are not too many -/

def boxes : Nat → List (List Int)
  | 0 => [[]]
  | n + 1 => (List.range 13).flatMap fun (x : Nat) => (boxes n).map fun l => (x : Int) :: l

theorem boxes_length : ∀ n, (boxes n).length = 13 ^ n
  | 0 => rfl
  | n + 1 => by
    have h : ∀ m, ((List.range m).flatMap fun (x : Nat) => (boxes n).map fun l => (x : Int) :: l).length = m * 13 ^ n := by
      intro m
      induction m with
      | zero => simp
      | succ m ih => rw [List.range_succ, List.flatMap_append, List.length_append, ih]; simp [boxes_length n, Nat.add_mul]
    show ((List.range 13).flatMap fun (x : Nat) => (boxes n).map fun l => (x : Int) :: l).length = 13 ^ (n + 1)
    rw [h, Nat.pow_succ, Nat.mul_comm]

theorem mem_boxes : ∀ (r : List Int), (∀ x ∈ r, 0 ≤ x ∧ x ≤ 12) → r ∈ boxes r.length
  | [], _ => by simp [boxes]
  | x :: r, h => by
    have hx := h x (by simp)
    have := mem_boxes r (fun y hy => h y (by simp [hy]))
    simp only [List.length_cons, boxes, List.mem_flatMap, List.mem_range, List.mem_map]
    exact ⟨x.toNat, by omega, r, this, by rw [Int.toNat_of_nonneg hx.1]⟩

theorem roots_few {c : List (List Int)} (hC : Cartan c) {H : Int} (hH : H ≤ 12) (h1 : 1 ≤ H) {L : List (List Int)} (hn : L.Nodup) (hL : ∀ r ∈ L, RootUp c H r) : L.length ≤ 28561 := by
  have h4 := hC.le
  have h : L.length ≤ (boxes c.length).length := nodup_le hn fun r hr => by
    obtain ⟨n, R, g1, g2⟩ := (hL r hr).facts hC hH h1
    have := mem_boxes r (fun x hx => by
      obtain ⟨k, hk, rfl⟩ := List.getElem_of_mem hx
      have a := R.nonneg k
      have b := R.le k
      simp only [List.getD, hk, List.getElem?_eq_getElem, Option.getD_some] at a b
      omega)
    rw [R.len] at this
    exact this
  rw [boxes_length] at h
  have : 13 ^ c.length ≤ 13 ^ 4 := Nat.pow_le_pow_right (by omega) h4
  have e : 13 ^ 4 = 28561 := by decide
  omega

theorem RootList.size {c : List (List Int)} (hC : Cartan c) {H : Int} (hH : H ≤ 12) (h1 : 1 ≤ H) {L : List (List Int)} (h : RootList c H L) : L.length ≤ 28561 ∧ tot L ≤ 28561 * 4 := by
  have hl := roots_few hC hH h1 h.2.1 (fun r hr => (h.2.2 r).1 hr)
  refine ⟨hl, ?_⟩
  have h4 := hC.le
  have : tot L ≤ 4 * L.length := tot_le 4 L (fun r hr => by
    obtain ⟨n, R, _⟩ := ((h.2.2 r).1 hr).facts hC hH h1
    have := R.len
    omega)
  omega

end Go.Proofs.YtgliajcgcbnemaaGreatDoor.Hx

namespace Go.Proofs.YtgliajcgcbnemaaGreatDoor.Hx
open Go.RowKit

def NegR (N : Nat) (r : Pos) : Prop := ∀ k, k < N → r k ≤ 0
def IsRootP (c : List (List Int)) (p : Pos) : Prop := ∃ (u : List Int) (i : Nat), lettersOk c u = true ∧ i < c.length ∧ p = rootP c u i
/-- The roots of a word's letters. -/
def InvS (c : List (List Int)) : List Int → Pos → Prop
  | [], _ => False
  | i :: w, p => p = unitP i.toNat ∨ InvS c w (mr c.length (ent c) i.toNat p)

theorem root_nz {c : List (List Int)} (hC : Cartan c) {p : Pos} (h : IsRootP c p) (h1 : PosR c.length p) (h2 : NegR c.length p) : False := by
  obtain ⟨u, i, hu, hi, rfl⟩ := h
  have := (root_height hC hu hi).2.1 h1
  have h3 := dotP_ones_neg c.length h2
  unfold rootP at h3
  omega
theorem root_or {c : List (List Int)} (hC : Cartan c) {p : Pos} (h : IsRootP c p) : PosR c.length p ∨ NegR c.length p := by
  obtain ⟨u, i, hu, hi, rfl⟩ := h
  exact rootP_sign hC hu hi
theorem point_nat {c : List (List Int)} {i : Nat} (hi : i < c.length) : isPoint c (i : Int) = true := by
  simp [isPoint, inRange]
  omega
theorem isRoot_mr {c : List (List Int)} {p : Pos} (h : IsRootP c p) {j : Nat} (hj : j < c.length) : IsRootP c (mr c.length (ent c) j p) := by
  obtain ⟨u, i, hu, hi, rfl⟩ := h
  exact ⟨(j : Int) :: u, i, letters_cons.2 ⟨point_nat hj, hu⟩, hi, rfl⟩
theorem isRoot_unit {c : List (List Int)} {i : Nat} (hi : i < c.length) : IsRootP c (unitP i) := ⟨[], i, rfl, hi, rfl⟩
theorem isRoot_act {c : List (List Int)} {p : Pos} (h : IsRootP c p) {w : List Int} (hw : lettersOk c w = true) : IsRootP c (actP c.length (ent c) w p) := by
  obtain ⟨u, i, hu, hi, rfl⟩ := h
  refine ⟨w ++ u, i, letters_app.2 ⟨hw, hu⟩, hi, ?_⟩
  unfold rootP
  rw [actP_app]
theorem step_pos {c : List (List Int)} (hC : Cartan c) {p : Pos} (h : IsRootP c p) (hp : PosR c.length p) {j : Nat} (hj : j < c.length) (hne : p ≠ unitP j) : PosR c.length (mr c.length (ent c) j p) := by
  obtain ⟨u, i, hu, hi, rfl⟩ := h
  exact root_step hC hu hi hj hp hne
theorem unit_pos (N i : Nat) : PosR N (unitP i) := fun k _ => by
  unfold unitP
  split <;> omega
theorem mr_unit {c : List (List Int)} (hC : Cartan c) {i : Nat} (hi : i < c.length) : mr c.length (ent c) i (unitP i) = fun k => -1 * unitP i k := by
  funext k
  unfold mr
  rw [dotP_unit, if_pos hi, (matOk hC).diag i hi]
  omega
theorem unit_neg_not {N i : Nat} (hi : i < N) (h : PosR N (fun k => -1 * unitP i k)) : False := by
  have := h i hi
  simp [unitP] at this

theorem head_red {c : List (List Int)} (hC : Cartan c) {i : Int} {x : List Int} (h : lettersOk c (i :: x) = true) (hl : x.length ≤ 27) (P : PlayL c (x.length + 1) (imageOf c (i :: x))) :
    PlayL c x.length (imageOf c x) ∧ PosR c.length (rootP c x.reverse i.toNat) := by
  obtain ⟨hi, hx⟩ := letters_cons.1 h
  have p1 := point_of hi
  obtain ⟨_, hneg, P', R'⟩ := Red.tail hC P (by omega) ⟨rfl, h, rfl⟩
  have e := R'.2.2
  refine ⟨by rw [e]; exact P', ?_⟩
  rw [rootP_pos hC (letters_rev hx) (by simp; omega) (by omega), List.reverse_reverse]
  refine (sign_both hC hx (by omega) hi).1 ?_
  have hs := congrFun (pos_refl hC P (by omega) (i := i.toNat) (by omega)) i.toNat
  rw [sr_at ((matOk hC).diag _ (by omega))] at hs
  rw [e]
  unfold posOf at hs
  omega

/-- A root above zero is one of a reduced word's roots just if the word, read backwards, takes it below zero. -/
theorem inv_iff {c : List (List Int)} (hC : Cartan c) : ∀ (x : List Int), lettersOk c x = true → x.length ≤ 28 → PlayL c x.length (imageOf c x) → ∀ p, IsRootP c p → PosR c.length p → (InvS c x p ↔ NegR c.length (actP c.length (ent c) x.reverse p))
  | [], _, _, _, p, hr, hp => ⟨False.elim, fun h => (root_nz hC hr hp h).elim⟩
  | i :: x, h, hl, P, p, hr, hp => by
    obtain ⟨hi, hx⟩ := letters_cons.1 h
    have p1 := point_of hi
    have hl' : x.length ≤ 27 := by simp at hl; omega
    obtain ⟨Px, hd⟩ := head_red hC h hl' P
    rw [List.reverse_cons, actP_app]
    show (p = unitP i.toNat ∨ InvS c x (mr c.length (ent c) i.toNat p)) ↔ NegR c.length (actP c.length (ent c) x.reverse (mr c.length (ent c) i.toNat p))
    by_cases e : p = unitP i.toNat
    · refine ⟨fun _ k hk => ?_, fun _ => Or.inl e⟩
      rw [e, mr_unit hC (by omega), actP_mul]
      have := hd k hk
      unfold rootP at this
      show -1 * actP c.length (ent c) x.reverse (unitP i.toNat) k ≤ 0
      omega
    · rw [← inv_iff hC x hx (by omega) Px _ (isRoot_mr hr (by omega)) (step_pos hC hr hp (by omega) e)]
      exact ⟨fun h => h.resolve_left e, Or.inr⟩

theorem inv_pos {c : List (List Int)} (hC : Cartan c) : ∀ (x : List Int), lettersOk c x = true → x.length ≤ 28 → PlayL c x.length (imageOf c x) → ∀ p, InvS c x p → IsRootP c p ∧ PosR c.length p
  | [], _, _, _, p, hr => hr.elim
  | i :: x, h, hl, P, p, hr => by
    obtain ⟨hi, hx⟩ := letters_cons.1 h
    have p1 := point_of hi
    have hl' : x.length ≤ 27 := by simp at hl; omega
    obtain ⟨Px, hd⟩ := head_red hC h hl' P
    rcases hr with e | hr
    · rw [e]
      exact ⟨isRoot_unit (by omega), unit_pos _ _⟩
    · obtain ⟨q1, q2⟩ := inv_pos hC x hx (by omega) Px _ hr
      have hne : mr c.length (ent c) i.toNat p ≠ unitP i.toNat := fun e => by
        rw [e] at hr
        have h1 := (inv_iff hC x hx (by omega) Px _ (isRoot_unit (i := i.toNat) (by omega)) (unit_pos _ _)).1 hr
        exact root_nz hC (isRoot_act (isRoot_unit (i := i.toNat) (by omega)) (letters_rev hx)) hd h1
      have e := mr_mr (matOk hC) (i := i.toNat) (by omega) p
      rw [← e]
      exact ⟨isRoot_mr q1 (by omega), step_pos hC q1 q2 (by omega) hne⟩

theorem actP_off {c : List (List Int)} : ∀ (w : List Int), lettersOk c w = true → ∀ (r : Pos) (k : Nat), c.length ≤ k → actP c.length (ent c) w r k = r k
  | [], _, _, _, _ => rfl
  | j :: w, h, r, k, hk => by
    obtain ⟨h1, h2⟩ := letters_cons.1 h
    have p1 := point_of h1
    show mr c.length (ent c) j.toNat (actP c.length (ent c) w r) k = r k
    rw [mr_off _ (by omega) hk]
    exact actP_off w h2 r k hk

/-- Two reduced words of an element take roots to the same places. -/
theorem actP_same {c : List (List Int)} (hC : Cartan c) {n : Nat} {a b : List Int} (P : PlayL c n (imageOf c a)) (hn : n ≤ 29) (ha : Red c n (imageOf c a) a) (hb : Red c n (imageOf c a) b) (r : Pos) : actP c.length (ent c) a.reverse r = actP c.length (ent c) b.reverse r := by
  have L := ((conn_all hC n _ P hn a b ha hb).transp' hC).lin
  have key : ∀ v : Pos, dotP c.length v (actP c.length (ent c) a.reverse r) = dotP c.length v (actP c.length (ent c) b.reverse r) := fun v => by
    rw [dotP_act a.reverse v r (letters_rev ha.2.1), dotP_act b.reverse v r (letters_rev hb.2.1), List.reverse_reverse, List.reverse_reverse, ← ent_transp hC, L v]
  funext k
  by_cases hk : k < c.length
  · have h1 := key (unitP k)
    rw [dotP_comm, dotP_unit, if_pos hk, dotP_comm, dotP_unit, if_pos hk] at h1
    exact h1
  · rw [actP_off _ (letters_rev ha.2.1) _ _ (by omega), actP_off _ (letters_rev hb.2.1) _ _ (by omega)]

theorem inv_same {c : List (List Int)} (hC : Cartan c) {n : Nat} {a b : List Int} (P : PlayL c n (imageOf c a)) (hn : n ≤ 28) (ha : Red c n (imageOf c a) a) (hb : Red c n (imageOf c a) b) (p : Pos) : InvS c a p ↔ InvS c b p := by
  have Pa : PlayL c a.length (imageOf c a) := by rw [ha.1]; exact P
  have Pb : PlayL c b.length (imageOf c b) := by rw [hb.1, hb.2.2]; exact P
  have la : a.length ≤ 28 := by rw [ha.1]; exact hn
  have lb : b.length ≤ 28 := by rw [hb.1]; exact hn
  have e := actP_same hC P (by omega) ha hb p
  constructor
  · intro h
    obtain ⟨h1, h2⟩ := inv_pos hC a ha.2.1 la Pa p h
    rw [inv_iff hC b hb.2.1 lb Pb p h1 h2, ← e]
    exact (inv_iff hC a ha.2.1 la Pa p h1 h2).1 h
  · intro h
    obtain ⟨h1, h2⟩ := inv_pos hC b hb.2.1 lb Pb p h
    rw [inv_iff hC a ha.2.1 la Pa p h1 h2, e]
    exact (inv_iff hC b hb.2.1 lb Pb p h1 h2).1 h

theorem invS_iff {c : List (List Int)} (hC : Cartan c) : ∀ (w : List Int), lettersOk c w = true → ∀ p, InvS c w p ↔ ∃ k, k < w.length ∧ p = rootP c (w.take k) (w.getD k 0).toNat
  | [], _, p => by simp [InvS]
  | i :: w, h, p => by
    obtain ⟨hi, hw⟩ := letters_cons.1 h
    have p1 := point_of hi
    have ih := invS_iff hC w hw (mr c.length (ent c) i.toNat p)
    show (p = unitP i.toNat ∨ InvS c w (mr c.length (ent c) i.toNat p)) ↔ _
    rw [ih]
    constructor
    · rintro (e | ⟨k, hk, e⟩)
      · exact ⟨0, by simp, e⟩
      · refine ⟨k + 1, by simp; omega, ?_⟩
        rw [← mr_mr (matOk hC) (i := i.toNat) (by omega) p, e]
        rfl
    · rintro ⟨k, hk, e⟩
      cases k with
      | zero => exact Or.inl e
      | succ k =>
        refine Or.inr ⟨k, by simp at hk; omega, ?_⟩
        rw [e]
        exact mr_mr (matOk hC) (i := i.toNat) (by omega) _

theorem root_inj {c : List (List Int)} (hC : Cartan c) : ∀ (x : List Int), lettersOk c x = true → x.length ≤ 28 → PlayL c x.length (imageOf c x) → ∀ k l, k < x.length → l < x.length → rootP c (x.take k) (x.getD k 0).toNat = rootP c (x.take l) (x.getD l 0).toNat → k = l
  | [], _, _, _, k, _, hk, _, _ => by simp at hk
  | i :: x, h, hl, P, k, l, hk, hlt, e => by
    obtain ⟨hi, hx⟩ := letters_cons.1 h
    have p1 := point_of hi
    have hl' : x.length ≤ 27 := by simp at hl; omega
    obtain ⟨Px, hd⟩ := head_red hC h hl' P
    have no : ∀ m, m < x.length → unitP i.toNat = rootP c ((i :: x).take (m + 1)) ((i :: x).getD (m + 1) 0).toNat → False := fun m hm e => by
      have e2 : mr c.length (ent c) i.toNat (unitP i.toNat) = rootP c (x.take m) (x.getD m 0).toNat := by
        rw [e]
        exact mr_mr (matOk hC) (i := i.toNat) (by omega) _
      have := (inv_pos hC x hx (by omega) Px _ ((invS_iff hC x hx _).2 ⟨m, hm, rfl⟩)).2
      rw [← e2, mr_unit hC (by omega)] at this
      exact unit_neg_not (by omega) this
    cases k with
    | zero =>
      cases l with
      | zero => rfl
      | succ l => exact (no l (by simpa using hlt) e).elim
    | succ k =>
      cases l with
      | zero => exact (no k (by simpa using hk) e.symm).elim
      | succ l =>
        have e2 : mr c.length (ent c) i.toNat (rootP c (x.take k) (x.getD k 0).toNat) = mr c.length (ent c) i.toNat (rootP c (x.take l) (x.getD l 0).toNat) := e
        have e3 := congrArg (mr c.length (ent c) i.toNat) e2
        rw [mr_mr (matOk hC) (by omega), mr_mr (matOk hC) (by omega)] at e3
        rw [root_inj hC x hx (by omega) Px k l (by simpa using hk) (by simpa using hlt) e3]

theorem mr_sub (N : Nat) (c : Nat → Nat → Int) (i : Nat) (g u : Pos) (a : Int) : mr N c i (fun k => g k - a * u k) = fun k => mr N c i g k - a * mr N c i u k := by
  funext k
  simp only [mr, dotP_subr]
  grind
theorem actP_sub (N : Nat) (c : Nat → Nat → Int) (a : Int) : ∀ (w : List Int) (g u : Pos), actP N c w (fun k => g k - a * u k) = fun k => actP N c w g k - a * actP N c w u k
  | [], _, _ => rfl
  | i :: w, g, u => by simp only [actP, actP_sub N c a w g u, mr_sub]
theorem actP_add (N : Nat) (c : Nat → Nat → Int) (w : List Int) {s g u : Pos} (h : ∀ k, s k = g k + u k) : actP N c w s = fun k => actP N c w g k + actP N c w u k := by
  have e : s = fun k => g k - (-1) * u k := by
    funext k
    rw [h k]
    omega
  rw [e, actP_sub]
  funext k
  omega

/-! ### Sizes -/

theorem mul_big {x y m : Int} (hx : -3 ≤ x ∧ x ≤ 2) (hy : -m ≤ y ∧ y ≤ m) : -(3 * m) ≤ x * y ∧ x * y ≤ 3 * m := by
  have f : x = -3 ∨ x = -2 ∨ x = -1 ∨ x = 0 ∨ x = 1 ∨ x = 2 := by omega
  rcases f with f | f | f | f | f | f <;> rw [f] <;> omega
theorem four_le {m : Int} (h0 : 0 ≤ m) {k : Nat} (hk : k ≤ 4) : (k : Int) * (3 * m) ≤ 12 * m := by
  have f : k = 0 ∨ k = 1 ∨ k = 2 ∨ k = 3 ∨ k = 4 := by omega
  rcases f with rfl | rfl | rfl | rfl | rfl <;> omega
theorem dotTo_big {c : List (List Int)} (hC : Cartan c) (i : Nat) {m : Int} (h0 : 0 ≤ m) (hm : m ≤ 700000000000000000) {r : List Int} (h : Tame m r) : ∀ k, k ≤ 4 → dotTo (c.getD i []) r k = dotP k (ent c i) (posOf r)
  | 0, _ => rfl
  | k + 1, hk => by
    have ih := dotTo_big hC i h0 hm h k (by omega)
    have b := dotP_bound (f := ent c i) (g := posOf r) (a := 3 * m) k (fun t _ => mul_big (ent_tame hC i t) (h t)) rfl
    have q := mul_big (ent_tame hC i k) (h k)
    have f := four_le h0 (k := k + 1) hk
    have e : ((k + 1 : Nat) : Int) * (3 * m) = (k : Int) * (3 * m) + 3 * m := by push_cast; rw [Int.add_mul, Int.one_mul]
    rw [dotTo_succ, ih]
    show w64 (dotP k (ent c i) (posOf r) + w64 (ent c i k * r.getD k 0)) = dotP k (ent c i) (posOf r) + ent c i k * r.getD k 0
    rw [w64_in (e := ent c i k * r.getD k 0) (by omega) (by omega), w64_in (by omega) (by omega)]

theorem mirror_big {c : List (List Int)} (hC : Cartan c) {i : Nat} (hi : i < c.length) {m : Int} (h0 : 0 ≤ m) (hm : m ≤ 700000000000000000) {r : List Int} (hl : r.length = c.length) (h : Tame m r) : posOf (mirror c i r) = mr c.length (ent c) i (posOf r) ∧ Tame (13 * m) (mirror c i r) := by
  have h4 := hC.le
  have b := dotP_bound (f := ent c i) (g := posOf r) (a := 3 * m) c.length (fun t _ => mul_big (ent_tame hC i t) (h t)) rfl
  have hb := four_le h0 h4
  have hi2 := h i
  have ew : w64 (r.getD i 0 - dotP c.length (ent c i) (posOf r)) = r.getD i 0 - dotP c.length (ent c i) (posOf r) := w64_in (by omega) (by omega)
  have key : ∀ k, (mirror c i r).getD k 0 = posOf r k - dotP c.length (ent c i) (posOf r) * unitP i k := fun k => by
    unfold mirror
    rw [hl, dotTo_big hC i h0 hm h _ h4, ew]
    by_cases e : k = i
    · subst e
      have : k < r.length := by omega
      simp [List.getD, this, unitP, posOf]
    · simp [List.getD, List.getElem?_set_ne (fun x => e x.symm), unitP, e, posOf]
  refine ⟨funext key, fun k => ?_⟩
  rw [key k]
  have hk : -m ≤ posOf r k ∧ posOf r k ≤ m := h k
  unfold unitP
  split <;> omega

theorem act_big {c : List (List Int)} (hC : Cartan c) {r : List Int} (hl : r.length = c.length) (ht : Tame 1 r) : ∀ (w : List Int), lettersOk c w = true → w.length ≤ 16 → posOf (actR c w r) = actP c.length (ent c) w (posOf r) ∧ Tame ((13 ^ w.length : Nat) : Int) (actR c w r)
  | [], _, _ => ⟨rfl, by show Tame ((13 ^ 0 : Nat) : Int) r; simpa using ht⟩
  | i :: w, h, hw => by
    obtain ⟨hi, h2⟩ := letters_cons.1 h
    have p1 := point_of hi
    have hw' : w.length ≤ 15 := by simp at hw; omega
    obtain ⟨e1, e2⟩ := act_big hC hl ht w h2 (by omega)
    have hp : 13 ^ w.length ≤ 13 ^ 15 := Nat.pow_le_pow_right (by omega) hw'
    have hp2 : (13 : Nat) ^ 15 ≤ 700000000000000000 := by decide
    have e : 13 ^ (i :: w).length = 13 * 13 ^ w.length := by rw [List.length_cons, Nat.pow_succ, Nat.mul_comm]
    rw [e]
    generalize 13 ^ w.length = M at hp e2
    obtain ⟨g1, g2⟩ := mirror_big hC (i := i.toNat) (by omega) (m := (M : Int)) (by omega) (by omega) (by rw [actR_length]; exact hl) e2
    refine ⟨?_, ?_⟩
    · rw [actR, g1, e1]
      rfl
    · rw [Int.natCast_mul]
      exact g2

end Go.Proofs.YtgliajcgcbnemaaGreatDoor.Hx

namespace Go.Proofs.YtgliajcgcbnemaaGreatDoor.Hx
open Go.RowKit
variable {dm : Bool}

/-- A later world with all old blocks as they were: so many draws, some blocks more. -/
theorem Lat.grows {w w' : World} (b : Lat true w.heap.size w w') : ∃ q os, w' = Go.Sort.grow (w.drewN q) os := by
  refine ⟨w'.drawn - w.drawn, w'.heap.extract w.heap.size w'.heap.size, ?_⟩
  obtain ⟨⟨b1, b2, b3, b4, b5⟩, b60⟩ := b
  have b6 := b60 rfl
  clear b60
  obtain ⟨hp, tp, dr, os, out⟩ := w
  obtain ⟨hp', tp', dr', os', out'⟩ := w'
  simp only at b1 b2 b3 b4 b5 b6
  subst b1 b2 b3
  have hd : dr + (dr' - dr) = dr' := by omega
  have hh : hp' = hp ++ hp'.extract hp.size hp'.size := by
    apply Array.ext_getElem?
    intro k
    rw [Array.getElem?_append]
    by_cases hk : k < hp.size
    · rw [if_pos hk]
      exact b5 k hk
    · rw [if_neg hk, Array.getElem?_extract]
      by_cases h2 : k < hp'.size
      · rw [if_pos (by omega)]
        congr 1
        omega
      · rw [if_neg (by omega)]
        exact Array.getElem?_eq_none (by omega)
  simp only [Go.Sort.grow, World.drewN, hd]
  rw [← hh]

/-- A world that differs from w in one row's block alone bears the heap without that row. -/
theorem Rep.beside {B0 : Nat} {φ : Plan} {h : Heap} {w w' : World} (R : Rep B0 φ h w) {r : Nat} {cs : List H0} {p : Place} (hr : h[r]? = some (.own cs)) (hp : φ[r]? = some p)
    (hs : w.heap.size ≤ w'.heap.size) (hb : ∀ k, k ≠ p.b → k < w.heap.size → w'.heap[k]? = w.heap[k]?) : Rep B0 φ (h.set r .gone) w' := by
  obtain ⟨q1, q2, q3, _⟩ := R.own r cs p hr hp
  have D := R.drop r
  have other : ∀ (q : Nat) (ys : List H0), (h.set r .gone)[q]? = some (.own ys) → q ≠ r ∧ h[q]? = some (.own ys) := fun q ys hq => by
    by_cases e : q = r
    · subst e
      rw [List.getElem?_set_self (List.getElem?_eq_some_iff.1 hr).1] at hq
      cases hq
    · rw [List.getElem?_set_ne (Ne.symm e)] at hq
      exact ⟨e, hq⟩
  refine ⟨D.len, Nat.le_trans D.base hs, fun q xs pq h1 h2 => ?_, fun q xs pq h1 h2 => ?_, D.apart, fun q so ks pq h1 h2 => ?_, D.apartK, D.tab.keep fun k hk => hb k (by omega) (Nat.lt_of_lt_of_le hk D.base)⟩
  · obtain ⟨g1, g2⟩ := D.ro q xs pq h1 h2
    refine ⟨g1, fun k c hk => ?_⟩
    obtain ⟨v, e1, e2⟩ := g2 k c hk
    exact ⟨v, by rw [World.cell?_of_block (w := w) (hb _ (by show pq.b ≠ p.b; omega) (Nat.lt_of_lt_of_le g1 D.base))]; exact e1, e2⟩
  · obtain ⟨g1, g2, g3, cur, e, g4, g5⟩ := D.own q xs pq h1 h2
    obtain ⟨n1, n2⟩ := other q xs h1
    exact ⟨g1, g2, g3, cur, e, by rw [hb _ (R.apart q r xs cs pq p n1 n2 hr h2 hp) (Array.getElem?_eq_some_iff.1 g4).1]; exact g4, g5⟩
  · obtain ⟨g1, ents, clk, g4, g5⟩ := D.keys q so ks pq h1 h2
    have hq : h[q]? = some (.keys so ks) := by
      by_cases e : r = q
      · subst e
        rw [List.getElem?_set_self (List.getElem?_eq_some_iff.1 hr).1] at h1
        cases h1
      · rw [List.getElem?_set_ne e] at h1
        exact h1
    exact ⟨g1, ents, clk, by rw [hb _ (R.apartM hr hq hp h2) (Array.getElem?_eq_some_iff.1 g4).1]; exact g4, g5⟩

open Go.Sort in
theorem sortWorld_heap {α : Type} [Inhabited α] (enc : α → Value) (w : World) (blk off m : Nat) (dk : Array α) (os : Array Obj) :
    w.heap.size ≤ (Go.Proofs.sortWorld enc w blk off m dk os).heap.size ∧ ∀ k, k ≠ blk → k < w.heap.size → (Go.Proofs.sortWorld enc w blk off m dk os).heap[k]? = w.heap[k]? := by
  unfold Go.Proofs.sortWorld
  have hz : (putRow enc (Go.Sort.ahead w m) blk off dk).heap.size = w.heap.size := by simp [putRow, mapBlock, Go.Sort.ahead]
  refine ⟨by rw [size_grow, hz]; omega, fun k hk hl => ?_⟩
  rw [heap_grow_old _ _ (by rw [hz]; exact hl)]
  simp [putRow, mapBlock, Go.Sort.ahead, Array.getElem?_modify, Ne.symm hk]

theorem getD_range (n : Nat) (j : Nat) (hj : j < n) : (Array.range n)[j]! = j := by simp [hj]

theorem Ints.cell1 {h : Heap} {x : H0} {l : List Int} (H : Ints h x l) {φ : Plan} {v : Value} (k : rep0 φ x v) : v.oneCell' = true := by
  have main : ∀ (y : HV) (l : List H0), Shows h y l → y = .s x → v.oneCell' = true := by
    intro y l S e
    cases S with
    | nils a c =>
      cases e
      have : v = .slice a 0 c := k
      rw [this]; rfl
    | ro r off len cs hr hl => cases e; obtain ⟨p, a, cap, _, e, _⟩ := k; rw [e]; rfl
    | own r off len cs hr hl => cases e; obtain ⟨p, a, cap, _, e, _⟩ := k; rw [e]; rfl
  exact main _ _ H rfl

/-- What the sort leaves in the row. -/
def sortedRow (cs : List H0) (off len : Nat) (σ : List Nat) : List H0 := cs.take off ++ σ.map (fun i => cs.getD (off + i) (ci 0)) ++ cs.drop (off + len)

open Go.Sort Go.Shelf in
set_option maxHeartbeats 1000000 in
/-- slices.SortFunc over a row of slices. -/
theorem sort_calls {P : Program} {ρ : Ren} (L : SlLaysF.n6 P ρ) {CR : FuncId} (eg : ∀ args w, (callFunc CR args).run P w = .ok (.enter CR args) w) (cmpL : List Int → List Int → Int) (hO : SWO (ltOf cmpL))
    {h : Heap} {r off len : Nat} {cs : List H0} {Ls : List (List Int)} (hr : h[r]? = some (.own cs)) (hl : off + len ≤ cs.length) (hn : Ls.length = len) (hlen : len < 4611686018427387904)
    (hi : ∀ (i : Nat) (x : H0) (l : List Int), i < len → cs[off + i]? = some x → Ls[i]? = some l → Ints (h.set r .gone) x l)
    (hc : ∀ (i j : Nat) (x y : H0) (a b : List Int), i < len → j < len → cs[off + i]? = some x → cs[off + j]? = some y → Ls[i]? = some a → Ls[j]? = some b →
      HCalls true P CR [.s x, .s y] (freeze (h.set r .gone)) (fun z _ => z = I (cmpL a b))) :
    HCalls dm P (ρ.f 6) [.s (.sl r off len), .fn CR []] h (fun z h' => z = .tup [] ∧ ∃ σ : List Nat, σ.Perm (List.range len) ∧ σ.Pairwise (fun i j => ¬ cmpL (Ls.getD j []) (Ls.getD i []) < 0) ∧ h' = h.set r (.own (sortedRow cs off len σ))) := by
  refine ⟨L.f6.enters rfl, fun B0 φ w vargs R ha => ?_⟩
  obtain ⟨p, hp⟩ := R.place hr
  obtain ⟨q1, q2, q3, cur, e, q4, q5, q6⟩ := R.own r cs p hr hp
  have hvs : ∃ u v, vargs = #[u, v] ∧ rep0 φ (.sl r off len) u ∧ repV φ (.fn CR []) v := by
    rcases vargs with ⟨vs⟩
    match vs, ha with
    | [u, v], hh => exact ⟨u, v, rfl, hh.1, hh.2.1⟩
  obtain ⟨u, v, rfl, hu, hv⟩ := hvs
  obtain ⟨p', a, cap, hp', rfl, hc1, hc2, hc3, hc4⟩ := hu
  obtain rfl : p' = p := Option.some.inj (hp'.symm.trans hp)
  obtain ⟨vs, rfl, hvs⟩ := hv
  obtain rfl : vs = #[] := by
    rcases vs with ⟨vl⟩
    match vl, hvs with
    | [], _ => rfl
  by_cases h0 : len = 0
  · subst h0
    refine (AnyF.slices_SortFunc_none { L with } (some a) cap _ w).mono ?_
    rintro e' w' ⟨rfl, rfl⟩
    refine ⟨_, .tup [], _, φ, rfl, ⟨rfl, [], by simp, List.Pairwise.nil, rfl⟩, Sub.refl _, ?_, ⟨#[], rfl, trivial⟩, Lat.refl _ _⟩
    have : h.set r (.own (sortedRow cs off 0 [])) = h := by
      rw [show sortedRow cs off 0 [] = cs by simp [sortedRow]]
      exact set_same hr
    rw [this]
    exact R
  · have ha : a = ⟨p'.b, off, none⟩ := by rw [hc4 (by omega), q1, Nat.zero_add]
    subst ha
    let ix : Nat → Nat := fun i => if i < len then i else 0
    have hix : ∀ i, ix i < len := fun i => by simp only [ix]; split <;> omega
    have hixe : ∀ i, i < len → ix i = i := fun i hi => by simp only [ix, if_pos hi]
    let enc : Nat → Value := fun i => cur.getD (off + ix i) default
    let cf : Nat → Nat → Int := fun i j => cmpL (Ls.getD (ix i) []) (Ls.getD (ix j) [])
    have cell : ∀ i, ∃ x l, cs[off + ix i]? = some x ∧ Ls[ix i]? = some l ∧ cur[off + ix i]? = some (enc i) ∧ rep0 φ x (enc i) ∧ Ints (h.set r .gone) x l ∧ Ls.getD (ix i) [] = l := fun i => by
      have := hix i
      have hx : cs[off + ix i]? = some cs[off + ix i] := List.getElem?_eq_getElem (by omega)
      have hll : Ls[ix i]? = some Ls[ix i] := List.getElem?_eq_getElem (by omega)
      obtain ⟨v, e1, e2⟩ := q6 _ _ hx
      have hv : enc i = v := by simp only [enc, Array.getD_eq_getD_getElem?, e1]; rfl
      exact ⟨_, _, hx, hll, by rw [hv]; exact e1, by rw [hv]; exact e2, hi _ _ _ this hx hll, by simp [List.getD, hll]⟩
    have h1 : OneCell enc := fun i => by
      obtain ⟨x, l, _, _, _, g4, g5, _⟩ := cell i
      exact g5.cell1 g4
    have hOc : SWO (ltOf cf) := ⟨fun x => hO.irrefl _, fun x y z => hO.trans _ _ _, fun x y z => hO.ntrans _ _ _⟩
    have hH : Go.Sort.Holds enc w p'.b off (Array.range len) := fun j hj => by
      have hj' : j < len := by simpa using hj
      obtain ⟨x, l, g1, g2, g3, g4, g5, g6⟩ := cell j
      rw [getD_range len j hj']
      rw [hixe j hj'] at g3
      exact ⟨by rw [cell_of_row w p'.b (off + j) cur e (0, 0) q4]; exact g3, by simp [World.frozen?, q4]⟩
    have hblk : p'.b < w.heap.size := (Array.getElem?_eq_some_iff.1 q4).1
    have hcmp : CmpLays1 P CR #[] enc cf p'.b off (Array.range len).size w := by
      intro m os dk hdk x y
      have hW := sortWorld_heap enc w p'.b off m dk os
      have RW := (R.beside hr hp hW.1 hW.2).frozen
      obtain ⟨cx, lx, x1, x2, x3, x4, x5, x6⟩ := cell x
      obtain ⟨cy, ly, y1, y2, y3, y4, y5, y6⟩ := cell y
      have hcall := (hc (ix x) (ix y) cx cy lx ly (hix x) (hix y) x1 y1 x2 y2).out _ φ _ #[enc x, enc y] RW ⟨x4, y4, trivial⟩
      refine hcall.mono ?_
      rintro e' w' ⟨v, z, h', φ', rfl, rfl, _, _, g4, g5⟩
      obtain ⟨q, os', hq⟩ := g5.grows
      have hv := rep0_pl g4
      refine ⟨?_, q, os', hq⟩
      rw [hv]
      show _ = Ending.returned (.int .i64 (cmpL (Ls.getD (ix x) []) (Ls.getD (ix y) [])))
      rw [x6, y6]
    have hmain := Any.slices_SortFunc L enc h1 cf hOc CR #[] p'.b off cap (Array.range len) w eg hcmp hH hblk (by simpa using hlen)
    rw [Array.size_range] at hmain
    refine hmain.mono ?_
    rintro e' w' ⟨rfl, d', n, os, hperm, hsort, rfl⟩
    obtain ⟨hsz, _, hpm⟩ := hperm
    rw [Array.size_range] at hsz
    have hpm2 : d'.toList.Perm (List.range len) := by
      have e1 : d'.extract 0 len = d' := by rw [← hsz]; exact Array.extract_size
      have e2 : (Array.range len).extract 0 len = Array.range len := by
        have := Array.extract_size (xs := Array.range len)
        rwa [Array.size_range] at this
      rw [e1, e2] at hpm
      simpa using hpm
    have hlt : ∀ i ∈ d'.toList, i < len := fun i hi => by simpa using hpm2.mem_iff.1 hi
    have hdl : d'.toList.length = len := by simpa using hsz
    have hget : ∀ i, i < len → ∃ x, d'.toList[i]? = some x ∧ d'[i]! = x ∧ x < len := fun i hi => by
      have hi' : i < d'.size := by omega
      refine ⟨d'[i], by simp [hi'], by simp [hi'], ?_⟩
      exact hlt _ (by simp)
    refine ⟨_, .tup [], _, φ, rfl, ⟨rfl, d'.toList, hpm2, ?_, rfl⟩, Sub.refl _, ?_, ⟨#[], rfl, trivial⟩, ?_⟩
    · rw [List.pairwise_iff_getElem]
      intro i j hi hj hij
      have hs := hsort i j (Nat.zero_le _) hij (by omega)
      have hi' : i < d'.size := by simpa using hi
      have hj' : j < d'.size := by simpa using hj
      have ei : d'[i]! = d'[i] := by simp [hi']
      have ej : d'[j]! = d'[j] := by simp [hj']
      rw [ei, ej] at hs
      have li : d'[i] < len := hlt _ (by simp)
      have lj : d'[j] < len := hlt _ (by simp)
      simp only [ltOf, cf, hixe _ li, hixe _ lj, decide_eq_false_iff_not] at hs
      simpa using hs
    · let cur' := putCells enc off d' cur
      have w1 : Rep B0 φ (h.set r (.own (sortedRow cs off len d'.toList))) (putRow enc (Go.Sort.ahead w n) p'.b off d') := by
        refine R.rewrite (w' := putRow enc (Go.Sort.ahead w n) p'.b off d') (cur := cur') (e := e) hr hp ?_ ?_ ?_ ?_ ?_ ?_
        · simp [putRow, mapBlock, Go.Sort.ahead]
        · intro k hk
          simp [putRow, mapBlock, Go.Sort.ahead, Array.getElem?_modify, Ne.symm hk]
        · simp [putRow, mapBlock, Go.Sort.ahead, Array.getElem?_modify, q4, onCells, cur']
        · simp [cur', putCells, q5]
        · simp only [sortedRow, List.length_append, List.length_take, List.length_map, List.length_drop, hdl]
          omega
        · intro k c hk
          have hcur : ∀ k, cur'[k]? = (cur[k]?).map fun x => if off ≤ k ∧ k < off + d'.size then enc d'[k - off]! else x := fun k => by
            simp [cur', putCells, Array.getElem?_mapIdx]
          rw [hcur]
          simp only [sortedRow] at hk
          by_cases k1 : k < off
          · rw [List.append_assoc, List.getElem?_append_left (by simp; omega), List.getElem?_take_of_lt k1] at hk
            obtain ⟨v, e1, e2⟩ := q6 k c hk
            exact ⟨v, by rw [e1]; simp; omega, e2⟩
          · by_cases k2 : k < off + len
            · rw [List.append_assoc, List.getElem?_append_right (by simp; omega), List.getElem?_append_left (by simp [hdl]; omega)] at hk
              have htl : (cs.take off).length = off := by simp; omega
              rw [htl] at hk
              obtain ⟨x, g1, g2, g3⟩ := hget (k - off) (by omega)
              rw [List.getElem?_map, g1] at hk
              obtain ⟨cx, lx, x1, x2, x3, x4, x5, x6⟩ := cell x
              rw [hixe x g3] at x1
              simp only [Option.map_some, Option.some.injEq, List.getD, x1, Option.getD_some] at hk
              subst hk
              have hkc : k < cur.size := by omega
              refine ⟨enc x, ?_, x4⟩
              rw [Array.getElem?_eq_getElem hkc, Option.map_some, if_pos ⟨by omega, by omega⟩, g2]
            · rw [List.getElem?_append_right (by simp [hdl]; omega)] at hk
              have htl : (cs.take off ++ d'.toList.map (fun i => cs.getD (off + i) (ci 0))).length = off + len := by simp [hdl]; omega
              rw [htl, List.getElem?_drop] at hk
              have hk' : cs[k]? = some c := by
                rw [← hk]
                congr 1
                omega
              obtain ⟨v, e1, e2⟩ := q6 k c hk'
              exact ⟨v, by rw [e1]; simp; omega, e2⟩
      exact w1.still (by unfold sortWorld; rw [size_grow]; omega) (fun k hk => by unfold sortWorld; exact heap_grow_old _ _ hk)
    · have hW := sortWorld_heap enc w p'.b off n d' os
      exact ⟨⟨rfl, rfl, rfl, hW.1, fun k hk => hW.2 k (by omega) (by have := R.base; omega)⟩, fun _ => by show w.drawn ≤ w.drawn + n; omega⟩

end Go.Proofs.YtgliajcgcbnemaaGreatDoor.Hx
