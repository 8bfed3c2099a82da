/-
  The contracts of the laws' own helpers over slices of slices of ints: sizes, copies, comparisons, marks; and what is made anew, with bounds on where it lies.
  The contracts of the laws' own helpers that copy and mark slices of slices of ints.
  Contracts of SimpleRoot and of the sums over rows and roots, of the program and of the reference.
  Contracts of reflections of roots, of the program and of the reference.
  Contracts of ReflectRoot, ActOnRoot, WeightOfRoot, of the program and of the reference.
  Contracts of WeightOfRoot, of the program and of the reference.
  Contracts of ActOnRoot, of the program and of the reference.
  Contracts of reflections of weights and of the image of rho, of the program and of the reference.
  Contracts of the image of rho and of equality of slices, of the program and of the reference.
  Contracts of the image of rho: acted, image, RhoOf, l8Image.
  Contracts of equality of slices and of AreSame, of the program and of the reference.
  Contracts of LeftDescents, of the program.
  More of rows: several slices of one's own side by side, appending to one of them, slices of slices that grow, parts of slices.
  Contracts of the descents of the reference, of reversed words, of words with a letter left out, of the program and of the reference.
  Contracts of words one behind the other, of places in lists of words, and of commuting words, of the program and of the reference; calls that make a slice, in a region that draws its order.
  Contracts of commuting words, of the roots of a word's letters and of the first two letters that can be left out, of the program and of the reference.
-/
import Derived.Test.YtgliajcgcbnemaaGreatDoorZ08
namespace Go.Proofs.YtgliajcgcbnemaaGreatDoor.Hx
open Go.RowKit
variable {dm : Bool}

/-- Rows from number a to number b (b not) may have changed, no other. -/
def Mid (h h' : Heap) (a b : Nat) : Prop := h'.length = h.length ∧ ∀ q, (q < a ∨ b ≤ q) → h'[q]? = h[q]?

/-- A slice of ints in a row of its own, of number between b and e. -/
def Own (b e : Nat) (h : Heap) (x : H0) (l : List Int) : Prop := ∃ r t, x = .sl r 0 l.length ∧ b ≤ r ∧ r < e ∧ h[r]? = some (.own (l.map ci ++ t))

theorem Fresh.own {h h' : Heap} {x : H0} {l : List Int} (H : Fresh h h' x l) : Own h.length h'.length h' x l := by
  obtain ⟨_, r, t, e, hr, hg⟩ := H
  exact ⟨r, t, e, hr, get_lt hg, hg⟩

/-- A slice in row r whose parts are the slices in the rows that ρ names. -/
structure MatAt (h : Heap) (r : Nat) (ρ : Nat → Nat) (L : List (List Int)) : Prop where
  outer : ∃ cs, h[r]? = some (.own cs) ∧ L.length ≤ cs.length ∧ ∀ i, i < L.length → cs[i]? = some (.sl (ρ i) 0 (L.getD i []).length)
  inner : ∀ i, i < L.length → ∃ t, h[ρ i]? = some (.own ((L.getD i []).map ci ++ t))
  ne : ∀ i, i < L.length → ρ i ≠ r
  inj : ∀ i j, i < j → j < L.length → ρ i ≠ ρ j

theorem MatAt.rows {h : Heap} {r : Nat} {ρ : Nat → Nat} {L : List (List Int)} (H : MatAt h r ρ L) : Rows h (.sl r 0 L.length) L := by
  obtain ⟨cs, h1, h2, h3⟩ := H.outer
  refine ⟨(cs.drop 0).take L.length, Shows.own r 0 L.length cs h1 (by omega), by simp; omega, fun i y l hy hl => ?_⟩
  have hi : i < L.length := (List.getElem?_eq_some_iff.1 hl).1
  rw [List.drop_zero, List.getElem?_take_of_lt hi, h3 i hi] at hy
  cases hy
  obtain ⟨t, ht⟩ := H.inner i hi
  have e : L.getD i [] = l := by simp [List.getD, hl]
  rw [e] at ht ⊢
  exact Ints.ofOwn ht

def OwnM (b e : Nat) (h : Heap) (x : H0) (L : List (List Int)) : Prop := ∃ r ρ, x = .sl r 0 L.length ∧ b ≤ r ∧ r < e ∧ (∀ i, i < L.length → b ≤ ρ i ∧ ρ i < e) ∧ MatAt h r ρ L

theorem OwnM.rows {b e : Nat} {h : Heap} {x : H0} {L : List (List Int)} (H : OwnM b e h x L) : Rows h x L := by
  obtain ⟨r, ρ, rfl, _, _, _, m⟩ := H
  exact m.rows

theorem MatAt.move {h h' : Heap} {r : Nat} {ρ : Nat → Nat} {L : List (List Int)} (H : MatAt h r ρ L) (k : h'[r]? = h[r]?) (k2 : ∀ i, i < L.length → h'[ρ i]? = h[ρ i]?) : MatAt h' r ρ L := by
  obtain ⟨o, n, e, j⟩ := H
  refine ⟨?_, fun i hi => ?_, e, j⟩
  · rw [k]
    exact o
  · rw [k2 i hi]
    exact n i hi

theorem OwnM.ext {b e : Nat} {h h' : Heap} {x : H0} {L : List (List Int)} (H : OwnM b e h x L) (k : Ext h h') : OwnM b e h' x L := by
  obtain ⟨r, ρ, g1, g2, g3, g4, m⟩ := H
  refine ⟨r, ρ, g1, g2, g3, g4, m.move ?_ (fun i hi => ?_)⟩
  · obtain ⟨cs, h1, _⟩ := m.outer
    exact k.2 r (get_lt h1)
  · obtain ⟨t, h1⟩ := m.inner i hi
    exact k.2 _ (get_lt h1)

/-- How many numbers a list of lists holds. -/
def tot : List (List Int) → Nat
  | [] => 0
  | l :: ls => l.length + tot ls

theorem tot_succ : ∀ (L : List (List Int)) (i : Nat), i < L.length → tot (L.take (i + 1)) = tot (L.take i) + (L.getD i []).length
  | [], i, h => by simp at h
  | l :: ls, 0, _ => by simp [tot]
  | l :: ls, i + 1, h => by
    have := tot_succ ls i (by simpa using h)
    simp only [List.take_succ_cons, tot, List.getD_cons_succ]
    omega

theorem tot_take_le : ∀ (L : List (List Int)) (i : Nat), tot (L.take i) ≤ tot L
  | [], i => by simp
  | l :: ls, 0 => by simp [tot]
  | l :: ls, i + 1 => by
    have := tot_take_le ls i
    simp only [List.take_succ_cons, tot]
    omega

theorem len_le_tot {L : List (List Int)} {i : Nat} (h : i < L.length) : tot (L.take i) + (L.getD i []).length ≤ tot L := by
  rw [← tot_succ L i h]
  exact tot_take_le L _

theorem tot_none : tot [] = 0 := rfl


theorem szIntS_any (h : Heap) (x : H0) (l : List Int) (n : Nat) (hx : Ints h x l) (hn : n ≤ 2199023255552) (hl : l.length ≤ 9223372036854775807) :
    HCalls dm Tryz.prog 72 [.s x, I n] h (fun r h' => h' = h ∧ ((∃ k : Nat, r = I k ∧ l.length + k = n) ∨ r = I (-1))) := by
  refine calls_of_hFun (m := 0) kd_ok mixed Tryz.func72 rfl (by kernel_rfl) rfl rfl (of_decide_eq_true rfl) ?_; unfold hFun; (conv => whnf)
  (repeat (first | (refine ⟨rfl, Ints.len (by assumption) ?_⟩; conv => whnf) | (refine ⟨rfl, Rows.len (by assumption) ?_⟩; conv => whnf) | (refine ⟨rfl, HLen.sl ?_⟩; conv => whnf) | (refine ⟨rfl, At.load (by assumption) ?_⟩; conv => whnf) | (refine HIf.yes ?_; conv => whnf) | (refine HIf.no ?_; conv => whnf) | (refine HIf.isT (by assumption) ?_; conv => whnf) | (refine HIf.isF (by assumption) ?_; conv => whnf) | (refine HIf.decT (by assumption) ?_; conv => whnf) | (refine HIf.decF (by assumption) ?_; conv => whnf) | (refine HIf.beqT (by assumption) ?_; conv => whnf) | (refine HIf.beqF (by assumption) ?_; conv => whnf) | (refine HIf.bneT (by assumption) ?_; conv => whnf) | (refine HIf.bneF (by assumption) ?_; conv => whnf) | (refine ⟨rfl, Ints.idxN (by assumption) (by omega) (fun p hp => ?_)⟩; conv => whnf) | (refine ⟨rfl, Rows.idxN (by assumption) (by omega) (fun p y hp hy => ?_)⟩; conv => whnf) | (refine And.intro (show Kd.isBool _ = true from rfl) ?_; conv => whnf) | (refine ⟨rfl, Ints.idx (by assumption) (by omega) (by omega) (fun p hp => ?_)⟩; conv => whnf) | (refine ⟨rfl, Rows.idx (by assumption) (by omega) (by omega) (fun p y hp hy => ?_)⟩; conv => whnf) | (refine HArith.fits (by omega) (by omega) ?_; conv => whnf) | (refine Or.inl (And.intro (show Region.lexB _ _ = true by kernel_rfl) ?_); conv => whnf)))
  refine HIf.dec (fun hlt => ?_) (fun hge => ?_)
  · (conv => whnf)
    exact ⟨rfl, Or.inr rfl⟩
  · (conv => whnf)
    refine ⟨rfl, Or.inl ⟨n - l.length, ?_, by omega⟩⟩
    have : ((n - l.length : Nat) : Int) = (n : Int) - l.length := by omega
    rw [this]
    rfl

theorem szIntSS_any (h : Heap) (x : H0) (L : List (List Int)) (n : Nat) (hx : Rows h x L) (hn : n ≤ 2199023255552) (hL : L.length ≤ 9223372036854775807) (hl : ∀ i, (L.getD i []).length ≤ 9223372036854775807) :
    HCalls dm Tryz.prog 8 [.s x, I n] h (fun r h' => h' = h ∧ ((∃ k : Nat, r = I k ∧ L.length + tot L + k = n) ∨ r = I (-1))) := by
  refine calls_of_hFun (m := 0) kd_ok mixed Tryz.func8 rfl (by kernel_rfl) rfl rfl (of_decide_eq_true rfl) ?_; unfold hFun; (conv => whnf)
  (repeat (first | (refine ⟨rfl, Ints.len (by assumption) ?_⟩; conv => whnf) | (refine ⟨rfl, Rows.len (by assumption) ?_⟩; conv => whnf) | (refine ⟨rfl, HLen.sl ?_⟩; conv => whnf) | (refine ⟨rfl, At.load (by assumption) ?_⟩; conv => whnf) | (refine HIf.yes ?_; conv => whnf) | (refine HIf.no ?_; conv => whnf) | (refine HIf.isT (by assumption) ?_; conv => whnf) | (refine HIf.isF (by assumption) ?_; conv => whnf) | (refine HIf.decT (by assumption) ?_; conv => whnf) | (refine HIf.decF (by assumption) ?_; conv => whnf) | (refine HIf.beqT (by assumption) ?_; conv => whnf) | (refine HIf.beqF (by assumption) ?_; conv => whnf) | (refine HIf.bneT (by assumption) ?_; conv => whnf) | (refine HIf.bneF (by assumption) ?_; conv => whnf) | (refine ⟨rfl, Ints.idxN (by assumption) (by omega) (fun p hp => ?_)⟩; conv => whnf) | (refine ⟨rfl, Rows.idxN (by assumption) (by omega) (fun p y hp hy => ?_)⟩; conv => whnf) | (refine And.intro (show Kd.isBool _ = true from rfl) ?_; conv => whnf) | (refine ⟨rfl, Ints.idx (by assumption) (by omega) (by omega) (fun p hp => ?_)⟩; conv => whnf) | (refine ⟨rfl, Rows.idx (by assumption) (by omega) (by omega) (fun p y hp hy => ?_)⟩; conv => whnf) | (refine HArith.fits (by omega) (by omega) ?_; conv => whnf) | (refine Or.inl (And.intro (show Region.lexB _ _ = true by kernel_rfl) ?_); conv => whnf)))
  refine HIf.dec (fun hlt => ?_) (fun hge => ?_)
  · (conv => whnf)
    exact ⟨rfl, Or.inr rfl⟩
  · (conv => whnf)
    refine HLoop.intro [5, 1] [12, 13, 14, 15, 18, 19, 20, 21, 22, 23, 1, 24, 25, 4, 16, 17, 5] (by kernel_rfl) (by kernel_rfl) (fun vs h' => ∃ i k : Nat, vs = [I i, I k] ∧ h' = h ∧ i ≤ L.length ∧ L.length + tot (L.take i) + k = n) (fun vs _ => L.length - natAt vs 0) ⟨0, n - L.length, ?_, rfl, by omega, by simp [tot_none]; omega⟩ ?_
    · have : ((n - L.length : Nat) : Int) = (n : Int) - L.length := by omega
      rw [this]
      rfl
    rintro vs h' ⟨i, k, rfl, rfl, hi, hk⟩
    (conv => whnf)
    (repeat (first | (refine ⟨rfl, Ints.len (by assumption) ?_⟩; conv => whnf) | (refine ⟨rfl, Rows.len (by assumption) ?_⟩; conv => whnf) | (refine ⟨rfl, HLen.sl ?_⟩; conv => whnf) | (refine ⟨rfl, At.load (by assumption) ?_⟩; conv => whnf) | (refine HIf.yes ?_; conv => whnf) | (refine HIf.no ?_; conv => whnf) | (refine HIf.isT (by assumption) ?_; conv => whnf) | (refine HIf.isF (by assumption) ?_; conv => whnf) | (refine HIf.decT (by assumption) ?_; conv => whnf) | (refine HIf.decF (by assumption) ?_; conv => whnf) | (refine HIf.beqT (by assumption) ?_; conv => whnf) | (refine HIf.beqF (by assumption) ?_; conv => whnf) | (refine HIf.bneT (by assumption) ?_; conv => whnf) | (refine HIf.bneF (by assumption) ?_; conv => whnf) | (refine ⟨rfl, Ints.idxN (by assumption) (by omega) (fun p hp => ?_)⟩; conv => whnf) | (refine ⟨rfl, Rows.idxN (by assumption) (by omega) (fun p y hp hy => ?_)⟩; conv => whnf) | (refine And.intro (show Kd.isBool _ = true from rfl) ?_; conv => whnf) | (refine ⟨rfl, Ints.idx (by assumption) (by omega) (by omega) (fun p hp => ?_)⟩; conv => whnf) | (refine ⟨rfl, Rows.idx (by assumption) (by omega) (by omega) (fun p y hp hy => ?_)⟩; conv => whnf) | (refine HArith.fits (by omega) (by omega) ?_; conv => whnf) | (refine Or.inl (And.intro (show Region.lexB _ _ = true by kernel_rfl) ?_); conv => whnf)))
    refine HIf.dec (fun hlt => ?_) (fun hge => ?_)
    · (conv => whnf)
      (repeat (first | (refine ⟨rfl, Ints.len (by assumption) ?_⟩; conv => whnf) | (refine ⟨rfl, Rows.len (by assumption) ?_⟩; conv => whnf) | (refine ⟨rfl, HLen.sl ?_⟩; conv => whnf) | (refine ⟨rfl, At.load (by assumption) ?_⟩; conv => whnf) | (refine HIf.yes ?_; conv => whnf) | (refine HIf.no ?_; conv => whnf) | (refine HIf.isT (by assumption) ?_; conv => whnf) | (refine HIf.isF (by assumption) ?_; conv => whnf) | (refine HIf.decT (by assumption) ?_; conv => whnf) | (refine HIf.decF (by assumption) ?_; conv => whnf) | (refine HIf.beqT (by assumption) ?_; conv => whnf) | (refine HIf.beqF (by assumption) ?_; conv => whnf) | (refine HIf.bneT (by assumption) ?_; conv => whnf) | (refine HIf.bneF (by assumption) ?_; conv => whnf) | (refine ⟨rfl, Ints.idxN (by assumption) (by omega) (fun p hp => ?_)⟩; conv => whnf) | (refine ⟨rfl, Rows.idxN (by assumption) (by omega) (fun p y hp hy => ?_)⟩; conv => whnf) | (refine And.intro (show Kd.isBool _ = true from rfl) ?_; conv => whnf) | (refine ⟨rfl, Ints.idx (by assumption) (by omega) (by omega) (fun p hp => ?_)⟩; conv => whnf) | (refine ⟨rfl, Rows.idx (by assumption) (by omega) (by omega) (fun p y hp hy => ?_)⟩; conv => whnf) | (refine HArith.fits (by omega) (by omega) ?_; conv => whnf) | (refine Or.inl (And.intro (show Region.lexB _ _ = true by kernel_rfl) ?_); conv => whnf)))
      refine (szIntS_any _ _ _ k (by assumption) (by omega) (hl _)).mono ?_
      rintro r h' ⟨rfl, ⟨m, rfl, hm⟩ | rfl⟩
      · have := tot_succ L i (by omega)
        (conv => whnf)
        refine HIf.decF (by omega) ?_
        (conv => whnf)
        (repeat (first | (refine ⟨rfl, Ints.len (by assumption) ?_⟩; conv => whnf) | (refine ⟨rfl, Rows.len (by assumption) ?_⟩; conv => whnf) | (refine ⟨rfl, HLen.sl ?_⟩; conv => whnf) | (refine ⟨rfl, At.load (by assumption) ?_⟩; conv => whnf) | (refine HIf.yes ?_; conv => whnf) | (refine HIf.no ?_; conv => whnf) | (refine HIf.isT (by assumption) ?_; conv => whnf) | (refine HIf.isF (by assumption) ?_; conv => whnf) | (refine HIf.decT (by assumption) ?_; conv => whnf) | (refine HIf.decF (by assumption) ?_; conv => whnf) | (refine HIf.beqT (by assumption) ?_; conv => whnf) | (refine HIf.beqF (by assumption) ?_; conv => whnf) | (refine HIf.bneT (by assumption) ?_; conv => whnf) | (refine HIf.bneF (by assumption) ?_; conv => whnf) | (refine ⟨rfl, Ints.idxN (by assumption) (by omega) (fun p hp => ?_)⟩; conv => whnf) | (refine ⟨rfl, Rows.idxN (by assumption) (by omega) (fun p y hp hy => ?_)⟩; conv => whnf) | (refine And.intro (show Kd.isBool _ = true from rfl) ?_; conv => whnf) | (refine ⟨rfl, Ints.idx (by assumption) (by omega) (by omega) (fun p hp => ?_)⟩; conv => whnf) | (refine ⟨rfl, Rows.idx (by assumption) (by omega) (by omega) (fun p y hp hy => ?_)⟩; conv => whnf) | (refine HArith.fits (by omega) (by omega) ?_; conv => whnf) | (refine Or.inl (And.intro (show Region.lexB _ _ = true by kernel_rfl) ?_); conv => whnf)))
        exact ⟨⟨i + 1, m, rfl, rfl, by omega, by omega⟩, by show L.length - (i + 1) < L.length - i; omega⟩
      · (conv => whnf)
        refine HIf.yes ?_
        (conv => whnf)
        exact ⟨rfl, Or.inr rfl⟩
    · (conv => whnf)
      have e : i = L.length := by omega
      subst e
      rw [List.take_length] at hk
      exact ⟨rfl, Or.inl ⟨k, rfl, hk⟩⟩

theorem eqIntSS_any (h : Heap) (x y : H0) (a b : List (List Int)) (hx : Rows h x a) (hy : Rows h y b) (hal : a.length ≤ 2199023255552) (hat : tot a ≤ 2199023255552) :
    HCalls dm Tryz.prog 12 [.s x, .s y] h (fun r h' => r = B (decide (a = b)) ∧ h' = h) := by
  refine calls_of_hFun (m := 0) kd_ok mixed Tryz.func12 rfl (by kernel_rfl) rfl rfl (of_decide_eq_true rfl) ?_; unfold hFun; (conv => whnf)
  (repeat (first | (refine ⟨rfl, Ints.len (by assumption) ?_⟩; conv => whnf) | (refine ⟨rfl, Rows.len (by assumption) ?_⟩; conv => whnf) | (refine ⟨rfl, HLen.sl ?_⟩; conv => whnf) | (refine ⟨rfl, At.load (by assumption) ?_⟩; conv => whnf) | (refine HIf.yes ?_; conv => whnf) | (refine HIf.no ?_; conv => whnf) | (refine HIf.isT (by assumption) ?_; conv => whnf) | (refine HIf.isF (by assumption) ?_; conv => whnf) | (refine HIf.decT (by assumption) ?_; conv => whnf) | (refine HIf.decF (by assumption) ?_; conv => whnf) | (refine HIf.beqT (by assumption) ?_; conv => whnf) | (refine HIf.beqF (by assumption) ?_; conv => whnf) | (refine HIf.bneT (by assumption) ?_; conv => whnf) | (refine HIf.bneF (by assumption) ?_; conv => whnf) | (refine ⟨rfl, Ints.idxN (by assumption) (by omega) (fun p hp => ?_)⟩; conv => whnf) | (refine ⟨rfl, Rows.idxN (by assumption) (by omega) (fun p y hp hy => ?_)⟩; conv => whnf) | (refine And.intro (show Kd.isBool _ = true from rfl) ?_; conv => whnf) | (refine ⟨rfl, Ints.idx (by assumption) (by omega) (by omega) (fun p hp => ?_)⟩; conv => whnf) | (refine ⟨rfl, Rows.idx (by assumption) (by omega) (by omega) (fun p y hp hy => ?_)⟩; conv => whnf) | (refine HArith.fits (by omega) (by omega) ?_; conv => whnf) | (refine Or.inl (And.intro (show Region.lexB _ _ = true by kernel_rfl) ?_); conv => whnf)))
  refine HIf.bne (fun hne => ?_) (fun heq => ?_)
  · (conv => whnf)
    have : ¬ a = b := fun e => hne (by rw [e])
    rw [decide_eq_false this]
    exact ⟨rfl, rfl⟩
  · (conv => whnf)
    refine HLoop.intro [5] [11, 12, 13, 14, 17, 18, 19, 20, 21, 22, 23, 24, 25, 26, 4, 15, 16, 5] (by kernel_rfl) (by kernel_rfl) (fun vs h' => ∃ i : Nat, vs = [I i] ∧ h' = h ∧ i ≤ a.length ∧ a.take i = b.take i) (fun vs _ => a.length - natAt vs 0) ⟨0, rfl, rfl, by omega, by simp⟩ ?_
    rintro vs h' ⟨i, rfl, rfl, hi, hab⟩
    (conv => whnf)
    (repeat (first | (refine ⟨rfl, Ints.len (by assumption) ?_⟩; conv => whnf) | (refine ⟨rfl, Rows.len (by assumption) ?_⟩; conv => whnf) | (refine ⟨rfl, HLen.sl ?_⟩; conv => whnf) | (refine ⟨rfl, At.load (by assumption) ?_⟩; conv => whnf) | (refine HIf.yes ?_; conv => whnf) | (refine HIf.no ?_; conv => whnf) | (refine HIf.isT (by assumption) ?_; conv => whnf) | (refine HIf.isF (by assumption) ?_; conv => whnf) | (refine HIf.decT (by assumption) ?_; conv => whnf) | (refine HIf.decF (by assumption) ?_; conv => whnf) | (refine HIf.beqT (by assumption) ?_; conv => whnf) | (refine HIf.beqF (by assumption) ?_; conv => whnf) | (refine HIf.bneT (by assumption) ?_; conv => whnf) | (refine HIf.bneF (by assumption) ?_; conv => whnf) | (refine ⟨rfl, Ints.idxN (by assumption) (by omega) (fun p hp => ?_)⟩; conv => whnf) | (refine ⟨rfl, Rows.idxN (by assumption) (by omega) (fun p y hp hy => ?_)⟩; conv => whnf) | (refine And.intro (show Kd.isBool _ = true from rfl) ?_; conv => whnf) | (refine ⟨rfl, Ints.idx (by assumption) (by omega) (by omega) (fun p hp => ?_)⟩; conv => whnf) | (refine ⟨rfl, Rows.idx (by assumption) (by omega) (by omega) (fun p y hp hy => ?_)⟩; conv => whnf) | (refine HArith.fits (by omega) (by omega) ?_; conv => whnf) | (refine Or.inl (And.intro (show Region.lexB _ _ = true by kernel_rfl) ?_); conv => whnf)))
    refine HIf.dec (fun hlt => ?_) (fun hge => ?_)
    · have hlb : (i : Int) < b.length := by omega
      have hlt2 := len_le_tot (L := a) (i := i) (by omega)
      (conv => whnf)
      refine Or.inl (And.intro (show Region.lexB _ _ = true by kernel_rfl) ?_); (conv => whnf)
      refine ⟨rfl, Rows.idxN hx (by omega) (fun p1 y1 hp1 hy1 => ?_)⟩
      (conv => whnf)
      refine ⟨rfl, hp1.load ?_⟩
      (conv => whnf)
      refine ⟨rfl, Rows.idxN hy (by omega) (fun p2 y2 hp2 hy2 => ?_)⟩
      (conv => whnf)
      refine ⟨rfl, hp2.load ?_⟩
      (conv => whnf)
      refine HCallQ.of _ (eqIntS_any _ _ _ _ _ hy1.frz hy2.frz (by omega)) (fun x h' e => e.1) ?_
      (conv => whnf)
      have ga : a.getD i [] = a[i]'(by omega) := by simp [List.getD, show i < a.length by omega]
      have gb : b.getD i [] = b[i]'(by omega) := by simp [List.getD, show i < b.length by omega]
      by_cases he : a.getD i [] = b.getD i []
      · refine HIf.bnot (HIf.decT he ?_)
        rw [ga, gb] at he
        (conv => whnf)
        (repeat (first | (refine ⟨rfl, Ints.len (by assumption) ?_⟩; conv => whnf) | (refine ⟨rfl, Rows.len (by assumption) ?_⟩; conv => whnf) | (refine ⟨rfl, HLen.sl ?_⟩; conv => whnf) | (refine ⟨rfl, At.load (by assumption) ?_⟩; conv => whnf) | (refine HIf.yes ?_; conv => whnf) | (refine HIf.no ?_; conv => whnf) | (refine HIf.isT (by assumption) ?_; conv => whnf) | (refine HIf.isF (by assumption) ?_; conv => whnf) | (refine HIf.decT (by assumption) ?_; conv => whnf) | (refine HIf.decF (by assumption) ?_; conv => whnf) | (refine HIf.beqT (by assumption) ?_; conv => whnf) | (refine HIf.beqF (by assumption) ?_; conv => whnf) | (refine HIf.bneT (by assumption) ?_; conv => whnf) | (refine HIf.bneF (by assumption) ?_; conv => whnf) | (refine ⟨rfl, Ints.idxN (by assumption) (by omega) (fun p hp => ?_)⟩; conv => whnf) | (refine ⟨rfl, Rows.idxN (by assumption) (by omega) (fun p y hp hy => ?_)⟩; conv => whnf) | (refine And.intro (show Kd.isBool _ = true from rfl) ?_; conv => whnf) | (refine ⟨rfl, Ints.idx (by assumption) (by omega) (by omega) (fun p hp => ?_)⟩; conv => whnf) | (refine ⟨rfl, Rows.idx (by assumption) (by omega) (by omega) (fun p y hp hy => ?_)⟩; conv => whnf) | (refine HArith.fits (by omega) (by omega) ?_; conv => whnf) | (refine Or.inl (And.intro (show Region.lexB _ _ = true by kernel_rfl) ?_); conv => whnf)))
        refine ⟨⟨i + 1, rfl, rfl, by omega, ?_⟩, by show a.length - (i + 1) < a.length - i; omega⟩
        rw [List.take_succ_eq_append_getElem (by omega), List.take_succ_eq_append_getElem (by omega), hab, he]
      · refine HIf.bnot (HIf.decF he ?_)
        (conv => whnf)
        have : ¬ a = b := fun e => he (by rw [e])
        rw [decide_eq_false this]
        exact ⟨rfl, rfl⟩
    · (conv => whnf)
      have : a = b := by
        have e : i = a.length := by omega
        rw [List.take_of_length_le (by omega), List.take_of_length_le (by omega)] at hab
        exact hab
      rw [decide_eq_true this]
      exact ⟨rfl, rfl⟩

end Go.Proofs.YtgliajcgcbnemaaGreatDoor.Hx

namespace Go.Proofs.YtgliajcgcbnemaaGreatDoor.Hx
open Go.RowKit
variable {dm : Bool}

/-- The marks of row j. -/
def mrkRow (k : Int) (L : List (List Int)) (j : Nat) : List Int := marks (k + tot (L.take j)) (L.getD j []).length
def mrk (k : Int) (L : List (List Int)) : List (List Int) := (List.range L.length).map (mrkRow k L)

def nilS : H0 := .pl (.slice none 0 0)

theorem HMake.rows {l : Int} {h : Heap} {K : HV → Heap → Prop} (n : Nat) (hl : l = n) (hn : n ≤ 2 ^ 41) (hK : K (.s (.sl h.length 0 n)) (h ++ [.own (List.replicate n nilS)])) : HMake (.slice none 0 0) (I l) (I l) h K := by
  subst hl
  exact ⟨.i64, .i64, n, n, rfl, rfl, Nat.le_refl _, hn, hK⟩

theorem toIntSS_any (h : Heap) (x : H0) (L : List (List Int)) (hx : Rows h x L) (hL : L.length ≤ 2199023255552) (ht : tot L ≤ 2199023255552) :
    HCalls dm Tryz.prog 10 [.s x] h (fun r h' => ∃ y, r = .s y ∧ Ext h h' ∧ OwnM h.length h'.length h' y L) := by
  refine calls_of_hFun (m := 0) kd_ok mixed Tryz.func10 rfl (by kernel_rfl) rfl rfl (of_decide_eq_true rfl) ?_; unfold hFun; (conv => whnf)
  (repeat (first | (refine ⟨rfl, Ints.len (by assumption) ?_⟩; conv => whnf) | (refine ⟨rfl, Rows.len (by assumption) ?_⟩; conv => whnf) | (refine ⟨rfl, HLen.sl ?_⟩; conv => whnf) | (refine ⟨rfl, At.load (by assumption) ?_⟩; conv => whnf) | (refine HIf.yes ?_; conv => whnf) | (refine HIf.no ?_; conv => whnf) | (refine HIf.isT (by assumption) ?_; conv => whnf) | (refine HIf.isF (by assumption) ?_; conv => whnf) | (refine HIf.decT (by assumption) ?_; conv => whnf) | (refine HIf.decF (by assumption) ?_; conv => whnf) | (refine HIf.beqT (by assumption) ?_; conv => whnf) | (refine HIf.beqF (by assumption) ?_; conv => whnf) | (refine HIf.bneT (by assumption) ?_; conv => whnf) | (refine HIf.bneF (by assumption) ?_; conv => whnf) | (refine ⟨rfl, Ints.idxN (by assumption) (by omega) (fun p hp => ?_)⟩; conv => whnf) | (refine ⟨rfl, Rows.idxN (by assumption) (by omega) (fun p y hp hy => ?_)⟩; conv => whnf) | (refine And.intro (show Kd.isBool _ = true from rfl) ?_; conv => whnf) | (refine ⟨rfl, Ints.idx (by assumption) (by omega) (by omega) (fun p hp => ?_)⟩; conv => whnf) | (refine ⟨rfl, Rows.idx (by assumption) (by omega) (by omega) (fun p y hp hy => ?_)⟩; conv => whnf) | (refine HArith.fits (by omega) (by omega) ?_; conv => whnf) | (refine Or.inl (And.intro (show Region.lexB _ _ = true by kernel_rfl) ?_); conv => whnf)))
  refine HMake.rows L.length rfl hL ?_
  (conv => whnf)
  refine HLoop.intro [4] [8, 9, 10, 11, 14, 15, 16, 17, 18, 19, 20, 21, 12, 13, 4] (by kernel_rfl) (by kernel_rfl) (fun vs h' => ∃ i : Nat, vs = [I i] ∧ i ≤ L.length ∧ Ext h h' ∧ h'.length = h.length + 1 + i ∧ (∃ cs, h'[h.length]? = some (.own cs) ∧ cs.length = L.length ∧ ∀ j, j < i → cs[j]? = some (.sl (h.length + 1 + j) 0 (L.getD j []).length)) ∧ (∀ j, j < i → h'[h.length + 1 + j]? = some (.own ((L.getD j []).map ci)))) (fun vs _ => L.length - natAt vs 0) ⟨0, rfl, by omega, Ext.push _ _, by simp, ⟨_, get_new _ _, by simp, fun j hj => by omega⟩, fun j hj => by omega⟩ ?_
  rintro vs h' ⟨i, rfl, hi, he, hlen, ⟨cs, hc, hcl, hcs⟩, hin⟩
  have hx' := hx.ext he
  (conv => whnf)
  (repeat (first | (refine ⟨rfl, Ints.len (by assumption) ?_⟩; conv => whnf) | (refine ⟨rfl, Rows.len (by assumption) ?_⟩; conv => whnf) | (refine ⟨rfl, HLen.sl ?_⟩; conv => whnf) | (refine ⟨rfl, At.load (by assumption) ?_⟩; conv => whnf) | (refine HIf.yes ?_; conv => whnf) | (refine HIf.no ?_; conv => whnf) | (refine HIf.isT (by assumption) ?_; conv => whnf) | (refine HIf.isF (by assumption) ?_; conv => whnf) | (refine HIf.decT (by assumption) ?_; conv => whnf) | (refine HIf.decF (by assumption) ?_; conv => whnf) | (refine HIf.beqT (by assumption) ?_; conv => whnf) | (refine HIf.beqF (by assumption) ?_; conv => whnf) | (refine HIf.bneT (by assumption) ?_; conv => whnf) | (refine HIf.bneF (by assumption) ?_; conv => whnf) | (refine ⟨rfl, Ints.idxN (by assumption) (by omega) (fun p hp => ?_)⟩; conv => whnf) | (refine ⟨rfl, Rows.idxN (by assumption) (by omega) (fun p y hp hy => ?_)⟩; conv => whnf) | (refine And.intro (show Kd.isBool _ = true from rfl) ?_; conv => whnf) | (refine ⟨rfl, Ints.idx (by assumption) (by omega) (by omega) (fun p hp => ?_)⟩; conv => whnf) | (refine ⟨rfl, Rows.idx (by assumption) (by omega) (by omega) (fun p y hp hy => ?_)⟩; conv => whnf) | (refine HArith.fits (by omega) (by omega) ?_; conv => whnf) | (refine Or.inl (And.intro (show Region.lexB _ _ = true by kernel_rfl) ?_); conv => whnf)))
  refine HIf.dec (fun hlt => ?_) (fun hge => ?_)
  · have hle := len_le_tot (L := L) (i := i) (by omega)
    (conv => whnf)
    (repeat (first | (refine ⟨rfl, Ints.len (by assumption) ?_⟩; conv => whnf) | (refine ⟨rfl, Rows.len (by assumption) ?_⟩; conv => whnf) | (refine ⟨rfl, HLen.sl ?_⟩; conv => whnf) | (refine ⟨rfl, At.load (by assumption) ?_⟩; conv => whnf) | (refine HIf.yes ?_; conv => whnf) | (refine HIf.no ?_; conv => whnf) | (refine HIf.isT (by assumption) ?_; conv => whnf) | (refine HIf.isF (by assumption) ?_; conv => whnf) | (refine HIf.decT (by assumption) ?_; conv => whnf) | (refine HIf.decF (by assumption) ?_; conv => whnf) | (refine HIf.beqT (by assumption) ?_; conv => whnf) | (refine HIf.beqF (by assumption) ?_; conv => whnf) | (refine HIf.bneT (by assumption) ?_; conv => whnf) | (refine HIf.bneF (by assumption) ?_; conv => whnf) | (refine ⟨rfl, Ints.idxN (by assumption) (by omega) (fun p hp => ?_)⟩; conv => whnf) | (refine ⟨rfl, Rows.idxN (by assumption) (by omega) (fun p y hp hy => ?_)⟩; conv => whnf) | (refine And.intro (show Kd.isBool _ = true from rfl) ?_; conv => whnf) | (refine ⟨rfl, Ints.idx (by assumption) (by omega) (by omega) (fun p hp => ?_)⟩; conv => whnf) | (refine ⟨rfl, Rows.idx (by assumption) (by omega) (by omega) (fun p y hp hy => ?_)⟩; conv => whnf) | (refine HArith.fits (by omega) (by omega) ?_; conv => whnf) | (refine Or.inl (And.intro (show Region.lexB _ _ = true by kernel_rfl) ?_); conv => whnf)))
    refine (toIntS_any _ _ _ (by assumption) (by omega)).mono ?_
    rintro r h2 ⟨rfl, rfl⟩
    (conv => whnf)
    refine ⟨rfl, HIdx.sl (by omega) (by omega) ?_⟩
    (conv => whnf)
    have hc2 : (h' ++ [Row.own ((L.getD i []).map ci)])[h.length]? = some (.own cs) := (Ext.push h' _).row hc
    refine ⟨rfl, HStore.own hc2 (by omega) rfl ?_⟩
    (conv => whnf)
    (repeat (first | (refine ⟨rfl, Ints.len (by assumption) ?_⟩; conv => whnf) | (refine ⟨rfl, Rows.len (by assumption) ?_⟩; conv => whnf) | (refine ⟨rfl, HLen.sl ?_⟩; conv => whnf) | (refine ⟨rfl, At.load (by assumption) ?_⟩; conv => whnf) | (refine HIf.yes ?_; conv => whnf) | (refine HIf.no ?_; conv => whnf) | (refine HIf.isT (by assumption) ?_; conv => whnf) | (refine HIf.isF (by assumption) ?_; conv => whnf) | (refine HIf.decT (by assumption) ?_; conv => whnf) | (refine HIf.decF (by assumption) ?_; conv => whnf) | (refine HIf.beqT (by assumption) ?_; conv => whnf) | (refine HIf.beqF (by assumption) ?_; conv => whnf) | (refine HIf.bneT (by assumption) ?_; conv => whnf) | (refine HIf.bneF (by assumption) ?_; conv => whnf) | (refine ⟨rfl, Ints.idxN (by assumption) (by omega) (fun p hp => ?_)⟩; conv => whnf) | (refine ⟨rfl, Rows.idxN (by assumption) (by omega) (fun p y hp hy => ?_)⟩; conv => whnf) | (refine And.intro (show Kd.isBool _ = true from rfl) ?_; conv => whnf) | (refine ⟨rfl, Ints.idx (by assumption) (by omega) (by omega) (fun p hp => ?_)⟩; conv => whnf) | (refine ⟨rfl, Rows.idx (by assumption) (by omega) (by omega) (fun p y hp hy => ?_)⟩; conv => whnf) | (refine HArith.fits (by omega) (by omega) ?_; conv => whnf) | (refine Or.inl (And.intro (show Region.lexB _ _ = true by kernel_rfl) ?_); conv => whnf)))
    refine ⟨⟨i + 1, rfl, by omega, (he.pushed _).set (by omega) _, by simp; omega, ⟨_, List.getElem?_set_self (get_lt hc2), by simp [hcl], fun j hj => ?_⟩, fun j hj => ?_⟩, by show L.length - (i + 1) < L.length - i; omega⟩
    · have e0 : 0 + (i : Int).toNat = i := by omega
      rw [e0]
      by_cases hji : j = i
      · subst hji
        rw [List.getElem?_set_self (by omega), hlen]
      · rw [List.getElem?_set_ne (by omega)]
        exact hcs j (by omega)
    · rw [List.getElem?_set_ne (by omega)]
      by_cases hji : j = i
      · subst hji
        rw [← hlen]
        exact get_new _ _
      · exact (Ext.push h' _).row (hin j (by omega))
  · (conv => whnf)
    have e : i = L.length := by omega
    subst e
    refine ⟨_, rfl, he, h.length, fun j => h.length + 1 + j, rfl, by omega, by omega, fun j hj => ⟨by dsimp only; omega, by dsimp only; omega⟩, ⟨cs, hc, by omega, hcs⟩, fun j hj => ⟨[], ?_⟩, fun j hj => by omega, fun j j' h1 h2 => by omega⟩
    rw [List.append_nil]
    exact hin j hj

end Go.Proofs.YtgliajcgcbnemaaGreatDoor.Hx

namespace Go.Proofs.YtgliajcgcbnemaaGreatDoor.Hx
open Go.RowKit
variable {dm : Bool}

/-- A simple root; nothing where no valid matrix or no point is told. -/
def simpleRoot (c : List (List Int)) (i : Int) : List Int := if isCartan c && isPoint c i then (List.replicate c.length (0 : Int)).set i.toNat 1 else []

end Go.Proofs.YtgliajcgcbnemaaGreatDoor.Hx

namespace Go.Proofs.YtgliajcgcbnemaaGreatDoor.Hx
open Go.RowKit
variable {dm : Bool}

/-- A literal of one number, appended to what one has. -/
theorem HApp.snoc {hb h : Heap} {y : H0} {l : List Int} {v : Int} {K : HV → Heap → Prop} (E : Ext hb h) (H : Own hb.length h.length h y l) (hl : l.length < 2199023255552) (hK : ∀ h' y', Ext hb h' → Own hb.length h'.length h' y' (l ++ [v]) → K (.s y') h') :
    HApp (h ++ [.own [ci v]]) (.s y) (.s (.sl h.length 0 1)) K := by
  obtain ⟨r, t, rfl, h1, h2, hr⟩ := H
  refine ⟨[ci v], ?_, by simp [H0.one, Value.oneCell'], l.map ci ++ t, rfl, (Ext.push h _).row hr, by simp, Or.inl ⟨by simp; omega, ?_⟩⟩
  · have := Shows.own h.length 0 1 _ (get_new h (.own [ci v])) (by simp)
    simpa using this
  have e1 : l.length + [ci v].length = (l ++ [v]).length := by simp
  have e2 : (l.map ci ++ t).take l.length ++ [ci v] = (l ++ [v]).map ci := by rw [List.take_append_of_le_length (by simp), List.take_of_length_le (by simp)]; simp
  rw [e1, e2]
  refine hK _ _ (((E.pushed _).set h1 _).pushed _) ⟨_, [], rfl, by have := E.1; simp; omega, by simp, ?_⟩
  rw [List.append_nil]
  simp

theorem HLit.one {z : Value} {v : Int} {h : Heap} {K : HV → Heap → Prop} (hK : K (.s (.sl h.length 0 1)) (h ++ [.own [ci v]])) : HLit z 1 (some [ci v]) h K := ⟨[ci v], rfl, rfl, by omega, by simp [H0.one, Value.oneCell'], hK⟩

theorem Fresh.of {h h' : Heap} {x : H0} {l : List Int} (E : Ext h h') (H : Own h.length h'.length h' x l) : Fresh h h' x l := by
  obtain ⟨r, t, g1, g2, _, g4⟩ := H
  exact ⟨E, r, t, g1, g2, g4⟩

/-- The sum of the first products. -/
def dotTo (a b : List Int) : Nat → Int
  | 0 => 0
  | k + 1 => w64 (dotTo a b k + w64 (a.getD k 0 * b.getD k 0))

def mirror (c : List (List Int)) (i : Nat) (r : List Int) : List Int := r.set i (w64 (r.getD i 0 - dotTo (c.getD i []) r r.length))

end Go.Proofs.YtgliajcgcbnemaaGreatDoor.Hx

namespace Go.Proofs.YtgliajcgcbnemaaGreatDoor.Hx
open Go.RowKit
variable {dm : Bool}

def reflectRoot (c : List (List Int)) (i : Int) (r : List Int) : List Int := if isCartan c && decide (r.length = c.length) && isPoint c i then mirror c i.toNat r else r

/-- A word applied to a root, from its end. -/
def actR (c : List (List Int)) : List Int → List Int → List Int
  | [], r => r
  | i :: w, r => mirror c i.toNat (actR c w r)

def actOnRoot (c : List (List Int)) (w r : List Int) : List Int := if isWord c w && decide (r.length = c.length) then actR c w r else r

def wrow (c : List (List Int)) (r : List Int) (k : Nat) : Int := dotTo (c.getD k []) r c.length
def weightOf (c : List (List Int)) (r : List Int) : List Int := if isCartan c && decide (r.length = c.length) then (List.range c.length).map (wrow c r) else []

end Go.Proofs.YtgliajcgcbnemaaGreatDoor.Hx

namespace Go.Proofs.YtgliajcgcbnemaaGreatDoor.Hx
open Go.RowKit
variable {dm : Bool}

theorem Own.none (h : Heap) : Own h.length (h ++ [Row.own []]).length (h ++ [Row.own []]) (.sl h.length 0 0) [] := ⟨h.length, [], rfl, Nat.le_refl _, by simp, get_new _ _⟩
end Go.Proofs.YtgliajcgcbnemaaGreatDoor.Hx

namespace Go.Proofs.YtgliajcgcbnemaaGreatDoor.Hx
open Go.RowKit
variable {dm : Bool}

/-- What a letter of a word is. -/
theorem letter {c : List (List Int)} {w : List Int} (h : lettersOk c w = true) {k : Nat} (hk : k < w.length) : ∃ i : Nat, w.getD k 0 = i ∧ i < c.length := by
  have := letters_get h hk
  exact ⟨(w.getD k 0).toNat, by omega, by omega⟩

def intAt (vs : List HV) (k : Nat) : Int := match vs[k]? with
  | some (.s (.pl (.int _ i))) => i
  | _ => 0


end Go.Proofs.YtgliajcgcbnemaaGreatDoor.Hx

namespace Go.Proofs.YtgliajcgcbnemaaGreatDoor.Hx
open Go.RowKit
variable {dm : Bool}

def reflNew (c : List (List Int)) (i : Nat) (v : List Int) (k : Nat) : Int := w64 (v.getD k 0 - w64 (v.getD i 0 * ent c k i))
/-- The first k numbers reflected, the others not. -/
def reflTo (c : List (List Int)) (i : Nat) (v : List Int) (k : Nat) : List Int := (List.range v.length).map fun j => if j < k then reflNew c i v j else v.getD j 0
def reflW (c : List (List Int)) (i : Nat) (v : List Int) : List Int := (List.range v.length).map (reflNew c i v)

theorem reflW_length (c : List (List Int)) (i : Nat) (v : List Int) : (reflW c i v).length = v.length := by simp [reflW]
def actW (c : List (List Int)) : List Int → List Int → List Int
  | [], v => v
  | i :: w, v => reflW c i.toNat (actW c w v)

theorem actW_length (c : List (List Int)) : ∀ (w v : List Int), (actW c w v).length = v.length
  | [], _ => rfl
  | i :: w, v => by rw [actW, reflW_length, actW_length c w v]

def imageOf (c : List (List Int)) (w : List Int) : List Int := actW c w (List.replicate c.length 1)
theorem imageOf_length (c : List (List Int)) (w : List Int) : (imageOf c w).length = c.length := by rw [imageOf, actW_length, List.length_replicate]

theorem ent_eq (c : List (List Int)) (k i : Nat) : (c.getD k []).getD i 0 = ent c k i := rfl
end Go.Proofs.YtgliajcgcbnemaaGreatDoor.Hx

namespace Go.Proofs.YtgliajcgcbnemaaGreatDoor.Hx
open Go.RowKit
variable {dm : Bool}

end Go.Proofs.YtgliajcgcbnemaaGreatDoor.Hx

namespace Go.Proofs.YtgliajcgcbnemaaGreatDoor.Hx
open Go.RowKit
variable {dm : Bool}

end Go.Proofs.YtgliajcgcbnemaaGreatDoor.Hx

namespace Go.Proofs.YtgliajcgcbnemaaGreatDoor.Hx
open Go.RowKit
variable {dm : Bool}

def areSame (c : List (List Int)) (a b : List Int) : Bool := isWord c a && isWord c b && decide (imageOf c a = imageOf c b)

end Go.Proofs.YtgliajcgcbnemaaGreatDoor.Hx

namespace Go.Proofs.YtgliajcgcbnemaaGreatDoor.Hx
open Go.RowKit
variable {dm : Bool}

def descs (v : List Int) (k : Nat) : List Int := ((List.range k).filter fun j => decide (v.getD j 0 < 0)).map fun (j : Nat) => (j : Int)

def leftDescents (c : List (List Int)) (w : List Int) : List Int := if isWord c w then descs (imageOf c w) c.length else []
end Go.Proofs.YtgliajcgcbnemaaGreatDoor.Hx

namespace Go.Proofs.YtgliajcgcbnemaaGreatDoor.Hx
open Go.RowKit

/-- A slice of ints in row r, one's own. -/
def OwnR (r : Nat) (h : Heap) (x : H0) (l : List Int) : Prop := ∃ t, x = .sl r 0 l.length ∧ h[r]? = some (.own (l.map ci ++ t))

/-- All rows but r are as they were. -/
def But (r : Nat) (h h' : Heap) : Prop := h.length ≤ h'.length ∧ ∀ q, q < h.length → q ≠ r → h'[q]? = h[q]?

theorem OwnR.ints {r : Nat} {h : Heap} {x : H0} {l : List Int} (H : OwnR r h x l) : Ints h x l := by
  obtain ⟨t, rfl, hr⟩ := H
  exact Ints.ofOwn hr
theorem OwnR.lt {r : Nat} {h : Heap} {x : H0} {l : List Int} (H : OwnR r h x l) : r < h.length := by
  obtain ⟨t, rfl, hr⟩ := H
  exact get_lt hr
theorem OwnR.own {b r : Nat} {h : Heap} {x : H0} {l : List Int} (H : OwnR r h x l) (hb : b ≤ r) : Own b h.length h x l := by
  have := H.lt
  obtain ⟨t, rfl, hr⟩ := H
  exact ⟨r, t, rfl, hb, this, hr⟩
theorem Fresh.row {h h' : Heap} {x : H0} {l : List Int} (H : Fresh h h' x l) : ∃ r, h.length ≤ r ∧ OwnR r h' x l := by
  obtain ⟨_, r, t, g1, g2, hr⟩ := H
  exact ⟨r, g2, t, g1, hr⟩
theorem Fresh.ofRow {h h' : Heap} {x : H0} {l : List Int} {r : Nat} (E : Ext h h') (H : OwnR r h' x l) (hr : h.length ≤ r) : Fresh h h' x l := by
  obtain ⟨t, g1, g2⟩ := H
  exact ⟨E, r, t, g1, hr, g2⟩
theorem OwnR.ext {r : Nat} {h h' : Heap} {x : H0} {l : List Int} (H : OwnR r h x l) (k : Ext h h') : OwnR r h' x l := by
  obtain ⟨t, g1, hr⟩ := H
  exact ⟨t, g1, k.row hr⟩
theorem OwnR.but {r q : Nat} {h h' : Heap} {x : H0} {l : List Int} (H : OwnR r h x l) (k : But q h h') (n : r ≠ q) : OwnR r h' x l := by
  have := H.lt
  obtain ⟨t, g1, hr⟩ := H
  exact ⟨t, g1, by rw [k.2 r this n]; exact hr⟩
theorem Ext.but {hb h h' : Heap} {r : Nat} (E : Ext hb h) (k : But r h h') (hr : hb.length ≤ r) : Ext hb h' :=
  ⟨Nat.le_trans E.1 k.1, fun q hq => by rw [k.2 q (Nat.lt_of_lt_of_le hq E.1) (by omega)]; exact E.2 q hq⟩
theorem But.ext {h h' h'' : Heap} {r : Nat} (E : Ext h h') (k : But r h' h'') : But r h h'' :=
  ⟨Nat.le_trans E.1 k.1, fun q hq hn => by rw [k.2 q (Nat.lt_of_lt_of_le hq E.1) hn]; exact E.2 q hq⟩
theorem OwnR.push (h : Heap) (l : List Int) : OwnR h.length (h ++ [.own (l.map ci)]) (.sl h.length 0 l.length) l := ⟨[], rfl, by rw [List.append_nil]; exact get_new _ _⟩

/-- Ints, appended to what one has. -/
theorem HApp.moreR {r : Nat} {h : Heap} {x y : H0} {l m : List Int} {K : HV → Heap → Prop} (H : OwnR r h y l) (hx : Ints h x m) (hl : l.length + m.length ≤ 2199023255552)
    (hK : ∀ h' r' y', But r h h' → h.length ≤ r' → OwnR r' h' y' (l ++ m) → K (.s y') h') : HApp h (.s y) (.s x) K := by
  obtain ⟨t, rfl, hr⟩ := H
  refine ⟨m.map ci, hx, ci_one m, l.map ci ++ t, rfl, hr, by simp, Or.inl ⟨by simpa using hl, ?_⟩⟩
  have e1 : l.length + (m.map ci).length = (l ++ m).length := by simp
  have e2 : (l.map ci ++ t).take l.length ++ m.map ci = (l ++ m).map ci := by rw [List.take_append_of_le_length (by simp), List.take_of_length_le (by simp)]; simp
  rw [e1, e2]
  refine hK _ h.length _ ⟨by simp, fun q hq hn => ?_⟩ (Nat.le_refl _) ⟨[], rfl, ?_⟩
  · rw [List.getElem?_append_left (by simpa using hq), List.getElem?_set_ne (Ne.symm hn)]
  · rw [List.getElem?_append_right (by simp)]
    simp

/-- A literal of numbers, appended to what one has. -/
theorem HApp.litR {r : Nat} {h : Heap} {y : H0} {l : List Int} (m : List Int) {K : HV → Heap → Prop} (H : OwnR r h y l) (hl : l.length + m.length ≤ 2199023255552)
    (hK : ∀ h' r' y', But r h h' → h.length ≤ r' → OwnR r' h' y' (l ++ m) → K (.s y') h') : HApp (h ++ [.own (m.map ci)]) (.s y) (.s (.sl h.length 0 m.length)) K :=
  HApp.moreR (H.ext (Ext.push _ _)) (OwnR.push h m).ints hl (fun h' r' y' k k2 k3 => hK h' r' y' (But.ext (Ext.push _ _) k) (by simp at k2; omega) k3)

/-- A slice of ints, appended to a slice of such slices. -/
theorem HApp.snocM {hb h h2 : Heap} {z y : H0} {L : List (List Int)} {l : List Int} {K : HV → Heap → Prop} (E : Ext hb h) (O : OwnM hb.length h.length h z L) (E2 : Ext h h2) (F : Own h.length h2.length h2 y l) (hl : L.length < 2199023255552)
    (hK : ∀ h' z', Ext hb h' → OwnM hb.length h'.length h' z' (L ++ [l]) → K (.s z') h') : HApp (h2 ++ [.own [y]]) (.s z) (.s (.sl h2.length 0 1)) K := by
  have l1 := E.1
  have l2 := E2.1
  obtain ⟨r, ρ, rfl, hr1, hr2, hρ, m⟩ := O
  obtain ⟨q, t, rfl, hq1, hq2, hq⟩ := F
  obtain ⟨cs, ho, hcl, hoc⟩ := m.outer
  refine ⟨[.sl q 0 l.length], ?_, by simp [H0.one], cs, rfl, (Ext.push h2 _).row (E2.row ho), hcl, Or.inl ⟨by simp; omega, ?_⟩⟩
  · have := Shows.own h2.length 0 1 _ (get_new h2 (.own [.sl q 0 l.length])) (by simp)
    simpa using this
  have e1 : L.length + [H0.sl q 0 l.length].length = (L ++ [l]).length := by simp
  rw [e1]
  have old : ∀ p, p < h2.length → p ≠ r → ((h2 ++ [Row.own [.sl q 0 l.length]]).set r .gone ++ [Row.own (cs.take L.length ++ [.sl q 0 l.length])])[p]? = h2[p]? := fun p hp hn => by
    rw [List.getElem?_append_left (by simp; omega), List.getElem?_set_ne (Ne.symm hn), List.getElem?_append_left hp]
  have gd1 : ∀ i, i < L.length → (L ++ [l]).getD i [] = L.getD i [] := fun i hi => by
    simp only [List.getD]
    rw [List.getElem?_append_left hi]
  have gd2 : (L ++ [l]).getD L.length [] = l := by simp [List.getD]
  have hE : Ext hb ((h2 ++ [Row.own [.sl q 0 l.length]]).set r .gone ++ [Row.own (cs.take L.length ++ [.sl q 0 l.length])]) := ((((E.trans E2).pushed _).set hr1 _).pushed _)
  have hlen : ((h2 ++ [Row.own [.sl q 0 l.length]]).set r .gone ++ [Row.own (cs.take L.length ++ [.sl q 0 l.length])]).length = h2.length + 2 := by simp
  refine hK _ _ hE ⟨h2.length + 1, fun i => if i < L.length then ρ i else q, by simp, by omega, by rw [hlen]; omega, fun i hi => ?_, ⟨cs.take L.length ++ [.sl q 0 l.length], ?_, by simp; omega, fun i hi => ?_⟩, fun i hi => ?_, fun i hi => ?_, fun i j hij hj => ?_⟩
  · rw [hlen]
    by_cases hi2 : i < L.length
    · have := hρ i hi2
      simp only [hi2, if_true]
      omega
    · simp only [hi2, if_false]
      omega
  · rw [List.getElem?_append_right (by simp)]
    simp
  · by_cases hi2 : i < L.length
    · rw [List.getElem?_append_left (by simp; omega), List.getElem?_take_of_lt hi2, hoc i hi2, gd1 i hi2]
      simp [hi2]
    · have e : i = L.length := by simp at hi; omega
      subst e
      rw [gd2, List.getElem?_append_right (by simp; omega)]
      have : L.length - (cs.take L.length).length = 0 := by simp; omega
      rw [this]
      simp
  · by_cases hi2 : i < L.length
    · obtain ⟨t2, ht2⟩ := m.inner i hi2
      have hb2 := hρ i hi2
      have hne := m.ne i hi2
      refine ⟨t2, ?_⟩
      rw [gd1 i hi2, if_pos hi2, old _ (by omega) hne]
      exact E2.row ht2
    · have e : i = L.length := by simp at hi; omega
      subst e
      refine ⟨t, ?_⟩
      rw [gd2, if_neg (by omega), old _ (by omega) (by omega)]
      exact hq
  · by_cases hi2 : i < L.length
    · have := hρ i hi2
      simp only [hi2, if_true]
      omega
    · simp only [hi2, if_false]
      omega
  · have hj' : j ≤ L.length := by simp at hj; omega
    have hi2 : i < L.length := by omega
    have h1 := hρ i hi2
    by_cases hj2 : j < L.length
    · simp only [hi2, hj2, if_true]
      exact m.inj i j hij hj2
    · simp only [hi2, hj2, if_true, if_false]
      omega

/-- Nothing yet: a slice of slices without an entry. -/
theorem OwnM.none (h : Heap) : OwnM h.length (h ++ [Row.own []]).length (h ++ [Row.own []]) (.sl h.length 0 0) [] :=
  ⟨h.length, fun _ => 0, rfl, Nat.le_refl _, by simp, fun i hi => by simp at hi, ⟨[], get_new _ _, Nat.le_refl _, fun i hi => by simp at hi⟩, fun i hi => by simp at hi, fun i hi => by simp at hi, fun i j _ hj => by simp at hj⟩

theorem OwnM.widen {b e e' : Nat} {h : Heap} {x : H0} {L : List (List Int)} (H : OwnM b e h x L) (k : e ≤ e') : OwnM b e' h x L := by
  obtain ⟨r, ρ, g1, g2, g3, g4, m⟩ := H
  exact ⟨r, ρ, g1, g2, by omega, fun i hi => by have := g4 i hi; omega, m⟩

theorem HLit.row {z : Value} {y : H0} {h : Heap} {K : HV → Heap → Prop} (h1 : y.one = true) (hK : K (.s (.sl h.length 0 1)) (h ++ [.own [y]])) : HLit z 1 (some [y]) h K := ⟨[y], rfl, rfl, by omega, by simpa using h1, hK⟩
theorem Own.one {b e : Nat} {h : Heap} {x : H0} {l : List Int} (H : Own b e h x l) : x.one = true := by
  obtain ⟨r, t, rfl, _⟩ := H
  rfl

/-- A part of a slice of ints. -/
theorem Ints.slice {h : Heap} {x : H0} {l : List Int} (H : Ints h x l) {lo hi : Option HV} {K : HV → Prop} (a u : Nat) (hlo : lo = none ∧ a = 0 ∨ lo = some (I a)) (hhi : hi = none ∧ u = l.length ∨ hi = some (I u)) (h1 : a ≤ u) (h2 : u ≤ l.length)
    (hK : ∀ y, Ints h y ((l.take u).drop a) → K (.s y)) : HSlice h (.s x) lo hi K := by
  have e1 : lo = none ∧ a = 0 ∨ ∃ k, lo = some (.s (.pl (.int k (a : Int)))) := hlo.imp id fun e => ⟨_, e⟩
  have hlen : l.length = (l.map ci).length := by simp
  have main : ∀ n, n = l.length → hi = none ∧ u = n ∨ ∃ k, hi = some (.s (.pl (.int k (u : Int)))) := fun n hn => by subst hn; exact hhi.imp id fun e => ⟨_, e⟩
  have key : ((l.map ci).take u).drop a = ((l.take u).drop a).map ci := by simp
  unfold Ints at H
  generalize hL : l.map ci = L at H hlen key
  cases H with
  | nils b c =>
    have e : l = [] := by simpa using hL
    subst e
    refine ⟨0, a, u, rfl, e1, main 0 rfl, h1, Or.inl h2, hK _ ?_⟩
    show Shows _ _ _
    simp
    exact .nils b c
  | ro r off len cs hr hl =>
    have hll : l.length = len := by simp at hlen; omega
    refine ⟨len, a, u, rfl, e1, main len hll.symm, h1, Or.inl (by omega), hK _ ?_⟩
    show Shows _ _ _
    rw [← key]
    have := Shows.ro (h := h) r (off + a) (u - a) cs hr (by omega)
    rw [List.take_take, Nat.min_eq_left (by omega), List.drop_take, List.drop_drop]
    exact this
  | own r off len cs hr hl =>
    have hll : l.length = len := by simp at hlen; omega
    refine ⟨len, a, u, rfl, e1, main len hll.symm, h1, Or.inl (by omega), hK _ ?_⟩
    show Shows _ _ _
    rw [← key]
    have := Shows.own (h := h) r (off + a) (u - a) cs hr (by omega)
    rw [List.take_take, Nat.min_eq_left (by omega), List.drop_take, List.drop_drop]
    exact this

theorem Ints.take {h : Heap} {x : H0} {l : List Int} (H : Ints h x l) {K : HV → Prop} (u : Nat) (h2 : u ≤ l.length)
    (hK : ∀ y, Ints h y (l.take u) → K (.s y)) : HSlice h (.s x) none (some (I u)) K := H.slice 0 u (Or.inl ⟨rfl, rfl⟩) (Or.inr rfl) (by omega) h2 (by simpa using hK)

end Go.Proofs.YtgliajcgcbnemaaGreatDoor.Hx

namespace Go.Proofs.YtgliajcgcbnemaaGreatDoor.Hx
open Go.RowKit
variable {dm : Bool}

theorem HApp.snocR {r : Nat} {h : Heap} {y : H0} {l : List Int} {v : Int} {K : HV → Heap → Prop} (H : OwnR r h y l) (hl : l.length < 2199023255552)
    (hK : ∀ h' r' y', But r h h' → h.length ≤ r' → OwnR r' h' y' (l ++ [v]) → K (.s y') h') : HApp (h ++ [.own [ci v]]) (.s y) (.s (.sl h.length 0 1)) K :=
  HApp.litR [v] H (by simp; omega) hK

/-- A list without its entry at a place, if there is one. -/
def del (l : List Int) (n : Int) : List Int := if 0 ≤ n then l.eraseIdx n.toNat else l

theorem del_ne (l : List Int) (x n : Int) (h : (l.length : Int) ≠ n) : del (l ++ [x]) n = del l n ++ [x] := by
  unfold del
  split
  · by_cases h2 : n.toNat < l.length
    · rw [List.eraseIdx_append_of_lt_length h2]
    · rw [List.eraseIdx_of_length_le (by simp; omega), List.eraseIdx_of_length_le (by omega)]
  · rfl
theorem del_eq (l : List Int) (x : Int) : del (l ++ [x]) l.length = del l l.length := by
  unfold del
  have e : ((l.length : Nat) : Int).toNat = l.length := by omega
  rw [if_pos (by omega), if_pos (by omega), e, List.eraseIdx_append_of_length_le (Nat.le_refl _), List.eraseIdx_of_length_le (l := l) (Nat.le_refl _)]
  simp
theorem del_len (l : List Int) (n : Int) : (del l n).length ≤ l.length := by
  unfold del
  split
  · rw [List.length_eraseIdx]
    split <;> omega
  · exact Nat.le_refl _
theorem del_at (l : List Int) {i : Nat} : del l (i : Int) = l.take i ++ l.drop (i + 1) := by
  unfold del
  rw [if_pos (by omega), List.eraseIdx_eq_take_drop_succ]
  rfl
theorem del_none (n : Int) : del [] n = [] := by
  unfold del
  split
  · rfl
  · rfl
theorem take_snoc (w : List Int) {k : Nat} (h : k < w.length) : w.take (k + 1) = w.take k ++ [w.getD k 0] := by
  rw [List.take_succ_eq_append_getElem h]
  simp [List.getD, h]
/-- The first i and the last i numbers have changed places. -/
def revTo (l : List Int) (i : Nat) : List Int := (List.range l.length).map fun k => if k < i ∨ l.length ≤ k + i then l.getD (l.length - 1 - k) 0 else l.getD k 0

end Go.Proofs.YtgliajcgcbnemaaGreatDoor.Hx

namespace Go.Proofs.YtgliajcgcbnemaaGreatDoor.Hx
open Go.RowKit
variable {dm : Bool}

/-- Rows that are given up say nothing. -/
theorem Rep.soft {B0 : Nat} {φ : Plan} {h h' : Heap} {w : World} (R : Rep B0 φ h w) (hl : h'.length = h.length) (h1 : ∀ (r : Nat) (cs : List H0), h'[r]? = some (Row.ro cs) → h[r]? = some (Row.ro cs)) (h2 : ∀ (r : Nat) (cs : List H0), h'[r]? = some (Row.own cs) → h[r]? = some (Row.own cs))
    (h3 : ∀ (r : Nat) (so : Bool) (ks : List Key), h'[r]? = some (Row.keys so ks) → h[r]? = some (Row.keys so ks)) : Rep B0 φ h' w :=
  ⟨R.len.trans hl.symm, R.base, fun r cs p a b => R.ro r cs p (h1 r cs a) b, fun r cs p a b => R.own r cs p (h2 r cs a) b, fun r r' cs cs' p p' n a a' b b' => R.apart r r' cs cs' p p' n (h2 _ _ a) (h2 _ _ a') b b',
    fun r so ks p a b => R.keys r so ks p (h3 _ _ _ a) b, fun r r' so so' ks ks' p p' n a a' b b' => R.apartK r r' so so' ks ks' p p' n (h3 _ _ _ a) (h3 _ _ _ a') b b', R.tab⟩

def softRow : Row → Row
  | .ro _ => .gone
  | x => x

theorem HArith.to {e e' : Int} {K : HV → Prop} (h : e = e') (h1 : -9223372036854775808 ≤ e') (h2 : e' ≤ 9223372036854775807) (hK : K (I e')) : HArith .i64 e K := by
  subst h
  exact HArith.fits h1 h2 hK

def indexOf (L : List (List Int)) (w : List Int) : Int := if L.findIdx (fun l => decide (l = w)) < L.length then (L.findIdx (fun l => decide (l = w)) : Nat) else -1

def commute (c : List (List Int)) (a b : List Int) : Bool := isWord c a && isWord c b && decide (imageOf c (a ++ b) = imageOf c (b ++ a))

end Go.Proofs.YtgliajcgcbnemaaGreatDoor.Hx

namespace Go.Proofs.YtgliajcgcbnemaaGreatDoor.Hx
open Go.RowKit
variable {dm : Bool}

def rootAt (c : List (List Int)) (w : List Int) (k : Nat) : List Int := actR c (w.take k) ((List.replicate c.length (0 : Int)).set (w.getD k 0).toNat 1)
def rootsTo (c : List (List Int)) (w : List Int) (k : Nat) : List (List Int) := (List.range k).map (rootAt c w)
def rootSeq (c : List (List Int)) (w : List Int) : List (List Int) := if isWord c w then rootsTo c w w.length else []

/-- The letters numbers j and i, left out. -/
def del2 (w : List Int) (i j : Nat) : List Int := del (del w j) i
def hit (c : List (List Int)) (w : List Int) (i j : Nat) : Bool := decide (imageOf c (del2 w i j) = imageOf c w)
def firstJ (c : List (List Int)) (w : List Int) (i : Nat) : Option Nat := (List.range w.length).find? fun j => decide (i < j) && hit c w i j
def firstI (c : List (List Int)) (w : List Int) : Option Nat := (List.range w.length).find? fun i => (firstJ c w i).isSome
def delPair (c : List (List Int)) (w : List Int) : Int × Int × Bool :=
  if isWord c w then
    match firstI c w with
    | some i => match firstJ c w i with
      | some j => (i, j, true)
      | none => (-1, -1, false)
    | none => (-1, -1, false)
  else (-1, -1, false)

/-- A pair of results as a tuple. -/
abbrev T3 (p : Int × Int × Bool) : HV := .tup [.pl (.int .i64 p.1), .pl (.int .i64 p.2.1), .pl (.bool p.2.2)]


end Go.Proofs.YtgliajcgcbnemaaGreatDoor.Hx
