/-
  The contracts of the laws' own helpers over slices of slices of ints: sizes, copies, comparisons, marks; and what is made anew, with bounds on where it lies.
  The contracts of the laws' own helpers that copy and mark slices of slices of ints.
  Contracts of SimpleRoot and of the sums over rows and roots, of the program and of the reference.
-/
import Derived.Test.YtnooeaemjnmkdaaZ09
namespace Go.Proofs.Ytnooeaemjnmkdaa.Hx
open Go.RowKit
variable {dm : Bool}

/-- Rows from number a to number b (b not) may have changed, no other. -/
def Mid (h h' : Heap) (a b : Nat) : Prop := h'.length = h.length ∧ ∀ q, (q < a ∨ b ≤ q) → h'[q]? = h[q]?

/-- A slice of ints in a row of its own, of number between b and e. -/
def Own (b e : Nat) (h : Heap) (x : H0) (l : List Int) : Prop := ∃ r t, x = .sl r 0 l.length ∧ b ≤ r ∧ r < e ∧ h[r]? = some (.own (l.map ci ++ t))

theorem Fresh.own {h h' : Heap} {x : H0} {l : List Int} (H : Fresh h h' x l) : Own h.length h'.length h' x l := by
  obtain ⟨_, r, t, e, hr, hg⟩ := H
  exact ⟨r, t, e, hr, get_lt hg, hg⟩

theorem Own.ints {b e : Nat} {h : Heap} {x : H0} {l : List Int} (H : Own b e h x l) : Ints h x l := by
  obtain ⟨r, t, rfl, _, _, hr⟩ := H
  exact Ints.ofOwn hr

theorem Own.ext {b e : Nat} {h h' : Heap} {x : H0} {l : List Int} (H : Own b e h x l) (k : Ext h h') : Own b e h' x l := by
  obtain ⟨r, t, g1, g2, g3, hr⟩ := H
  exact ⟨r, t, g1, g2, g3, k.row hr⟩

theorem Own.mid {b e a c : Nat} {h h' : Heap} {x : H0} {l : List Int} (H : Own b e h x l) (k : Mid h h' a c) (o : e ≤ a ∨ c ≤ b) : Own b e h' x l := by
  obtain ⟨r, t, g1, g2, g3, hr⟩ := H
  exact ⟨r, t, g1, g2, g3, by rw [k.2 r (by omega)]; exact hr⟩

theorem Ext.mid {h h' h'' : Heap} {a c : Nat} (e : Ext h h') (k : Mid h' h'' a c) (o : h.length ≤ a) : Ext h h'' :=
  ⟨by rw [k.1]; exact e.1, fun r hr => by rw [k.2 r (by omega)]; exact e.2 r hr⟩

theorem Mid.refl (h : Heap) (a b : Nat) : Mid h h a b := ⟨rfl, fun _ _ => rfl⟩
theorem Mid.trans {h h' h'' : Heap} {a b : Nat} (m : Mid h h' a b) (k : Mid h' h'' a b) : Mid h h'' a b := ⟨by rw [k.1, m.1], fun q hq => by rw [k.2 q hq, m.2 q hq]⟩
theorem Mid.set (h : Heap) {a b r : Nat} (h1 : a ≤ r) (h2 : r < b) (x : Row) : Mid h (h.set r x) a b := ⟨by simp, fun q hq => by rw [List.getElem?_set_ne (by omega)]⟩

/-- A slice in row r whose parts are the slices in the rows that ρ names. -/
structure MatAt (h : Heap) (r : Nat) (ρ : Nat → Nat) (L : List (List Int)) : Prop where
  outer : ∃ cs, h[r]? = some (.own cs) ∧ L.length ≤ cs.length ∧ ∀ i, i < L.length → cs[i]? = some (.sl (ρ i) 0 (L.getD i []).length)
  inner : ∀ i, i < L.length → ∃ t, h[ρ i]? = some (.own ((L.getD i []).map ci ++ t))
  ne : ∀ i, i < L.length → ρ i ≠ r
  inj : ∀ i j, i < j → j < L.length → ρ i ≠ ρ j

theorem MatAt.rows {h : Heap} {r : Nat} {ρ : Nat → Nat} {L : List (List Int)} (H : MatAt h r ρ L) : Rows h (.sl r 0 L.length) L := by
  obtain ⟨cs, h1, h2, h3⟩ := H.outer
  refine ⟨(cs.drop 0).take L.length, Shows.own r 0 L.length cs h1 (by omega), by simp; omega, fun i y l hy hl => ?_⟩
  have hi : i < L.length := (List.getElem?_eq_some_iff.1 hl).1
  rw [List.drop_zero, List.getElem?_take_of_lt hi, h3 i hi] at hy
  cases hy
  obtain ⟨t, ht⟩ := H.inner i hi
  have e : L.getD i [] = l := by simp [List.getD, hl]
  rw [e] at ht ⊢
  exact Ints.ofOwn ht

def OwnM (b e : Nat) (h : Heap) (x : H0) (L : List (List Int)) : Prop := ∃ r ρ, x = .sl r 0 L.length ∧ b ≤ r ∧ r < e ∧ (∀ i, i < L.length → b ≤ ρ i ∧ ρ i < e) ∧ MatAt h r ρ L

theorem OwnM.rows {b e : Nat} {h : Heap} {x : H0} {L : List (List Int)} (H : OwnM b e h x L) : Rows h x L := by
  obtain ⟨r, ρ, rfl, _, _, _, m⟩ := H
  exact m.rows

theorem MatAt.move {h h' : Heap} {r : Nat} {ρ : Nat → Nat} {L : List (List Int)} (H : MatAt h r ρ L) (k : h'[r]? = h[r]?) (k2 : ∀ i, i < L.length → h'[ρ i]? = h[ρ i]?) : MatAt h' r ρ L := by
  obtain ⟨o, n, e, j⟩ := H
  refine ⟨?_, fun i hi => ?_, e, j⟩
  · rw [k]
    exact o
  · rw [k2 i hi]
    exact n i hi

theorem OwnM.ext {b e : Nat} {h h' : Heap} {x : H0} {L : List (List Int)} (H : OwnM b e h x L) (k : Ext h h') : OwnM b e h' x L := by
  obtain ⟨r, ρ, g1, g2, g3, g4, m⟩ := H
  refine ⟨r, ρ, g1, g2, g3, g4, m.move ?_ (fun i hi => ?_)⟩
  · obtain ⟨cs, h1, _⟩ := m.outer
    exact k.2 r (get_lt h1)
  · obtain ⟨t, h1⟩ := m.inner i hi
    exact k.2 _ (get_lt h1)

theorem OwnM.mid {b e a c : Nat} {h h' : Heap} {x : H0} {L : List (List Int)} (H : OwnM b e h x L) (k : Mid h h' a c) (o : e ≤ a ∨ c ≤ b) : OwnM b e h' x L := by
  obtain ⟨r, ρ, g1, g2, g3, g4, m⟩ := H
  exact ⟨r, ρ, g1, g2, g3, g4, m.move (k.2 r (by omega)) (fun i hi => k.2 _ (by have := g4 i hi; omega))⟩

/-- How many numbers a list of lists holds. -/
def tot : List (List Int) → Nat
  | [] => 0
  | l :: ls => l.length + tot ls

theorem tot_succ : ∀ (L : List (List Int)) (i : Nat), i < L.length → tot (L.take (i + 1)) = tot (L.take i) + (L.getD i []).length
  | [], i, h => by simp at h
  | l :: ls, 0, _ => by simp [tot]
  | l :: ls, i + 1, h => by
    have := tot_succ ls i (by simpa using h)
    simp only [List.take_succ_cons, tot, List.getD_cons_succ]
    omega

theorem tot_take_le : ∀ (L : List (List Int)) (i : Nat), tot (L.take i) ≤ tot L
  | [], i => by simp
  | l :: ls, 0 => by simp [tot]
  | l :: ls, i + 1 => by
    have := tot_take_le ls i
    simp only [List.take_succ_cons, tot]
    omega

theorem len_le_tot {L : List (List Int)} {i : Nat} (h : i < L.length) : tot (L.take i) + (L.getD i []).length ≤ tot L := by
  rw [← tot_succ L i h]
  exact tot_take_le L _

theorem tot_none : tot [] = 0 := rfl


theorem szIntS_any (h : Heap) (x : H0) (l : List Int) (n : Nat) (hx : Ints h x l) (hn : n ≤ 2199023255552) (hl : l.length ≤ 9223372036854775807) :
    HCalls dm Try.prog 27 [.s x, I n] h (fun r h' => h' = h ∧ ((∃ k : Nat, r = I k ∧ l.length + k = n) ∨ r = I (-1))) := by
  refine calls_of_hFun (m := 0) kd_ok mixed Try.func27 rfl (by kernel_rfl) rfl rfl (of_decide_eq_true rfl) ?_; unfold hFun; (conv => whnf)
  (repeat (first | (refine ⟨rfl, Ints.len (by assumption) ?_⟩; conv => whnf) | (refine ⟨rfl, Rows.len (by assumption) ?_⟩; conv => whnf) | (refine ⟨rfl, HLen.sl ?_⟩; conv => whnf) | (refine ⟨rfl, At.load (by assumption) ?_⟩; conv => whnf) | (refine HIf.yes ?_; conv => whnf) | (refine HIf.no ?_; conv => whnf) | (refine HIf.isT (by assumption) ?_; conv => whnf) | (refine HIf.isF (by assumption) ?_; conv => whnf) | (refine HIf.decT (by assumption) ?_; conv => whnf) | (refine HIf.decF (by assumption) ?_; conv => whnf) | (refine HIf.beqT (by assumption) ?_; conv => whnf) | (refine HIf.beqF (by assumption) ?_; conv => whnf) | (refine HIf.bneT (by assumption) ?_; conv => whnf) | (refine HIf.bneF (by assumption) ?_; conv => whnf) | (refine ⟨rfl, Ints.idxN (by assumption) (by omega) (fun p hp => ?_)⟩; conv => whnf) | (refine ⟨rfl, Rows.idxN (by assumption) (by omega) (fun p y hp hy => ?_)⟩; conv => whnf) | (refine And.intro (show Kd.isBool _ = true from rfl) ?_; conv => whnf) | (refine ⟨rfl, Ints.idx (by assumption) (by omega) (by omega) (fun p hp => ?_)⟩; conv => whnf) | (refine ⟨rfl, Rows.idx (by assumption) (by omega) (by omega) (fun p y hp hy => ?_)⟩; conv => whnf) | (refine HArith.fits (by omega) (by omega) ?_; conv => whnf) | (refine Or.inl (And.intro (show Region.lexB _ _ = true by kernel_rfl) ?_); conv => whnf)))
  refine HIf.dec (fun hlt => ?_) (fun hge => ?_)
  · (conv => whnf)
    exact ⟨rfl, Or.inr rfl⟩
  · (conv => whnf)
    refine ⟨rfl, Or.inl ⟨n - l.length, ?_, by omega⟩⟩
    have : ((n - l.length : Nat) : Int) = (n : Int) - l.length := by omega
    rw [this]
    rfl

theorem Ints.len_le {h : Heap} {x : H0} {l : List Int} (H : Ints h x l) {b : Nat} (hb : ∀ (r : Nat) (y : Row) (cs : List H0), h[r]? = some y → y.cells? = some cs → cs.length ≤ b) : l.length ≤ b := by
  have e : l.length = (l.map ci).length := by simp
  rw [e]
  unfold Ints at H
  generalize l.map ci = L at H
  cases H with
  | nils a c => simp
  | ro r off len cs hr hl => have := hb r _ cs hr rfl; simp; omega
  | own r off len cs hr hl => have := hb r _ cs hr rfl; simp; omega

theorem szIntSS_any (h : Heap) (x : H0) (L : List (List Int)) (n : Nat) (hx : Rows h x L) (hn : n ≤ 2199023255552) (hL : L.length ≤ 9223372036854775807) (hl : ∀ i, (L.getD i []).length ≤ 9223372036854775807) :
    HCalls dm Try.prog 8 [.s x, I n] h (fun r h' => h' = h ∧ ((∃ k : Nat, r = I k ∧ L.length + tot L + k = n) ∨ r = I (-1))) := by
  refine calls_of_hFun (m := 0) kd_ok mixed Try.func8 rfl (by kernel_rfl) rfl rfl (of_decide_eq_true rfl) ?_; unfold hFun; (conv => whnf)
  (repeat (first | (refine ⟨rfl, Ints.len (by assumption) ?_⟩; conv => whnf) | (refine ⟨rfl, Rows.len (by assumption) ?_⟩; conv => whnf) | (refine ⟨rfl, HLen.sl ?_⟩; conv => whnf) | (refine ⟨rfl, At.load (by assumption) ?_⟩; conv => whnf) | (refine HIf.yes ?_; conv => whnf) | (refine HIf.no ?_; conv => whnf) | (refine HIf.isT (by assumption) ?_; conv => whnf) | (refine HIf.isF (by assumption) ?_; conv => whnf) | (refine HIf.decT (by assumption) ?_; conv => whnf) | (refine HIf.decF (by assumption) ?_; conv => whnf) | (refine HIf.beqT (by assumption) ?_; conv => whnf) | (refine HIf.beqF (by assumption) ?_; conv => whnf) | (refine HIf.bneT (by assumption) ?_; conv => whnf) | (refine HIf.bneF (by assumption) ?_; conv => whnf) | (refine ⟨rfl, Ints.idxN (by assumption) (by omega) (fun p hp => ?_)⟩; conv => whnf) | (refine ⟨rfl, Rows.idxN (by assumption) (by omega) (fun p y hp hy => ?_)⟩; conv => whnf) | (refine And.intro (show Kd.isBool _ = true from rfl) ?_; conv => whnf) | (refine ⟨rfl, Ints.idx (by assumption) (by omega) (by omega) (fun p hp => ?_)⟩; conv => whnf) | (refine ⟨rfl, Rows.idx (by assumption) (by omega) (by omega) (fun p y hp hy => ?_)⟩; conv => whnf) | (refine HArith.fits (by omega) (by omega) ?_; conv => whnf) | (refine Or.inl (And.intro (show Region.lexB _ _ = true by kernel_rfl) ?_); conv => whnf)))
  refine HIf.dec (fun hlt => ?_) (fun hge => ?_)
  · (conv => whnf)
    exact ⟨rfl, Or.inr rfl⟩
  · (conv => whnf)
    refine HLoop.intro [5, 1] [12, 13, 14, 15, 18, 19, 20, 21, 22, 23, 1, 24, 25, 4, 16, 17, 5] (by kernel_rfl) (by kernel_rfl) (fun vs h' => ∃ i k : Nat, vs = [I i, I k] ∧ h' = h ∧ i ≤ L.length ∧ L.length + tot (L.take i) + k = n) (fun vs _ => L.length - natAt vs 0) ⟨0, n - L.length, ?_, rfl, by omega, by simp [tot_none]; omega⟩ ?_
    · have : ((n - L.length : Nat) : Int) = (n : Int) - L.length := by omega
      rw [this]
      rfl
    rintro vs h' ⟨i, k, rfl, rfl, hi, hk⟩
    (conv => whnf)
    (repeat (first | (refine ⟨rfl, Ints.len (by assumption) ?_⟩; conv => whnf) | (refine ⟨rfl, Rows.len (by assumption) ?_⟩; conv => whnf) | (refine ⟨rfl, HLen.sl ?_⟩; conv => whnf) | (refine ⟨rfl, At.load (by assumption) ?_⟩; conv => whnf) | (refine HIf.yes ?_; conv => whnf) | (refine HIf.no ?_; conv => whnf) | (refine HIf.isT (by assumption) ?_; conv => whnf) | (refine HIf.isF (by assumption) ?_; conv => whnf) | (refine HIf.decT (by assumption) ?_; conv => whnf) | (refine HIf.decF (by assumption) ?_; conv => whnf) | (refine HIf.beqT (by assumption) ?_; conv => whnf) | (refine HIf.beqF (by assumption) ?_; conv => whnf) | (refine HIf.bneT (by assumption) ?_; conv => whnf) | (refine HIf.bneF (by assumption) ?_; conv => whnf) | (refine ⟨rfl, Ints.idxN (by assumption) (by omega) (fun p hp => ?_)⟩; conv => whnf) | (refine ⟨rfl, Rows.idxN (by assumption) (by omega) (fun p y hp hy => ?_)⟩; conv => whnf) | (refine And.intro (show Kd.isBool _ = true from rfl) ?_; conv => whnf) | (refine ⟨rfl, Ints.idx (by assumption) (by omega) (by omega) (fun p hp => ?_)⟩; conv => whnf) | (refine ⟨rfl, Rows.idx (by assumption) (by omega) (by omega) (fun p y hp hy => ?_)⟩; conv => whnf) | (refine HArith.fits (by omega) (by omega) ?_; conv => whnf) | (refine Or.inl (And.intro (show Region.lexB _ _ = true by kernel_rfl) ?_); conv => whnf)))
    refine HIf.dec (fun hlt => ?_) (fun hge => ?_)
    · (conv => whnf)
      (repeat (first | (refine ⟨rfl, Ints.len (by assumption) ?_⟩; conv => whnf) | (refine ⟨rfl, Rows.len (by assumption) ?_⟩; conv => whnf) | (refine ⟨rfl, HLen.sl ?_⟩; conv => whnf) | (refine ⟨rfl, At.load (by assumption) ?_⟩; conv => whnf) | (refine HIf.yes ?_; conv => whnf) | (refine HIf.no ?_; conv => whnf) | (refine HIf.isT (by assumption) ?_; conv => whnf) | (refine HIf.isF (by assumption) ?_; conv => whnf) | (refine HIf.decT (by assumption) ?_; conv => whnf) | (refine HIf.decF (by assumption) ?_; conv => whnf) | (refine HIf.beqT (by assumption) ?_; conv => whnf) | (refine HIf.beqF (by assumption) ?_; conv => whnf) | (refine HIf.bneT (by assumption) ?_; conv => whnf) | (refine HIf.bneF (by assumption) ?_; conv => whnf) | (refine ⟨rfl, Ints.idxN (by assumption) (by omega) (fun p hp => ?_)⟩; conv => whnf) | (refine ⟨rfl, Rows.idxN (by assumption) (by omega) (fun p y hp hy => ?_)⟩; conv => whnf) | (refine And.intro (show Kd.isBool _ = true from rfl) ?_; conv => whnf) | (refine ⟨rfl, Ints.idx (by assumption) (by omega) (by omega) (fun p hp => ?_)⟩; conv => whnf) | (refine ⟨rfl, Rows.idx (by assumption) (by omega) (by omega) (fun p y hp hy => ?_)⟩; conv => whnf) | (refine HArith.fits (by omega) (by omega) ?_; conv => whnf) | (refine Or.inl (And.intro (show Region.lexB _ _ = true by kernel_rfl) ?_); conv => whnf)))
      refine (szIntS_any _ _ _ k (by assumption) (by omega) (hl _)).mono ?_
      rintro r h' ⟨rfl, ⟨m, rfl, hm⟩ | rfl⟩
      · have := tot_succ L i (by omega)
        (conv => whnf)
        refine HIf.decF (by omega) ?_
        (conv => whnf)
        (repeat (first | (refine ⟨rfl, Ints.len (by assumption) ?_⟩; conv => whnf) | (refine ⟨rfl, Rows.len (by assumption) ?_⟩; conv => whnf) | (refine ⟨rfl, HLen.sl ?_⟩; conv => whnf) | (refine ⟨rfl, At.load (by assumption) ?_⟩; conv => whnf) | (refine HIf.yes ?_; conv => whnf) | (refine HIf.no ?_; conv => whnf) | (refine HIf.isT (by assumption) ?_; conv => whnf) | (refine HIf.isF (by assumption) ?_; conv => whnf) | (refine HIf.decT (by assumption) ?_; conv => whnf) | (refine HIf.decF (by assumption) ?_; conv => whnf) | (refine HIf.beqT (by assumption) ?_; conv => whnf) | (refine HIf.beqF (by assumption) ?_; conv => whnf) | (refine HIf.bneT (by assumption) ?_; conv => whnf) | (refine HIf.bneF (by assumption) ?_; conv => whnf) | (refine ⟨rfl, Ints.idxN (by assumption) (by omega) (fun p hp => ?_)⟩; conv => whnf) | (refine ⟨rfl, Rows.idxN (by assumption) (by omega) (fun p y hp hy => ?_)⟩; conv => whnf) | (refine And.intro (show Kd.isBool _ = true from rfl) ?_; conv => whnf) | (refine ⟨rfl, Ints.idx (by assumption) (by omega) (by omega) (fun p hp => ?_)⟩; conv => whnf) | (refine ⟨rfl, Rows.idx (by assumption) (by omega) (by omega) (fun p y hp hy => ?_)⟩; conv => whnf) | (refine HArith.fits (by omega) (by omega) ?_; conv => whnf) | (refine Or.inl (And.intro (show Region.lexB _ _ = true by kernel_rfl) ?_); conv => whnf)))
        exact ⟨⟨i + 1, m, rfl, rfl, by omega, by omega⟩, by show L.length - (i + 1) < L.length - i; omega⟩
      · (conv => whnf)
        refine HIf.yes ?_
        (conv => whnf)
        exact ⟨rfl, Or.inr rfl⟩
    · (conv => whnf)
      have e : i = L.length := by omega
      subst e
      rw [List.take_length] at hk
      exact ⟨rfl, Or.inl ⟨k, rfl, hk⟩⟩

theorem eqIntSS_any (h : Heap) (x y : H0) (a b : List (List Int)) (hx : Rows h x a) (hy : Rows h y b) (hal : a.length ≤ 2199023255552) (hat : tot a ≤ 2199023255552) :
    HCalls dm Try.prog 14 [.s x, .s y] h (fun r h' => r = B (decide (a = b)) ∧ h' = h) := by
  refine calls_of_hFun (m := 0) kd_ok mixed Try.func14 rfl (by kernel_rfl) rfl rfl (of_decide_eq_true rfl) ?_; unfold hFun; (conv => whnf)
  (repeat (first | (refine ⟨rfl, Ints.len (by assumption) ?_⟩; conv => whnf) | (refine ⟨rfl, Rows.len (by assumption) ?_⟩; conv => whnf) | (refine ⟨rfl, HLen.sl ?_⟩; conv => whnf) | (refine ⟨rfl, At.load (by assumption) ?_⟩; conv => whnf) | (refine HIf.yes ?_; conv => whnf) | (refine HIf.no ?_; conv => whnf) | (refine HIf.isT (by assumption) ?_; conv => whnf) | (refine HIf.isF (by assumption) ?_; conv => whnf) | (refine HIf.decT (by assumption) ?_; conv => whnf) | (refine HIf.decF (by assumption) ?_; conv => whnf) | (refine HIf.beqT (by assumption) ?_; conv => whnf) | (refine HIf.beqF (by assumption) ?_; conv => whnf) | (refine HIf.bneT (by assumption) ?_; conv => whnf) | (refine HIf.bneF (by assumption) ?_; conv => whnf) | (refine ⟨rfl, Ints.idxN (by assumption) (by omega) (fun p hp => ?_)⟩; conv => whnf) | (refine ⟨rfl, Rows.idxN (by assumption) (by omega) (fun p y hp hy => ?_)⟩; conv => whnf) | (refine And.intro (show Kd.isBool _ = true from rfl) ?_; conv => whnf) | (refine ⟨rfl, Ints.idx (by assumption) (by omega) (by omega) (fun p hp => ?_)⟩; conv => whnf) | (refine ⟨rfl, Rows.idx (by assumption) (by omega) (by omega) (fun p y hp hy => ?_)⟩; conv => whnf) | (refine HArith.fits (by omega) (by omega) ?_; conv => whnf) | (refine Or.inl (And.intro (show Region.lexB _ _ = true by kernel_rfl) ?_); conv => whnf)))
  refine HIf.bne (fun hne => ?_) (fun heq => ?_)
  · (conv => whnf)
    have : ¬ a = b := fun e => hne (by rw [e])
    rw [decide_eq_false this]
    exact ⟨rfl, rfl⟩
  · (conv => whnf)
    refine HLoop.intro [5] [11, 12, 13, 14, 17, 18, 19, 20, 21, 22, 23, 24, 25, 26, 4, 15, 16, 5] (by kernel_rfl) (by kernel_rfl) (fun vs h' => ∃ i : Nat, vs = [I i] ∧ h' = h ∧ i ≤ a.length ∧ a.take i = b.take i) (fun vs _ => a.length - natAt vs 0) ⟨0, rfl, rfl, by omega, by simp⟩ ?_
    rintro vs h' ⟨i, rfl, rfl, hi, hab⟩
    (conv => whnf)
    (repeat (first | (refine ⟨rfl, Ints.len (by assumption) ?_⟩; conv => whnf) | (refine ⟨rfl, Rows.len (by assumption) ?_⟩; conv => whnf) | (refine ⟨rfl, HLen.sl ?_⟩; conv => whnf) | (refine ⟨rfl, At.load (by assumption) ?_⟩; conv => whnf) | (refine HIf.yes ?_; conv => whnf) | (refine HIf.no ?_; conv => whnf) | (refine HIf.isT (by assumption) ?_; conv => whnf) | (refine HIf.isF (by assumption) ?_; conv => whnf) | (refine HIf.decT (by assumption) ?_; conv => whnf) | (refine HIf.decF (by assumption) ?_; conv => whnf) | (refine HIf.beqT (by assumption) ?_; conv => whnf) | (refine HIf.beqF (by assumption) ?_; conv => whnf) | (refine HIf.bneT (by assumption) ?_; conv => whnf) | (refine HIf.bneF (by assumption) ?_; conv => whnf) | (refine ⟨rfl, Ints.idxN (by assumption) (by omega) (fun p hp => ?_)⟩; conv => whnf) | (refine ⟨rfl, Rows.idxN (by assumption) (by omega) (fun p y hp hy => ?_)⟩; conv => whnf) | (refine And.intro (show Kd.isBool _ = true from rfl) ?_; conv => whnf) | (refine ⟨rfl, Ints.idx (by assumption) (by omega) (by omega) (fun p hp => ?_)⟩; conv => whnf) | (refine ⟨rfl, Rows.idx (by assumption) (by omega) (by omega) (fun p y hp hy => ?_)⟩; conv => whnf) | (refine HArith.fits (by omega) (by omega) ?_; conv => whnf) | (refine Or.inl (And.intro (show Region.lexB _ _ = true by kernel_rfl) ?_); conv => whnf)))
    refine HIf.dec (fun hlt => ?_) (fun hge => ?_)
    · have hlb : (i : Int) < b.length := by omega
      have hlt2 := len_le_tot (L := a) (i := i) (by omega)
      (conv => whnf)
      refine Or.inl (And.intro (show Region.lexB _ _ = true by kernel_rfl) ?_); (conv => whnf)
      refine ⟨rfl, Rows.idxN hx (by omega) (fun p1 y1 hp1 hy1 => ?_)⟩
      (conv => whnf)
      refine ⟨rfl, hp1.load ?_⟩
      (conv => whnf)
      refine ⟨rfl, Rows.idxN hy (by omega) (fun p2 y2 hp2 hy2 => ?_)⟩
      (conv => whnf)
      refine ⟨rfl, hp2.load ?_⟩
      (conv => whnf)
      refine HCallQ.of _ (eqIntS_any _ _ _ _ _ hy1.frz hy2.frz (by omega)) (fun x h' e => e.1) ?_
      (conv => whnf)
      have ga : a.getD i [] = a[i]'(by omega) := by simp [List.getD, show i < a.length by omega]
      have gb : b.getD i [] = b[i]'(by omega) := by simp [List.getD, show i < b.length by omega]
      by_cases he : a.getD i [] = b.getD i []
      · refine HIf.bnot (HIf.decT he ?_)
        rw [ga, gb] at he
        (conv => whnf)
        (repeat (first | (refine ⟨rfl, Ints.len (by assumption) ?_⟩; conv => whnf) | (refine ⟨rfl, Rows.len (by assumption) ?_⟩; conv => whnf) | (refine ⟨rfl, HLen.sl ?_⟩; conv => whnf) | (refine ⟨rfl, At.load (by assumption) ?_⟩; conv => whnf) | (refine HIf.yes ?_; conv => whnf) | (refine HIf.no ?_; conv => whnf) | (refine HIf.isT (by assumption) ?_; conv => whnf) | (refine HIf.isF (by assumption) ?_; conv => whnf) | (refine HIf.decT (by assumption) ?_; conv => whnf) | (refine HIf.decF (by assumption) ?_; conv => whnf) | (refine HIf.beqT (by assumption) ?_; conv => whnf) | (refine HIf.beqF (by assumption) ?_; conv => whnf) | (refine HIf.bneT (by assumption) ?_; conv => whnf) | (refine HIf.bneF (by assumption) ?_; conv => whnf) | (refine ⟨rfl, Ints.idxN (by assumption) (by omega) (fun p hp => ?_)⟩; conv => whnf) | (refine ⟨rfl, Rows.idxN (by assumption) (by omega) (fun p y hp hy => ?_)⟩; conv => whnf) | (refine And.intro (show Kd.isBool _ = true from rfl) ?_; conv => whnf) | (refine ⟨rfl, Ints.idx (by assumption) (by omega) (by omega) (fun p hp => ?_)⟩; conv => whnf) | (refine ⟨rfl, Rows.idx (by assumption) (by omega) (by omega) (fun p y hp hy => ?_)⟩; conv => whnf) | (refine HArith.fits (by omega) (by omega) ?_; conv => whnf) | (refine Or.inl (And.intro (show Region.lexB _ _ = true by kernel_rfl) ?_); conv => whnf)))
        refine ⟨⟨i + 1, rfl, rfl, by omega, ?_⟩, by show a.length - (i + 1) < a.length - i; omega⟩
        rw [List.take_succ_eq_append_getElem (by omega), List.take_succ_eq_append_getElem (by omega), hab, he]
      · refine HIf.bnot (HIf.decF he ?_)
        (conv => whnf)
        have : ¬ a = b := fun e => he (by rw [e])
        rw [decide_eq_false this]
        exact ⟨rfl, rfl⟩
    · (conv => whnf)
      have : a = b := by
        have e : i = a.length := by omega
        rw [List.take_of_length_le (by omega), List.take_of_length_le (by omega)] at hab
        exact hab
      rw [decide_eq_true this]
      exact ⟨rfl, rfl⟩

end Go.Proofs.Ytnooeaemjnmkdaa.Hx

namespace Go.Proofs.Ytnooeaemjnmkdaa.Hx
open Go.RowKit
variable {dm : Bool}

/-- The marks of row j. -/
def mrkRow (k : Int) (L : List (List Int)) (j : Nat) : List Int := marks (k + tot (L.take j)) (L.getD j []).length
def mrk (k : Int) (L : List (List Int)) : List (List Int) := (List.range L.length).map (mrkRow k L)

theorem mrk_length (k : Int) (L : List (List Int)) : (mrk k L).length = L.length := by simp [mrk]
theorem mrk_get (k : Int) (L : List (List Int)) {i : Nat} (h : i < L.length) : (mrk k L).getD i [] = mrkRow k L i := by simp [mrk, List.getD, h]

theorem list_eq_of_getD {L M : List (List Int)} (h : L.length = M.length) (k : ∀ i, i < L.length → L.getD i [] = M.getD i []) : L = M := by
  apply List.ext_getElem h
  intro i h1 h2
  have := k i h1
  simpa [List.getD, h1, h2] using this

def nilS : H0 := .pl (.slice none 0 0)

theorem HMake.rows {l : Int} {h : Heap} {K : HV → Heap → Prop} (n : Nat) (hl : l = n) (hn : n ≤ 2 ^ 41) (hK : K (.s (.sl h.length 0 n)) (h ++ [.own (List.replicate n nilS)])) : HMake (.slice none 0 0) (I l) (I l) h K := by
  subst hl
  exact ⟨.i64, .i64, n, n, rfl, rfl, Nat.le_refl _, hn, hK⟩

theorem markIntS_own (b e : Nat) (h : Heap) (x : H0) (l : List Int) (k : Int) (H : Own b e h x l) (hk : 0 ≤ k) (hkn : k ≤ 4611686018427387904) (hn : l.length ≤ 2199023255552) :
    HCalls dm Try.prog 16 [.s x, I k] h (fun r h' => r = I (k + l.length) ∧ Mid h h' b e ∧ Own b e h' x (marks k l.length)) := by
  obtain ⟨r, t, rfl, h1, h2, hr⟩ := H
  refine (markIntS_any h r l.length k _ hr (by simp) hk hkn hn).mono ?_
  rintro x h' ⟨rfl, rfl⟩
  have hrl := get_lt hr
  refine ⟨rfl, Mid.set h h1 h2 _, r, (l.map ci ++ t).drop l.length, by rw [marks_length], h1, h2, by rw [List.getElem?_set_self hrl]⟩


theorem toIntSS_any (h : Heap) (x : H0) (L : List (List Int)) (hx : Rows h x L) (hL : L.length ≤ 2199023255552) (ht : tot L ≤ 2199023255552) :
    HCalls dm Try.prog 10 [.s x] h (fun r h' => ∃ y, r = .s y ∧ Ext h h' ∧ OwnM h.length h'.length h' y L) := by
  refine calls_of_hFun (m := 0) kd_ok mixed Try.func10 rfl (by kernel_rfl) rfl rfl (of_decide_eq_true rfl) ?_; unfold hFun; (conv => whnf)
  (repeat (first | (refine ⟨rfl, Ints.len (by assumption) ?_⟩; conv => whnf) | (refine ⟨rfl, Rows.len (by assumption) ?_⟩; conv => whnf) | (refine ⟨rfl, HLen.sl ?_⟩; conv => whnf) | (refine ⟨rfl, At.load (by assumption) ?_⟩; conv => whnf) | (refine HIf.yes ?_; conv => whnf) | (refine HIf.no ?_; conv => whnf) | (refine HIf.isT (by assumption) ?_; conv => whnf) | (refine HIf.isF (by assumption) ?_; conv => whnf) | (refine HIf.decT (by assumption) ?_; conv => whnf) | (refine HIf.decF (by assumption) ?_; conv => whnf) | (refine HIf.beqT (by assumption) ?_; conv => whnf) | (refine HIf.beqF (by assumption) ?_; conv => whnf) | (refine HIf.bneT (by assumption) ?_; conv => whnf) | (refine HIf.bneF (by assumption) ?_; conv => whnf) | (refine ⟨rfl, Ints.idxN (by assumption) (by omega) (fun p hp => ?_)⟩; conv => whnf) | (refine ⟨rfl, Rows.idxN (by assumption) (by omega) (fun p y hp hy => ?_)⟩; conv => whnf) | (refine And.intro (show Kd.isBool _ = true from rfl) ?_; conv => whnf) | (refine ⟨rfl, Ints.idx (by assumption) (by omega) (by omega) (fun p hp => ?_)⟩; conv => whnf) | (refine ⟨rfl, Rows.idx (by assumption) (by omega) (by omega) (fun p y hp hy => ?_)⟩; conv => whnf) | (refine HArith.fits (by omega) (by omega) ?_; conv => whnf) | (refine Or.inl (And.intro (show Region.lexB _ _ = true by kernel_rfl) ?_); conv => whnf)))
  refine HMake.rows L.length rfl hL ?_
  (conv => whnf)
  refine HLoop.intro [4] [8, 9, 10, 11, 14, 15, 16, 17, 18, 19, 20, 21, 12, 13, 4] (by kernel_rfl) (by kernel_rfl) (fun vs h' => ∃ i : Nat, vs = [I i] ∧ i ≤ L.length ∧ Ext h h' ∧ h'.length = h.length + 1 + i ∧ (∃ cs, h'[h.length]? = some (.own cs) ∧ cs.length = L.length ∧ ∀ j, j < i → cs[j]? = some (.sl (h.length + 1 + j) 0 (L.getD j []).length)) ∧ (∀ j, j < i → h'[h.length + 1 + j]? = some (.own ((L.getD j []).map ci)))) (fun vs _ => L.length - natAt vs 0) ⟨0, rfl, by omega, Ext.push _ _, by simp, ⟨_, get_new _ _, by simp, fun j hj => by omega⟩, fun j hj => by omega⟩ ?_
  rintro vs h' ⟨i, rfl, hi, he, hlen, ⟨cs, hc, hcl, hcs⟩, hin⟩
  have hx' := hx.ext he
  (conv => whnf)
  (repeat (first | (refine ⟨rfl, Ints.len (by assumption) ?_⟩; conv => whnf) | (refine ⟨rfl, Rows.len (by assumption) ?_⟩; conv => whnf) | (refine ⟨rfl, HLen.sl ?_⟩; conv => whnf) | (refine ⟨rfl, At.load (by assumption) ?_⟩; conv => whnf) | (refine HIf.yes ?_; conv => whnf) | (refine HIf.no ?_; conv => whnf) | (refine HIf.isT (by assumption) ?_; conv => whnf) | (refine HIf.isF (by assumption) ?_; conv => whnf) | (refine HIf.decT (by assumption) ?_; conv => whnf) | (refine HIf.decF (by assumption) ?_; conv => whnf) | (refine HIf.beqT (by assumption) ?_; conv => whnf) | (refine HIf.beqF (by assumption) ?_; conv => whnf) | (refine HIf.bneT (by assumption) ?_; conv => whnf) | (refine HIf.bneF (by assumption) ?_; conv => whnf) | (refine ⟨rfl, Ints.idxN (by assumption) (by omega) (fun p hp => ?_)⟩; conv => whnf) | (refine ⟨rfl, Rows.idxN (by assumption) (by omega) (fun p y hp hy => ?_)⟩; conv => whnf) | (refine And.intro (show Kd.isBool _ = true from rfl) ?_; conv => whnf) | (refine ⟨rfl, Ints.idx (by assumption) (by omega) (by omega) (fun p hp => ?_)⟩; conv => whnf) | (refine ⟨rfl, Rows.idx (by assumption) (by omega) (by omega) (fun p y hp hy => ?_)⟩; conv => whnf) | (refine HArith.fits (by omega) (by omega) ?_; conv => whnf) | (refine Or.inl (And.intro (show Region.lexB _ _ = true by kernel_rfl) ?_); conv => whnf)))
  refine HIf.dec (fun hlt => ?_) (fun hge => ?_)
  · have hle := len_le_tot (L := L) (i := i) (by omega)
    (conv => whnf)
    (repeat (first | (refine ⟨rfl, Ints.len (by assumption) ?_⟩; conv => whnf) | (refine ⟨rfl, Rows.len (by assumption) ?_⟩; conv => whnf) | (refine ⟨rfl, HLen.sl ?_⟩; conv => whnf) | (refine ⟨rfl, At.load (by assumption) ?_⟩; conv => whnf) | (refine HIf.yes ?_; conv => whnf) | (refine HIf.no ?_; conv => whnf) | (refine HIf.isT (by assumption) ?_; conv => whnf) | (refine HIf.isF (by assumption) ?_; conv => whnf) | (refine HIf.decT (by assumption) ?_; conv => whnf) | (refine HIf.decF (by assumption) ?_; conv => whnf) | (refine HIf.beqT (by assumption) ?_; conv => whnf) | (refine HIf.beqF (by assumption) ?_; conv => whnf) | (refine HIf.bneT (by assumption) ?_; conv => whnf) | (refine HIf.bneF (by assumption) ?_; conv => whnf) | (refine ⟨rfl, Ints.idxN (by assumption) (by omega) (fun p hp => ?_)⟩; conv => whnf) | (refine ⟨rfl, Rows.idxN (by assumption) (by omega) (fun p y hp hy => ?_)⟩; conv => whnf) | (refine And.intro (show Kd.isBool _ = true from rfl) ?_; conv => whnf) | (refine ⟨rfl, Ints.idx (by assumption) (by omega) (by omega) (fun p hp => ?_)⟩; conv => whnf) | (refine ⟨rfl, Rows.idx (by assumption) (by omega) (by omega) (fun p y hp hy => ?_)⟩; conv => whnf) | (refine HArith.fits (by omega) (by omega) ?_; conv => whnf) | (refine Or.inl (And.intro (show Region.lexB _ _ = true by kernel_rfl) ?_); conv => whnf)))
    refine (toIntS_any _ _ _ (by assumption) (by omega)).mono ?_
    rintro r h2 ⟨rfl, rfl⟩
    (conv => whnf)
    refine ⟨rfl, HIdx.sl (by omega) (by omega) ?_⟩
    (conv => whnf)
    have hc2 : (h' ++ [Row.own ((L.getD i []).map ci)])[h.length]? = some (.own cs) := (Ext.push h' _).row hc
    refine ⟨rfl, HStore.own hc2 (by omega) rfl ?_⟩
    (conv => whnf)
    (repeat (first | (refine ⟨rfl, Ints.len (by assumption) ?_⟩; conv => whnf) | (refine ⟨rfl, Rows.len (by assumption) ?_⟩; conv => whnf) | (refine ⟨rfl, HLen.sl ?_⟩; conv => whnf) | (refine ⟨rfl, At.load (by assumption) ?_⟩; conv => whnf) | (refine HIf.yes ?_; conv => whnf) | (refine HIf.no ?_; conv => whnf) | (refine HIf.isT (by assumption) ?_; conv => whnf) | (refine HIf.isF (by assumption) ?_; conv => whnf) | (refine HIf.decT (by assumption) ?_; conv => whnf) | (refine HIf.decF (by assumption) ?_; conv => whnf) | (refine HIf.beqT (by assumption) ?_; conv => whnf) | (refine HIf.beqF (by assumption) ?_; conv => whnf) | (refine HIf.bneT (by assumption) ?_; conv => whnf) | (refine HIf.bneF (by assumption) ?_; conv => whnf) | (refine ⟨rfl, Ints.idxN (by assumption) (by omega) (fun p hp => ?_)⟩; conv => whnf) | (refine ⟨rfl, Rows.idxN (by assumption) (by omega) (fun p y hp hy => ?_)⟩; conv => whnf) | (refine And.intro (show Kd.isBool _ = true from rfl) ?_; conv => whnf) | (refine ⟨rfl, Ints.idx (by assumption) (by omega) (by omega) (fun p hp => ?_)⟩; conv => whnf) | (refine ⟨rfl, Rows.idx (by assumption) (by omega) (by omega) (fun p y hp hy => ?_)⟩; conv => whnf) | (refine HArith.fits (by omega) (by omega) ?_; conv => whnf) | (refine Or.inl (And.intro (show Region.lexB _ _ = true by kernel_rfl) ?_); conv => whnf)))
    refine ⟨⟨i + 1, rfl, by omega, (he.pushed _).set (by omega) _, by simp; omega, ⟨_, List.getElem?_set_self (get_lt hc2), by simp [hcl], fun j hj => ?_⟩, fun j hj => ?_⟩, by show L.length - (i + 1) < L.length - i; omega⟩
    · have e0 : 0 + (i : Int).toNat = i := by omega
      rw [e0]
      by_cases hji : j = i
      · subst hji
        rw [List.getElem?_set_self (by omega), hlen]
      · rw [List.getElem?_set_ne (by omega)]
        exact hcs j (by omega)
    · rw [List.getElem?_set_ne (by omega)]
      by_cases hji : j = i
      · subst hji
        rw [← hlen]
        exact get_new _ _
      · exact (Ext.push h' _).row (hin j (by omega))
  · (conv => whnf)
    have e : i = L.length := by omega
    subst e
    refine ⟨_, rfl, he, h.length, fun j => h.length + 1 + j, rfl, by omega, by omega, fun j hj => ⟨by dsimp only; omega, by dsimp only; omega⟩, ⟨cs, hc, by omega, hcs⟩, fun j hj => ⟨[], ?_⟩, fun j hj => by omega, fun j j' h1 h2 => by omega⟩
    rw [List.append_nil]
    exact hin j hj

theorem heldIntSS_any (h : Heap) (x : H0) (L : List (List Int)) (k : Int) (hx : Rows h x (mrk k L)) (hk : 0 ≤ k) (hkn : k ≤ 2305843009213693952) (hL : L.length ≤ 2199023255552) (ht : tot L ≤ 2199023255552) :
    HCalls dm Try.prog 20 [.s x, I k] h (fun r h' => r = I (k + tot L) ∧ h' = h) := by
  have hml := mrk_length k L
  refine calls_of_hFun (m := 0) kd_ok mixed Try.func20 rfl (by kernel_rfl) rfl rfl (of_decide_eq_true rfl) ?_; unfold hFun; (conv => whnf)
  (repeat (first | (refine ⟨rfl, Ints.len (by assumption) ?_⟩; conv => whnf) | (refine ⟨rfl, Rows.len (by assumption) ?_⟩; conv => whnf) | (refine ⟨rfl, HLen.sl ?_⟩; conv => whnf) | (refine ⟨rfl, At.load (by assumption) ?_⟩; conv => whnf) | (refine HIf.yes ?_; conv => whnf) | (refine HIf.no ?_; conv => whnf) | (refine HIf.isT (by assumption) ?_; conv => whnf) | (refine HIf.isF (by assumption) ?_; conv => whnf) | (refine HIf.decT (by assumption) ?_; conv => whnf) | (refine HIf.decF (by assumption) ?_; conv => whnf) | (refine HIf.beqT (by assumption) ?_; conv => whnf) | (refine HIf.beqF (by assumption) ?_; conv => whnf) | (refine HIf.bneT (by assumption) ?_; conv => whnf) | (refine HIf.bneF (by assumption) ?_; conv => whnf) | (refine ⟨rfl, Ints.idxN (by assumption) (by omega) (fun p hp => ?_)⟩; conv => whnf) | (refine ⟨rfl, Rows.idxN (by assumption) (by omega) (fun p y hp hy => ?_)⟩; conv => whnf) | (refine And.intro (show Kd.isBool _ = true from rfl) ?_; conv => whnf) | (refine ⟨rfl, Ints.idx (by assumption) (by omega) (by omega) (fun p hp => ?_)⟩; conv => whnf) | (refine ⟨rfl, Rows.idx (by assumption) (by omega) (by omega) (fun p y hp hy => ?_)⟩; conv => whnf) | (refine HArith.fits (by omega) (by omega) ?_; conv => whnf) | (refine Or.inl (And.intro (show Region.lexB _ _ = true by kernel_rfl) ?_); conv => whnf)))
  refine HLoop.intro [5, 1] [6, 7, 8, 9, 12, 13, 14, 15, 16, 17, 1, 18, 19, 4, 10, 11, 5] (by kernel_rfl) (by kernel_rfl) (fun vs h' => ∃ i : Nat, vs = [I i, I (k + tot (L.take i))] ∧ i ≤ L.length ∧ h' = h) (fun vs _ => L.length - natAt vs 0) ⟨0, by simp [tot_none]; rfl, by omega, rfl⟩ ?_
  rintro vs h' ⟨i, rfl, hi, rfl⟩
  (conv => whnf)
  refine ⟨rfl, hx.len ?_⟩
  rw [hml]
  (conv => whnf)
  refine HIf.dec (fun hlt => ?_) (fun hge => ?_)
  · have hle := len_le_tot (L := L) (i := i) (by omega)
    (conv => whnf)
    refine ⟨rfl, Rows.idxN hx (by omega) (fun p y hp hy => ?_)⟩
    (conv => whnf)
    refine ⟨rfl, hp.load ?_⟩
    (conv => whnf)
    rw [mrk_get k L (by omega)] at hy
    refine (heldIntS_any _ _ (L.getD i []).length (k + tot (L.take i)) hy (by omega) (by omega) (by omega)).mono ?_
    rintro r h' ⟨rfl, rfl⟩
    (conv => whnf)
    refine HIf.decF (by omega) ?_
    (conv => whnf)
    (repeat (first | (refine ⟨rfl, Ints.len (by assumption) ?_⟩; conv => whnf) | (refine ⟨rfl, Rows.len (by assumption) ?_⟩; conv => whnf) | (refine ⟨rfl, HLen.sl ?_⟩; conv => whnf) | (refine ⟨rfl, At.load (by assumption) ?_⟩; conv => whnf) | (refine HIf.yes ?_; conv => whnf) | (refine HIf.no ?_; conv => whnf) | (refine HIf.isT (by assumption) ?_; conv => whnf) | (refine HIf.isF (by assumption) ?_; conv => whnf) | (refine HIf.decT (by assumption) ?_; conv => whnf) | (refine HIf.decF (by assumption) ?_; conv => whnf) | (refine HIf.beqT (by assumption) ?_; conv => whnf) | (refine HIf.beqF (by assumption) ?_; conv => whnf) | (refine HIf.bneT (by assumption) ?_; conv => whnf) | (refine HIf.bneF (by assumption) ?_; conv => whnf) | (refine ⟨rfl, Ints.idxN (by assumption) (by omega) (fun p hp => ?_)⟩; conv => whnf) | (refine ⟨rfl, Rows.idxN (by assumption) (by omega) (fun p y hp hy => ?_)⟩; conv => whnf) | (refine And.intro (show Kd.isBool _ = true from rfl) ?_; conv => whnf) | (refine ⟨rfl, Ints.idx (by assumption) (by omega) (by omega) (fun p hp => ?_)⟩; conv => whnf) | (refine ⟨rfl, Rows.idx (by assumption) (by omega) (by omega) (fun p y hp hy => ?_)⟩; conv => whnf) | (refine HArith.fits (by omega) (by omega) ?_; conv => whnf) | (refine Or.inl (And.intro (show Region.lexB _ _ = true by kernel_rfl) ?_); conv => whnf)))
    refine ⟨⟨i + 1, ?_, by omega, rfl⟩, by show L.length - (i + 1) < L.length - i; omega⟩
    rw [tot_succ L i (by omega)]
    have : k + ((tot (L.take i) + (L.getD i []).length : Nat) : Int) = k + tot (L.take i) + (L.getD i []).length := by omega
    rw [this]
    rfl
  · (conv => whnf)
    have e : i = L.length := by omega
    subst e
    rw [List.take_length]
    exact ⟨rfl, rfl⟩

theorem markIntSS_own (b e : Nat) (h : Heap) (x : H0) (L : List (List Int)) (k : Int) (H : OwnM b e h x L) (hk : 0 ≤ k) (hkn : k ≤ 2305843009213693952) (hL : L.length ≤ 2199023255552) (ht : tot L ≤ 2199023255552) :
    HCalls dm Try.prog 15 [.s x, I k] h (fun r h' => r = I (k + tot L) ∧ Mid h h' b e ∧ OwnM b e h' x (mrk k L)) := by
  obtain ⟨r, ρ, rfl, hb, he, hρ, hm⟩ := H
  have hml := mrk_length k L
  refine calls_of_hFun (m := 0) kd_ok mixed Try.func15 rfl (by kernel_rfl) rfl rfl (of_decide_eq_true rfl) ?_; unfold hFun; (conv => whnf)
  (repeat (first | (refine ⟨rfl, Ints.len (by assumption) ?_⟩; conv => whnf) | (refine ⟨rfl, Rows.len (by assumption) ?_⟩; conv => whnf) | (refine ⟨rfl, HLen.sl ?_⟩; conv => whnf) | (refine ⟨rfl, At.load (by assumption) ?_⟩; conv => whnf) | (refine HIf.yes ?_; conv => whnf) | (refine HIf.no ?_; conv => whnf) | (refine HIf.isT (by assumption) ?_; conv => whnf) | (refine HIf.isF (by assumption) ?_; conv => whnf) | (refine HIf.decT (by assumption) ?_; conv => whnf) | (refine HIf.decF (by assumption) ?_; conv => whnf) | (refine HIf.beqT (by assumption) ?_; conv => whnf) | (refine HIf.beqF (by assumption) ?_; conv => whnf) | (refine HIf.bneT (by assumption) ?_; conv => whnf) | (refine HIf.bneF (by assumption) ?_; conv => whnf) | (refine ⟨rfl, Ints.idxN (by assumption) (by omega) (fun p hp => ?_)⟩; conv => whnf) | (refine ⟨rfl, Rows.idxN (by assumption) (by omega) (fun p y hp hy => ?_)⟩; conv => whnf) | (refine And.intro (show Kd.isBool _ = true from rfl) ?_; conv => whnf) | (refine ⟨rfl, Ints.idx (by assumption) (by omega) (by omega) (fun p hp => ?_)⟩; conv => whnf) | (refine ⟨rfl, Rows.idx (by assumption) (by omega) (by omega) (fun p y hp hy => ?_)⟩; conv => whnf) | (refine HArith.fits (by omega) (by omega) ?_; conv => whnf) | (refine Or.inl (And.intro (show Region.lexB _ _ = true by kernel_rfl) ?_); conv => whnf)))
  refine HLoop.intro [5, 1] [6, 7, 8, 9, 12, 13, 14, 15, 16, 17, 1, 10, 11, 5] (by kernel_rfl) (by kernel_rfl) (fun vs h' => ∃ i : Nat, vs = [I i, I (k + tot (L.take i))] ∧ i ≤ L.length ∧ Mid h h' b e ∧ (∀ j, i ≤ j → j < L.length → h'[ρ j]? = h[ρ j]?) ∧ h'[r]? = h[r]? ∧ ∀ j, j < i → ∃ t, h'[ρ j]? = some (.own ((mrkRow k L j).map ci ++ t))) (fun vs _ => L.length - natAt vs 0) ⟨0, by simp [tot_none]; rfl, by omega, Mid.refl _ _ _, fun _ _ _ => rfl, rfl, fun j hj => by omega⟩ ?_
  rintro vs h' ⟨i, rfl, hi, hmid, hrest, hr, hdone⟩
  (conv => whnf)
  refine ⟨rfl, HLen.sl ?_⟩
  (conv => whnf)
  refine HIf.dec (fun hlt => ?_) (fun hge => ?_)
  · have hle := len_le_tot (L := L) (i := i) (by omega)
    obtain ⟨cs, hc1, hc2, hc3⟩ := hm.outer
    obtain ⟨t, hi1⟩ := hm.inner i (by omega)
    rw [← hrest i (Nat.le_refl _) (by omega)] at hi1
    (conv => whnf)
    refine ⟨rfl, HIdx.sl (by omega) (by omega) ?_⟩
    (conv => whnf)
    refine ⟨rfl, At.load (c := .sl (ρ i) 0 (L.getD i []).length) ⟨r, _, .own cs, cs, rfl, by rw [hr]; exact hc1, rfl, ?_⟩ ?_⟩
    · have e0 : 0 + (i : Int).toNat = i := by omega
      rw [e0]
      exact hc3 i (by omega)
    (conv => whnf)
    refine (markIntS_any h' (ρ i) (L.getD i []).length (k + tot (L.take i)) _ hi1 (by simp) (by omega) (by omega) (by omega)).mono ?_
    rintro r' h'' ⟨rfl, rfl⟩
    (conv => whnf)
    (repeat (first | (refine ⟨rfl, Ints.len (by assumption) ?_⟩; conv => whnf) | (refine ⟨rfl, Rows.len (by assumption) ?_⟩; conv => whnf) | (refine ⟨rfl, HLen.sl ?_⟩; conv => whnf) | (refine ⟨rfl, At.load (by assumption) ?_⟩; conv => whnf) | (refine HIf.yes ?_; conv => whnf) | (refine HIf.no ?_; conv => whnf) | (refine HIf.isT (by assumption) ?_; conv => whnf) | (refine HIf.isF (by assumption) ?_; conv => whnf) | (refine HIf.decT (by assumption) ?_; conv => whnf) | (refine HIf.decF (by assumption) ?_; conv => whnf) | (refine HIf.beqT (by assumption) ?_; conv => whnf) | (refine HIf.beqF (by assumption) ?_; conv => whnf) | (refine HIf.bneT (by assumption) ?_; conv => whnf) | (refine HIf.bneF (by assumption) ?_; conv => whnf) | (refine ⟨rfl, Ints.idxN (by assumption) (by omega) (fun p hp => ?_)⟩; conv => whnf) | (refine ⟨rfl, Rows.idxN (by assumption) (by omega) (fun p y hp hy => ?_)⟩; conv => whnf) | (refine And.intro (show Kd.isBool _ = true from rfl) ?_; conv => whnf) | (refine ⟨rfl, Ints.idx (by assumption) (by omega) (by omega) (fun p hp => ?_)⟩; conv => whnf) | (refine ⟨rfl, Rows.idx (by assumption) (by omega) (by omega) (fun p y hp hy => ?_)⟩; conv => whnf) | (refine HArith.fits (by omega) (by omega) ?_; conv => whnf) | (refine Or.inl (And.intro (show Region.lexB _ _ = true by kernel_rfl) ?_); conv => whnf)))
    refine ⟨⟨i + 1, ?_, by omega, hmid.trans (Mid.set h' (hρ i (by omega)).1 (hρ i (by omega)).2 _), fun j h1 h2 => ?_, ?_, fun j hj => ?_⟩, by show L.length - (i + 1) < L.length - i; omega⟩
    · rw [tot_succ L i (by omega)]
      have : k + ((tot (L.take i) + (L.getD i []).length : Nat) : Int) = k + tot (L.take i) + (L.getD i []).length := by omega
      rw [this]
      rfl
    · rw [List.getElem?_set_ne (hm.inj i j (by omega) h2)]
      exact hrest j (by omega) h2
    · rw [List.getElem?_set_ne (hm.ne i (by omega))]
      exact hr
    · by_cases hji : j = i
      · subst hji
        exact ⟨_, List.getElem?_set_self (get_lt hi1)⟩
      · rw [List.getElem?_set_ne (fun e => hm.inj j i (by omega) (by omega) e.symm)]
        exact hdone j (by omega)
  · (conv => whnf)
    have ei : i = L.length := by omega
    subst ei
    rw [List.take_length]
    obtain ⟨cs, hc1, hc2, hc3⟩ := hm.outer
    refine ⟨rfl, hmid, r, ρ, by rw [hml], hb, he, fun j hj => hρ j (by omega), ⟨cs, by rw [hr]; exact hc1, by omega, fun j hj => ?_⟩, fun j hj => ?_, fun j hj => hm.ne j (by omega), fun j j' h1 h2 => hm.inj j j' h1 (by omega)⟩
    · rw [mrk_get k L (by omega), mrkRow, marks_length]
      exact hc3 j (by omega)
    · rw [mrk_get k L (by omega)]
      exact hdone j (by omega)

end Go.Proofs.Ytnooeaemjnmkdaa.Hx

namespace Go.Proofs.Ytnooeaemjnmkdaa.Hx
open Go.RowKit
variable {dm : Bool}

/-- A simple root; nothing where no valid matrix or no point is told. -/
def simpleRoot (c : List (List Int)) (i : Int) : List Int := if isCartan c && isPoint c i then (List.replicate c.length (0 : Int)).set i.toNat 1 else []

theorem simpleRoot_length (c : List (List Int)) (i : Int) : (simpleRoot c i).length ≤ c.length := by
  unfold simpleRoot
  split <;> simp

theorem simple_cells (n : Nat) (i : Nat) : (List.replicate n (ci 0)).set i (ci 1) = ((List.replicate n (0 : Int)).set i 1).map ci := by
  rw [← List.map_replicate, List.map_set]

theorem Fresh.intro {h h' : Heap} {x : H0} {l : List Int} (n : Nat) (t : List H0) (cs : List H0) (hx : x = .sl h.length 0 n) (hn : n = l.length) (e : h' = h ++ [.own cs]) (hc : cs = l.map ci ++ t) : Fresh h h' x l := by
  subst e
  subst hx
  subst hn
  refine ⟨Ext.push _ _, h.length, t, rfl, Nat.le_refl _, ?_⟩
  rw [← hc]
  exact get_new _ _

theorem simpleRoot_eq {c : List (List Int)} {i : Int} (h1 : isCartan c = true) (h2 : isPoint c i = true) : simpleRoot c i = (List.replicate c.length (0 : Int)).set i.toNat 1 := by simp [simpleRoot, h1, h2]
theorem simpleRoot_none {c : List (List Int)} {i : Int} (h : isCartan c = false ∨ isPoint c i = false) : simpleRoot c i = [] := by
  unfold simpleRoot
  rcases h with h | h <;> simp [h]

theorem Fresh.none (h : Heap) {l : List Int} (e : l = []) : Fresh h (h ++ [.own []]) (.sl h.length 0 0) l := by
  subst e
  exact Fresh.new h []


theorem impl_simple (h : Heap) (n : Nat) (i : Int) (hn : n ≤ 2199023255552) (h0 : 0 ≤ i) (hi : i < n) : HCalls dm Try.prog 70 [I n, I i] h (fun r h' => ∃ y, r = .s y ∧ Fresh h h' y ((List.replicate n (0 : Int)).set i.toNat 1)) := by
  refine calls_of_hFun (m := 0) kd_ok mixed Try.func70 rfl (by kernel_rfl) rfl rfl (of_decide_eq_true rfl) ?_; unfold hFun; (conv => whnf)
  refine HMake.ints n rfl hn ?_
  (conv => whnf)
  refine ⟨rfl, HIdx.sl h0 hi ?_⟩
  (conv => whnf)
  refine ⟨rfl, HStore.own (get_new _ _) (by simp; omega) rfl ?_⟩
  rw [set_new]
  (conv => whnf)
  refine ⟨_, rfl, Fresh.intro n [] _ rfl (by simp) rfl ?_⟩
  rw [List.append_nil, Nat.zero_add]
  exact simple_cells n i.toNat

theorem spec_SimpleRoot (h : Heap) (x0 : H0) (a0 : List (List Int)) (n1 : Int) (hx0 : Rows h x0 a0) (s0 : a0.length ≤ 1048576 ∧ tot a0 ≤ 1048576) (s1 : -9223372036854775808 ≤ n1 ∧ n1 ≤ 9223372036854775807) :
    HCalls dm Try.prog 42 [.s x0, I n1] h (fun r h' => ∃ y, r = .s y ∧ Fresh h h' y (simpleRoot a0 n1)) := by
  refine calls_of_hFun (m := 0) kd_ok mixed Try.func42 rfl (by kernel_rfl) rfl rfl (of_decide_eq_true rfl) ?_; unfold hFun; (conv => whnf)
  refine (spec_IsCartan _ _ _ hx0 (by omega)).mono ?_
  rintro r h' ⟨rfl, rfl⟩
  (conv => whnf)
  cases hic : isCartan a0
  · (repeat (first | (refine ⟨rfl, Ints.len (by assumption) ?_⟩; conv => whnf) | (refine ⟨rfl, Rows.len (by assumption) ?_⟩; conv => whnf) | (refine ⟨rfl, HLen.sl ?_⟩; conv => whnf) | (refine ⟨rfl, At.load (by assumption) ?_⟩; conv => whnf) | (refine HIf.yes ?_; conv => whnf) | (refine HIf.no ?_; conv => whnf) | (refine HIf.isT (by assumption) ?_; conv => whnf) | (refine HIf.isF (by assumption) ?_; conv => whnf) | (refine HIf.decT (by assumption) ?_; conv => whnf) | (refine HIf.decF (by assumption) ?_; conv => whnf) | (refine HIf.beqT (by assumption) ?_; conv => whnf) | (refine HIf.beqF (by assumption) ?_; conv => whnf) | (refine HIf.bneT (by assumption) ?_; conv => whnf) | (refine HIf.bneF (by assumption) ?_; conv => whnf) | (refine ⟨rfl, Ints.idxN (by assumption) (by omega) (fun p hp => ?_)⟩; conv => whnf) | (refine ⟨rfl, Rows.idxN (by assumption) (by omega) (fun p y hp hy => ?_)⟩; conv => whnf) | (refine And.intro (show Kd.isBool _ = true from rfl) ?_; conv => whnf) | (refine ⟨rfl, Ints.idx (by assumption) (by omega) (by omega) (fun p hp => ?_)⟩; conv => whnf) | (refine ⟨rfl, Rows.idx (by assumption) (by omega) (by omega) (fun p y hp hy => ?_)⟩; conv => whnf) | (refine HArith.fits (by omega) (by omega) ?_; conv => whnf) | (refine Or.inl (And.intro (show Region.lexB _ _ = true by kernel_rfl) ?_); conv => whnf)))
    refine HLit.empty ?_
    (conv => whnf)
    exact ⟨_, rfl, Fresh.none _ (simpleRoot_none (Or.inl hic))⟩
  (repeat (first | (refine ⟨rfl, Ints.len (by assumption) ?_⟩; conv => whnf) | (refine ⟨rfl, Rows.len (by assumption) ?_⟩; conv => whnf) | (refine ⟨rfl, HLen.sl ?_⟩; conv => whnf) | (refine ⟨rfl, At.load (by assumption) ?_⟩; conv => whnf) | (refine HIf.yes ?_; conv => whnf) | (refine HIf.no ?_; conv => whnf) | (refine HIf.isT (by assumption) ?_; conv => whnf) | (refine HIf.isF (by assumption) ?_; conv => whnf) | (refine HIf.decT (by assumption) ?_; conv => whnf) | (refine HIf.decF (by assumption) ?_; conv => whnf) | (refine HIf.beqT (by assumption) ?_; conv => whnf) | (refine HIf.beqF (by assumption) ?_; conv => whnf) | (refine HIf.bneT (by assumption) ?_; conv => whnf) | (refine HIf.bneF (by assumption) ?_; conv => whnf) | (refine ⟨rfl, Ints.idxN (by assumption) (by omega) (fun p hp => ?_)⟩; conv => whnf) | (refine ⟨rfl, Rows.idxN (by assumption) (by omega) (fun p y hp hy => ?_)⟩; conv => whnf) | (refine And.intro (show Kd.isBool _ = true from rfl) ?_; conv => whnf) | (refine ⟨rfl, Ints.idx (by assumption) (by omega) (by omega) (fun p hp => ?_)⟩; conv => whnf) | (refine ⟨rfl, Rows.idx (by assumption) (by omega) (by omega) (fun p y hp hy => ?_)⟩; conv => whnf) | (refine HArith.fits (by omega) (by omega) ?_; conv => whnf) | (refine Or.inl (And.intro (show Region.lexB _ _ = true by kernel_rfl) ?_); conv => whnf)))
  refine (spec_l1In _ _ _ _).mono ?_
  rintro r h' ⟨rfl, rfl⟩
  rw [isPoint_l1]
  (conv => whnf)
  cases hip : isPoint a0 n1
  · (repeat (first | (refine ⟨rfl, Ints.len (by assumption) ?_⟩; conv => whnf) | (refine ⟨rfl, Rows.len (by assumption) ?_⟩; conv => whnf) | (refine ⟨rfl, HLen.sl ?_⟩; conv => whnf) | (refine ⟨rfl, At.load (by assumption) ?_⟩; conv => whnf) | (refine HIf.yes ?_; conv => whnf) | (refine HIf.no ?_; conv => whnf) | (refine HIf.isT (by assumption) ?_; conv => whnf) | (refine HIf.isF (by assumption) ?_; conv => whnf) | (refine HIf.decT (by assumption) ?_; conv => whnf) | (refine HIf.decF (by assumption) ?_; conv => whnf) | (refine HIf.beqT (by assumption) ?_; conv => whnf) | (refine HIf.beqF (by assumption) ?_; conv => whnf) | (refine HIf.bneT (by assumption) ?_; conv => whnf) | (refine HIf.bneF (by assumption) ?_; conv => whnf) | (refine ⟨rfl, Ints.idxN (by assumption) (by omega) (fun p hp => ?_)⟩; conv => whnf) | (refine ⟨rfl, Rows.idxN (by assumption) (by omega) (fun p y hp hy => ?_)⟩; conv => whnf) | (refine And.intro (show Kd.isBool _ = true from rfl) ?_; conv => whnf) | (refine ⟨rfl, Ints.idx (by assumption) (by omega) (by omega) (fun p hp => ?_)⟩; conv => whnf) | (refine ⟨rfl, Rows.idx (by assumption) (by omega) (by omega) (fun p y hp hy => ?_)⟩; conv => whnf) | (refine HArith.fits (by omega) (by omega) ?_; conv => whnf) | (refine Or.inl (And.intro (show Region.lexB _ _ = true by kernel_rfl) ?_); conv => whnf)))
    refine HLit.empty ?_
    (conv => whnf)
    exact ⟨_, rfl, Fresh.none _ (simpleRoot_none (Or.inr hip))⟩
  have hp := point_of hip
  (repeat (first | (refine ⟨rfl, Ints.len (by assumption) ?_⟩; conv => whnf) | (refine ⟨rfl, Rows.len (by assumption) ?_⟩; conv => whnf) | (refine ⟨rfl, HLen.sl ?_⟩; conv => whnf) | (refine ⟨rfl, At.load (by assumption) ?_⟩; conv => whnf) | (refine HIf.yes ?_; conv => whnf) | (refine HIf.no ?_; conv => whnf) | (refine HIf.isT (by assumption) ?_; conv => whnf) | (refine HIf.isF (by assumption) ?_; conv => whnf) | (refine HIf.decT (by assumption) ?_; conv => whnf) | (refine HIf.decF (by assumption) ?_; conv => whnf) | (refine HIf.beqT (by assumption) ?_; conv => whnf) | (refine HIf.beqF (by assumption) ?_; conv => whnf) | (refine HIf.bneT (by assumption) ?_; conv => whnf) | (refine HIf.bneF (by assumption) ?_; conv => whnf) | (refine ⟨rfl, Ints.idxN (by assumption) (by omega) (fun p hp => ?_)⟩; conv => whnf) | (refine ⟨rfl, Rows.idxN (by assumption) (by omega) (fun p y hp hy => ?_)⟩; conv => whnf) | (refine And.intro (show Kd.isBool _ = true from rfl) ?_; conv => whnf) | (refine ⟨rfl, Ints.idx (by assumption) (by omega) (by omega) (fun p hp => ?_)⟩; conv => whnf) | (refine ⟨rfl, Rows.idx (by assumption) (by omega) (by omega) (fun p y hp hy => ?_)⟩; conv => whnf) | (refine HArith.fits (by omega) (by omega) ?_; conv => whnf) | (refine Or.inl (And.intro (show Region.lexB _ _ = true by kernel_rfl) ?_); conv => whnf)))
  refine HMake.ints a0.length rfl (by omega) ?_
  (conv => whnf)
  refine ⟨rfl, HIdx.sl hp.1 hp.2 ?_⟩
  (conv => whnf)
  refine ⟨rfl, HStore.own (get_new _ _) (by simp; omega) rfl ?_⟩
  rw [set_new]
  (conv => whnf)
  rw [simpleRoot_eq hic hip]
  refine ⟨_, rfl, Fresh.intro a0.length [] _ rfl (by simp) rfl ?_⟩
  rw [List.append_nil, Nat.zero_add]
  exact simple_cells _ _

end Go.Proofs.Ytnooeaemjnmkdaa.Hx
