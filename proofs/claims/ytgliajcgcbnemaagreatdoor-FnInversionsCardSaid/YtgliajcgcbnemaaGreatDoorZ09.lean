/-
  The contracts of the laws' own helpers over slices of slices of ints: sizes, copies, comparisons, marks; and what is made anew, with bounds on where it lies.
  The contracts of the laws' own helpers that copy and mark slices of slices of ints.
  Contracts of SimpleRoot and of the sums over rows and roots, of the program and of the reference.
  Contracts of reflections of roots, of the program and of the reference.
  Contracts of ReflectRoot, ActOnRoot, WeightOfRoot, of the program and of the reference.
  Contracts of WeightOfRoot, of the program and of the reference.
-/
import Derived.Test.YtgliajcgcbnemaaGreatDoorZ08
namespace Go.Proofs.YtgliajcgcbnemaaGreatDoor.Hx
open Go.RowKit
variable {dm : Bool}

/-- Rows from number a to number b (b not) may have changed, no other. -/
def Mid (h h' : Heap) (a b : Nat) : Prop := h'.length = h.length ∧ ∀ q, (q < a ∨ b ≤ q) → h'[q]? = h[q]?

/-- A slice of ints in a row of its own, of number between b and e. -/
def Own (b e : Nat) (h : Heap) (x : H0) (l : List Int) : Prop := ∃ r t, x = .sl r 0 l.length ∧ b ≤ r ∧ r < e ∧ h[r]? = some (.own (l.map ci ++ t))

theorem Fresh.own {h h' : Heap} {x : H0} {l : List Int} (H : Fresh h h' x l) : Own h.length h'.length h' x l := by
  obtain ⟨_, r, t, e, hr, hg⟩ := H
  exact ⟨r, t, e, hr, get_lt hg, hg⟩

theorem Own.ints {b e : Nat} {h : Heap} {x : H0} {l : List Int} (H : Own b e h x l) : Ints h x l := by
  obtain ⟨r, t, rfl, _, _, hr⟩ := H
  exact Ints.ofOwn hr

theorem Own.ext {b e : Nat} {h h' : Heap} {x : H0} {l : List Int} (H : Own b e h x l) (k : Ext h h') : Own b e h' x l := by
  obtain ⟨r, t, g1, g2, g3, hr⟩ := H
  exact ⟨r, t, g1, g2, g3, k.row hr⟩

/-- A slice in row r whose parts are the slices in the rows that ρ names. -/
structure MatAt (h : Heap) (r : Nat) (ρ : Nat → Nat) (L : List (List Int)) : Prop where
  outer : ∃ cs, h[r]? = some (.own cs) ∧ L.length ≤ cs.length ∧ ∀ i, i < L.length → cs[i]? = some (.sl (ρ i) 0 (L.getD i []).length)
  inner : ∀ i, i < L.length → ∃ t, h[ρ i]? = some (.own ((L.getD i []).map ci ++ t))
  ne : ∀ i, i < L.length → ρ i ≠ r
  inj : ∀ i j, i < j → j < L.length → ρ i ≠ ρ j

theorem MatAt.rows {h : Heap} {r : Nat} {ρ : Nat → Nat} {L : List (List Int)} (H : MatAt h r ρ L) : Rows h (.sl r 0 L.length) L := by
  obtain ⟨cs, h1, h2, h3⟩ := H.outer
  refine ⟨(cs.drop 0).take L.length, Shows.own r 0 L.length cs h1 (by omega), by simp; omega, fun i y l hy hl => ?_⟩
  have hi : i < L.length := (List.getElem?_eq_some_iff.1 hl).1
  rw [List.drop_zero, List.getElem?_take_of_lt hi, h3 i hi] at hy
  cases hy
  obtain ⟨t, ht⟩ := H.inner i hi
  have e : L.getD i [] = l := by simp [List.getD, hl]
  rw [e] at ht ⊢
  exact Ints.ofOwn ht

def OwnM (b e : Nat) (h : Heap) (x : H0) (L : List (List Int)) : Prop := ∃ r ρ, x = .sl r 0 L.length ∧ b ≤ r ∧ r < e ∧ (∀ i, i < L.length → b ≤ ρ i ∧ ρ i < e) ∧ MatAt h r ρ L

theorem OwnM.rows {b e : Nat} {h : Heap} {x : H0} {L : List (List Int)} (H : OwnM b e h x L) : Rows h x L := by
  obtain ⟨r, ρ, rfl, _, _, _, m⟩ := H
  exact m.rows

theorem MatAt.move {h h' : Heap} {r : Nat} {ρ : Nat → Nat} {L : List (List Int)} (H : MatAt h r ρ L) (k : h'[r]? = h[r]?) (k2 : ∀ i, i < L.length → h'[ρ i]? = h[ρ i]?) : MatAt h' r ρ L := by
  obtain ⟨o, n, e, j⟩ := H
  refine ⟨?_, fun i hi => ?_, e, j⟩
  · rw [k]
    exact o
  · rw [k2 i hi]
    exact n i hi

theorem OwnM.ext {b e : Nat} {h h' : Heap} {x : H0} {L : List (List Int)} (H : OwnM b e h x L) (k : Ext h h') : OwnM b e h' x L := by
  obtain ⟨r, ρ, g1, g2, g3, g4, m⟩ := H
  refine ⟨r, ρ, g1, g2, g3, g4, m.move ?_ (fun i hi => ?_)⟩
  · obtain ⟨cs, h1, _⟩ := m.outer
    exact k.2 r (get_lt h1)
  · obtain ⟨t, h1⟩ := m.inner i hi
    exact k.2 _ (get_lt h1)

/-- How many numbers a list of lists holds. -/
def tot : List (List Int) → Nat
  | [] => 0
  | l :: ls => l.length + tot ls

theorem tot_succ : ∀ (L : List (List Int)) (i : Nat), i < L.length → tot (L.take (i + 1)) = tot (L.take i) + (L.getD i []).length
  | [], i, h => by simp at h
  | l :: ls, 0, _ => by simp [tot]
  | l :: ls, i + 1, h => by
    have := tot_succ ls i (by simpa using h)
    simp only [List.take_succ_cons, tot, List.getD_cons_succ]
    omega

theorem tot_take_le : ∀ (L : List (List Int)) (i : Nat), tot (L.take i) ≤ tot L
  | [], i => by simp
  | l :: ls, 0 => by simp [tot]
  | l :: ls, i + 1 => by
    have := tot_take_le ls i
    simp only [List.take_succ_cons, tot]
    omega

theorem len_le_tot {L : List (List Int)} {i : Nat} (h : i < L.length) : tot (L.take i) + (L.getD i []).length ≤ tot L := by
  rw [← tot_succ L i h]
  exact tot_take_le L _

end Go.Proofs.YtgliajcgcbnemaaGreatDoor.Hx

namespace Go.Proofs.YtgliajcgcbnemaaGreatDoor.Hx
open Go.RowKit
variable {dm : Bool}

/-- The marks of row j. -/
def mrkRow (k : Int) (L : List (List Int)) (j : Nat) : List Int := marks (k + tot (L.take j)) (L.getD j []).length
def mrk (k : Int) (L : List (List Int)) : List (List Int) := (List.range L.length).map (mrkRow k L)

def nilS : H0 := .pl (.slice none 0 0)

end Go.Proofs.YtgliajcgcbnemaaGreatDoor.Hx

namespace Go.Proofs.YtgliajcgcbnemaaGreatDoor.Hx
open Go.RowKit
variable {dm : Bool}

/-- A simple root; nothing where no valid matrix or no point is told. -/
def simpleRoot (c : List (List Int)) (i : Int) : List Int := if isCartan c && isPoint c i then (List.replicate c.length (0 : Int)).set i.toNat 1 else []

theorem simpleRoot_length (c : List (List Int)) (i : Int) : (simpleRoot c i).length ≤ c.length := by
  unfold simpleRoot
  split <;> simp

theorem simple_cells (n : Nat) (i : Nat) : (List.replicate n (ci 0)).set i (ci 1) = ((List.replicate n (0 : Int)).set i 1).map ci := by
  rw [← List.map_replicate, List.map_set]

theorem Fresh.intro {h h' : Heap} {x : H0} {l : List Int} (n : Nat) (t : List H0) (cs : List H0) (hx : x = .sl h.length 0 n) (hn : n = l.length) (e : h' = h ++ [.own cs]) (hc : cs = l.map ci ++ t) : Fresh h h' x l := by
  subst e
  subst hx
  subst hn
  refine ⟨Ext.push _ _, h.length, t, rfl, Nat.le_refl _, ?_⟩
  rw [← hc]
  exact get_new _ _

theorem simpleRoot_eq {c : List (List Int)} {i : Int} (h1 : isCartan c = true) (h2 : isPoint c i = true) : simpleRoot c i = (List.replicate c.length (0 : Int)).set i.toNat 1 := by simp [simpleRoot, h1, h2]
theorem simpleRoot_none {c : List (List Int)} {i : Int} (h : isCartan c = false ∨ isPoint c i = false) : simpleRoot c i = [] := by
  unfold simpleRoot
  rcases h with h | h <;> simp [h]

theorem Fresh.none (h : Heap) {l : List Int} (e : l = []) : Fresh h (h ++ [.own []]) (.sl h.length 0 0) l := by
  subst e
  exact Fresh.new h []


theorem impl_simple (h : Heap) (n : Nat) (i : Int) (hn : n ≤ 2199023255552) (h0 : 0 ≤ i) (hi : i < n) : HCalls dm Tryz.prog 95 [I n, I i] h (fun r h' => ∃ y, r = .s y ∧ Fresh h h' y ((List.replicate n (0 : Int)).set i.toNat 1)) := by
  refine calls_of_hFun (m := 0) kd_ok mixed Tryz.func95 rfl (by kernel_rfl) rfl rfl (of_decide_eq_true rfl) ?_; unfold hFun; (conv => whnf)
  refine HMake.ints n rfl hn ?_
  (conv => whnf)
  refine ⟨rfl, HIdx.sl h0 hi ?_⟩
  (conv => whnf)
  refine ⟨rfl, HStore.own (get_new _ _) (by simp; omega) rfl ?_⟩
  rw [set_new]
  (conv => whnf)
  refine ⟨_, rfl, Fresh.intro n [] _ rfl (by simp) rfl ?_⟩
  rw [List.append_nil, Nat.zero_add]
  exact simple_cells n i.toNat

theorem spec_SimpleRoot (h : Heap) (x0 : H0) (a0 : List (List Int)) (n1 : Int) (hx0 : Rows h x0 a0) (s0 : a0.length ≤ 1048576 ∧ tot a0 ≤ 1048576) (s1 : -9223372036854775808 ≤ n1 ∧ n1 ≤ 9223372036854775807) :
    HCalls dm Tryz.prog 91 [.s x0, I n1] h (fun r h' => ∃ y, r = .s y ∧ Fresh h h' y (simpleRoot a0 n1)) := by
  refine calls_of_hFun (m := 0) kd_ok mixed Tryz.func91 rfl (by kernel_rfl) rfl rfl (of_decide_eq_true rfl) ?_; unfold hFun; (conv => whnf)
  refine (spec_IsCartan _ _ _ hx0 (by omega)).mono ?_
  rintro r h' ⟨rfl, rfl⟩
  (conv => whnf)
  cases hic : isCartan a0
  · (repeat (first | (refine ⟨rfl, Ints.len (by assumption) ?_⟩; conv => whnf) | (refine ⟨rfl, Rows.len (by assumption) ?_⟩; conv => whnf) | (refine ⟨rfl, HLen.sl ?_⟩; conv => whnf) | (refine ⟨rfl, At.load (by assumption) ?_⟩; conv => whnf) | (refine HIf.yes ?_; conv => whnf) | (refine HIf.no ?_; conv => whnf) | (refine HIf.isT (by assumption) ?_; conv => whnf) | (refine HIf.isF (by assumption) ?_; conv => whnf) | (refine HIf.decT (by assumption) ?_; conv => whnf) | (refine HIf.decF (by assumption) ?_; conv => whnf) | (refine HIf.beqT (by assumption) ?_; conv => whnf) | (refine HIf.beqF (by assumption) ?_; conv => whnf) | (refine HIf.bneT (by assumption) ?_; conv => whnf) | (refine HIf.bneF (by assumption) ?_; conv => whnf) | (refine ⟨rfl, Ints.idxN (by assumption) (by omega) (fun p hp => ?_)⟩; conv => whnf) | (refine ⟨rfl, Rows.idxN (by assumption) (by omega) (fun p y hp hy => ?_)⟩; conv => whnf) | (refine And.intro (show Kd.isBool _ = true from rfl) ?_; conv => whnf) | (refine ⟨rfl, Ints.idx (by assumption) (by omega) (by omega) (fun p hp => ?_)⟩; conv => whnf) | (refine ⟨rfl, Rows.idx (by assumption) (by omega) (by omega) (fun p y hp hy => ?_)⟩; conv => whnf) | (refine HArith.fits (by omega) (by omega) ?_; conv => whnf) | (refine Or.inl (And.intro (show Region.lexB _ _ = true by kernel_rfl) ?_); conv => whnf)))
    refine HLit.empty ?_
    (conv => whnf)
    exact ⟨_, rfl, Fresh.none _ (simpleRoot_none (Or.inl hic))⟩
  (repeat (first | (refine ⟨rfl, Ints.len (by assumption) ?_⟩; conv => whnf) | (refine ⟨rfl, Rows.len (by assumption) ?_⟩; conv => whnf) | (refine ⟨rfl, HLen.sl ?_⟩; conv => whnf) | (refine ⟨rfl, At.load (by assumption) ?_⟩; conv => whnf) | (refine HIf.yes ?_; conv => whnf) | (refine HIf.no ?_; conv => whnf) | (refine HIf.isT (by assumption) ?_; conv => whnf) | (refine HIf.isF (by assumption) ?_; conv => whnf) | (refine HIf.decT (by assumption) ?_; conv => whnf) | (refine HIf.decF (by assumption) ?_; conv => whnf) | (refine HIf.beqT (by assumption) ?_; conv => whnf) | (refine HIf.beqF (by assumption) ?_; conv => whnf) | (refine HIf.bneT (by assumption) ?_; conv => whnf) | (refine HIf.bneF (by assumption) ?_; conv => whnf) | (refine ⟨rfl, Ints.idxN (by assumption) (by omega) (fun p hp => ?_)⟩; conv => whnf) | (refine ⟨rfl, Rows.idxN (by assumption) (by omega) (fun p y hp hy => ?_)⟩; conv => whnf) | (refine And.intro (show Kd.isBool _ = true from rfl) ?_; conv => whnf) | (refine ⟨rfl, Ints.idx (by assumption) (by omega) (by omega) (fun p hp => ?_)⟩; conv => whnf) | (refine ⟨rfl, Rows.idx (by assumption) (by omega) (by omega) (fun p y hp hy => ?_)⟩; conv => whnf) | (refine HArith.fits (by omega) (by omega) ?_; conv => whnf) | (refine Or.inl (And.intro (show Region.lexB _ _ = true by kernel_rfl) ?_); conv => whnf)))
  refine (spec_l1In _ _ _ _).mono ?_
  rintro r h' ⟨rfl, rfl⟩
  rw [isPoint_l1]
  (conv => whnf)
  cases hip : isPoint a0 n1
  · (repeat (first | (refine ⟨rfl, Ints.len (by assumption) ?_⟩; conv => whnf) | (refine ⟨rfl, Rows.len (by assumption) ?_⟩; conv => whnf) | (refine ⟨rfl, HLen.sl ?_⟩; conv => whnf) | (refine ⟨rfl, At.load (by assumption) ?_⟩; conv => whnf) | (refine HIf.yes ?_; conv => whnf) | (refine HIf.no ?_; conv => whnf) | (refine HIf.isT (by assumption) ?_; conv => whnf) | (refine HIf.isF (by assumption) ?_; conv => whnf) | (refine HIf.decT (by assumption) ?_; conv => whnf) | (refine HIf.decF (by assumption) ?_; conv => whnf) | (refine HIf.beqT (by assumption) ?_; conv => whnf) | (refine HIf.beqF (by assumption) ?_; conv => whnf) | (refine HIf.bneT (by assumption) ?_; conv => whnf) | (refine HIf.bneF (by assumption) ?_; conv => whnf) | (refine ⟨rfl, Ints.idxN (by assumption) (by omega) (fun p hp => ?_)⟩; conv => whnf) | (refine ⟨rfl, Rows.idxN (by assumption) (by omega) (fun p y hp hy => ?_)⟩; conv => whnf) | (refine And.intro (show Kd.isBool _ = true from rfl) ?_; conv => whnf) | (refine ⟨rfl, Ints.idx (by assumption) (by omega) (by omega) (fun p hp => ?_)⟩; conv => whnf) | (refine ⟨rfl, Rows.idx (by assumption) (by omega) (by omega) (fun p y hp hy => ?_)⟩; conv => whnf) | (refine HArith.fits (by omega) (by omega) ?_; conv => whnf) | (refine Or.inl (And.intro (show Region.lexB _ _ = true by kernel_rfl) ?_); conv => whnf)))
    refine HLit.empty ?_
    (conv => whnf)
    exact ⟨_, rfl, Fresh.none _ (simpleRoot_none (Or.inr hip))⟩
  have hp := point_of hip
  (repeat (first | (refine ⟨rfl, Ints.len (by assumption) ?_⟩; conv => whnf) | (refine ⟨rfl, Rows.len (by assumption) ?_⟩; conv => whnf) | (refine ⟨rfl, HLen.sl ?_⟩; conv => whnf) | (refine ⟨rfl, At.load (by assumption) ?_⟩; conv => whnf) | (refine HIf.yes ?_; conv => whnf) | (refine HIf.no ?_; conv => whnf) | (refine HIf.isT (by assumption) ?_; conv => whnf) | (refine HIf.isF (by assumption) ?_; conv => whnf) | (refine HIf.decT (by assumption) ?_; conv => whnf) | (refine HIf.decF (by assumption) ?_; conv => whnf) | (refine HIf.beqT (by assumption) ?_; conv => whnf) | (refine HIf.beqF (by assumption) ?_; conv => whnf) | (refine HIf.bneT (by assumption) ?_; conv => whnf) | (refine HIf.bneF (by assumption) ?_; conv => whnf) | (refine ⟨rfl, Ints.idxN (by assumption) (by omega) (fun p hp => ?_)⟩; conv => whnf) | (refine ⟨rfl, Rows.idxN (by assumption) (by omega) (fun p y hp hy => ?_)⟩; conv => whnf) | (refine And.intro (show Kd.isBool _ = true from rfl) ?_; conv => whnf) | (refine ⟨rfl, Ints.idx (by assumption) (by omega) (by omega) (fun p hp => ?_)⟩; conv => whnf) | (refine ⟨rfl, Rows.idx (by assumption) (by omega) (by omega) (fun p y hp hy => ?_)⟩; conv => whnf) | (refine HArith.fits (by omega) (by omega) ?_; conv => whnf) | (refine Or.inl (And.intro (show Region.lexB _ _ = true by kernel_rfl) ?_); conv => whnf)))
  refine HMake.ints a0.length rfl (by omega) ?_
  (conv => whnf)
  refine ⟨rfl, HIdx.sl hp.1 hp.2 ?_⟩
  (conv => whnf)
  refine ⟨rfl, HStore.own (get_new _ _) (by simp; omega) rfl ?_⟩
  rw [set_new]
  (conv => whnf)
  rw [simpleRoot_eq hic hip]
  refine ⟨_, rfl, Fresh.intro a0.length [] _ rfl (by simp) rfl ?_⟩
  rw [List.append_nil, Nat.zero_add]
  exact simple_cells _ _

end Go.Proofs.YtgliajcgcbnemaaGreatDoor.Hx

namespace Go.Proofs.YtgliajcgcbnemaaGreatDoor.Hx
open Go.RowKit
variable {dm : Bool}

theorem HApp.copy {h : Heap} {x : H0} {l : List Int} {K : HV → Heap → Prop} (hx : Ints h x l) (hl : l.length ≤ 2199023255552) (hK : ∀ h' y, Ext h h' → Own h.length h'.length h' y l → K (.s y) h') : HApp (h ++ [.own []]) (.s (.sl h.length 0 0)) (.s x) K := by
  refine ⟨l.map ci, Shows.ext hx (Ext.push _ _), ci_one l, [], rfl, get_new _ _, Nat.zero_le _, Or.inl ⟨by simpa using hl, ?_⟩⟩
  have e1 : 0 + (l.map ci).length = l.length := by simp
  rw [e1]
  refine hK _ _ (((Ext.push h _).set (Nat.le_refl _) _).pushed _) ⟨_, [], rfl, by simp, by simp, ?_⟩
  rw [List.append_nil, List.take_nil, List.nil_append]
  simp

/-- A literal of one number, appended to what one has. -/
theorem HApp.snoc {hb h : Heap} {y : H0} {l : List Int} {v : Int} {K : HV → Heap → Prop} (E : Ext hb h) (H : Own hb.length h.length h y l) (hl : l.length < 2199023255552) (hK : ∀ h' y', Ext hb h' → Own hb.length h'.length h' y' (l ++ [v]) → K (.s y') h') :
    HApp (h ++ [.own [ci v]]) (.s y) (.s (.sl h.length 0 1)) K := by
  obtain ⟨r, t, rfl, h1, h2, hr⟩ := H
  refine ⟨[ci v], ?_, by simp [H0.one, Value.oneCell'], l.map ci ++ t, rfl, (Ext.push h _).row hr, by simp, Or.inl ⟨by simp; omega, ?_⟩⟩
  · have := Shows.own h.length 0 1 _ (get_new h (.own [ci v])) (by simp)
    simpa using this
  have e1 : l.length + [ci v].length = (l ++ [v]).length := by simp
  have e2 : (l.map ci ++ t).take l.length ++ [ci v] = (l ++ [v]).map ci := by rw [List.take_append_of_le_length (by simp), List.take_of_length_le (by simp)]; simp
  rw [e1, e2]
  refine hK _ _ (((E.pushed _).set h1 _).pushed _) ⟨_, [], rfl, by have := E.1; simp; omega, by simp, ?_⟩
  rw [List.append_nil]
  simp

theorem HLit.one {z : Value} {v : Int} {h : Heap} {K : HV → Heap → Prop} (hK : K (.s (.sl h.length 0 1)) (h ++ [.own [ci v]])) : HLit z 1 (some [ci v]) h K := ⟨[ci v], rfl, rfl, by omega, by simp [H0.one, Value.oneCell'], hK⟩

theorem Fresh.of {h h' : Heap} {x : H0} {l : List Int} (E : Ext h h') (H : Own h.length h'.length h' x l) : Fresh h h' x l := by
  obtain ⟨r, t, g1, g2, _, g4⟩ := H
  exact ⟨E, r, t, g1, g2, g4⟩

theorem HCallF.same {P : Program} {k : FuncId} {args : List HV} {h : Heap} {K : HV → Heap → Prop} {R : HV → Heap → Prop} (v : HV) (hc : HCalls dm P k args (freeze h) R) (hr : ∀ x h', R x h' → x = v ∧ h' = freeze h) (hK : K v h) : HCallF dm P k args h K :=
  ⟨hc.mono fun x h' r => by
    obtain ⟨rfl, rfl⟩ := hr x h' r
    exact ⟨[], by simp, by simp, by simpa using hK⟩⟩

/-- The sum of the first products. -/
def dotTo (a b : List Int) : Nat → Int
  | 0 => 0
  | k + 1 => w64 (dotTo a b k + w64 (a.getD k 0 * b.getD k 0))

def mirror (c : List (List Int)) (i : Nat) (r : List Int) : List Int := r.set i (w64 (r.getD i 0 - dotTo (c.getD i []) r r.length))

theorem mirror_length (c : List (List Int)) (i : Nat) (r : List Int) : (mirror c i r).length = r.length := by simp [mirror]

theorem dotTo_succ (a b : List Int) (k : Nat) : dotTo a b (k + 1) = w64 (dotTo a b k + w64 (a.getD k 0 * b.getD k 0)) := rfl

theorem Own.store {hb h : Heap} {y : H0} {l : List Int} {i : Nat} {v : Int} (E : Ext hb h) (H : Own hb.length h.length h y l) (hi : i < l.length) :
    ∃ r cs, y = .sl r 0 l.length ∧ h[r]? = some (.own cs) ∧ i < cs.length ∧ Ext hb (h.set r (.own (cs.set i (ci v)))) ∧ Own hb.length (h.set r (.own (cs.set i (ci v)))).length (h.set r (.own (cs.set i (ci v)))) y (l.set i v) := by
  obtain ⟨r, t, rfl, h1, h2, hr⟩ := H
  refine ⟨r, _, rfl, hr, by simp; omega, E.set h1 _, r, t, by simp, h1, by simp; omega, ?_⟩
  rw [List.getElem?_set_self h2, List.set_append_left _ _ (by simpa using hi), List.map_set]


theorem impl_pairing (h : Heap) (x y : H0) (a b : List Int) (hx : Ints h x a) (hy : Ints h y b) (hb : b.length ≤ 2199023255552) (hl : b.length ≤ a.length) :
    HCalls dm Tryz.prog 211 [.s x, .s y] h (fun r h' => r = I (dotTo a b b.length) ∧ h' = h) := by
  refine calls_of_hFun (m := 0) kd_ok mixed Tryz.func211 rfl (by kernel_rfl) rfl rfl (of_decide_eq_true rfl) ?_; unfold hFun; (conv => whnf)
  (repeat (first | (refine ⟨rfl, Ints.len (by assumption) ?_⟩; conv => whnf) | (refine ⟨rfl, Rows.len (by assumption) ?_⟩; conv => whnf) | (refine ⟨rfl, HLen.sl ?_⟩; conv => whnf) | (refine ⟨rfl, At.load (by assumption) ?_⟩; conv => whnf) | (refine HIf.yes ?_; conv => whnf) | (refine HIf.no ?_; conv => whnf) | (refine HIf.isT (by assumption) ?_; conv => whnf) | (refine HIf.isF (by assumption) ?_; conv => whnf) | (refine HIf.decT (by assumption) ?_; conv => whnf) | (refine HIf.decF (by assumption) ?_; conv => whnf) | (refine HIf.beqT (by assumption) ?_; conv => whnf) | (refine HIf.beqF (by assumption) ?_; conv => whnf) | (refine HIf.bneT (by assumption) ?_; conv => whnf) | (refine HIf.bneF (by assumption) ?_; conv => whnf) | (refine ⟨rfl, Ints.idxN (by assumption) (by omega) (fun p hp => ?_)⟩; conv => whnf) | (refine ⟨rfl, Rows.idxN (by assumption) (by omega) (fun p y hp hy => ?_)⟩; conv => whnf) | (refine And.intro (show Kd.isBool _ = true from rfl) ?_; conv => whnf) | (refine ⟨rfl, Ints.idx (by assumption) (by omega) (by omega) (fun p hp => ?_)⟩; conv => whnf) | (refine ⟨rfl, Rows.idx (by assumption) (by omega) (by omega) (fun p y hp hy => ?_)⟩; conv => whnf) | (refine HArith.fits (by omega) (by omega) ?_; conv => whnf) | (refine Or.inl (And.intro (show Region.lexB _ _ = true by kernel_rfl) ?_); conv => whnf)))
  refine HLoop.intro [10, 5] [11, 12, 13, 14, 6, 7, 15, 16, 17, 18, 19, 20, 21, 22, 5, 23, 10] (by kernel_rfl) (by kernel_rfl) (fun vs h' => ∃ i : Nat, vs = [I i, I (dotTo a b i)] ∧ i ≤ b.length ∧ h' = h) (fun vs _ => b.length - natAt vs 0) ⟨0, rfl, by omega, rfl⟩ ?_
  rintro vs h' ⟨i, rfl, hi, rfl⟩
  (conv => whnf)
  refine HIf.dec (fun hlt => ?_) (fun hge => ?_)
  · (conv => whnf)
    refine ⟨rfl, Ints.idxN hy (by omega) (fun p hp => ?_)⟩
    (conv => whnf)
    refine ⟨rfl, hp.load ?_⟩
    (conv => whnf)
    refine ⟨rfl, Ints.idxN hx (by omega) (fun p2 hp2 => ?_)⟩
    (conv => whnf)
    refine ⟨rfl, hp2.load ?_⟩
    (conv => whnf)
    refine HArith.any ?_
    (conv => whnf)
    refine HArith.any ?_
    (conv => whnf)
    refine HArith.fits (by omega) (by omega) ?_
    (conv => whnf)
    exact ⟨⟨i + 1, by rw [dotTo_succ]; rfl, by omega, rfl⟩, by show b.length - (i + 1) < b.length - i; omega⟩
  · (conv => whnf)
    have e : i = b.length := by omega
    subst e
    exact ⟨rfl, rfl⟩

theorem spec_l7Reflect (h : Heap) (x y : H0) (c : List (List Int)) (i : Nat) (r : List Int) (hx : Rows h x c) (hy : Ints h y r) (hi : i < c.length) (hr : i < r.length) (hl : r.length ≤ (c.getD i []).length) (hb : r.length ≤ 1048576) :
    HCalls dm Tryz.prog 157 [.s x, I i, .s y] h (fun v h' => ∃ y', v = .s y' ∧ Fresh h h' y' (mirror c i r)) := by
  refine calls_of_hFun (m := 0) kd_ok mixed Tryz.func157 rfl (by kernel_rfl) rfl rfl (of_decide_eq_true rfl) ?_; unfold hFun; (conv => whnf)
  refine HLit.empty ?_
  (conv => whnf)
  refine ⟨rfl, rfl, HApp.copy hy (by omega) (fun h1 y1 E O => ?_)⟩
  have hx1 := hx.ext E
  have hy1 := hy.ext E
  (conv => whnf)
  refine HLoop.intro [9, 8] [13, 14, 15, 16, 19, 20, 21, 22, 23, 24, 25, 26, 27, 28, 29, 30, 31, 32, 8, 17, 18, 9] (by kernel_rfl) (by kernel_rfl) (fun vs h' => ∃ j : Nat, vs = [I j, I (dotTo (c.getD i []) r j)] ∧ j ≤ r.length ∧ h' = h1) (fun vs _ => r.length - natAt vs 0) ⟨0, rfl, by omega, rfl⟩ ?_
  rintro vs h' ⟨j, rfl, hj, rfl⟩
  (conv => whnf)
  refine ⟨rfl, hy1.len ?_⟩
  (conv => whnf)
  refine HIf.dec (fun hlt => ?_) (fun hge => ?_)
  · (conv => whnf)
    refine Or.inl (And.intro (show Region.lexB _ _ = true by kernel_rfl) ?_); (conv => whnf)
    refine ⟨rfl, Rows.idxN hx1 hi (fun p z hp hz => ?_)⟩
    (conv => whnf)
    refine ⟨rfl, hp.load ?_⟩
    (conv => whnf)
    refine ⟨rfl, Ints.idxN hz (by omega) (fun p2 hp2 => ?_)⟩
    (conv => whnf)
    refine ⟨rfl, hp2.load ?_⟩
    (conv => whnf)
    refine ⟨rfl, Ints.idxN hy1 (by omega) (fun p3 hp3 => ?_)⟩
    (conv => whnf)
    refine ⟨rfl, hp3.load ?_⟩
    (conv => whnf)
    refine HArith.any ?_
    (conv => whnf)
    refine HArith.any ?_
    (conv => whnf)
    refine HArith.fits (by omega) (by omega) ?_
    (conv => whnf)
    exact ⟨⟨j + 1, by rw [dotTo_succ]; rfl, by omega, rfl⟩, by show r.length - (j + 1) < r.length - j; omega⟩
  · have e : j = r.length := by omega
    subst e
    obtain ⟨q, cs, rfl, hq, hql, E2, O2⟩ := Own.store (v := w64 (r.getD i 0 - dotTo (c.getD i []) r r.length)) E O hr
    (conv => whnf)
    refine ⟨rfl, Ints.idxN hy1 hr (fun p hp => ?_)⟩
    (conv => whnf)
    refine ⟨rfl, hp.load ?_⟩
    (conv => whnf)
    refine HArith.any ?_
    (conv => whnf)
    refine ⟨rfl, HIdx.sl (by omega) (by omega) ?_⟩
    (conv => whnf)
    refine ⟨rfl, HStore.own hq (by omega) rfl ?_⟩
    (conv => whnf)
    have e0 : 0 + (i : Int).toNat = i := by omega
    rw [e0]
    exact ⟨_, rfl, Fresh.of E2 O2⟩

theorem impl_mirrored (h : Heap) (x y : H0) (c : List (List Int)) (i : Nat) (r : List Int) (hx : Rows h x c) (hy : Ints h y r) (hi : i < c.length) (hr : i < r.length) (hl : r.length ≤ (c.getD i []).length) (hb : r.length ≤ 1048576) :
    HCalls dm Tryz.prog 160 [.s x, I i, .s y] h (fun v h' => ∃ y', v = .s y' ∧ Fresh h h' y' (mirror c i r)) := by
  refine calls_of_hFun (m := 0) kd_ok mixed Tryz.func160 rfl (by kernel_rfl) rfl rfl (of_decide_eq_true rfl) ?_; unfold hFun; (conv => whnf)
  refine HLit.empty ?_
  (conv => whnf)
  refine ⟨rfl, rfl, HApp.copy hy (by omega) (fun h1 y1 E O => ?_)⟩
  have hx1 := hx.ext E
  have hy1 := hy.ext E
  obtain ⟨q, cs, rfl, hq, hql, E2, O2⟩ := Own.store (v := w64 (r.getD i 0 - dotTo (c.getD i []) r r.length)) E O hr
  (conv => whnf)
  refine Or.inr (Or.inr (Or.inl (Exists.intro 12 (Exists.intro [0, 1, 2, 3, 4, 5, 6, 7, 8] (Exists.intro [9, 10, 11, 12] (And.intro (show heldOk _ _ _ _ = true by kernel_rfl) ?_)))))); (conv => whnf)
  refine ⟨rfl, Ints.idxN O.ints hr (fun p hp => ?_)⟩
  (conv => whnf)
  refine ⟨rfl, hp.load ?_⟩
  (conv => whnf)
  refine ⟨rfl, Rows.idxN hx1 hi (fun p2 z hp2 hz => ?_)⟩
  (conv => whnf)
  refine ⟨rfl, hp2.load ?_⟩
  (conv => whnf)
  refine HCallF.same _ (impl_pairing _ _ _ _ _ hz.frz hy1.frz (by omega) hl) (fun x h' e => e) ?_
  (conv => whnf)
  refine HArith.any ?_
  (conv => whnf)
  refine ⟨rfl, HIdx.sl (by omega) (by omega) ?_⟩
  (conv => whnf)
  refine ⟨rfl, HStore.own hq (by omega) rfl ?_⟩
  (conv => whnf)
  have e0 : 0 + (i : Int).toNat = i := by omega
  rw [e0]
  exact ⟨_, rfl, Fresh.of E2 O2⟩

end Go.Proofs.YtgliajcgcbnemaaGreatDoor.Hx

namespace Go.Proofs.YtgliajcgcbnemaaGreatDoor.Hx
open Go.RowKit
variable {dm : Bool}

def reflectRoot (c : List (List Int)) (i : Int) (r : List Int) : List Int := if isCartan c && decide (r.length = c.length) && isPoint c i then mirror c i.toNat r else r

theorem reflectRoot_length (c : List (List Int)) (i : Int) (r : List Int) : (reflectRoot c i r).length = r.length := by
  unfold reflectRoot
  split
  · exact mirror_length _ _ _
  · rfl

theorem reflectRoot_off {c : List (List Int)} {i : Int} {r : List Int} (h : isCartan c = false ∨ r.length ≠ c.length ∨ isPoint c i = false) : reflectRoot c i r = r := by
  unfold reflectRoot
  rcases h with h | h | h <;> simp [h]

theorem reflectRoot_on {c : List (List Int)} {i : Int} {r : List Int} (h1 : isCartan c = true) (h2 : r.length = c.length) (h3 : isPoint c i = true) : reflectRoot c i r = mirror c i.toNat r := by
  unfold reflectRoot
  simp [h1, h2, h3]

/-- A word applied to a root, from its end. -/
def actR (c : List (List Int)) : List Int → List Int → List Int
  | [], r => r
  | i :: w, r => mirror c i.toNat (actR c w r)

theorem actR_length (c : List (List Int)) : ∀ (w r : List Int), (actR c w r).length = r.length
  | [], _ => rfl
  | i :: w, r => by rw [actR, mirror_length, actR_length c w r]

theorem actR_drop (c : List (List Int)) (w r : List Int) {k : Nat} (h : k < w.length) : actR c (w.drop k) r = mirror c (w.getD k 0).toNat (actR c (w.drop (k + 1)) r) := by
  rw [List.drop_eq_getElem_cons h, actR]
  simp [List.getD, h]

def actOnRoot (c : List (List Int)) (w r : List Int) : List Int := if isWord c w && decide (r.length = c.length) then actR c w r else r

theorem actOnRoot_off {c : List (List Int)} {w r : List Int} (h : isWord c w = false ∨ r.length ≠ c.length) : actOnRoot c w r = r := by
  unfold actOnRoot
  rcases h with h | h <;> simp [h]

theorem actOnRoot_on {c : List (List Int)} {w r : List Int} (h1 : isWord c w = true) (h2 : r.length = c.length) : actOnRoot c w r = actR c w r := by
  unfold actOnRoot
  simp [h1, h2]

theorem word_cartan {c : List (List Int)} {w : List Int} (h : isWord c w = true) : Cartan c ∧ w.length ≤ 15 ∧ lettersOk c w = true := by
  simp only [isWord, Bool.and_eq_true, decide_eq_true_eq] at h
  exact ⟨(isCartan_iff c).1 h.1.1, h.1.2, h.2⟩

def wrow (c : List (List Int)) (r : List Int) (k : Nat) : Int := dotTo (c.getD k []) r c.length
def weightOf (c : List (List Int)) (r : List Int) : List Int := if isCartan c && decide (r.length = c.length) then (List.range c.length).map (wrow c r) else []

theorem eq_nat {n : Int} (h : 0 ≤ n) : ∃ k : Nat, n = k := ⟨n.toNat, by omega⟩


theorem spec_ReflectRoot (h : Heap) (x0 : H0) (a0 : List (List Int)) (n1 : Int) (x2 : H0) (a2 : List Int) (hx0 : Rows h x0 a0) (hx2 : Ints h x2 a2) (s0 : a0.length ≤ 1048576 ∧ tot a0 ≤ 1048576) (s1 : -9223372036854775808 ≤ n1 ∧ n1 ≤ 9223372036854775807) (s2 : a2.length ≤ 1048576) :
    HCalls dm Tryz.prog 106 [.s x0, I n1, .s x2] h (fun r h' => ∃ y, r = .s y ∧ Fresh h h' y (reflectRoot a0 n1 a2)) := by
  refine calls_of_hFun (m := 0) kd_ok mixed Tryz.func106 rfl (by kernel_rfl) rfl rfl (of_decide_eq_true rfl) ?_; unfold hFun; (conv => whnf)
  refine (spec_IsCartan _ _ _ hx0 (by omega)).mono ?_
  rintro r h' ⟨rfl, rfl⟩
  (conv => whnf)
  cases hic : isCartan a0
  · (repeat (first | (refine ⟨rfl, Ints.len (by assumption) ?_⟩; conv => whnf) | (refine ⟨rfl, Rows.len (by assumption) ?_⟩; conv => whnf) | (refine ⟨rfl, HLen.sl ?_⟩; conv => whnf) | (refine ⟨rfl, At.load (by assumption) ?_⟩; conv => whnf) | (refine HIf.yes ?_; conv => whnf) | (refine HIf.no ?_; conv => whnf) | (refine HIf.isT (by assumption) ?_; conv => whnf) | (refine HIf.isF (by assumption) ?_; conv => whnf) | (refine HIf.decT (by assumption) ?_; conv => whnf) | (refine HIf.decF (by assumption) ?_; conv => whnf) | (refine HIf.beqT (by assumption) ?_; conv => whnf) | (refine HIf.beqF (by assumption) ?_; conv => whnf) | (refine HIf.bneT (by assumption) ?_; conv => whnf) | (refine HIf.bneF (by assumption) ?_; conv => whnf) | (refine ⟨rfl, Ints.idxN (by assumption) (by omega) (fun p hp => ?_)⟩; conv => whnf) | (refine ⟨rfl, Rows.idxN (by assumption) (by omega) (fun p y hp hy => ?_)⟩; conv => whnf) | (refine And.intro (show Kd.isBool _ = true from rfl) ?_; conv => whnf) | (refine ⟨rfl, Ints.idx (by assumption) (by omega) (by omega) (fun p hp => ?_)⟩; conv => whnf) | (refine ⟨rfl, Rows.idx (by assumption) (by omega) (by omega) (fun p y hp hy => ?_)⟩; conv => whnf) | (refine HArith.fits (by omega) (by omega) ?_; conv => whnf) | (refine Or.inl (And.intro (show Region.lexB _ _ = true by kernel_rfl) ?_); conv => whnf)))
    refine HLit.empty ?_
    (conv => whnf)
    refine ⟨rfl, rfl, HApp.copy hx2 (by omega) (fun h1 y1 E O => ?_)⟩
    (conv => whnf)
    rw [reflectRoot_off (Or.inl hic)]
    exact ⟨_, rfl, Fresh.of E O⟩
  (repeat (first | (refine ⟨rfl, Ints.len (by assumption) ?_⟩; conv => whnf) | (refine ⟨rfl, Rows.len (by assumption) ?_⟩; conv => whnf) | (refine ⟨rfl, HLen.sl ?_⟩; conv => whnf) | (refine ⟨rfl, At.load (by assumption) ?_⟩; conv => whnf) | (refine HIf.yes ?_; conv => whnf) | (refine HIf.no ?_; conv => whnf) | (refine HIf.isT (by assumption) ?_; conv => whnf) | (refine HIf.isF (by assumption) ?_; conv => whnf) | (refine HIf.decT (by assumption) ?_; conv => whnf) | (refine HIf.decF (by assumption) ?_; conv => whnf) | (refine HIf.beqT (by assumption) ?_; conv => whnf) | (refine HIf.beqF (by assumption) ?_; conv => whnf) | (refine HIf.bneT (by assumption) ?_; conv => whnf) | (refine HIf.bneF (by assumption) ?_; conv => whnf) | (refine ⟨rfl, Ints.idxN (by assumption) (by omega) (fun p hp => ?_)⟩; conv => whnf) | (refine ⟨rfl, Rows.idxN (by assumption) (by omega) (fun p y hp hy => ?_)⟩; conv => whnf) | (refine And.intro (show Kd.isBool _ = true from rfl) ?_; conv => whnf) | (refine ⟨rfl, Ints.idx (by assumption) (by omega) (by omega) (fun p hp => ?_)⟩; conv => whnf) | (refine ⟨rfl, Rows.idx (by assumption) (by omega) (by omega) (fun p y hp hy => ?_)⟩; conv => whnf) | (refine HArith.fits (by omega) (by omega) ?_; conv => whnf) | (refine Or.inl (And.intro (show Region.lexB _ _ = true by kernel_rfl) ?_); conv => whnf)))
  refine HIf.bne (fun hne => ?_) (fun heq => ?_)
  · (conv => whnf)
    (repeat (first | (refine ⟨rfl, Ints.len (by assumption) ?_⟩; conv => whnf) | (refine ⟨rfl, Rows.len (by assumption) ?_⟩; conv => whnf) | (refine ⟨rfl, HLen.sl ?_⟩; conv => whnf) | (refine ⟨rfl, At.load (by assumption) ?_⟩; conv => whnf) | (refine HIf.yes ?_; conv => whnf) | (refine HIf.no ?_; conv => whnf) | (refine HIf.isT (by assumption) ?_; conv => whnf) | (refine HIf.isF (by assumption) ?_; conv => whnf) | (refine HIf.decT (by assumption) ?_; conv => whnf) | (refine HIf.decF (by assumption) ?_; conv => whnf) | (refine HIf.beqT (by assumption) ?_; conv => whnf) | (refine HIf.beqF (by assumption) ?_; conv => whnf) | (refine HIf.bneT (by assumption) ?_; conv => whnf) | (refine HIf.bneF (by assumption) ?_; conv => whnf) | (refine ⟨rfl, Ints.idxN (by assumption) (by omega) (fun p hp => ?_)⟩; conv => whnf) | (refine ⟨rfl, Rows.idxN (by assumption) (by omega) (fun p y hp hy => ?_)⟩; conv => whnf) | (refine And.intro (show Kd.isBool _ = true from rfl) ?_; conv => whnf) | (refine ⟨rfl, Ints.idx (by assumption) (by omega) (by omega) (fun p hp => ?_)⟩; conv => whnf) | (refine ⟨rfl, Rows.idx (by assumption) (by omega) (by omega) (fun p y hp hy => ?_)⟩; conv => whnf) | (refine HArith.fits (by omega) (by omega) ?_; conv => whnf) | (refine Or.inl (And.intro (show Region.lexB _ _ = true by kernel_rfl) ?_); conv => whnf)))
    refine HLit.empty ?_
    (conv => whnf)
    refine ⟨rfl, rfl, HApp.copy hx2 (by omega) (fun h1 y1 E O => ?_)⟩
    (conv => whnf)
    rw [reflectRoot_off (Or.inr (Or.inl (by omega)))]
    exact ⟨_, rfl, Fresh.of E O⟩
  (conv => whnf)
  (repeat (first | (refine ⟨rfl, Ints.len (by assumption) ?_⟩; conv => whnf) | (refine ⟨rfl, Rows.len (by assumption) ?_⟩; conv => whnf) | (refine ⟨rfl, HLen.sl ?_⟩; conv => whnf) | (refine ⟨rfl, At.load (by assumption) ?_⟩; conv => whnf) | (refine HIf.yes ?_; conv => whnf) | (refine HIf.no ?_; conv => whnf) | (refine HIf.isT (by assumption) ?_; conv => whnf) | (refine HIf.isF (by assumption) ?_; conv => whnf) | (refine HIf.decT (by assumption) ?_; conv => whnf) | (refine HIf.decF (by assumption) ?_; conv => whnf) | (refine HIf.beqT (by assumption) ?_; conv => whnf) | (refine HIf.beqF (by assumption) ?_; conv => whnf) | (refine HIf.bneT (by assumption) ?_; conv => whnf) | (refine HIf.bneF (by assumption) ?_; conv => whnf) | (refine ⟨rfl, Ints.idxN (by assumption) (by omega) (fun p hp => ?_)⟩; conv => whnf) | (refine ⟨rfl, Rows.idxN (by assumption) (by omega) (fun p y hp hy => ?_)⟩; conv => whnf) | (refine And.intro (show Kd.isBool _ = true from rfl) ?_; conv => whnf) | (refine ⟨rfl, Ints.idx (by assumption) (by omega) (by omega) (fun p hp => ?_)⟩; conv => whnf) | (refine ⟨rfl, Rows.idx (by assumption) (by omega) (by omega) (fun p y hp hy => ?_)⟩; conv => whnf) | (refine HArith.fits (by omega) (by omega) ?_; conv => whnf) | (refine Or.inl (And.intro (show Region.lexB _ _ = true by kernel_rfl) ?_); conv => whnf)))
  refine (spec_l1In _ _ _ _).mono ?_
  rintro r h' ⟨rfl, rfl⟩
  rw [isPoint_l1]
  (conv => whnf)
  cases hip : isPoint a0 n1
  · (repeat (first | (refine ⟨rfl, Ints.len (by assumption) ?_⟩; conv => whnf) | (refine ⟨rfl, Rows.len (by assumption) ?_⟩; conv => whnf) | (refine ⟨rfl, HLen.sl ?_⟩; conv => whnf) | (refine ⟨rfl, At.load (by assumption) ?_⟩; conv => whnf) | (refine HIf.yes ?_; conv => whnf) | (refine HIf.no ?_; conv => whnf) | (refine HIf.isT (by assumption) ?_; conv => whnf) | (refine HIf.isF (by assumption) ?_; conv => whnf) | (refine HIf.decT (by assumption) ?_; conv => whnf) | (refine HIf.decF (by assumption) ?_; conv => whnf) | (refine HIf.beqT (by assumption) ?_; conv => whnf) | (refine HIf.beqF (by assumption) ?_; conv => whnf) | (refine HIf.bneT (by assumption) ?_; conv => whnf) | (refine HIf.bneF (by assumption) ?_; conv => whnf) | (refine ⟨rfl, Ints.idxN (by assumption) (by omega) (fun p hp => ?_)⟩; conv => whnf) | (refine ⟨rfl, Rows.idxN (by assumption) (by omega) (fun p y hp hy => ?_)⟩; conv => whnf) | (refine And.intro (show Kd.isBool _ = true from rfl) ?_; conv => whnf) | (refine ⟨rfl, Ints.idx (by assumption) (by omega) (by omega) (fun p hp => ?_)⟩; conv => whnf) | (refine ⟨rfl, Rows.idx (by assumption) (by omega) (by omega) (fun p y hp hy => ?_)⟩; conv => whnf) | (refine HArith.fits (by omega) (by omega) ?_; conv => whnf) | (refine Or.inl (And.intro (show Region.lexB _ _ = true by kernel_rfl) ?_); conv => whnf)))
    refine HLit.empty ?_
    (conv => whnf)
    refine ⟨rfl, rfl, HApp.copy hx2 (by omega) (fun h1 y1 E O => ?_)⟩
    (conv => whnf)
    rw [reflectRoot_off (Or.inr (Or.inr hip))]
    exact ⟨_, rfl, Fresh.of E O⟩
  have hp := point_of hip
  have hC := (isCartan_iff a0).1 hic
  rw [reflectRoot_on hic (by omega) hip]
  obtain ⟨k, rfl⟩ := eq_nat hp.1
  have hrow := hC.row k (by omega)
  (repeat (first | (refine ⟨rfl, Ints.len (by assumption) ?_⟩; conv => whnf) | (refine ⟨rfl, Rows.len (by assumption) ?_⟩; conv => whnf) | (refine ⟨rfl, HLen.sl ?_⟩; conv => whnf) | (refine ⟨rfl, At.load (by assumption) ?_⟩; conv => whnf) | (refine HIf.yes ?_; conv => whnf) | (refine HIf.no ?_; conv => whnf) | (refine HIf.isT (by assumption) ?_; conv => whnf) | (refine HIf.isF (by assumption) ?_; conv => whnf) | (refine HIf.decT (by assumption) ?_; conv => whnf) | (refine HIf.decF (by assumption) ?_; conv => whnf) | (refine HIf.beqT (by assumption) ?_; conv => whnf) | (refine HIf.beqF (by assumption) ?_; conv => whnf) | (refine HIf.bneT (by assumption) ?_; conv => whnf) | (refine HIf.bneF (by assumption) ?_; conv => whnf) | (refine ⟨rfl, Ints.idxN (by assumption) (by omega) (fun p hp => ?_)⟩; conv => whnf) | (refine ⟨rfl, Rows.idxN (by assumption) (by omega) (fun p y hp hy => ?_)⟩; conv => whnf) | (refine And.intro (show Kd.isBool _ = true from rfl) ?_; conv => whnf) | (refine ⟨rfl, Ints.idx (by assumption) (by omega) (by omega) (fun p hp => ?_)⟩; conv => whnf) | (refine ⟨rfl, Rows.idx (by assumption) (by omega) (by omega) (fun p y hp hy => ?_)⟩; conv => whnf) | (refine HArith.fits (by omega) (by omega) ?_; conv => whnf) | (refine Or.inl (And.intro (show Region.lexB _ _ = true by kernel_rfl) ?_); conv => whnf)))
  refine (spec_l7Reflect _ _ _ a0 k a2 hx0 hx2 (by omega) (by omega) (by omega) (by omega)).mono ?_
  rintro r h' ⟨y, rfl, hf⟩
  (conv => whnf)
  exact ⟨_, rfl, hf⟩

theorem impl_ReflectRoot (h : Heap) (x0 : H0) (a0 : List (List Int)) (n1 : Int) (x2 : H0) (a2 : List Int) (hx0 : Rows h x0 a0) (hx2 : Ints h x2 a2) (s0 : a0.length ≤ 1048576 ∧ tot a0 ≤ 1048576) (s1 : -9223372036854775808 ≤ n1 ∧ n1 ≤ 9223372036854775807) (s2 : a2.length ≤ 1048576) :
    HCalls dm Tryz.prog 97 [.s x0, I n1, .s x2] h (fun r h' => ∃ y, r = .s y ∧ Fresh h h' y (reflectRoot a0 n1 a2)) := by
  refine calls_of_hFun (m := 0) kd_ok mixed Tryz.func97 rfl (by kernel_rfl) rfl rfl (of_decide_eq_true rfl) ?_; unfold hFun; (conv => whnf)
  refine (impl_IsCartan _ _ _ hx0 (by omega)).mono ?_
  rintro r h' ⟨rfl, rfl⟩
  (conv => whnf)
  cases hic : isCartan a0
  · (repeat (first | (refine ⟨rfl, Ints.len (by assumption) ?_⟩; conv => whnf) | (refine ⟨rfl, Rows.len (by assumption) ?_⟩; conv => whnf) | (refine ⟨rfl, HLen.sl ?_⟩; conv => whnf) | (refine ⟨rfl, At.load (by assumption) ?_⟩; conv => whnf) | (refine HIf.yes ?_; conv => whnf) | (refine HIf.no ?_; conv => whnf) | (refine HIf.isT (by assumption) ?_; conv => whnf) | (refine HIf.isF (by assumption) ?_; conv => whnf) | (refine HIf.decT (by assumption) ?_; conv => whnf) | (refine HIf.decF (by assumption) ?_; conv => whnf) | (refine HIf.beqT (by assumption) ?_; conv => whnf) | (refine HIf.beqF (by assumption) ?_; conv => whnf) | (refine HIf.bneT (by assumption) ?_; conv => whnf) | (refine HIf.bneF (by assumption) ?_; conv => whnf) | (refine ⟨rfl, Ints.idxN (by assumption) (by omega) (fun p hp => ?_)⟩; conv => whnf) | (refine ⟨rfl, Rows.idxN (by assumption) (by omega) (fun p y hp hy => ?_)⟩; conv => whnf) | (refine And.intro (show Kd.isBool _ = true from rfl) ?_; conv => whnf) | (refine ⟨rfl, Ints.idx (by assumption) (by omega) (by omega) (fun p hp => ?_)⟩; conv => whnf) | (refine ⟨rfl, Rows.idx (by assumption) (by omega) (by omega) (fun p y hp hy => ?_)⟩; conv => whnf) | (refine HArith.fits (by omega) (by omega) ?_; conv => whnf) | (refine Or.inl (And.intro (show Region.lexB _ _ = true by kernel_rfl) ?_); conv => whnf)))
    refine HLit.empty ?_
    (conv => whnf)
    refine ⟨rfl, rfl, HApp.copy hx2 (by omega) (fun h1 y1 E O => ?_)⟩
    (conv => whnf)
    rw [reflectRoot_off (Or.inl hic)]
    exact ⟨_, rfl, Fresh.of E O⟩
  (repeat (first | (refine ⟨rfl, Ints.len (by assumption) ?_⟩; conv => whnf) | (refine ⟨rfl, Rows.len (by assumption) ?_⟩; conv => whnf) | (refine ⟨rfl, HLen.sl ?_⟩; conv => whnf) | (refine ⟨rfl, At.load (by assumption) ?_⟩; conv => whnf) | (refine HIf.yes ?_; conv => whnf) | (refine HIf.no ?_; conv => whnf) | (refine HIf.isT (by assumption) ?_; conv => whnf) | (refine HIf.isF (by assumption) ?_; conv => whnf) | (refine HIf.decT (by assumption) ?_; conv => whnf) | (refine HIf.decF (by assumption) ?_; conv => whnf) | (refine HIf.beqT (by assumption) ?_; conv => whnf) | (refine HIf.beqF (by assumption) ?_; conv => whnf) | (refine HIf.bneT (by assumption) ?_; conv => whnf) | (refine HIf.bneF (by assumption) ?_; conv => whnf) | (refine ⟨rfl, Ints.idxN (by assumption) (by omega) (fun p hp => ?_)⟩; conv => whnf) | (refine ⟨rfl, Rows.idxN (by assumption) (by omega) (fun p y hp hy => ?_)⟩; conv => whnf) | (refine And.intro (show Kd.isBool _ = true from rfl) ?_; conv => whnf) | (refine ⟨rfl, Ints.idx (by assumption) (by omega) (by omega) (fun p hp => ?_)⟩; conv => whnf) | (refine ⟨rfl, Rows.idx (by assumption) (by omega) (by omega) (fun p y hp hy => ?_)⟩; conv => whnf) | (refine HArith.fits (by omega) (by omega) ?_; conv => whnf) | (refine Or.inl (And.intro (show Region.lexB _ _ = true by kernel_rfl) ?_); conv => whnf)))
  refine HIf.bne (fun hne => ?_) (fun heq => ?_)
  · (conv => whnf)
    (repeat (first | (refine ⟨rfl, Ints.len (by assumption) ?_⟩; conv => whnf) | (refine ⟨rfl, Rows.len (by assumption) ?_⟩; conv => whnf) | (refine ⟨rfl, HLen.sl ?_⟩; conv => whnf) | (refine ⟨rfl, At.load (by assumption) ?_⟩; conv => whnf) | (refine HIf.yes ?_; conv => whnf) | (refine HIf.no ?_; conv => whnf) | (refine HIf.isT (by assumption) ?_; conv => whnf) | (refine HIf.isF (by assumption) ?_; conv => whnf) | (refine HIf.decT (by assumption) ?_; conv => whnf) | (refine HIf.decF (by assumption) ?_; conv => whnf) | (refine HIf.beqT (by assumption) ?_; conv => whnf) | (refine HIf.beqF (by assumption) ?_; conv => whnf) | (refine HIf.bneT (by assumption) ?_; conv => whnf) | (refine HIf.bneF (by assumption) ?_; conv => whnf) | (refine ⟨rfl, Ints.idxN (by assumption) (by omega) (fun p hp => ?_)⟩; conv => whnf) | (refine ⟨rfl, Rows.idxN (by assumption) (by omega) (fun p y hp hy => ?_)⟩; conv => whnf) | (refine And.intro (show Kd.isBool _ = true from rfl) ?_; conv => whnf) | (refine ⟨rfl, Ints.idx (by assumption) (by omega) (by omega) (fun p hp => ?_)⟩; conv => whnf) | (refine ⟨rfl, Rows.idx (by assumption) (by omega) (by omega) (fun p y hp hy => ?_)⟩; conv => whnf) | (refine HArith.fits (by omega) (by omega) ?_; conv => whnf) | (refine Or.inl (And.intro (show Region.lexB _ _ = true by kernel_rfl) ?_); conv => whnf)))
    refine HLit.empty ?_
    (conv => whnf)
    refine ⟨rfl, rfl, HApp.copy hx2 (by omega) (fun h1 y1 E O => ?_)⟩
    (conv => whnf)
    rw [reflectRoot_off (Or.inr (Or.inl (by omega)))]
    exact ⟨_, rfl, Fresh.of E O⟩
  (conv => whnf)
  (repeat (first | (refine ⟨rfl, Ints.len (by assumption) ?_⟩; conv => whnf) | (refine ⟨rfl, Rows.len (by assumption) ?_⟩; conv => whnf) | (refine ⟨rfl, HLen.sl ?_⟩; conv => whnf) | (refine ⟨rfl, At.load (by assumption) ?_⟩; conv => whnf) | (refine HIf.yes ?_; conv => whnf) | (refine HIf.no ?_; conv => whnf) | (refine HIf.isT (by assumption) ?_; conv => whnf) | (refine HIf.isF (by assumption) ?_; conv => whnf) | (refine HIf.decT (by assumption) ?_; conv => whnf) | (refine HIf.decF (by assumption) ?_; conv => whnf) | (refine HIf.beqT (by assumption) ?_; conv => whnf) | (refine HIf.beqF (by assumption) ?_; conv => whnf) | (refine HIf.bneT (by assumption) ?_; conv => whnf) | (refine HIf.bneF (by assumption) ?_; conv => whnf) | (refine ⟨rfl, Ints.idxN (by assumption) (by omega) (fun p hp => ?_)⟩; conv => whnf) | (refine ⟨rfl, Rows.idxN (by assumption) (by omega) (fun p y hp hy => ?_)⟩; conv => whnf) | (refine And.intro (show Kd.isBool _ = true from rfl) ?_; conv => whnf) | (refine ⟨rfl, Ints.idx (by assumption) (by omega) (by omega) (fun p hp => ?_)⟩; conv => whnf) | (refine ⟨rfl, Rows.idx (by assumption) (by omega) (by omega) (fun p y hp hy => ?_)⟩; conv => whnf) | (refine HArith.fits (by omega) (by omega) ?_; conv => whnf) | (refine Or.inl (And.intro (show Region.lexB _ _ = true by kernel_rfl) ?_); conv => whnf)))
  refine (impl_isPoint _ _ _ _ hx0).mono ?_
  rintro r h' ⟨rfl, rfl⟩
  (conv => whnf)
  cases hip : isPoint a0 n1
  · (repeat (first | (refine ⟨rfl, Ints.len (by assumption) ?_⟩; conv => whnf) | (refine ⟨rfl, Rows.len (by assumption) ?_⟩; conv => whnf) | (refine ⟨rfl, HLen.sl ?_⟩; conv => whnf) | (refine ⟨rfl, At.load (by assumption) ?_⟩; conv => whnf) | (refine HIf.yes ?_; conv => whnf) | (refine HIf.no ?_; conv => whnf) | (refine HIf.isT (by assumption) ?_; conv => whnf) | (refine HIf.isF (by assumption) ?_; conv => whnf) | (refine HIf.decT (by assumption) ?_; conv => whnf) | (refine HIf.decF (by assumption) ?_; conv => whnf) | (refine HIf.beqT (by assumption) ?_; conv => whnf) | (refine HIf.beqF (by assumption) ?_; conv => whnf) | (refine HIf.bneT (by assumption) ?_; conv => whnf) | (refine HIf.bneF (by assumption) ?_; conv => whnf) | (refine ⟨rfl, Ints.idxN (by assumption) (by omega) (fun p hp => ?_)⟩; conv => whnf) | (refine ⟨rfl, Rows.idxN (by assumption) (by omega) (fun p y hp hy => ?_)⟩; conv => whnf) | (refine And.intro (show Kd.isBool _ = true from rfl) ?_; conv => whnf) | (refine ⟨rfl, Ints.idx (by assumption) (by omega) (by omega) (fun p hp => ?_)⟩; conv => whnf) | (refine ⟨rfl, Rows.idx (by assumption) (by omega) (by omega) (fun p y hp hy => ?_)⟩; conv => whnf) | (refine HArith.fits (by omega) (by omega) ?_; conv => whnf) | (refine Or.inl (And.intro (show Region.lexB _ _ = true by kernel_rfl) ?_); conv => whnf)))
    refine HLit.empty ?_
    (conv => whnf)
    refine ⟨rfl, rfl, HApp.copy hx2 (by omega) (fun h1 y1 E O => ?_)⟩
    (conv => whnf)
    rw [reflectRoot_off (Or.inr (Or.inr hip))]
    exact ⟨_, rfl, Fresh.of E O⟩
  have hp := point_of hip
  have hC := (isCartan_iff a0).1 hic
  rw [reflectRoot_on hic (by omega) hip]
  obtain ⟨k, rfl⟩ := eq_nat hp.1
  have hrow := hC.row k (by omega)
  (repeat (first | (refine ⟨rfl, Ints.len (by assumption) ?_⟩; conv => whnf) | (refine ⟨rfl, Rows.len (by assumption) ?_⟩; conv => whnf) | (refine ⟨rfl, HLen.sl ?_⟩; conv => whnf) | (refine ⟨rfl, At.load (by assumption) ?_⟩; conv => whnf) | (refine HIf.yes ?_; conv => whnf) | (refine HIf.no ?_; conv => whnf) | (refine HIf.isT (by assumption) ?_; conv => whnf) | (refine HIf.isF (by assumption) ?_; conv => whnf) | (refine HIf.decT (by assumption) ?_; conv => whnf) | (refine HIf.decF (by assumption) ?_; conv => whnf) | (refine HIf.beqT (by assumption) ?_; conv => whnf) | (refine HIf.beqF (by assumption) ?_; conv => whnf) | (refine HIf.bneT (by assumption) ?_; conv => whnf) | (refine HIf.bneF (by assumption) ?_; conv => whnf) | (refine ⟨rfl, Ints.idxN (by assumption) (by omega) (fun p hp => ?_)⟩; conv => whnf) | (refine ⟨rfl, Rows.idxN (by assumption) (by omega) (fun p y hp hy => ?_)⟩; conv => whnf) | (refine And.intro (show Kd.isBool _ = true from rfl) ?_; conv => whnf) | (refine ⟨rfl, Ints.idx (by assumption) (by omega) (by omega) (fun p hp => ?_)⟩; conv => whnf) | (refine ⟨rfl, Rows.idx (by assumption) (by omega) (by omega) (fun p y hp hy => ?_)⟩; conv => whnf) | (refine HArith.fits (by omega) (by omega) ?_; conv => whnf) | (refine Or.inl (And.intro (show Region.lexB _ _ = true by kernel_rfl) ?_); conv => whnf)))
  refine (impl_mirrored _ _ _ a0 k a2 hx0 hx2 (by omega) (by omega) (by omega) (by omega)).mono ?_
  rintro r h' ⟨y, rfl, hf⟩
  (conv => whnf)
  exact ⟨_, rfl, hf⟩

end Go.Proofs.YtgliajcgcbnemaaGreatDoor.Hx

namespace Go.Proofs.YtgliajcgcbnemaaGreatDoor.Hx
open Go.RowKit
variable {dm : Bool}

theorem Own.none (h : Heap) : Own h.length (h ++ [Row.own []]).length (h ++ [Row.own []]) (.sl h.length 0 0) [] := ⟨h.length, [], rfl, Nat.le_refl _, by simp, get_new _ _⟩
end Go.Proofs.YtgliajcgcbnemaaGreatDoor.Hx
