/-
  The neighbours of a point, of the program and of the reference.
  Parts of a diagram, in plain words: what is reached from a point along bonds.
  A search along bonds, in plain words: what is seen, what stands in the queue.
  Bools in a row of one's own; the parts of a diagram as lists, in plain words.
  Slices of slices whose rows lie in any set; a row that is there, appended to such a slice; slices.Sort at ints, led over to rows.
  The parts of a diagram, of the reference.
  DERIVED: THE SHELF's CONTRACTS AT THIS DUMP, IN PLAIN WORDS (tools/lay-plain.mjs out of 'YtgliajcgcbnemaaGreatDoorSs.lean', which tools/lay-shelf.mjs wrote): THE SAME DECLARATIONS UNDER THE SAME NAMES: 'import', 'namespace', 'open', 'def', 'theorem' AND NOTHING ELSE: no command of the shelf's: FOR A HAND-IN. Each laying: the table of numbers ('.._ren') and one theorem, a field a fact of the dump's own or the kernel's comparison; each contract: ONE APPLICATION.
-/
import Derived.Test.YtgliajcgcbnemaaGreatDoorZ14
import Derived.Shelf.Sort.Plain
import Derived.Ground.NamesProg
import Derived.Test.YtgliajcgcbnemaaGreatDoorProg
namespace Go.Proofs.YtgliajcgcbnemaaGreatDoor.Hx
open Go.RowKit
variable {dm : Bool}

/-- The neighbours of point i below k. -/
def nbrTo (c : List (List Int)) (i k : Nat) : List Int := ((List.range k).filter fun j => decide (j ≠ i) && decide ((c.getD i []).getD j 0 ≠ 0)).map fun (j : Nat) => (j : Int)
theorem nbrTo_in {c : List (List Int)} {i k : Nat} (h : k ≠ i) (h2 : (c.getD i []).getD k 0 ≠ 0) : nbrTo c i (k + 1) = nbrTo c i k ++ [(k : Int)] := by
  unfold nbrTo
  rw [List.range_succ, List.filter_append, List.map_append, List.filter_cons_of_pos (by simp only [Bool.and_eq_true, decide_eq_true_eq]; exact ⟨h, h2⟩), List.filter_nil]
  rfl
theorem nbrTo_out {c : List (List Int)} {i k : Nat} (h : k = i ∨ (c.getD i []).getD k 0 = 0) : nbrTo c i (k + 1) = nbrTo c i k := by
  unfold nbrTo
  rw [List.range_succ, List.filter_append, List.map_append, List.filter_cons_of_neg (by
    simp only [Bool.and_eq_true, decide_eq_true_eq]
    rintro ⟨a, b⟩
    rcases h with h | h
    · exact a h
    · exact b h), List.filter_nil, List.map_nil, List.append_nil]
theorem nbrTo_len (c : List (List Int)) (i k : Nat) : (nbrTo c i k).length ≤ k := by
  unfold nbrTo
  rw [List.length_map]
  have := List.length_filter_le (fun j => decide (j ≠ i) && decide ((c.getD i []).getD j 0 ≠ 0)) (List.range k)
  rwa [List.length_range] at this
theorem mem_nbrTo {c : List (List Int)} {i k : Nat} {x : Int} : x ∈ nbrTo c i k ↔ ∃ j : Nat, x = j ∧ j < k ∧ j ≠ i ∧ (c.getD i []).getD j 0 ≠ 0 := by
  unfold nbrTo
  simp only [List.mem_map, List.mem_filter, List.mem_range, Bool.and_eq_true, decide_eq_true_eq]
  constructor
  · rintro ⟨j, ⟨h1, h2, h3⟩, rfl⟩
    exact ⟨j, rfl, h1, h2, h3⟩
  · rintro ⟨j, rfl, h1, h2, h3⟩
    exact ⟨j, ⟨h1, h2, h3⟩, rfl⟩


set_option maxHeartbeats 1000000 in
theorem impl_NeighboursOf (h : Heap) (x : H0) (c : List (List Int)) (i : Nat) (hx : Rows h x c) (hC : Cartan c) (hi : i < c.length) :
    HCalls dm Tryz.prog 188 [.s x, I i] h (fun r h' => ∃ y, r = .s y ∧ Fresh h h' y (nbrTo c i c.length)) := by
  have h4 := hC.le
  have hic : isCartan c = true := (isCartan_iff c).2 hC
  have hp : isPoint c (i : Int) = true := by simp [isPoint, inRange]; omega
  have hrow := hC.row i hi
  refine calls_of_hFun (m := 0) kd_ok mixed Tryz.func188 rfl (by kernel_rfl) rfl rfl (of_decide_eq_true rfl) ?_; unfold hFun; (conv => whnf)
  have E0 := Ext.push h [Row.own []]
  refine HLit.empty ?_
  (conv => whnf)
  refine (impl_IsCartan _ _ _ (hx.ext E0) (by omega)).mono ?_
  rintro r h1 ⟨rfl, hh⟩
  subst hh
  rw [hic]
  (conv => whnf)
  (repeat (first | (refine HIf.no ?_; (conv => whnf)) | (refine HIf.yes ?_; (conv => whnf))))
  refine (impl_isPoint _ _ c (i : Int) (hx.ext E0)).mono ?_
  rintro r h2 ⟨rfl, hh⟩
  subst hh
  rw [hp]
  (conv => whnf)
  (repeat (first | (refine HIf.no ?_; (conv => whnf)) | (refine HIf.yes ?_; (conv => whnf))))
  refine ⟨rfl, (hx.ext E0).len ?_⟩
  (conv => whnf)
  refine HLoop.intro [20, 5] [21, 22, 6, 23, 24, 25, 26, 27, 28, 29, 30, 31, 32, 33, 34, 35, 36, 37, 38, 39, 5, 40, 20] (by kernel_rfl) (by kernel_rfl) (fun vs h' => ∃ (k : Nat) (z : H0), vs = [I k, .s z] ∧ k ≤ c.length ∧ Ext h h' ∧ Own h.length h'.length h' z (nbrTo c i k)) (fun vs _ => c.length - natAt vs 0) ⟨0, _, rfl, by omega, E0, Own.none h⟩ ?_
  clear E0
  rintro vs h' ⟨k, z, rfl, hk, E, O⟩
  have hnl := nbrTo_len c i k
  (conv => whnf)
  refine HIf.dec (fun hlt => ?_) (fun hge => ?_)
  rotate_left
  · have e : k = c.length := by omega
    subst e
    (conv => whnf)
    exact ⟨_, rfl, Fresh.of E O⟩
  have hkl : k < c.length := by omega
  have next : k = i ∨ (c.getD i []).getD k 0 = 0 → ∃ (k_1 : Nat) (z_1 : H0), [I ((k : Int) + 1), .s z] = [I k_1, .s z_1] ∧ k_1 ≤ c.length ∧ Ext h h' ∧ Own h.length h'.length h' z_1 (nbrTo c i k_1) := fun hno => ⟨k + 1, z, rfl, by omega, E, by rw [nbrTo_out hno]; exact O⟩
  (conv => whnf)
  by_cases c1 : (k : Int) = (i : Int)
  · (repeat (refine HIf.bneF c1 ?_; (conv => whnf)))
    (repeat (refine HIf.no ?_; (conv => whnf)))
    refine HArith.fits (by omega) (by omega) ?_
    (conv => whnf)
    exact ⟨next (Or.inl (by omega)), by show c.length - (k + 1) < c.length - k; omega⟩
  refine HIf.bneT c1 ?_
  (conv => whnf)
  refine HIf.bneT c1 ?_
  (conv => whnf)
  refine HIf.bneT c1 ?_
  (conv => whnf)
  refine ⟨rfl, Rows.idxN (hx.ext E) hi (fun p y hp hy => ?_)⟩
  (conv => whnf)
  refine HIf.bneT c1 ?_
  (conv => whnf)
  refine ⟨rfl, hp.load ?_⟩
  (conv => whnf)
  refine HIf.bneT c1 ?_
  (conv => whnf)
  refine HIf.bneT c1 ?_
  (conv => whnf)
  refine ⟨rfl, hy.idxN (by omega) (fun p2 hp2 => ?_)⟩
  (conv => whnf)
  refine HIf.bneT c1 ?_
  (conv => whnf)
  refine ⟨rfl, hp2.load ?_⟩
  (conv => whnf)
  refine HIf.bneT c1 ?_
  (conv => whnf)
  refine HIf.bneT c1 ?_
  (conv => whnf)
  refine HIf.bne (fun c2 => ?_) (fun c2 => ?_)
  · (conv => whnf)
    refine HLit.one ?_
    (conv => whnf)
    refine ⟨rfl, rfl, HApp.snoc E O (by omega) (fun h4 y4 E4 O4 => ?_)⟩
    rw [← nbrTo_in (by omega) c2] at O4
    (conv => whnf)
    refine HArith.fits (by omega) (by omega) ?_
    (conv => whnf)
    exact ⟨⟨k + 1, y4, rfl, by omega, E4, O4⟩, by show c.length - (k + 1) < c.length - k; omega⟩
  · (conv => whnf)
    refine HArith.fits (by omega) (by omega) ?_
    (conv => whnf)
    exact ⟨next (Or.inr c2), by show c.length - (k + 1) < c.length - k; omega⟩

set_option maxHeartbeats 1000000 in
theorem spec_NeighboursOf (h : Heap) (x : H0) (c : List (List Int)) (i : Nat) (hx : Rows h x c) (hC : Cartan c) (hi : i < c.length) :
    HCalls dm Tryz.prog 221 [.s x, I i] h (fun r h' => ∃ y, r = .s y ∧ Fresh h h' y (nbrTo c i c.length)) := by
  have h4 := hC.le
  have hic : isCartan c = true := (isCartan_iff c).2 hC
  have hin : (decide (0 ≤ (i : Int)) && decide ((i : Int) ≤ (c.length : Int) - 1)) = true := by simp; omega
  have hrow := hC.row i hi
  refine calls_of_hFun (m := 0) kd_ok mixed Tryz.func221 rfl (by kernel_rfl) rfl rfl (of_decide_eq_true rfl) ?_; unfold hFun; (conv => whnf)
  have E0 := Ext.push h [Row.own []]
  refine HLit.empty ?_
  (conv => whnf)
  refine HLoop.intro [6, 5] [8, 9, 10, 11, 12, 13, 14, 15, 16, 17, 18, 19, 20, 21, 22, 25, 26, 27, 28, 29, 30, 31, 32, 33, 34, 35, 36, 37, 38, 39, 40, 41, 5, 23, 24, 6] (by kernel_rfl) (by kernel_rfl) (fun vs h' => ∃ (k : Nat) (z : H0), vs = [I k, .s z] ∧ k ≤ c.length ∧ Ext h h' ∧ Own h.length h'.length h' z (nbrTo c i k)) (fun vs _ => c.length - natAt vs 0) ⟨0, _, rfl, by omega, E0, Own.none h⟩ ?_
  clear E0
  rintro vs h' ⟨k, z, rfl, hk, E, O⟩
  have hnl := nbrTo_len c i k
  (conv => whnf)
  refine ⟨rfl, (hx.ext E).len ?_⟩
  (conv => whnf)
  by_cases c0 : (k : Int) < (c.length : Int)
  rotate_left
  · have e : k = c.length := by omega
    subst e
    (repeat (refine HIf.decF c0 ?_; (conv => whnf)))
    (repeat (refine HIf.no ?_; (conv => whnf)))
    exact ⟨_, rfl, Fresh.of E O⟩
  have hkl : k < c.length := by omega
  have next : k = i ∨ (c.getD i []).getD k 0 = 0 → ∃ (k_1 : Nat) (z_1 : H0), [I ((k : Int) + 1), .s z] = [I k_1, .s z_1] ∧ k_1 ≤ c.length ∧ Ext h h' ∧ Own h.length h'.length h' z_1 (nbrTo c i k_1) := fun hno => ⟨k + 1, z, rfl, by omega, E, by rw [nbrTo_out hno]; exact O⟩
  refine HIf.decT c0 ?_
  (conv => whnf)
  refine HIf.decT c0 ?_
  (conv => whnf)
  refine (spec_IsCartan _ _ _ (hx.ext E) (by omega)).mono ?_
  rintro r h2 ⟨rfl, hh⟩
  subst hh
  rw [hic]
  (conv => whnf)
  refine HIf.decT c0 ?_
  (conv => whnf)
  (repeat (refine HIf.yes ?_; (conv => whnf)))
  refine ⟨rfl, (hx.ext E).len ?_⟩
  (conv => whnf)
  (repeat (refine HIf.yes ?_; (conv => whnf)))
  refine HArith.fits (by omega) (by omega) ?_
  (conv => whnf)
  (repeat (refine HIf.yes ?_; (conv => whnf)))
  refine (spec_l1In _ _ _ _).mono ?_
  rintro r h3 ⟨rfl, hh⟩
  subst hh
  rw [hin]
  (conv => whnf)
  (repeat (refine HIf.yes ?_; (conv => whnf)))
  by_cases c1 : (k : Int) = (i : Int)
  · (repeat (refine HIf.bneF c1 ?_; (conv => whnf)))
    (repeat (refine HIf.no ?_; (conv => whnf)))
    refine HArith.fits (by omega) (by omega) ?_
    (conv => whnf)
    exact ⟨next (Or.inl (by omega)), by show c.length - (k + 1) < c.length - k; omega⟩
  refine HIf.bneT c1 ?_
  (conv => whnf)
  refine HIf.bneT c1 ?_
  (conv => whnf)
  refine HIf.bneT c1 ?_
  (conv => whnf)
  refine ⟨rfl, Rows.idxN (hx.ext E) hi (fun p y hp hy => ?_)⟩
  (conv => whnf)
  refine HIf.bneT c1 ?_
  (conv => whnf)
  refine ⟨rfl, hp.load ?_⟩
  (conv => whnf)
  refine HIf.bneT c1 ?_
  (conv => whnf)
  refine HIf.bneT c1 ?_
  (conv => whnf)
  refine ⟨rfl, hy.idxN (by omega) (fun p2 hp2 => ?_)⟩
  (conv => whnf)
  refine HIf.bneT c1 ?_
  (conv => whnf)
  refine ⟨rfl, hp2.load ?_⟩
  (conv => whnf)
  refine HIf.bneT c1 ?_
  (conv => whnf)
  refine HIf.bneT c1 ?_
  (conv => whnf)
  refine HIf.bne (fun c2 => ?_) (fun c2 => ?_)
  · (conv => whnf)
    refine HLit.one ?_
    (conv => whnf)
    refine ⟨rfl, rfl, HApp.snoc E O (by omega) (fun h4 y4 E4 O4 => ?_)⟩
    rw [← nbrTo_in (by omega) c2] at O4
    (conv => whnf)
    refine HArith.fits (by omega) (by omega) ?_
    (conv => whnf)
    exact ⟨⟨k + 1, y4, rfl, by omega, E4, O4⟩, by show c.length - (k + 1) < c.length - k; omega⟩
  · (conv => whnf)
    refine HArith.fits (by omega) (by omega) ?_
    (conv => whnf)
    exact ⟨next (Or.inr c2), by show c.length - (k + 1) < c.length - k; omega⟩

end Go.Proofs.YtgliajcgcbnemaaGreatDoor.Hx

namespace Go.Proofs.YtgliajcgcbnemaaGreatDoor.Hx
open Go.RowKit

def Adj (c : List (List Int)) (i j : Nat) : Prop := j < c.length ∧ j ≠ i ∧ (c.getD i []).getD j 0 ≠ 0

inductive Rch (c : List (List Int)) (a : Nat) : Nat → Prop
  | here : Rch c a a
  | step {j k : Nat} (h : Rch c a j) (s : Adj c j k) : Rch c a k

theorem Rch.trans {c : List (List Int)} {a b d : Nat} (h : Rch c a b) (k : Rch c b d) : Rch c a d := by
  induction k with
  | here => exact h
  | step _ s ih => exact ih.step s

theorem Rch.lt {c : List (List Int)} {a b : Nat} (h : Rch c a b) (ha : a < c.length) : b < c.length := by
  cases h with
  | here => exact ha
  | step _ s => exact s.1

/-- A set that holds the start and is closed under bonds holds all that is reached. -/
theorem Rch.closed {c : List (List Int)} {a : Nat} {S : Nat → Prop} (h0 : S a) (hs : ∀ j, S j → ∀ k, Adj c j k → S k) {b : Nat} (h : Rch c a b) : S b := by
  induction h with
  | here => exact h0
  | step _ s ih => exact hs _ ih _ s

theorem Adj.symm {c : List (List Int)} (hC : Cartan c) {i j : Nat} (hi : i < c.length) (h : Adj c i j) : Adj c j i := by
  obtain ⟨h1, h2, h3⟩ := h
  refine ⟨hi, fun e => h2 e.symm, fun e => h3 ?_⟩
  have hb := hC.ok i hi j h1
  have hne : ¬ i = j := fun e => h2 e.symm
  simp only [cartBad, ent, hne, decide_false, Bool.false_and, Bool.not_false, Bool.true_and, Bool.false_or, Bool.or_eq_false_iff, Bool.not_eq_false', beq_iff_eq] at hb
  have h4 := hb.2
  rw [e] at h4
  simpa using h4

theorem Rch.symm {c : List (List Int)} (hC : Cartan c) {a b : Nat} (ha : a < c.length) (h : Rch c a b) : Rch c b a := by
  induction h with
  | here => exact .here
  | step h s ih => exact (Rch.here.step (s.symm hC (h.lt ha))).trans ih

open Classical in
/-- The first point of its part. -/
noncomputable def isMin (c : List (List Int)) (i : Nat) : Bool := decide (∀ j, j < i → ¬ Rch c j i)
noncomputable def partsN (c : List (List Int)) : Nat := ((List.range c.length).filter (isMin c)).length
noncomputable def isConn (c : List (List Int)) : Bool := isCartan c && decide (partsN c = 1)

end Go.Proofs.YtgliajcgcbnemaaGreatDoor.Hx

namespace Go.Proofs.YtgliajcgcbnemaaGreatDoor.Hx
open Go.RowKit

structure Srch (c : List (List Int)) (a : Nat) (S0 : Nat → Prop) (S : List Bool) (Q : List Int) (k : Nat) : Prop where
  len : S.length = c.length
  seen : ∀ j, j < c.length → (S.getD j false = true ↔ S0 j ∨ (j : Int) ∈ Q)
  rch : ∀ x ∈ Q, ∃ j : Nat, x = j ∧ j < c.length ∧ Rch c a j ∧ ¬ S0 j
  nodup : Q.Nodup
  head : (a : Int) ∈ Q
  done : ∀ t, t < k → ∀ j, Adj c (Q.getD t 0).toNat j → S.getD j false = true

theorem set_getD_bool {S : List Bool} {i j : Nat} (hi : i < S.length) : (S.set i true).getD j false = if j = i then true else S.getD j false := by
  simp only [List.getD, List.getElem?_set]
  by_cases e : i = j
  · subst e; simp [hi]
  · simp [e, Ne.symm e]

theorem Srch.push {c : List (List Int)} {a : Nat} {S0 : Nat → Prop} {S : List Bool} {Q : List Int} {k j : Nat} (H : Srch c a S0 S Q k) (hk : k < Q.length) (ha : Adj c (Q.getD k 0).toNat j) (hn : S.getD j false = false) : Srch c a S0 (S.set j true) (Q ++ [(j : Int)]) k := by
  have hj := ha.1
  have hjS : j < S.length := by rw [H.len]; exact hj
  have hns : ¬ (S0 j ∨ (j : Int) ∈ Q) := fun e => by
    have := (H.seen j hj).2 e
    rw [hn] at this
    cases this
  have hqk : Q.getD k 0 ∈ Q := by
    have e : Q.getD k 0 = Q[k] := by simp [List.getD, hk]
    rw [e]
    exact List.getElem_mem hk
  obtain ⟨q, hq, _, hqr, _⟩ := H.rch _ hqk
  rw [hq] at ha
  refine ⟨by rw [List.length_set]; exact H.len, fun i hi => ?_, fun x hx => ?_, ?_, List.mem_append_left _ H.head, fun t ht i hi => ?_⟩
  · rw [set_getD_bool hjS]
    by_cases e : i = j
    · subst e; simp
    · rw [if_neg e, H.seen i hi, List.mem_append]
      constructor
      · rintro (g | g)
        · exact Or.inl g
        · exact Or.inr (Or.inl g)
      · rintro (g | g | g)
        · exact Or.inl g
        · exact Or.inr g
        · have g : (i : Int) = (j : Int) := by simpa using g
          exact absurd (by omega) e
  · rcases List.mem_append.1 hx with hx | hx
    · exact H.rch x hx
    · have e : x = j := by simpa using hx
      exact ⟨j, e, hj, hqr.step ha, fun e => hns (Or.inl e)⟩
  · rw [List.nodup_append]
    refine ⟨H.nodup, by simp, fun x hx y hy => ?_⟩
    have e : y = j := by simpa using hy
    rw [e]
    exact fun e => hns (Or.inr (by rw [← e]; exact hx))
  · have e : (Q ++ [(j : Int)]).getD t 0 = Q.getD t 0 := by
      simp only [List.getD]
      rw [List.getElem?_append_left (by omega)]
    rw [e] at hi
    have := H.done t ht i hi
    rw [set_getD_bool hjS]
    split
    · rfl
    · exact this

/-- At the start: the point alone. -/
theorem Srch.start {c : List (List Int)} {a : Nat} {S0 : Nat → Prop} {S : List Bool} (hl : S.length = c.length) (ha : a < c.length) (h0 : ¬ S0 a) (hs : ∀ j, j < c.length → (S.getD j false = true ↔ S0 j)) : Srch c a S0 (S.set a true) [(a : Int)] 0 := by
  refine ⟨by rw [List.length_set]; exact hl, fun i hi => ?_, fun x hx => ?_, by simp, by simp, fun t ht => by omega⟩
  · rw [set_getD_bool (by omega)]
    by_cases e : i = a
    · subst e; simp
    · rw [if_neg e, hs i hi]
      constructor
      · exact Or.inl
      · rintro (g | g)
        · exact g
        · have g : (i : Int) = (a : Int) := by simpa using g
          exact absurd (by omega) e
  · have e : x = a := by simpa using hx
    exact ⟨a, e, ha, .here, h0⟩

/-- At the end: what is reached, and nothing else. -/
theorem Srch.fin {c : List (List Int)} (hC : Cartan c) {a : Nat} {S0 : Nat → Prop} {S : List Bool} {Q : List Int} (H : Srch c a S0 S Q Q.length) (ha : a < c.length) (h0 : ¬ S0 a) (hc : ∀ i, i < c.length → S0 i → ∀ j, Adj c i j → S0 j) {j : Nat} : (j : Int) ∈ Q ↔ Rch c a j := by
  constructor
  · intro h
    obtain ⟨i, e, _, hr, _⟩ := H.rch _ h
    have : j = i := by omega
    subst this
    exact hr
  · intro h
    have hno : ∀ i, Rch c a i → ¬ S0 i := fun i hi s => by
      have hlt := hi.lt ha
      have := Rch.closed (S := fun x => x < c.length ∧ S0 x) ⟨hlt, s⟩ (fun x hx y hy => ⟨hy.1, hc x hx.1 hx.2 y hy⟩) (hi.symm hC ha)
      exact h0 this.2
    have := Rch.closed (S := fun x => x < c.length ∧ Rch c a x ∧ (x : Int) ∈ Q) ⟨ha, .here, H.head⟩ (fun x hx y hy => by
      obtain ⟨t, ht, et⟩ := List.getElem_of_mem hx.2.2
      have e : Q.getD t 0 = (x : Int) := by simp [List.getD, ht, et]
      have hs := H.done t ht y (by rw [e]; exact hy)
      have hr := hx.2.1.step hy
      rcases (H.seen y hy.1).1 hs with g | g
      · exact absurd g (hno y hr)
      · exact ⟨hy.1, hr, g⟩) h
    exact this.2.2

end Go.Proofs.YtgliajcgcbnemaaGreatDoor.Hx

namespace Go.Proofs.YtgliajcgcbnemaaGreatDoor.Hx
open Go.RowKit

abbrev cbo (b : Bool) : H0 := .pl (.bool b)

/-- A slice of bools in row q, one's own. -/
def BitR (q : Nat) (h : Heap) (x : H0) (S : List Bool) : Prop := x = .sl q 0 S.length ∧ h[q]? = some (.own (S.map cbo))

theorem BitR.lt {q : Nat} {h : Heap} {x : H0} {S : List Bool} (H : BitR q h x S) : q < h.length := get_lt H.2
theorem BitR.ext {q : Nat} {h h' : Heap} {x : H0} {S : List Bool} (H : BitR q h x S) (k : Ext h h') : BitR q h' x S := ⟨H.1, k.row H.2⟩
theorem BitR.but {q r : Nat} {h h' : Heap} {x : H0} {S : List Bool} (H : BitR q h x S) (k : But r h h') (n : q ≠ r) : BitR q h' x S := ⟨H.1, by rw [k.2 q H.lt n]; exact H.2⟩
theorem BitR.idx {q : Nat} {h : Heap} {x : H0} {S : List Bool} (H : BitR q h x S) {n : Nat} (hn : n < S.length) {k : IntKind} {K : HV → Prop} (hK : At h (.ptr q n) (cbo (S.getD n false)) → K (.s (.ptr q n))) : HIdx h (.s x) (.s (.pl (.int k (n : Int)))) K := by
  obtain ⟨rfl, hr⟩ := H
  have e : 0 + ((n : Int)).toNat = n := by omega
  refine ⟨q, 0, S.length, k, n, rfl, rfl, by omega, by omega, ?_⟩
  rw [e]
  refine hK ⟨q, n, _, S.map cbo, rfl, hr, rfl, ?_⟩
  rw [List.getElem?_map, List.getD, List.getElem?_eq_getElem hn]
  rfl
theorem BitR.put {q : Nat} {h : Heap} {x : H0} {S : List Bool} (H : BitR q h x S) {n : Nat} (hn : n < S.length) {b : Bool} {K : HV → Heap → Prop} (hK : ∀ h', But q h h' → h'.length = h.length → BitR q h' x (S.set n b) → K .dead h') : HStore h (.s (.ptr q n)) (.s (cbo b)) K := by
  obtain ⟨rfl, hr⟩ := H
  refine HStore.own hr (by simpa using hn) rfl (hK _ ⟨by simp, fun p hp hne => by rw [List.getElem?_set_ne (Ne.symm hne)]⟩ (by simp) ⟨by rw [List.length_set], ?_⟩)
  rw [List.getElem?_set_self (get_lt hr), List.map_set]
theorem HMake.bits {l : Int} {h : Heap} {K : HV → Heap → Prop} (n : Nat) (hl : l = n) (hn : n ≤ 2 ^ 41) (hK : ∀ h' y, Ext h h' → h'.length = h.length + 1 → BitR h.length h' y (List.replicate n false) → K (.s y) h') : HMake (.bool false) (I l) (I l) h K := by
  subst hl
  refine ⟨.i64, .i64, n, n, rfl, rfl, Nat.le_refl _, hn, hK _ _ (Ext.push _ _) (by simp) ⟨by simp, ?_⟩⟩
  rw [get_new, List.map_replicate]

theorem HLit.oneG {z : Value} {v : Int} {h0 h : Heap} {K : HV → Heap → Prop} (F : Ext h0 h) (hK : ∀ h' y r, Ext h h' → Ext h0 h' → OwnR r h' y [v] → h.length ≤ r → K (.s y) h') : HLit z 1 (some [ci v]) h K := HLit.one (hK _ _ _ (Ext.push _ _) (F.pushed _) (OwnR.push h [v]) (Nat.le_refl _))

open Classical in
/-- The points that are reached from i, below k, ascending. -/
noncomputable def partTo (c : List (List Int)) (i k : Nat) : List Int := ((List.range k).filter fun j => decide (Rch c i j)).map fun (j : Nat) => (j : Int)
noncomputable def partL (c : List (List Int)) (i : Nat) : List Int := partTo c i c.length
noncomputable def partsTo (c : List (List Int)) (k : Nat) : List (List Int) := ((List.range k).filter (isMin c)).map (partL c)
noncomputable def partsC (c : List (List Int)) : List (List Int) := if isCartan c then partsTo c c.length else []

theorem partTo_in {c : List (List Int)} {i k : Nat} (h : Rch c i k) : partTo c i (k + 1) = partTo c i k ++ [(k : Int)] := by
  unfold partTo
  rw [List.range_succ, List.filter_append, List.map_append, List.filter_cons_of_pos (by simp only [decide_eq_true_eq]; exact h), List.filter_nil]
  rfl
theorem partTo_out {c : List (List Int)} {i k : Nat} (h : ¬ Rch c i k) : partTo c i (k + 1) = partTo c i k := by
  unfold partTo
  rw [List.range_succ, List.filter_append, List.map_append, List.filter_cons_of_neg (by simpa using h), List.filter_nil, List.map_nil, List.append_nil]
theorem partTo_len (c : List (List Int)) (i k : Nat) : (partTo c i k).length ≤ k := by
  unfold partTo
  rw [List.length_map]
  refine Nat.le_trans (List.length_filter_le _ _) ?_
  rw [List.length_range]
  exact Nat.le_refl _
theorem mem_partTo {c : List (List Int)} {i k : Nat} {x : Int} : x ∈ partTo c i k ↔ ∃ j : Nat, x = j ∧ j < k ∧ Rch c i j := by
  unfold partTo
  simp only [List.mem_map, List.mem_filter, List.mem_range, decide_eq_true_eq]
  constructor
  · rintro ⟨j, ⟨h1, h2⟩, rfl⟩
    exact ⟨j, rfl, h1, h2⟩
  · rintro ⟨j, rfl, h1, h2⟩
    exact ⟨j, ⟨h1, h2⟩, rfl⟩
theorem partTo_sorted (c : List (List Int)) (i k : Nat) : (partTo c i k).Pairwise (· < ·) := by
  unfold partTo
  rw [List.pairwise_map]
  refine List.Pairwise.imp ?_ (List.Pairwise.filter _ List.pairwise_lt_range)
  intro a b h
  omega
theorem mem_partL {c : List (List Int)} {i j : Nat} (hi : i < c.length) : (j : Int) ∈ partL c i ↔ Rch c i j := by
  unfold partL
  rw [mem_partTo]
  constructor
  · rintro ⟨t, e, _, h⟩
    have : j = t := by omega
    subst this
    exact h
  · intro h
    exact ⟨j, rfl, h.lt hi, h⟩
theorem partL_len (c : List (List Int)) (i : Nat) : (partL c i).length ≤ c.length := partTo_len c i c.length
theorem partL_pos {c : List (List Int)} {i : Nat} (hi : i < c.length) : 0 < (partL c i).length := List.length_pos_of_mem ((mem_partL hi).2 .here)

theorem head_le {l : List Int} (h : l.Pairwise (· < ·)) {x : Int} (hx : x ∈ l) : l.getD 0 0 ≤ x := by
  cases l with
  | nil => cases hx
  | cons a t =>
    rw [List.pairwise_cons] at h
    rcases List.mem_cons.1 hx with e | e
    · subst e; simp
    · have := h.1 x e
      simp
      omega

theorem isMin_iff {c : List (List Int)} {i : Nat} : isMin c i = true ↔ ∀ j, j < i → ¬ Rch c j i := by
  unfold isMin
  simp only [decide_eq_true_eq]

theorem partL_head {c : List (List Int)} (hC : Cartan c) {i : Nat} (hi : i < c.length) : (partL c i).getD 0 0 = (i : Int) ↔ isMin c i = true := by
  have hp := partL_pos hi
  have hs := partTo_sorted c i c.length
  rw [isMin_iff]
  constructor
  · intro h j hj hr
    have := head_le hs ((mem_partL hi).2 (hr.symm hC (by omega)))
    have : (partL c i).getD 0 0 ≤ (j : Int) := this
    omega
  · intro h
    have e : (partL c i).getD 0 0 = (partL c i)[0] := by simp [List.getD, hp]
    obtain ⟨j, e2, hj, hr⟩ := mem_partTo.1 (List.getElem_mem hp)
    have h1 : (partL c i).getD 0 0 ≤ (i : Int) := head_le hs ((mem_partL hi).2 .here)
    have h2 : ¬ j < i := fun hlt => h j hlt (hr.symm hC hi)
    have e3 : (partL c i)[0] = (j : Int) := e2
    omega

theorem partsTo_in {c : List (List Int)} {k : Nat} (h : isMin c k = true) : partsTo c (k + 1) = partsTo c k ++ [partL c k] := by
  unfold partsTo
  rw [List.range_succ, List.filter_append, List.map_append, List.filter_cons_of_pos h, List.filter_nil]
  rfl
theorem partsTo_out {c : List (List Int)} {k : Nat} (h : isMin c k = false) : partsTo c (k + 1) = partsTo c k := by
  unfold partsTo
  rw [List.range_succ, List.filter_append, List.map_append, List.filter_cons_of_neg (by rw [h]; decide), List.filter_nil, List.map_nil, List.append_nil]
theorem partsTo_len (c : List (List Int)) (k : Nat) : (partsTo c k).length ≤ k := by
  unfold partsTo
  rw [List.length_map]
  refine Nat.le_trans (List.length_filter_le _ _) ?_
  rw [List.length_range]
  exact Nat.le_refl _
theorem partsC_off {c : List (List Int)} (h : isCartan c = false) : partsC c = [] := by simp [partsC, h]
theorem partsC_on {c : List (List Int)} (h : isCartan c = true) : partsC c = partsTo c c.length := by simp [partsC, h]
theorem isConn_parts (c : List (List Int)) : isConn c = decide ((partsC c).length = 1) := by
  unfold isConn
  cases h : isCartan c
  · rw [partsC_off h]; rfl
  · rw [partsC_on h, Bool.true_and]
    exact decide_eq_decide.2 (by simp [partsTo, partsN])

/-- Two ascending lists with the same members are one. -/
theorem asc_one {a b : List Int} (ha : a.Pairwise (· < ·)) (hb : b.Pairwise (· < ·)) (h : ∀ x, x ∈ a ↔ x ∈ b) : a = b := by
  induction a generalizing b with
  | nil =>
    cases b with
    | nil => rfl
    | cons y t => exact absurd ((h y).2 (by simp)) (by simp)
  | cons x s ih =>
    cases b with
    | nil => exact absurd ((h x).1 (by simp)) (by simp)
    | cons y t =>
      rw [List.pairwise_cons] at ha hb
      have e : x = y := by
        rcases List.mem_cons.1 ((h x).1 (by simp)) with e | e
        · exact e
        · rcases List.mem_cons.1 ((h y).2 (by simp)) with e2 | e2
          · exact e2.symm
          · have h1 := hb.1 x e
            have h2 := ha.1 y e2
            omega
      subst e
      rw [ih ha.2 hb.2 (fun z => ?_)]
      constructor
      · intro hz
        have h1 := ha.1 z hz
        rcases List.mem_cons.1 ((h z).1 (List.mem_cons_of_mem _ hz)) with e | e
        · omega
        · exact e
      · intro hz
        have h1 := hb.1 z hz
        rcases List.mem_cons.1 ((h z).2 (List.mem_cons_of_mem _ hz)) with e | e
        · omega
        · exact e

/-- Sorting the queue of a search gives the part. -/
theorem sort_part {c : List (List Int)} {a : Nat} {Q : List Int} (ha : a < c.length) (hn : Q.Nodup) (hm : ∀ x ∈ Q, ∃ j : Nat, x = j ∧ j < c.length) (hq : ∀ j : Nat, (j : Int) ∈ Q ↔ Rch c a j) : (Q.mergeSort fun x y => decide (x ≤ y)) = partL c a := by
  have hp := List.mergeSort_perm Q fun x y => decide (x ≤ y)
  refine asc_one ?_ (partTo_sorted c a c.length) (fun x => ?_)
  · have h1 := List.pairwise_mergeSort (le := fun (x y : Int) => decide (x ≤ y)) (fun a b c h k => by simp only [decide_eq_true_eq] at *; omega) (fun a b => by simp only [Bool.or_eq_true, decide_eq_true_eq]; omega) Q
    have h2 : (Q.mergeSort fun x y => decide (x ≤ y)).Nodup := hp.nodup_iff.2 hn
    refine List.Pairwise.imp₂ (fun x y h k => ?_) h1 h2
    simp only [decide_eq_true_eq] at h
    omega
  · rw [hp.mem_iff]
    constructor
    · intro hx
      obtain ⟨j, rfl, _⟩ := hm x hx
      exact (mem_partL ha).2 ((hq j).1 hx)
    · intro hx
      obtain ⟨j, rfl, _, hr⟩ := mem_partTo.1 hx
      exact (hq j).2 hr

end Go.Proofs.YtgliajcgcbnemaaGreatDoor.Hx

namespace Go.Proofs.YtgliajcgcbnemaaGreatDoor.Hx
open Go.RowKit
variable {dm : Bool}

/-- A slice of slices of ints, all its rows in a set. -/
def MatP (S : Nat → Prop) (h : Heap) (z : H0) (L : List (List Int)) : Prop := ∃ r ρ, z = .sl r 0 L.length ∧ S r ∧ (∀ i, i < L.length → S (ρ i)) ∧ MatAt h r ρ L

theorem MatP.weaken {S S' : Nat → Prop} {h : Heap} {z : H0} {L : List (List Int)} (M : MatP S h z L) (k : ∀ p, p < h.length → S p → S' p) : MatP S' h z L := by
  obtain ⟨r, ρ, g1, g2, g3, m⟩ := M
  obtain ⟨k1, k2⟩ := m.lt
  exact ⟨r, ρ, g1, k r k1 g2, fun i hi => k _ (k2 i hi) (g3 i hi), m⟩
theorem MatP.keep {S : Nat → Prop} {h h' : Heap} {z : H0} {L : List (List Int)} (M : MatP S h z L) (k : ∀ p, p < h.length → S p → h'[p]? = h[p]?) : MatP S h' z L := by
  obtain ⟨r, ρ, g1, g2, g3, m⟩ := M
  obtain ⟨k1, k2⟩ := m.lt
  exact ⟨r, ρ, g1, g2, g3, m.move (k r k1 g2) (fun i hi => k _ (k2 i hi) (g3 i hi))⟩
theorem MatP.ext {S : Nat → Prop} {h h' : Heap} {z : H0} {L : List (List Int)} (M : MatP S h z L) (k : Ext h h') : MatP S h' z L := M.keep fun p hp _ => k.2 p hp
theorem MatP.but {S : Nat → Prop} {h h' : Heap} {z : H0} {L : List (List Int)} {q : Nat} (M : MatP S h z L) (k : But q h h') (hq : ¬ S q) : MatP S h' z L := M.keep fun p hp hs => k.2 p hp fun e => hq (by rw [← e]; exact hs)
theorem MatP.bound {S : Nat → Prop} {h : Heap} {z : H0} {L : List (List Int)} (M : MatP S h z L) : MatP (fun p => S p ∧ p < h.length) h z L := by
  obtain ⟨r, ρ, g1, g2, g3, m⟩ := M
  obtain ⟨k1, k2⟩ := m.lt
  exact ⟨r, ρ, g1, ⟨g2, k1⟩, fun i hi => ⟨g3 i hi, k2 i hi⟩, m⟩
theorem MatP.rows {S : Nat → Prop} {h : Heap} {z : H0} {L : List (List Int)} (M : MatP S h z L) : Rows h z L := by
  obtain ⟨r, ρ, rfl, _, _, m⟩ := M
  exact m.rows
theorem MatP.own {S : Nat → Prop} {h : Heap} {z : H0} {L : List (List Int)} {b : Nat} (M : MatP S h z L) (k : ∀ p, p < h.length → S p → b ≤ p) : OwnM b h.length h z L := by
  obtain ⟨r, ρ, g1, g2, g3, m⟩ := M
  obtain ⟨k1, k2⟩ := m.lt
  exact ⟨r, ρ, g1, k r k1 g2, k1, fun i hi => ⟨k _ (k2 i hi) (g3 i hi), k2 i hi⟩, m⟩
theorem OwnM.matP {b e : Nat} {h : Heap} {z : H0} {L : List (List Int)} (M : OwnM b e h z L) : MatP (fun p => b ≤ p ∧ p < e) h z L := by
  obtain ⟨r, ρ, g1, g2, g3, g4, m⟩ := M
  exact ⟨r, ρ, g1, ⟨g2, g3⟩, g4, m⟩
theorem MatP.none {S : Nat → Prop} {h : Heap} (hS : S h.length) : MatP S (h ++ [Row.own []]) (.sl h.length 0 0) [] :=
  ⟨h.length, fun _ => 0, rfl, hS, fun i hi => by simp at hi, ⟨[], get_new _ _, by simp, fun i hi => by simp at hi⟩, fun i hi => by simp at hi, fun i hi => by simp at hi, fun i j _ hj => by simp at hj⟩

/-- A row that is there, appended to a slice of slices. -/
theorem HApp.snocP {S : Nat → Prop} {h2 : Heap} {z y : H0} {L : List (List Int)} {l : List Int} {q : Nat} {K : HV → Heap → Prop} (M : MatP S h2 z L) (F : OwnR q h2 y l) (hq : ¬ S q) (hl : L.length < 2199023255552)
    (hK : ∀ h' z', (∀ p, p < h2.length → ¬ S p → h'[p]? = h2[p]?) → h2.length ≤ h'.length → MatP (fun p => S p ∨ p = q ∨ p = h2.length + 1) h' z' (L ++ [l]) → K (.s z') h') : HApp (h2 ++ [.own [y]]) (.s z) (.s (.sl h2.length 0 1)) K := by
  obtain ⟨r, ρ, rfl, hr1, hS, m⟩ := M
  obtain ⟨hr2, hρ⟩ := m.lt
  have hq2 := F.lt
  obtain ⟨t, rfl, hqo⟩ := F
  obtain ⟨cs, ho, hcl, hoc⟩ := m.outer
  have hqr2 : q ≠ r := fun e => hq (by rw [e]; exact hr1)
  have hqρ : ∀ i, i < L.length → q ≠ ρ i := fun i hi e => hq (by rw [e]; exact hS i hi)
  refine ⟨[.sl q 0 l.length], ?_, by simp [H0.one], cs, rfl, (Ext.push h2 _).row ho, hcl, Or.inl ⟨by simp; omega, ?_⟩⟩
  · have := Shows.own h2.length 0 1 _ (get_new h2 (.own [.sl q 0 l.length])) (by simp)
    simpa using this
  have e1 : L.length + [H0.sl q 0 l.length].length = (L ++ [l]).length := by simp
  rw [e1]
  have old : ∀ p, p < h2.length → p ≠ r → ((h2 ++ [Row.own [.sl q 0 l.length]]).set r .gone ++ [Row.own (cs.take L.length ++ [.sl q 0 l.length])])[p]? = h2[p]? := fun p hp hn => by
    rw [List.getElem?_append_left (by simp; omega), List.getElem?_set_ne (Ne.symm hn), List.getElem?_append_left hp]
  have gd1 : ∀ i, i < L.length → (L ++ [l]).getD i [] = L.getD i [] := fun i hi => by
    simp only [List.getD]
    rw [List.getElem?_append_left hi]
  have gd2 : (L ++ [l]).getD L.length [] = l := by simp [List.getD]
  have hlen : ((h2 ++ [Row.own [.sl q 0 l.length]]).set r .gone ++ [Row.own (cs.take L.length ++ [.sl q 0 l.length])]).length = h2.length + 2 := by simp
  refine hK _ _ (fun p hp hn => old p hp fun e => hn (by rw [e]; exact hr1)) (by rw [hlen]; omega) ⟨h2.length + 1, fun i => if i < L.length then ρ i else q, by simp, Or.inr (Or.inr rfl), fun i hi => ?_, ⟨cs.take L.length ++ [.sl q 0 l.length], ?_, by simp; omega, fun i hi => ?_⟩, fun i hi => ?_, fun i hi => ?_, fun i j hij hj => ?_⟩
  · by_cases hi2 : i < L.length
    · simp only [hi2, if_true]
      exact Or.inl (hS i hi2)
    · show S (if i < L.length then ρ i else q) ∨ (if i < L.length then ρ i else q) = q ∨ _
      rw [if_neg hi2]
      exact Or.inr (Or.inl rfl)
  · rw [List.getElem?_append_right (by simp)]
    simp
  · by_cases hi2 : i < L.length
    · rw [List.getElem?_append_left (by simp; omega), List.getElem?_take_of_lt hi2, hoc i hi2, gd1 i hi2]
      simp [hi2]
    · have e : i = L.length := by simp at hi; omega
      subst e
      rw [gd2, List.getElem?_append_right (by simp; omega)]
      have : L.length - (cs.take L.length).length = 0 := by simp; omega
      rw [this]
      simp
  · by_cases hi2 : i < L.length
    · obtain ⟨t2, ht2⟩ := m.inner i hi2
      have hb2 := hρ i hi2
      have hne := m.ne i hi2
      refine ⟨t2, ?_⟩
      rw [gd1 i hi2, if_pos hi2, old _ (by omega) hne]
      exact ht2
    · have e : i = L.length := by simp at hi; omega
      subst e
      refine ⟨t, ?_⟩
      rw [gd2, if_neg (by omega), old _ (by omega) (by omega)]
      exact hqo
  · by_cases hi2 : i < L.length
    · have := hρ i hi2
      simp only [hi2, if_true]
      omega
    · simp only [hi2, if_false]
      omega
  · have hj' : j ≤ L.length := by simp at hj; omega
    have hi2 : i < L.length := by omega
    by_cases hj2 : j < L.length
    · simp only [hi2, hj2, if_true]
      exact m.inj i j hij hj2
    · simp only [hi2, hj2, if_true, if_false]
      exact fun e => hqρ i hi2 e.symm

open Go.Sort Go.Shelf in
/-- slices.Sort over a row of ints of one's own. -/
theorem sortI_calls {P : Program} {ρ : Ren} (Ly : Lays.n189 P ρ) {h : Heap} {r : Nat} {l : List Int} {t : List H0} (hr : h[r]? = some (.own (l.map ci ++ t))) (hl : 0 < l.length) (hlen : l.length < 4611686018427387904) :
    HCalls dm P (ρ.f 189) [.s (.sl r 0 l.length)] h (fun z h' => z = .tup [] ∧ h' = h.set r (.own ((l.mergeSort fun x y => decide (x ≤ y)).map ci ++ t))) := by
  refine ⟨enters_of Ly.f189 (by kernel_rfl) rfl, fun B0 φ w vargs R ha => ?_⟩
  obtain ⟨p, hp⟩ := R.place hr
  obtain ⟨q1, q2, q3, cur, e, q4, q5, q6⟩ := R.own r _ p hr hp
  have hvs : ∃ u, vargs = #[u] ∧ rep0 φ (.sl r 0 l.length) u := by
    rcases vargs with ⟨vs⟩
    match vs, ha with
    | [u], hh => exact ⟨u, rfl, hh.1⟩
  obtain ⟨u, rfl, hu⟩ := hvs
  obtain ⟨p', a, cap, hp', rfl, hc1, hc2, hc3, hc4⟩ := hu
  obtain rfl : p' = p := Option.some.inj (hp'.symm.trans hp)
  have ha : a = ⟨p'.b, 0, none⟩ := by rw [hc4 (by omega), q1]
  subst ha
  have cell : ∀ k, k < l.length → cur[k]? = some (.int .i64 (l.getD k 0)) := fun k hk => by
    have hx : (l.map ci ++ t)[k]? = some (ci (l.getD k 0)) := by
      rw [List.getElem?_append_left (by simpa using hk), List.getElem?_map, List.getD, List.getElem?_eq_getElem hk]
      rfl
    obtain ⟨v, e1, e2⟩ := q6 _ _ hx
    have e3 : v = .int .i64 (l.getD k 0) := e2
    rw [e1, e3]
  have hblk : p'.b < w.heap.size := (Array.getElem?_eq_some_iff.1 q4).1
  have hH : Holds (Value.int .i64) w p'.b 0 l.toArray := fun j hj => by
    have hj' : j < l.length := by simpa using hj
    have e1 : l.toArray[j]! = l.getD j 0 := by simp [List.getD, hj']
    rw [e1, Nat.zero_add]
    exact ⟨by rw [cell_of_row w p'.b j cur e (0, 0) q4]; exact cell j hj', by simp [World.frozen?, q4]⟩
  have hmain := Any.slices_Sort_int Ly p'.b 0 cap l w hH hblk hlen
  have hsl : (l.mergeSort fun x y => decide (x ≤ y)).length = l.length := List.length_mergeSort l
  generalize (l.mergeSort fun x y => decide (x ≤ y)) = s at hmain hsl
  refine hmain.mono ?_
  rintro e' w' ⟨rfl, n, os, rfl⟩
  refine ⟨_, .tup [], _, φ, rfl, ⟨rfl, rfl⟩, Sub.refl _, ?_, ⟨#[], rfl, trivial⟩, ?_⟩
  · let cur' := putCells (Value.int .i64) 0 s.toArray cur
    have w1 : Rep B0 φ (h.set r (.own (s.map ci ++ t))) (putRow (Value.int .i64) (Go.Sort.ahead w n) p'.b 0 s.toArray) := by
      refine R.rewrite (w' := putRow (Value.int .i64) (Go.Sort.ahead w n) p'.b 0 s.toArray) (cur := cur') (e := e) hr hp ?_ ?_ ?_ ?_ ?_ ?_
      · simp [putRow, mapBlock, Go.Sort.ahead]
      · intro k hk
        simp [putRow, mapBlock, Go.Sort.ahead, Array.getElem?_modify, Ne.symm hk]
      · simp [putRow, mapBlock, Go.Sort.ahead, Array.getElem?_modify, q4, onCells, cur']
      · simp [cur', putCells, q5]
      · simp only [List.length_append, List.length_map] at q3 ⊢
        omega
      · intro k c hk
        have hcur : ∀ k, cur'[k]? = (cur[k]?).map fun x => if 0 ≤ k ∧ k < 0 + s.toArray.size then Value.int .i64 s.toArray[k - 0]! else x := fun k => by
          simp [cur', putCells, Array.getElem?_mapIdx]
        rw [hcur]
        by_cases k2 : k < l.length
        · rw [List.getElem?_append_left (by simp; omega), List.getElem?_map, List.getElem?_eq_getElem (by omega)] at hk
          simp only [Option.map_some, Option.some.injEq] at hk
          subst hk
          refine ⟨.int .i64 s[k], ?_, rfl⟩
          rw [cell k k2, Option.map_some, if_pos ⟨by omega, by simp; omega⟩]
          simp [show k < s.length by omega]
        · rw [List.getElem?_append_right (by simp; omega)] at hk
          have hk' : (l.map ci ++ t)[k]? = some c := by
            rw [List.getElem?_append_right (by simp; omega), ← hk]
            simp [hsl]
          obtain ⟨v, e1, e2⟩ := q6 k c hk'
          exact ⟨v, by rw [e1]; simp; omega, e2⟩
    exact w1.still (by rw [size_grow]; omega) (fun k hk => heap_grow_old _ _ hk)
  · have hz : (putRow (Value.int .i64) (Go.Sort.ahead w n) p'.b 0 s.toArray).heap.size = w.heap.size := by simp [putRow, mapBlock, Go.Sort.ahead]
    refine ⟨⟨rfl, rfl, rfl, by rw [size_grow, hz]; omega, fun k hk => ?_⟩, fun _ => by show w.drawn ≤ w.drawn + n; omega⟩
    have := R.base
    rw [heap_grow_old _ _ (by rw [hz]; omega)]
    simp [putRow, mapBlock, Go.Sort.ahead, Array.getElem?_modify, show p'.b ≠ k by omega]

end Go.Proofs.YtgliajcgcbnemaaGreatDoor.Hx

namespace Go.Proofs.YtgliajcgcbnemaaGreatDoor.Hx
open Go.RowKit
variable {dm : Bool}

theorem Srch.next {c : List (List Int)} {a : Nat} {S0 : Nat → Prop} {S : List Bool} {Q : List Int} {k : Nat} (H : Srch c a S0 S Q k) (h : ∀ j, Adj c (Q.getD k 0).toNat j → S.getD j false = true) : Srch c a S0 S Q (k + 1) :=
  ⟨H.len, H.seen, H.rch, H.nodup, H.head, fun t ht j hj => by
    by_cases e : t = k
    · rw [e] at hj
      exact h j hj
    · exact H.done t (by omega) j hj⟩
theorem Srch.few {c : List (List Int)} {a : Nat} {S0 : Nat → Prop} {S : List Bool} {Q : List Int} {k : Nat} (H : Srch c a S0 S Q k) : Q.length ≤ c.length := by
  have h1 : (Q.map fun x => [x]).length ≤ ((List.range c.length).map fun (j : Nat) => [(j : Int)]).length := nodup_le (by
    have hn := H.nodup
    unfold List.Nodup at *
    rw [List.pairwise_map]
    exact hn.imp fun h e => h (by simpa using e)) (fun x hx => by
    obtain ⟨z, hz, rfl⟩ := List.mem_map.1 hx
    obtain ⟨j, rfl, hj, _⟩ := H.rch z hz
    exact List.mem_map.2 ⟨j, List.mem_range.2 hj, rfl⟩)
  simpa using h1
theorem Srch.at {c : List (List Int)} {a : Nat} {S0 : Nat → Prop} {S : List Bool} {Q : List Int} {k : Nat} (H : Srch c a S0 S Q k) (hk : k < Q.length) : ∃ p : Nat, Q.getD k 0 = p ∧ p < c.length := by
  have e : Q.getD k 0 = Q[k] := by simp [List.getD, hk]
  obtain ⟨j, e2, hj, _⟩ := H.rch _ (List.getElem_mem hk)
  exact ⟨j, by rw [e, e2], hj⟩
theorem nbr_at {c : List (List Int)} {p n : Nat} (hn : n < (nbrTo c p c.length).length) : ∃ j : Nat, (nbrTo c p c.length).getD n 0 = j ∧ Adj c p j := by
  have e : (nbrTo c p c.length).getD n 0 = (nbrTo c p c.length)[n] := by simp [List.getD, hn]
  obtain ⟨j, e2, h1, h2, h3⟩ := mem_nbrTo.1 (List.getElem_mem hn)
  exact ⟨j, by rw [e, e2], h1, h2, h3⟩
theorem nbr_all {c : List (List Int)} {p j : Nat} (h : Adj c p j) : ∃ t, t < (nbrTo c p c.length).length ∧ (nbrTo c p c.length).getD t 0 = (j : Int) := by
  obtain ⟨t, ht, e⟩ := List.getElem_of_mem (mem_nbrTo.2 ⟨j, rfl, h.1, h.2.1, h.2.2⟩)
  exact ⟨t, ht, by simp [List.getD, ht, e]⟩
theorem getD_appV {Q : List Int} {v : Int} {k : Nat} (hk : k < Q.length) : (Q ++ [v]).getD k 0 = Q.getD k 0 := by
  simp only [List.getD]
  rw [List.getElem?_append_left hk]


set_option maxHeartbeats 1000000 in
theorem spec_l3Part (h : Heap) (x : H0) (c : List (List Int)) (i : Nat) (hx : Rows h x c) (hC : Cartan c) (hi : i < c.length) :
    HCalls dm Tryz.prog 179 [.s x, I i] h (fun r h' => ∃ y, r = .s y ∧ Fresh h h' y (partL c i)) := by
  have h4 := hC.le
  refine calls_of_hFun (m := 0) kd_ok mixed Tryz.func179 rfl (by kernel_rfl) rfl rfl (of_decide_eq_true rfl) ?_; unfold hFun; (conv => whnf)
  refine ⟨rfl, hx.len ?_⟩
  (conv => whnf)
  refine HMake.bits c.length rfl (by omega) (fun h1 yb E1 l1 B1 => ?_)
  (conv => whnf)
  refine ⟨rfl, B1.idx (by simp; omega) (fun hp => ?_)⟩
  (conv => whnf)
  refine ⟨rfl, B1.put (by simp; omega) (fun h2 U2 l2 B2 => ?_)⟩
  (conv => whnf)
  have E2 : Ext h h2 := E1.but U2 (Nat.le_refl _)
  clear hp
  refine HLit.oneG (v := (i : Int)) E2 (fun h3 yq q E3 E03 O3 hq => ?_)
  (conv => whnf)
  have S0 : Srch c i (fun _ => False) ((List.replicate c.length false).set i true) [(i : Int)] 0 := Srch.start (by simp) hi (fun e => e) (fun j hj => by simp [List.getD, hj])
  have hq3 : h.length < q := by omega
  have B3 := B2.ext E3
  generalize (List.replicate c.length false).set i true = S at B3 S0
  generalize [(i : Int)] = Q at O3 S0
  refine HLoop.intro [7, 6] [20, 21, 22, 23, 26, 27, 28, 29, 30, 31, 8, 9, 32, 33, 34, 35, 38, 39, 40, 41, 42, 43, 44, 45, 46, 47, 48, 49, 50, 51, 52, 53, 54, 55, 56, 57, 58, 6, 36, 37, 9, 24, 25, 7] (by kernel_rfl) (by kernel_rfl) (fun vs h' => ∃ (k q : Nat) (z : H0) (S : List Bool) (Q : List Int), vs = [I k, .s z] ∧ k ≤ Q.length ∧ Ext h h' ∧ BitR h.length h' yb S ∧ OwnR q h' z Q ∧ h.length < q ∧ Srch c i (fun _ => False) S Q k) (fun vs _ => c.length - natAt vs 0) ⟨0, q, yq, S, Q, rfl, by omega, E03, B3, O3, hq3, S0⟩ ?_
  clear E1 E2 E3 E03 B1 B2 B3 U2 O3 S0 hq3 l1 l2
  rintro vs h' ⟨k, q, z, S, Q, rfl, hk, E, B, O, hq, H⟩
  have hQ := H.few
  (conv => whnf)
  refine ⟨rfl, O.ints.len ?_⟩
  (conv => whnf)
  refine HIf.dec (fun hlt => ?_) (fun hge => ?_)
  · have hkl : k < Q.length := by omega
    obtain ⟨p, hp, hpc⟩ := H.at hkl
    (conv => whnf)
    refine ⟨rfl, O.ints.idxN hkl (fun a ha => ?_)⟩
    rw [hp] at ha
    (conv => whnf)
    refine ⟨rfl, ha.load ?_⟩
    (conv => whnf)
    refine (spec_NeighboursOf _ _ c p (hx.ext E) hC hpc).mono ?_
    rintro r h2 ⟨yl, rfl, F⟩
    obtain ⟨rl, hrl, OL⟩ := F.row
    have hnl := nbrTo_len c p c.length
    have hql := O.lt
    have hrlb : h.length < rl := by have := B.lt; omega
    have E2 := E.trans F.1
    replace B := B.ext F.1
    replace O := O.ext F.1
    have hbl := E.1
    (conv => whnf)
    refine HLoop.intro [9, 6] [32, 33, 34, 35, 38, 39, 40, 41, 42, 43, 44, 45, 46, 47, 48, 49, 50, 51, 52, 53, 54, 55, 56, 57, 58, 6, 36, 37, 9] (by kernel_rfl) (by kernel_rfl) (fun vs h' => ∃ (n q : Nat) (z : H0) (S : List Bool) (Q : List Int), vs = [I n, .s z] ∧ n ≤ (nbrTo c p c.length).length ∧ Ext h h' ∧ BitR h.length h' yb S ∧ OwnR q h' z Q ∧ h.length < q ∧ q ≠ rl ∧ OwnR rl h' yl (nbrTo c p c.length) ∧ k < Q.length ∧ Q.getD k 0 = p ∧ Srch c i (fun _ => False) S Q k ∧ ∀ t, t < n → ∀ j : Nat, (nbrTo c p c.length).getD t 0 = j → S.getD j false = true) (fun vs _ => (nbrTo c p c.length).length - natAt vs 0) ⟨0, q, z, S, Q, rfl, by omega, E2, B, O, hq, by omega, OL, hkl, hp, H, fun t ht => by omega⟩ ?_
    clear E E2 B O OL hq F hql H hp hk hlt hQ hkl ha
    rintro vs h' ⟨n, q, z, S, Q, rfl, hn, E, B, O, hq, hqr, OL, hkl, hp, H, hall⟩
    have hQ := H.few
    (conv => whnf)
    refine ⟨rfl, OL.ints.len ?_⟩
    (conv => whnf)
    refine HIf.dec (fun hlt => ?_) (fun hge => ?_)
    · have hnl : n < (nbrTo c p c.length).length := by omega
      obtain ⟨j, hj, hadj⟩ := nbr_at hnl
      have hjS : j < S.length := by rw [H.len]; exact hadj.1
      (conv => whnf)
      refine ⟨rfl, OL.ints.idxN hnl (fun a ha => ?_)⟩
      rw [hj] at ha
      (conv => whnf)
      refine ⟨rfl, ha.load ?_⟩
      (conv => whnf)
      refine ⟨rfl, B.idx hjS (fun hb => ?_)⟩
      (conv => whnf)
      refine ⟨rfl, hb.load ?_⟩
      (conv => whnf)
      cases hs : S.getD j false
      · (conv => whnf)
        refine HIf.yes ?_
        (conv => whnf)
        refine ⟨rfl, OL.ints.idxN hnl (fun a2 ha2 => ?_)⟩
        rw [hj] at ha2
        (conv => whnf)
        refine ⟨rfl, ha2.load ?_⟩
        (conv => whnf)
        refine ⟨rfl, B.idx hjS (fun hb2 => ?_)⟩
        (conv => whnf)
        refine ⟨rfl, B.put hjS (fun h5 U5 l5 B5 => ?_)⟩
        have E5 := E.but U5 (Nat.le_refl _)
        have O5 := O.but U5 (by omega)
        have hrl2 := OL.lt
        have OL5 := OL.but U5 (by omega)
        (conv => whnf)
        refine ⟨rfl, OL5.ints.idxN hnl (fun a3 ha3 => ?_)⟩
        rw [hj] at ha3
        (conv => whnf)
        refine ⟨rfl, ha3.load ?_⟩
        (conv => whnf)
        refine HLit.one ?_
        (conv => whnf)
        refine ⟨rfl, rfl, HApp.litR [(j : Int)] O5 (by simp; omega) (fun h6 q6 z6 U6 hq6 O6 => ?_)⟩
        have E6 := E5.but U6 (by omega)
        have B6 := B5.but U6 (by omega)
        have OL6 := OL5.but U6 (by omega)
        have H6 := H.push hkl (by rw [hp]; exact hadj) hs
        have hE5 := E5.1
        have hr5 := OL5.lt
        (conv => whnf)
        refine HArith.fits (by omega) (by omega) ?_
        (conv => whnf)
        exact ⟨⟨n + 1, q6, z6, _, _, rfl, by omega, E6, B6, O6, by have := B5.lt; omega, by omega, OL6, by simp; omega, by rw [getD_appV hkl]; exact hp, H6, fun t ht j' hj' => by
          rw [set_getD_bool hjS]
          split
          · rfl
          · by_cases e : t = n
            · subst e
              rw [hj] at hj'
              omega
            · exact hall t (by omega) j' hj'⟩, by show (nbrTo c p c.length).length - (n + 1) < (nbrTo c p c.length).length - n; omega⟩
      · (conv => whnf)
        refine HIf.no ?_
        (conv => whnf)
        refine HArith.fits (by omega) (by omega) ?_
        (conv => whnf)
        exact ⟨⟨n + 1, q, z, S, Q, rfl, by omega, E, B, O, hq, hqr, OL, hkl, hp, H, fun t ht j' hj' => by
          by_cases e : t = n
          · subst e
            rw [hj] at hj'
            have : j' = j := by omega
            rw [this]
            exact hs
          · exact hall t (by omega) j' hj'⟩, by show (nbrTo c p c.length).length - (n + 1) < (nbrTo c p c.length).length - n; omega⟩
    · have en : n = (nbrTo c p c.length).length := by omega
      have H2 := H.next (fun j hj => by
        rw [hp] at hj
        obtain ⟨t, ht, e⟩ := nbr_all (c := c) (p := p) hj
        exact hall t (by omega) j e)
      (conv => whnf)
      refine HArith.fits (by omega) (by omega) ?_
      (conv => whnf)
      exact ⟨⟨k + 1, q, z, S, Q, rfl, by omega, E, B, O, hq, H2⟩, by show c.length - (k + 1) < c.length - k; omega⟩
  · have ek : k = Q.length := by omega
    subst ek
    have hfin : ∀ j, j < c.length → (S.getD j false = true ↔ Rch c i j) := fun j hj => by
      rw [H.seen j hj, ← H.fin hC hi (fun e => e) (fun _ _ e => e.elim)]
      simp
    (conv => whnf)
    have E9 := E.pushed [Row.own []]
    refine HLit.empty ?_
    have B9 := B.ext (Ext.push h' [Row.own []])
    (conv => whnf)
    have hS := H.len
    have hO9 : ∃ r, h.length < r ∧ OwnR r (h' ++ [Row.own []]) (.sl h'.length 0 0) (partTo c i 0) := ⟨h'.length, B.lt, OwnR.push h' []⟩
    clear E O hq H hQ hk hge
    generalize h' ++ [Row.own []] = h5 at *
    generalize H0.sl h'.length 0 0 = z5 at *
    obtain ⟨r5, hr5, O5⟩ := hO9
    refine HLoop.intro [11, 10] [60, 61, 62, 63, 66, 67, 68, 69, 70, 71, 72, 73, 10, 64, 65, 11] (by kernel_rfl) (by kernel_rfl) (fun vs h' => ∃ (k r : Nat) (z : H0), vs = [I k, .s z] ∧ k ≤ c.length ∧ Ext h h' ∧ BitR h.length h' yb S ∧ h.length < r ∧ OwnR r h' z (partTo c i k)) (fun vs _ => c.length - natAt vs 0) ⟨0, r5, z5, rfl, by omega, E9, B9, hr5, O5⟩ ?_
    clear E9 B9 O5 hr5
    rintro vs h' ⟨k, r, z, rfl, hk, E, B, hr, O⟩
    have hpl := partTo_len c i k
    (conv => whnf)
    refine ⟨rfl, (hx.ext E).len ?_⟩
    (conv => whnf)
    refine HIf.dec (fun hlt => ?_) (fun hge => ?_)
    · have hkl : k < c.length := by omega
      (conv => whnf)
      refine ⟨rfl, B.idx (by omega) (fun hb => ?_)⟩
      (conv => whnf)
      refine ⟨rfl, hb.load ?_⟩
      (conv => whnf)
      have hf := hfin k hkl
      cases hs : S.getD k false
      · (conv => whnf)
        refine HIf.no ?_
        (conv => whnf)
        refine HArith.fits (by omega) (by omega) ?_
        (conv => whnf)
        rw [hs] at hf
        have hn : ¬ Rch c i k := fun e => by simpa using hf.2 e
        exact ⟨⟨k + 1, r, z, rfl, by omega, E, B, hr, by rw [partTo_out hn]; exact O⟩, by show c.length - (k + 1) < c.length - k; omega⟩
      · (conv => whnf)
        refine HIf.yes ?_
        (conv => whnf)
        refine HLit.one ?_
        (conv => whnf)
        refine ⟨rfl, rfl, HApp.litR [(k : Int)] O (by simp; omega) (fun h6 q6 z6 U6 hq6 O6 => ?_)⟩
        rw [← partTo_in (hf.1 hs)] at O6
        have hE := E.1
        have hB := B.lt
        (conv => whnf)
        refine HArith.fits (by omega) (by omega) ?_
        (conv => whnf)
        exact ⟨⟨k + 1, q6, z6, rfl, by omega, E.but U6 (by omega), B.but U6 (by omega), by omega, O6⟩, by show c.length - (k + 1) < c.length - k; omega⟩
    · have ek : k = c.length := by omega
      subst ek
      (conv => whnf)
      exact ⟨_, rfl, Fresh.ofRow E O (by omega)⟩

set_option maxHeartbeats 1000000 in
theorem spec_PartsOf (h : Heap) (x : H0) (c : List (List Int)) (hx : Rows h x c) (hc : c.length ≤ 1048576) :
    HCalls dm Tryz.prog 131 [.s x] h (fun r h' => ∃ y, r = .s y ∧ Ext h h' ∧ OwnM h.length h'.length h' y (partsC c)) := by
  refine calls_of_hFun (m := 0) kd_ok mixed Tryz.func131 rfl (by kernel_rfl) rfl rfl (of_decide_eq_true rfl) ?_; unfold hFun; (conv => whnf)
  have E0 := Ext.push h [Row.own []]
  refine HLit.empty ?_
  (conv => whnf)
  refine HLoop.intro [4, 3] [7, 8, 9, 10, 11, 12, 13, 14, 17, 18, 19, 5, 20, 21, 22, 23, 24, 25, 26, 27, 28, 3, 15, 16, 4] (by kernel_rfl) (by kernel_rfl) (fun vs h' => ∃ (k : Nat) (z : H0), vs = [I k, .s z] ∧ k ≤ c.length ∧ Ext h h' ∧ OwnM h.length h'.length h' z (partsTo c k) ∧ (isCartan c = false → k = 0)) (fun vs _ => c.length - natAt vs 0) ⟨0, _, rfl, by omega, E0, OwnM.none h, fun _ => rfl⟩ ?_
  clear E0
  rintro vs h' ⟨k, z, rfl, hk, E, O, h0⟩
  have hpl := partsTo_len c k
  (conv => whnf)
  refine ⟨rfl, (hx.ext E).len ?_⟩
  (conv => whnf)
  by_cases c0 : (k : Int) < (c.length : Int)
  rotate_left
  · have e : k = c.length := by omega
    (repeat (refine HIf.decF c0 ?_; (conv => whnf)))
    (repeat (refine HIf.no ?_; (conv => whnf)))
    refine ⟨_, rfl, E, ?_⟩
    cases hic : isCartan c
    · rw [partsC_off hic]
      rw [h0 hic] at O
      exact O
    · rw [partsC_on hic, ← e]
      exact O
  have hkl : k < c.length := by omega
  refine HIf.decT c0 ?_
  (conv => whnf)
  refine HIf.decT c0 ?_
  (conv => whnf)
  refine (spec_IsCartan _ _ _ (hx.ext E) (by omega)).mono ?_
  rintro r h2 ⟨rfl, hh⟩
  subst hh
  (conv => whnf)
  cases hic : isCartan c
  · rw [h0 hic] at O
    (repeat (first | (refine HIf.decT c0 ?_; (conv => whnf)) | (refine HIf.no ?_; (conv => whnf))))
    refine ⟨_, rfl, E, ?_⟩
    rw [partsC_off hic]
    exact O
  have hC := (isCartan_iff c).1 hic
  (repeat (first | (refine HIf.decT c0 ?_; (conv => whnf)) | (refine HIf.yes ?_; (conv => whnf))))
  refine (spec_l3Part _ _ c k (hx.ext E) hC hkl).mono ?_
  rintro r h3 ⟨y, rfl, F⟩
  have hpp := partL_pos hkl
  have hhd := partL_head hC hkl
  (conv => whnf)
  refine ⟨rfl, F.ints.idxN (n := 0) hpp (fun a ha => ?_)⟩
  (conv => whnf)
  refine ⟨rfl, ha.load ?_⟩
  (conv => whnf)
  refine HIf.beq (fun he => ?_) (fun hne => ?_)
  · have hm := hhd.1 he
    (conv => whnf)
    refine HLit.row (F.own).one ?_
    (conv => whnf)
    refine ⟨rfl, rfl, HApp.snocM E O F.1 F.own (by omega) (fun h4 y4 E4 O4 => ?_)⟩
    rw [← partsTo_in hm] at O4
    (conv => whnf)
    refine HArith.fits (by omega) (by omega) ?_
    (conv => whnf)
    exact ⟨⟨k + 1, y4, rfl, by omega, E4, O4, fun e => by cases e⟩, by show c.length - (k + 1) < c.length - k; omega⟩
  · have hm : isMin c k = false := by
      cases hm : isMin c k
      · rfl
      · exact absurd (hhd.2 hm) hne
    (conv => whnf)
    refine HArith.fits (by omega) (by omega) ?_
    (conv => whnf)
    exact ⟨⟨k + 1, z, rfl, by omega, E.trans F.1, by rw [partsTo_out hm]; exact (O.ext F.1).widen F.1.1, fun e => by cases e⟩, by show c.length - (k + 1) < c.length - k; omega⟩

theorem spec_IsConnected (h : Heap) (x : H0) (c : List (List Int)) (hx : Rows h x c) (hc : c.length ≤ 1048576) :
    HCalls dm Tryz.prog 184 [.s x] h (fun r h' => r = B (isConn c) ∧ Ext h h') := by
  refine calls_of_hFun (m := 0) kd_ok mixed Tryz.func184 rfl (by kernel_rfl) rfl rfl (of_decide_eq_true rfl) ?_; unfold hFun; (conv => whnf)
  refine (spec_PartsOf _ _ c hx hc).mono ?_
  rintro r h1 ⟨y, rfl, E, O⟩
  (conv => whnf)
  refine ⟨rfl, O.rows.len ?_⟩
  (conv => whnf)
  refine ⟨bEq ?_, E⟩
  rw [isConn_parts]
  by_cases e : (partsC c).length = 1
  · simp [e]
  · simp only [e, decide_false]
    symm
    rw [beq_eq_false_iff_ne]
    omega

end Go.Proofs.YtgliajcgcbnemaaGreatDoor.Hx

namespace Go.Proofs
open Go.Shelf
def Tryz.sortI_ren : Go.Shelf.Ren := ⟨fun | 189 => 189 | 125 => 151 | 257 => 230 | 128 => 207 | 129 => 208 | 294 => 253 | 295 => 254 | 296 => 255 | 297 => 256 | 298 => 257 | 299 => 258 | 216 => 259 | 300 => 260 | 301 => 261 | 328 => 277 | 329 => 235 | 330 => 236 | 331 => 278 | 332 => 279 | 215 => 209 | 343 => 298 | n => n, fun | 28 => 30 | 3 => 3 | 46 => 99 | 0 => 0 | 51 => 139 | 53 => 141 | 4 => 4 | 183 => 133 | 182 => 132 | 131 => 116 | 5 => 5 | 9 => 9 | 218 => 154 | 222 => 158 | 228 => 181 | 229 => 182 | n => n, fun | n => n⟩
theorem Tryz.sortI : Go.Proofs.Lays.n189 Tryz.prog Tryz.sortI_ren := {
  mixed := by kernel_rfl
  f125 := Tryz.func151.trans (congrArg some (by kernel_rfl))
  f128 := Tryz.func207.trans (congrArg some (by kernel_rfl))
  f129 := Tryz.func208.trans (congrArg some (by kernel_rfl))
  f189 := Tryz.func189.trans (congrArg some (by kernel_rfl))
  f215 := Tryz.func209.trans (congrArg some (by kernel_rfl))
  f216 := Tryz.func259.trans (congrArg some (by kernel_rfl))
  f257 := Tryz.func230.trans (congrArg some (by kernel_rfl))
  f294 := Tryz.func253.trans (congrArg some (by kernel_rfl))
  f295 := Tryz.func254.trans (congrArg some (by kernel_rfl))
  f296 := Tryz.func255.trans (congrArg some (by kernel_rfl))
  f297 := Tryz.func256.trans (congrArg some (by kernel_rfl))
  f298 := Tryz.func257.trans (congrArg some (by kernel_rfl))
  f299 := Tryz.func258.trans (congrArg some (by kernel_rfl))
  f300 := Tryz.func260.trans (congrArg some (by kernel_rfl))
  f301 := Tryz.func261.trans (congrArg some (by kernel_rfl))
  f328 := Tryz.func277.trans (congrArg some (by kernel_rfl))
  f329 := Tryz.func235.trans (congrArg some (by kernel_rfl))
  f330 := Tryz.func236.trans (congrArg some (by kernel_rfl))
  f331 := Tryz.func278.trans (congrArg some (by kernel_rfl))
  f332 := Tryz.func279.trans (congrArg some (by kernel_rfl))
  f343 := Tryz.func298.trans (congrArg some (by kernel_rfl))
  t0 := Tryz.underlying0
  a0 := Tryz.isAgg0
  z0 := Tryz.sizeOf0
  v0 := Tryz.zeroValue0
  t3 := Tryz.underlying3
  a3 := Tryz.isAgg3
  z3 := Tryz.sizeOf3
  v3 := Tryz.zeroValue3
  t4 := Tryz.underlying4
  a4 := Tryz.isAgg4
  z4 := Tryz.sizeOf4
  v4 := Tryz.zeroValue4
  t5 := Tryz.underlying5
  a5 := Tryz.isAgg5
  z5 := Tryz.sizeOf5
  v5 := Tryz.zeroValue5
  t9 := Tryz.underlying9
  a9 := Tryz.isAgg9
  z9 := Tryz.sizeOf9
  v9 := Tryz.zeroValue9
  t28 := Tryz.underlying30
  a28 := Tryz.isAgg30
  z28 := Tryz.sizeOf30
  v28 := Tryz.zeroValue30
  t46 := Tryz.underlying99
  a46 := Tryz.isAgg99
  z46 := Tryz.sizeOf99
  v46 := Tryz.zeroValue99
  t51 := Tryz.underlying139
  a51 := Tryz.isAgg139
  z51 := Tryz.sizeOf139
  v51 := Tryz.zeroValue139
  t53 := Tryz.underlying141
  a53 := Tryz.isAgg141
  z53 := Tryz.sizeOf141
  v53 := Tryz.zeroValue141
  t131 := Tryz.underlying116
  a131 := Tryz.isAgg116
  z131 := Tryz.sizeOf116
  v131 := Tryz.zeroValue116
  t182 := Tryz.underlying132
  a182 := Tryz.isAgg132
  z182 := Tryz.sizeOf132
  v182 := Tryz.zeroValue132
  t183 := Tryz.underlying133
  a183 := Tryz.isAgg133
  z183 := Tryz.sizeOf133
  v183 := Tryz.zeroValue133
  t218 := Tryz.underlying154
  a218 := Tryz.isAgg154
  z218 := Tryz.sizeOf154
  v218 := Tryz.zeroValue154
  t222 := Tryz.underlying158
  a222 := Tryz.isAgg158
  z222 := Tryz.sizeOf158
  v222 := Tryz.zeroValue158
  t228 := Tryz.underlying181
  a228 := Tryz.isAgg181
  z228 := Tryz.sizeOf181
  v228 := Tryz.zeroValue181
  t229 := Tryz.underlying182
  a229 := Tryz.isAgg182
  z229 := Tryz.sizeOf182
  v229 := Tryz.zeroValue182 }
end Go.Proofs
