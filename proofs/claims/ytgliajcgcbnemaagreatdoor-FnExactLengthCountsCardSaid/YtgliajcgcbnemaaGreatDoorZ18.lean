/-
  The matrices of all types, of both sides.
  TypeCartan of the program.
  Numbers, weights and lists of roots as texts: in plain words, and of the reference.
  DERIVED: THE SHELF's CONTRACTS AT THIS DUMP, IN PLAIN WORDS (tools/lay-plain.mjs out of 'YtgliajcgcbnemaaGreatDoorSt.lean', which tools/lay-shelf.mjs wrote): THE SAME DECLARATIONS UNDER THE SAME NAMES: 'import', 'namespace', 'open', 'def', 'theorem' AND NOTHING ELSE: no command of the shelf's: FOR A HAND-IN. Each laying: the table of numbers ('.._ren') and one theorem, a field a fact of the dump's own or the kernel's comparison; each contract: ONE APPLICATION.
-/
import Derived.Test.YtgliajcgcbnemaaGreatDoorZ17
import Derived.Lib.ItoaNum
import Derived.Lib.ItoaLen
import Derived.Lib.Join
import Derived.Shelf.Strings.OnBuilder
import Derived.Shelf.LaysM
import Derived.Shelf.Strconv.Itoa3
import Derived.Ground.NamesProg
import Derived.Test.YtgliajcgcbnemaaGreatDoorProg
namespace Go.Proofs.YtgliajcgcbnemaaGreatDoor.Hx
open Go.RowKit
variable {dm : Bool}

/-- The names of all types, each with its matrix. -/
def typeL : List (ByteArray × List (List Int)) := [(⟨#[65, 49]⟩, chainC 1), (⟨#[65, 50]⟩, chainC 2), (⟨#[65, 51]⟩, chainC 3), (⟨#[65, 52]⟩, chainC 4), (⟨#[66, 50]⟩, setC (chainC 2) 0 1 (-1) (-2)), (⟨#[66, 51]⟩, setC (chainC 3) 1 2 (-1) (-2)), (⟨#[66, 52]⟩, setC (chainC 4) 2 3 (-1) (-2)), (⟨#[67, 51]⟩, setC (chainC 3) 1 2 (-2) (-1)), (⟨#[67, 52]⟩, setC (chainC 4) 2 3 (-2) (-1)), (⟨#[68, 52]⟩, setC (setC (chainC 4) 2 3 0 0) 1 3 (-1) (-1)), (⟨#[70, 52]⟩, setC (chainC 4) 1 2 (-1) (-2)), (⟨#[71, 50]⟩, setC (chainC 2) 0 1 (-1) (-3)), (⟨#[65, 49, 126]⟩, setC (chainC 2) 0 1 (-2) (-2)), (⟨#[65, 50, 126]⟩, setC (chainC 3) 0 2 (-1) (-1)), (⟨#[65, 51, 126]⟩, setC (chainC 4) 0 3 (-1) (-1)), (⟨#[67, 50, 126]⟩, setC (setC (chainC 3) 0 1 (-1) (-2)) 1 2 (-2) (-1)), (⟨#[71, 50, 126]⟩, setC (chainC 3) 1 2 (-1) (-3))]
theorem tyA1 : ((⟨#[65, 49]⟩ : ByteArray), chainC 1) ∈ typeL := by simp [typeL]
theorem tyA2 : ((⟨#[65, 50]⟩ : ByteArray), chainC 2) ∈ typeL := by simp [typeL]
theorem tyA3 : ((⟨#[65, 51]⟩ : ByteArray), chainC 3) ∈ typeL := by simp [typeL]
theorem tyA4 : ((⟨#[65, 52]⟩ : ByteArray), chainC 4) ∈ typeL := by simp [typeL]
theorem tyB2 : ((⟨#[66, 50]⟩ : ByteArray), setC (chainC 2) 0 1 (-1) (-2)) ∈ typeL := by simp [typeL]
theorem tyB3 : ((⟨#[66, 51]⟩ : ByteArray), setC (chainC 3) 1 2 (-1) (-2)) ∈ typeL := by simp [typeL]
theorem tyB4 : ((⟨#[66, 52]⟩ : ByteArray), setC (chainC 4) 2 3 (-1) (-2)) ∈ typeL := by simp [typeL]
theorem tyC3 : ((⟨#[67, 51]⟩ : ByteArray), setC (chainC 3) 1 2 (-2) (-1)) ∈ typeL := by simp [typeL]
theorem tyC4 : ((⟨#[67, 52]⟩ : ByteArray), setC (chainC 4) 2 3 (-2) (-1)) ∈ typeL := by simp [typeL]
theorem tyD4 : ((⟨#[68, 52]⟩ : ByteArray), setC (setC (chainC 4) 2 3 0 0) 1 3 (-1) (-1)) ∈ typeL := by simp [typeL]
theorem tyF4 : ((⟨#[70, 52]⟩ : ByteArray), setC (chainC 4) 1 2 (-1) (-2)) ∈ typeL := by simp [typeL]
theorem tyG2 : ((⟨#[71, 50]⟩ : ByteArray), setC (chainC 2) 0 1 (-1) (-3)) ∈ typeL := by simp [typeL]
theorem tyA1t : ((⟨#[65, 49, 126]⟩ : ByteArray), setC (chainC 2) 0 1 (-2) (-2)) ∈ typeL := by simp [typeL]
theorem tyA2t : ((⟨#[65, 50, 126]⟩ : ByteArray), setC (chainC 3) 0 2 (-1) (-1)) ∈ typeL := by simp [typeL]
theorem tyA3t : ((⟨#[65, 51, 126]⟩ : ByteArray), setC (chainC 4) 0 3 (-1) (-1)) ∈ typeL := by simp [typeL]
theorem tyC2t : ((⟨#[67, 50, 126]⟩ : ByteArray), setC (setC (chainC 3) 0 1 (-1) (-2)) 1 2 (-2) (-1)) ∈ typeL := by simp [typeL]
theorem tyG2t : ((⟨#[71, 50, 126]⟩ : ByteArray), setC (chainC 3) 1 2 (-1) (-3)) ∈ typeL := by simp [typeL]

/-- Entries of a matrix are set: rows, columns and values by threes. -/
def withE : List (List Int) → List Int → List (List Int)
  | L, i :: j :: v :: t => withE (setM L i.toNat j.toNat v) t
  | L, _ => L
theorem withE_step {L : List (List Int)} {es : List Int} {k : Nat} (h : k + 2 < es.length) : withE L (es.drop k) = withE (setM L (es.getD k 0).toNat (es.getD (k + 1) 0).toNat (es.getD (k + 2) 0)) (es.drop (k + 3)) := by
  rw [List.drop_eq_getElem_cons (show k < es.length by omega), List.drop_eq_getElem_cons (show k + 1 < es.length by omega), List.drop_eq_getElem_cons (show k + 1 + 1 < es.length by omega)]
  simp [withE, List.getD, show k < es.length by omega, show k + 1 < es.length by omega, show k + 2 < es.length by omega]
theorem withE_end {L : List (List Int)} {es : List Int} {k : Nat} (h : es.length ≤ k + 2) : withE L (es.drop k) = L := by
  have hl : (es.drop k).length ≤ 2 := by simp; omega
  match es.drop k, hl with
  | [], _ => rfl
  | [_], _ => rfl
  | [_, _], _ => rfl
theorem weB2 : withE (chainC 2) [1, 0, -2] = setC (chainC 2) 0 1 (-1) (-2) := by decide +kernel
theorem weB3 : withE (chainC 3) [2, 1, -2] = setC (chainC 3) 1 2 (-1) (-2) := by decide +kernel
theorem weB4 : withE (chainC 4) [3, 2, -2] = setC (chainC 4) 2 3 (-1) (-2) := by decide +kernel
theorem weC3 : withE (chainC 3) [1, 2, -2] = setC (chainC 3) 1 2 (-2) (-1) := by decide +kernel
theorem weC4 : withE (chainC 4) [2, 3, -2] = setC (chainC 4) 2 3 (-2) (-1) := by decide +kernel
theorem weD4 : withE (chainC 4) [2, 3, 0, 3, 2, 0, 1, 3, -1, 3, 1, -1] = setC (setC (chainC 4) 2 3 0 0) 1 3 (-1) (-1) := by decide +kernel
theorem weF4 : withE (chainC 4) [2, 1, -2] = setC (chainC 4) 1 2 (-1) (-2) := by decide +kernel
theorem weG2 : withE (chainC 2) [1, 0, -3] = setC (chainC 2) 0 1 (-1) (-3) := by decide +kernel
theorem weA1t : withE (chainC 2) [0, 1, -2, 1, 0, -2] = setC (chainC 2) 0 1 (-2) (-2) := by decide +kernel
theorem weA2t : withE (chainC 3) [0, 2, -1, 2, 0, -1] = setC (chainC 3) 0 2 (-1) (-1) := by decide +kernel
theorem weA3t : withE (chainC 4) [0, 3, -1, 3, 0, -1] = setC (chainC 4) 0 3 (-1) (-1) := by decide +kernel
theorem weC2t : withE (chainC 3) [1, 0, -2, 1, 2, -2] = setC (setC (chainC 3) 0 1 (-1) (-2)) 1 2 (-2) (-1) := by decide +kernel
theorem weG2t : withE (chainC 3) [2, 1, -3] = setC (chainC 3) 1 2 (-1) (-3) := by decide +kernel

theorem HLit.many {z : Value} (l : List Int) {n : Nat} {h : Heap} {K : HV → Heap → Prop} (hn : n = l.length) (hl : l.length ≤ 4096) (hK : K (.s (.sl h.length 0 n)) (h ++ [.own (l.map ci)])) : HLit z n (some (l.map ci)) h K :=
  ⟨l.map ci, rfl, by simp [hn], by omega, by simp [H0.one, Value.oneCell'], hK⟩
theorem MatAt.ownLow {h : Heap} {r b : Nat} {ρ : Nat → Nat} {L : List (List Int)} (m : MatAt h r ρ L) {x : H0} (hx : x = .sl r 0 L.length) (hb : b ≤ r) (hρ : ∀ i, i < L.length → b ≤ ρ i) : OwnM b h.length h x L := by
  obtain ⟨k1, k2⟩ := m.lt
  exact ⟨r, ρ, hx, hb, k1, fun i hi => ⟨hρ i hi, k2 i hi⟩, m⟩
theorem KeepN.at {q : Nat} {h h' : Heap} {x : H0} {l : List Int} {F : Nat → Prop} (k : KeepN F h h') (O : OwnR q h x l) (hq : ¬ F q) : OwnR q h' x l := by
  have := O.lt
  obtain ⟨t, g1, g2⟩ := O
  exact ⟨t, g1, by rw [k.2 q this hq]; exact g2⟩


set_option maxRecDepth 20000 in
theorem spec_TypeCartanN (h : Heap) (s : ByteArray) (hs : s ∈ namesT) : HCalls dm Tryz.prog 182 [St s] h (fun r h' => ∃ y L, r = TM y true ∧ Ext h h' ∧ OwnM h.length h'.length h' y L ∧ (s, L) ∈ typeL) := by
  refine calls_of_hFun (m := 0) kd_ok mixed Tryz.func182 rfl (by kernel_rfl) rfl rfl (of_decide_eq_true rfl) ?_; unfold hFun; (conv => whnf)
  refine HStr.eql ?_
  (conv => whnf)
  refine HIf.str (fun e => ?_) (fun neA1 => ?_)
  · subst e
    (conv => whnf)
    refine HIf.strT rfl ?_
    (conv => whnf)
    refine ⟨_, .i64, 1, by decide, rfl, rfl, ?_⟩
    (conv => whnf)
    refine HArith.any ?_
    (conv => whnf)
    refine HConv.of ?_
    (conv => whnf)
    refine (show HCalls _ _ _ [I ((1 : Nat) : Int)] _ _ from (spec_l2Chain h 1 (by omega)).mono ?_)
    rintro r h1 ⟨y1, rfl, E1, O1⟩
    (conv => whnf)
    exact ⟨_, _, rfl, E1, O1, tyA1⟩
  (conv => whnf)
  refine HStr.eql ?_
  (conv => whnf)
  refine HIf.str (fun e => ?_) (fun neA2 => ?_)
  · subst e
    (conv => whnf)
    refine HIf.strT rfl ?_
    (conv => whnf)
    refine ⟨_, .i64, 1, by decide, rfl, rfl, ?_⟩
    (conv => whnf)
    refine HArith.any ?_
    (conv => whnf)
    refine HConv.of ?_
    (conv => whnf)
    refine (show HCalls _ _ _ [I ((2 : Nat) : Int)] _ _ from (spec_l2Chain h 2 (by omega)).mono ?_)
    rintro r h1 ⟨y1, rfl, E1, O1⟩
    (conv => whnf)
    exact ⟨_, _, rfl, E1, O1, tyA2⟩
  (conv => whnf)
  refine HStr.eql ?_
  (conv => whnf)
  refine HIf.str (fun e => ?_) (fun neA3 => ?_)
  · subst e
    (conv => whnf)
    refine HIf.strT rfl ?_
    (conv => whnf)
    refine ⟨_, .i64, 1, by decide, rfl, rfl, ?_⟩
    (conv => whnf)
    refine HArith.any ?_
    (conv => whnf)
    refine HConv.of ?_
    (conv => whnf)
    refine (show HCalls _ _ _ [I ((3 : Nat) : Int)] _ _ from (spec_l2Chain h 3 (by omega)).mono ?_)
    rintro r h1 ⟨y1, rfl, E1, O1⟩
    (conv => whnf)
    exact ⟨_, _, rfl, E1, O1, tyA3⟩
  (conv => whnf)
  refine HStr.eql ?_
  (conv => whnf)
  refine HIf.str (fun e => ?_) (fun neA4 => ?_)
  · subst e
    (conv => whnf)
    refine ⟨_, .i64, 1, by decide, rfl, rfl, ?_⟩
    (conv => whnf)
    refine HArith.any ?_
    (conv => whnf)
    refine HConv.of ?_
    (conv => whnf)
    refine (show HCalls _ _ _ [I ((4 : Nat) : Int)] _ _ from (spec_l2Chain h 4 (by omega)).mono ?_)
    rintro r h1 ⟨y1, rfl, E1, O1⟩
    (conv => whnf)
    exact ⟨_, _, rfl, E1, O1, tyA4⟩
  (conv => whnf)
  refine HStr.eql ?_
  (conv => whnf)
  refine HIf.str (fun e => ?_) (fun neB2 => ?_)
  · subst e
    (conv => whnf)
    refine (show HCalls _ _ _ [I ((2 : Nat) : Int)] _ _ from (spec_l2Chain h 2 (by omega)).mono ?_)
    rintro r h1 ⟨y1, rfl, E1, O1⟩
    (conv => whnf)
    refine (spec_l2Set h1 _ (chainC 2) 0 1 (-1) (-2) O1.rows (by decide +kernel) (by decide +kernel) (by decide +kernel) (by decide +kernel) (by decide +kernel)).mono ?_
    rintro r h2 ⟨y2, rfl, E2, O2⟩
    (conv => whnf)
    replace O2 := O2.lower E1.1
    replace E2 := E1.trans E2
    exact ⟨_, _, rfl, E2, O2, tyB2⟩
  (conv => whnf)
  refine HStr.eql ?_
  (conv => whnf)
  refine HIf.str (fun e => ?_) (fun neB3 => ?_)
  · subst e
    (conv => whnf)
    refine (show HCalls _ _ _ [I ((3 : Nat) : Int)] _ _ from (spec_l2Chain h 3 (by omega)).mono ?_)
    rintro r h1 ⟨y1, rfl, E1, O1⟩
    (conv => whnf)
    refine (spec_l2Set h1 _ (chainC 3) 1 2 (-1) (-2) O1.rows (by decide +kernel) (by decide +kernel) (by decide +kernel) (by decide +kernel) (by decide +kernel)).mono ?_
    rintro r h2 ⟨y2, rfl, E2, O2⟩
    (conv => whnf)
    replace O2 := O2.lower E1.1
    replace E2 := E1.trans E2
    exact ⟨_, _, rfl, E2, O2, tyB3⟩
  (conv => whnf)
  refine HStr.eql ?_
  (conv => whnf)
  refine HIf.str (fun e => ?_) (fun neB4 => ?_)
  · subst e
    (conv => whnf)
    refine (show HCalls _ _ _ [I ((4 : Nat) : Int)] _ _ from (spec_l2Chain h 4 (by omega)).mono ?_)
    rintro r h1 ⟨y1, rfl, E1, O1⟩
    (conv => whnf)
    refine (spec_l2Set h1 _ (chainC 4) 2 3 (-1) (-2) O1.rows (by decide +kernel) (by decide +kernel) (by decide +kernel) (by decide +kernel) (by decide +kernel)).mono ?_
    rintro r h2 ⟨y2, rfl, E2, O2⟩
    (conv => whnf)
    replace O2 := O2.lower E1.1
    replace E2 := E1.trans E2
    exact ⟨_, _, rfl, E2, O2, tyB4⟩
  (conv => whnf)
  refine HStr.eql ?_
  (conv => whnf)
  refine HIf.str (fun e => ?_) (fun neC3 => ?_)
  · subst e
    (conv => whnf)
    refine (show HCalls _ _ _ [I ((3 : Nat) : Int)] _ _ from (spec_l2Chain h 3 (by omega)).mono ?_)
    rintro r h1 ⟨y1, rfl, E1, O1⟩
    (conv => whnf)
    refine (spec_l2Set h1 _ (chainC 3) 1 2 (-2) (-1) O1.rows (by decide +kernel) (by decide +kernel) (by decide +kernel) (by decide +kernel) (by decide +kernel)).mono ?_
    rintro r h2 ⟨y2, rfl, E2, O2⟩
    (conv => whnf)
    replace O2 := O2.lower E1.1
    replace E2 := E1.trans E2
    exact ⟨_, _, rfl, E2, O2, tyC3⟩
  (conv => whnf)
  refine HStr.eql ?_
  (conv => whnf)
  refine HIf.str (fun e => ?_) (fun neC4 => ?_)
  · subst e
    (conv => whnf)
    refine (show HCalls _ _ _ [I ((4 : Nat) : Int)] _ _ from (spec_l2Chain h 4 (by omega)).mono ?_)
    rintro r h1 ⟨y1, rfl, E1, O1⟩
    (conv => whnf)
    refine (spec_l2Set h1 _ (chainC 4) 2 3 (-2) (-1) O1.rows (by decide +kernel) (by decide +kernel) (by decide +kernel) (by decide +kernel) (by decide +kernel)).mono ?_
    rintro r h2 ⟨y2, rfl, E2, O2⟩
    (conv => whnf)
    replace O2 := O2.lower E1.1
    replace E2 := E1.trans E2
    exact ⟨_, _, rfl, E2, O2, tyC4⟩
  (conv => whnf)
  refine HStr.eql ?_
  (conv => whnf)
  refine HIf.str (fun e => ?_) (fun neD4 => ?_)
  · subst e
    (conv => whnf)
    refine (show HCalls _ _ _ [I ((4 : Nat) : Int)] _ _ from (spec_l2Chain h 4 (by omega)).mono ?_)
    rintro r h1 ⟨y1, rfl, E1, O1⟩
    (conv => whnf)
    refine (spec_l2Set h1 _ (chainC 4) 2 3 0 0 O1.rows (by decide +kernel) (by decide +kernel) (by decide +kernel) (by decide +kernel) (by decide +kernel)).mono ?_
    rintro r h2 ⟨y2, rfl, E2, O2⟩
    (conv => whnf)
    replace O2 := O2.lower E1.1
    replace E2 := E1.trans E2
    refine (spec_l2Set h2 _ (setC (chainC 4) 2 3 0 0) 1 3 (-1) (-1) O2.rows (by decide +kernel) (by decide +kernel) (by decide +kernel) (by decide +kernel) (by decide +kernel)).mono ?_
    rintro r h3 ⟨y3, rfl, E3, O3⟩
    (conv => whnf)
    replace O3 := O3.lower E2.1
    replace E3 := E2.trans E3
    exact ⟨_, _, rfl, E3, O3, tyD4⟩
  (conv => whnf)
  refine HStr.eql ?_
  (conv => whnf)
  refine HIf.str (fun e => ?_) (fun neF4 => ?_)
  · subst e
    (conv => whnf)
    refine (show HCalls _ _ _ [I ((4 : Nat) : Int)] _ _ from (spec_l2Chain h 4 (by omega)).mono ?_)
    rintro r h1 ⟨y1, rfl, E1, O1⟩
    (conv => whnf)
    refine (spec_l2Set h1 _ (chainC 4) 1 2 (-1) (-2) O1.rows (by decide +kernel) (by decide +kernel) (by decide +kernel) (by decide +kernel) (by decide +kernel)).mono ?_
    rintro r h2 ⟨y2, rfl, E2, O2⟩
    (conv => whnf)
    replace O2 := O2.lower E1.1
    replace E2 := E1.trans E2
    exact ⟨_, _, rfl, E2, O2, tyF4⟩
  (conv => whnf)
  refine HStr.eql ?_
  (conv => whnf)
  refine HIf.str (fun e => ?_) (fun neG2 => ?_)
  · subst e
    (conv => whnf)
    refine (show HCalls _ _ _ [I ((2 : Nat) : Int)] _ _ from (spec_l2Chain h 2 (by omega)).mono ?_)
    rintro r h1 ⟨y1, rfl, E1, O1⟩
    (conv => whnf)
    refine (spec_l2Set h1 _ (chainC 2) 0 1 (-1) (-3) O1.rows (by decide +kernel) (by decide +kernel) (by decide +kernel) (by decide +kernel) (by decide +kernel)).mono ?_
    rintro r h2 ⟨y2, rfl, E2, O2⟩
    (conv => whnf)
    replace O2 := O2.lower E1.1
    replace E2 := E1.trans E2
    exact ⟨_, _, rfl, E2, O2, tyG2⟩
  (conv => whnf)
  refine HStr.eql ?_
  (conv => whnf)
  refine HIf.str (fun e => ?_) (fun neA1t => ?_)
  · subst e
    (conv => whnf)
    refine (show HCalls _ _ _ [I ((2 : Nat) : Int)] _ _ from (spec_l2Chain h 2 (by omega)).mono ?_)
    rintro r h1 ⟨y1, rfl, E1, O1⟩
    (conv => whnf)
    refine (spec_l2Set h1 _ (chainC 2) 0 1 (-2) (-2) O1.rows (by decide +kernel) (by decide +kernel) (by decide +kernel) (by decide +kernel) (by decide +kernel)).mono ?_
    rintro r h2 ⟨y2, rfl, E2, O2⟩
    (conv => whnf)
    replace O2 := O2.lower E1.1
    replace E2 := E1.trans E2
    exact ⟨_, _, rfl, E2, O2, tyA1t⟩
  (conv => whnf)
  refine HStr.eql ?_
  (conv => whnf)
  refine HIf.str (fun e => ?_) (fun neA2t => ?_)
  · subst e
    (conv => whnf)
    refine (show HCalls _ _ _ [I ((3 : Nat) : Int)] _ _ from (spec_l2Chain h 3 (by omega)).mono ?_)
    rintro r h1 ⟨y1, rfl, E1, O1⟩
    (conv => whnf)
    refine (spec_l2Set h1 _ (chainC 3) 0 2 (-1) (-1) O1.rows (by decide +kernel) (by decide +kernel) (by decide +kernel) (by decide +kernel) (by decide +kernel)).mono ?_
    rintro r h2 ⟨y2, rfl, E2, O2⟩
    (conv => whnf)
    replace O2 := O2.lower E1.1
    replace E2 := E1.trans E2
    exact ⟨_, _, rfl, E2, O2, tyA2t⟩
  (conv => whnf)
  refine HStr.eql ?_
  (conv => whnf)
  refine HIf.str (fun e => ?_) (fun neA3t => ?_)
  · subst e
    (conv => whnf)
    refine (show HCalls _ _ _ [I ((4 : Nat) : Int)] _ _ from (spec_l2Chain h 4 (by omega)).mono ?_)
    rintro r h1 ⟨y1, rfl, E1, O1⟩
    (conv => whnf)
    refine (spec_l2Set h1 _ (chainC 4) 0 3 (-1) (-1) O1.rows (by decide +kernel) (by decide +kernel) (by decide +kernel) (by decide +kernel) (by decide +kernel)).mono ?_
    rintro r h2 ⟨y2, rfl, E2, O2⟩
    (conv => whnf)
    replace O2 := O2.lower E1.1
    replace E2 := E1.trans E2
    exact ⟨_, _, rfl, E2, O2, tyA3t⟩
  (conv => whnf)
  refine HStr.eql ?_
  (conv => whnf)
  refine HIf.str (fun e => ?_) (fun neC2t => ?_)
  · subst e
    (conv => whnf)
    refine (show HCalls _ _ _ [I ((3 : Nat) : Int)] _ _ from (spec_l2Chain h 3 (by omega)).mono ?_)
    rintro r h1 ⟨y1, rfl, E1, O1⟩
    (conv => whnf)
    refine (spec_l2Set h1 _ (chainC 3) 0 1 (-1) (-2) O1.rows (by decide +kernel) (by decide +kernel) (by decide +kernel) (by decide +kernel) (by decide +kernel)).mono ?_
    rintro r h2 ⟨y2, rfl, E2, O2⟩
    (conv => whnf)
    replace O2 := O2.lower E1.1
    replace E2 := E1.trans E2
    refine (spec_l2Set h2 _ (setC (chainC 3) 0 1 (-1) (-2)) 1 2 (-2) (-1) O2.rows (by decide +kernel) (by decide +kernel) (by decide +kernel) (by decide +kernel) (by decide +kernel)).mono ?_
    rintro r h3 ⟨y3, rfl, E3, O3⟩
    (conv => whnf)
    replace O3 := O3.lower E2.1
    replace E3 := E2.trans E3
    exact ⟨_, _, rfl, E3, O3, tyC2t⟩
  (conv => whnf)
  refine HStr.eql ?_
  (conv => whnf)
  refine HIf.str (fun e => ?_) (fun neG2t => ?_)
  · subst e
    (conv => whnf)
    refine (show HCalls _ _ _ [I ((3 : Nat) : Int)] _ _ from (spec_l2Chain h 3 (by omega)).mono ?_)
    rintro r h1 ⟨y1, rfl, E1, O1⟩
    (conv => whnf)
    refine (spec_l2Set h1 _ (chainC 3) 1 2 (-1) (-3) O1.rows (by decide +kernel) (by decide +kernel) (by decide +kernel) (by decide +kernel) (by decide +kernel)).mono ?_
    rintro r h2 ⟨y2, rfl, E2, O2⟩
    (conv => whnf)
    replace O2 := O2.lower E1.1
    replace E2 := E1.trans E2
    exact ⟨_, _, rfl, E2, O2, tyG2t⟩
  (conv => whnf)
  exfalso
  simp only [namesT, List.mem_cons, List.not_mem_nil, or_false] at hs
  rcases hs with rfl | rfl | rfl | rfl | rfl | rfl | rfl | rfl | rfl | rfl | rfl | rfl | rfl | rfl | rfl | rfl | rfl <;> contradiction


theorem impl_chain (h : Heap) (n : Nat) (hn : n ≤ 4) : HCalls dm Tryz.prog 231 [I n] h (fun r h' => ∃ y, r = .s y ∧ Ext h h' ∧ OwnM h.length h'.length h' y (chainC n)) := by
  refine calls_of_hFun (m := 0) kd_ok mixed Tryz.func231 rfl (by kernel_rfl) rfl rfl (of_decide_eq_true rfl) ?_; unfold hFun; (conv => whnf)
  refine HLit.empty ?_
  (conv => whnf)
  refine HLoop.intro [8, 3] [9, 10, 4, 11, 12, 5, 13, 14, 15, 16, 17, 18, 19, 20, 21, 22, 23, 24, 25, 26, 27, 28, 29, 30, 31, 32, 33, 3, 34, 8] (by kernel_rfl) (by kernel_rfl) (fun vs h' => ∃ (k : Nat) (z : H0), vs = [I k, .s z] ∧ k ≤ n ∧ Ext h h' ∧ OwnM h.length h'.length h' z (chainTo n k)) (fun vs _ => n - natAt vs 0) ⟨0, _, rfl, by omega, Ext.push _ _, OwnM.none h⟩ ?_
  rintro vs h' ⟨k, z, rfl, hk, E, O⟩
  have hcl := chainTo_length n k
  (conv => whnf)
  refine HIf.dec (fun hlt => ?_) (fun hge => ?_)
  · (conv => whnf)
    refine HMake.ints n rfl (by omega) ?_
    have O1 : OwnR h'.length (h' ++ [.own (List.replicate n (ci 0))]) (.sl h'.length 0 n) (List.replicate n (0 : Int)) := ⟨[], by simp, by rw [get_new]; simp⟩
    have E1 := Ext.push h' [.own (List.replicate n (ci 0))]
    generalize h' ++ [Row.own (List.replicate n (ci 0))] = h1 at O1 E1 ⊢
    have hE1 := E1.1
    have hrl : (List.replicate n (0 : Int)).length = n := by simp
    (conv => whnf)
    refine ⟨rfl, O1.idx (by omega) (by omega) ?_⟩
    (conv => whnf)
    refine ⟨rfl, O1.put (o := k) (by omega) (fun h2 B2 n2 O2 => ?_)⟩
    have E2 := E1.but B2 (Nat.le_refl _)
    have l2 : (((List.replicate n (0 : Int)).set k 2)).length = n := by simp
    (conv => whnf)
    refine HIf.dec (fun h0 => ?_) (fun h0 => ?_)
    · (conv => whnf)
      refine HArith.fits (by omega) (by omega) ?_
      (conv => whnf)
      refine ⟨rfl, O2.idx (by omega) (by omega) ?_⟩
      (conv => whnf)
      refine ⟨rfl, O2.put (by omega) (fun h3 B3 n3 O3 => ?_)⟩
      have E3 := E2.but B3 (Nat.le_refl _)
      have e3 : ((k : Int) - 1).toNat = k - 1 := by omega
      rw [e3] at O3
      have l3 : ((((List.replicate n (0 : Int)).set k 2)).set (k - 1) (-1)).length = n := by simp
      (conv => whnf)
      refine HArith.fits (by omega) (by omega) ?_
      (conv => whnf)
      refine HIf.dec (fun h1 => ?_) (fun h1 => ?_)
      · (conv => whnf)
        refine HArith.fits (by omega) (by omega) ?_
        (conv => whnf)
        refine ⟨rfl, O3.idx (by omega) (by omega) ?_⟩
        (conv => whnf)
        refine ⟨rfl, O3.put (by omega) (fun h4 B4 n4 O4 => ?_)⟩
        have E4 := E3.but B4 (Nat.le_refl _)
        have e4 : ((k : Int) + 1).toNat = k + 1 := by omega
        have e5 : (((((List.replicate n (0 : Int)).set k 2)).set (k - 1) (-1)).set ((k : Int) + 1).toNat (-1)) = chainR n k := by
          rw [e4]
          unfold chainR
          simp only
          rw [if_pos (by omega), if_pos (by omega)]
        rw [e5] at O4
        (conv => whnf)
        refine HLit.row (O4.own (Nat.zero_le _)).one ?_
        (conv => whnf)
        refine ⟨rfl, rfl, HApp.snocM E O E4 (O4.own (by omega)) (by omega) (fun h6 y6 E6 O6 => ?_)⟩
        rw [← chainTo_succ] at O6
        (conv => whnf)
        refine HArith.fits (by omega) (by omega) ?_
        (conv => whnf)
        exact ⟨⟨k + 1, y6, rfl, by omega, E6, O6⟩, by show n - (k + 1) < n - k; omega⟩
      · have e5 : ((((List.replicate n (0 : Int)).set k 2)).set (k - 1) (-1)) = chainR n k := by
          unfold chainR
          simp only
          rw [if_neg (by omega), if_pos (by omega)]
        rw [e5] at O3
        (conv => whnf)
        refine HLit.row (O3.own (Nat.zero_le _)).one ?_
        (conv => whnf)
        refine ⟨rfl, rfl, HApp.snocM E O E3 (O3.own (by omega)) (by omega) (fun h6 y6 E6 O6 => ?_)⟩
        rw [← chainTo_succ] at O6
        (conv => whnf)
        refine HArith.fits (by omega) (by omega) ?_
        (conv => whnf)
        exact ⟨⟨k + 1, y6, rfl, by omega, E6, O6⟩, by show n - (k + 1) < n - k; omega⟩
    · (conv => whnf)
      refine HArith.fits (by omega) (by omega) ?_
      (conv => whnf)
      refine HIf.dec (fun h1 => ?_) (fun h1 => ?_)
      · (conv => whnf)
        refine HArith.fits (by omega) (by omega) ?_
        (conv => whnf)
        refine ⟨rfl, O2.idx (by omega) (by omega) ?_⟩
        (conv => whnf)
        refine ⟨rfl, O2.put (by omega) (fun h4 B4 n4 O4 => ?_)⟩
        have E4 := E2.but B4 (Nat.le_refl _)
        have e4 : ((k : Int) + 1).toNat = k + 1 := by omega
        have e5 : (((List.replicate n (0 : Int)).set k 2)).set ((k : Int) + 1).toNat (-1) = chainR n k := by
          rw [e4]
          unfold chainR
          simp only
          rw [if_pos (by omega), if_neg (by omega)]
        rw [e5] at O4
        (conv => whnf)
        refine HLit.row (O4.own (Nat.zero_le _)).one ?_
        (conv => whnf)
        refine ⟨rfl, rfl, HApp.snocM E O E4 (O4.own (by omega)) (by omega) (fun h6 y6 E6 O6 => ?_)⟩
        rw [← chainTo_succ] at O6
        (conv => whnf)
        refine HArith.fits (by omega) (by omega) ?_
        (conv => whnf)
        exact ⟨⟨k + 1, y6, rfl, by omega, E6, O6⟩, by show n - (k + 1) < n - k; omega⟩
      · have e5 : (((List.replicate n (0 : Int)).set k 2)) = chainR n k := by
          unfold chainR
          simp only
          rw [if_neg (by omega), if_neg (by omega)]
        rw [e5] at O2
        (conv => whnf)
        refine HLit.row (O2.own (Nat.zero_le _)).one ?_
        (conv => whnf)
        refine ⟨rfl, rfl, HApp.snocM E O E2 (O2.own (by omega)) (by omega) (fun h6 y6 E6 O6 => ?_)⟩
        rw [← chainTo_succ] at O6
        (conv => whnf)
        refine HArith.fits (by omega) (by omega) ?_
        (conv => whnf)
        exact ⟨⟨k + 1, y6, rfl, by omega, E6, O6⟩, by show n - (k + 1) < n - k; omega⟩
  · have e : k = n := by omega
    subst e
    (conv => whnf)
    exact ⟨_, rfl, E, O⟩


set_option maxHeartbeats 1000000 in
theorem impl_with {h0 : Heap} (h : Heap) (r : Nat) (ρ : Nat → Nat) (L : List (List Int)) (n : Nat) (y : H0) (q : Nat) (es : List Int) (m : MatAt h r ρ L) (hb : h0.length ≤ r ∧ ∀ i, i < L.length → h0.length ≤ ρ i) (E : Ext h0 h) (O : OwnR q h y es) (hq : q ≠ r ∧ ∀ i, i < L.length → q ≠ ρ i)
    (hn : L.length = n) (hr : ∀ i, i < n → (L.getD i []).length = n) (hv : ∀ k, k < es.length → k + 2 < es.length → k % 3 = 0 → 0 ≤ es.getD k 0 ∧ es.getD k 0 < n ∧ 0 ≤ es.getD (k + 1) 0 ∧ es.getD (k + 1) 0 < n) (hl : es.length ≤ 100) :
    HCalls dm Tryz.prog 232 [.s (.sl r 0 L.length), .s y] h (fun v h' => v = .s (.sl r 0 L.length) ∧ Ext h0 h' ∧ MatAt h' r ρ (withE L es)) := by
  refine calls_of_hFun (m := 0) kd_ok mixed Tryz.func232 rfl (by kernel_rfl) rfl rfl (of_decide_eq_true rfl) ?_; unfold hFun; (conv => whnf)
  refine HLoop.intro [5] [6, 7, 8, 9, 10, 13, 14, 15, 16, 17, 18, 19, 20, 21, 22, 23, 24, 25, 26, 27, 28, 29, 30, 11, 12, 5] (by kernel_rfl) (by kernel_rfl) (fun vs h' => ∃ (k : Nat) (M : List (List Int)), vs = [I k] ∧ k % 3 = 0 ∧ k ≤ es.length ∧ Ext h0 h' ∧ MatAt h' r ρ M ∧ M.length = L.length ∧ (∀ i, i < n → (M.getD i []).length = n) ∧ withE M (es.drop k) = withE L es ∧ OwnR q h' y es) (fun vs _ => es.length - natAt vs 0) ⟨0, L, rfl, rfl, by omega, E, m, rfl, hr, by rw [List.drop_zero], O⟩ ?_
  clear E m hr O
  rintro vs h' ⟨k, M, rfl, hk, hkl, E, m, hM, hr, hw, O⟩
  (conv => whnf)
  refine HArith.fits (by omega) (by omega) ?_
  (conv => whnf)
  refine ⟨rfl, O.ints.len ?_⟩
  (conv => whnf)
  refine HIf.dec (fun hlt => ?_) (fun hge => ?_)
  rotate_left
  · rw [withE_end (by omega)] at hw
    subst hw
    (conv => whnf)
    exact ⟨rfl, E, m⟩
  have hv2 := hv k (by omega) (by omega) hk
  obtain ⟨i, hi⟩ : ∃ i : Nat, es.getD k 0 = (i : Int) := ⟨(es.getD k 0).toNat, by omega⟩
  obtain ⟨j, hj⟩ : ∃ j : Nat, es.getD (k + 1) 0 = (j : Int) := ⟨(es.getD (k + 1) 0).toNat, by omega⟩
  rw [hi, hj] at hv2
  have hst := withE_step (L := M) (es := es) (k := k) (by omega)
  rw [hw, hi, hj, Int.toNat_natCast, Int.toNat_natCast] at hst
  have hiM : i < M.length := by omega
  have hri := hr i (by omega)
  generalize hev : es.getD (k + 2) 0 = v at *
  (conv => whnf)
  have gi : ∀ {K : HV → Prop}, (∀ p, At h' p (.sl (ρ i) 0 (M.getD i []).length) → K (.s p)) → HIdx h' (.s (.sl r 0 L.length)) (I i) K := fun hK => by rw [← hM]; exact m.idx hiM hK
  refine Or.inr (Or.inr (Or.inl (Exists.intro 18 (Exists.intro [0, 1, 2, 3, 4, 5, 6, 7, 8, 9, 10, 11, 12, 13, 14, 15, 16, 17] (Exists.intro [18] (And.intro (show heldOk _ _ _ _ = true by kernel_rfl) ?_)))))); (conv => whnf)
  refine ⟨rfl, O.ints.idxN (n := k) (by omega) (fun p1 hp1 => ?_)⟩
  rw [hi] at hp1
  (conv => whnf)
  refine ⟨rfl, hp1.load ?_⟩
  (conv => whnf)
  refine ⟨rfl, gi (fun p2 hp2 => ?_)⟩
  (conv => whnf)
  refine ⟨rfl, hp2.load ?_⟩
  (conv => whnf)
  refine HArith.to (e' := ((k + 1 : Nat) : Int)) (by omega) (by omega) (by omega) ?_
  (conv => whnf)
  refine ⟨rfl, O.ints.idxN (n := k + 1) (by omega) (fun p3 hp3 => ?_)⟩
  rw [hj] at hp3
  (conv => whnf)
  refine ⟨rfl, hp3.load ?_⟩
  (conv => whnf)
  refine HArith.to (e' := ((k + 2 : Nat) : Int)) (by omega) (by omega) (by omega) ?_
  (conv => whnf)
  refine ⟨rfl, O.ints.idxN (n := k + 2) (by omega) (fun p4 hp4 => ?_)⟩
  rw [hev] at hp4
  (conv => whnf)
  refine ⟨rfl, hp4.load ?_⟩
  (conv => whnf)
  refine ⟨rfl, (m.inner' hiM).idx (j := (j : Int)) (by omega) (by omega) ?_⟩
  rw [Int.toNat_natCast]
  (conv => whnf)
  refine ⟨rfl, m.put hiM (by omega) (fun h2 n2 k2 m2 => ?_)⟩
  (conv => whnf)
  refine HArith.to (e' := ((k + 3 : Nat) : Int)) (by omega) (by omega) (by omega) ?_
  (conv => whnf)
  refine ⟨⟨k + 3, _, rfl, by omega, by omega, k2.ext (fun q e => by have := hb.2 i (by omega); omega) E, m2, by rw [setM_length]; exact hM, fun t ht => by rw [setM_row hiM]; exact hr t ht, hst.symm, k2.at O (fun e => hq.2 i (by omega) e)⟩, by show es.length - (k + 3) < es.length - k; omega⟩

end Go.Proofs.YtgliajcgcbnemaaGreatDoor.Hx

namespace Go.Proofs.YtgliajcgcbnemaaGreatDoor.Hx
open Go.RowKit
variable {dm : Bool}

set_option maxRecDepth 20000 in
set_option maxHeartbeats 4000000 in
theorem impl_TypeCartan (h : Heap) (s : ByteArray) (hs : s ∈ namesT) : HCalls dm Tryz.prog 191 [St s] h (fun r h' => ∃ y L, r = TM y true ∧ Ext h h' ∧ OwnM h.length h'.length h' y L ∧ (s, L) ∈ typeL) := by
  simp only [namesT, List.mem_cons, List.not_mem_nil, or_false] at hs
  rcases hs with rfl | rfl | rfl | rfl | rfl | rfl | rfl | rfl | rfl | rfl | rfl | rfl | rfl | rfl | rfl | rfl | rfl
  · refine calls_of_hFun (m := 0) kd_ok mixed Tryz.func191 rfl (by kernel_rfl) rfl rfl (of_decide_eq_true rfl) ?_; unfold hFun; (conv => whnf)
    (repeat (first | (refine HStr.eql ?_; conv => whnf) | (refine HIf.strT rfl ?_; conv => whnf) | (refine HIf.strF (by decide) ?_; conv => whnf)))
    refine ⟨_, .i64, 1, by decide, rfl, rfl, ?_⟩
    (conv => whnf)
    refine HArith.any ?_
    (conv => whnf)
    refine HConv.of ?_
    (conv => whnf)
    refine (show HCalls _ _ _ [I ((1 : Nat) : Int)] _ _ from (impl_chain h 1 (by omega)).mono ?_)
    rintro r h1 ⟨y1, rfl, E1, O1⟩
    (conv => whnf)
    exact ⟨_, _, rfl, E1, O1, tyA1⟩
  · refine calls_of_hFun (m := 0) kd_ok mixed Tryz.func191 rfl (by kernel_rfl) rfl rfl (of_decide_eq_true rfl) ?_; unfold hFun; (conv => whnf)
    (repeat (first | (refine HStr.eql ?_; conv => whnf) | (refine HIf.strT rfl ?_; conv => whnf) | (refine HIf.strF (by decide) ?_; conv => whnf)))
    refine ⟨_, .i64, 1, by decide, rfl, rfl, ?_⟩
    (conv => whnf)
    refine HArith.any ?_
    (conv => whnf)
    refine HConv.of ?_
    (conv => whnf)
    refine (show HCalls _ _ _ [I ((2 : Nat) : Int)] _ _ from (impl_chain h 2 (by omega)).mono ?_)
    rintro r h1 ⟨y1, rfl, E1, O1⟩
    (conv => whnf)
    exact ⟨_, _, rfl, E1, O1, tyA2⟩
  · refine calls_of_hFun (m := 0) kd_ok mixed Tryz.func191 rfl (by kernel_rfl) rfl rfl (of_decide_eq_true rfl) ?_; unfold hFun; (conv => whnf)
    (repeat (first | (refine HStr.eql ?_; conv => whnf) | (refine HIf.strT rfl ?_; conv => whnf) | (refine HIf.strF (by decide) ?_; conv => whnf)))
    refine ⟨_, .i64, 1, by decide, rfl, rfl, ?_⟩
    (conv => whnf)
    refine HArith.any ?_
    (conv => whnf)
    refine HConv.of ?_
    (conv => whnf)
    refine (show HCalls _ _ _ [I ((3 : Nat) : Int)] _ _ from (impl_chain h 3 (by omega)).mono ?_)
    rintro r h1 ⟨y1, rfl, E1, O1⟩
    (conv => whnf)
    exact ⟨_, _, rfl, E1, O1, tyA3⟩
  · refine calls_of_hFun (m := 0) kd_ok mixed Tryz.func191 rfl (by kernel_rfl) rfl rfl (of_decide_eq_true rfl) ?_; unfold hFun; (conv => whnf)
    (repeat (first | (refine HStr.eql ?_; conv => whnf) | (refine HIf.strT rfl ?_; conv => whnf) | (refine HIf.strF (by decide) ?_; conv => whnf)))
    refine ⟨_, .i64, 1, by decide, rfl, rfl, ?_⟩
    (conv => whnf)
    refine HArith.any ?_
    (conv => whnf)
    refine HConv.of ?_
    (conv => whnf)
    refine (show HCalls _ _ _ [I ((4 : Nat) : Int)] _ _ from (impl_chain h 4 (by omega)).mono ?_)
    rintro r h1 ⟨y1, rfl, E1, O1⟩
    (conv => whnf)
    exact ⟨_, _, rfl, E1, O1, tyA4⟩
  · refine calls_of_hFun (m := 0) kd_ok mixed Tryz.func191 rfl (by kernel_rfl) rfl rfl (of_decide_eq_true rfl) ?_; unfold hFun; (conv => whnf)
    (repeat (first | (refine HStr.eql ?_; conv => whnf) | (refine HIf.strT rfl ?_; conv => whnf) | (refine HIf.strF (by decide) ?_; conv => whnf)))
    refine ⟨_, .i64, 1, by decide, rfl, rfl, ?_⟩
    (conv => whnf)
    refine HArith.any ?_
    (conv => whnf)
    refine HConv.of ?_
    (conv => whnf)
    refine (show HCalls _ _ _ [I ((2 : Nat) : Int)] _ _ from (impl_chain h 2 (by omega)).mono ?_)
    rintro r h1 ⟨y1, rfl, E1, O1⟩
    obtain ⟨r0, ρ, rfl, hb, he, hρ, m⟩ := O1
    (conv => whnf)
    refine HArith.any ?_
    (conv => whnf)
    refine HArith.any ?_
    (conv => whnf)
    refine HLit.many [1, 0, -2] rfl (by simp) ?_
    (conv => whnf)
    refine (impl_with (h0 := h) _ r0 ρ (chainC 2) 2 (.sl h1.length 0 3) h1.length [1, 0, -2] (m.ext (Ext.push _ _)) ⟨hb, fun i hi => (hρ i hi).1⟩ (E1.pushed _) (OwnR.push h1 [1, 0, -2]) ⟨by omega, fun i hi => by have := hρ i hi; omega⟩ (by decide) (by decide) (by decide) (by decide)).mono ?_
    rintro v h2 ⟨rfl, E2, m2⟩
    rw [weB2] at m2
    (conv => whnf)
    exact ⟨_, _, rfl, E2, m2.ownLow rfl hb (fun i hi => (hρ i hi).1), tyB2⟩
  · refine calls_of_hFun (m := 0) kd_ok mixed Tryz.func191 rfl (by kernel_rfl) rfl rfl (of_decide_eq_true rfl) ?_; unfold hFun; (conv => whnf)
    (repeat (first | (refine HStr.eql ?_; conv => whnf) | (refine HIf.strT rfl ?_; conv => whnf) | (refine HIf.strF (by decide) ?_; conv => whnf)))
    refine ⟨_, .i64, 1, by decide, rfl, rfl, ?_⟩
    (conv => whnf)
    refine HArith.any ?_
    (conv => whnf)
    refine HConv.of ?_
    (conv => whnf)
    refine (show HCalls _ _ _ [I ((3 : Nat) : Int)] _ _ from (impl_chain h 3 (by omega)).mono ?_)
    rintro r h1 ⟨y1, rfl, E1, O1⟩
    obtain ⟨r0, ρ, rfl, hb, he, hρ, m⟩ := O1
    (conv => whnf)
    refine HArith.any ?_
    (conv => whnf)
    refine HArith.any ?_
    (conv => whnf)
    refine HLit.many [2, 1, -2] rfl (by simp) ?_
    (conv => whnf)
    refine (impl_with (h0 := h) _ r0 ρ (chainC 3) 3 (.sl h1.length 0 3) h1.length [2, 1, -2] (m.ext (Ext.push _ _)) ⟨hb, fun i hi => (hρ i hi).1⟩ (E1.pushed _) (OwnR.push h1 [2, 1, -2]) ⟨by omega, fun i hi => by have := hρ i hi; omega⟩ (by decide) (by decide) (by decide) (by decide)).mono ?_
    rintro v h2 ⟨rfl, E2, m2⟩
    rw [weB3] at m2
    (conv => whnf)
    exact ⟨_, _, rfl, E2, m2.ownLow rfl hb (fun i hi => (hρ i hi).1), tyB3⟩
  · refine calls_of_hFun (m := 0) kd_ok mixed Tryz.func191 rfl (by kernel_rfl) rfl rfl (of_decide_eq_true rfl) ?_; unfold hFun; (conv => whnf)
    (repeat (first | (refine HStr.eql ?_; conv => whnf) | (refine HIf.strT rfl ?_; conv => whnf) | (refine HIf.strF (by decide) ?_; conv => whnf)))
    refine ⟨_, .i64, 1, by decide, rfl, rfl, ?_⟩
    (conv => whnf)
    refine HArith.any ?_
    (conv => whnf)
    refine HConv.of ?_
    (conv => whnf)
    refine (show HCalls _ _ _ [I ((4 : Nat) : Int)] _ _ from (impl_chain h 4 (by omega)).mono ?_)
    rintro r h1 ⟨y1, rfl, E1, O1⟩
    obtain ⟨r0, ρ, rfl, hb, he, hρ, m⟩ := O1
    (conv => whnf)
    refine HArith.any ?_
    (conv => whnf)
    refine HArith.any ?_
    (conv => whnf)
    refine HLit.many [3, 2, -2] rfl (by simp) ?_
    (conv => whnf)
    refine (impl_with (h0 := h) _ r0 ρ (chainC 4) 4 (.sl h1.length 0 3) h1.length [3, 2, -2] (m.ext (Ext.push _ _)) ⟨hb, fun i hi => (hρ i hi).1⟩ (E1.pushed _) (OwnR.push h1 [3, 2, -2]) ⟨by omega, fun i hi => by have := hρ i hi; omega⟩ (by decide) (by decide) (by decide) (by decide)).mono ?_
    rintro v h2 ⟨rfl, E2, m2⟩
    rw [weB4] at m2
    (conv => whnf)
    exact ⟨_, _, rfl, E2, m2.ownLow rfl hb (fun i hi => (hρ i hi).1), tyB4⟩
  · refine calls_of_hFun (m := 0) kd_ok mixed Tryz.func191 rfl (by kernel_rfl) rfl rfl (of_decide_eq_true rfl) ?_; unfold hFun; (conv => whnf)
    (repeat (first | (refine HStr.eql ?_; conv => whnf) | (refine HIf.strT rfl ?_; conv => whnf) | (refine HIf.strF (by decide) ?_; conv => whnf)))
    refine ⟨_, .i64, 1, by decide, rfl, rfl, ?_⟩
    (conv => whnf)
    refine HArith.any ?_
    (conv => whnf)
    refine HConv.of ?_
    (conv => whnf)
    refine (show HCalls _ _ _ [I ((3 : Nat) : Int)] _ _ from (impl_chain h 3 (by omega)).mono ?_)
    rintro r h1 ⟨y1, rfl, E1, O1⟩
    obtain ⟨r0, ρ, rfl, hb, he, hρ, m⟩ := O1
    (conv => whnf)
    refine HArith.any ?_
    (conv => whnf)
    refine HArith.any ?_
    (conv => whnf)
    refine HLit.many [1, 2, -2] rfl (by simp) ?_
    (conv => whnf)
    refine (impl_with (h0 := h) _ r0 ρ (chainC 3) 3 (.sl h1.length 0 3) h1.length [1, 2, -2] (m.ext (Ext.push _ _)) ⟨hb, fun i hi => (hρ i hi).1⟩ (E1.pushed _) (OwnR.push h1 [1, 2, -2]) ⟨by omega, fun i hi => by have := hρ i hi; omega⟩ (by decide) (by decide) (by decide) (by decide)).mono ?_
    rintro v h2 ⟨rfl, E2, m2⟩
    rw [weC3] at m2
    (conv => whnf)
    exact ⟨_, _, rfl, E2, m2.ownLow rfl hb (fun i hi => (hρ i hi).1), tyC3⟩
  · refine calls_of_hFun (m := 0) kd_ok mixed Tryz.func191 rfl (by kernel_rfl) rfl rfl (of_decide_eq_true rfl) ?_; unfold hFun; (conv => whnf)
    (repeat (first | (refine HStr.eql ?_; conv => whnf) | (refine HIf.strT rfl ?_; conv => whnf) | (refine HIf.strF (by decide) ?_; conv => whnf)))
    refine ⟨_, .i64, 1, by decide, rfl, rfl, ?_⟩
    (conv => whnf)
    refine HArith.any ?_
    (conv => whnf)
    refine HConv.of ?_
    (conv => whnf)
    refine (show HCalls _ _ _ [I ((4 : Nat) : Int)] _ _ from (impl_chain h 4 (by omega)).mono ?_)
    rintro r h1 ⟨y1, rfl, E1, O1⟩
    obtain ⟨r0, ρ, rfl, hb, he, hρ, m⟩ := O1
    (conv => whnf)
    refine HArith.any ?_
    (conv => whnf)
    refine HArith.any ?_
    (conv => whnf)
    refine HLit.many [2, 3, -2] rfl (by simp) ?_
    (conv => whnf)
    refine (impl_with (h0 := h) _ r0 ρ (chainC 4) 4 (.sl h1.length 0 3) h1.length [2, 3, -2] (m.ext (Ext.push _ _)) ⟨hb, fun i hi => (hρ i hi).1⟩ (E1.pushed _) (OwnR.push h1 [2, 3, -2]) ⟨by omega, fun i hi => by have := hρ i hi; omega⟩ (by decide) (by decide) (by decide) (by decide)).mono ?_
    rintro v h2 ⟨rfl, E2, m2⟩
    rw [weC4] at m2
    (conv => whnf)
    exact ⟨_, _, rfl, E2, m2.ownLow rfl hb (fun i hi => (hρ i hi).1), tyC4⟩
  · refine calls_of_hFun (m := 0) kd_ok mixed Tryz.func191 rfl (by kernel_rfl) rfl rfl (of_decide_eq_true rfl) ?_; unfold hFun; (conv => whnf)
    (repeat (first | (refine HStr.eql ?_; conv => whnf) | (refine HIf.strT rfl ?_; conv => whnf) | (refine HIf.strF (by decide) ?_; conv => whnf)))
    refine (show HCalls _ _ _ [I ((4 : Nat) : Int)] _ _ from (impl_chain h 4 (by omega)).mono ?_)
    rintro r h1 ⟨y1, rfl, E1, O1⟩
    obtain ⟨r0, ρ, rfl, hb, he, hρ, m⟩ := O1
    (conv => whnf)
    refine HLit.many [2, 3, 0, 3, 2, 0, 1, 3, -1, 3, 1, -1] rfl (by simp) ?_
    (conv => whnf)
    refine (impl_with (h0 := h) _ r0 ρ (chainC 4) 4 (.sl h1.length 0 12) h1.length [2, 3, 0, 3, 2, 0, 1, 3, -1, 3, 1, -1] (m.ext (Ext.push _ _)) ⟨hb, fun i hi => (hρ i hi).1⟩ (E1.pushed _) (OwnR.push h1 [2, 3, 0, 3, 2, 0, 1, 3, -1, 3, 1, -1]) ⟨by omega, fun i hi => by have := hρ i hi; omega⟩ (by decide) (by decide) (by decide) (by decide)).mono ?_
    rintro v h2 ⟨rfl, E2, m2⟩
    rw [weD4] at m2
    (conv => whnf)
    exact ⟨_, _, rfl, E2, m2.ownLow rfl hb (fun i hi => (hρ i hi).1), tyD4⟩
  · refine calls_of_hFun (m := 0) kd_ok mixed Tryz.func191 rfl (by kernel_rfl) rfl rfl (of_decide_eq_true rfl) ?_; unfold hFun; (conv => whnf)
    (repeat (first | (refine HStr.eql ?_; conv => whnf) | (refine HIf.strT rfl ?_; conv => whnf) | (refine HIf.strF (by decide) ?_; conv => whnf)))
    refine (show HCalls _ _ _ [I ((4 : Nat) : Int)] _ _ from (impl_chain h 4 (by omega)).mono ?_)
    rintro r h1 ⟨y1, rfl, E1, O1⟩
    obtain ⟨r0, ρ, rfl, hb, he, hρ, m⟩ := O1
    (conv => whnf)
    refine HLit.many [2, 1, -2] rfl (by simp) ?_
    (conv => whnf)
    refine (impl_with (h0 := h) _ r0 ρ (chainC 4) 4 (.sl h1.length 0 3) h1.length [2, 1, -2] (m.ext (Ext.push _ _)) ⟨hb, fun i hi => (hρ i hi).1⟩ (E1.pushed _) (OwnR.push h1 [2, 1, -2]) ⟨by omega, fun i hi => by have := hρ i hi; omega⟩ (by decide) (by decide) (by decide) (by decide)).mono ?_
    rintro v h2 ⟨rfl, E2, m2⟩
    rw [weF4] at m2
    (conv => whnf)
    exact ⟨_, _, rfl, E2, m2.ownLow rfl hb (fun i hi => (hρ i hi).1), tyF4⟩
  · refine calls_of_hFun (m := 0) kd_ok mixed Tryz.func191 rfl (by kernel_rfl) rfl rfl (of_decide_eq_true rfl) ?_; unfold hFun; (conv => whnf)
    (repeat (first | (refine HStr.eql ?_; conv => whnf) | (refine HIf.strT rfl ?_; conv => whnf) | (refine HIf.strF (by decide) ?_; conv => whnf)))
    refine (show HCalls _ _ _ [I ((2 : Nat) : Int)] _ _ from (impl_chain h 2 (by omega)).mono ?_)
    rintro r h1 ⟨y1, rfl, E1, O1⟩
    obtain ⟨r0, ρ, rfl, hb, he, hρ, m⟩ := O1
    (conv => whnf)
    refine HLit.many [1, 0, -3] rfl (by simp) ?_
    (conv => whnf)
    refine (impl_with (h0 := h) _ r0 ρ (chainC 2) 2 (.sl h1.length 0 3) h1.length [1, 0, -3] (m.ext (Ext.push _ _)) ⟨hb, fun i hi => (hρ i hi).1⟩ (E1.pushed _) (OwnR.push h1 [1, 0, -3]) ⟨by omega, fun i hi => by have := hρ i hi; omega⟩ (by decide) (by decide) (by decide) (by decide)).mono ?_
    rintro v h2 ⟨rfl, E2, m2⟩
    rw [weG2] at m2
    (conv => whnf)
    exact ⟨_, _, rfl, E2, m2.ownLow rfl hb (fun i hi => (hρ i hi).1), tyG2⟩
  · refine calls_of_hFun (m := 0) kd_ok mixed Tryz.func191 rfl (by kernel_rfl) rfl rfl (of_decide_eq_true rfl) ?_; unfold hFun; (conv => whnf)
    (repeat (first | (refine HStr.eql ?_; conv => whnf) | (refine HIf.strT rfl ?_; conv => whnf) | (refine HIf.strF (by decide) ?_; conv => whnf)))
    refine (show HCalls _ _ _ [I ((2 : Nat) : Int)] _ _ from (impl_chain h 2 (by omega)).mono ?_)
    rintro r h1 ⟨y1, rfl, E1, O1⟩
    obtain ⟨r0, ρ, rfl, hb, he, hρ, m⟩ := O1
    (conv => whnf)
    refine HLit.many [0, 1, -2, 1, 0, -2] rfl (by simp) ?_
    (conv => whnf)
    refine (impl_with (h0 := h) _ r0 ρ (chainC 2) 2 (.sl h1.length 0 6) h1.length [0, 1, -2, 1, 0, -2] (m.ext (Ext.push _ _)) ⟨hb, fun i hi => (hρ i hi).1⟩ (E1.pushed _) (OwnR.push h1 [0, 1, -2, 1, 0, -2]) ⟨by omega, fun i hi => by have := hρ i hi; omega⟩ (by decide) (by decide) (by decide) (by decide)).mono ?_
    rintro v h2 ⟨rfl, E2, m2⟩
    rw [weA1t] at m2
    (conv => whnf)
    exact ⟨_, _, rfl, E2, m2.ownLow rfl hb (fun i hi => (hρ i hi).1), tyA1t⟩
  · refine calls_of_hFun (m := 0) kd_ok mixed Tryz.func191 rfl (by kernel_rfl) rfl rfl (of_decide_eq_true rfl) ?_; unfold hFun; (conv => whnf)
    (repeat (first | (refine HStr.eql ?_; conv => whnf) | (refine HIf.strT rfl ?_; conv => whnf) | (refine HIf.strF (by decide) ?_; conv => whnf)))
    refine (show HCalls _ _ _ [I ((3 : Nat) : Int)] _ _ from (impl_chain h 3 (by omega)).mono ?_)
    rintro r h1 ⟨y1, rfl, E1, O1⟩
    obtain ⟨r0, ρ, rfl, hb, he, hρ, m⟩ := O1
    (conv => whnf)
    refine HLit.many [0, 2, -1, 2, 0, -1] rfl (by simp) ?_
    (conv => whnf)
    refine (impl_with (h0 := h) _ r0 ρ (chainC 3) 3 (.sl h1.length 0 6) h1.length [0, 2, -1, 2, 0, -1] (m.ext (Ext.push _ _)) ⟨hb, fun i hi => (hρ i hi).1⟩ (E1.pushed _) (OwnR.push h1 [0, 2, -1, 2, 0, -1]) ⟨by omega, fun i hi => by have := hρ i hi; omega⟩ (by decide) (by decide) (by decide) (by decide)).mono ?_
    rintro v h2 ⟨rfl, E2, m2⟩
    rw [weA2t] at m2
    (conv => whnf)
    exact ⟨_, _, rfl, E2, m2.ownLow rfl hb (fun i hi => (hρ i hi).1), tyA2t⟩
  · refine calls_of_hFun (m := 0) kd_ok mixed Tryz.func191 rfl (by kernel_rfl) rfl rfl (of_decide_eq_true rfl) ?_; unfold hFun; (conv => whnf)
    (repeat (first | (refine HStr.eql ?_; conv => whnf) | (refine HIf.strT rfl ?_; conv => whnf) | (refine HIf.strF (by decide) ?_; conv => whnf)))
    refine (show HCalls _ _ _ [I ((4 : Nat) : Int)] _ _ from (impl_chain h 4 (by omega)).mono ?_)
    rintro r h1 ⟨y1, rfl, E1, O1⟩
    obtain ⟨r0, ρ, rfl, hb, he, hρ, m⟩ := O1
    (conv => whnf)
    refine HLit.many [0, 3, -1, 3, 0, -1] rfl (by simp) ?_
    (conv => whnf)
    refine (impl_with (h0 := h) _ r0 ρ (chainC 4) 4 (.sl h1.length 0 6) h1.length [0, 3, -1, 3, 0, -1] (m.ext (Ext.push _ _)) ⟨hb, fun i hi => (hρ i hi).1⟩ (E1.pushed _) (OwnR.push h1 [0, 3, -1, 3, 0, -1]) ⟨by omega, fun i hi => by have := hρ i hi; omega⟩ (by decide) (by decide) (by decide) (by decide)).mono ?_
    rintro v h2 ⟨rfl, E2, m2⟩
    rw [weA3t] at m2
    (conv => whnf)
    exact ⟨_, _, rfl, E2, m2.ownLow rfl hb (fun i hi => (hρ i hi).1), tyA3t⟩
  · refine calls_of_hFun (m := 0) kd_ok mixed Tryz.func191 rfl (by kernel_rfl) rfl rfl (of_decide_eq_true rfl) ?_; unfold hFun; (conv => whnf)
    (repeat (first | (refine HStr.eql ?_; conv => whnf) | (refine HIf.strT rfl ?_; conv => whnf) | (refine HIf.strF (by decide) ?_; conv => whnf)))
    refine (show HCalls _ _ _ [I ((3 : Nat) : Int)] _ _ from (impl_chain h 3 (by omega)).mono ?_)
    rintro r h1 ⟨y1, rfl, E1, O1⟩
    obtain ⟨r0, ρ, rfl, hb, he, hρ, m⟩ := O1
    (conv => whnf)
    refine HLit.many [1, 0, -2, 1, 2, -2] rfl (by simp) ?_
    (conv => whnf)
    refine (impl_with (h0 := h) _ r0 ρ (chainC 3) 3 (.sl h1.length 0 6) h1.length [1, 0, -2, 1, 2, -2] (m.ext (Ext.push _ _)) ⟨hb, fun i hi => (hρ i hi).1⟩ (E1.pushed _) (OwnR.push h1 [1, 0, -2, 1, 2, -2]) ⟨by omega, fun i hi => by have := hρ i hi; omega⟩ (by decide) (by decide) (by decide) (by decide)).mono ?_
    rintro v h2 ⟨rfl, E2, m2⟩
    rw [weC2t] at m2
    (conv => whnf)
    exact ⟨_, _, rfl, E2, m2.ownLow rfl hb (fun i hi => (hρ i hi).1), tyC2t⟩
  · refine calls_of_hFun (m := 0) kd_ok mixed Tryz.func191 rfl (by kernel_rfl) rfl rfl (of_decide_eq_true rfl) ?_; unfold hFun; (conv => whnf)
    (repeat (first | (refine HStr.eql ?_; conv => whnf) | (refine HIf.strT rfl ?_; conv => whnf) | (refine HIf.strF (by decide) ?_; conv => whnf)))
    refine (show HCalls _ _ _ [I ((3 : Nat) : Int)] _ _ from (impl_chain h 3 (by omega)).mono ?_)
    rintro r h1 ⟨y1, rfl, E1, O1⟩
    obtain ⟨r0, ρ, rfl, hb, he, hρ, m⟩ := O1
    (conv => whnf)
    refine HLit.many [2, 1, -3] rfl (by simp) ?_
    (conv => whnf)
    refine (impl_with (h0 := h) _ r0 ρ (chainC 3) 3 (.sl h1.length 0 3) h1.length [2, 1, -3] (m.ext (Ext.push _ _)) ⟨hb, fun i hi => (hρ i hi).1⟩ (E1.pushed _) (OwnR.push h1 [2, 1, -3]) ⟨by omega, fun i hi => by have := hρ i hi; omega⟩ (by decide) (by decide) (by decide) (by decide)).mono ?_
    rintro v h2 ⟨rfl, E2, m2⟩
    rw [weG2t] at m2
    (conv => whnf)
    exact ⟨_, _, rfl, E2, m2.ownLow rfl hb (fun i hi => (hρ i hi).1), tyG2t⟩

end Go.Proofs.YtgliajcgcbnemaaGreatDoor.Hx

namespace Go.Proofs.YtgliajcgcbnemaaGreatDoor.Hx
open Go.RowKit
variable {dm : Bool}

/-- A text as a slot's value, as a cell. -/
abbrev Tx (l : List UInt8) : HV := .s (.pl (.string ⟨l.toArray⟩))
abbrev stc (l : List UInt8) : H0 := .pl (.string ⟨l.toArray⟩)

theorem bytes_app (a b : List UInt8) : (⟨a.toArray⟩ : ByteArray) ++ ⟨b.toArray⟩ = ⟨(a ++ b).toArray⟩ := by
  apply ByteArray.ext
  simp
theorem HStr.add {a b : List UInt8} {K : HV → Prop} (hl : a.length + b.length ≤ 9223372036854775807) (hK : K (Tx (a ++ b))) : HStr .add ⟨a.toArray⟩ ⟨b.toArray⟩ K :=
  ⟨.string ⟨(a ++ b).toArray⟩, fun P w => by
    have h : ¬ (((⟨a.toArray⟩ : ByteArray).size + (⟨b.toArray⟩ : ByteArray).size : Nat) : Int) > IntKind.i64.max := by
      have e1 : (⟨a.toArray⟩ : ByteArray).size = a.length := by simp [ByteArray.size]
      have e2 : (⟨b.toArray⟩ : ByteArray).size = b.length := by simp [ByteArray.size]
      rw [e1, e2, show IntKind.i64.max = 9223372036854775807 from rfl]
      omega
    simp only [Op.stringOp, if_neg h, bytes_app]
    rfl, hK⟩
/-! ### Digits -/

/-- What is still to be written of a number, and what is there. -/
def restD (u : Nat) (out : List UInt8) : List UInt8 := if u = 0 then out else Lib.decDigits u ++ out
/-- A weight's text; the text of a list of roots. -/
def fmtV (v : List Int) : List UInt8 := Lib.join (v.map Lib.itoa) [44]
def fmtR (L : List (List Int)) : List UInt8 := if L.length = 0 then [110, 111, 110, 101] else Lib.join (L.map fmtV) [32]

theorem join_snoc {xs : List (List UInt8)} (x sep : List UInt8) (h : xs ≠ []) : Lib.join (xs ++ [x]) sep = Lib.join xs sep ++ sep ++ x := by
  cases xs with
  | nil => exact absurd rfl h
  | cons y r => simp [Lib.join_cons, Lib.joinTail]
theorem join_take {α : Type} (f : α → List UInt8) (sep : List UInt8) (xs : List α) {k : Nat} (h : k < xs.length) (h0 : 0 < k) : Lib.join ((xs.take (k + 1)).map f) sep = Lib.join ((xs.take k).map f) sep ++ sep ++ f xs[k] := by
  rw [List.take_succ_eq_append_getElem h, List.map_append, List.map_singleton, join_snoc _ _ (by
    intro e
    have := congrArg List.length e
    simp only [List.length_map, List.length_take, List.length_nil] at this
    omega)]
theorem join_first {α : Type} (f : α → List UInt8) (sep : List UInt8) (xs : List α) (h : 0 < xs.length) : Lib.join ((xs.take 1).map f) sep = f xs[0] := by
  cases xs with
  | nil => simp at h
  | cons y r => simp [Lib.join_one]
theorem join_le (sep : List UInt8) {b : Nat} (hs : sep.length ≤ 1) : ∀ (xs : List (List UInt8)), (∀ x ∈ xs, x.length ≤ b) → (Lib.join xs sep).length ≤ (b + 1) * xs.length
  | [], _ => by simp [Lib.join_nil]
  | x :: r, h => by
    rw [Lib.join_cons, List.length_append, Lib.joinTail]
    have hr : ∀ (r : List (List UInt8)), (∀ x ∈ r, x.length ≤ b) → ((r.map (sep ++ ·)).flatten).length ≤ (b + 1) * r.length := by
      intro r
      induction r with
      | nil => simp
      | cons y t ih =>
        intro h
        have h1 := h y (by simp)
        have h2 := ih fun z hz => h z (by simp [hz])
        simp only [List.map_cons, List.flatten_cons, List.length_append, List.length_cons, Nat.mul_add]
        omega
    have h1 := h x (by simp)
    have h2 := hr r fun z hz => h z (by simp [hz])
    simp only [List.length_cons, Nat.mul_add]
    omega

def absAt (vs : List HV) (k : Nat) : Nat := match vs[k]? with
  | some (HV.s (H0.pl (Value.int _ m))) => m.natAbs
  | _ => 0

def I64 (n : Int) : Prop := -9223372036854775808 ≤ n ∧ n ≤ 9223372036854775807

end Go.Proofs.YtgliajcgcbnemaaGreatDoor.Hx

namespace Go.Proofs
open Go.Shelf
def Tryz.joinL_ren : Go.Shelf.Ren := ⟨fun | 156 => 111 | 165 => 167 | 166 => 168 | 169 => 169 | 240 => 213 | 241 => 214 | 276 => 243 | 277 => 244 | n => n, fun | 31 => 77 | 9 => 9 | 3 => 3 | 4 => 4 | 0 => 0 | 20 => 20 | 72 => 107 | 76 => 111 | 70 => 105 | 37 => 34 | 75 => 110 | 127 => 145 | 164 => 167 | 5 => 5 | 80 => 113 | n => n, fun | n => n⟩
theorem Tryz.joinL : Go.Proofs.Lays.n156 Tryz.prog Tryz.joinL_ren := {
  mixed := by kernel_rfl
  f156 := Tryz.func111.trans (congrArg some (by kernel_rfl))
  f165 := Tryz.func167.trans (congrArg some (by kernel_rfl))
  f166 := Tryz.func168.trans (congrArg some (by kernel_rfl))
  f169 := Tryz.func169.trans (congrArg some (by kernel_rfl))
  f240 := Tryz.func213.trans (congrArg some (by kernel_rfl))
  f241 := Tryz.func214.trans (congrArg some (by kernel_rfl))
  f276 := Tryz.func243.trans (congrArg some (by kernel_rfl))
  f277 := Tryz.func244.trans (congrArg some (by kernel_rfl))
  t0 := Tryz.underlying0
  a0 := Tryz.isAgg0
  z0 := Tryz.sizeOf0
  v0 := Tryz.zeroValue0
  t3 := Tryz.underlying3
  a3 := Tryz.isAgg3
  z3 := Tryz.sizeOf3
  v3 := Tryz.zeroValue3
  t4 := Tryz.underlying4
  a4 := Tryz.isAgg4
  z4 := Tryz.sizeOf4
  v4 := Tryz.zeroValue4
  t9 := Tryz.underlying9
  a9 := Tryz.isAgg9
  z9 := Tryz.sizeOf9
  v9 := Tryz.zeroValue9
  t20 := Tryz.underlying20
  a20 := Tryz.isAgg20
  z20 := Tryz.sizeOf20
  v20 := Tryz.zeroValue20
  t31 := Tryz.underlying77
  a31 := Tryz.isAgg77
  z31 := Tryz.sizeOf77
  v31 := Tryz.zeroValue77
  t37 := Tryz.underlying34
  a37 := Tryz.isAgg34
  z37 := Tryz.sizeOf34
  v37 := Tryz.zeroValue34
  t70 := Tryz.underlying105
  a70 := Tryz.isAgg105
  z70 := Tryz.sizeOf105
  v70 := Tryz.zeroValue105
  t72 := Tryz.underlying107
  a72 := Tryz.isAgg107
  z72 := Tryz.sizeOf107
  v72 := Tryz.zeroValue107
  t75 := Tryz.underlying110
  a75 := Tryz.isAgg110
  z75 := Tryz.sizeOf110
  v75 := Tryz.zeroValue110
  t76 := Tryz.underlying111
  a76 := Tryz.isAgg111
  z76 := Tryz.sizeOf111
  v76 := Tryz.zeroValue111
  t127 := Tryz.underlying145
  a127 := Tryz.isAgg145
  z127 := Tryz.sizeOf145
  v127 := Tryz.zeroValue145
  t164 := Tryz.underlying167
  a164 := Tryz.isAgg167
  z164 := Tryz.sizeOf167
  v164 := Tryz.zeroValue167 }
theorem Tryz.joinX : Builder.Extra Tryz.prog Tryz.joinL_ren := {
  sizeBuilder := by kernel_rfl
  liesBuilder := by kernel_rfl
  t5 := Tryz.underlying5
  a5 := Tryz.isAgg5
  z5 := Tryz.sizeOf5
  v5 := Tryz.zeroValue5
  infoByte := by kernel_rfl
  cellsByte := by kernel_rfl
  sizeByte := by kernel_rfl
  neB5 := by decide }
def Tryz.splitL_ren : Go.Shelf.Ren := ⟨fun | 146 => 135 | 221 => 187 | 268 => 227 | 138 => 228 | 143 => 229 | 195 => 249 | 197 => 250 | 218 => 251 | 219 => 252 | 260 => 272 | 217 => 273 | 225 => 274 | 224 => 275 | 267 => 276 | 266 => 296 | 314 => 297 | n => n, fun | 9 => 9 | 31 => 77 | 3 => 3 | 4 => 4 | 0 => 0 | 105 => 172 | 21 => 21 | 5 => 5 | 46 => 99 | 119 => 210 | 139 => 213 | 138 => 212 | 146 => 214 | 51 => 139 | n => n, fun | 1 => 0 | 3 => 3 | 4 => 4 | n => n⟩
theorem Tryz.splitL : Go.Proofs.LaysM.n146 Tryz.prog Tryz.splitL_ren := {
  mixed := by kernel_rfl
  f138 := Tryz.func228.trans (congrArg some (by kernel_rfl))
  f143 := Tryz.func229.trans (congrArg some (by kernel_rfl))
  f146 := Tryz.func135.trans (congrArg some (by kernel_rfl))
  f195 := Tryz.func249.trans (congrArg some (by kernel_rfl))
  f197 := Tryz.func250.trans (congrArg some (by kernel_rfl))
  f217 := Tryz.func273.trans (congrArg some (by kernel_rfl))
  f218 := Tryz.func251.trans (congrArg some (by kernel_rfl))
  f219 := Tryz.func252.trans (congrArg some (by kernel_rfl))
  f221 := Tryz.func187.trans (congrArg some (by kernel_rfl))
  f224 := Tryz.func275.trans (congrArg some (by kernel_rfl))
  f225 := Tryz.func274.trans (congrArg some (by kernel_rfl))
  f260 := Tryz.func272.trans (congrArg some (by kernel_rfl))
  f266 := Tryz.func296.trans (congrArg some (by kernel_rfl))
  f267 := Tryz.func276.trans (congrArg some (by kernel_rfl))
  f268 := Tryz.func227.trans (congrArg some (by kernel_rfl))
  f314 := Tryz.func297.trans (congrArg some (by kernel_rfl))
  t0 := Tryz.underlying0
  a0 := Tryz.isAgg0
  z0 := Tryz.sizeOf0
  v0 := Tryz.zeroValue0
  t3 := Tryz.underlying3
  a3 := Tryz.isAgg3
  z3 := Tryz.sizeOf3
  v3 := Tryz.zeroValue3
  t4 := Tryz.underlying4
  a4 := Tryz.isAgg4
  z4 := Tryz.sizeOf4
  v4 := Tryz.zeroValue4
  t5 := Tryz.underlying5
  a5 := Tryz.isAgg5
  z5 := Tryz.sizeOf5
  v5 := Tryz.zeroValue5
  t9 := Tryz.underlying9
  a9 := Tryz.isAgg9
  z9 := Tryz.sizeOf9
  v9 := Tryz.zeroValue9
  t21 := Tryz.underlying21
  a21 := Tryz.isAgg21
  z21 := Tryz.sizeOf21
  v21 := Tryz.zeroValue21
  t31 := Tryz.underlying77
  a31 := Tryz.isAgg77
  z31 := Tryz.sizeOf77
  v31 := Tryz.zeroValue77
  t46 := Tryz.underlying99
  a46 := Tryz.isAgg99
  z46 := Tryz.sizeOf99
  v46 := Tryz.zeroValue99
  t51 := Tryz.underlying139
  a51 := Tryz.isAgg139
  z51 := Tryz.sizeOf139
  v51 := Tryz.zeroValue139
  t105 := Tryz.underlying172
  a105 := Tryz.isAgg172
  z105 := Tryz.sizeOf172
  v105 := Tryz.zeroValue172
  t119 := Tryz.underlying210
  a119 := Tryz.isAgg210
  z119 := Tryz.sizeOf210
  t138 := Tryz.underlying212
  a138 := Tryz.isAgg212
  z138 := Tryz.sizeOf212
  v138 := Tryz.zeroValue212
  t139 := Tryz.underlying213
  a139 := Tryz.isAgg213
  z139 := Tryz.sizeOf213
  v139 := Tryz.zeroValue213
  t146 := Tryz.underlying214
  a146 := Tryz.isAgg214
  z146 := Tryz.sizeOf214
  v146 := Tryz.zeroValue214
  g1 := by kernel_rfl
  g3 := by kernel_rfl
  g4 := by kernel_rfl
  i0 := by kernel_rfl
  i3 := by kernel_rfl
  i4 := by kernel_rfl
  i5 := by kernel_rfl
  i9 := by kernel_rfl
  i21 := by kernel_rfl
  i31 := by kernel_rfl
  i46 := by kernel_rfl
  i51 := by kernel_rfl
  i105 := by kernel_rfl
  i138 := by kernel_rfl
  i139 := by kernel_rfl
  i146 := by kernel_rfl
  m1 := by kernel_rfl
  s1_3 := fun w h => Go.Proofs.cell_of_shapedOpen_int (zero := #[.int .i64 0]) (t := 3) h (of_decide_eq_true (by kernel_rfl)) (by kernel_rfl) rfl (by kernel_rfl) (by kernel_rfl) Tryz.underlying3
  m3 := by kernel_rfl
  m4 := by kernel_rfl }
def Tryz.itoaL_ren : Go.Shelf.Ren := ⟨fun | 171 => 215 | 243 => 245 | 246 => 266 | 283 => 289 | 284 => 290 | 285 => 291 | 286 => 292 | 129 => 208 | 317 => 302 | 318 => 303 | 319 => 304 | 320 => 305 | 337 => 309 | 338 => 310 | n => n, fun | 3 => 3 | 9 => 9 | 2 => 2 | 4 => 4 | 171 => 200 | 0 => 0 | 53 => 141 | 37 => 34 | 5 => 5 | 173 => 202 | 212 => 220 | 51 => 139 | 20 => 20 | 213 => 221 | 46 => 99 | 232 => 228 | 233 => 229 | n => n, fun | 17 => 5 | 18 => 6 | 19 => 7 | n => n⟩
theorem Tryz.itoaL : Go.Proofs.LaysM.n171 Tryz.prog Tryz.itoaL_ren := {
  mixed := by kernel_rfl
  f129 := Tryz.func208.trans (congrArg some (by kernel_rfl))
  f171 := Tryz.func215.trans (congrArg some (by kernel_rfl))
  f243 := Tryz.func245.trans (congrArg some (by kernel_rfl))
  f246 := Tryz.func266.trans (congrArg some (by kernel_rfl))
  f283 := Tryz.func289.trans (congrArg some (by kernel_rfl))
  f284 := Tryz.func290.trans (congrArg some (by kernel_rfl))
  f285 := Tryz.func291.trans (congrArg some (by kernel_rfl))
  f286 := Tryz.func292.trans (congrArg some (by kernel_rfl))
  f317 := Tryz.func302.trans (congrArg some (by kernel_rfl))
  f318 := Tryz.func303.trans (congrArg some (by kernel_rfl))
  f319 := Tryz.func304.trans (congrArg some (by kernel_rfl))
  f320 := Tryz.func305.trans (congrArg some (by kernel_rfl))
  f337 := Tryz.func309.trans (congrArg some (by kernel_rfl))
  f338 := Tryz.func310.trans (congrArg some (by kernel_rfl))
  t0 := Tryz.underlying0
  a0 := Tryz.isAgg0
  z0 := Tryz.sizeOf0
  v0 := Tryz.zeroValue0
  t2 := Tryz.underlying2
  a2 := Tryz.isAgg2
  z2 := Tryz.sizeOf2
  v2 := Tryz.zeroValue2
  t3 := Tryz.underlying3
  a3 := Tryz.isAgg3
  z3 := Tryz.sizeOf3
  v3 := Tryz.zeroValue3
  t4 := Tryz.underlying4
  a4 := Tryz.isAgg4
  z4 := Tryz.sizeOf4
  v4 := Tryz.zeroValue4
  t5 := Tryz.underlying5
  a5 := Tryz.isAgg5
  z5 := Tryz.sizeOf5
  v5 := Tryz.zeroValue5
  t9 := Tryz.underlying9
  a9 := Tryz.isAgg9
  z9 := Tryz.sizeOf9
  v9 := Tryz.zeroValue9
  t20 := Tryz.underlying20
  a20 := Tryz.isAgg20
  z20 := Tryz.sizeOf20
  v20 := Tryz.zeroValue20
  t37 := Tryz.underlying34
  a37 := Tryz.isAgg34
  z37 := Tryz.sizeOf34
  v37 := Tryz.zeroValue34
  t46 := Tryz.underlying99
  a46 := Tryz.isAgg99
  z46 := Tryz.sizeOf99
  v46 := Tryz.zeroValue99
  t51 := Tryz.underlying139
  a51 := Tryz.isAgg139
  z51 := Tryz.sizeOf139
  v51 := Tryz.zeroValue139
  t53 := Tryz.underlying141
  a53 := Tryz.isAgg141
  z53 := Tryz.sizeOf141
  v53 := Tryz.zeroValue141
  t171 := Tryz.underlying200
  a171 := Tryz.isAgg200
  z171 := Tryz.sizeOf200
  v171 := Tryz.zeroValue200
  t173 := Tryz.underlying202
  a173 := Tryz.isAgg202
  z173 := Tryz.sizeOf202
  v173 := Tryz.zeroValue202
  t212 := Tryz.underlying220
  a212 := Tryz.isAgg220
  z212 := Tryz.sizeOf220
  v212 := Tryz.zeroValue220
  t213 := Tryz.underlying221
  a213 := Tryz.isAgg221
  z213 := Tryz.sizeOf221
  t232 := Tryz.underlying228
  a232 := Tryz.isAgg228
  z232 := Tryz.sizeOf228
  v232 := Tryz.zeroValue228
  t233 := Tryz.underlying229
  a233 := Tryz.isAgg229
  z233 := Tryz.sizeOf229
  v233 := Tryz.zeroValue229
  g17 := by kernel_rfl
  g18 := by kernel_rfl
  g19 := by kernel_rfl
  i0 := by kernel_rfl
  i2 := by kernel_rfl
  i3 := by kernel_rfl
  i4 := by kernel_rfl
  i5 := by kernel_rfl
  i9 := by kernel_rfl
  i20 := by kernel_rfl
  i37 := by kernel_rfl
  i46 := by kernel_rfl
  i51 := by kernel_rfl
  i53 := by kernel_rfl
  i171 := by kernel_rfl
  i173 := by kernel_rfl
  i212 := by kernel_rfl
  i232 := by kernel_rfl
  i233 := by kernel_rfl
  m17 := by kernel_rfl
  m18 := by kernel_rfl
  m19 := by kernel_rfl }
end Go.Proofs
