/-
  The law FnExchanges walked: for every input it comes back true.
-/
import Derived.Test.YtkkniibnlniflaaZ25
namespace Go.Proofs.Ytkkniibnlniflaa.Hx
open Go.RowKit
variable {dm : Bool}

def jCode (x0 : H0) (l0 : List Int) : List HV → Heap → Prop := fun vs h => vs = [.s x0] ∧ Bytes h x0 l0
def jPair (x0 : H0) (l0 : List Int) : List HV → Heap → Prop := fun vs h => ∃ x c z w, vs = [.s x0, .s x, .s z, I (delPair c w).1, I (delPair c w).2.1, B (delPair c w).2.2] ∧ Bytes h x0 l0 ∧ Rows h x c ∧ Ints h z w ∧ Small c ∧ w.length ≤ 10
def jLast : List HV → Heap → Prop := fun vs h => ∃ x c z w y1 y2 z1 z2 u1 u2 p q y3 v n, vs = [.s x, .s z, .s y1, .s z1, .s y2, .s z2, .s u1, B (repOk p q), .s u2, B (repOk p q), .s y3, I n] ∧
  Rows h x c ∧ Ints h z w ∧ Small c ∧ w.length ≤ 10 ∧ Ints h y1 (red c 15 w []).1 ∧ Ints h y2 (red c 15 w []).1 ∧ Ints h z1 (red c 15 w []).2 ∧ Ints h z2 (red c 15 w []).2 ∧ Ints h u1 (repW p q) ∧ Ints h u2 (repW p q) ∧ p.length ≤ 10 ∧ Ints h y3 v ∧ v.length ≤ 10 ∧ -1 ≤ n ∧ n < 9

theorem exIdx_range (c : List (List Int)) (w : List Int) (i : Int) : -1 ≤ exIdx c w i ∧ exIdx c w i ≤ w.length := by
  unfold exIdx
  split
  · split
    · rename_i k hk
      have := List.mem_of_find?_eq_some hk
      have h2 : k < w.length := by simpa using this
      omega
    · omega
  · omega

theorem delPair_range (c : List (List Int)) (w : List Int) : -1 ≤ (delPair c w).1 ∧ (delPair c w).1 ≤ w.length ∧ -1 ≤ (delPair c w).2.1 ∧ (delPair c w).2.1 ≤ w.length := by
  cases h : (delPair c w).2.2 with
  | true =>
    obtain ⟨_, i, j, h1, h2, e, _⟩ := delPair_hit h
    rw [e]
    refine ⟨?_, ?_, ?_, ?_⟩ <;> simp only <;> omega
  | false =>
    have : (delPair c w).1 = -1 ∧ (delPair c w).2.1 = -1 := by
      unfold delPair at h ⊢
      split at h
      · rename_i hw
        rw [if_pos hw]
        split at h
        · rename_i i hi
          split at h
          · cases h
          · rename_i hj
            exact ⟨rfl, rfl⟩
        · exact ⟨rfl, rfl⟩
      · rename_i hw
        rw [if_neg hw]
        exact ⟨rfl, rfl⟩
    omega

theorem red_le1 (c : List (List Int)) (w : List Int) : (red c 15 w []).1.length ≤ w.length ∧ (red c 15 w []).2.length ≤ 30 := by
  have := red_le c 15 w []
  simpa using this


set_option maxHeartbeats 4000000 in
theorem law_Exchanges (h : Heap) (x0 : H0) (l0 : List Int) (hx : Code0 h x0 l0) : HCalls dm Try.prog 6 [.s x0] h (fun r _ => r = B true) := by
  refine calls_of_hSeg (m := 0) [(6, [0], jCode x0 l0), (4, [0, 7, 8, 9, 10, 11], jPair x0 l0), (1, [0], jCode x0 l0), (7, [15, 16, 17, 18, 19, 20, 23, 24, 25, 26, 27, 28], jLast)] kd_ok mixed Try.func6 rfl (by kernel_rfl) rfl rfl (of_decide_eq_true rfl) ?_; unfold hFunS; (conv => whnf)
  refine ⟨?_, ?_⟩
  · refine (laws_big _ _ _ hx).mono ?_
    rintro r h' ⟨rfl, hh⟩
    subst h'
    (conv => whnf)
    refine HIf.dec (fun _ => ?_) (fun hle => ?_)
    · (conv => whnf)
      rfl
    have hB := hx.bytes (by omega)
    clear hx
    (conv => whnf)
    refine (spec_DrawExchangeIndex _ _ _ hB).mono ?_
    rintro r h1 ⟨x, c, z, w, i, rfl, E1, R1, I1, S1, w1, i0, i1⟩
    replace hB := hB.ext E1
    (conv => whnf)
    refine (impl_ExchangeIndex _ _ _ _ _ i R1 I1 S1.sz (by omega) (by omega)).mono ?_
    rintro r h2 ⟨rfl, E2⟩
    replace hB := hB.ext E2
    replace R1 := R1.ext E2
    replace I1 := I1.ext E2
    have hge := @exIdx_ge c w i
    have hsame := @exIdx_same c w i
    have hkr := exIdx_range c w i
    generalize hk : exIdx c w i = k at hge hsame hkr ⊢
    (conv => whnf)
    refine (spec_ExchangeIndex _ _ _ _ _ i R1 I1 S1.sz (by omega) (by omega)).mono ?_
    rintro r h3 ⟨rfl, E3⟩
    rw [hk]
    replace hB := hB.ext E3
    replace R1 := R1.ext E3
    replace I1 := I1.ext E3
    (conv => whnf)
    (repeat (first | (refine HIf.bneF rfl ?_; (conv => whnf)) | (refine HIf.yes ?_; (conv => whnf)) | (refine HIf.no ?_; (conv => whnf)) | (refine HIf.same ?_; (conv => whnf)) | (refine HIf.nsame ?_; (conv => whnf)) | (refine And.intro (show Kd.isBool _ = true from rfl) ?_; (conv => whnf))))
    refine (spec_IsReduced _ _ _ _ _ R1 I1 S1.sz (by omega)).mono ?_
    rintro r h4 ⟨rfl, E4⟩
    replace hB := hB.ext E4
    replace R1 := R1.ext E4
    replace I1 := I1.ext E4
    cases hr : isReduced c w with
    | false =>
      have hk0 : ¬ (k ≥ 0) := fun e => by have := hge.1 e; rw [hr] at this; cases this.1
      (conv => whnf)
      (repeat (first | (refine HIf.bneF rfl ?_; (conv => whnf)) | (refine HIf.yes ?_; (conv => whnf)) | (refine HIf.no ?_; (conv => whnf)) | (refine HIf.same ?_; (conv => whnf)) | (refine HIf.nsame ?_; (conv => whnf)) | (refine And.intro (show Kd.isBool _ = true from rfl) ?_; (conv => whnf))))
      refine HIf.isF (by simp [hk0]) ?_
      (conv => whnf)
      (repeat (refine HIf.decF hk0 ?_; (conv => whnf)))
      (repeat (first | (refine HIf.bneF rfl ?_; (conv => whnf)) | (refine HIf.yes ?_; (conv => whnf)) | (refine HIf.no ?_; (conv => whnf)) | (refine HIf.same ?_; (conv => whnf)) | (refine HIf.nsame ?_; (conv => whnf)) | (refine And.intro (show Kd.isBool _ = true from rfl) ?_; (conv => whnf))))
      exact ⟨rfl, hB⟩
    | true =>
      (conv => whnf)
      (repeat (first | (refine HIf.bneF rfl ?_; (conv => whnf)) | (refine HIf.yes ?_; (conv => whnf)) | (refine HIf.no ?_; (conv => whnf)) | (refine HIf.same ?_; (conv => whnf)) | (refine HIf.nsame ?_; (conv => whnf)) | (refine And.intro (show Kd.isBool _ = true from rfl) ?_; (conv => whnf))))
      refine (spec_LeftDescents _ _ _ _ _ R1 I1 S1.sz (by omega)).mono ?_
      rintro r h5 ⟨y5, rfl, F5⟩
      have E5 := F5.1
      replace hB := hB.ext E5
      replace R1 := R1.ext E5
      replace I1 := I1.ext E5
      (conv => whnf)
      (repeat (first | (refine HIf.bneF rfl ?_; (conv => whnf)) | (refine HIf.yes ?_; (conv => whnf)) | (refine HIf.no ?_; (conv => whnf)) | (refine HIf.same ?_; (conv => whnf)) | (refine HIf.nsame ?_; (conv => whnf)) | (refine And.intro (show Kd.isBool _ = true from rfl) ?_; (conv => whnf))))
      refine (laws_has _ _ _ i F5.ints (by have := leftDescents_length c w; have := S1.le; omega)).mono ?_
      rintro r h6 ⟨rfl, hh⟩
      subst h6
      cases hm : decide (i ∈ leftDescents c w) with
      | false =>
        have hk0 : ¬ (k ≥ 0) := fun e => absurd (hge.1 e).2 (of_decide_eq_false hm)
        (conv => whnf)
        (repeat (first | (refine HIf.bneF rfl ?_; (conv => whnf)) | (refine HIf.yes ?_; (conv => whnf)) | (refine HIf.no ?_; (conv => whnf)) | (refine HIf.same ?_; (conv => whnf)) | (refine HIf.nsame ?_; (conv => whnf)) | (refine And.intro (show Kd.isBool _ = true from rfl) ?_; (conv => whnf))))
        refine HIf.isF (by simp [hk0]) ?_
        (conv => whnf)
        (repeat (refine HIf.decF hk0 ?_; (conv => whnf)))
        (repeat (first | (refine HIf.bneF rfl ?_; (conv => whnf)) | (refine HIf.yes ?_; (conv => whnf)) | (refine HIf.no ?_; (conv => whnf)) | (refine HIf.same ?_; (conv => whnf)) | (refine HIf.nsame ?_; (conv => whnf)) | (refine And.intro (show Kd.isBool _ = true from rfl) ?_; (conv => whnf))))
        exact ⟨rfl, hB⟩
      | true =>
        have hk0 : k ≥ 0 := hge.2 ⟨hr, of_decide_eq_true hm⟩
        (conv => whnf)
        (repeat (first | (refine HIf.bneF rfl ?_; (conv => whnf)) | (refine HIf.yes ?_; (conv => whnf)) | (refine HIf.no ?_; (conv => whnf)) | (refine HIf.same ?_; (conv => whnf)) | (refine HIf.nsame ?_; (conv => whnf)) | (refine And.intro (show Kd.isBool _ = true from rfl) ?_; (conv => whnf))))
        refine HIf.isF (by simp [hk0]) ?_
        (conv => whnf)
        (repeat (refine HIf.decT hk0 ?_; (conv => whnf)))
        refine (impl_DeleteAt _ _ _ k I1 (by omega) (by omega)).mono ?_
        rintro r h7 ⟨y7, rfl, F7⟩
        have E7 := F7.1
        replace hB := hB.ext E7
        replace R1 := R1.ext E7
        replace I1 := I1.ext E7
        have I7 := F7.ints
        have l7 := del_len w k
        (conv => whnf)
        (repeat (refine HIf.decT hk0 ?_; (conv => whnf)))
        refine HLit.of (xs := List.map ci [i]) rfl (ci_one _) (by decide) ?_
        have E8 := Ext.push h7 [Row.own (List.map ci [i])]
        have I8 : Ints (h7 ++ [Row.own (List.map ci [i])]) (.sl h7.length 0 1) [i] := (OwnR.push h7 [i]).ints
        generalize h7 ++ [Row.own (List.map ci [i])] = h8 at E8 I8 ⊢
        replace hB := hB.ext E8
        replace R1 := R1.ext E8
        replace I1 := I1.ext E8
        replace I7 := I7.ext E8
        (conv => whnf)
        (repeat (refine HIf.decT hk0 ?_; (conv => whnf)))
        refine (spec_DeleteAt _ _ _ (-1) I1 (by omega) (by omega)).mono ?_
        rintro r h9 ⟨y9, rfl, F9⟩
        have E9 := F9.1
        replace hB := hB.ext E9
        replace R1 := R1.ext E9
        replace I1 := I1.ext E9
        replace I7 := I7.ext E9
        replace I8 := I8.ext E9
        have l9 := del_len w (-1)
        (conv => whnf)
        (repeat (refine HIf.decT hk0 ?_; (conv => whnf)))
        refine (spec_ConcatWords _ _ _ _ _ I8 F9.ints (by simp) (by omega)).mono ?_
        rintro r h10 ⟨y10, rfl, F10⟩
        have E10 := F10.1
        replace hB := hB.ext E10
        replace R1 := R1.ext E10
        replace I1 := I1.ext E10
        replace I7 := I7.ext E10
        (conv => whnf)
        (repeat (refine HIf.decT hk0 ?_; (conv => whnf)))
        refine (impl_AreSame _ _ _ _ _ _ _ R1 I7 F10.ints S1.sz (by omega) (by simp; omega)).mono ?_
        rintro r h11 ⟨rfl, E11⟩
        rw [show areSame c (del w k) ([i] ++ del w (-1)) = true from hsame hk0 (by omega)]
        replace hB := hB.ext E11
        (conv => whnf)
        (repeat (refine HIf.decT hk0 ?_; (conv => whnf)))
        (repeat (first | (refine HIf.bneF rfl ?_; (conv => whnf)) | (refine HIf.yes ?_; (conv => whnf)) | (refine HIf.no ?_; (conv => whnf)) | (refine HIf.same ?_; (conv => whnf)) | (refine HIf.nsame ?_; (conv => whnf)) | (refine And.intro (show Kd.isBool _ = true from rfl) ?_; (conv => whnf))))
        exact ⟨rfl, hB⟩
  rintro vs h' ⟨rfl, hB⟩
  (conv => whnf)
  refine ⟨?_, ?_⟩
  · refine (spec_DrawDeletionPair _ _ _ hB).mono ?_
    rintro r h1 ⟨x, c, z, w, rfl, E1, R1, I1, S1, w1⟩
    replace hB := hB.ext E1
    replace R1 := R1.rows
    replace I1 := I1.1
    (conv => whnf)
    refine (impl_DeletionPair _ _ _ _ _ R1 I1 S1.sz (by omega)).mono ?_
    rintro r h2 ⟨rfl, E2⟩
    replace hB := hB.ext E2
    replace R1 := R1.ext E2
    replace I1 := I1.ext E2
    have hiff := @delPair_iff c w
    generalize hp : delPair c w = p at hiff ⊢
    obtain ⟨a, b, is⟩ := p
    (conv => whnf)
    refine (spec_DeletionPair _ _ _ _ _ R1 I1 S1.sz (by omega)).mono ?_
    rintro r h3 ⟨rfl, E3⟩
    rw [hp]
    replace hB := hB.ext E3
    replace R1 := R1.ext E3
    replace I1 := I1.ext E3
    have fin : ∀ h4, Ext h3 h4 → jPair x0 l0 [.s x0, .s x, .s z, I a, I b, B is] h4 := fun h4 E4 => ⟨x, c, z, w, by rw [hp], hB.ext E4, R1.ext E4, I1.ext E4, S1, w1⟩
    cases hw : isWord c w with
    | false =>
      cases is <;>
      · (conv => whnf)
        (repeat (first | (refine HIf.bneF rfl ?_; (conv => whnf)) | (refine HIf.yes ?_; (conv => whnf)) | (refine HIf.no ?_; (conv => whnf)) | (refine HIf.same ?_; (conv => whnf)) | (refine HIf.nsame ?_; (conv => whnf)) | (refine And.intro (show Kd.isBool _ = true from rfl) ?_; (conv => whnf))))
        refine (spec_IsWord _ _ _ _ _ R1 I1 (by have := S1.le; omega) (by omega)).mono ?_
        rintro r h4 ⟨rfl, hh⟩
        subst h4
        rw [hw]
        (conv => whnf)
        (repeat (first | (refine HIf.bneF rfl ?_; (conv => whnf)) | (refine HIf.yes ?_; (conv => whnf)) | (refine HIf.no ?_; (conv => whnf)) | (refine HIf.same ?_; (conv => whnf)) | (refine HIf.nsame ?_; (conv => whnf)) | (refine And.intro (show Kd.isBool _ = true from rfl) ?_; (conv => whnf))))
        exact fin _ (Ext.refl _)
    | true =>
      have hi := hiff hw
      cases hr : isReduced c w with
      | false =>
        rw [hr] at hi
        obtain rfl : is = true := hi
        (conv => whnf)
        (repeat (first | (refine HIf.bneF rfl ?_; (conv => whnf)) | (refine HIf.yes ?_; (conv => whnf)) | (refine HIf.no ?_; (conv => whnf)) | (refine HIf.same ?_; (conv => whnf)) | (refine HIf.nsame ?_; (conv => whnf)) | (refine And.intro (show Kd.isBool _ = true from rfl) ?_; (conv => whnf))))
        refine (spec_IsWord _ _ _ _ _ R1 I1 (by have := S1.le; omega) (by omega)).mono ?_
        rintro r h4 ⟨rfl, hh⟩
        subst h4
        rw [hw]
        (conv => whnf)
        (repeat (first | (refine HIf.bneF rfl ?_; (conv => whnf)) | (refine HIf.yes ?_; (conv => whnf)) | (refine HIf.no ?_; (conv => whnf)) | (refine HIf.same ?_; (conv => whnf)) | (refine HIf.nsame ?_; (conv => whnf)) | (refine And.intro (show Kd.isBool _ = true from rfl) ?_; (conv => whnf))))
        refine (spec_IsReduced _ _ _ _ _ R1 I1 S1.sz (by omega)).mono ?_
        rintro r h4 ⟨rfl, E4⟩
        rw [hr]
        (conv => whnf)
        (repeat (first | (refine HIf.bneF rfl ?_; (conv => whnf)) | (refine HIf.yes ?_; (conv => whnf)) | (refine HIf.no ?_; (conv => whnf)) | (refine HIf.same ?_; (conv => whnf)) | (refine HIf.nsame ?_; (conv => whnf)) | (refine And.intro (show Kd.isBool _ = true from rfl) ?_; (conv => whnf))))
        exact fin _ E4
      | true =>
        rw [hr] at hi
        obtain rfl : is = false := hi
        (conv => whnf)
        (repeat (first | (refine HIf.bneF rfl ?_; (conv => whnf)) | (refine HIf.yes ?_; (conv => whnf)) | (refine HIf.no ?_; (conv => whnf)) | (refine HIf.same ?_; (conv => whnf)) | (refine HIf.nsame ?_; (conv => whnf)) | (refine And.intro (show Kd.isBool _ = true from rfl) ?_; (conv => whnf))))
        refine (spec_IsWord _ _ _ _ _ R1 I1 (by have := S1.le; omega) (by omega)).mono ?_
        rintro r h4 ⟨rfl, hh⟩
        subst h4
        rw [hw]
        (conv => whnf)
        (repeat (first | (refine HIf.bneF rfl ?_; (conv => whnf)) | (refine HIf.yes ?_; (conv => whnf)) | (refine HIf.no ?_; (conv => whnf)) | (refine HIf.same ?_; (conv => whnf)) | (refine HIf.nsame ?_; (conv => whnf)) | (refine And.intro (show Kd.isBool _ = true from rfl) ?_; (conv => whnf))))
        refine (spec_IsReduced _ _ _ _ _ R1 I1 S1.sz (by omega)).mono ?_
        rintro r h4 ⟨rfl, E4⟩
        rw [hr]
        (conv => whnf)
        (repeat (first | (refine HIf.bneF rfl ?_; (conv => whnf)) | (refine HIf.yes ?_; (conv => whnf)) | (refine HIf.no ?_; (conv => whnf)) | (refine HIf.same ?_; (conv => whnf)) | (refine HIf.nsame ?_; (conv => whnf)) | (refine And.intro (show Kd.isBool _ = true from rfl) ?_; (conv => whnf))))
        exact fin _ E4
  rintro vs h' ⟨x, c, z, w, rfl, hB, R1, I1, S1, w1⟩
  (conv => whnf)
  refine ⟨?_, ?_⟩
  · have hpr := delPair_range c w
    have hs := @delPair_same c w
    generalize delPair c w = p at hpr hs ⊢
    obtain ⟨a, b, is⟩ := p
    simp only at hpr hs
    cases is with
    | false =>
      (conv => whnf)
      (repeat (first | (refine HIf.bneF rfl ?_; (conv => whnf)) | (refine HIf.yes ?_; (conv => whnf)) | (refine HIf.no ?_; (conv => whnf)) | (refine HIf.same ?_; (conv => whnf)) | (refine HIf.nsame ?_; (conv => whnf)) | (refine And.intro (show Kd.isBool _ = true from rfl) ?_; (conv => whnf))))
      exact ⟨rfl, hB⟩
    | true =>
      (conv => whnf)
      (repeat (first | (refine HIf.bneF rfl ?_; (conv => whnf)) | (refine HIf.yes ?_; (conv => whnf)) | (refine HIf.no ?_; (conv => whnf)) | (refine HIf.same ?_; (conv => whnf)) | (refine HIf.nsame ?_; (conv => whnf)) | (refine And.intro (show Kd.isBool _ = true from rfl) ?_; (conv => whnf))))
      refine (spec_DeleteAt _ _ _ b I1 (by omega) (by omega)).mono ?_
      rintro r h1 ⟨y1, rfl, F1⟩
      have E1 := F1.1
      replace hB := hB.ext E1
      replace R1 := R1.ext E1
      replace I1 := I1.ext E1
      have l1 := del_len w b
      (conv => whnf)
      (repeat (first | (refine HIf.bneF rfl ?_; (conv => whnf)) | (refine HIf.yes ?_; (conv => whnf)) | (refine HIf.no ?_; (conv => whnf)) | (refine HIf.same ?_; (conv => whnf)) | (refine HIf.nsame ?_; (conv => whnf)) | (refine And.intro (show Kd.isBool _ = true from rfl) ?_; (conv => whnf))))
      refine (spec_DeleteAt _ _ _ a F1.ints (by omega) (by omega)).mono ?_
      rintro r h2 ⟨y2, rfl, F2⟩
      have E2 := F2.1
      replace hB := hB.ext E2
      replace R1 := R1.ext E2
      replace I1 := I1.ext E2
      have l2 := del_len (del w b) a
      (conv => whnf)
      (repeat (first | (refine HIf.bneF rfl ?_; (conv => whnf)) | (refine HIf.yes ?_; (conv => whnf)) | (refine HIf.no ?_; (conv => whnf)) | (refine HIf.same ?_; (conv => whnf)) | (refine HIf.nsame ?_; (conv => whnf)) | (refine And.intro (show Kd.isBool _ = true from rfl) ?_; (conv => whnf))))
      refine (impl_AreSame _ _ _ _ _ _ _ R1 F2.ints I1 S1.sz (by omega) (by omega)).mono ?_
      rintro r h3 ⟨rfl, E3⟩
      rw [hs rfl]
      replace hB := hB.ext E3
      (conv => whnf)
      (repeat (first | (refine HIf.bneF rfl ?_; (conv => whnf)) | (refine HIf.yes ?_; (conv => whnf)) | (refine HIf.no ?_; (conv => whnf)) | (refine HIf.same ?_; (conv => whnf)) | (refine HIf.nsame ?_; (conv => whnf)) | (refine And.intro (show Kd.isBool _ = true from rfl) ?_; (conv => whnf))))
      exact ⟨rfl, hB⟩
  rintro vs h' ⟨rfl, hB⟩
  (conv => whnf)
  refine ⟨?_, ?_⟩
  · refine (spec_DrawReduceByDeletion _ _ _ hB).mono ?_
    rintro r h1 ⟨x, c, z, w, rfl, E1, R1, I1, S1, w1⟩
    replace hB := hB.ext E1
    replace R1 := R1.rows
    replace I1 := I1.1
    (conv => whnf)
    refine (impl_ReduceByDeletion _ _ _ _ _ R1 I1 S1.sz (by omega)).mono ?_
    rintro r h2 ⟨y1, z1, rfl, E2, e2, _, _, Y1, Z1⟩
    replace hB := hB.ext E2
    replace R1 := R1.ext E2
    replace I1 := I1.ext E2
    replace Y1 := Y1.ints
    replace Z1 := Z1.ints
    (conv => whnf)
    refine (spec_ReduceByDeletion _ _ _ _ _ R1 I1 S1.sz (by omega)).mono ?_
    rintro r h3 ⟨y2, z2, rfl, E3, e3, _, _, Y2, Z2⟩
    replace hB := hB.ext E3
    replace R1 := R1.ext E3
    replace I1 := I1.ext E3
    replace Y1 := Y1.ext E3
    replace Z1 := Z1.ext E3
    replace Y2 := Y2.ints
    replace Z2 := Z2.ints
    (conv => whnf)
    refine (spec_DrawReplayDeletions _ _ _ hB).mono ?_
    rintro r h4 ⟨u, p, v, q, rfl, E4, U, V, p1, q1⟩
    have E04 := E4
    (conv => whnf)
    refine (impl_ReplayDeletions _ _ _ _ _ U V (by omega) (by omega)).mono ?_
    rintro r h5 ⟨u1, rfl, F5⟩
    have E5 := F5.1
    replace U := U.ext E5
    replace V := V.ext E5
    have U1 := F5.ints
    (conv => whnf)
    refine (spec_ReplayDeletions _ _ _ _ _ U V (by omega) (by omega)).mono ?_
    rintro r h6 ⟨u2, rfl, F6⟩
    have E6 := F6.1
    replace U1 := U1.ext E6
    have U2 := F6.ints
    have E46 := (E4.trans E5).trans E6
    (conv => whnf)
    refine (spec_DrawDeleteAt _ _ _ (hB.ext E46)).mono ?_
    rintro r h7 ⟨y3, v3, n, rfl, E7, I3, v1, n1, n2⟩
    have E47 := E46.trans E7
    (conv => whnf)
    exact ⟨x, c, z, w, y1, y2, z1, z2, u1, u2, p, q, y3, v3, n, rfl, R1.ext E47, I1.ext E47, S1, w1, Y1.ext E47, Y2.ext E47, Z1.ext E47, Z2.ext E47, U1.ext E7, U2.ext E7, p1, I3, v1, n1, n2⟩
  rintro vs h' ⟨x, c, z, w, y1, y2, z1, z2, u1, u2, p, q, y3, v, n, rfl, R1, I1, S1, w1, Y1, Y2, Z1, Z2, U1, U2, p1, I3, v1, n1, n2⟩
  have hrl := red_le1 c w
  have hrp : (repW p q).length ≤ 1048576 := by
    have := repW_le p p q (Nat.le_refl _)
    unfold repW
    omega
  have hgood := @red_good c 15 w []
  generalize (red c 15 w []).1 = r1 at *
  generalize (red c 15 w []).2 = r2 at *
  (conv => whnf)
  refine (laws_sameInts _ _ _ _ _ Y1 Y2 (by omega)).mono ?_
  rintro r h1 ⟨rfl, hh⟩
  subst h1
  rw [decide_eq_true rfl]
  (conv => whnf)
  (repeat (first | (refine HIf.bneF rfl ?_; (conv => whnf)) | (refine HIf.yes ?_; (conv => whnf)) | (refine HIf.no ?_; (conv => whnf)) | (refine HIf.same ?_; (conv => whnf)) | (refine HIf.nsame ?_; (conv => whnf)) | (refine And.intro (show Kd.isBool _ = true from rfl) ?_; (conv => whnf))))
  refine (laws_sameInts _ _ _ _ _ Z1 Z2 (by omega)).mono ?_
  rintro r h1 ⟨rfl, hh⟩
  subst h1
  rw [decide_eq_true rfl]
  cases hro : repOk p q <;>
  · (conv => whnf)
    (repeat (first | (refine HIf.bneF rfl ?_; (conv => whnf)) | (refine HIf.yes ?_; (conv => whnf)) | (refine HIf.no ?_; (conv => whnf)) | (refine HIf.same ?_; (conv => whnf)) | (refine HIf.nsame ?_; (conv => whnf)) | (refine And.intro (show Kd.isBool _ = true from rfl) ?_; (conv => whnf))))
    refine (laws_sameInts _ _ _ _ _ U1 U2 hrp).mono ?_
    rintro r h1 ⟨rfl, hh⟩
    subst h1
    rw [decide_eq_true rfl]
    (conv => whnf)
    (repeat (first | (refine HIf.bneF rfl ?_; (conv => whnf)) | (refine HIf.yes ?_; (conv => whnf)) | (refine HIf.no ?_; (conv => whnf)) | (refine HIf.same ?_; (conv => whnf)) | (refine HIf.nsame ?_; (conv => whnf)) | (refine And.intro (show Kd.isBool _ = true from rfl) ?_; (conv => whnf))))
    refine (impl_DeleteAt _ _ _ n I3 (by omega) (by omega)).mono ?_
    rintro r h1 ⟨a1, rfl, F1⟩
    have E1 := F1.1
    (conv => whnf)
    (repeat (first | (refine HIf.bneF rfl ?_; (conv => whnf)) | (refine HIf.yes ?_; (conv => whnf)) | (refine HIf.no ?_; (conv => whnf)) | (refine HIf.same ?_; (conv => whnf)) | (refine HIf.nsame ?_; (conv => whnf)) | (refine And.intro (show Kd.isBool _ = true from rfl) ?_; (conv => whnf))))
    refine (spec_DeleteAt _ _ _ n (I3.ext E1) (by omega) (by omega)).mono ?_
    rintro r h2 ⟨a2, rfl, F2⟩
    have E2 := F2.1
    have l2 := del_len v n
    (conv => whnf)
    (repeat (first | (refine HIf.bneF rfl ?_; (conv => whnf)) | (refine HIf.yes ?_; (conv => whnf)) | (refine HIf.no ?_; (conv => whnf)) | (refine HIf.same ?_; (conv => whnf)) | (refine HIf.nsame ?_; (conv => whnf)) | (refine And.intro (show Kd.isBool _ = true from rfl) ?_; (conv => whnf))))
    refine (laws_sameInts _ _ _ _ _ (F1.ints.ext E2) F2.ints (by omega)).mono ?_
    rintro r h3 ⟨rfl, hh⟩
    subst h3
    rw [decide_eq_true rfl]
    have E12 := E1.trans E2
    (conv => whnf)
    (repeat (first | (refine HIf.bneF rfl ?_; (conv => whnf)) | (refine HIf.yes ?_; (conv => whnf)) | (refine HIf.no ?_; (conv => whnf)) | (refine HIf.same ?_; (conv => whnf)) | (refine HIf.nsame ?_; (conv => whnf)) | (refine And.intro (show Kd.isBool _ = true from rfl) ?_; (conv => whnf))))
    refine (spec_IsWord _ _ _ _ _ (R1.ext E12) (I1.ext E12) (by have := S1.le; omega) (by omega)).mono ?_
    rintro r h3 ⟨rfl, hh⟩
    subst h3
    cases hw : isWord c w with
    | false =>
      (conv => whnf)
      (repeat (first | (refine HIf.bneF rfl ?_; (conv => whnf)) | (refine HIf.yes ?_; (conv => whnf)) | (refine HIf.no ?_; (conv => whnf)) | (refine HIf.same ?_; (conv => whnf)) | (refine HIf.nsame ?_; (conv => whnf)) | (refine And.intro (show Kd.isBool _ = true from rfl) ?_; (conv => whnf))))
      rfl
    | true =>
      obtain ⟨g1, g2⟩ := hgood hw (by omega)
      (conv => whnf)
      (repeat (first | (refine HIf.bneF rfl ?_; (conv => whnf)) | (refine HIf.yes ?_; (conv => whnf)) | (refine HIf.no ?_; (conv => whnf)) | (refine HIf.same ?_; (conv => whnf)) | (refine HIf.nsame ?_; (conv => whnf)) | (refine And.intro (show Kd.isBool _ = true from rfl) ?_; (conv => whnf))))
      refine (impl_IsReduced _ _ _ _ _ (R1.ext E12) (Y2.ext E12) S1.sz (by omega)).mono ?_
      rintro r h4 ⟨rfl, E4⟩
      rw [g1]
      have E14 := E12.trans E4
      (conv => whnf)
      (repeat (first | (refine HIf.bneF rfl ?_; (conv => whnf)) | (refine HIf.yes ?_; (conv => whnf)) | (refine HIf.no ?_; (conv => whnf)) | (refine HIf.same ?_; (conv => whnf)) | (refine HIf.nsame ?_; (conv => whnf)) | (refine And.intro (show Kd.isBool _ = true from rfl) ?_; (conv => whnf))))
      refine (impl_AreSame _ _ _ _ _ _ _ (R1.ext E14) (I1.ext E14) (Y2.ext E14) S1.sz (by omega) (by omega)).mono ?_
      rintro r h5 ⟨rfl, E5⟩
      rw [g2]
      (conv => whnf)
      (repeat (first | (refine HIf.bneF rfl ?_; (conv => whnf)) | (refine HIf.yes ?_; (conv => whnf)) | (refine HIf.no ?_; (conv => whnf)) | (refine HIf.same ?_; (conv => whnf)) | (refine HIf.nsame ?_; (conv => whnf)) | (refine And.intro (show Kd.isBool _ = true from rfl) ?_; (conv => whnf))))
      rfl

end Go.Proofs.Ytkkniibnlniflaa.Hx
