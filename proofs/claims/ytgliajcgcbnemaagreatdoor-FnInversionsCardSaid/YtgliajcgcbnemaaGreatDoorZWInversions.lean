/-
  The law FnInversions walked: for every input it comes back true.
-/
import Derived.Test.YtgliajcgcbnemaaGreatDoorZ26
namespace Go.Proofs.YtgliajcgcbnemaaGreatDoor.Hx
open Go.RowKit
variable {dm : Bool}

def jInv (x0 : H0) (l0 : List Int) : List HV → Heap → Prop := fun vs h => vs = [.s x0] ∧ Bytes h x0 l0

theorem rootSeq_small {c : List (List Int)} {w : List Int} (hc : c.length ≤ 5) (hw : w.length ≤ 10) : (rootSeq c w).length ≤ 1048576 ∧ tot (rootSeq c w) ≤ 1048576 := by
  cases h : isWord c w with
  | false =>
    rw [rootSeq_off h]
    simp [tot]
  | true =>
    rw [rootSeq_on h]
    have h1 := tot_le 5 (rootsTo c w w.length) (fun l hl => by rw [rootsTo_len c w _ l hl]; exact hc)
    rw [rootsTo_length] at h1 ⊢
    omega
theorem restOf_small (c L : List (List Int)) : (restOf L (posRoots c)).length ≤ 1048576 ∧ tot (restOf L (posRoots c)) ≤ 1048576 := by
  have h0 : (restOf L (posRoots c)).length ≤ (posRoots c).length := List.length_filter_le _ _
  have h1 := (posRoots_small c).1
  have h2 := tot_le 4 (restOf L (posRoots c)) (fun l hl => by
    have hl := (List.mem_filter.1 hl).1
    cases hf : isFinite c with
    | false =>
      rw [posRoots_off hf] at hl
      cases hl
    | true =>
      have hC := (isCartan_iff c).1 (isFinite_cartan hf)
      rw [(posRoot_facts hf hl).1]
      exact hC.le)
  omega
theorem restOf_succ (L A : List (List Int)) {k : Nat} (hk : k < A.length) : restOf L (A.take (k + 1)) = if A.getD k [] ∈ L then restOf L (A.take k) else restOf L (A.take k) ++ [A.getD k []] := by
  unfold restOf
  rw [takeL_snoc A hk, List.filter_append]
  by_cases h : A.getD k [] ∈ L
  · have hd : (!decide (A.getD k [] ∈ L)) = false := by rw [decide_eq_true h]; rfl
    rw [if_pos h]
    simp only [List.filter_cons, hd, Bool.false_eq_true, if_false, List.filter_nil, List.append_nil]
  · have hd : (!decide (A.getD k [] ∈ L)) = true := by rw [decide_eq_false h]; rfl
    rw [if_neg h]
    simp only [List.filter_cons, hd, if_true, List.filter_nil]


theorem laws_inList (h : Heap) (x y : H0) (L : List (List Int)) (w : List Int) (hx : Rows h x L) (hy : Ints h y w) (hL : L.length ≤ 1048576 ∧ tot L ≤ 1048576) : HCalls dm Tryz.prog 35 [.s x, .s y] h (fun r h' => r = B (decide (w ∈ L)) ∧ h' = h) := by
  refine calls_of_hFun (m := 0) kd_ok mixed Tryz.func35 rfl (by kernel_rfl) rfl rfl (of_decide_eq_true rfl) ?_; unfold hFun; (conv => whnf)
  refine HLoop.intro [5] [6, 7, 8, 9, 12, 13, 14, 15, 16, 17, 4, 10, 11, 5] (by kernel_rfl) (by kernel_rfl) (fun vs h' => ∃ i : Nat, vs = [I i] ∧ h' = h ∧ i ≤ L.length ∧ ∀ j, j < i → L.getD j [] ≠ w) (fun vs _ => L.length - natAt vs 0) ⟨0, rfl, rfl, by omega, fun j hj => by omega⟩ ?_
  rintro vs h' ⟨i, rfl, hh, hi, hb⟩
  subst h'
  (conv => whnf)
  refine ⟨rfl, hx.len ?_⟩
  (conv => whnf)
  refine HIf.dec (fun hlt => ?_) (fun hge => ?_)
  · have hil : i < L.length := by omega
    have hle := len_le_tot (L := L) hil
    (conv => whnf)
    refine ⟨rfl, Rows.idxN hx hil (fun p z hp hz => ?_)⟩
    (conv => whnf)
    refine ⟨rfl, hp.load ?_⟩
    (conv => whnf)
    refine (laws_sameInts _ _ _ _ _ hz hy (by omega)).mono ?_
    rintro r h2 ⟨rfl, hh⟩
    subst h2
    (conv => whnf)
    refine HIf.dec (fun heq => ?_) (fun hne => ?_)
    · (conv => whnf)
      exact ⟨bEq (decide_eq_true (memL_at hil heq)), rfl⟩
    · (conv => whnf)
      refine HArith.fits (by omega) (by omega) ?_
      (conv => whnf)
      exact ⟨⟨i + 1, rfl, rfl, by omega, fun j hj => by
        by_cases hji : j = i
        · subst hji; exact hne
        · exact hb j (by omega)⟩, by show L.length - (i + 1) < L.length - i; omega⟩
  · have e : i = L.length := by omega
    subst e
    (conv => whnf)
    refine ⟨bEq (decide_eq_false (fun hm => ?_)), rfl⟩
    obtain ⟨j, hj, e⟩ := mem_getD hm
    exact hb j hj e

theorem spec_DrawInversionsOf (h : Heap) (y : H0) (l : List Int) (hy : Bytes h y l) : HCalls dm Tryz.prog 23 [.s y] h (fun v h' => ∃ x L z w, v = .tup [x, z] ∧ Ext h h' ∧ RowsN (fun q => q < h.length) h' x L ∧ IntsN (fun q => q < h.length) h' z w ∧ Small L ∧ w.length ≤ 10) := by
  refine calls_of_hFun (m := 0) kd_ok mixed Tryz.func23 rfl (by kernel_rfl) rfl rfl (of_decide_eq_true rfl) ?_; unfold hFun; (conv => whnf)
  refine (spec_l5Any _ _ _ hy).mono ?_
  rintro v h1 ⟨x, L, z, w, rfl, rest⟩
  (conv => whnf)
  exact ⟨_, _, _, _, rfl, rest⟩

theorem spec_DrawWordOfInversions (h : Heap) (y : H0) (l : List Int) (hy : Bytes h y l) : HCalls dm Tryz.prog 37 [.s y] h (fun v h' => ∃ x L z T, v = .tup [x, z] ∧ Ext h h' ∧ Rows h' x L ∧ Rows h' z T ∧ Small L ∧ RSet T) := by
  refine calls_of_hFun (m := 0) kd_ok mixed Tryz.func37 rfl (by kernel_rfl) rfl rfl (of_decide_eq_true rfl) ?_; unfold hFun; (conv => whnf)
  refine (spec_l12Set _ _ _ hy).mono ?_
  rintro v h1 ⟨x, L, z, w, rfl, rest⟩
  (conv => whnf)
  exact ⟨_, _, _, _, rfl, rest⟩

theorem spec_DrawCommonInversions (h : Heap) (y : H0) (l : List Int) (hy : Bytes h y l) : HCalls dm Tryz.prog 39 [.s y] h (fun v h' => ∃ x L z w u t, v = .tup [x, z, u] ∧ Ext h h' ∧ Rows h' x L ∧ Ints h' z w ∧ Ints h' u t ∧ Small L ∧ w.length ≤ 7 ∧ t.length ≤ 7) := by
  refine calls_of_hFun (m := 0) kd_ok mixed Tryz.func39 rfl (by kernel_rfl) rfl rfl (of_decide_eq_true rfl) ?_; unfold hFun; (conv => whnf)
  refine (spec_l8Two _ _ _ hy).mono ?_
  rintro v h1 ⟨x, L, z, w, u, t, rfl, rest⟩
  (conv => whnf)
  exact ⟨_, _, _, _, _, _, rfl, rest⟩

set_option maxHeartbeats 8000000 in
theorem law_Inversions (h : Heap) (x0 : H0) (l0 : List Int) (hx : Code0 h x0 l0) : HCalls false Tryz.prog 6 [.s x0] h (fun r _ => r = B true) := by
  refine calls_of_hSeg (m := 0) [(6, [0], jInv x0 l0)] kd_ok mixed Tryz.func6 rfl (by kernel_rfl) rfl rfl (of_decide_eq_true rfl) ?_; unfold hFunS; (conv => whnf)
  refine ⟨?_, ?_⟩
  · refine (laws_big _ _ _ hx).mono ?_
    rintro r h' ⟨rfl, hh⟩
    subst h'
    (conv => whnf)
    refine HIf.dec (fun _ => ?_) (fun hle => ?_)
    · (conv => whnf)
      rfl
    have hB := hx.bytes (by omega)
    clear hx
    (conv => whnf)
    refine (spec_DrawInversionsOf _ _ _ hB).mono ?_
    rintro r h1 ⟨x, c, z, w, rfl, Et, R, Iw, S, lw⟩
    replace R := R.rows
    replace Iw := Iw.1
    have sz := S.sz
    have hc5 := S.le
    have isz := inversions_size c w
    have rsz := rootSeq_small (c := c) (w := w) hc5 (by omega)
    replace hB := hB.ext Et
    (conv => whnf)
    refine (impl_InversionsOf _ _ _ _ _ R Iw sz (by omega)).mono ?_
    rintro r h2 ⟨y2, rfl, E2, O2⟩
    have I2 := O2.rows
    replace R := R.ext E2
    replace Iw := Iw.ext E2
    replace hB := hB.ext E2
    clear O2
    (conv => whnf)
    refine (spec_InversionsOf _ _ _ _ _ R Iw sz (by omega)).mono ?_
    rintro r h3 ⟨y3, rfl, E3, O3⟩
    have I3 := O3.rows
    replace I2 := I2.ext E3
    replace R := R.ext E3
    replace Iw := Iw.ext E3
    replace hB := hB.ext E3
    clear O3
    (conv => whnf)
    (repeat (first | (refine HIf.bneF rfl ?_; (conv => whnf)) | (refine HIf.yes ?_; (conv => whnf)) | (refine HIf.no ?_; (conv => whnf)) | (refine HIf.same ?_; (conv => whnf)) | (refine HIf.nsame ?_; (conv => whnf)) | (refine And.intro (show Kd.isBool _ = true from rfl) ?_; (conv => whnf))))
    refine (laws_sameWords _ _ _ _ _ I2 I3 rfl (by omega)).mono ?_
    rintro r h4 ⟨rfl, hh⟩
    subst h4
    clear I3
    (conv => whnf)
    (repeat (first | (refine HIf.bneF rfl ?_; (conv => whnf)) | (refine HIf.yes ?_; (conv => whnf)) | (refine HIf.no ?_; (conv => whnf)) | (refine HIf.same ?_; (conv => whnf)) | (refine HIf.nsame ?_; (conv => whnf)) | (refine And.intro (show Kd.isBool _ = true from rfl) ?_; (conv => whnf))))
    refine (impl_RootSequence _ _ _ _ _ R Iw sz (by omega)).mono ?_
    rintro r h4 ⟨y4, rfl, E4, O4⟩
    have I4 := O4.rows
    replace I2 := I2.ext E4
    replace R := R.ext E4
    replace Iw := Iw.ext E4
    replace hB := hB.ext E4
    clear O4
    (conv => whnf)
    (repeat (first | (refine HIf.bneF rfl ?_; (conv => whnf)) | (refine HIf.yes ?_; (conv => whnf)) | (refine HIf.no ?_; (conv => whnf)) | (refine HIf.same ?_; (conv => whnf)) | (refine HIf.nsame ?_; (conv => whnf)) | (refine And.intro (show Kd.isBool _ = true from rfl) ?_; (conv => whnf))))
    refine (spec_RootSequence _ _ _ _ _ R Iw sz (by omega)).mono ?_
    rintro r h5 ⟨y5, rfl, E5, O5⟩
    have I5 := O5.rows
    replace I4 := I4.ext E5
    replace I2 := I2.ext E5
    replace R := R.ext E5
    replace Iw := Iw.ext E5
    replace hB := hB.ext E5
    clear O5
    (conv => whnf)
    (repeat (first | (refine HIf.bneF rfl ?_; (conv => whnf)) | (refine HIf.yes ?_; (conv => whnf)) | (refine HIf.no ?_; (conv => whnf)) | (refine HIf.same ?_; (conv => whnf)) | (refine HIf.nsame ?_; (conv => whnf)) | (refine And.intro (show Kd.isBool _ = true from rfl) ?_; (conv => whnf))))
    refine (laws_sameWords _ _ _ _ _ I4 I5 rfl rsz).mono ?_
    rintro r h6 ⟨rfl, hh⟩
    subst h6
    clear I4 I5
    (conv => whnf)
    (repeat (first | (refine HIf.bneF rfl ?_; (conv => whnf)) | (refine HIf.yes ?_; (conv => whnf)) | (refine HIf.no ?_; (conv => whnf)) | (refine HIf.same ?_; (conv => whnf)) | (refine HIf.nsame ?_; (conv => whnf)) | (refine And.intro (show Kd.isBool _ = true from rfl) ?_; (conv => whnf))))
    refine (spec_IsWord _ _ _ _ _ R Iw (by omega) (by omega)).mono ?_
    rintro r h6 ⟨rfl, hh⟩
    subst h6
    cases hw : isWord c w with
    | false =>
      (conv => whnf)
      refine HIf.no ?_
      (conv => whnf)
      exact ⟨rfl, hB⟩
    | true =>
      obtain ⟨g1, g2, g3⟩ := woi_inversions hw
      have hlen := (invL_inversions hw).2
      have hll : lengthI c w = ((inversions c w).length : Int) := by
        unfold lengthI
        rw [if_pos hw, hlen]
      (conv => whnf)
      refine HIf.yes ?_
      (conv => whnf)
      refine (impl_WordOfInversions _ _ _ _ _ R I2 sz (by omega)).mono ?_
      rintro r h6 ⟨y6, rfl, F6⟩
      rw [g1]
      have hwl := woiW_len c (inversions c w)
      have E6 := F6.1
      have I6 := F6.ints
      replace I2 := I2.ext E6
      replace R := R.ext E6
      replace Iw := Iw.ext E6
      replace hB := hB.ext E6
      (conv => whnf)
      refine ⟨rfl, I2.len ?_⟩
      (conv => whnf)
      refine (spec_LengthOf _ _ _ _ _ R Iw sz (by omega)).mono ?_
      rintro r h7 ⟨rfl, E7⟩
      rw [hll]
      replace I6 := I6.ext E7
      replace I2 := I2.ext E7
      replace R := R.ext E7
      replace Iw := Iw.ext E7
      replace hB := hB.ext E7
      (conv => whnf)
      (repeat (first | (refine HIf.bneF rfl ?_; (conv => whnf)) | (refine HIf.yes ?_; (conv => whnf)) | (refine HIf.no ?_; (conv => whnf)) | (refine HIf.same ?_; (conv => whnf)) | (refine HIf.nsame ?_; (conv => whnf)) | (refine And.intro (show Kd.isBool _ = true from rfl) ?_; (conv => whnf))))
      refine (impl_AreSame _ _ _ _ _ _ _ R I6 Iw sz (by omega) (by omega)).mono ?_
      rintro r h8 ⟨rfl, E8⟩
      rw [g2]
      replace I2 := I2.ext E8
      replace R := R.ext E8
      replace Iw := Iw.ext E8
      replace hB := hB.ext E8
      clear I6
      (conv => whnf)
      (repeat (first | (refine HIf.bneF rfl ?_; (conv => whnf)) | (refine HIf.yes ?_; (conv => whnf)) | (refine HIf.no ?_; (conv => whnf)) | (refine HIf.same ?_; (conv => whnf)) | (refine HIf.nsame ?_; (conv => whnf)) | (refine And.intro (show Kd.isBool _ = true from rfl) ?_; (conv => whnf))))
      refine (impl_IsInversionSet _ _ _ _ _ R I2 sz (by omega)).mono ?_
      rintro r h9 ⟨rfl, E9⟩
      rw [g3]
      replace I2 := I2.ext E9
      replace R := R.ext E9
      replace hB := hB.ext E9
      clear Iw
      (conv => whnf)
      (repeat (first | (refine HIf.bneF rfl ?_; (conv => whnf)) | (refine HIf.yes ?_; (conv => whnf)) | (refine HIf.no ?_; (conv => whnf)) | (refine HIf.same ?_; (conv => whnf)) | (refine HIf.nsame ?_; (conv => whnf)) | (refine And.intro (show Kd.isBool _ = true from rfl) ?_; (conv => whnf))))
      refine (spec_PositiveRoots _ _ _ R sz).mono ?_
      rintro r h10 ⟨ya, rfl, E10, Oa⟩
      have psz := posRoots_small c
      replace I2 := I2.ext E10
      replace R := R.ext E10
      replace hB := hB.ext E10
      obtain ⟨ra, ρ, rfl, g4, g5, g6, ma⟩ := Oa
      have rsm := restOf_small c (inversions c w)
      obtain ⟨A, hA⟩ : ∃ A, A = posRoots c := ⟨_, rfl⟩
      rw [← hA] at ma g6 psz rsm
      have h0A : restOf (inversions c w) (A.take 0) = [] := rfl
      have hAA : restOf (inversions c w) (A.take A.length) = restOf (inversions c w) A := by rw [List.take_length]
      have hsuc := fun k hk => restOf_succ (inversions c w) A (k := k) hk
      have hle : ∀ k, (restOf (inversions c w) (A.take k)).length ≤ A.length := fun k => by
        have := List.length_filter_le (fun r => !decide (r ∈ inversions c w)) (A.take k)
        rw [List.length_take] at this
        unfold restOf
        omega
      (conv => whnf)
      refine HLit.empty ?_
      have E11 := Ext.push h10 [Row.own []]
      have P11 := Pile.push h10 (fun p => p = h10.length)
      generalize h10 ++ [Row.own []] = h11 at E11 P11 ⊢
      (conv => whnf)
      rw [← hA]
      refine HLoop.intro [11, 10] [85, 86, 87, 88, 91, 92, 93, 94, 95, 96, 97, 98, 99, 100, 101, 102, 103, 104, 10, 89, 90, 11] (by kernel_rfl) (by kernel_rfl) (fun vs h' => ∃ (k q : Nat) (z : H0), vs = [I k, .s z] ∧ k ≤ A.length ∧ Ext h10 h' ∧ h10.length ≤ q ∧ Pile q (fun p => p = q) h' z (restOf (inversions c w) (A.take k))) (fun vs _ => A.length - natAt vs 0) ⟨0, h10.length, _, rfl, by omega, E11, Nat.le_refl _, P11⟩ ?_
      rintro vs h' ⟨k, q, zq, rfl, hk, E, hq, P⟩
      have m' := ma.ext E
      have I2' := I2.ext E
      (conv => whnf)
      refine ⟨rfl, m'.rows.len ?_⟩
      (conv => whnf)
      refine HIf.dec (fun hlt => ?_) (fun hge => ?_)
      · have hkl : k < A.length := by omega
        have hs := hsuc k hkl
        have hl1 := hle k
        have hql := P.lt
        have hρ := g6 k hkl
        (conv => whnf)
        refine ⟨rfl, m'.idx hkl (fun p hp => ?_)⟩
        (conv => whnf)
        refine ⟨rfl, hp.load ?_⟩
        (conv => whnf)
        refine (laws_inList _ _ _ _ _ I2' (m'.inner' hkl).ints (by omega)).mono ?_
        rintro r h12 ⟨rfl, hh⟩
        subst h12
        (conv => whnf)
        refine HIf.bnot (HIf.dec (fun hin => ?_) (fun hni => ?_))
        · rw [if_pos hin] at hs
          (conv => whnf)
          refine HArith.fits (by omega) (by omega) ?_
          (conv => whnf)
          exact ⟨⟨k + 1, q, zq, rfl, by omega, E, hq, by rw [hs]; exact P⟩, by show A.length - (k + 1) < A.length - k; omega⟩
        · rw [if_neg hni] at hs
          (conv => whnf)
          refine ⟨rfl, m'.idx hkl (fun p hp => ?_)⟩
          (conv => whnf)
          refine ⟨rfl, hp.load ?_⟩
          (conv => whnf)
          refine HLit.row (y := .sl (ρ k) 0 (A.getD k []).length) rfl ?_
          have Nk : IntsN (fun p => p = q) h' (.sl (ρ k) 0 (A.getD k []).length) (A.getD k []) := ⟨(m'.inner' hkl).ints, fun p o n e g => by
            cases e
            omega⟩
          have Ed := Ext.push h' [Row.own [.sl (ρ k) 0 (A.getD k []).length]]
          have Td := Parts.one Nk
          have Pd := P.keep (F' := fun p => p = q) (KeepN.ofExt (F := fun _ => False) Ed) (fun g => g) (fun _ _ g => g.elim) (fun _ _ g => g)
          have Xd := E.trans Ed
          (conv => whnf)
          refine ⟨rfl, rfl, HApp.pileN Pd rfl Td (by rw [List.length_singleton]; omega) (fun he Ke ne Pe => ?_)⟩
          have Xe : Ext h10 he := KeepN.ext (F := fun p => p = q) Ke (fun p e => by omega) Xd
          have ned := Xd.1
          rw [← hs] at Pe ⊢
          (conv => whnf)
          refine HArith.fits (by omega) (by omega) ?_
          (conv => whnf)
          exact ⟨⟨k + 1, _, _, rfl, by omega, Xe, ned, Pe.keep (KeepN.refl (fun _ => False) he) (fun g => g) (fun _ _ g => g.elim) (fun p hp g => Or.inr (by omega))⟩, by show A.length - (k + 1) < A.length - k; omega⟩
      have ek : k = A.length := by omega
      rw [ek, hAA] at P
      clear h0A hAA hsuc hle
      replace R := R.ext E
      replace hB := hB.ext E
      have Rr := P.rows
      clear P m' ma I2
      rw [hA] at Rr rsm
      cases hf : isFinite c with
      | false =>
        (conv => whnf)
        (repeat (first | (refine HIf.bneF rfl ?_; (conv => whnf)) | (refine HIf.yes ?_; (conv => whnf)) | (refine HIf.no ?_; (conv => whnf)) | (refine HIf.same ?_; (conv => whnf)) | (refine HIf.nsame ?_; (conv => whnf)) | (refine And.intro (show Kd.isBool _ = true from rfl) ?_; (conv => whnf))))
        exact ⟨rfl, hB⟩
      | true =>
        obtain ⟨k1, k2⟩ := inv_closed hf hw
        (conv => whnf)
        (repeat (first | (refine HIf.bneF rfl ?_; (conv => whnf)) | (refine HIf.yes ?_; (conv => whnf)) | (refine HIf.no ?_; (conv => whnf)) | (refine HIf.same ?_; (conv => whnf)) | (refine HIf.nsame ?_; (conv => whnf)) | (refine And.intro (show Kd.isBool _ = true from rfl) ?_; (conv => whnf))))
        refine (impl_IsClosedSet _ _ _ _ _ R I2' sz (by omega)).mono ?_
        rintro r h12 ⟨rfl, E12⟩
        rw [k1]
        replace R := R.ext E12
        replace Rr := Rr.ext E12
        replace hB := hB.ext E12
        (conv => whnf)
        (repeat (first | (refine HIf.bneF rfl ?_; (conv => whnf)) | (refine HIf.yes ?_; (conv => whnf)) | (refine HIf.no ?_; (conv => whnf)) | (refine HIf.same ?_; (conv => whnf)) | (refine HIf.nsame ?_; (conv => whnf)) | (refine And.intro (show Kd.isBool _ = true from rfl) ?_; (conv => whnf))))
        refine (impl_IsClosedSet _ _ _ _ _ R Rr sz rsm).mono ?_
        rintro r h13 ⟨rfl, E13⟩
        rw [k2]
        replace hB := hB.ext E13
        (conv => whnf)
        (repeat (first | (refine HIf.bneF rfl ?_; (conv => whnf)) | (refine HIf.yes ?_; (conv => whnf)) | (refine HIf.no ?_; (conv => whnf)) | (refine HIf.same ?_; (conv => whnf)) | (refine HIf.nsame ?_; (conv => whnf)) | (refine And.intro (show Kd.isBool _ = true from rfl) ?_; (conv => whnf))))
        exact ⟨rfl, hB⟩
  rintro vs h' ⟨rfl, hB⟩
  (conv => whnf)
  refine (spec_DrawWordOfInversions _ _ _ hB).mono ?_
  rintro r h1 ⟨xd, d, zs, T, rfl, E1, Rd, Rs, Sd, Q⟩
  have szd := Sd.sz
  have szt := Q.sz
  replace hB := hB.ext E1
  (conv => whnf)
  refine (impl_WordOfInversions _ _ _ _ _ Rd Rs szd szt).mono ?_
  rintro r h2 ⟨y2, rfl, F2⟩
  have hwl := woiW_len d T
  have I2 := F2.ints
  replace Rd := Rd.ext F2.1
  replace Rs := Rs.ext F2.1
  replace hB := hB.ext F2.1
  clear F2
  (conv => whnf)
  refine (spec_WordOfInversions _ _ _ _ _ Rd Rs szd szt).mono ?_
  rintro r h3 ⟨y3, rfl, F3⟩
  have I3 := F3.ints
  replace I2 := I2.ext F3.1
  replace Rd := Rd.ext F3.1
  replace Rs := Rs.ext F3.1
  replace hB := hB.ext F3.1
  clear F3
  (conv => whnf)
  refine (spec_DrawCommonInversions _ _ _ hB).mono ?_
  rintro r h4 ⟨xe, e, zu, u, zv, v, rfl, E4, Re, Iu, Iv, Se, lu, lv⟩
  have sze := Se.sz
  replace I2 := I2.ext E4
  replace I3 := I3.ext E4
  replace Rd := Rd.ext E4
  replace Rs := Rs.ext E4
  clear hB
  generalize woiOk d T = ok at *
  generalize woiW d T = W at *
  (conv => whnf)
  (repeat (first | (refine HIf.bneF rfl ?_; (conv => whnf)) | (refine HIf.yes ?_; (conv => whnf)) | (refine HIf.no ?_; (conv => whnf)) | (refine HIf.same ?_; (conv => whnf)) | (refine HIf.nsame ?_; (conv => whnf)) | (refine And.intro (show Kd.isBool _ = true from rfl) ?_; (conv => whnf))))
  refine (laws_sameInts _ _ _ _ _ I2 I3 (by omega)).mono ?_
  rintro r h5 ⟨rfl, hh⟩
  subst h5
  rw [decide_eq_true rfl]
  clear I2 I3
  (conv => whnf)
  (repeat (first | (refine HIf.bneF rfl ?_; (conv => whnf)) | (refine HIf.yes ?_; (conv => whnf)) | (refine HIf.no ?_; (conv => whnf)) | (refine HIf.same ?_; (conv => whnf)) | (refine HIf.nsame ?_; (conv => whnf)) | (refine And.intro (show Kd.isBool _ = true from rfl) ?_; (conv => whnf))))
  refine (impl_IsInversionSet _ _ _ _ _ Rd Rs szd szt).mono ?_
  rintro r h5 ⟨rfl, E5⟩
  replace Rd := Rd.ext E5
  replace Rs := Rs.ext E5
  replace Re := Re.ext E5
  replace Iu := Iu.ext E5
  replace Iv := Iv.ext E5
  (conv => whnf)
  (repeat (first | (refine HIf.bneF rfl ?_; (conv => whnf)) | (refine HIf.yes ?_; (conv => whnf)) | (refine HIf.no ?_; (conv => whnf)) | (refine HIf.same ?_; (conv => whnf)) | (refine HIf.nsame ?_; (conv => whnf)) | (refine And.intro (show Kd.isBool _ = true from rfl) ?_; (conv => whnf))))
  refine (spec_IsInversionSet _ _ _ _ _ Rd Rs szd szt).mono ?_
  rintro r h6 ⟨rfl, E6⟩
  replace Rd := Rd.ext E6
  replace Rs := Rs.ext E6
  replace Re := Re.ext E6
  replace Iu := Iu.ext E6
  replace Iv := Iv.ext E6
  generalize isInvSet d T = b1 at *
  (conv => whnf)
  (repeat (first | (refine HIf.bneF rfl ?_; (conv => whnf)) | (refine HIf.yes ?_; (conv => whnf)) | (refine HIf.no ?_; (conv => whnf)) | (refine HIf.same ?_; (conv => whnf)) | (refine HIf.nsame ?_; (conv => whnf)) | (refine And.intro (show Kd.isBool _ = true from rfl) ?_; (conv => whnf))))
  refine (impl_IsClosedSet _ _ _ _ _ Rd Rs szd szt).mono ?_
  rintro r h7 ⟨rfl, E7⟩
  replace Rd := Rd.ext E7
  replace Rs := Rs.ext E7
  replace Re := Re.ext E7
  replace Iu := Iu.ext E7
  replace Iv := Iv.ext E7
  (conv => whnf)
  (repeat (first | (refine HIf.bneF rfl ?_; (conv => whnf)) | (refine HIf.yes ?_; (conv => whnf)) | (refine HIf.no ?_; (conv => whnf)) | (refine HIf.same ?_; (conv => whnf)) | (refine HIf.nsame ?_; (conv => whnf)) | (refine And.intro (show Kd.isBool _ = true from rfl) ?_; (conv => whnf))))
  refine (spec_IsClosedSet _ _ _ _ _ Rd Rs szd szt).mono ?_
  rintro r h8 ⟨rfl, E8⟩
  replace Rs := Rs.ext E8
  replace Re := Re.ext E8
  replace Iu := Iu.ext E8
  replace Iv := Iv.ext E8
  generalize isClosed d T = b2 at *
  (conv => whnf)
  (repeat (first | (refine HIf.bneF rfl ?_; (conv => whnf)) | (refine HIf.yes ?_; (conv => whnf)) | (refine HIf.no ?_; (conv => whnf)) | (refine HIf.same ?_; (conv => whnf)) | (refine HIf.nsame ?_; (conv => whnf)) | (refine And.intro (show Kd.isBool _ = true from rfl) ?_; (conv => whnf))))
  refine (impl_CommonInversions _ _ _ _ _ _ _ Re Iu Iv sze (by omega) (by omega)).mono ?_
  rintro r h9 ⟨rfl, E9⟩
  replace Rs := Rs.ext E9
  replace Re := Re.ext E9
  replace Iu := Iu.ext E9
  replace Iv := Iv.ext E9
  (conv => whnf)
  (repeat (first | (refine HIf.bneF rfl ?_; (conv => whnf)) | (refine HIf.yes ?_; (conv => whnf)) | (refine HIf.no ?_; (conv => whnf)) | (refine HIf.same ?_; (conv => whnf)) | (refine HIf.nsame ?_; (conv => whnf)) | (refine And.intro (show Kd.isBool _ = true from rfl) ?_; (conv => whnf))))
  refine (spec_CommonInversions _ _ _ _ _ _ _ Re Iu Iv sze (by omega) (by omega)).mono ?_
  rintro r h10 ⟨rfl, E10⟩
  replace Rs := Rs.ext E10
  generalize common e u v = n at *
  (conv => whnf)
  (repeat (first | (refine HIf.beqT rfl ?_; (conv => whnf)) | (refine HIf.bneF rfl ?_; (conv => whnf)) | (refine HIf.yes ?_; (conv => whnf)) | (refine HIf.no ?_; (conv => whnf)) | (refine HIf.same ?_; (conv => whnf)) | (refine HIf.nsame ?_; (conv => whnf)) | (refine And.intro (show Kd.isBool _ = true from rfl) ?_; (conv => whnf))))
  refine (impl_FormatRoots _ _ _ Rs Q.i64 szt).mono ?_
  rintro r h11 ⟨rfl, E11⟩
  replace Rs := Rs.ext E11
  (conv => whnf)
  (repeat (first | (refine HIf.beqT rfl ?_; (conv => whnf)) | (refine HIf.bneF rfl ?_; (conv => whnf)) | (refine HIf.yes ?_; (conv => whnf)) | (refine HIf.no ?_; (conv => whnf)) | (refine HIf.same ?_; (conv => whnf)) | (refine HIf.nsame ?_; (conv => whnf)) | (refine And.intro (show Kd.isBool _ = true from rfl) ?_; (conv => whnf))))
  refine (spec_FormatRoots _ _ _ Rs Q.i64 szt).mono ?_
  rintro r h12 ⟨rfl, E12⟩
  generalize fmtR T = q at *
  (conv => whnf)
  (repeat (first | (refine HIf.beqT rfl ?_; (conv => whnf)) | (refine HIf.bneF rfl ?_; (conv => whnf)) | (refine HIf.yes ?_; (conv => whnf)) | (refine HIf.no ?_; (conv => whnf)) | (refine HIf.same ?_; (conv => whnf)) | (refine HIf.nsame ?_; (conv => whnf)) | (refine And.intro (show Kd.isBool _ = true from rfl) ?_; (conv => whnf))))
  refine HStr.eql ?_
  (conv => whnf)
  (repeat (first | (refine HIf.beqT rfl ?_; (conv => whnf)) | (refine HIf.bneF rfl ?_; (conv => whnf)) | (refine HIf.yes ?_; (conv => whnf)) | (refine HIf.no ?_; (conv => whnf)) | (refine HIf.same ?_; (conv => whnf)) | (refine HIf.nsame ?_; (conv => whnf)) | (refine And.intro (show Kd.isBool _ = true from rfl) ?_; (conv => whnf))))
  exact bEq (by simp)

end Go.Proofs.YtgliajcgcbnemaaGreatDoor.Hx
