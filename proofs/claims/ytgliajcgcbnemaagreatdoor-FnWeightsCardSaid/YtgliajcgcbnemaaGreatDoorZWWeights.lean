/-
  The law FnWeights walked: for every input it comes back true.
-/
import Derived.Test.YtgliajcgcbnemaaGreatDoorZ19
namespace Go.Proofs.YtgliajcgcbnemaaGreatDoor.Hx
open Go.RowKit
variable {dm : Bool}

def jWt (x0 : H0) (l0 : List Int) : List HV → Heap → Prop := fun vs h => ∃ x c z w, vs = [.s x0, .s x, .s z] ∧ Bytes h x0 l0 ∧ Rows h x c ∧ Ints h z w ∧ Small c ∧ WDraw c w


set_option maxHeartbeats 8000000 in
theorem law_Weights (h : Heap) (x0 : H0) (l0 : List Int) (hx : Code0 h x0 l0) : HCalls false Tryz.prog 7 [.s x0] h (fun r _ => r = B true) := by
  refine calls_of_hSeg (m := 0) [(6, [0, 3, 5], jWt x0 l0)] kd_ok mixed Tryz.func7 rfl (by kernel_rfl) rfl rfl (of_decide_eq_true rfl) ?_; unfold hFunS; (conv => whnf)
  refine ⟨?_, ?_⟩
  · refine (laws_big _ _ _ hx).mono ?_
    rintro r h' ⟨rfl, hh⟩
    subst h'
    (conv => whnf)
    refine HIf.dec (fun _ => ?_) (fun hle => ?_)
    · (conv => whnf)
      rfl
    have hB := hx.bytes (by omega)
    clear hx
    (conv => whnf)
    refine (spec_DrawReflectWeight _ _ _ hB).mono ?_
    rintro r h1 ⟨x, c, z, w, n, rfl, Et, R, Iw, S, W, n1, n2⟩
    have sz := S.sz
    have hc5 := S.le
    obtain ⟨w6, wn⟩ := W.le S
    have htw := reflectWeight_twice (c := c) (i := n) (v := w) W.tame
    have hlr := reflectWeight_length c n w
    replace hB := hB.ext Et
    (conv => whnf)
    refine (impl_ReflectWeight _ _ _ n _ _ R Iw sz (by omega)).mono ?_
    rintro r h2 ⟨y2, rfl, F2⟩
    have I2 := F2.ints
    replace R := R.ext F2.1
    replace Iw := Iw.ext F2.1
    replace hB := hB.ext F2.1
    clear F2
    (conv => whnf)
    refine (spec_ReflectWeight _ _ _ n _ _ R Iw sz (by omega) (by omega)).mono ?_
    rintro r h3 ⟨y3, rfl, F3⟩
    have I3 := F3.ints
    replace I2 := I2.ext F3.1
    replace R := R.ext F3.1
    replace Iw := Iw.ext F3.1
    replace hB := hB.ext F3.1
    clear F3
    (conv => whnf)
    (repeat (first | (refine HIf.bneF rfl ?_; (conv => whnf)) | (refine HIf.yes ?_; (conv => whnf)) | (refine HIf.no ?_; (conv => whnf)) | (refine HIf.same ?_; (conv => whnf)) | (refine HIf.nsame ?_; (conv => whnf)) | (refine And.intro (show Kd.isBool _ = true from rfl) ?_; (conv => whnf))))
    refine (laws_sameInts _ _ _ _ _ I2 I3 (by omega)).mono ?_
    rintro r h4 ⟨rfl, hh⟩
    subst h4
    rw [decide_eq_true rfl]
    clear I3
    (conv => whnf)
    (repeat (first | (refine HIf.bneF rfl ?_; (conv => whnf)) | (refine HIf.yes ?_; (conv => whnf)) | (refine HIf.no ?_; (conv => whnf)) | (refine HIf.same ?_; (conv => whnf)) | (refine HIf.nsame ?_; (conv => whnf)) | (refine And.intro (show Kd.isBool _ = true from rfl) ?_; (conv => whnf))))
    refine (impl_ReflectWeight _ _ _ n _ _ R I2 sz (by omega)).mono ?_
    rintro r h4 ⟨y4, rfl, F4⟩
    rw [htw] at F4
    have I4 := F4.ints
    replace R := R.ext F4.1
    replace Iw := Iw.ext F4.1
    replace hB := hB.ext F4.1
    clear F4 I2
    (conv => whnf)
    (repeat (first | (refine HIf.bneF rfl ?_; (conv => whnf)) | (refine HIf.yes ?_; (conv => whnf)) | (refine HIf.no ?_; (conv => whnf)) | (refine HIf.same ?_; (conv => whnf)) | (refine HIf.nsame ?_; (conv => whnf)) | (refine And.intro (show Kd.isBool _ = true from rfl) ?_; (conv => whnf))))
    refine (laws_sameInts _ _ _ _ _ I4 Iw (by omega)).mono ?_
    rintro r h5 ⟨rfl, hh⟩
    subst h5
    rw [decide_eq_true rfl]
    clear I4
    (conv => whnf)
    (repeat (first | (refine HIf.bneF rfl ?_; (conv => whnf)) | (refine HIf.yes ?_; (conv => whnf)) | (refine HIf.no ?_; (conv => whnf)) | (refine HIf.same ?_; (conv => whnf)) | (refine HIf.nsame ?_; (conv => whnf)) | (refine And.intro (show Kd.isBool _ = true from rfl) ?_; (conv => whnf))))
    refine (impl_IsWeight _ _ _ _ _ R Iw (by omega) (by omega)).mono ?_
    rintro r h5 ⟨rfl, hh⟩
    subst h5
    (conv => whnf)
    (repeat (first | (refine HIf.bneF rfl ?_; (conv => whnf)) | (refine HIf.yes ?_; (conv => whnf)) | (refine HIf.no ?_; (conv => whnf)) | (refine HIf.same ?_; (conv => whnf)) | (refine HIf.nsame ?_; (conv => whnf)) | (refine And.intro (show Kd.isBool _ = true from rfl) ?_; (conv => whnf))))
    refine (spec_IsWeight _ _ _ _ _ R Iw (by omega) (by omega)).mono ?_
    rintro r h5 ⟨rfl, hh⟩
    subst h5
    generalize isWeight c w = b1 at *
    (conv => whnf)
    (repeat (first | (refine HIf.bneF rfl ?_; (conv => whnf)) | (refine HIf.yes ?_; (conv => whnf)) | (refine HIf.no ?_; (conv => whnf)) | (refine HIf.same ?_; (conv => whnf)) | (refine HIf.nsame ?_; (conv => whnf)) | (refine And.intro (show Kd.isBool _ = true from rfl) ?_; (conv => whnf))))
    refine (spec_IsCartan _ _ _ R (by omega)).mono ?_
    rintro r h5 ⟨rfl, hh⟩
    subst h5
    cases hic : isCartan c with
    | false =>
      (conv => whnf)
      (repeat (first | (refine HIf.bneF rfl ?_; (conv => whnf)) | (refine HIf.yes ?_; (conv => whnf)) | (refine HIf.no ?_; (conv => whnf)) | (refine HIf.same ?_; (conv => whnf)) | (refine HIf.nsame ?_; (conv => whnf)) | (refine And.intro (show Kd.isBool _ = true from rfl) ?_; (conv => whnf))))
      exact ⟨x, c, z, w, rfl, hB, R, Iw, S, W⟩
    | true =>
      have hC := (isCartan_iff c).1 hic
      have h4 := hC.le
      by_cases c1 : (w.length : Int) = (c.length : Int)
      rotate_left
      · (conv => whnf)
        (repeat (first | (refine HIf.bneF rfl ?_; (conv => whnf)) | (refine HIf.yes ?_; (conv => whnf)) | (refine HIf.no ?_; (conv => whnf)) | (refine HIf.same ?_; (conv => whnf)) | (refine HIf.nsame ?_; (conv => whnf)) | (refine And.intro (show Kd.isBool _ = true from rfl) ?_; (conv => whnf))))
        refine ⟨rfl, Iw.len ?_⟩
        (conv => whnf)
        (repeat (first | (refine HIf.bneF rfl ?_; (conv => whnf)) | (refine HIf.yes ?_; (conv => whnf)) | (refine HIf.no ?_; (conv => whnf)) | (refine HIf.same ?_; (conv => whnf)) | (refine HIf.nsame ?_; (conv => whnf)) | (refine And.intro (show Kd.isBool _ = true from rfl) ?_; (conv => whnf))))
        refine ⟨rfl, R.len ?_⟩
        (conv => whnf)
        (repeat (first | (refine HIf.beqF c1 ?_; (conv => whnf)) | (refine HIf.bneF rfl ?_; (conv => whnf)) | (refine HIf.yes ?_; (conv => whnf)) | (refine HIf.no ?_; (conv => whnf)) | (refine HIf.same ?_; (conv => whnf)) | (refine HIf.nsame ?_; (conv => whnf)) | (refine And.intro (show Kd.isBool _ = true from rfl) ?_; (conv => whnf))))
        exact ⟨x, c, z, w, rfl, hB, R, Iw, S, W⟩
      (conv => whnf)
      (repeat (first | (refine HIf.bneF rfl ?_; (conv => whnf)) | (refine HIf.yes ?_; (conv => whnf)) | (refine HIf.no ?_; (conv => whnf)) | (refine HIf.same ?_; (conv => whnf)) | (refine HIf.nsame ?_; (conv => whnf)) | (refine And.intro (show Kd.isBool _ = true from rfl) ?_; (conv => whnf))))
      refine ⟨rfl, Iw.len ?_⟩
      (conv => whnf)
      (repeat (first | (refine HIf.bneF rfl ?_; (conv => whnf)) | (refine HIf.yes ?_; (conv => whnf)) | (refine HIf.no ?_; (conv => whnf)) | (refine HIf.same ?_; (conv => whnf)) | (refine HIf.nsame ?_; (conv => whnf)) | (refine And.intro (show Kd.isBool _ = true from rfl) ?_; (conv => whnf))))
      refine ⟨rfl, R.len ?_⟩
      (conv => whnf)
      (repeat (first | (refine HIf.beqT c1 ?_; (conv => whnf)) | (refine HIf.bneF rfl ?_; (conv => whnf)) | (refine HIf.yes ?_; (conv => whnf)) | (refine HIf.no ?_; (conv => whnf)) | (refine HIf.same ?_; (conv => whnf)) | (refine HIf.nsame ?_; (conv => whnf)) | (refine And.intro (show Kd.isBool _ = true from rfl) ?_; (conv => whnf))))
      refine ⟨rfl, R.len ?_⟩
      (conv => whnf)
      (repeat (first | (refine HIf.beqT c1 ?_; (conv => whnf)) | (refine HIf.bneF rfl ?_; (conv => whnf)) | (refine HIf.yes ?_; (conv => whnf)) | (refine HIf.no ?_; (conv => whnf)) | (refine HIf.same ?_; (conv => whnf)) | (refine HIf.nsame ?_; (conv => whnf)) | (refine And.intro (show Kd.isBool _ = true from rfl) ?_; (conv => whnf))))
      refine HIf.dec (fun c2 => ?_) (fun c2 => ?_)
      rotate_left
      · (conv => whnf)
        exact ⟨x, c, z, w, rfl, hB, R, Iw, S, W⟩
      (conv => whnf)
      refine (laws_at _ _ _ 7 hB (by omega) (by omega)).mono ?_
      rintro r h5 ⟨a, rfl, a0, a1, hh⟩
      subst h5
      (conv => whnf)
      refine ⟨rfl, R.len ?_⟩
      (conv => whnf)
      have hj := tmod_pos (a := a) (b := (c.length : Int)) a0 (by omega)
      refine HRem.of (by omega) ?_
      generalize a.tmod (c.length : Int) = j at hj ⊢
      (conv => whnf)
      refine HArith.fits (by omega) (by omega) ?_
      (conv => whnf)
      refine (laws_at _ _ _ 8 hB (by omega) (by omega)).mono ?_
      rintro r h5 ⟨b, rfl, b0, b1', hh⟩
      subst h5
      (conv => whnf)
      refine ⟨rfl, R.len ?_⟩
      (conv => whnf)
      refine HArith.fits (by omega) (by omega) ?_
      (conv => whnf)
      have hk := tmod_pos (a := b) (b := (c.length : Int) - 1) b0 (by omega)
      refine HRem.of (by omega) ?_
      generalize b.tmod ((c.length : Int) - 1) = k0 at hk ⊢
      (conv => whnf)
      refine HArith.fits (by omega) (by omega) ?_
      (conv => whnf)
      refine ⟨rfl, R.len ?_⟩
      (conv => whnf)
      have hk2 := tmod_pos (a := j + 1 + k0) (b := (c.length : Int)) (by omega) (by omega)
      refine HRem.of (by omega) ?_
      generalize (j + 1 + k0).tmod (c.length : Int) = k at hk2 ⊢
      (conv => whnf)
      refine (spec_BondOf _ _ _ j k R (by omega)).mono ?_
      rintro r h5 ⟨rfl, hh⟩
      subst h5
      have hbr := fun h => braid_weights (c := c) (j := j) (k := k) (v := w) rfl h (by omega) W.tame
      have ha1 := alt_len j k (bond c j k)
      have ha2 := alt_len k j (bond c j k)
      have hl1 := actOnWeight_length c (alt j k (bond c j k)) w
      generalize bond c j k = m at *
      by_cases c3 : m > 0
      rotate_left
      · (conv => whnf)
        (repeat (first | (refine HIf.decF c3 ?_; (conv => whnf)) | (refine HIf.bneF rfl ?_; (conv => whnf)) | (refine HIf.yes ?_; (conv => whnf)) | (refine HIf.no ?_; (conv => whnf)) | (refine HIf.same ?_; (conv => whnf)) | (refine HIf.nsame ?_; (conv => whnf)) | (refine And.intro (show Kd.isBool _ = true from rfl) ?_; (conv => whnf))))
        exact ⟨x, c, z, w, rfl, hB, R, Iw, S, W⟩
      (conv => whnf)
      (repeat (first | (refine HIf.decT c3 ?_; (conv => whnf)) | (refine HIf.bneF rfl ?_; (conv => whnf)) | (refine HIf.yes ?_; (conv => whnf)) | (refine HIf.no ?_; (conv => whnf)) | (refine HIf.same ?_; (conv => whnf)) | (refine HIf.nsame ?_; (conv => whnf)) | (refine And.intro (show Kd.isBool _ = true from rfl) ?_; (conv => whnf))))
      refine (spec_AlternatingWord _ j k m).mono ?_
      rintro r h5 ⟨y5, rfl, F5⟩
      have I5 := F5.ints
      replace R := R.ext F5.1
      replace Iw := Iw.ext F5.1
      replace hB := hB.ext F5.1
      clear F5
      (conv => whnf)
      (repeat (first | (refine HIf.decT c3 ?_; (conv => whnf)) | (refine HIf.bneF rfl ?_; (conv => whnf)) | (refine HIf.yes ?_; (conv => whnf)) | (refine HIf.no ?_; (conv => whnf)) | (refine HIf.same ?_; (conv => whnf)) | (refine HIf.nsame ?_; (conv => whnf)) | (refine And.intro (show Kd.isBool _ = true from rfl) ?_; (conv => whnf))))
      refine (impl_ActOnWeight _ _ _ _ _ _ _ R I5 Iw sz (by omega) (by omega)).mono ?_
      rintro r h6 ⟨y6, rfl, F6⟩
      have I6 := F6.ints
      replace R := R.ext F6.1
      replace Iw := Iw.ext F6.1
      replace hB := hB.ext F6.1
      clear F6 I5
      (conv => whnf)
      (repeat (first | (refine HIf.decT c3 ?_; (conv => whnf)) | (refine HIf.bneF rfl ?_; (conv => whnf)) | (refine HIf.yes ?_; (conv => whnf)) | (refine HIf.no ?_; (conv => whnf)) | (refine HIf.same ?_; (conv => whnf)) | (refine HIf.nsame ?_; (conv => whnf)) | (refine And.intro (show Kd.isBool _ = true from rfl) ?_; (conv => whnf))))
      refine (spec_AlternatingWord _ k j m).mono ?_
      rintro r h7 ⟨y7, rfl, F7⟩
      have I7 := F7.ints
      replace I6 := I6.ext F7.1
      replace R := R.ext F7.1
      replace Iw := Iw.ext F7.1
      replace hB := hB.ext F7.1
      clear F7
      (conv => whnf)
      (repeat (first | (refine HIf.decT c3 ?_; (conv => whnf)) | (refine HIf.bneF rfl ?_; (conv => whnf)) | (refine HIf.yes ?_; (conv => whnf)) | (refine HIf.no ?_; (conv => whnf)) | (refine HIf.same ?_; (conv => whnf)) | (refine HIf.nsame ?_; (conv => whnf)) | (refine And.intro (show Kd.isBool _ = true from rfl) ?_; (conv => whnf))))
      refine (impl_ActOnWeight _ _ _ _ _ _ _ R I7 Iw sz (by omega) (by omega)).mono ?_
      rintro r h8 ⟨y8, rfl, F8⟩
      have I8 := F8.ints
      rw [← hbr c3] at I8
      replace I6 := I6.ext F8.1
      replace R := R.ext F8.1
      replace Iw := Iw.ext F8.1
      replace hB := hB.ext F8.1
      clear F8 I7
      (conv => whnf)
      (repeat (first | (refine HIf.decT c3 ?_; (conv => whnf)) | (refine HIf.bneF rfl ?_; (conv => whnf)) | (refine HIf.yes ?_; (conv => whnf)) | (refine HIf.no ?_; (conv => whnf)) | (refine HIf.same ?_; (conv => whnf)) | (refine HIf.nsame ?_; (conv => whnf)) | (refine And.intro (show Kd.isBool _ = true from rfl) ?_; (conv => whnf))))
      refine (laws_sameInts _ _ _ _ _ I6 I8 (by omega)).mono ?_
      rintro r h9 ⟨rfl, hh⟩
      subst h9
      rw [decide_eq_true rfl]
      (conv => whnf)
      (repeat (first | (refine HIf.decT c3 ?_; (conv => whnf)) | (refine HIf.bneF rfl ?_; (conv => whnf)) | (refine HIf.yes ?_; (conv => whnf)) | (refine HIf.no ?_; (conv => whnf)) | (refine HIf.same ?_; (conv => whnf)) | (refine HIf.nsame ?_; (conv => whnf)) | (refine And.intro (show Kd.isBool _ = true from rfl) ?_; (conv => whnf))))
      exact ⟨x, c, z, w, rfl, hB, R, Iw, S, W⟩
  rintro vs h' ⟨x, c, z, w, rfl, hB, R, Iw, S, W⟩
  have sz := S.sz
  obtain ⟨w6, wn⟩ := W.le S
  have hfl := fmtV_le W.i64
  (conv => whnf)
  refine (spec_DrawActOnWeight _ _ _ hB).mono ?_
  rintro r h1 ⟨xd, d, zu, u, zt, t, rfl, E1, Rd, Iu, It, Sd, lu, Wt⟩
  have szd := Sd.sz
  have hd5 := Sd.le
  obtain ⟨t6, tn⟩ := Wt.le Sd
  have hla := actOnWeight_length d u t
  replace hB := hB.ext E1
  replace R := R.ext E1
  replace Iw := Iw.ext E1
  (conv => whnf)
  refine (impl_FormatWeight _ _ w Iw W.i64 (by omega)).mono ?_
  rintro r h2 ⟨rfl, E2⟩
  replace hB := hB.ext E2
  replace R := R.ext E2
  replace Iw := Iw.ext E2
  replace Rd := Rd.ext E2
  replace Iu := Iu.ext E2
  replace It := It.ext E2
  (conv => whnf)
  refine (impl_ParseWeight _ _ c (fmtV w) R (by omega) (by omega)).mono ?_
  rintro r h3 ⟨y3, v3, ok3, rfl, F3, hr3⟩
  have I3 := F3.ints
  replace hB := hB.ext F3.1
  replace R := R.ext F3.1
  replace Iw := Iw.ext F3.1
  replace Rd := Rd.ext F3.1
  replace Iu := Iu.ext F3.1
  replace It := It.ext F3.1
  clear F3
  have hok3 : ok3 = isWeight c w := by rw [Bool.eq_iff_iff, hr3.1, isWText_iff wn]
  have hv3 : ok3 = true → v3 = w := fun e => by
    obtain ⟨g1, g2⟩ := hr3.2.1 e
    exact fmt_inj (weight_small g2).1 wn g1
  have hl3 : v3.length ≤ 6 := by
    cases ok3 with
    | true => rw [hv3 rfl]; exact w6
    | false => rw [hr3.2.2 rfl]; simp
  clear hr3
  (conv => whnf)
  refine (spec_DrawParseWeight _ _ _ hB).mono ?_
  rintro r h4 ⟨xe, e, s, rfl, E4, Re, Se, ls⟩
  have sze := Se.sz
  replace hB := hB.ext E4
  replace R := R.ext E4
  replace Iw := Iw.ext E4
  replace Rd := Rd.ext E4
  replace Iu := Iu.ext E4
  replace It := It.ext E4
  replace I3 := I3.ext E4
  (conv => whnf)
  refine (impl_ParseWeight _ _ e s Re (by omega) (by omega)).mono ?_
  rintro r h5 ⟨y5, v5, ok5, rfl, F5, hr5⟩
  replace hB := hB.ext F5.1
  replace R := R.ext F5.1
  replace Iw := Iw.ext F5.1
  replace Rd := Rd.ext F5.1
  replace Iu := Iu.ext F5.1
  replace It := It.ext F5.1
  replace I3 := I3.ext F5.1
  replace Re := Re.ext F5.1
  clear F5
  (conv => whnf)
  refine (spec_ParseWeight _ _ e s Re (by omega) (by omega)).mono ?_
  rintro r h6 ⟨y6, v6, ok6, rfl, F6, hr6⟩
  obtain rfl := hr5.same hr6
  replace hB := hB.ext F6.1
  replace R := R.ext F6.1
  replace Iw := Iw.ext F6.1
  replace Rd := Rd.ext F6.1
  replace Iu := Iu.ext F6.1
  replace It := It.ext F6.1
  replace I3 := I3.ext F6.1
  clear F6 Re hr5 hr6
  (conv => whnf)
  refine (spec_DrawAddWeights _ _ _ hB).mono ?_
  rintro r h7 ⟨za, a, zb, b, rfl, E7, Ia, Ib, la, lb⟩
  have hab := addW_len a b
  replace hB := hB.ext E7
  replace R := R.ext E7
  replace Iw := Iw.ext E7
  replace Rd := Rd.ext E7
  replace Iu := Iu.ext E7
  replace It := It.ext E7
  replace I3 := I3.ext E7
  (conv => whnf)
  refine (spec_DrawSimpleRootWeight _ _ _ hB).mono ?_
  rintro r h8 ⟨xf, f, n, rfl, E8, Rf, Sf⟩
  have szf := Sf.sz
  have hf5 := Sf.le
  have hrw := rootWeight_len f n
  have hrr := rhoOf_len d
  replace R := R.ext E8
  replace Iw := Iw.ext E8
  replace Rd := Rd.ext E8
  replace Iu := Iu.ext E8
  replace It := It.ext E8
  replace I3 := I3.ext E8
  replace Ia := Ia.ext E8
  replace Ib := Ib.ext E8
  clear hB
  (conv => whnf)
  refine (impl_ActOnWeight _ _ _ _ _ _ _ Rd Iu It szd (by omega) (by omega)).mono ?_
  rintro r h9 ⟨y9, rfl, F9⟩
  have I9 := F9.ints
  replace R := R.ext F9.1
  replace Iw := Iw.ext F9.1
  replace Rd := Rd.ext F9.1
  replace Rf := Rf.ext F9.1
  replace Iu := Iu.ext F9.1
  replace It := It.ext F9.1
  replace I3 := I3.ext F9.1
  replace Ia := Ia.ext F9.1
  replace Ib := Ib.ext F9.1
  clear F9
  (conv => whnf)
  refine (spec_ActOnWeight _ _ _ _ _ _ _ Rd Iu It szd (by omega) (by omega)).mono ?_
  rintro r h10 ⟨y10, rfl, F10⟩
  have I10 := F10.ints
  replace I9 := I9.ext F10.1
  replace R := R.ext F10.1
  replace Iw := Iw.ext F10.1
  replace Rd := Rd.ext F10.1
  replace Rf := Rf.ext F10.1
  replace I3 := I3.ext F10.1
  replace Ia := Ia.ext F10.1
  replace Ib := Ib.ext F10.1
  clear F10 Iu It
  (conv => whnf)
  refine (laws_sameInts _ _ _ _ _ I9 I10 (by omega)).mono ?_
  rintro r h11 ⟨rfl, hh⟩
  subst h11
  rw [decide_eq_true rfl]
  clear I9 I10
  (conv => whnf)
  (repeat (first | (refine HIf.bneF rfl ?_; (conv => whnf)) | (refine HIf.yes ?_; (conv => whnf)) | (refine HIf.no ?_; (conv => whnf)) | (refine HIf.same ?_; (conv => whnf)) | (refine HIf.nsame ?_; (conv => whnf)) | (refine And.intro (show Kd.isBool _ = true from rfl) ?_; (conv => whnf))))
  refine (spec_FormatWeight _ _ w Iw W.i64 (by omega)).mono ?_
  rintro r h12 ⟨rfl, E12⟩
  replace R := R.ext E12
  replace Iw := Iw.ext E12
  replace Rd := Rd.ext E12
  replace Rf := Rf.ext E12
  replace I3 := I3.ext E12
  replace Ia := Ia.ext E12
  replace Ib := Ib.ext E12
  generalize fmtV w = q at *
  have hqq : ((⟨q.toArray⟩ : ByteArray).toList == (⟨q.toArray⟩ : ByteArray).toList) = true := by simp
  (conv => whnf)
  (repeat (first | (refine HIf.bneF rfl ?_; (conv => whnf)) | (refine HIf.yes ?_; (conv => whnf)) | (refine HIf.no ?_; (conv => whnf)) | (refine HIf.same ?_; (conv => whnf)) | (refine HIf.nsame ?_; (conv => whnf)) | (refine And.intro (show Kd.isBool _ = true from rfl) ?_; (conv => whnf))))
  refine HStr.eql ?_
  rw [hqq]
  (conv => whnf)
  (repeat (first | (refine HIf.bneF rfl ?_; (conv => whnf)) | (refine HIf.yes ?_; (conv => whnf)) | (refine HIf.no ?_; (conv => whnf)) | (refine HIf.same ?_; (conv => whnf)) | (refine HIf.nsame ?_; (conv => whnf)) | (refine And.intro (show Kd.isBool _ = true from rfl) ?_; (conv => whnf))))
  refine (spec_IsWeight _ _ _ _ _ R Iw (by omega) (by omega)).mono ?_
  rintro r h13 ⟨rfl, hh⟩
  subst h13
  rw [← hok3]
  clear R hok3
  (conv => whnf)
  (repeat (first | (refine HIf.bneF rfl ?_; (conv => whnf)) | (refine HIf.yes ?_; (conv => whnf)) | (refine HIf.no ?_; (conv => whnf)) | (refine HIf.same ?_; (conv => whnf)) | (refine HIf.nsame ?_; (conv => whnf)) | (refine And.intro (show Kd.isBool _ = true from rfl) ?_; (conv => whnf))))
  cases ok3 with
  | false =>
    (conv => whnf)
    (repeat (first | (refine HIf.bneF rfl ?_; (conv => whnf)) | (refine HIf.yes ?_; (conv => whnf)) | (refine HIf.no ?_; (conv => whnf)) | (refine HIf.same ?_; (conv => whnf)) | (refine HIf.nsame ?_; (conv => whnf)) | (refine And.intro (show Kd.isBool _ = true from rfl) ?_; (conv => whnf))))
    refine (impl_AddWeights _ _ _ _ _ Ia Ib (by omega) (by omega)).mono ?_
    rintro r h14 ⟨y14, rfl, F14⟩
    have I14 := F14.ints
    replace Rd := Rd.ext F14.1
    replace Rf := Rf.ext F14.1
    replace Ia := Ia.ext F14.1
    replace Ib := Ib.ext F14.1
    clear F14
    (conv => whnf)
    (repeat (first | (refine HIf.bneF rfl ?_; (conv => whnf)) | (refine HIf.yes ?_; (conv => whnf)) | (refine HIf.no ?_; (conv => whnf)) | (refine HIf.same ?_; (conv => whnf)) | (refine HIf.nsame ?_; (conv => whnf)) | (refine And.intro (show Kd.isBool _ = true from rfl) ?_; (conv => whnf))))
    refine (spec_AddWeights _ _ _ _ _ Ia Ib (by omega) (by omega)).mono ?_
    rintro r h15 ⟨y15, rfl, F15⟩
    have I15 := F15.ints
    replace I14 := I14.ext F15.1
    replace Rd := Rd.ext F15.1
    replace Rf := Rf.ext F15.1
    clear F15 Ia Ib
    (conv => whnf)
    (repeat (first | (refine HIf.bneF rfl ?_; (conv => whnf)) | (refine HIf.yes ?_; (conv => whnf)) | (refine HIf.no ?_; (conv => whnf)) | (refine HIf.same ?_; (conv => whnf)) | (refine HIf.nsame ?_; (conv => whnf)) | (refine And.intro (show Kd.isBool _ = true from rfl) ?_; (conv => whnf))))
    refine (laws_sameInts _ _ _ _ _ I14 I15 (by omega)).mono ?_
    rintro r h16 ⟨rfl, hh⟩
    subst h16
    rw [decide_eq_true rfl]
    clear I14 I15
    (conv => whnf)
    (repeat (first | (refine HIf.bneF rfl ?_; (conv => whnf)) | (refine HIf.yes ?_; (conv => whnf)) | (refine HIf.no ?_; (conv => whnf)) | (refine HIf.same ?_; (conv => whnf)) | (refine HIf.nsame ?_; (conv => whnf)) | (refine And.intro (show Kd.isBool _ = true from rfl) ?_; (conv => whnf))))
    refine (impl_SimpleRootWeight _ _ _ n Rf szf).mono ?_
    rintro r h16 ⟨y16, rfl, F16⟩
    have I16 := F16.ints
    replace Rd := Rd.ext F16.1
    replace Rf := Rf.ext F16.1
    clear F16
    (conv => whnf)
    (repeat (first | (refine HIf.bneF rfl ?_; (conv => whnf)) | (refine HIf.yes ?_; (conv => whnf)) | (refine HIf.no ?_; (conv => whnf)) | (refine HIf.same ?_; (conv => whnf)) | (refine HIf.nsame ?_; (conv => whnf)) | (refine And.intro (show Kd.isBool _ = true from rfl) ?_; (conv => whnf))))
    refine (spec_SimpleRootWeight _ _ _ n Rf szf).mono ?_
    rintro r h17 ⟨y17, rfl, F17⟩
    have I17 := F17.ints
    replace I16 := I16.ext F17.1
    replace Rd := Rd.ext F17.1
    clear F17 Rf
    (conv => whnf)
    (repeat (first | (refine HIf.bneF rfl ?_; (conv => whnf)) | (refine HIf.yes ?_; (conv => whnf)) | (refine HIf.no ?_; (conv => whnf)) | (refine HIf.same ?_; (conv => whnf)) | (refine HIf.nsame ?_; (conv => whnf)) | (refine And.intro (show Kd.isBool _ = true from rfl) ?_; (conv => whnf))))
    refine (laws_sameInts _ _ _ _ _ I16 I17 (by omega)).mono ?_
    rintro r h18 ⟨rfl, hh⟩
    subst h18
    rw [decide_eq_true rfl]
    clear I16 I17
    (conv => whnf)
    (repeat (first | (refine HIf.bneF rfl ?_; (conv => whnf)) | (refine HIf.yes ?_; (conv => whnf)) | (refine HIf.no ?_; (conv => whnf)) | (refine HIf.same ?_; (conv => whnf)) | (refine HIf.nsame ?_; (conv => whnf)) | (refine And.intro (show Kd.isBool _ = true from rfl) ?_; (conv => whnf))))
    refine (impl_RhoOf _ _ _ Rd szd).mono ?_
    rintro r h18 ⟨y18, rfl, F18⟩
    have I18 := F18.ints
    replace Rd := Rd.ext F18.1
    clear F18
    (conv => whnf)
    (repeat (first | (refine HIf.bneF rfl ?_; (conv => whnf)) | (refine HIf.yes ?_; (conv => whnf)) | (refine HIf.no ?_; (conv => whnf)) | (refine HIf.same ?_; (conv => whnf)) | (refine HIf.nsame ?_; (conv => whnf)) | (refine And.intro (show Kd.isBool _ = true from rfl) ?_; (conv => whnf))))
    refine (spec_RhoOfA _ _ _ Rd szd).mono ?_
    rintro r h19 ⟨y19, rfl, F19⟩
    have I19 := F19.ints
    replace I18 := I18.ext F19.1
    clear F19 Rd
    (conv => whnf)
    (repeat (first | (refine HIf.bneF rfl ?_; (conv => whnf)) | (refine HIf.yes ?_; (conv => whnf)) | (refine HIf.no ?_; (conv => whnf)) | (refine HIf.same ?_; (conv => whnf)) | (refine HIf.nsame ?_; (conv => whnf)) | (refine And.intro (show Kd.isBool _ = true from rfl) ?_; (conv => whnf))))
    refine (laws_sameInts _ _ _ _ _ I18 I19 (by omega)).mono ?_
    rintro r h20 ⟨rfl, hh⟩
    subst h20
    rw [decide_eq_true rfl]
    (conv => whnf)
    (repeat (first | (refine HIf.bneF rfl ?_; (conv => whnf)) | (refine HIf.yes ?_; (conv => whnf)) | (refine HIf.no ?_; (conv => whnf)) | (refine HIf.same ?_; (conv => whnf)) | (refine HIf.nsame ?_; (conv => whnf)) | (refine And.intro (show Kd.isBool _ = true from rfl) ?_; (conv => whnf))))
    rfl
  | true =>
    rw [hv3 rfl] at I3
    (conv => whnf)
    (repeat (first | (refine HIf.bneF rfl ?_; (conv => whnf)) | (refine HIf.yes ?_; (conv => whnf)) | (refine HIf.no ?_; (conv => whnf)) | (refine HIf.same ?_; (conv => whnf)) | (refine HIf.nsame ?_; (conv => whnf)) | (refine And.intro (show Kd.isBool _ = true from rfl) ?_; (conv => whnf))))
    refine (laws_sameInts _ _ _ _ _ I3 Iw (by omega)).mono ?_
    rintro r h21 ⟨rfl, hh⟩
    subst h21
    rw [decide_eq_true rfl]
    (conv => whnf)
    (repeat (first | (refine HIf.bneF rfl ?_; (conv => whnf)) | (refine HIf.yes ?_; (conv => whnf)) | (refine HIf.no ?_; (conv => whnf)) | (refine HIf.same ?_; (conv => whnf)) | (refine HIf.nsame ?_; (conv => whnf)) | (refine And.intro (show Kd.isBool _ = true from rfl) ?_; (conv => whnf))))
    refine (impl_AddWeights _ _ _ _ _ Ia Ib (by omega) (by omega)).mono ?_
    rintro r h14 ⟨y14, rfl, F14⟩
    have I14 := F14.ints
    replace Rd := Rd.ext F14.1
    replace Rf := Rf.ext F14.1
    replace Ia := Ia.ext F14.1
    replace Ib := Ib.ext F14.1
    clear F14
    (conv => whnf)
    (repeat (first | (refine HIf.bneF rfl ?_; (conv => whnf)) | (refine HIf.yes ?_; (conv => whnf)) | (refine HIf.no ?_; (conv => whnf)) | (refine HIf.same ?_; (conv => whnf)) | (refine HIf.nsame ?_; (conv => whnf)) | (refine And.intro (show Kd.isBool _ = true from rfl) ?_; (conv => whnf))))
    refine (spec_AddWeights _ _ _ _ _ Ia Ib (by omega) (by omega)).mono ?_
    rintro r h15 ⟨y15, rfl, F15⟩
    have I15 := F15.ints
    replace I14 := I14.ext F15.1
    replace Rd := Rd.ext F15.1
    replace Rf := Rf.ext F15.1
    clear F15 Ia Ib
    (conv => whnf)
    (repeat (first | (refine HIf.bneF rfl ?_; (conv => whnf)) | (refine HIf.yes ?_; (conv => whnf)) | (refine HIf.no ?_; (conv => whnf)) | (refine HIf.same ?_; (conv => whnf)) | (refine HIf.nsame ?_; (conv => whnf)) | (refine And.intro (show Kd.isBool _ = true from rfl) ?_; (conv => whnf))))
    refine (laws_sameInts _ _ _ _ _ I14 I15 (by omega)).mono ?_
    rintro r h16 ⟨rfl, hh⟩
    subst h16
    rw [decide_eq_true rfl]
    clear I14 I15
    (conv => whnf)
    (repeat (first | (refine HIf.bneF rfl ?_; (conv => whnf)) | (refine HIf.yes ?_; (conv => whnf)) | (refine HIf.no ?_; (conv => whnf)) | (refine HIf.same ?_; (conv => whnf)) | (refine HIf.nsame ?_; (conv => whnf)) | (refine And.intro (show Kd.isBool _ = true from rfl) ?_; (conv => whnf))))
    refine (impl_SimpleRootWeight _ _ _ n Rf szf).mono ?_
    rintro r h16 ⟨y16, rfl, F16⟩
    have I16 := F16.ints
    replace Rd := Rd.ext F16.1
    replace Rf := Rf.ext F16.1
    clear F16
    (conv => whnf)
    (repeat (first | (refine HIf.bneF rfl ?_; (conv => whnf)) | (refine HIf.yes ?_; (conv => whnf)) | (refine HIf.no ?_; (conv => whnf)) | (refine HIf.same ?_; (conv => whnf)) | (refine HIf.nsame ?_; (conv => whnf)) | (refine And.intro (show Kd.isBool _ = true from rfl) ?_; (conv => whnf))))
    refine (spec_SimpleRootWeight _ _ _ n Rf szf).mono ?_
    rintro r h17 ⟨y17, rfl, F17⟩
    have I17 := F17.ints
    replace I16 := I16.ext F17.1
    replace Rd := Rd.ext F17.1
    clear F17 Rf
    (conv => whnf)
    (repeat (first | (refine HIf.bneF rfl ?_; (conv => whnf)) | (refine HIf.yes ?_; (conv => whnf)) | (refine HIf.no ?_; (conv => whnf)) | (refine HIf.same ?_; (conv => whnf)) | (refine HIf.nsame ?_; (conv => whnf)) | (refine And.intro (show Kd.isBool _ = true from rfl) ?_; (conv => whnf))))
    refine (laws_sameInts _ _ _ _ _ I16 I17 (by omega)).mono ?_
    rintro r h18 ⟨rfl, hh⟩
    subst h18
    rw [decide_eq_true rfl]
    clear I16 I17
    (conv => whnf)
    (repeat (first | (refine HIf.bneF rfl ?_; (conv => whnf)) | (refine HIf.yes ?_; (conv => whnf)) | (refine HIf.no ?_; (conv => whnf)) | (refine HIf.same ?_; (conv => whnf)) | (refine HIf.nsame ?_; (conv => whnf)) | (refine And.intro (show Kd.isBool _ = true from rfl) ?_; (conv => whnf))))
    refine (impl_RhoOf _ _ _ Rd szd).mono ?_
    rintro r h18 ⟨y18, rfl, F18⟩
    have I18 := F18.ints
    replace Rd := Rd.ext F18.1
    clear F18
    (conv => whnf)
    (repeat (first | (refine HIf.bneF rfl ?_; (conv => whnf)) | (refine HIf.yes ?_; (conv => whnf)) | (refine HIf.no ?_; (conv => whnf)) | (refine HIf.same ?_; (conv => whnf)) | (refine HIf.nsame ?_; (conv => whnf)) | (refine And.intro (show Kd.isBool _ = true from rfl) ?_; (conv => whnf))))
    refine (spec_RhoOfA _ _ _ Rd szd).mono ?_
    rintro r h19 ⟨y19, rfl, F19⟩
    have I19 := F19.ints
    replace I18 := I18.ext F19.1
    clear F19 Rd
    (conv => whnf)
    (repeat (first | (refine HIf.bneF rfl ?_; (conv => whnf)) | (refine HIf.yes ?_; (conv => whnf)) | (refine HIf.no ?_; (conv => whnf)) | (refine HIf.same ?_; (conv => whnf)) | (refine HIf.nsame ?_; (conv => whnf)) | (refine And.intro (show Kd.isBool _ = true from rfl) ?_; (conv => whnf))))
    refine (laws_sameInts _ _ _ _ _ I18 I19 (by omega)).mono ?_
    rintro r h20 ⟨rfl, hh⟩
    subst h20
    rw [decide_eq_true rfl]
    (conv => whnf)
    (repeat (first | (refine HIf.bneF rfl ?_; (conv => whnf)) | (refine HIf.yes ?_; (conv => whnf)) | (refine HIf.no ?_; (conv => whnf)) | (refine HIf.same ?_; (conv => whnf)) | (refine HIf.nsame ?_; (conv => whnf)) | (refine And.intro (show Kd.isBool _ = true from rfl) ?_; (conv => whnf))))
    rfl

end Go.Proofs.YtgliajcgcbnemaaGreatDoor.Hx
