/-
  The law FnElements walked: for every input it comes back true.
-/
import Derived.Test.YtkkniibnlniflaaZ25
namespace Go.Proofs.Ytkkniibnlniflaa.Hx
open Go.RowKit
variable {dm : Bool}

def jMul (x0 : H0) (l0 : List Int) : List HV → Heap → Prop := fun vs h => ∃ x c za a zb b y, vs = [.s x0, .s x, .s za, .s zb, B (mulOk c a b), .s y] ∧ Bytes h x0 l0 ∧ Rows h x c ∧ Ints h za a ∧ Ints h zb b ∧ Small c ∧ a.length ≤ 7 ∧ b.length ≤ 7 ∧ Ints h y (mul c a b)
def jArgs (x0 : H0) (l0 : List Int) : List HV → Heap → Prop := fun vs h => ∃ x c za a zb b, vs = [.s x0, .s x, .s za, .s zb] ∧ Bytes h x0 l0 ∧ Rows h x c ∧ Ints h za a ∧ Ints h zb b ∧ Small c ∧ a.length ≤ 7 ∧ b.length ≤ 7
def jEls : List HV → Heap → Prop := fun vs h => ∃ x c za a zb b p1 p2 P okp f1 f2 F okf i1 i2 V oki m M zt t o O zr r,
  vs = [.s x, .s za, .s zb, .s p1, B okp, .s p2, B okp, .s f1, B okf, .s f2, B okf, .s i1, B oki, .s i2, B oki, .s m, .s zt, .s o, .s zr] ∧
  (Rows h x c ∧ Ints h za a ∧ Ints h zb b ∧ Small c ∧ a.length ≤ 7 ∧ b.length ≤ 7) ∧ (Ints h p1 P ∧ Ints h p2 P ∧ P.length ≤ 31) ∧ (Ints h f1 F ∧ Ints h f2 F ∧ F.length ≤ 31) ∧ (Ints h i1 V ∧ Ints h i2 V ∧ V.length ≤ 31) ∧
  (Rows h m M ∧ Ints h zt t ∧ Small M ∧ t.length ≤ 7) ∧ (Rows h o O ∧ Ints h zr r ∧ Small O ∧ r.length ≤ 7)

theorem pow_len (c : List (List Int)) (w : List Int) (k : Int) : (pow c w k).length ≤ 31 := by
  unfold pow
  split
  · cases h : powTo c w k.toNat with
    | none => simp
    | some l =>
      show l.length ≤ 31
      cases hk : k.toNat with
      | zero =>
        rw [hk] at h
        cases h
        simp
      | succ j =>
        rw [hk, powTo] at h
        cases hp : powTo c w j with
        | none => rw [hp] at h; cases h
        | some y =>
          rw [hp] at h
          simp only at h
          by_cases hm : mulOk c y w = true
          · rw [if_pos hm] at h
            cases h
            exact mul_le _ _ _
          · rw [if_neg hm] at h
            cases h
  · simp
theorem mul_words {c : List (List Int)} {a b : List Int} (h : mulOk c a b = true) : isWord c a = true ∧ isWord c b = true := ⟨(mul_word h).1, (mul_word h).2.1⟩


set_option maxHeartbeats 8000000 in
theorem law_Elements (h : Heap) (x0 : H0) (l0 : List Int) (hx : Code0 h x0 l0) : HCalls dm Try.prog 7 [.s x0] h (fun r _ => r = B true) := by
  refine calls_of_hSeg (m := 0) [(6, [0, 3, 4, 5, 7, 8], jMul x0 l0), (1, [0, 3, 4, 5], jArgs x0 l0), (11, [3, 4, 5, 24, 25, 26, 27, 31, 32, 33, 34, 37, 38, 39, 40, 41, 42, 43, 44], jEls)] kd_ok mixed Try.func7 rfl (by kernel_rfl) rfl rfl (of_decide_eq_true rfl) ?_; unfold hFunS; (conv => whnf)
  refine ⟨?_, ?_⟩
  · refine (laws_big _ _ _ hx).mono ?_
    rintro r h' ⟨rfl, hh⟩
    subst h'
    (conv => whnf)
    refine HIf.dec (fun _ => ?_) (fun hle => ?_)
    · (conv => whnf)
      rfl
    have hB := hx.bytes (by omega)
    clear hx
    (conv => whnf)
    refine (spec_DrawMultiplyElements _ _ _ hB).mono ?_
    rintro r h1 ⟨x, c, za, a, zb, b, rfl, E1, R, Ia, Ib, S, la, lb⟩
    replace hB := hB.ext E1
    (conv => whnf)
    refine (impl_MultiplyElements _ _ _ _ _ _ _ R Ia Ib S.sz (by omega) (by omega)).mono ?_
    rintro r h2 ⟨y1, rfl, F2⟩
    have E2 := F2.1
    have I2 := F2.ints
    replace hB := hB.ext E2
    replace R := R.ext E2
    replace Ia := Ia.ext E2
    replace Ib := Ib.ext E2
    have hml := mul_le c a b
    have hel := @mul_element c a b
    have fin : ∀ (h3 : Heap) (y : H0), Ext h2 h3 → Ints h3 y (mul c a b) → jMul x0 l0 [.s x0, .s x, .s za, .s zb, B (mulOk c a b), .s y] h3 := fun h3 y E3 I3 => ⟨x, c, za, a, zb, b, y, rfl, hB.ext E3, R.ext E3, Ia.ext E3, Ib.ext E3, S, la, lb, I3⟩
    cases hok : mulOk c a b <;> rw [hok] at fin <;>
    · (conv => whnf)
      refine (spec_MultiplyElements _ _ _ _ _ _ _ R Ia Ib S.sz (by omega) (by omega)).mono ?_
      rintro r h3 ⟨y3, rfl, F3⟩
      have E3 := F3.1
      have I3 := F3.ints
      replace I2 := I2.ext E3
      rw [hok]
      (conv => whnf)
      (repeat (first | (refine HIf.bneF rfl ?_; (conv => whnf)) | (refine HIf.yes ?_; (conv => whnf)) | (refine HIf.no ?_; (conv => whnf)) | (refine HIf.same ?_; (conv => whnf)) | (refine HIf.nsame ?_; (conv => whnf)) | (refine And.intro (show Kd.isBool _ = true from rfl) ?_; (conv => whnf))))
      refine (laws_sameInts _ _ _ _ _ I2 I3 (by omega)).mono ?_
      rintro r h4 ⟨rfl, hh⟩
      subst h4
      rw [decide_eq_true rfl]
      (conv => whnf)
      (repeat (first | (refine HIf.bneF rfl ?_; (conv => whnf)) | (refine HIf.yes ?_; (conv => whnf)) | (refine HIf.no ?_; (conv => whnf)) | (refine HIf.same ?_; (conv => whnf)) | (refine HIf.nsame ?_; (conv => whnf)) | (refine And.intro (show Kd.isBool _ = true from rfl) ?_; (conv => whnf))))
      first
      | exact fin _ _ E3 I3
      | (refine (impl_IsElement _ _ _ _ _ (R.ext E3) I3 S.sz (by omega)).mono ?_
         rintro r h4 ⟨rfl, E4⟩
         rw [hel hok]
         (conv => whnf)
         (repeat (first | (refine HIf.bneF rfl ?_; (conv => whnf)) | (refine HIf.yes ?_; (conv => whnf)) | (refine HIf.no ?_; (conv => whnf)) | (refine HIf.same ?_; (conv => whnf)) | (refine HIf.nsame ?_; (conv => whnf)) | (refine And.intro (show Kd.isBool _ = true from rfl) ?_; (conv => whnf))))
         exact fin _ _ (E3.trans E4) (I3.ext E4))
  rintro vs h' ⟨x, c, za, a, zb, b, y, rfl, hB, R, Ia, Ib, S, la, lb, Iy⟩
  (conv => whnf)
  refine ⟨?_, ?_⟩
  · have hml := mul_le c a b
    have fin : ∀ (h3 : Heap), Ext h' h3 → jArgs x0 l0 [.s x0, .s x, .s za, .s zb] h3 := fun h3 E3 => ⟨x, c, za, a, zb, b, rfl, hB.ext E3, R.ext E3, Ia.ext E3, Ib.ext E3, S, la, lb⟩
    refine (spec_IsWord _ _ _ _ _ R Ia (by have := S.le; omega) (by omega)).mono ?_
    rintro r h1 ⟨rfl, hh⟩
    subst h1
    cases hwa : isWord c a with
    | false =>
      (conv => whnf)
      (repeat (first | (refine HIf.bneF rfl ?_; (conv => whnf)) | (refine HIf.yes ?_; (conv => whnf)) | (refine HIf.no ?_; (conv => whnf)) | (refine HIf.same ?_; (conv => whnf)) | (refine HIf.nsame ?_; (conv => whnf)) | (refine And.intro (show Kd.isBool _ = true from rfl) ?_; (conv => whnf))))
      exact fin _ (Ext.refl _)
    | true =>
      (conv => whnf)
      (repeat (first | (refine HIf.bneF rfl ?_; (conv => whnf)) | (refine HIf.yes ?_; (conv => whnf)) | (refine HIf.no ?_; (conv => whnf)) | (refine HIf.same ?_; (conv => whnf)) | (refine HIf.nsame ?_; (conv => whnf)) | (refine And.intro (show Kd.isBool _ = true from rfl) ?_; (conv => whnf))))
      refine (spec_IsWord _ _ _ _ _ R Ib (by have := S.le; omega) (by omega)).mono ?_
      rintro r h1 ⟨rfl, hh⟩
      subst h1
      cases hwb : isWord c b with
      | false =>
        (conv => whnf)
        (repeat (first | (refine HIf.bneF rfl ?_; (conv => whnf)) | (refine HIf.yes ?_; (conv => whnf)) | (refine HIf.no ?_; (conv => whnf)) | (refine HIf.same ?_; (conv => whnf)) | (refine HIf.nsame ?_; (conv => whnf)) | (refine And.intro (show Kd.isBool _ = true from rfl) ?_; (conv => whnf))))
        exact fin _ (Ext.refl _)
      | true =>
        obtain ⟨hi1, hi2, hi3⟩ := mul_inv hwa
        have hcs := @commute_same c a b
        have sz := S.sz
        (conv => whnf)
        (repeat (first | (refine HIf.bneF rfl ?_; (conv => whnf)) | (refine HIf.yes ?_; (conv => whnf)) | (refine HIf.no ?_; (conv => whnf)) | (refine HIf.same ?_; (conv => whnf)) | (refine HIf.nsame ?_; (conv => whnf)) | (refine And.intro (show Kd.isBool _ = true from rfl) ?_; (conv => whnf))))
        refine (laws_letters _ _ _ _ _ _ _ hB R S.pos S.sz.1 (by omega) (by omega) (by omega) (by omega)).mono ?_
        rintro r h1 ⟨zd, d, rfl, F1, ld, hd⟩
        have E1 := F1.1
        have Id := F1.ints
        replace fin : ∀ (h3 : Heap), Ext h1 h3 → jArgs x0 l0 [.s x0, .s x, .s za, .s zb] h3 := fun h3 E3 => fin h3 (E1.trans E3)
        replace R := R.ext E1
        replace Ia := Ia.ext E1
        replace Ib := Ib.ext E1
        replace Iy := Iy.ext E1
        (conv => whnf)
        refine (impl_MultiplyElements _ _ _ _ _ _ _ R Iy Id sz (by omega) (by omega)).mono ?_
        rintro r h2 ⟨y2, rfl, F2⟩
        have E2 := F2.1
        have I2 := F2.ints
        replace fin : ∀ (h3 : Heap), Ext h2 h3 → jArgs x0 l0 [.s x0, .s x, .s za, .s zb] h3 := fun h3 E3 => fin h3 (E2.trans E3)
        replace R := R.ext E2
        replace Ia := Ia.ext E2
        replace Ib := Ib.ext E2
        replace Iy := Iy.ext E2
        replace Id := Id.ext E2
        (conv => whnf)
        refine (impl_MultiplyElements _ _ _ _ _ _ _ R Ib Id sz (by omega) (by omega)).mono ?_
        rintro r h3 ⟨y3, rfl, F3⟩
        have E3 := F3.1
        have I3 := F3.ints
        have l3 := mul_le c b d
        replace fin : ∀ (h4 : Heap), Ext h3 h4 → jArgs x0 l0 [.s x0, .s x, .s za, .s zb] h4 := fun h4 E4 => fin h4 (E3.trans E4)
        replace R := R.ext E3
        replace Ia := Ia.ext E3
        replace Ib := Ib.ext E3
        replace Iy := Iy.ext E3
        replace I2 := I2.ext E3
        (conv => whnf)
        refine (impl_MultiplyElements _ _ _ _ _ _ _ R Ia I3 sz (by omega) (by omega)).mono ?_
        rintro r h4 ⟨y4, rfl, F4⟩
        have E4 := F4.1
        have I4 := F4.ints
        replace fin : ∀ (h5 : Heap), Ext h4 h5 → jArgs x0 l0 [.s x0, .s x, .s za, .s zb] h5 := fun h5 E5 => fin h5 (E4.trans E5)
        replace R := R.ext E4
        replace Ia := Ia.ext E4
        replace Ib := Ib.ext E4
        replace Iy := Iy.ext E4
        replace I2 := I2.ext E4
        (conv => whnf)
        refine (impl_InverseElement _ _ _ _ _ R Ia sz (by omega)).mono ?_
        rintro r h5 ⟨y5, rfl, F5⟩
        rw [hi1]
        have E5 := F5.1
        have I5 := F5.ints
        have l5 := normalForm_le c a.reverse
        replace fin : ∀ (h6 : Heap), Ext h5 h6 → jArgs x0 l0 [.s x0, .s x, .s za, .s zb] h6 := fun h6 E6 => fin h6 (E5.trans E6)
        replace R := R.ext E5
        replace Ia := Ia.ext E5
        replace Ib := Ib.ext E5
        replace Iy := Iy.ext E5
        replace I2 := I2.ext E5
        replace I4 := I4.ext E5
        (conv => whnf)
        refine (impl_MultiplyElements _ _ _ _ _ _ _ R Ia I5 sz (by omega) (by omega)).mono ?_
        rintro r h6 ⟨y6, rfl, F6⟩
        rw [hi2]
        have E6 := F6.1
        have I6 := F6.ints
        rw [hi3] at I6
        replace fin : ∀ (h7 : Heap), Ext h6 h7 → jArgs x0 l0 [.s x0, .s x, .s za, .s zb] h7 := fun h7 E7 => fin h7 (E6.trans E7)
        replace R := R.ext E6
        replace Ia := Ia.ext E6
        replace Ib := Ib.ext E6
        replace Iy := Iy.ext E6
        replace I2 := I2.ext E6
        replace I4 := I4.ext E6
        have hle : (a.length : Int) + (b.length : Int) ≤ 15 := by omega
        have l2 := mul_le c (mul c a b) d
        cases hok : mulOk c a b with
        | false =>
          (conv => whnf)
          (repeat (first | (refine HIf.bneF rfl ?_; (conv => whnf)) | (refine HIf.yes ?_; (conv => whnf)) | (refine HIf.no ?_; (conv => whnf)) | (refine HIf.same ?_; (conv => whnf)) | (refine HIf.nsame ?_; (conv => whnf)) | (refine And.intro (show Kd.isBool _ = true from rfl) ?_; (conv => whnf))))
          refine ⟨rfl, I6.len ?_⟩
          (conv => whnf)
          (repeat (first | (refine HIf.bneF rfl ?_; (conv => whnf)) | (refine HIf.yes ?_; (conv => whnf)) | (refine HIf.no ?_; (conv => whnf)) | (refine HIf.same ?_; (conv => whnf)) | (refine HIf.nsame ?_; (conv => whnf)) | (refine And.intro (show Kd.isBool _ = true from rfl) ?_; (conv => whnf))))
          exact fin _ (Ext.refl _)
        | true =>
          have has := mul_assoc (d := d) (by omega) (by omega) hok
          have hcm := hcs hok (by omega)
          cases ho1 : mulOk c (mul c a b) d with
          | false =>
            (conv => whnf)
            (repeat (first | (refine HIf.bneF rfl ?_; (conv => whnf)) | (refine HIf.yes ?_; (conv => whnf)) | (refine HIf.no ?_; (conv => whnf)) | (refine HIf.same ?_; (conv => whnf)) | (refine HIf.nsame ?_; (conv => whnf)) | (refine And.intro (show Kd.isBool _ = true from rfl) ?_; (conv => whnf))))
            refine ⟨rfl, I6.len ?_⟩
            (conv => whnf)
            (repeat (first | (refine HIf.bneF rfl ?_; (conv => whnf)) | (refine HIf.yes ?_; (conv => whnf)) | (refine HIf.no ?_; (conv => whnf)) | (refine HIf.same ?_; (conv => whnf)) | (refine HIf.nsame ?_; (conv => whnf)) | (refine And.intro (show Kd.isBool _ = true from rfl) ?_; (conv => whnf))))
            refine ⟨rfl, Ia.len ?_⟩
            (conv => whnf)
            (repeat (first | (refine HIf.bneF rfl ?_; (conv => whnf)) | (refine HIf.yes ?_; (conv => whnf)) | (refine HIf.no ?_; (conv => whnf)) | (refine HIf.same ?_; (conv => whnf)) | (refine HIf.nsame ?_; (conv => whnf)) | (refine And.intro (show Kd.isBool _ = true from rfl) ?_; (conv => whnf))))
            refine ⟨rfl, Ib.len ?_⟩
            (conv => whnf)
            (repeat (first | (refine HIf.bneF rfl ?_; (conv => whnf)) | (refine HIf.yes ?_; (conv => whnf)) | (refine HIf.no ?_; (conv => whnf)) | (refine HIf.same ?_; (conv => whnf)) | (refine HIf.nsame ?_; (conv => whnf)) | (refine And.intro (show Kd.isBool _ = true from rfl) ?_; (conv => whnf))))
            refine HArith.fits (by omega) (by omega) ?_
            (conv => whnf)
            (repeat (first | (refine HIf.bneF rfl ?_; (conv => whnf)) | (refine HIf.yes ?_; (conv => whnf)) | (refine HIf.no ?_; (conv => whnf)) | (refine HIf.same ?_; (conv => whnf)) | (refine HIf.nsame ?_; (conv => whnf)) | (refine And.intro (show Kd.isBool _ = true from rfl) ?_; (conv => whnf))))
            (repeat (refine HIf.decT hle ?_; (conv => whnf)))
            refine (impl_DoCommute _ _ _ _ _ _ _ R Ia Ib sz (by omega) (by omega)).mono ?_
            rintro r h7 ⟨rfl, E7⟩
            (conv => whnf)
            (repeat (refine HIf.decT hle ?_; (conv => whnf)))
            refine (spec_ConcatWords _ _ _ _ _ (Ib.ext E7) (Ia.ext E7) (by omega) (by omega)).mono ?_
            rintro r h8 ⟨y8, rfl, F8⟩
            have E8 := F8.1
            (conv => whnf)
            (repeat (refine HIf.decT hle ?_; (conv => whnf)))
            refine (impl_AreSame _ _ _ _ _ _ _ ((R.ext E7).ext E8) ((Iy.ext E7).ext E8) F8.ints sz (by omega) (by simp; omega)).mono ?_
            rintro r h9 ⟨rfl, E9⟩
            rw [← hcm]
            (conv => whnf)
            (repeat (first | (refine HIf.decT hle ?_; (conv => whnf)) | (refine HIf.bneF rfl ?_; (conv => whnf)) | (refine HIf.yes ?_; (conv => whnf)) | (refine HIf.no ?_; (conv => whnf)) | (refine HIf.same ?_; (conv => whnf)) | (refine HIf.nsame ?_; (conv => whnf)) | (refine And.intro (show Kd.isBool _ = true from rfl) ?_; (conv => whnf))))
            exact fin _ ((E7.trans E8).trans E9)
          | true =>
            cases ho2 : mulOk c b d with
            | false =>
              (conv => whnf)
              (repeat (first | (refine HIf.bneF rfl ?_; (conv => whnf)) | (refine HIf.yes ?_; (conv => whnf)) | (refine HIf.no ?_; (conv => whnf)) | (refine HIf.same ?_; (conv => whnf)) | (refine HIf.nsame ?_; (conv => whnf)) | (refine And.intro (show Kd.isBool _ = true from rfl) ?_; (conv => whnf))))
              refine ⟨rfl, I6.len ?_⟩
              (conv => whnf)
              (repeat (first | (refine HIf.bneF rfl ?_; (conv => whnf)) | (refine HIf.yes ?_; (conv => whnf)) | (refine HIf.no ?_; (conv => whnf)) | (refine HIf.same ?_; (conv => whnf)) | (refine HIf.nsame ?_; (conv => whnf)) | (refine And.intro (show Kd.isBool _ = true from rfl) ?_; (conv => whnf))))
              refine ⟨rfl, Ia.len ?_⟩
              (conv => whnf)
              (repeat (first | (refine HIf.bneF rfl ?_; (conv => whnf)) | (refine HIf.yes ?_; (conv => whnf)) | (refine HIf.no ?_; (conv => whnf)) | (refine HIf.same ?_; (conv => whnf)) | (refine HIf.nsame ?_; (conv => whnf)) | (refine And.intro (show Kd.isBool _ = true from rfl) ?_; (conv => whnf))))
              refine ⟨rfl, Ib.len ?_⟩
              (conv => whnf)
              (repeat (first | (refine HIf.bneF rfl ?_; (conv => whnf)) | (refine HIf.yes ?_; (conv => whnf)) | (refine HIf.no ?_; (conv => whnf)) | (refine HIf.same ?_; (conv => whnf)) | (refine HIf.nsame ?_; (conv => whnf)) | (refine And.intro (show Kd.isBool _ = true from rfl) ?_; (conv => whnf))))
              refine HArith.fits (by omega) (by omega) ?_
              (conv => whnf)
              (repeat (first | (refine HIf.bneF rfl ?_; (conv => whnf)) | (refine HIf.yes ?_; (conv => whnf)) | (refine HIf.no ?_; (conv => whnf)) | (refine HIf.same ?_; (conv => whnf)) | (refine HIf.nsame ?_; (conv => whnf)) | (refine And.intro (show Kd.isBool _ = true from rfl) ?_; (conv => whnf))))
              (repeat (refine HIf.decT hle ?_; (conv => whnf)))
              refine (impl_DoCommute _ _ _ _ _ _ _ R Ia Ib sz (by omega) (by omega)).mono ?_
              rintro r h7 ⟨rfl, E7⟩
              (conv => whnf)
              (repeat (refine HIf.decT hle ?_; (conv => whnf)))
              refine (spec_ConcatWords _ _ _ _ _ (Ib.ext E7) (Ia.ext E7) (by omega) (by omega)).mono ?_
              rintro r h8 ⟨y8, rfl, F8⟩
              have E8 := F8.1
              (conv => whnf)
              (repeat (refine HIf.decT hle ?_; (conv => whnf)))
              refine (impl_AreSame _ _ _ _ _ _ _ ((R.ext E7).ext E8) ((Iy.ext E7).ext E8) F8.ints sz (by omega) (by simp; omega)).mono ?_
              rintro r h9 ⟨rfl, E9⟩
              rw [← hcm]
              (conv => whnf)
              (repeat (first | (refine HIf.decT hle ?_; (conv => whnf)) | (refine HIf.bneF rfl ?_; (conv => whnf)) | (refine HIf.yes ?_; (conv => whnf)) | (refine HIf.no ?_; (conv => whnf)) | (refine HIf.same ?_; (conv => whnf)) | (refine HIf.nsame ?_; (conv => whnf)) | (refine And.intro (show Kd.isBool _ = true from rfl) ?_; (conv => whnf))))
              exact fin _ ((E7.trans E8).trans E9)
            | true =>
              cases ho3 : mulOk c a (mul c b d) with
              | false =>
                (conv => whnf)
                (repeat (first | (refine HIf.bneF rfl ?_; (conv => whnf)) | (refine HIf.yes ?_; (conv => whnf)) | (refine HIf.no ?_; (conv => whnf)) | (refine HIf.same ?_; (conv => whnf)) | (refine HIf.nsame ?_; (conv => whnf)) | (refine And.intro (show Kd.isBool _ = true from rfl) ?_; (conv => whnf))))
                refine ⟨rfl, I6.len ?_⟩
                (conv => whnf)
                (repeat (first | (refine HIf.bneF rfl ?_; (conv => whnf)) | (refine HIf.yes ?_; (conv => whnf)) | (refine HIf.no ?_; (conv => whnf)) | (refine HIf.same ?_; (conv => whnf)) | (refine HIf.nsame ?_; (conv => whnf)) | (refine And.intro (show Kd.isBool _ = true from rfl) ?_; (conv => whnf))))
                refine ⟨rfl, Ia.len ?_⟩
                (conv => whnf)
                (repeat (first | (refine HIf.bneF rfl ?_; (conv => whnf)) | (refine HIf.yes ?_; (conv => whnf)) | (refine HIf.no ?_; (conv => whnf)) | (refine HIf.same ?_; (conv => whnf)) | (refine HIf.nsame ?_; (conv => whnf)) | (refine And.intro (show Kd.isBool _ = true from rfl) ?_; (conv => whnf))))
                refine ⟨rfl, Ib.len ?_⟩
                (conv => whnf)
                (repeat (first | (refine HIf.bneF rfl ?_; (conv => whnf)) | (refine HIf.yes ?_; (conv => whnf)) | (refine HIf.no ?_; (conv => whnf)) | (refine HIf.same ?_; (conv => whnf)) | (refine HIf.nsame ?_; (conv => whnf)) | (refine And.intro (show Kd.isBool _ = true from rfl) ?_; (conv => whnf))))
                refine HArith.fits (by omega) (by omega) ?_
                (conv => whnf)
                (repeat (first | (refine HIf.bneF rfl ?_; (conv => whnf)) | (refine HIf.yes ?_; (conv => whnf)) | (refine HIf.no ?_; (conv => whnf)) | (refine HIf.same ?_; (conv => whnf)) | (refine HIf.nsame ?_; (conv => whnf)) | (refine And.intro (show Kd.isBool _ = true from rfl) ?_; (conv => whnf))))
                (repeat (refine HIf.decT hle ?_; (conv => whnf)))
                refine (impl_DoCommute _ _ _ _ _ _ _ R Ia Ib sz (by omega) (by omega)).mono ?_
                rintro r h7 ⟨rfl, E7⟩
                (conv => whnf)
                (repeat (refine HIf.decT hle ?_; (conv => whnf)))
                refine (spec_ConcatWords _ _ _ _ _ (Ib.ext E7) (Ia.ext E7) (by omega) (by omega)).mono ?_
                rintro r h8 ⟨y8, rfl, F8⟩
                have E8 := F8.1
                (conv => whnf)
                (repeat (refine HIf.decT hle ?_; (conv => whnf)))
                refine (impl_AreSame _ _ _ _ _ _ _ ((R.ext E7).ext E8) ((Iy.ext E7).ext E8) F8.ints sz (by omega) (by simp; omega)).mono ?_
                rintro r h9 ⟨rfl, E9⟩
                rw [← hcm]
                (conv => whnf)
                (repeat (first | (refine HIf.decT hle ?_; (conv => whnf)) | (refine HIf.bneF rfl ?_; (conv => whnf)) | (refine HIf.yes ?_; (conv => whnf)) | (refine HIf.no ?_; (conv => whnf)) | (refine HIf.same ?_; (conv => whnf)) | (refine HIf.nsame ?_; (conv => whnf)) | (refine And.intro (show Kd.isBool _ = true from rfl) ?_; (conv => whnf))))
                exact fin _ ((E7.trans E8).trans E9)
              | true =>
                have hm := has ho1 ho2 ho3
                rw [hm] at I2
                (conv => whnf)
                (repeat (first | (refine HIf.bneF rfl ?_; (conv => whnf)) | (refine HIf.yes ?_; (conv => whnf)) | (refine HIf.no ?_; (conv => whnf)) | (refine HIf.same ?_; (conv => whnf)) | (refine HIf.nsame ?_; (conv => whnf)) | (refine And.intro (show Kd.isBool _ = true from rfl) ?_; (conv => whnf))))
                refine (laws_sameInts _ _ _ _ _ I2 I4 (by rw [← hm]; omega)).mono ?_
                rintro r h7 ⟨rfl, hh⟩
                subst h7
                rw [decide_eq_true rfl]
                (conv => whnf)
                (repeat (first | (refine HIf.bneF rfl ?_; (conv => whnf)) | (refine HIf.yes ?_; (conv => whnf)) | (refine HIf.no ?_; (conv => whnf)) | (refine HIf.same ?_; (conv => whnf)) | (refine HIf.nsame ?_; (conv => whnf)) | (refine And.intro (show Kd.isBool _ = true from rfl) ?_; (conv => whnf))))
                refine ⟨rfl, I6.len ?_⟩
                (conv => whnf)
                (repeat (first | (refine HIf.bneF rfl ?_; (conv => whnf)) | (refine HIf.yes ?_; (conv => whnf)) | (refine HIf.no ?_; (conv => whnf)) | (refine HIf.same ?_; (conv => whnf)) | (refine HIf.nsame ?_; (conv => whnf)) | (refine And.intro (show Kd.isBool _ = true from rfl) ?_; (conv => whnf))))
                refine ⟨rfl, Ia.len ?_⟩
                (conv => whnf)
                (repeat (first | (refine HIf.bneF rfl ?_; (conv => whnf)) | (refine HIf.yes ?_; (conv => whnf)) | (refine HIf.no ?_; (conv => whnf)) | (refine HIf.same ?_; (conv => whnf)) | (refine HIf.nsame ?_; (conv => whnf)) | (refine And.intro (show Kd.isBool _ = true from rfl) ?_; (conv => whnf))))
                refine ⟨rfl, Ib.len ?_⟩
                (conv => whnf)
                (repeat (first | (refine HIf.bneF rfl ?_; (conv => whnf)) | (refine HIf.yes ?_; (conv => whnf)) | (refine HIf.no ?_; (conv => whnf)) | (refine HIf.same ?_; (conv => whnf)) | (refine HIf.nsame ?_; (conv => whnf)) | (refine And.intro (show Kd.isBool _ = true from rfl) ?_; (conv => whnf))))
                refine HArith.fits (by omega) (by omega) ?_
                (conv => whnf)
                (repeat (first | (refine HIf.bneF rfl ?_; (conv => whnf)) | (refine HIf.yes ?_; (conv => whnf)) | (refine HIf.no ?_; (conv => whnf)) | (refine HIf.same ?_; (conv => whnf)) | (refine HIf.nsame ?_; (conv => whnf)) | (refine And.intro (show Kd.isBool _ = true from rfl) ?_; (conv => whnf))))
                (repeat (refine HIf.decT hle ?_; (conv => whnf)))
                refine (impl_DoCommute _ _ _ _ _ _ _ R Ia Ib sz (by omega) (by omega)).mono ?_
                rintro r h7 ⟨rfl, E7⟩
                (conv => whnf)
                (repeat (refine HIf.decT hle ?_; (conv => whnf)))
                refine (spec_ConcatWords _ _ _ _ _ (Ib.ext E7) (Ia.ext E7) (by omega) (by omega)).mono ?_
                rintro r h8 ⟨y8, rfl, F8⟩
                have E8 := F8.1
                (conv => whnf)
                (repeat (refine HIf.decT hle ?_; (conv => whnf)))
                refine (impl_AreSame _ _ _ _ _ _ _ ((R.ext E7).ext E8) ((Iy.ext E7).ext E8) F8.ints sz (by omega) (by simp; omega)).mono ?_
                rintro r h9 ⟨rfl, E9⟩
                rw [← hcm]
                (conv => whnf)
                (repeat (first | (refine HIf.decT hle ?_; (conv => whnf)) | (refine HIf.bneF rfl ?_; (conv => whnf)) | (refine HIf.yes ?_; (conv => whnf)) | (refine HIf.no ?_; (conv => whnf)) | (refine HIf.same ?_; (conv => whnf)) | (refine HIf.nsame ?_; (conv => whnf)) | (refine And.intro (show Kd.isBool _ = true from rfl) ?_; (conv => whnf))))
                exact fin _ ((E7.trans E8).trans E9)
  rintro vs h' ⟨x, c, za, a, zb, b, rfl, hB, R, Ia, Ib, S, la, lb⟩
  (conv => whnf)
  refine ⟨?_, ?_⟩
  · have szc := S.sz
    refine (spec_DrawPowerElement _ _ _ hB).mono ?_
    rintro r h1 ⟨xd, d, zw, w, k, rfl, E1, Rd, Iw, Sd, lw, k0, k1⟩
    have Et := E1
    (conv => whnf)
    refine (impl_PowerElement _ _ _ _ _ k Rd Iw Sd.sz (by omega) (by omega)).mono ?_
    rintro r h2 ⟨p1, rfl, F2⟩
    have E2 := F2.1
    have P1 := F2.ints
    have lp : (pow d w k).length ≤ 31 := pow_len d w k
    replace Et := Et.trans E2
    (conv => whnf)
    refine (spec_PowerElement _ _ _ _ _ k (Rd.ext E2) (Iw.ext E2) Sd.sz (by omega) (by omega)).mono ?_
    rintro r h3 ⟨p2, rfl, F3⟩
    have E3 := F3.1
    have P2 := F3.ints
    replace P1 := P1.ext E3
    replace Et := Et.trans E3
    generalize powOk d w k = okp
    generalize pow d w k = P at lp P1 P2
    (conv => whnf)
    refine (spec_DrawConjugateElement _ _ _ (hB.ext Et)).mono ?_
    rintro r h4 ⟨xe, e, zu, u, zg, g, rfl, E4, Re, Iu, Ig, Se, lu, lg⟩
    replace P1 := P1.ext E4
    replace P2 := P2.ext E4
    replace Et := Et.trans E4
    (conv => whnf)
    refine (impl_ConjugateElement _ _ _ _ _ _ _ Re Iu Ig Se.sz (by omega) (by omega)).mono ?_
    rintro r h5 ⟨f1, rfl, F5⟩
    have E5 := F5.1
    have G1 := F5.ints
    have lf := conj_le e u g
    replace P1 := P1.ext E5
    replace P2 := P2.ext E5
    replace Et := Et.trans E5
    (conv => whnf)
    refine (spec_ConjugateElement _ _ _ _ _ _ _ (Re.ext E5) (Iu.ext E5) (Ig.ext E5) Se.sz (by omega) (by omega)).mono ?_
    rintro r h6 ⟨f2, rfl, F6⟩
    have E6 := F6.1
    have G2 := F6.ints
    replace G1 := G1.ext E6
    replace P1 := P1.ext E6
    replace P2 := P2.ext E6
    replace Et := Et.trans E6
    generalize conjOk e u g = okf
    generalize conj e u g = F at lf G1 G2
    (conv => whnf)
    refine (spec_DrawInverseElement _ _ _ (hB.ext Et)).mono ?_
    rintro r h7 ⟨xh, hh, zv, v, rfl, E7, Rh, Iv, Sh, lv⟩
    replace Rh := Rh.rows
    replace Iv := Iv.1
    replace G1 := G1.ext E7
    replace G2 := G2.ext E7
    replace P1 := P1.ext E7
    replace P2 := P2.ext E7
    replace Et := Et.trans E7
    (conv => whnf)
    refine (impl_InverseElement _ _ _ _ _ Rh Iv Sh.sz (by omega)).mono ?_
    rintro r h8 ⟨i1, rfl, F8⟩
    have E8 := F8.1
    have V1 := F8.ints
    have lV := normalForm_le hh v.reverse
    replace G1 := G1.ext E8
    replace G2 := G2.ext E8
    replace P1 := P1.ext E8
    replace P2 := P2.ext E8
    replace Et := Et.trans E8
    (conv => whnf)
    refine (spec_InverseElement _ _ _ _ _ (Rh.ext E8) (Iv.ext E8) Sh.sz (by omega)).mono ?_
    rintro r h9 ⟨i2, rfl, F9⟩
    have E9 := F9.1
    have V2 := F9.ints
    replace V1 := V1.ext E9
    replace G1 := G1.ext E9
    replace G2 := G2.ext E9
    replace P1 := P1.ext E9
    replace P2 := P2.ext E9
    replace Et := Et.trans E9
    generalize isWord hh v.reverse = oki
    generalize normalForm hh v.reverse = V at lV V1 V2
    (conv => whnf)
    refine (spec_DrawIsInvolution _ _ _ (hB.ext Et)).mono ?_
    rintro r h10 ⟨m, M, zt, t, rfl, E10, Rm, It, Sm, lt⟩
    replace Et := Et.trans E10
    (conv => whnf)
    refine (spec_DrawIsElement _ _ _ (hB.ext Et)).mono ?_
    rintro r h11 ⟨o, O, zr, q, rfl, E11, Ro, Iq, So, lq⟩
    replace Et := Et.trans E11
    have Ex := E10.trans E11
    (conv => whnf)
    exact ⟨x, c, za, a, zb, b, p1, p2, P, okp, f1, f2, F, okf, i1, i2, V, oki, m, M, zt, t, o, O, zr, q, rfl, ⟨R.ext Et, Ia.ext Et, Ib.ext Et, S, la, lb⟩, ⟨P1.ext Ex, P2.ext Ex, lp⟩, ⟨G1.ext Ex, G2.ext Ex, lf⟩, ⟨V1.ext Ex, V2.ext Ex, lV⟩, ⟨Rm.ext E11, It.ext E11, Sm, lt⟩, ⟨Ro, Iq, So, lq⟩⟩
  rintro vs h' ⟨x, c, za, a, zb, b, p1, p2, P, okp, f1, f2, F, okf, i1, i2, V, oki, m, M, zt, t, o, O, zr, q, rfl, ⟨R, Ia, Ib, S, la, lb⟩, ⟨P1, P2, lp⟩, ⟨G1, G2, lf⟩, ⟨V1, V2, lV⟩, ⟨Rm, It, Sm, lt⟩, ⟨Ro, Iq, So, lq⟩⟩
  have hord := @invol_order M t
  (conv => whnf)
  (repeat (first | (refine HIf.bneF rfl ?_; (conv => whnf)) | (refine HIf.yes ?_; (conv => whnf)) | (refine HIf.no ?_; (conv => whnf)) | (refine HIf.same ?_; (conv => whnf)) | (refine HIf.nsame ?_; (conv => whnf)) | (refine And.intro (show Kd.isBool _ = true from rfl) ?_; (conv => whnf))))
  refine (laws_sameInts _ _ _ _ _ P1 P2 (by omega)).mono ?_
  rintro r h1 ⟨rfl, hh⟩
  subst h1
  rw [decide_eq_true rfl]
  (conv => whnf)
  (repeat (first | (refine HIf.bneF rfl ?_; (conv => whnf)) | (refine HIf.yes ?_; (conv => whnf)) | (refine HIf.no ?_; (conv => whnf)) | (refine HIf.same ?_; (conv => whnf)) | (refine HIf.nsame ?_; (conv => whnf)) | (refine And.intro (show Kd.isBool _ = true from rfl) ?_; (conv => whnf))))
  refine (laws_sameInts _ _ _ _ _ G1 G2 (by omega)).mono ?_
  rintro r h1 ⟨rfl, hh⟩
  subst h1
  rw [decide_eq_true rfl]
  (conv => whnf)
  (repeat (first | (refine HIf.bneF rfl ?_; (conv => whnf)) | (refine HIf.yes ?_; (conv => whnf)) | (refine HIf.no ?_; (conv => whnf)) | (refine HIf.same ?_; (conv => whnf)) | (refine HIf.nsame ?_; (conv => whnf)) | (refine And.intro (show Kd.isBool _ = true from rfl) ?_; (conv => whnf))))
  refine (laws_sameInts _ _ _ _ _ V1 V2 (by omega)).mono ?_
  rintro r h1 ⟨rfl, hh⟩
  subst h1
  rw [decide_eq_true rfl]
  (conv => whnf)
  (repeat (first | (refine HIf.bneF rfl ?_; (conv => whnf)) | (refine HIf.yes ?_; (conv => whnf)) | (refine HIf.no ?_; (conv => whnf)) | (refine HIf.same ?_; (conv => whnf)) | (refine HIf.nsame ?_; (conv => whnf)) | (refine And.intro (show Kd.isBool _ = true from rfl) ?_; (conv => whnf))))
  refine (impl_IsInvolution _ _ _ _ _ Rm It Sm.sz (by omega)).mono ?_
  rintro r h1 ⟨rfl, E1⟩
  have Et := E1
  generalize hiv : isInvol M t = iv at hord
  (conv => whnf)
  (repeat (first | (refine HIf.bneF rfl ?_; (conv => whnf)) | (refine HIf.yes ?_; (conv => whnf)) | (refine HIf.no ?_; (conv => whnf)) | (refine HIf.same ?_; (conv => whnf)) | (refine HIf.nsame ?_; (conv => whnf)) | (refine And.intro (show Kd.isBool _ = true from rfl) ?_; (conv => whnf))))
  refine (spec_IsInvolution _ _ _ _ _ (Rm.ext Et) (It.ext Et) Sm.sz (by omega)).mono ?_
  rintro r h2 ⟨rfl, E2⟩
  rw [hiv]
  replace Et := Et.trans E2
  (conv => whnf)
  (repeat (first | (refine HIf.bneF rfl ?_; (conv => whnf)) | (refine HIf.yes ?_; (conv => whnf)) | (refine HIf.no ?_; (conv => whnf)) | (refine HIf.same ?_; (conv => whnf)) | (refine HIf.nsame ?_; (conv => whnf)) | (refine And.intro (show Kd.isBool _ = true from rfl) ?_; (conv => whnf))))
  refine (impl_IsElement _ _ _ _ _ (Ro.ext Et) (Iq.ext Et) So.sz (by omega)).mono ?_
  rintro r h3 ⟨rfl, E3⟩
  generalize hie : isElement O q = ie
  replace Et := Et.trans E3
  (conv => whnf)
  (repeat (first | (refine HIf.bneF rfl ?_; (conv => whnf)) | (refine HIf.yes ?_; (conv => whnf)) | (refine HIf.no ?_; (conv => whnf)) | (refine HIf.same ?_; (conv => whnf)) | (refine HIf.nsame ?_; (conv => whnf)) | (refine And.intro (show Kd.isBool _ = true from rfl) ?_; (conv => whnf))))
  refine (spec_IsElement _ _ _ _ _ (Ro.ext Et) (Iq.ext Et) So.sz (by omega)).mono ?_
  rintro r h4 ⟨rfl, E4⟩
  rw [hie]
  replace Et := Et.trans E4
  (conv => whnf)
  (repeat (first | (refine HIf.bneF rfl ?_; (conv => whnf)) | (refine HIf.yes ?_; (conv => whnf)) | (refine HIf.no ?_; (conv => whnf)) | (refine HIf.same ?_; (conv => whnf)) | (refine HIf.nsame ?_; (conv => whnf)) | (refine And.intro (show Kd.isBool _ = true from rfl) ?_; (conv => whnf))))
  refine (impl_DoCommute _ _ _ _ _ _ _ (R.ext Et) (Ia.ext Et) (Ib.ext Et) S.sz (by omega) (by omega)).mono ?_
  rintro r h5 ⟨rfl, E5⟩
  generalize hcm : commute c a b = cm
  replace Et := Et.trans E5
  (conv => whnf)
  (repeat (first | (refine HIf.bneF rfl ?_; (conv => whnf)) | (refine HIf.yes ?_; (conv => whnf)) | (refine HIf.no ?_; (conv => whnf)) | (refine HIf.same ?_; (conv => whnf)) | (refine HIf.nsame ?_; (conv => whnf)) | (refine And.intro (show Kd.isBool _ = true from rfl) ?_; (conv => whnf))))
  refine (spec_DoCommute _ _ _ _ _ _ _ (R.ext Et) (Ia.ext Et) (Ib.ext Et) S.sz (by omega) (by omega)).mono ?_
  rintro r h6 ⟨rfl, E6⟩
  rw [hcm]
  replace Et := Et.trans E6
  (conv => whnf)
  (repeat (first | (refine HIf.bneF rfl ?_; (conv => whnf)) | (refine HIf.yes ?_; (conv => whnf)) | (refine HIf.no ?_; (conv => whnf)) | (refine HIf.same ?_; (conv => whnf)) | (refine HIf.nsame ?_; (conv => whnf)) | (refine And.intro (show Kd.isBool _ = true from rfl) ?_; (conv => whnf))))
  refine (impl_IsInvolution _ _ _ _ _ (Rm.ext Et) (It.ext Et) Sm.sz (by omega)).mono ?_
  rintro r h7 ⟨rfl, E7⟩
  rw [hiv]
  replace Et := Et.trans E7
  cases iv with
  | false =>
    (conv => whnf)
    (repeat (first | (refine HIf.bneF rfl ?_; (conv => whnf)) | (refine HIf.yes ?_; (conv => whnf)) | (refine HIf.no ?_; (conv => whnf)) | (refine HIf.same ?_; (conv => whnf)) | (refine HIf.nsame ?_; (conv => whnf)) | (refine And.intro (show Kd.isBool _ = true from rfl) ?_; (conv => whnf))))
    rfl
  | true =>
    have ho := hord rfl
    (conv => whnf)
    (repeat (first | (refine HIf.bneF rfl ?_; (conv => whnf)) | (refine HIf.yes ?_; (conv => whnf)) | (refine HIf.no ?_; (conv => whnf)) | (refine HIf.same ?_; (conv => whnf)) | (refine HIf.nsame ?_; (conv => whnf)) | (refine And.intro (show Kd.isBool _ = true from rfl) ?_; (conv => whnf))))
    refine (impl_OrderOfElement _ _ _ _ _ (Rm.ext Et) (It.ext Et) Sm.sz (by omega)).mono ?_
    rintro r h8 ⟨rfl, E8⟩
    generalize hoo : orderOf M t = oo at ho
    replace Et := Et.trans E8
    rcases ho with rfl | rfl
    · (conv => whnf)
      (repeat (first | (refine HIf.bneF rfl ?_; (conv => whnf)) | (refine HIf.yes ?_; (conv => whnf)) | (refine HIf.no ?_; (conv => whnf)) | (refine HIf.same ?_; (conv => whnf)) | (refine HIf.nsame ?_; (conv => whnf)) | (refine And.intro (show Kd.isBool _ = true from rfl) ?_; (conv => whnf))))
      rfl
    · (conv => whnf)
      (repeat (first | (refine HIf.bneF rfl ?_; (conv => whnf)) | (refine HIf.yes ?_; (conv => whnf)) | (refine HIf.no ?_; (conv => whnf)) | (refine HIf.same ?_; (conv => whnf)) | (refine HIf.nsame ?_; (conv => whnf)) | (refine And.intro (show Kd.isBool _ = true from rfl) ?_; (conv => whnf))))
      refine (impl_OrderOfElement _ _ _ _ _ (Rm.ext Et) (It.ext Et) Sm.sz (by omega)).mono ?_
      rintro r h9 ⟨rfl, E9⟩
      rw [hoo]
      (conv => whnf)
      (repeat (first | (refine HIf.bneF rfl ?_; (conv => whnf)) | (refine HIf.yes ?_; (conv => whnf)) | (refine HIf.no ?_; (conv => whnf)) | (refine HIf.same ?_; (conv => whnf)) | (refine HIf.nsame ?_; (conv => whnf)) | (refine And.intro (show Kd.isBool _ = true from rfl) ?_; (conv => whnf))))
      rfl

end Go.Proofs.Ytkkniibnlniflaa.Hx
