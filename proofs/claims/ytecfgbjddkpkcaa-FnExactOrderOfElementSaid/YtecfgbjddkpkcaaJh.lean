
/-
  Contracts of orders of elements, of the program and of the reference.
-/
import Derived.Test.YtecfgbjddkpkcaaJg
namespace Go.Proofs.Ytecfgbjddkpkcaa.Hx
open Go.RowKit
variable {dm : Bool}

def ordF (c : List (List Int)) (w : List Int) : Nat → List Int → Nat → Int
  | 0, _, _ => 0
  | f + 1, p, k => if (normF c (p ++ w)).length = 0 then (k : Int) else if 15 < (normF c (p ++ w)).length then 0 else ordF c w f (normF c (p ++ w)) (k + 1)
def ordG (c : List (List Int)) (w : List Int) (f : Nat) (y : List Int) (k : Nat) : Int := if y.length = 0 then (k : Int) else if 15 < y.length then 0 else ordF c w f y (k + 1)
def orderOf (c : List (List Int)) (w : List Int) : Int := if isWord c w && (isFinite c || decide ((normF c w).length ≤ 7)) then ordF c w 60 [] 1 else 0

theorem ordF_none (c : List (List Int)) (w p : List Int) (k : Nat) : ordF c w 0 p k = 0 := rfl
theorem ordF_succ (c : List (List Int)) (w p : List Int) (f k : Nat) : ordF c w (f + 1) p k = ordG c w f (normF c (p ++ w)) k := rfl
theorem ordG_zero {c : List (List Int)} {w y : List Int} {f k : Nat} (h : y.length = 0) : ordG c w f y k = k := by
  unfold ordG
  rw [if_pos h]
theorem ordG_big {c : List (List Int)} {w y : List Int} {f k : Nat} (h : 15 < y.length) : ordG c w f y k = 0 := by
  unfold ordG
  rw [if_neg (by omega), if_pos h]
theorem ordG_next {c : List (List Int)} {w y : List Int} {f k : Nat} (h : y.length ≠ 0) (h2 : ¬ 15 < y.length) : ordG c w f y k = ordF c w f y (k + 1) := by
  unfold ordG
  rw [if_neg h, if_neg h2]
theorem orderOf_off {c : List (List Int)} {w : List Int} (h : isWord c w = false) : orderOf c w = 0 := by simp [orderOf, h]
theorem orderOf_inf {c : List (List Int)} {w : List Int} (h : isFinite c = false) (h2 : ¬ (normF c w).length ≤ 7) : orderOf c w = 0 := by
  have : decide ((normF c w).length ≤ 7) = false := decide_eq_false h2
  unfold orderOf
  rw [h, this, Bool.or_false, Bool.and_false]
  rfl
theorem orderOf_on {c : List (List Int)} {w : List Int} (h : isWord c w = true) (h2 : isFinite c = true ∨ (normF c w).length ≤ 7) : orderOf c w = ordF c w 60 [] 1 := by
  unfold orderOf
  rw [h, Bool.true_and, if_pos]
  rcases h2 with h2 | h2
  · rw [h2]; rfl
  · rw [decide_eq_true h2, Bool.or_true]


theorem impl_OrderOfElement (h : Heap) (x0 : H0) (a0 : List (List Int)) (x1 : H0) (a1 : List Int) (hx0 : Rows h x0 a0) (hx1 : Ints h x1 a1) (s0 : a0.length ≤ 1048576 ∧ tot a0 ≤ 1048576) (s1 : a1.length ≤ 1048576) :
    HCalls dm Try.prog 20 [.s x0, .s x1] h (fun r h' => r = I (orderOf a0 a1) ∧ Ext h h') := by
  obtain ⟨T, hT⟩ : ∃ T, T = orderOf a0 a1 := ⟨_, rfl⟩
  rw [← hT]
  refine calls_of_hFun (m := 0) kd_ok mixed Try.func20 rfl (by kernel_rfl) rfl rfl (of_decide_eq_true rfl) ?_; unfold hFun; (conv => whnf)
  refine (impl_IsWord _ _ _ a0 a1 hx0 hx1 (by omega) (by omega)).mono ?_
  rintro r h1 ⟨rfl, hh⟩
  subst h1
  (conv => whnf)
  cases hic : isWord a0 a1
  · rw [orderOf_off hic] at hT
    subst hT
    (repeat (first | (refine HIf.yes ?_; conv => whnf) | (refine HIf.no ?_; conv => whnf)))
    exact ⟨rfl, Ext.refl _⟩
  obtain ⟨hC, hl, hw⟩ := word_cartan hic
  refine HIf.no ?_
  (conv => whnf)
  refine HIf.no ?_
  (conv => whnf)
  refine (impl_IsFinite _ _ a0 hx0 (by omega)).mono ?_
  rintro r h2 ⟨rfl, E2⟩
  (conv => whnf)
  have bad : isFinite a0 = false → ¬ (normF a0 a1).length ≤ 7 → T = 0 := fun g1 g2 => by rw [hT, orderOf_inf g1 g2]
  have on : (isFinite a0 = true ∨ (normF a0 a1).length ≤ 7) → T = ordF a0 a1 60 [] 1 := fun g => by rw [hT, orderOf_on hic g]
  clear hT
  cases hfin : isFinite a0
  · have hno := bad hfin
    have hyes := fun g => on (Or.inr g)
    (repeat (first | (refine HIf.yes ?_; conv => whnf) | (refine HIf.no ?_; conv => whnf)))
    refine (impl_lengthOf _ _ a0 _ a1 (hx0.ext E2) (hx1.ext E2) hC hw (by omega)).mono ?_
    rintro r h3 ⟨rfl, E3⟩
    have E23 := E2.trans E3
    (conv => whnf)
    (repeat (first | (refine HIf.yes ?_; conv => whnf) | (refine HIf.no ?_; conv => whnf)))
    refine HIf.dec (fun h7 => ?_) (fun h7 => ?_)
    · have e := hno (by omega)
      subst e
      (conv => whnf)
      exact ⟨rfl, E23⟩
    have e := hyes (by omega)
    (conv => whnf)
    refine HLit.empty ?_
    (conv => whnf)
    refine HLoop.intro [6, 5] [23, 24, 27, 28, 29, 30, 31, 5, 32, 33, 34, 35, 4, 36, 37, 38, 4, 25, 26, 6] (by kernel_rfl) (by kernel_rfl) (fun vs h' => ∃ (k : Nat) (y : H0) (l : List Int), vs = [I k, .s y] ∧ 1 ≤ k ∧ k ≤ 61 ∧ Ext h h' ∧ Own h.length h'.length h' y l ∧ l.length ≤ 15 ∧ lettersOk a0 l = true ∧ ordF a0 a1 (61 - k) l k = T) (fun vs _ => 61 - natAt vs 0) ⟨1, _, [], rfl, by omega, by omega, E23.trans (Ext.push _ _), (OwnR.push h3 []).own E23.1, by simp, rfl, e.symm⟩ ?_
    rintro vs h' ⟨k, y, l, rfl, hk1, hk, E, O, hl15, hlw, ho⟩
    (conv => whnf)
    refine HIf.dec (fun hle => ?_) (fun hgt => ?_)
    · obtain ⟨f, hf⟩ : ∃ f, 61 - k = f + 1 := ⟨60 - k, by omega⟩
      rw [hf, ordF_succ] at ho
      have hla : lettersOk a0 (l ++ a1) = true := by rw [lettersOk_app, hlw, hw]; rfl
      have hlen : (l ++ a1).length ≤ 30 := by rw [List.length_append]; omega
      have hnl := normF_letters hC hla hlen
      (conv => whnf)
      refine (impl_ConcatWords _ _ l _ a1 O.ints (hx1.ext E) (by omega) s1).mono ?_
      rintro r h5 ⟨y5, rfl, E5, hy5⟩
      (conv => whnf)
      refine (impl_reduced _ _ a0 _ _ ((hx0.ext E).ext E5) hy5 hC hla hlen).mono ?_
      rintro r h6 ⟨y6, rfl, f6⟩
      have hz := Fresh.inner (E.trans E5) f6
      have hy6 := f6.ints
      generalize normF a0 (l ++ a1) = q at *
      (conv => whnf)
      refine ⟨rfl, hy6.len ?_⟩
      (conv => whnf)
      refine HIf.beq (fun h0 => ?_) (fun h0 => ?_)
      · rw [ordG_zero (by omega)] at ho
        subst ho
        (conv => whnf)
        exact ⟨rfl, hz.1⟩
      (conv => whnf)
      refine ⟨rfl, hy6.len ?_⟩
      (conv => whnf)
      refine HIf.dec (fun h15 => ?_) (fun h15 => ?_)
      · rw [ordG_big (by omega)] at ho
        subst ho
        (conv => whnf)
        exact ⟨rfl, hz.1⟩
      · rw [ordG_next (by omega) (by omega)] at ho
        (conv => whnf)
        refine HArith.fits (by omega) (by omega) ?_
        (conv => whnf)
        exact ⟨⟨k + 1, y6, q, rfl, by omega, by omega, hz.1, hz.2, by omega, hnl, by rw [← ho]; congr 1; omega⟩, by show 61 - (k + 1) < 61 - k; omega⟩
    · have ek : k = 61 := by omega
      subst ek
      rw [ordF_none] at ho
      subst ho
      (conv => whnf)
      exact ⟨rfl, E⟩
  · have e := on (Or.inl hfin)
    (repeat (first | (refine HIf.yes ?_; conv => whnf) | (refine HIf.no ?_; conv => whnf)))
    refine HLit.empty ?_
    (conv => whnf)
    refine HLoop.intro [6, 5] [23, 24, 27, 28, 29, 30, 31, 5, 32, 33, 34, 35, 4, 36, 37, 38, 4, 25, 26, 6] (by kernel_rfl) (by kernel_rfl) (fun vs h' => ∃ (k : Nat) (y : H0) (l : List Int), vs = [I k, .s y] ∧ 1 ≤ k ∧ k ≤ 61 ∧ Ext h h' ∧ Own h.length h'.length h' y l ∧ l.length ≤ 15 ∧ lettersOk a0 l = true ∧ ordF a0 a1 (61 - k) l k = T) (fun vs _ => 61 - natAt vs 0) ⟨1, _, [], rfl, by omega, by omega, E2.trans (Ext.push _ _), (OwnR.push h2 []).own E2.1, by simp, rfl, e.symm⟩ ?_
    rintro vs h' ⟨k, y, l, rfl, hk1, hk, E, O, hl15, hlw, ho⟩
    (conv => whnf)
    refine HIf.dec (fun hle => ?_) (fun hgt => ?_)
    · obtain ⟨f, hf⟩ : ∃ f, 61 - k = f + 1 := ⟨60 - k, by omega⟩
      rw [hf, ordF_succ] at ho
      have hla : lettersOk a0 (l ++ a1) = true := by rw [lettersOk_app, hlw, hw]; rfl
      have hlen : (l ++ a1).length ≤ 30 := by rw [List.length_append]; omega
      have hnl := normF_letters hC hla hlen
      (conv => whnf)
      refine (impl_ConcatWords _ _ l _ a1 O.ints (hx1.ext E) (by omega) s1).mono ?_
      rintro r h5 ⟨y5, rfl, E5, hy5⟩
      (conv => whnf)
      refine (impl_reduced _ _ a0 _ _ ((hx0.ext E).ext E5) hy5 hC hla hlen).mono ?_
      rintro r h6 ⟨y6, rfl, f6⟩
      have hz := Fresh.inner (E.trans E5) f6
      have hy6 := f6.ints
      generalize normF a0 (l ++ a1) = q at *
      (conv => whnf)
      refine ⟨rfl, hy6.len ?_⟩
      (conv => whnf)
      refine HIf.beq (fun h0 => ?_) (fun h0 => ?_)
      · rw [ordG_zero (by omega)] at ho
        subst ho
        (conv => whnf)
        exact ⟨rfl, hz.1⟩
      (conv => whnf)
      refine ⟨rfl, hy6.len ?_⟩
      (conv => whnf)
      refine HIf.dec (fun h15 => ?_) (fun h15 => ?_)
      · rw [ordG_big (by omega)] at ho
        subst ho
        (conv => whnf)
        exact ⟨rfl, hz.1⟩
      · rw [ordG_next (by omega) (by omega)] at ho
        (conv => whnf)
        refine HArith.fits (by omega) (by omega) ?_
        (conv => whnf)
        exact ⟨⟨k + 1, y6, q, rfl, by omega, by omega, hz.1, hz.2, by omega, hnl, by rw [← ho]; congr 1; omega⟩, by show 61 - (k + 1) < 61 - k; omega⟩
    · have ek : k = 61 := by omega
      subst ek
      rw [ordF_none] at ho
      subst ho
      (conv => whnf)
      exact ⟨rfl, E⟩

theorem spec_OrderOfElement (h : Heap) (x0 : H0) (a0 : List (List Int)) (x1 : H0) (a1 : List Int) (hx0 : Rows h x0 a0) (hx1 : Ints h x1 a1) (s0 : a0.length ≤ 1048576 ∧ tot a0 ≤ 1048576) (s1 : a1.length ≤ 1048576) :
    HCalls dm Try.prog 18 [.s x0, .s x1] h (fun r h' => r = I (orderOf a0 a1) ∧ Ext h h') := by
  obtain ⟨T, hT⟩ : ∃ T, T = orderOf a0 a1 := ⟨_, rfl⟩
  rw [← hT]
  refine calls_of_hFun (m := 0) kd_ok mixed Try.func18 rfl (by kernel_rfl) rfl rfl (of_decide_eq_true rfl) ?_; unfold hFun; (conv => whnf)
  refine (spec_NormalForm _ _ a0 _ a1 hx0 hx1 s0 s1).mono ?_
  rintro r h1 ⟨y1, rfl, f1⟩
  have E1 := f1.1
  (conv => whnf)
  cases hic : isWord a0 a1
  · rw [orderOf_off hic] at hT
    subst hT
    (repeat (first | (refine HIf.yes ?_; conv => whnf) | (refine HIf.no ?_; conv => whnf)))
    exact ⟨rfl, E1⟩
  obtain ⟨hC, hl, hw⟩ := word_cartan hic
  have bad : isFinite a0 = false → ¬ (normF a0 a1).length ≤ 7 → T = 0 := fun g1 g2 => by rw [hT, orderOf_inf g1 g2]
  have on : (isFinite a0 = true ∨ (normF a0 a1).length ≤ 7) → T = ordF a0 a1 60 [] 1 := fun g => by rw [hT, orderOf_on hic g]
  clear hT
  rw [normalForm_on hic] at f1
  have hnw := normF_word hic
  have hnl := normF_letters hC hw (by omega)
  have happ := fun y => normF_app (c := a0) (a := y) hC hw (by omega)
  have hfirst : ordF a0 a1 60 [] 1 = ordG a0 a1 59 (normF a0 a1) 1 := by rw [ordF_succ, List.nil_append]
  rw [hfirst] at on
  clear hfirst
  generalize hX : normF a0 a1 = X at *
  have hy1 := f1.ints
  (repeat (first | (refine HIf.yes ?_; conv => whnf) | (refine HIf.no ?_; conv => whnf) | (refine ⟨rfl, hy1.len ?_⟩; conv => whnf)))
  by_cases h7 : (X.length : Int) > 7
  · refine HIf.decT h7 ?_
    (conv => whnf)
    refine HIf.decT h7 ?_
    (conv => whnf)
    refine (spec_IsFinite _ _ a0 (hx0.ext E1) (by omega)).mono ?_
    rintro r h2 ⟨rfl, E2⟩
    (conv => whnf)
    refine HIf.decT h7 ?_
    (conv => whnf)
    refine HIf.no ?_
    (conv => whnf)
    refine HIf.decT h7 ?_
    (conv => whnf)
    refine HIf.no ?_
    (conv => whnf)
    cases hfin : isFinite a0
    · have e := bad hfin (by omega)
      subst e
      refine HIf.yes ?_
      (conv => whnf)
      exact ⟨rfl, E1.trans E2⟩
    have e := on (Or.inl hfin)
    refine HIf.no ?_
    (conv => whnf)
    refine HLit.empty ?_
    (conv => whnf)
    refine ⟨rfl, rfl, HApp.copy (hy1.ext E2) (by omega) (fun h5 y5 E5 O5 => ?_)⟩
    obtain ⟨q5, hq1, hq2, Oq5⟩ := O5.row
    have hE2 := E2.1
    (conv => whnf)
    refine HLoop.intro [8, 7] [30, 31, 34, 35, 36, 37, 4, 38, 39, 40, 41, 42, 7, 43, 44, 45, 4, 32, 33, 8] (by kernel_rfl) (by kernel_rfl) (fun vs h' => ∃ (k : Nat) (y : H0) (l : List Int), vs = [I k, .s y] ∧ 1 ≤ k ∧ k ≤ 61 ∧ Ext h1 h' ∧ Own h1.length h'.length h' y l ∧ l.length ≤ 15 ∧ lettersOk a0 l = true ∧ ((k ≤ 60 ∧ ordG a0 a1 (60 - k) l k = T) ∨ (k = 61 ∧ T = 0))) (fun vs _ => 61 - natAt vs 0) ⟨1, y5, X, rfl, by omega, by omega, E2.trans E5, Oq5.own (by omega), by omega, hnl, Or.inl ⟨by omega, e.symm⟩⟩ ?_
    rintro vs h' ⟨k, y, l, rfl, hk1, hk, E, O, hl15, hlw, ho⟩
    have Eh := E1.trans E
    (conv => whnf)
    refine HIf.dec (fun hle => ?_) (fun hgt => ?_)
    · have ho : ordG a0 a1 (60 - k) l k = T := by
        rcases ho with ⟨_, ho⟩ | ⟨hk61, _⟩
        · exact ho
        · omega
      have hOi := O.ints
      (conv => whnf)
      refine ⟨rfl, hOi.len ?_⟩
      (conv => whnf)
      refine HIf.beq (fun h0 => ?_) (fun h0 => ?_)
      · rw [ordG_zero (by omega)] at ho
        subst ho
        (conv => whnf)
        exact ⟨rfl, Eh⟩
      rw [ordG_next (by omega) (by omega)] at ho
      have hla : lettersOk a0 (l ++ X) = true := by rw [lettersOk_app, hlw, hnl]; rfl
      have hlen : (l ++ X).length ≤ 30 := by rw [List.length_append]; omega
      have hnq := normF_letters hC hla hlen
      have hap := happ l
      (conv => whnf)
      refine (spec_ConcatWords _ _ l _ X hOi (hy1.ext E) (by omega) (by omega)).mono ?_
      rintro r h6 ⟨y6, rfl, f6⟩
      (conv => whnf)
      refine (spec_l8Normal _ _ a0 _ _ ((hx0.ext Eh).ext f6.1) f6.ints hC hla hlen).mono ?_
      rintro r h7 ⟨y7, rfl, f7⟩
      have hz := Fresh.inner (E.trans f6.1) f7
      have hy7 := f7.ints
      rw [hap] at hz hy7 hnq
      clear hap
      have hT : (k = 60 ∧ T = 0) ∨ (k < 60 ∧ ordG a0 a1 (60 - (k + 1)) (normF a0 (l ++ a1)) (k + 1) = T) := by
        by_cases h60 : k = 60
        · subst h60
          exact Or.inl ⟨rfl, by rw [← ho, ordF_none]⟩
        · obtain ⟨f, hf⟩ : ∃ f, 60 - k = f + 1 := ⟨59 - k, by omega⟩
          rw [hf, ordF_succ] at ho
          exact Or.inr ⟨by omega, by rw [← ho]; congr 1; omega⟩
      generalize normF a0 (l ++ a1) = q at *
      (conv => whnf)
      refine ⟨rfl, hy7.len ?_⟩
      (conv => whnf)
      refine HIf.dec (fun h15 => ?_) (fun h15 => ?_)
      · have hT0 : T = 0 := by
          rcases hT with ⟨_, h⟩ | ⟨_, h⟩
          · exact h
          · rw [← h, ordG_big (by omega)]
        subst hT0
        (conv => whnf)
        exact ⟨rfl, E1.trans hz.1⟩
      · (conv => whnf)
        refine HArith.fits (by omega) (by omega) ?_
        (conv => whnf)
        refine ⟨⟨k + 1, y7, q, rfl, by omega, by omega, hz.1, hz.2, by omega, hnq, ?_⟩, by show 61 - (k + 1) < 61 - k; omega⟩
        rcases hT with ⟨h, h2⟩ | ⟨h, h2⟩
        · exact Or.inr ⟨by omega, h2⟩
        · exact Or.inl ⟨by omega, h2⟩
    · have hT0 : T = 0 := by
        rcases ho with ⟨h, _⟩ | ⟨_, h⟩
        · omega
        · exact h
      subst hT0
      (conv => whnf)
      exact ⟨rfl, Eh⟩
  · have e := on (Or.inr (by omega))
    have Er := Ext.refl h1
    refine HIf.decF h7 ?_
    (conv => whnf)
    refine HIf.decF h7 ?_
    (conv => whnf)
    refine HIf.decF h7 ?_
    (conv => whnf)
    refine HIf.no ?_
    (conv => whnf)
    refine HIf.decF h7 ?_
    (conv => whnf)
    refine HIf.no ?_
    (conv => whnf)
    refine HIf.no ?_
    (conv => whnf)
    refine HLit.empty ?_
    (conv => whnf)
    refine ⟨rfl, rfl, HApp.copy (hy1.ext Er) (by omega) (fun h5 y5 E5 O5 => ?_)⟩
    obtain ⟨q5, hq1, hq2, Oq5⟩ := O5.row
    have hEr := Er.1
    (conv => whnf)
    refine HLoop.intro [8, 7] [30, 31, 34, 35, 36, 37, 4, 38, 39, 40, 41, 42, 7, 43, 44, 45, 4, 32, 33, 8] (by kernel_rfl) (by kernel_rfl) (fun vs h' => ∃ (k : Nat) (y : H0) (l : List Int), vs = [I k, .s y] ∧ 1 ≤ k ∧ k ≤ 61 ∧ Ext h1 h' ∧ Own h1.length h'.length h' y l ∧ l.length ≤ 15 ∧ lettersOk a0 l = true ∧ ((k ≤ 60 ∧ ordG a0 a1 (60 - k) l k = T) ∨ (k = 61 ∧ T = 0))) (fun vs _ => 61 - natAt vs 0) ⟨1, y5, X, rfl, by omega, by omega, Er.trans E5, Oq5.own (by omega), by omega, hnl, Or.inl ⟨by omega, e.symm⟩⟩ ?_
    rintro vs h' ⟨k, y, l, rfl, hk1, hk, E, O, hl15, hlw, ho⟩
    have Eh := E1.trans E
    (conv => whnf)
    refine HIf.dec (fun hle => ?_) (fun hgt => ?_)
    · have ho : ordG a0 a1 (60 - k) l k = T := by
        rcases ho with ⟨_, ho⟩ | ⟨hk61, _⟩
        · exact ho
        · omega
      have hOi := O.ints
      (conv => whnf)
      refine ⟨rfl, hOi.len ?_⟩
      (conv => whnf)
      refine HIf.beq (fun h0 => ?_) (fun h0 => ?_)
      · rw [ordG_zero (by omega)] at ho
        subst ho
        (conv => whnf)
        exact ⟨rfl, Eh⟩
      rw [ordG_next (by omega) (by omega)] at ho
      have hla : lettersOk a0 (l ++ X) = true := by rw [lettersOk_app, hlw, hnl]; rfl
      have hlen : (l ++ X).length ≤ 30 := by rw [List.length_append]; omega
      have hnq := normF_letters hC hla hlen
      have hap := happ l
      (conv => whnf)
      refine (spec_ConcatWords _ _ l _ X hOi (hy1.ext E) (by omega) (by omega)).mono ?_
      rintro r h6 ⟨y6, rfl, f6⟩
      (conv => whnf)
      refine (spec_l8Normal _ _ a0 _ _ ((hx0.ext Eh).ext f6.1) f6.ints hC hla hlen).mono ?_
      rintro r h7 ⟨y7, rfl, f7⟩
      have hz := Fresh.inner (E.trans f6.1) f7
      have hy7 := f7.ints
      rw [hap] at hz hy7 hnq
      clear hap
      have hT : (k = 60 ∧ T = 0) ∨ (k < 60 ∧ ordG a0 a1 (60 - (k + 1)) (normF a0 (l ++ a1)) (k + 1) = T) := by
        by_cases h60 : k = 60
        · subst h60
          exact Or.inl ⟨rfl, by rw [← ho, ordF_none]⟩
        · obtain ⟨f, hf⟩ : ∃ f, 60 - k = f + 1 := ⟨59 - k, by omega⟩
          rw [hf, ordF_succ] at ho
          exact Or.inr ⟨by omega, by rw [← ho]; congr 1; omega⟩
      generalize normF a0 (l ++ a1) = q at *
      (conv => whnf)
      refine ⟨rfl, hy7.len ?_⟩
      (conv => whnf)
      refine HIf.dec (fun h15 => ?_) (fun h15 => ?_)
      · have hT0 : T = 0 := by
          rcases hT with ⟨_, h⟩ | ⟨_, h⟩
          · exact h
          · rw [← h, ordG_big (by omega)]
        subst hT0
        (conv => whnf)
        exact ⟨rfl, E1.trans hz.1⟩
      · (conv => whnf)
        refine HArith.fits (by omega) (by omega) ?_
        (conv => whnf)
        refine ⟨⟨k + 1, y7, q, rfl, by omega, by omega, hz.1, hz.2, by omega, hnq, ?_⟩, by show 61 - (k + 1) < 61 - k; omega⟩
        rcases hT with ⟨h, h2⟩ | ⟨h, h2⟩
        · exact Or.inr ⟨by omega, h2⟩
        · exact Or.inl ⟨by omega, h2⟩
    · have hT0 : T = 0 := by
        rcases ho with ⟨h, _⟩ | ⟨_, h⟩
        · omega
        · exact h
      subst hT0
      (conv => whnf)
      exact ⟨rfl, Eh⟩

end Go.Proofs.Ytecfgbjddkpkcaa.Hx
