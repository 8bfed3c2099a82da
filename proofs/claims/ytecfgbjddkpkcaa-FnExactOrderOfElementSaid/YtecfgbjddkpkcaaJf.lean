
/-
  Contracts of determinants and finite types, of the reference; of finite types, of the program.
-/
import Derived.Test.YtecfgbjddkpkcaaJe
namespace Go.Proofs.Ytecfgbjddkpkcaa.Hx
open Go.RowKit
variable {dm : Bool}

theorem term_odd {n j : Nat} {m : List (List Int)} (h : sg j = -1) : term n m j = 0 - ent m 0 j * detZ n (minTo m j n) := by
  unfold term
  rw [h]
  omega
theorem term_even {n j : Nat} {m : List (List Int)} (h : ¬ sg j = -1) : term n m j = ent m 0 j * detZ n (minTo m j n) := by
  have h1 : sg j = 1 := by have := sg_cases j; omega
  unfold term
  rw [h1]
  omega


theorem spec_l4Without (n : Nat) (hn : n < 4) (h : Heap) (x : H0) (m : List (List Int)) (j : Nat) (hx : Rows h x m) (S : Sq (n + 1) m) (hj : j < n + 1) :
    HCalls dm Try.prog 82 [.s x, I j] h (fun r h' => ∃ y, r = .s y ∧ Ext h h' ∧ OwnM h.length h'.length h' y (minTo m j n)) := by
  have hl := S.len
  refine calls_of_hFun (m := 0) kd_ok mixed Try.func82 rfl (by kernel_rfl) rfl rfl (of_decide_eq_true rfl) ?_; unfold hFun; (conv => whnf)
  refine HLit.empty ?_
  (conv => whnf)
  refine HLoop.intro [6, 5] [10, 11, 12, 13, 16, 7, 8, 17, 18, 19, 20, 23, 24, 25, 26, 27, 28, 29, 30, 31, 32, 33, 34, 35, 7, 21, 22, 8, 36, 37, 38, 39, 5, 14, 15, 6] (by kernel_rfl) (by kernel_rfl) (fun vs h' => ∃ (k : Nat) (z : H0), vs = [I ((k + 1 : Nat) : Int), .s z] ∧ k ≤ n ∧ Ext h h' ∧ OwnM h.length h'.length h' z (minTo m j k)) (fun vs _ => n + 1 - natAt vs 0) ⟨0, _, rfl, by omega, Ext.push _ _, OwnM.none h⟩ ?_
  rintro vs h' ⟨k, z, rfl, hk, E, OM⟩
  have hml := minTo_len m j k
  have hx1 := hx.ext E
  (conv => whnf)
  refine ⟨rfl, hx1.len ?_⟩
  (conv => whnf)
  refine HIf.dec (fun hlt => ?_) (fun hge => ?_)
  · have hrk := S.row (k + 1) (by omega)
    have Ep := Ext.push h' [Row.own []]
    (conv => whnf)
    refine HLit.empty ?_
    (conv => whnf)
    refine HLoop.intro [8, 7] [17, 18, 19, 20, 23, 24, 25, 26, 27, 28, 29, 30, 31, 32, 33, 34, 35, 7, 21, 22, 8] (by kernel_rfl) (by kernel_rfl) (fun vs h2 => ∃ (b : Nat) (y : H0) (r : Nat), vs = [I b, .s y] ∧ b ≤ n + 1 ∧ Ext h' h2 ∧ h'.length ≤ r ∧ OwnR r h2 y (del ((m.getD (k + 1) []).take b) (j : Nat))) (fun vs _ => n + 1 - natAt vs 0) ⟨0, _, h'.length, rfl, by omega, Ep, Nat.le_refl _, by rw [List.take_zero, del_none]; exact OwnR.push h' []⟩ ?_
    rintro vs h2 ⟨b, y, r, rfl, hb, E2, hr, O⟩
    have hx2 := hx1.ext E2
    have hE2 := E2.1
    have hdl := del_len ((m.getD (k + 1) []).take b) (j : Nat)
    rw [List.length_take] at hdl
    have htl : ((m.getD (k + 1) []).take b).length = b := by rw [List.length_take]; omega
    (conv => whnf)
    refine ⟨rfl, hx2.len ?_⟩
    (conv => whnf)
    refine HIf.dec (fun hltb => ?_) (fun hgeb => ?_)
    · have ht := del_takeM m (k + 1) b (by omega)
      (conv => whnf)
      refine HIf.bne (fun hne => ?_) (fun heq => ?_)
      · have hd := del_ne ((m.getD (k + 1) []).take b) (ent m (k + 1) b) (j : Nat) (by rw [htl]; exact hne)
        rw [← ht] at hd
        (conv => whnf)
        refine ⟨rfl, Rows.idxN hx2 (by omega) (fun p3 y3 hp3 hy3 => ?_)⟩
        (conv => whnf)
        refine ⟨rfl, hp3.load ?_⟩
        (conv => whnf)
        refine ⟨rfl, Ints.idxN hy3 (by omega) (fun p4 hp4 => ?_)⟩
        (conv => whnf)
        refine ⟨rfl, hp4.load ?_⟩
        rw [ent_eq]
        (conv => whnf)
        refine HLit.one ?_
        (conv => whnf)
        refine ⟨rfl, rfl, HApp.snocR O (by omega) (fun h3 r3 y5 B3 hr3 O3 => ?_)⟩
        rw [← hd] at O3
        (conv => whnf)
        refine HArith.fits (by omega) (by omega) ?_
        (conv => whnf)
        exact ⟨⟨b + 1, y5, r3, rfl, by omega, E2.but B3 hr, by omega, O3⟩, by show n + 1 - (b + 1) < n + 1 - b; omega⟩
      · have hd := del_eq ((m.getD (k + 1) []).take b) (ent m (k + 1) b)
        rw [← ht, htl, heq] at hd
        rw [← hd] at O
        (conv => whnf)
        refine HArith.fits (by omega) (by omega) ?_
        (conv => whnf)
        exact ⟨⟨b + 1, y, r, rfl, by omega, E2, hr, O⟩, by show n + 1 - (b + 1) < n + 1 - b; omega⟩
    · have e : b = (m.getD (k + 1) []).length := by omega
      rw [e, List.take_length] at O
      have F := O.own hr
      (conv => whnf)
      refine HLit.row F.one ?_
      (conv => whnf)
      refine ⟨rfl, rfl, HApp.snocM E OM E2 F (by omega) (fun h5 y5 E5 O5 => ?_)⟩
      rw [← minTo_succ] at O5
      (conv => whnf)
      refine HArith.to (e' := ((k + 1 + 1 : Nat) : Int)) (by omega) (by omega) (by omega) ?_
      (conv => whnf)
      exact ⟨⟨k + 1, y5, rfl, by omega, E5, O5⟩, by show n + 1 - (k + 1 + 1) < n + 1 - (k + 1); omega⟩
  · have e : k = n := by omega
    subst e
    (conv => whnf)
    exact ⟨_, rfl, E, OM⟩

theorem spec_l4Det : ∀ (n : Nat), n ≤ 4 → ∀ (h : Heap) (x : H0) (m : List (List Int)), Rows h x m → Sq n m → HCalls dm Try.prog 70 [.s x] h (fun r h' => r = I (detZ n m) ∧ Ext h h') := by
  intro n
  induction n with
  | zero =>
    intro _ h x m hx S
    have hl := S.len
    refine calls_of_hFun (m := 0) kd_ok mixed Try.func70 rfl (by kernel_rfl) rfl rfl (of_decide_eq_true rfl) ?_; unfold hFun; (conv => whnf)
    refine ⟨rfl, hx.len ?_⟩
    (conv => whnf)
    refine HIf.beqT (by omega) ?_
    (conv => whnf)
    exact ⟨rfl, Ext.refl _⟩
  | succ n ih =>
    intro hn h x m hx S
    have hl := S.len
    have hr0 := S.row 0 (by omega)
    rw [detZ_succ]
    refine calls_of_hFun (m := 0) kd_ok mixed Try.func70 rfl (by kernel_rfl) rfl rfl (of_decide_eq_true rfl) ?_; unfold hFun; (conv => whnf)
    refine ⟨rfl, hx.len ?_⟩
    (conv => whnf)
    refine HIf.beqF (by omega) ?_
    (conv => whnf)
    refine HLoop.intro [4, 3] [9, 10, 11, 12, 15, 16, 17, 18, 19, 20, 21, 22, 23, 24, 25, 5, 26, 27, 28, 29, 30, 5, 31, 32, 33, 3, 13, 14, 4] (by kernel_rfl) (by kernel_rfl) (fun vs h' => ∃ j : Nat, vs = [I j, I (sumTo (term n m) j)] ∧ j ≤ n + 1 ∧ Ext h h') (fun vs _ => n + 1 - natAt vs 0) ⟨0, rfl, by omega, Ext.refl _⟩ ?_
    rintro vs h' ⟨j, rfl, hj, E⟩
    have hsum := sum_small (by omega) S hj
    have hx1 := hx.ext E
    (conv => whnf)
    refine ⟨rfl, hx1.len ?_⟩
    (conv => whnf)
    refine HIf.dec (fun hlt => ?_) (fun hge => ?_)
    · have hts := term_small (by omega) S (j := j) (by omega)
      have hsum2 := sum_small (by omega) S (k := j + 1) (by omega)
      have hss := sumTo_succ (term n m) j
      (conv => whnf)
      refine Or.inr (Or.inr (Or.inl (Exists.intro 12 (Exists.intro [0, 1, 2, 3, 4, 5, 6, 7] (Exists.intro [8, 9, 10, 11] (And.intro (show heldOk _ _ _ _ = true by kernel_rfl) ?_)))))); (conv => whnf)
      refine ⟨rfl, Rows.idxN (n := 0) hx1 (by omega) (fun p y hp hy => ?_)⟩
      (conv => whnf)
      refine ⟨rfl, hp.load ?_⟩
      (conv => whnf)
      refine ⟨rfl, Ints.idxN hy (by omega) (fun p2 hp2 => ?_)⟩
      (conv => whnf)
      refine ⟨rfl, hp2.load ?_⟩
      rw [ent_eq]
      (conv => whnf)
      refine HCallF.mat (spec_l4Without n (by omega) _ _ m j hx1.frz S (by omega)) (fun h2 y2 E2 O2 => ?_)
      (conv => whnf)
      refine HCallF.val (ih (by omega) _ _ _ O2.rows.frz (min_sq S (by omega))) (fun h3 E3 => ?_)
      have Eb := (E.trans E2).trans E3
      (conv => whnf)
      refine HArith.fits (by omega) (by omega) ?_
      (conv => whnf)
      refine HRem.of (by decide) ?_
      (conv => whnf)
      rw [sgInt]
      refine HIf.dec (fun hodd => ?_) (fun heven => ?_)
      · have et := term_odd (n := n) (m := m) hodd
        (conv => whnf)
        refine HArith.to (e' := term n m j) et.symm (by omega) (by omega) ?_
        (conv => whnf)
        refine HArith.to (e' := sumTo (term n m) (j + 1)) hss.symm (by omega) (by omega) ?_
        (conv => whnf)
        refine HArith.fits (by omega) (by omega) ?_
        (conv => whnf)
        exact ⟨⟨j + 1, rfl, by omega, Eb⟩, by show n + 1 - (j + 1) < n + 1 - j; omega⟩
      · have et := term_even (n := n) (m := m) heven
        rw [← et]
        (conv => whnf)
        refine HArith.to (e' := sumTo (term n m) (j + 1)) hss.symm (by omega) (by omega) ?_
        (conv => whnf)
        refine HArith.fits (by omega) (by omega) ?_
        (conv => whnf)
        exact ⟨⟨j + 1, rfl, by omega, Eb⟩, by show n + 1 - (j + 1) < n + 1 - j; omega⟩
    · have e : j = n + 1 := by omega
      subst e
      (conv => whnf)
      exact ⟨rfl, E⟩

end Go.Proofs.Ytecfgbjddkpkcaa.Hx
