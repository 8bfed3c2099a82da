
/-
  Contracts of the word of a set of inversions, of the program and of the reference.
-/
import Derived.Test.YtecfgbjddkpkcaaJa
namespace Go.Proofs.Ytecfgbjddkpkcaa.Hx
open Go.RowKit
variable {dm : Bool}


set_option maxHeartbeats 1000000 in
theorem impl_WordOfInversions (h : Heap) (x0 : H0) (a0 : List (List Int)) (x1 : H0) (a1 : List (List Int)) (hx0 : Rows h x0 a0) (hx1 : Rows h x1 a1) (s0 : a0.length ≤ 1048576 ∧ tot a0 ≤ 1048576) (s1 : a1.length ≤ 1048576 ∧ tot a1 ≤ 1048576) :
    HCalls dm Try.prog 44 [.s x0, .s x1] h (fun r h' => ∃ y, r = T2 y (woiOk a0 a1) ∧ Fresh h h' y (woiW a0 a1)) := by
  obtain ⟨V, hV⟩ : ∃ V, V = woiOk a0 a1 := ⟨_, rfl⟩
  obtain ⟨W, hW⟩ : ∃ W, W = woiW a0 a1 := ⟨_, rfl⟩
  rw [← hV, ← hW]
  refine calls_of_hFun (m := 8) kd_ok mixed Try.func44 rfl (by kernel_rfl) rfl rfl (of_decide_eq_true rfl) ?_; unfold hFun; (conv => whnf)
  refine (impl_IsCartan _ _ _ hx0 (by omega)).mono ?_
  rintro r h1 ⟨rfl, hh⟩
  subst h1
  (conv => whnf)
  have bad : ∀ h2, Ext h h2 → woiOk a0 a1 = false ∧ woiW a0 a1 = [] → V = false ∧ Fresh h (h2 ++ [Row.own []]) (.sl h2.length 0 0) W := fun h2 E hb => by
    rw [hV, hW, hb.1, hb.2]
    exact ⟨rfl, Fresh.of (E.trans (Ext.push _ _)) ((OwnR.push h2 []).own E.1)⟩
  cases hic : isCartan a0
  · obtain ⟨g1, g2⟩ := bad h (Ext.refl _) (woi_off hic)
    subst g1
    refine HIf.yes ?_
    (conv => whnf)
    refine HLit.empty ?_
    (conv => whnf)
    exact ⟨_, rfl, g2⟩
  have hC := (isCartan_iff a0).1 hic
  have h4 := hC.le
  have h4p := hC.pos
  refine HIf.no ?_
  (conv => whnf)
  refine HLit.empty ?_
  (conv => whnf)
  refine HLoop.intro [1, 6, 7, 4, 5] [19, 20, 21, 7, 22, 23, 24, 8, 25, 26, 29, 30, 31, 32, 33, 34, 35, 7, 27, 28, 8, 36, 37, 38, 39, 40, 41, 42, 43, 4, 5, 44, 45, 46, 47, 6, 48, 49, 50, 51, 9, 52, 10, 53, 54, 55, 56, 57, 58, 12, 59, 60, 61, 62, 63, 64, 65, 13, 66, 67, 68, 69, 70, 71, 72, 73, 74, 4, 5, 75, 76, 77, 78, 10, 79, 55, 80, 1] (by kernel_rfl) (by kernel_rfl) (fun vs h' => ∃ (x z : H0) (r1 : Nat) (left : List (List Int)) (out : List Int) (g7 g4 g5 : HV), vs = [.s x, .s z, g7, g4, g5] ∧ Ext h h' ∧ h.length ≤ r1 ∧ OwnR r1 h' z out ∧ RdM h r1 h' x left ∧ out.length ≤ 15 ∧ left.length ≤ a1.length ∧ tot left ≤ tot a1 ∧ woi a0 (16 - out.length) left out = woi a0 16 a1 []) (fun vs _ => 16 - lenAt vs 1) ⟨x1, _, h.length, a1, [], _, _, _, rfl, Ext.push _ _, Nat.le_refl _, OwnR.push h [], Or.inl hx1, by simp, Nat.le_refl _, Nat.le_refl _, rfl⟩ ?_
  rintro vs h' ⟨x, z, r1, left, out, g7, g4, g5, rfl, E, hr1, Oz, RL, ho15, hll, hlt, hw⟩
  have hE := E.1
  have hRL := RL.rows E
  obtain ⟨f, hf⟩ : ∃ f, 16 - out.length = f + 1 := ⟨15 - out.length, by omega⟩
  rw [hf] at hw
  (conv => whnf)
  refine ⟨rfl, hRL.len ?_⟩
  (conv => whnf)
  refine HIf.dec (fun hpos => ?_) (fun hzero => ?_)
  rotate_left
  · rw [woi_done (by omega)] at hw
    have hs := woi_some hic hw.symm
    have g1 : V = true := hV.trans hs.1
    have g2 : W = out := hW.trans hs.2
    subst g1
    subst g2
    (conv => whnf)
    exact ⟨_, rfl, Fresh.ofRow E Oz hr1⟩
  have hne : left.length ≠ 0 := by omega
  have hx0' := hx0.ext E
  (conv => whnf)
  refine ⟨rfl, hx0'.len ?_⟩
  (conv => whnf)
  refine HArith.fits (by omega) (by omega) ?_
  (conv => whnf)
  refine HLoop.intro [8, 7] [25, 26, 29, 30, 31, 32, 33, 34, 35, 7, 27, 28, 8] (by kernel_rfl) (by kernel_rfl) (fun vs h2 => ∃ (k : Nat) (n : Int), vs = [I ((k : Int) - 1), I n] ∧ k ≤ a0.length ∧ Ext h' h2 ∧ ((n = -1 ∧ ∀ t : Nat, k ≤ t → t < a0.length → simpleRoot a0 (t : Nat) ∉ left) ∨ ∃ i : Nat, n = (i : Int) ∧ k ≤ i ∧ i < a0.length ∧ simpleRoot a0 (i : Nat) ∈ left ∧ ∀ t : Nat, k ≤ t → t < i → simpleRoot a0 (t : Nat) ∉ left)) (fun vs _ => (intAt vs 0 + 1).toNat) ⟨a0.length, -1, rfl, Nat.le_refl _, Ext.refl _, Or.inl ⟨rfl, fun t h1 h2 => by omega⟩⟩ ?_
  rintro vs h2 ⟨k, n, rfl, hk, E2, hn⟩
  have hx02 := hx0'.ext E2
  (conv => whnf)
  refine HIf.dec (fun hge => ?_) (fun hlt0 => ?_)
  · obtain ⟨m, rfl⟩ : ∃ m, k = m + 1 := ⟨k - 1, by omega⟩
    have em : ((m + 1 : Nat) : Int) - 1 = (m : Int) := by omega
    rw [em]
    (conv => whnf)
    refine ⟨rfl, hx02.len ?_⟩
    (conv => whnf)
    refine (impl_simple _ a0.length (m : Int) (by omega) (by omega) (by omega)).mono ?_
    rintro r h3 ⟨y3, rfl, f3⟩
    rw [← letter_root hic (by omega)] at f3
    have hsl := simpleRoot_length a0 (m : Int)
    (conv => whnf)
    refine (impl_hasRoot _ _ left _ _ ((RL.ext (E2.trans f3.1)).rows (E.trans (E2.trans f3.1))) f3.ints (by omega) (by omega)).mono ?_
    rintro r h5 ⟨rfl, E5⟩
    have Eb := (E2.trans f3.1).trans E5
    have em2 : (m : Int) - 1 = (m : Int) - 1 := rfl
    (conv => whnf)
    refine HIf.dec (fun hin => ?_) (fun hnin => ?_)
    · (conv => whnf)
      refine HArith.fits (by omega) (by omega) ?_
      (conv => whnf)
      exact ⟨⟨m, _, rfl, by omega, Eb, Or.inr ⟨m, rfl, Nat.le_refl _, by omega, hin, fun t h1 h2 => by omega⟩⟩, by show ((m : Int) - 1 + 1).toNat < ((m : Int) + 1).toNat; omega⟩
    · (conv => whnf)
      refine HArith.fits (by omega) (by omega) ?_
      (conv => whnf)
      refine ⟨⟨m, n, rfl, by omega, Eb, ?_⟩, by show ((m : Int) - 1 + 1).toNat < ((m : Int) + 1).toNat; omega⟩
      have ext : ∀ t : Nat, m ≤ t → ¬ m + 1 ≤ t → simpleRoot a0 (t : Nat) ∉ left := fun t h1 h2 => by
        have : t = m := by omega
        subst this
        exact hnin
      rcases hn with ⟨e, ha⟩ | ⟨i, e, h1, h2, h3, ha⟩
      · refine Or.inl ⟨e, fun t t1 t2 => ?_⟩
        by_cases hc : m + 1 ≤ t
        · exact ha t hc t2
        · exact ext t t1 hc
      · refine Or.inr ⟨i, e, by omega, h2, h3, fun t t1 t2 => ?_⟩
        by_cases hc : m + 1 ≤ t
        · exact ha t hc t2
        · exact ext t t1 hc
  have ek : k = 0 := by omega
  subst ek
  have hE2 := E2.1
  have Oz2 := Oz.ext E2
  have EA := E.trans E2
  (conv => whnf)
  rcases hn with ⟨rfl, ha⟩ | ⟨i, rfl, _, hi, hin, ha⟩
  · rw [woi_nofirst hne (firstS_none fun t ht => ha t (Nat.zero_le _) ht)] at hw
    obtain ⟨g1, g2⟩ := bad h2 EA (woi_none hw.symm)
    subst g1
    have hd : (-1 : Int) < 0 := by omega
    (repeat (first | (refine HIf.decT hd ?_; conv => whnf) | (refine HIf.yes ?_; conv => whnf)))
    refine HLit.empty ?_
    (conv => whnf)
    exact ⟨_, rfl, g2⟩
  have hfs := firstS_at hi hin (fun t ht => ha t (Nat.zero_le _) ht)
  have hd : ¬ (i : Int) < 0 := by omega
  refine HIf.decF hd ?_
  (conv => whnf)
  refine HIf.decF hd ?_
  (conv => whnf)
  refine ⟨rfl, Oz2.ints.len ?_⟩
  (conv => whnf)
  refine HIf.decF hd ?_
  (conv => whnf)
  refine HIf.decF hd ?_
  (conv => whnf)
  refine HIf.beq (fun h15 => ?_) (fun hn15 => ?_)
  · have ef : f = 0 := by omega
    subst ef
    rw [woi_one hne] at hw
    obtain ⟨g1, g2⟩ := bad h2 EA (woi_none hw.symm)
    subst g1
    (conv => whnf)
    refine HLit.empty ?_
    (conv => whnf)
    exact ⟨_, rfl, g2⟩
  (conv => whnf)
  refine HLit.one ?_
  (conv => whnf)
  refine ⟨rfl, rfl, HApp.snocR Oz2 (by omega) (fun h3 r3 y3 B3 hr3 O3 => ?_)⟩
  have RL3 := (RL.ext E2).but B3 hr3
  have E3 := EA.but B3 hr1
  have hx03 := hx0.ext E3
  (conv => whnf)
  refine ⟨rfl, hx03.len ?_⟩
  (conv => whnf)
  refine (impl_simple _ a0.length (i : Int) (by omega) (by omega) (by omega)).mono ?_
  rintro r h5 ⟨y5, rfl, f5⟩
  rw [← letter_root hic hi] at f5
  have hsl := simpleRoot_length a0 (i : Int)
  have E5 := E3.trans f5.1
  have RL5 := RL3.ext f5.1
  have O5 := O3.ext f5.1
  have hr3l := O5.lt
  have E5p := Ext.push h5 [Row.own []]
  have RL6 := (RL5.ext E5p).rows (E5.trans E5p)
  (conv => whnf)
  refine HLit.empty ?_
  (conv => whnf)
  refine ⟨rfl, RL6.len ?_⟩
  (conv => whnf)
  refine HLoop.intro [55, 10, 4, 5] [56, 57, 58, 12, 59, 60, 61, 62, 63, 64, 65, 13, 66, 67, 68, 69, 70, 71, 72, 73, 74, 4, 5, 75, 76, 77, 78, 10, 79, 55] (by kernel_rfl) (by kernel_rfl) (fun vs h' => ∃ (k : Nat) (y : H0) (R : List (List Int)) (g4 g5 : HV), vs = [I k, .s y, g4, g5] ∧ k ≤ left.length ∧ Ext h5 h' ∧ OwnM h5.length h'.length h' y R ∧ nextTo a0 i left k = some R ∧ R.length ≤ k ∧ tot R ≤ tot (left.take k)) (fun vs _ => left.length - natAt vs 0) ⟨0, _, [], _, _, rfl, by omega, E5p, OwnM.none h5, rfl, by simp, by simp⟩ ?_
  rintro vs h6 ⟨k, y, R, g4, g5, rfl, hk, E6, OM, hnx, hRl, hRt⟩
  have E56 := E5.trans E6
  have RLr := (RL5.ext E6).rows E56
  have htl := tot_take_le left k
  (conv => whnf)
  refine HIf.dec (fun hlt => ?_) (fun hge => ?_)
  · have hle := len_le_tot (L := left) (i := k) (by omega)
    have hts := tot_succ left k (by omega)
    (conv => whnf)
    refine ⟨rfl, Rows.idxN RLr (by omega) (fun p z hp hz => ?_)⟩
    (conv => whnf)
    refine ⟨rfl, hp.load ?_⟩
    (conv => whnf)
    refine (lib_Equal _ _ _ _ _ hz (f5.ints.ext E6) (by omega)).mono ?_
    rintro v h7 ⟨rfl, hh⟩
    subst h7
    (conv => whnf)
    refine HIf.dec (fun heq => ?_) (fun hneq => ?_)
    · have hs := nextTo_skip hnx heq
      (conv => whnf)
      refine HArith.fits (by omega) (by omega) ?_
      (conv => whnf)
      exact ⟨⟨k + 1, y, R, _, _, rfl, by omega, E6, OM, hs, by omega, by omega⟩, by show left.length - (k + 1) < left.length - k; omega⟩
    have hrr := reflectRoot_length a0 (i : Int) (left.getD k [])
    (conv => whnf)
    refine (impl_ReflectRoot _ _ a0 (i : Int) _ _ (hx0.ext E56) hz s0 (by omega) (by omega)).mono ?_
    rintro v h7 ⟨y7, rfl, f7⟩
    (conv => whnf)
    refine (impl_RootSign _ _ _ f7.ints (by omega)).mono ?_
    rintro v h8 ⟨rfl, hh⟩
    subst h8
    (conv => whnf)
    by_cases hsg : rootSign (reflectRoot a0 (i : Int) (left.getD k [])) = 1
    · refine HIf.bneF hsg ?_
      (conv => whnf)
      refine HIf.bneF hsg ?_
      (conv => whnf)
      refine HIf.bneF hsg ?_
      (conv => whnf)
      refine (impl_hasRoot _ _ R _ _ (OM.ext f7.1).rows f7.ints (by omega) (by omega)).mono ?_
      rintro v h8 ⟨rfl, E8⟩
      have E78 := f7.1.trans E8
      (conv => whnf)
      refine HIf.bneF hsg ?_
      (conv => whnf)
      refine HIf.dec (fun hmem => ?_) (fun hnmem => ?_)
      · rw [woi_nonext hne hfs (nextTo_none (nextTo_bad hnx hneq (Or.inr hmem)) _ (by omega))] at hw
        obtain ⟨g1, g2⟩ := bad h8 (E56.trans E78) (woi_none hw.symm)
        subst g1
        (conv => whnf)
        refine HLit.empty ?_
        (conv => whnf)
        exact ⟨_, rfl, g2⟩
      · have hs := nextTo_add hnx hneq hsg hnmem
        have O8 := f7.own.ext E8
        have hE8 := E8.1
        have hta := tot_app R (reflectRoot a0 (i : Int) (left.getD k []))
        (conv => whnf)
        refine HLit.row O8.one ?_
        (conv => whnf)
        refine ⟨rfl, rfl, HApp.snocM E6 OM E78 (O8.widen hE8) (by omega) (fun h9 y9 E9 O9 => ?_)⟩
        (conv => whnf)
        refine HArith.fits (by omega) (by omega) ?_
        (conv => whnf)
        exact ⟨⟨k + 1, y9, _, _, _, rfl, by omega, E9, O9, hs, by simp; omega, by omega⟩, by show left.length - (k + 1) < left.length - k; omega⟩
    · rw [woi_nonext hne hfs (nextTo_none (nextTo_bad hnx hneq (Or.inl hsg)) _ (by omega))] at hw
      obtain ⟨g1, g2⟩ := bad h7 (E56.trans f7.1) (woi_none hw.symm)
      subst g1
      (repeat (first | (refine HIf.bneT hsg ?_; conv => whnf) | (refine HIf.yes ?_; conv => whnf)))
      refine HLit.empty ?_
      (conv => whnf)
      exact ⟨_, rfl, g2⟩
  · have e : k = left.length := by omega
    subst e
    rw [List.take_length] at hRt
    rw [woi_next hne hfs hnx] at hw
    have O6 := O5.ext E6
    have hE6 := E6.1
    have hyl : z = .sl r1 0 out.length := by obtain ⟨t, e, _⟩ := Oz; exact e
    have hyl3 : y3 = .sl r3 0 (out ++ [(i : Int)]).length := by obtain ⟨t, e, _⟩ := O3; exact e
    have hol : (out ++ [(i : Int)]).length = out.length + 1 := by simp
    (conv => whnf)
    refine ⟨⟨y, y3, r3, R, out ++ [(i : Int)], _, _, _, rfl, E56, by omega, O6, Or.inr ⟨h5.length, h6.length, Nat.le_refl _, Or.inl hr3l, OM⟩, by omega, by omega, by omega, by rw [← hw, hol]; congr 1; omega⟩, ?_⟩
    subst hyl
    subst hyl3
    show 16 - (out ++ [(i : Int)]).length < 16 - out.length
    omega

end Go.Proofs.Ytecfgbjddkpkcaa.Hx
