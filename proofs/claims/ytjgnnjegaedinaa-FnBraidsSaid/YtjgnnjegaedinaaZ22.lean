/-
  Contracts of the places of braid moves and of braid moves one after the other, of the program and of the reference.
  Contracts of ReducedWords, of the reference: a search by braid moves, and insertions in the order of words.
  From the model's readings of arguments to rows: a slice of slices of ints that came in.
-/
import Derived.Test.YtjgnnjegaedinaaZ21
namespace Go.Proofs.Ytjgnnjegaedinaa.Hx
open Go.RowKit
variable {dm : Bool}

theorem ap_none {c : List (List Int)} {w l : List Int} (h : braids c w l = none) : apOk c w l = false ∧ apW c w l = w := by simp [apOk, apW, h]
theorem ap_off {c : List (List Int)} {w l : List Int} (h : isWord c w = false) : apOk c w l = false ∧ apW c w l = w := by
  refine ⟨by simp [apOk, h], ?_⟩
  match l with
  | [] => rfl
  | n :: l => exact (ap_none (braids_word (l := n :: l) (by simp) h)).2
theorem ap_some {c : List (List Int)} {w l x : List Int} (h : braids c w l = some x) : apOk c w l = isWord c w ∧ apW c w l = x := by simp [apOk, apW, h]


theorem impl_BraidPlaces (h : Heap) (x0 : H0) (a0 : List (List Int)) (x1 : H0) (a1 : List Int) (hx0 : Rows h x0 a0) (hx1 : Ints h x1 a1) (s0 : a0.length ≤ 1048576 ∧ tot a0 ≤ 1048576) (s1 : a1.length ≤ 1048576) :
    HCalls dm Try.prog 22 [.s x0, .s x1] h (fun r h' => ∃ y, r = .s y ∧ Fresh h h' y (brTo a0 a1 a1.length)) := by
  have E0 := Ext.push h [Row.own []]
  have O0 := OwnR.push h []
  have hx10 := hx1.ext E0
  refine calls_of_hFun (m := 0) kd_ok mixed Try.func22 rfl (by kernel_rfl) rfl rfl (of_decide_eq_true rfl) ?_; unfold hFun; (conv => whnf)
  refine HLit.empty ?_
  (conv => whnf)
  refine ⟨rfl, hx10.len ?_⟩
  (conv => whnf)
  refine HLoop.intro [12, 5] [13, 14, 6, 16, 17, 18, 19, 15, 20, 21, 7, 8, 22, 23, 24, 25, 26, 5, 27, 12] (by kernel_rfl) (by kernel_rfl) (fun vs h' => ∃ (k : Nat) (z : H0) (r : Nat), vs = [I k, .s z] ∧ k ≤ a1.length ∧ Ext h h' ∧ h.length ≤ r ∧ OwnR r h' z (brTo a0 a1 k)) (fun vs _ => a1.length - natAt vs 0) ⟨0, _, h.length, rfl, by omega, E0, Nat.le_refl _, O0⟩ ?_
  rintro vs h' ⟨k, z, r, rfl, hk, E, hr, O⟩
  have hbl := brTo_le a0 a1 k
  (conv => whnf)
  refine HIf.dec (fun hlt => ?_) (fun hge => ?_)
  · (conv => whnf)
    refine (impl_BraidAt0 _ _ a0 _ a1 (k : Int) (hx0.ext E) (hx1.ext E) s0 s1).mono ?_
    rintro r2 h2 ⟨y2, rfl, f2⟩
    have E2 := E.trans f2.1
    have hE2 := E2.1
    have O2 := O.ext f2.1
    cases hb : brOk a0 a1 k
    · rw [← brTo_out hb] at O2
      (conv => whnf)
      refine HIf.no ?_
      (conv => whnf)
      refine HArith.fits (by omega) (by omega) ?_
      (conv => whnf)
      exact ⟨⟨k + 1, z, r, rfl, by omega, E2, hr, O2⟩, by show a1.length - (k + 1) < a1.length - k; omega⟩
    · (conv => whnf)
      refine HIf.yes ?_
      (conv => whnf)
      refine HLit.one ?_
      (conv => whnf)
      refine ⟨rfl, rfl, HApp.snocR O2 (by omega) (fun h3 r3 y3 B3 hr3 O3 => ?_)⟩
      rw [← brTo_in hb] at O3
      (conv => whnf)
      refine HArith.fits (by omega) (by omega) ?_
      (conv => whnf)
      exact ⟨⟨k + 1, y3, r3, rfl, by omega, E2.but B3 hr, by omega, O3⟩, by show a1.length - (k + 1) < a1.length - k; omega⟩
  · have e : k = a1.length := by omega
    subst e
    (conv => whnf)
    exact ⟨_, rfl, Fresh.ofRow E O hr⟩

theorem spec_BraidPlaces (h : Heap) (x0 : H0) (a0 : List (List Int)) (x1 : H0) (a1 : List Int) (hx0 : Rows h x0 a0) (hx1 : Ints h x1 a1) (s0 : a0.length ≤ 1048576 ∧ tot a0 ≤ 1048576) (s1 : a1.length ≤ 1048576) :
    HCalls dm Try.prog 23 [.s x0, .s x1] h (fun r h' => ∃ y, r = .s y ∧ Fresh h h' y (brTo a0 a1 a1.length)) := by
  have E0 := Ext.push h [Row.own []]
  have O0 := OwnR.push h []
  refine calls_of_hFun (m := 0) kd_ok mixed Try.func23 rfl (by kernel_rfl) rfl rfl (of_decide_eq_true rfl) ?_; unfold hFun; (conv => whnf)
  refine HLit.empty ?_
  (conv => whnf)
  refine HLoop.intro [6, 5] [10, 11, 12, 13, 17, 18, 19, 20, 16, 21, 22, 7, 8, 23, 24, 25, 26, 27, 5, 14, 15, 6] (by kernel_rfl) (by kernel_rfl) (fun vs h' => ∃ (k : Nat) (z : H0) (r : Nat), vs = [I k, .s z] ∧ k ≤ a1.length ∧ Ext h h' ∧ h.length ≤ r ∧ OwnR r h' z (brTo a0 a1 k)) (fun vs _ => a1.length - natAt vs 0) ⟨0, _, h.length, rfl, by omega, E0, Nat.le_refl _, O0⟩ ?_
  rintro vs h' ⟨k, z, r, rfl, hk, E, hr, O⟩
  have hbl := brTo_le a0 a1 k
  have hx11 := hx1.ext E
  (conv => whnf)
  refine ⟨rfl, hx11.len ?_⟩
  (conv => whnf)
  refine HIf.dec (fun hlt => ?_) (fun hge => ?_)
  · (conv => whnf)
    refine (spec_BraidAt0 _ _ a0 _ a1 (k : Int) (hx0.ext E) (hx1.ext E) s0 s1).mono ?_
    rintro r2 h2 ⟨y2, rfl, f2⟩
    have E2 := E.trans f2.1
    have hE2 := E2.1
    have O2 := O.ext f2.1
    cases hb : brOk a0 a1 k
    · rw [← brTo_out hb] at O2
      (conv => whnf)
      refine HIf.no ?_
      (conv => whnf)
      refine HArith.fits (by omega) (by omega) ?_
      (conv => whnf)
      exact ⟨⟨k + 1, z, r, rfl, by omega, E2, hr, O2⟩, by show a1.length - (k + 1) < a1.length - k; omega⟩
    · (conv => whnf)
      refine HIf.yes ?_
      (conv => whnf)
      refine HLit.one ?_
      (conv => whnf)
      refine ⟨rfl, rfl, HApp.snocR O2 (by omega) (fun h3 r3 y3 B3 hr3 O3 => ?_)⟩
      rw [← brTo_in hb] at O3
      (conv => whnf)
      refine HArith.fits (by omega) (by omega) ?_
      (conv => whnf)
      exact ⟨⟨k + 1, y3, r3, rfl, by omega, E2.but B3 hr, by omega, O3⟩, by show a1.length - (k + 1) < a1.length - k; omega⟩
  · have e : k = a1.length := by omega
    subst e
    (conv => whnf)
    exact ⟨_, rfl, Fresh.ofRow E O hr⟩

theorem impl_ApplyBraids (h : Heap) (x0 : H0) (a0 : List (List Int)) (x1 : H0) (a1 : List Int) (x2 : H0) (a2 : List Int) (hx0 : Rows h x0 a0) (hx1 : Ints h x1 a1) (hx2 : Ints h x2 a2) (s0 : a0.length ≤ 1048576 ∧ tot a0 ≤ 1048576) (s1 : a1.length ≤ 1048576) (s2 : a2.length ≤ 1048576) :
    HCalls dm Try.prog 16 [.s x0, .s x1, .s x2] h (fun r h' => ∃ y, r = T2 y (apOk a0 a1 a2) ∧ Fresh h h' y (apW a0 a1 a2)) := by
  refine calls_of_hFun (m := 0) kd_ok mixed Try.func16 rfl (by kernel_rfl) rfl rfl (of_decide_eq_true rfl) ?_; unfold hFun; (conv => whnf)
  refine HLit.empty ?_
  (conv => whnf)
  refine ⟨rfl, rfl, HApp.copy hx1 (by omega) (fun h1 y1 E1 O1 => ?_)⟩
  (conv => whnf)
  refine (impl_IsWord _ _ _ a0 a1 (hx0.ext E1) (hx1.ext E1) (by omega) (by omega)).mono ?_
  rintro r h2 ⟨rfl, hh⟩
  subst h2
  have hx21 := hx2.ext E1
  (conv => whnf)
  refine ⟨rfl, hx21.len ?_⟩
  have bad : ∀ h3, Ext h h3 → (apOk a0 a1 a2 = false ∧ apW a0 a1 a2 = a1) → ∀ {K : HV → Heap → Prop}, (∀ h' y, Fresh h h' y (apW a0 a1 a2) → K (.s y) h') → HApp (h3 ++ [.own []]) (.s (.sl h3.length 0 0)) (.s x1) K := fun h3 E3 hb K hK => by
    rw [hb.2] at hK
    refine HApp.copy (hx1.ext E3) (by omega) (fun h4 y4 E4 O4 => hK _ _ ?_)
    obtain ⟨q, hq1, hq2, Oq⟩ := O4.row
    have := E3.1
    exact Fresh.ofRow (E3.trans E4) Oq (by omega)
  (conv => whnf)
  refine HLoop.intro [20, 9, 8] [21, 22, 23, 11, 24, 25, 27, 28, 29, 30, 26, 31, 32, 8, 9, 33, 20] (by kernel_rfl) (by kernel_rfl) (fun vs h' => ∃ (k : Nat) (ok : Bool) (y : H0) (x : List Int), vs = [I k, B ok, .s y] ∧ k ≤ a2.length ∧ Ext h h' ∧ Own h.length h'.length h' y x ∧ x.length = a1.length ∧ (ok = true → isWord a0 a1 = true ∧ braids a0 x (a2.drop k) = braids a0 a1 a2) ∧ (ok = false → apOk a0 a1 a2 = false ∧ apW a0 a1 a2 = a1)) (fun vs _ => a2.length - natAt vs 0) ⟨0, _, y1, a1, rfl, by omega, E1, O1, rfl, fun h => ⟨h, rfl⟩, fun h => ap_off h⟩ ?_
  rintro vs h' ⟨k, ok, y, x, rfl, hk, E, O, hxl, hyes, hno⟩
  have hx22 := hx2.ext E
  (conv => whnf)
  refine HIf.dec (fun hlt => ?_) (fun hge => ?_)
  · (conv => whnf)
    refine ⟨rfl, Ints.idxN hx22 (by omega) (fun p hp => ?_)⟩
    (conv => whnf)
    refine ⟨rfl, hp.load ?_⟩
    (conv => whnf)
    cases ok
    · refine HIf.yes ?_
      (conv => whnf)
      refine HIf.yes ?_
      (conv => whnf)
      have hb := hno rfl
      rw [hb.1]
      refine HLit.empty ?_
      (conv => whnf)
      refine ⟨rfl, rfl, bad _ E hb (fun h4 y4 f4 => ?_)⟩
      (conv => whnf)
      exact ⟨_, rfl, f4⟩
    · obtain ⟨hic, hbr⟩ := hyes rfl
      have hst := braids_step (c := a0) (x := x) (l := a2) (k := k) (by omega)
      refine HIf.no ?_
      (conv => whnf)
      refine (impl_BraidAt0 _ _ a0 _ x (a2.getD k 0) (hx0.ext E) O.ints s0 (by omega)).mono ?_
      rintro r2 h2 ⟨y2, rfl, f2⟩
      have hz := Fresh.inner E f2
      generalize a2.getD k 0 = n at *
      cases hb : brOk a0 x n
      · rw [hb, if_neg (by decide), hbr] at hst
        rw [braid_off hb] at hz
        (conv => whnf)
        refine HArith.fits (by omega) (by omega) ?_
        (conv => whnf)
        exact ⟨⟨k + 1, false, y2, x, rfl, by omega, hz.1, hz.2, hxl, fun h => (by cases h), fun _ => ap_none hst⟩, by show a2.length - (k + 1) < a2.length - k; omega⟩
      · rw [hb, if_pos rfl, hbr] at hst
        have hbl := braid_same hb
        (conv => whnf)
        refine HArith.fits (by omega) (by omega) ?_
        (conv => whnf)
        exact ⟨⟨k + 1, true, y2, _, rfl, by omega, hz.1, hz.2, by omega, fun _ => ⟨hic, hst.symm⟩, fun h => (by cases h)⟩, by show a2.length - (k + 1) < a2.length - k; omega⟩
  · have e : k = a2.length := by omega
    subst e
    (conv => whnf)
    cases ok
    · refine HIf.yes ?_
      (conv => whnf)
      have hb := hno rfl
      rw [hb.1]
      refine HLit.empty ?_
      (conv => whnf)
      refine ⟨rfl, rfl, bad _ E hb (fun h4 y4 f4 => ?_)⟩
      (conv => whnf)
      exact ⟨_, rfl, f4⟩
    · obtain ⟨hic, hbr⟩ := hyes rfl
      rw [List.drop_length, braids_end] at hbr
      have ha := ap_some hbr.symm
      rw [ha.1, ha.2, hic]
      refine HIf.no ?_
      (conv => whnf)
      exact ⟨_, rfl, Fresh.of E O⟩

theorem spec_ApplyBraids (h : Heap) (x0 : H0) (a0 : List (List Int)) (x1 : H0) (a1 : List Int) (x2 : H0) (a2 : List Int) (hx0 : Rows h x0 a0) (hx1 : Ints h x1 a1) (hx2 : Ints h x2 a2) (s0 : a0.length ≤ 1048576 ∧ tot a0 ≤ 1048576) (s1 : a1.length ≤ 1048576) (s2 : a2.length ≤ 1048576) :
    HCalls dm Try.prog 21 [.s x0, .s x1, .s x2] h (fun r h' => ∃ y, r = T2 y (apOk a0 a1 a2) ∧ Fresh h h' y (apW a0 a1 a2)) := by
  refine calls_of_hFun (m := 0) kd_ok mixed Try.func21 rfl (by kernel_rfl) rfl rfl (of_decide_eq_true rfl) ?_; unfold hFun; (conv => whnf)
  refine HLit.empty ?_
  (conv => whnf)
  refine ⟨rfl, rfl, HApp.copy hx1 (by omega) (fun h1 y1 E1 O1 => ?_)⟩
  have bad : ∀ h3, Ext h h3 → (apOk a0 a1 a2 = false ∧ apW a0 a1 a2 = a1) → ∀ {K : HV → Heap → Prop}, (∀ h' y, Fresh h h' y (apW a0 a1 a2) → K (.s y) h') → HApp (h3 ++ [.own []]) (.s (.sl h3.length 0 0)) (.s x1) K := fun h3 E3 hb K hK => by
    rw [hb.2] at hK
    refine HApp.copy (hx1.ext E3) (by omega) (fun h4 y4 E4 O4 => hK _ _ ?_)
    obtain ⟨q, hq1, hq2, Oq⟩ := O4.row
    have := E3.1
    exact Fresh.ofRow (E3.trans E4) Oq (by omega)
  (conv => whnf)
  refine HLoop.intro [9, 8] [15, 16, 17, 18, 22, 23, 24, 25, 26, 27, 28, 21, 29, 30, 10, 11, 31, 32, 33, 34, 35, 6, 7, 36, 8, 19, 20, 9] (by kernel_rfl) (by kernel_rfl) (fun vs h' => ∃ (k : Nat) (y : H0) (x : List Int), vs = [I k, .s y] ∧ k ≤ a2.length ∧ Ext h h' ∧ Own h.length h'.length h' y x ∧ x.length = a1.length ∧ braids a0 x (a2.drop k) = braids a0 a1 a2) (fun vs _ => a2.length - natAt vs 0) ⟨0, y1, a1, rfl, by omega, E1, O1, rfl, rfl⟩ ?_
  rintro vs h' ⟨k, y, x, rfl, hk, E, O, hxl, hbr⟩
  have hx22 := hx2.ext E
  (conv => whnf)
  refine ⟨rfl, hx22.len ?_⟩
  (conv => whnf)
  refine HIf.dec (fun hlt => ?_) (fun hge => ?_)
  · have hst := braids_step (c := a0) (x := x) (l := a2) (k := k) (by omega)
    (conv => whnf)
    refine ⟨rfl, Ints.idxN hx22 (by omega) (fun p hp => ?_)⟩
    (conv => whnf)
    refine ⟨rfl, hp.load ?_⟩
    (conv => whnf)
    refine (spec_BraidAt0 _ _ a0 _ x (a2.getD k 0) (hx0.ext E) O.ints s0 (by omega)).mono ?_
    rintro r2 h2 ⟨y2, rfl, f2⟩
    have hz := Fresh.inner E f2
    generalize a2.getD k 0 = n at *
    cases hb : brOk a0 x n
    · rw [hb, if_neg (by decide), hbr] at hst
      have hap := ap_none hst
      rw [hap.1]
      (conv => whnf)
      refine HIf.yes ?_
      (conv => whnf)
      refine HLit.empty ?_
      (conv => whnf)
      refine ⟨rfl, rfl, bad _ hz.1 hap (fun h4 y4 f4 => ?_)⟩
      (conv => whnf)
      exact ⟨_, rfl, f4⟩
    · rw [hb, if_pos rfl, hbr] at hst
      have hbl := braid_same hb
      (conv => whnf)
      refine HIf.no ?_
      (conv => whnf)
      refine HArith.fits (by omega) (by omega) ?_
      (conv => whnf)
      exact ⟨⟨k + 1, y2, _, rfl, by omega, hz.1, hz.2, by omega, hst.symm⟩, by show a2.length - (k + 1) < a2.length - k; omega⟩
  · have e : k = a2.length := by omega
    subst e
    rw [List.drop_length, braids_end] at hbr
    have ha := ap_some hbr.symm
    rw [ha.1, ha.2]
    (conv => whnf)
    refine (spec_IsWord _ _ _ a0 a1 (hx0.ext E) (hx1.ext E) (by omega) (by omega)).mono ?_
    rintro r h2 ⟨rfl, hh⟩
    subst h2
    (conv => whnf)
    exact ⟨_, rfl, Fresh.of E O⟩

end Go.Proofs.Ytjgnnjegaedinaa.Hx

namespace Go.Proofs.Ytjgnnjegaedinaa.Hx
open Go.RowKit
variable {dm : Bool}

theorem HCallF.tupF {P : Program} {k : FuncId} {args : List HV} {h : Heap} {K : HV → Heap → Prop} {l : List Int} {b : Bool} (hc : HCalls dm P k args (freeze h) (fun r h' => ∃ y, r = T2 y b ∧ Fresh (freeze h) h' y l))
    (hK : ∀ h' y, Fresh h h' y l → K (T2 y b) h') : HCallF dm P k args h K := by
  refine HCallF.soft (Q := fun r h' => ∃ y, r = T2 y b ∧ Fresh (freeze h) h' y l) (hc.mono fun r h' ⟨y, e, f⟩ => ⟨f.1, y, e, f⟩) ?_
  rintro r h' h'' ⟨y, rfl, f⟩ E E2 hl hk
  obtain ⟨_, q, t, rfl, hq, ho⟩ := f
  rw [freeze_length] at hq
  exact hK _ _ ⟨E2, q, t, rfl, hq, hk q _ hq ho⟩

theorem putW_at {w : List Int} {L : List (List Int)} {i : Nat} (hi : i < L.length) : putW w (L.drop i) = if cmpW w (L.getD i []) = 0 then L.drop i else if cmpW w (L.getD i []) < 0 then w :: L.drop i else L.getD i [] :: putW w (L.drop (i + 1)) := by
  rw [List.drop_eq_getElem_cons hi]
  simp [putW, List.getD, hi]

theorem mem_getD {L : List (List Int)} {w : List Int} (h : w ∈ L) : ∃ i, i < L.length ∧ L.getD i [] = w := by
  obtain ⟨i, hi, e⟩ := List.getElem_of_mem h
  exact ⟨i, hi, by simp [List.getD, hi, e]⟩
theorem getD_mem {L : List (List Int)} {i : Nat} (h : i < L.length) : L.getD i [] ∈ L := by
  have e : L.getD i [] = L[i] := by simp [List.getD, h]
  rw [e]
  exact List.getElem_mem h

theorem mem_brTo {c : List (List Int)} {w : List Int} {k : Nat} {i : Int} : i ∈ brTo c w k ↔ ∃ t : Nat, i = t ∧ t < k ∧ brOk c w t = true := by
  unfold brTo
  simp only [List.mem_map, List.mem_filter, List.mem_range]
  constructor
  · rintro ⟨t, ⟨h1, h2⟩, rfl⟩
    exact ⟨t, rfl, h1, h2⟩
  · rintro ⟨t, rfl, h1, h2⟩
    exact ⟨t, ⟨h1, h2⟩, rfl⟩

theorem brOk_lt {c : List (List Int)} {w : List Int} {t : Nat} (h : brOk c w t = true) : t < w.length := by
  simp only [brOk, Bool.and_eq_true, decide_eq_true_eq] at h
  have := h.1.2.2
  omega

theorem reducedWords_size (c : List (List Int)) (w : List Int) : (reducedWords c w).length ≤ 120 ∧ tot (reducedWords c w) ≤ 15 * 120 := by
  cases h : redOk c w
  · rw [reducedWords_off h]
    exact ⟨by simp, by simp [tot]⟩
  · rw [reducedWords_on h]
    have h2 := h
    simp only [redOk, Bool.and_eq_true, decide_eq_true_eq] at h2
    obtain ⟨hw, hl⟩ := h2
    obtain ⟨P, hn, R⟩ := normF_red hw
    have := tot_le 15 (redAll c w) fun l hl => by
      have := ((spell_mem (word_cartan hw).1 _ _ P (by omega) l).1 hl).1
      omega
    omega

/-- One word only: a slice of slices anew. -/
theorem OutM.single {h2 : Heap} {y : H0} {l : List Int} {q : Nat} (R : OwnR q h2 y l) : OutM (fun r => r = q ∨ r = h2.length) (h2 ++ [.own [y]]) (.sl h2.length 0 1) [l] := by
  have hq2 := R.lt
  obtain ⟨t, rfl, hqo⟩ := R
  refine Or.inr ⟨h2.length, fun _ => q, rfl, Or.inr rfl, fun i _ => Or.inl rfl, ⟨[.sl q 0 l.length], get_new _ _, by simp, fun i hi => ?_⟩, fun i hi => ⟨t, ?_⟩, fun i hi => by omega, fun i j hij hj => by simp at hj; omega⟩
  · have e : i = 0 := by simp at hi; omega
    subst e
    simp
  · have e : i = 0 := by simp at hi; omega
    subst e
    rw [List.getElem?_append_left (by omega)]
    simpa using hqo

theorem OutM.rows {F : Nat → Prop} {h : Heap} {x : H0} {L : List (List Int)} (O : OutM F h x L) : Rows h x L := by
  rcases O with ⟨rfl, rfl⟩ | ⟨r, ρ, rfl, g2, g3, m⟩
  · exact ⟨[], .nils _ _, rfl, fun i y l a _ => by simp at a⟩
  · exact m.rows


theorem spec_CompareWordsW (h : Heap) (x y : H0) (a b : List Int) (hx : Ints h x a) (hy : Ints h y b) (hal : a.length ≤ 1048576) :
    HCalls dm Try.prog 84 [.s x, .s y] h (fun r h' => r = I (cmpW a b) ∧ h' = h) := by
  refine calls_of_hFun (m := 0) kd_ok mixed Try.func84 rfl (by kernel_rfl) rfl rfl (of_decide_eq_true rfl) ?_; unfold hFun; (conv => whnf)
  refine ⟨rfl, hx.len ?_⟩
  (conv => whnf)
  refine ⟨rfl, hy.len ?_⟩
  (conv => whnf)
  refine HIf.bne (fun hne => ?_) (fun heq => ?_)
  · (conv => whnf)
    refine ⟨rfl, hx.len ?_⟩
    (conv => whnf)
    refine ⟨rfl, hy.len ?_⟩
    (conv => whnf)
    refine HIf.dec (fun h1 => ?_) (fun h1 => ?_)
    · (conv => whnf)
      exact ⟨iEq' (by rw [cmpW, if_pos (by omega)]), rfl⟩
    · (conv => whnf)
      exact ⟨iEq' (by rw [cmpW, if_neg (by omega), if_pos (by omega)]), rfl⟩
  · have hcw : cmpW a b = lexC a b := by rw [cmpW, if_neg (by omega), if_neg (by omega)]
    (conv => whnf)
    refine HLoop.intro [5] [16, 17, 18, 19, 22, 23, 24, 25, 26, 27, 28, 29, 30, 4, 31, 32, 33, 34, 35, 36, 37, 38, 39, 4, 20, 21, 5] (by kernel_rfl) (by kernel_rfl) (fun vs h' => ∃ i : Nat, vs = [I i] ∧ h' = h ∧ i ≤ a.length ∧ lexC a b = lexC (a.drop i) (b.drop i)) (fun vs _ => a.length - natAt vs 0) ⟨0, rfl, rfl, by omega, rfl⟩ ?_
    rintro vs h' ⟨i, rfl, hh, hi, hb⟩
    subst h'
    (conv => whnf)
    refine ⟨rfl, hx.len ?_⟩
    (conv => whnf)
    refine HIf.dec (fun hlt => ?_) (fun hge => ?_)
    · have hd := lexC_drop (a := a) (b := b) (i := i) (by omega) (by omega)
      (conv => whnf)
      refine Or.inl (And.intro (show Region.lexB _ _ = true by kernel_rfl) ?_); (conv => whnf)
      refine ⟨rfl, Ints.idxN hx (by omega) (fun p hp => ?_)⟩
      (conv => whnf)
      refine ⟨rfl, hp.load ?_⟩
      (conv => whnf)
      refine ⟨rfl, Ints.idxN hy (by omega) (fun p2 hp2 => ?_)⟩
      (conv => whnf)
      refine ⟨rfl, hp2.load ?_⟩
      (conv => whnf)
      refine HIf.dec (fun h1 => ?_) (fun h1 => ?_)
      · rw [if_pos h1] at hd
        (conv => whnf)
        exact ⟨iEq' (by rw [hcw, hb, hd]), rfl⟩
      · rw [if_neg h1] at hd
        (conv => whnf)
        refine Or.inl (And.intro (show Region.lexB _ _ = true by kernel_rfl) ?_); (conv => whnf)
        refine ⟨rfl, Ints.idxN hx (by omega) (fun p3 hp3 => ?_)⟩
        (conv => whnf)
        refine ⟨rfl, hp3.load ?_⟩
        (conv => whnf)
        refine ⟨rfl, Ints.idxN hy (by omega) (fun p4 hp4 => ?_)⟩
        (conv => whnf)
        refine ⟨rfl, hp4.load ?_⟩
        (conv => whnf)
        refine HIf.dec (fun h2 => ?_) (fun h2 => ?_)
        · rw [if_pos (by omega)] at hd
          (conv => whnf)
          exact ⟨iEq' (by rw [hcw, hb, hd]), rfl⟩
        · rw [if_neg (by omega)] at hd
          (conv => whnf)
          refine HArith.fits (by omega) (by omega) ?_
          (conv => whnf)
          exact ⟨⟨i + 1, rfl, rfl, by omega, hb.trans hd⟩, by show a.length - (i + 1) < a.length - i; omega⟩
    · have he := lexC_end (a := a) (b := b) (i := i) (by omega)
      rw [if_neg (by omega)] at he
      (conv => whnf)
      exact ⟨iEq' (by rw [hcw, hb, he]), rfl⟩

set_option maxHeartbeats 1000000 in
theorem spec_l11Put (h : Heap) (r0 : Nat) (ρ : Nat → Nat) (L : List (List Int)) (x1 : H0) (w : List Int) (m0 : MatAt h r0 ρ L) (hx1 : Ints h x1 w) (hL : L.length ≤ 1048576) (hw : w.length ≤ 1048576) :
    HCalls dm Try.prog 58 [.s (.sl r0 0 L.length), .s x1] h (fun r h' => ∃ y, r = .s y ∧ Ext h h' ∧ MatIn h.length (fun q => (∃ m, m < L.length ∧ q = ρ m) ∨ h.length ≤ q) h' y (putW w L)) := by
  have hρ := m0.lt.2
  refine calls_of_hFun (m := 0) kd_ok mixed Try.func58 rfl (by kernel_rfl) rfl rfl (of_decide_eq_true rfl) ?_; unfold hFun; (conv => whnf)
  refine HLit.empty ?_
  (conv => whnf)
  refine HLoop.intro [7, 6, 5] [10, 11, 12, 13, 16, 17, 18, 19, 20, 21, 8, 22, 23, 6, 24, 25, 26, 27, 28, 29, 30, 31, 32, 33, 34, 35, 5, 6, 36, 37, 38, 39, 40, 41, 42, 5, 14, 15, 7] (by kernel_rfl) (by kernel_rfl) (fun vs h' => ∃ (i : Nat) (pl : Bool) (z : H0) (T : List (List Int)), vs = [I i, B pl, .s z] ∧ i ≤ L.length ∧ Ext h h' ∧ MatIn h.length (fun q => (∃ m, m < i ∧ q = ρ m) ∨ (pl = true ∧ h.length ≤ q)) h' z T ∧ (pl = true → T ++ L.drop i = putW w L) ∧ (pl = false → T ++ putW w (L.drop i) = putW w L)) (fun vs _ => L.length - natAt vs 0) ⟨0, false, _, [], rfl, by omega, Ext.push _ _, MatIn.none h _, (fun e => by cases e), (fun _ => rfl)⟩ ?_
  rintro vs h' ⟨i, pl, z, T, rfl, hi, E, M, hT1, hT2⟩
  have hpl := putW_le w L
  have hTl : T.length ≤ 1048577 := by
    cases pl
    · have := congrArg List.length (hT2 rfl)
      have := putW_le w (L.drop i)
      rw [List.length_append] at *
      omega
    · have := congrArg List.length (hT1 rfl)
      rw [List.length_append] at this
      omega
  have m1 := m0.ext E
  have hx1 := hx1.ext E
  (conv => whnf)
  refine ⟨rfl, m1.rows.len ?_⟩
  (conv => whnf)
  refine HIf.dec (fun hlt => ?_) (fun hge => ?_)
  · have hil : i < L.length := by omega
    have hrow := m1.inner' hil
    have hpa := putW_at (w := w) hil
    have hda := drop_at hil
    have hne : ∀ m, m < i → ρ i ≠ ρ m := fun m hm e => m0.inj m i hm hil e.symm
    have hE := E.1
    (conv => whnf)
    refine ⟨rfl, m1.idx hil (fun p hp => ?_)⟩
    (conv => whnf)
    refine ⟨rfl, hp.load ?_⟩
    (conv => whnf)
    refine (spec_CompareWordsW _ _ _ _ _ hx1 hrow.ints hw).mono ?_
    rintro v h2 ⟨rfl, hh⟩
    subst h2
    (conv => whnf)
    generalize hcv : cmpW w (L.getD i []) = cv at *
    refine HIf.beq (fun h0 => ?_) (fun h0 => ?_)
    · rw [if_pos h0] at hpa
      have hT : T ++ L.drop i = putW w L := by
        cases pl
        · rw [← hpa]; exact hT2 rfl
        · exact hT1 rfl
      rw [hda] at hT
      subst h0
      (conv => whnf)
      refine HIf.decF (by omega) ?_
      (conv => whnf)
      refine HIf.no ?_
      (conv => whnf)
      refine HIf.no ?_
      (conv => whnf)
      refine HIf.no ?_
      (conv => whnf)
      refine ⟨rfl, m1.idx hil (fun p2 hp2 => ?_)⟩
      (conv => whnf)
      refine ⟨rfl, hp2.load ?_⟩
      (conv => whnf)
      refine HLit.row rfl ?_
      (conv => whnf)
      refine ⟨rfl, rfl, HApp.snocS E M (Ext.refl _) hrow (by
        have := hρ i hil
        rintro (⟨m, hm, e⟩ | ⟨_, e⟩)
        · exact hne m hm e
        · omega) (Or.inl (hρ i hil)) (by omega) (fun h3 z3 E3 hl3 M3 => ?_)⟩
      (conv => whnf)
      refine HArith.fits (by omega) (by omega) ?_
      (conv => whnf)
      refine ⟨⟨i + 1, true, z3, _, rfl, by omega, E3, M3.weaken ?_, (fun _ => by rw [List.append_assoc]; exact hT), (fun e => by cases e)⟩, by show L.length - (i + 1) < L.length - i; omega⟩
      rintro q _ ((⟨m, hm, e⟩ | ⟨_, e⟩) | e)
      · exact Or.inl ⟨m, by omega, e⟩
      · exact Or.inr ⟨rfl, e⟩
      · exact Or.inl ⟨i, by omega, e⟩
    · rw [if_neg h0] at hpa
      by_cases hneg : cv < 0
      · rw [if_pos hneg] at hpa
        cases pl
        · have hT := hT2 rfl
          rw [hpa] at hT
          (conv => whnf)
          (repeat (first | (refine ⟨rfl, Ints.len (by assumption) ?_⟩; conv => whnf) | (refine ⟨rfl, Rows.len (by assumption) ?_⟩; conv => whnf) | (refine ⟨rfl, HLen.sl ?_⟩; conv => whnf) | (refine ⟨rfl, At.load (by assumption) ?_⟩; conv => whnf) | (refine HIf.yes ?_; conv => whnf) | (refine HIf.no ?_; conv => whnf) | (refine HIf.isT (by assumption) ?_; conv => whnf) | (refine HIf.isF (by assumption) ?_; conv => whnf) | (refine HIf.decT (by assumption) ?_; conv => whnf) | (refine HIf.decF (by assumption) ?_; conv => whnf) | (refine HIf.beqT (by assumption) ?_; conv => whnf) | (refine HIf.beqF (by assumption) ?_; conv => whnf) | (refine HIf.bneT (by assumption) ?_; conv => whnf) | (refine HIf.bneF (by assumption) ?_; conv => whnf) | (refine ⟨rfl, Ints.idxN (by assumption) (by omega) (fun p hp => ?_)⟩; conv => whnf) | (refine ⟨rfl, Rows.idxN (by assumption) (by omega) (fun p y hp hy => ?_)⟩; conv => whnf) | (refine And.intro (show Kd.isBool _ = true from rfl) ?_; conv => whnf) | (refine ⟨rfl, Ints.idx (by assumption) (by omega) (by omega) (fun p hp => ?_)⟩; conv => whnf) | (refine ⟨rfl, Rows.idx (by assumption) (by omega) (by omega) (fun p y hp hy => ?_)⟩; conv => whnf) | (refine HArith.fits (by omega) (by omega) ?_; conv => whnf) | (refine Or.inl (And.intro (show Region.lexB _ _ = true by kernel_rfl) ?_); conv => whnf)))
          refine HLit.empty ?_
          (conv => whnf)
          refine ⟨rfl, rfl, HApp.moreR (OwnR.push h' []) (hx1.ext (Ext.push _ _)) (by simp; omega) (fun h3 r3 y3 B3 hr3 O3 => ?_)⟩
          have E3 : Ext h' h3 := (Ext.push h' [Row.own []]).but B3 (Nat.le_refl _)
          have hl3 : h'.length ≤ r3 := by simp at hr3; omega
          rw [List.nil_append] at O3
          (conv => whnf)
          refine HLit.row (O3.own (b := 0) (by omega)).one ?_
          (conv => whnf)
          refine ⟨rfl, rfl, HApp.snocS E M E3 O3 (by
            rintro (⟨m, hm, e⟩ | ⟨e, _⟩)
            · have := hρ m (by omega)
              omega
            · cases e) (Or.inr hl3) (by omega) (fun h4 z4 E4 hl4 M4 => ?_)⟩
          have m4 := m0.ext E4
          have hrow4 := m4.inner' hil
          (conv => whnf)
          refine ⟨rfl, m4.idx hil (fun p2 hp2 => ?_)⟩
          (conv => whnf)
          refine ⟨rfl, hp2.load ?_⟩
          (conv => whnf)
          refine HLit.row rfl ?_
          (conv => whnf)
          refine ⟨rfl, rfl, HApp.snocS E4 M4 (Ext.refl _) hrow4 (by
            have := hρ i hil
            rintro ((⟨m, hm, e⟩ | ⟨e, _⟩) | e)
            · exact hne m hm e
            · cases e
            · omega) (Or.inl (hρ i hil)) (by simp; omega) (fun h5 z5 E5 hl5 M5 => ?_)⟩
          (conv => whnf)
          refine HArith.fits (by omega) (by omega) ?_
          (conv => whnf)
          refine ⟨⟨i + 1, true, z5, _, rfl, by omega, E5, M5.weaken ?_, (fun _ => by rw [List.append_assoc, List.append_assoc, ← hT, hda]; rfl), (fun e => by cases e)⟩, by show L.length - (i + 1) < L.length - i; omega⟩
          rintro q _ (((⟨m, hm, e⟩ | ⟨e, _⟩) | e) | e)
          · exact Or.inl ⟨m, by omega, e⟩
          · cases e
          · exact Or.inr ⟨rfl, by omega⟩
          · exact Or.inl ⟨i, by omega, e⟩
        · have hT := hT1 rfl
          rw [hda] at hT
          (conv => whnf)
          (repeat (first | (refine ⟨rfl, Ints.len (by assumption) ?_⟩; conv => whnf) | (refine ⟨rfl, Rows.len (by assumption) ?_⟩; conv => whnf) | (refine ⟨rfl, HLen.sl ?_⟩; conv => whnf) | (refine ⟨rfl, At.load (by assumption) ?_⟩; conv => whnf) | (refine HIf.yes ?_; conv => whnf) | (refine HIf.no ?_; conv => whnf) | (refine HIf.isT (by assumption) ?_; conv => whnf) | (refine HIf.isF (by assumption) ?_; conv => whnf) | (refine HIf.decT (by assumption) ?_; conv => whnf) | (refine HIf.decF (by assumption) ?_; conv => whnf) | (refine HIf.beqT (by assumption) ?_; conv => whnf) | (refine HIf.beqF (by assumption) ?_; conv => whnf) | (refine HIf.bneT (by assumption) ?_; conv => whnf) | (refine HIf.bneF (by assumption) ?_; conv => whnf) | (refine ⟨rfl, Ints.idxN (by assumption) (by omega) (fun p hp => ?_)⟩; conv => whnf) | (refine ⟨rfl, Rows.idxN (by assumption) (by omega) (fun p y hp hy => ?_)⟩; conv => whnf) | (refine And.intro (show Kd.isBool _ = true from rfl) ?_; conv => whnf) | (refine ⟨rfl, Ints.idx (by assumption) (by omega) (by omega) (fun p hp => ?_)⟩; conv => whnf) | (refine ⟨rfl, Rows.idx (by assumption) (by omega) (by omega) (fun p y hp hy => ?_)⟩; conv => whnf) | (refine HArith.fits (by omega) (by omega) ?_; conv => whnf) | (refine Or.inl (And.intro (show Region.lexB _ _ = true by kernel_rfl) ?_); conv => whnf)))
          refine ⟨rfl, m1.idx hil (fun p2 hp2 => ?_)⟩
          (conv => whnf)
          refine ⟨rfl, hp2.load ?_⟩
          (conv => whnf)
          refine HLit.row rfl ?_
          (conv => whnf)
          refine ⟨rfl, rfl, HApp.snocS E M (Ext.refl _) hrow (by
            have := hρ i hil
            rintro (⟨m, hm, e⟩ | ⟨_, e⟩)
            · exact hne m hm e
            · omega) (Or.inl (hρ i hil)) (by omega) (fun h3 z3 E3 hl3 M3 => ?_)⟩
          (conv => whnf)
          refine HArith.fits (by omega) (by omega) ?_
          (conv => whnf)
          refine ⟨⟨i + 1, true, z3, _, rfl, by omega, E3, M3.weaken ?_, (fun _ => by rw [List.append_assoc]; exact hT), (fun e => by cases e)⟩, by show L.length - (i + 1) < L.length - i; omega⟩
          rintro q _ ((⟨m, hm, e⟩ | ⟨_, e⟩) | e)
          · exact Or.inl ⟨m, by omega, e⟩
          · exact Or.inr ⟨rfl, e⟩
          · exact Or.inl ⟨i, by omega, e⟩
      · rw [if_neg hneg] at hpa
        have hT3 : pl = true → T ++ (L.getD i [] :: L.drop (i + 1)) = putW w L := fun e => by rw [← hda]; exact hT1 e
        have hT4 : pl = false → T ++ (L.getD i [] :: putW w (L.drop (i + 1))) = putW w L := fun e => by rw [← hpa]; exact hT2 e
        (conv => whnf)
        (repeat (first | (refine ⟨rfl, Ints.len (by assumption) ?_⟩; conv => whnf) | (refine ⟨rfl, Rows.len (by assumption) ?_⟩; conv => whnf) | (refine ⟨rfl, HLen.sl ?_⟩; conv => whnf) | (refine ⟨rfl, At.load (by assumption) ?_⟩; conv => whnf) | (refine HIf.yes ?_; conv => whnf) | (refine HIf.no ?_; conv => whnf) | (refine HIf.isT (by assumption) ?_; conv => whnf) | (refine HIf.isF (by assumption) ?_; conv => whnf) | (refine HIf.decT (by assumption) ?_; conv => whnf) | (refine HIf.decF (by assumption) ?_; conv => whnf) | (refine HIf.beqT (by assumption) ?_; conv => whnf) | (refine HIf.beqF (by assumption) ?_; conv => whnf) | (refine HIf.bneT (by assumption) ?_; conv => whnf) | (refine HIf.bneF (by assumption) ?_; conv => whnf) | (refine ⟨rfl, Ints.idxN (by assumption) (by omega) (fun p hp => ?_)⟩; conv => whnf) | (refine ⟨rfl, Rows.idxN (by assumption) (by omega) (fun p y hp hy => ?_)⟩; conv => whnf) | (refine And.intro (show Kd.isBool _ = true from rfl) ?_; conv => whnf) | (refine ⟨rfl, Ints.idx (by assumption) (by omega) (by omega) (fun p hp => ?_)⟩; conv => whnf) | (refine ⟨rfl, Rows.idx (by assumption) (by omega) (by omega) (fun p y hp hy => ?_)⟩; conv => whnf) | (refine HArith.fits (by omega) (by omega) ?_; conv => whnf) | (refine Or.inl (And.intro (show Region.lexB _ _ = true by kernel_rfl) ?_); conv => whnf)))
        refine ⟨rfl, m1.idx hil (fun p2 hp2 => ?_)⟩
        (conv => whnf)
        refine ⟨rfl, hp2.load ?_⟩
        (conv => whnf)
        refine HLit.row rfl ?_
        (conv => whnf)
        refine ⟨rfl, rfl, HApp.snocS E M (Ext.refl _) hrow (by
          have := hρ i hil
          rintro (⟨m, hm, e⟩ | ⟨_, e⟩)
          · exact hne m hm e
          · omega) (Or.inl (hρ i hil)) (by omega) (fun h3 z3 E3 hl3 M3 => ?_)⟩
        (conv => whnf)
        refine HArith.fits (by omega) (by omega) ?_
        (conv => whnf)
        refine ⟨⟨i + 1, pl, z3, _, rfl, by omega, E3, M3.weaken ?_, (fun e => by rw [List.append_assoc]; exact hT3 e), (fun e => by rw [List.append_assoc]; exact hT4 e)⟩, by show L.length - (i + 1) < L.length - i; omega⟩
        rintro q _ ((⟨m, hm, e⟩ | e) | e)
        · exact Or.inl ⟨m, by omega, e⟩
        · exact Or.inr e
        · exact Or.inl ⟨i, by omega, e⟩
  · have e : i = L.length := by omega
    have hd : L.drop i = [] := List.drop_eq_nil_of_le (by omega)
    cases pl
    · have hT := hT2 rfl
      rw [hd] at hT
      (conv => whnf)
      (repeat (first | (refine ⟨rfl, Ints.len (by assumption) ?_⟩; conv => whnf) | (refine ⟨rfl, Rows.len (by assumption) ?_⟩; conv => whnf) | (refine ⟨rfl, HLen.sl ?_⟩; conv => whnf) | (refine ⟨rfl, At.load (by assumption) ?_⟩; conv => whnf) | (refine HIf.yes ?_; conv => whnf) | (refine HIf.no ?_; conv => whnf) | (refine HIf.isT (by assumption) ?_; conv => whnf) | (refine HIf.isF (by assumption) ?_; conv => whnf) | (refine HIf.decT (by assumption) ?_; conv => whnf) | (refine HIf.decF (by assumption) ?_; conv => whnf) | (refine HIf.beqT (by assumption) ?_; conv => whnf) | (refine HIf.beqF (by assumption) ?_; conv => whnf) | (refine HIf.bneT (by assumption) ?_; conv => whnf) | (refine HIf.bneF (by assumption) ?_; conv => whnf) | (refine ⟨rfl, Ints.idxN (by assumption) (by omega) (fun p hp => ?_)⟩; conv => whnf) | (refine ⟨rfl, Rows.idxN (by assumption) (by omega) (fun p y hp hy => ?_)⟩; conv => whnf) | (refine And.intro (show Kd.isBool _ = true from rfl) ?_; conv => whnf) | (refine ⟨rfl, Ints.idx (by assumption) (by omega) (by omega) (fun p hp => ?_)⟩; conv => whnf) | (refine ⟨rfl, Rows.idx (by assumption) (by omega) (by omega) (fun p y hp hy => ?_)⟩; conv => whnf) | (refine HArith.fits (by omega) (by omega) ?_; conv => whnf) | (refine Or.inl (And.intro (show Region.lexB _ _ = true by kernel_rfl) ?_); conv => whnf)))
      refine HLit.empty ?_
      (conv => whnf)
      refine ⟨rfl, rfl, HApp.moreR (OwnR.push h' []) (hx1.ext (Ext.push _ _)) (by simp; omega) (fun h3 r3 y3 B3 hr3 O3 => ?_)⟩
      have E3 : Ext h' h3 := (Ext.push h' [Row.own []]).but B3 (Nat.le_refl _)
      have hl3 : h'.length ≤ r3 := by simp at hr3; omega
      have hE := E.1
      rw [List.nil_append] at O3
      (conv => whnf)
      refine HLit.row (O3.own (b := 0) (by omega)).one ?_
      (conv => whnf)
      refine ⟨rfl, rfl, HApp.snocS E M E3 O3 (by
        rintro (⟨m, hm, e⟩ | ⟨e, _⟩)
        · have := hρ m (by omega)
          omega
        · cases e) (Or.inr hl3) (by omega) (fun h4 z4 E4 hl4 M4 => ?_)⟩
      (conv => whnf)
      refine ⟨_, rfl, E4, ?_⟩
      rw [← hT]
      refine M4.weaken ?_
      rintro q _ ((⟨m, hm, e⟩ | ⟨e, _⟩) | e)
      · exact Or.inl ⟨m, by omega, e⟩
      · cases e
      · exact Or.inr (by omega)
    · have hT := hT1 rfl
      rw [hd, List.append_nil] at hT
      (conv => whnf)
      (repeat (first | (refine ⟨rfl, Ints.len (by assumption) ?_⟩; conv => whnf) | (refine ⟨rfl, Rows.len (by assumption) ?_⟩; conv => whnf) | (refine ⟨rfl, HLen.sl ?_⟩; conv => whnf) | (refine ⟨rfl, At.load (by assumption) ?_⟩; conv => whnf) | (refine HIf.yes ?_; conv => whnf) | (refine HIf.no ?_; conv => whnf) | (refine HIf.isT (by assumption) ?_; conv => whnf) | (refine HIf.isF (by assumption) ?_; conv => whnf) | (refine HIf.decT (by assumption) ?_; conv => whnf) | (refine HIf.decF (by assumption) ?_; conv => whnf) | (refine HIf.beqT (by assumption) ?_; conv => whnf) | (refine HIf.beqF (by assumption) ?_; conv => whnf) | (refine HIf.bneT (by assumption) ?_; conv => whnf) | (refine HIf.bneF (by assumption) ?_; conv => whnf) | (refine ⟨rfl, Ints.idxN (by assumption) (by omega) (fun p hp => ?_)⟩; conv => whnf) | (refine ⟨rfl, Rows.idxN (by assumption) (by omega) (fun p y hp hy => ?_)⟩; conv => whnf) | (refine And.intro (show Kd.isBool _ = true from rfl) ?_; conv => whnf) | (refine ⟨rfl, Ints.idx (by assumption) (by omega) (by omega) (fun p hp => ?_)⟩; conv => whnf) | (refine ⟨rfl, Rows.idx (by assumption) (by omega) (by omega) (fun p y hp hy => ?_)⟩; conv => whnf) | (refine HArith.fits (by omega) (by omega) ?_; conv => whnf) | (refine Or.inl (And.intro (show Region.lexB _ _ = true by kernel_rfl) ?_); conv => whnf)))
      refine ⟨_, rfl, E, ?_⟩
      rw [← hT]
      refine M.weaken ?_
      rintro q _ (⟨m, hm, e⟩ | ⟨_, e⟩)
      · exact Or.inl ⟨m, by omega, e⟩
      · exact Or.inr e

set_option maxHeartbeats 2000000 in
theorem spec_ReducedWords (h : Heap) (x0 : H0) (a0 : List (List Int)) (x1 : H0) (a1 : List Int) (hx0 : Rows h x0 a0) (hx1 : Ints h x1 a1) (s0 : a0.length ≤ 1048576 ∧ tot a0 ≤ 1048576) (s1 : a1.length ≤ 1048576) :
    HCalls dm Try.prog 13 [.s x0, .s x1] h (fun r h' => ∃ y, r = TM y (redOk a0 a1) ∧ Ext h h' ∧ OwnM h.length h'.length h' y (reducedWords a0 a1)) := by
  refine calls_of_hFun (m := 0) kd_ok mixed Try.func13 rfl (by kernel_rfl) rfl rfl (of_decide_eq_true rfl) ?_; unfold hFun; (conv => whnf)
  refine (spec_NormalForm _ _ a0 _ a1 hx0 hx1 s0 s1).mono ?_
  rintro r h1 ⟨y1, rfl, f1⟩
  have E1 := f1.1
  have hE1 := E1.1
  (conv => whnf)
  cases hic : isWord a0 a1
  · rw [redOk_off hic, reducedWords_off (redOk_off hic)]
    (conv => whnf)
    (repeat (first | (refine ⟨rfl, Ints.len (by assumption) ?_⟩; conv => whnf) | (refine ⟨rfl, Rows.len (by assumption) ?_⟩; conv => whnf) | (refine ⟨rfl, HLen.sl ?_⟩; conv => whnf) | (refine ⟨rfl, At.load (by assumption) ?_⟩; conv => whnf) | (refine HIf.yes ?_; conv => whnf) | (refine HIf.no ?_; conv => whnf) | (refine HIf.isT (by assumption) ?_; conv => whnf) | (refine HIf.isF (by assumption) ?_; conv => whnf) | (refine HIf.decT (by assumption) ?_; conv => whnf) | (refine HIf.decF (by assumption) ?_; conv => whnf) | (refine HIf.beqT (by assumption) ?_; conv => whnf) | (refine HIf.beqF (by assumption) ?_; conv => whnf) | (refine HIf.bneT (by assumption) ?_; conv => whnf) | (refine HIf.bneF (by assumption) ?_; conv => whnf) | (refine ⟨rfl, Ints.idxN (by assumption) (by omega) (fun p hp => ?_)⟩; conv => whnf) | (refine ⟨rfl, Rows.idxN (by assumption) (by omega) (fun p y hp hy => ?_)⟩; conv => whnf) | (refine And.intro (show Kd.isBool _ = true from rfl) ?_; conv => whnf) | (refine ⟨rfl, Ints.idx (by assumption) (by omega) (by omega) (fun p hp => ?_)⟩; conv => whnf) | (refine ⟨rfl, Rows.idx (by assumption) (by omega) (by omega) (fun p y hp hy => ?_)⟩; conv => whnf) | (refine HArith.fits (by omega) (by omega) ?_; conv => whnf) | (refine Or.inl (And.intro (show Region.lexB _ _ = true by kernel_rfl) ?_); conv => whnf)))
    refine HLit.empty ?_
    (conv => whnf)
    exact ⟨_, rfl, E1.pushed _, (OwnM.none h1).lower E1.1⟩
  obtain ⟨hC, hl, hw⟩ := word_cartan hic
  obtain ⟨P, hn15, R⟩ := normF_red hic
  rw [normalForm_on hic] at f1
  obtain ⟨q1, hq1, O1⟩ := f1.row
  have hbig : ∀ {Q : List (List Int)}, Found a0 (normF a0 a1).length (imageOf a0 a1) (normF a0 a1) Q → Q.length ≤ 120 → Q.length ≤ 1048576 ∧ tot Q ≤ 1048576 := fun {Q} F hQ => by
    have := tot_le 15 Q fun l hl => by
      have := (F.red l hl).1
      omega
    omega
  have hi1 := f1.ints
  have hall : redAll a0 a1 = spellW a0 (normF a0 a1).length (imageOf a0 a1) := rfl
  have F0 : Found a0 (normF a0 a1).length (imageOf a0 a1) (normF a0 a1) [normF a0 a1] := ⟨fun q hq => by
    have e : q = normF a0 a1 := by simpa using hq
    rw [e]
    exact R, by simp, by simp⟩
  generalize normF a0 a1 = x at *
  generalize imageOf a0 a1 = v at *
  have hx15 : ¬ (x.length : Int) > 15 := by omega
  (conv => whnf)
  (repeat (first | (refine ⟨rfl, Ints.len (by assumption) ?_⟩; conv => whnf) | (refine ⟨rfl, Rows.len (by assumption) ?_⟩; conv => whnf) | (refine ⟨rfl, HLen.sl ?_⟩; conv => whnf) | (refine ⟨rfl, At.load (by assumption) ?_⟩; conv => whnf) | (refine HIf.yes ?_; conv => whnf) | (refine HIf.no ?_; conv => whnf) | (refine HIf.isT (by assumption) ?_; conv => whnf) | (refine HIf.isF (by assumption) ?_; conv => whnf) | (refine HIf.decT (by assumption) ?_; conv => whnf) | (refine HIf.decF (by assumption) ?_; conv => whnf) | (refine HIf.beqT (by assumption) ?_; conv => whnf) | (refine HIf.beqF (by assumption) ?_; conv => whnf) | (refine HIf.bneT (by assumption) ?_; conv => whnf) | (refine HIf.bneF (by assumption) ?_; conv => whnf) | (refine ⟨rfl, Ints.idxN (by assumption) (by omega) (fun p hp => ?_)⟩; conv => whnf) | (refine ⟨rfl, Rows.idxN (by assumption) (by omega) (fun p y hp hy => ?_)⟩; conv => whnf) | (refine And.intro (show Kd.isBool _ = true from rfl) ?_; conv => whnf) | (refine ⟨rfl, Ints.idx (by assumption) (by omega) (by omega) (fun p hp => ?_)⟩; conv => whnf) | (refine ⟨rfl, Rows.idx (by assumption) (by omega) (by omega) (fun p y hp hy => ?_)⟩; conv => whnf) | (refine HArith.fits (by omega) (by omega) ?_; conv => whnf) | (refine Or.inl (And.intro (show Region.lexB _ _ = true by kernel_rfl) ?_); conv => whnf)))
  refine HLit.row f1.own.one ?_
  (conv => whnf)
  have OQ := OutM.single O1
  have hq1l := O1.lt
  refine HLoop.intro [9, 8] [32, 33, 34, 35, 38, 39, 40, 41, 42, 43, 10, 11, 44, 45, 46, 47, 51, 52, 53, 54, 55, 56, 57, 58, 59, 60, 50, 61, 62, 12, 13, 63, 64, 65, 66, 67, 68, 69, 70, 4, 5, 71, 72, 73, 74, 8, 48, 49, 11, 36, 37, 9] (by kernel_rfl) (by kernel_rfl) (fun vs h' => ∃ (k : Nat) (z : H0) (Q : List (List Int)) (G : Nat → Prop), vs = [I k, .s z] ∧ k ≤ Q.length ∧ Ext h h' ∧ (∀ q, G q → h.length ≤ q ∧ q < h'.length) ∧ OutM G h' z Q ∧ Found a0 x.length v x Q ∧ Q.length ≤ 120 ∧ (∀ j, j < k → ∀ t : Nat, brOk a0 (Q.getD j []) t = true → braid a0 (Q.getD j []) t ∈ Q)) (fun vs _ => 120 - natAt vs 0) ⟨0, _, [x], _, rfl, by omega, E1.pushed _, (fun q g => by
    simp only [List.length_append, List.length_cons, List.length_nil]
    rcases g with g | g <;> omega), OQ, F0, by simp, fun j hj => by omega⟩ ?_
  rintro vs h' ⟨k, z, Q, G, rfl, hk, E, hG, OG, FQ, hQ, hcl⟩
  have hbQ := hbig FQ hQ
  (conv => whnf)
  refine ⟨rfl, OG.len ?_⟩
  (conv => whnf)
  refine HIf.dec (fun hlt => ?_) (fun hge => ?_)
  · have hkl : k < Q.length := by omega
    have Rq := FQ.red _ (getD_mem hkl)
    have hq15 : (Q.getD k []).length ≤ 15 := by rw [Rq.1]; omega
    have hqm := getD_mem hkl
    have hgq : ∀ T : List (List Int), (Q ++ T).getD k [] = Q.getD k [] := fun T => by
      simp only [List.getD]
      rw [List.getElem?_append_left hkl]
    generalize hq : Q.getD k [] = q at *
    (conv => whnf)
    refine ⟨rfl, Rows.idxN OG.rows hkl (fun p y hp hy => ?_)⟩
    rw [hq] at hy
    (conv => whnf)
    refine ⟨rfl, hp.load ?_⟩
    (conv => whnf)
    refine (spec_BraidPlaces _ _ a0 _ q (hx0.ext E) hy s0 (by omega)).mono ?_
    rintro r h3 ⟨y3, rfl, f3⟩
    obtain ⟨rp, hrp, Op⟩ := f3.row
    have E3 := E.trans f3.1
    have hE3 := f3.1.1
    have hpl := brTo_le a0 q q.length
    have hmem : ∀ i : Int, i ∈ brTo a0 q q.length → ∃ t : Nat, i = t ∧ t < q.length ∧ brOk a0 q t = true := fun i hi => mem_brTo.1 hi
    have hmem2 : ∀ t : Nat, brOk a0 q t = true → (t : Int) ∈ brTo a0 q q.length := fun t ht => mem_brTo.2 ⟨t, rfl, brOk_lt ht, ht⟩
    generalize brTo a0 q q.length = pl at *
    (conv => whnf)
    refine HLoop.intro [11, 8] [44, 45, 46, 47, 51, 52, 53, 54, 55, 56, 57, 58, 59, 60, 50, 61, 62, 12, 13, 63, 64, 65, 66, 67, 68, 69, 70, 4, 5, 71, 72, 73, 74, 8, 48, 49, 11] (by kernel_rfl) (by kernel_rfl) (fun vs h'' => ∃ (n : Nat) (z' : H0) (T : List (List Int)) (G' : Nat → Prop), vs = [I n, .s z'] ∧ n ≤ pl.length ∧ Ext h h'' ∧ (∀ q, G' q → h.length ≤ q ∧ q < h''.length) ∧ ¬ G' rp ∧ OwnR rp h'' y3 pl ∧ OutM G' h'' z' (Q ++ T) ∧ Found a0 x.length v x (Q ++ T) ∧ (Q ++ T).length ≤ 120 ∧ ∀ j, j < n → braid a0 q (pl.getD j 0) ∈ Q ++ T) (fun vs _ => pl.length - natAt vs 0) ⟨0, _, [], G, rfl, by omega, E3, (fun q g => by have := hG q g; omega), (fun g => by have := hG rp g; omega), Op, by rw [List.append_nil]; exact OG.ext f3.1, by rw [List.append_nil]; exact FQ, by rw [List.append_nil]; exact hQ, fun j hj => by omega⟩ ?_
    rintro vs h4 ⟨n, z', T, G', rfl, hn, E4, hG', hrpG, Op', OT, FT, hT, hdone⟩
    have hbT := hbig FT hT
    (conv => whnf)
    refine ⟨rfl, Op'.ints.len ?_⟩
    (conv => whnf)
    refine HIf.dec (fun hlt2 => ?_) (fun hge2 => ?_)
    · have hnl : n < pl.length := by omega
      have hin : pl.getD n 0 ∈ pl := by
        have e : pl.getD n 0 = pl[n] := by simp [List.getD, hnl]
        rw [e]
        exact List.getElem_mem hnl
      obtain ⟨t, et, htq, htok⟩ := hmem _ hin
      have hkl2 : k < (Q ++ T).length := by rw [List.length_append]; omega
      (conv => whnf)
      refine Or.inr (Or.inr (Or.inl (Exists.intro 15 (Exists.intro [0, 1, 2, 3, 4, 5, 6, 7, 8] (Exists.intro [9, 10, 11, 12, 13, 14] (And.intro (show heldOk _ _ _ _ = true by kernel_rfl) ?_)))))); (conv => whnf)
      refine ⟨rfl, Rows.idxN OT.rows hkl2 (fun p2 y2 hp2 hy2 => ?_)⟩
      rw [hgq T] at hy2
      (conv => whnf)
      refine ⟨rfl, hp2.load ?_⟩
      (conv => whnf)
      refine ⟨rfl, Ints.idxN Op'.ints hnl (fun p5 hp5 => ?_)⟩
      rw [et] at hp5
      (conv => whnf)
      refine ⟨rfl, hp5.load ?_⟩
      (conv => whnf)
      refine HCallF.tupF (spec_BraidAt0 _ _ a0 _ q (t : Int) (hx0.ext E4).frz hy2.frz s0 (by omega)) (fun h5 y5 f5 => ?_)
      obtain ⟨r5, hr5, O5⟩ := f5.row
      have E5 := E4.trans f5.1
      have hE5 := f5.1.1
      have hbl : (braid a0 q (t : Int)).length ≤ 30 := by have := braid_len a0 q (t : Int); omega
      have OT5 := OT.ext f5.1
      have Op5 := Op'.ext f5.1
      (conv => whnf)
      refine (spec_l7In _ _ (Q ++ T) _ _ OT5.rows f5.ints hbT).mono ?_
      rintro r h6 ⟨rfl, hh⟩
      subst h6
      (conv => whnf)
      refine HIf.bnot (HIf.dec (fun hold => ?_) (fun hnew => ?_))
      · (conv => whnf)
        refine HArith.fits (by omega) (by omega) ?_
        (conv => whnf)
        refine ⟨⟨n + 1, z', T, G', rfl, by omega, E5, (fun q g => by have := hG' q g; omega), hrpG, Op5, OT5, FT, hT, fun j hj => ?_⟩, by show pl.length - (n + 1) < pl.length - n; omega⟩
        by_cases ej : j = n
        · rw [ej, et]
          exact hold
        · exact hdone j (by omega)
      · have Fst := FT.step (by omega) (List.mem_append_left T hqm) htok hnew
        (conv => whnf)
        refine ⟨rfl, OT5.len ?_⟩
        (conv => whnf)
        refine HIf.dec (fun hfull => ?_) (fun hroom => ?_)
        · have hover : 120 < (redAll a0 a1).length := by
            have := Fst.le hC P (by omega)
            rw [hall]
            simp only [List.length_append, List.length_cons, List.length_nil] at this hfull ⊢
            omega
          rw [redOk_over hover, reducedWords_off (redOk_over hover)]
          (conv => whnf)
          refine HLit.empty ?_
          (conv => whnf)
          exact ⟨_, rfl, E5.pushed _, (OwnM.none h5).lower E5.1⟩
        · (conv => whnf)
          refine HLit.row f5.own.one ?_
          (conv => whnf)
          refine ⟨rfl, rfl, HApp.snocO OT f5.1 O5 hr5 (by omega) (fun h7 z7 k7 O7 => ?_)⟩
          have hk7 := k7.1
          have E7 := k7.ext (fun q g => (hG' q g).1) E4
          have Op7 := Op'.keep k7 hrpG
          have hrpl := Op'.lt
          rw [List.append_assoc] at O7 Fst
          (conv => whnf)
          refine HArith.fits (by omega) (by omega) ?_
          (conv => whnf)
          have hE4 := E4.1
          refine ⟨⟨n + 1, z7, T ++ [braid a0 q (t : Int)], fun q => (G' q ∨ h4.length ≤ q) ∧ q < h7.length, rfl, by omega, E7, (fun q g => ⟨?_, g.2⟩), (fun g => ?_), Op7, O7.weaken (fun q hq g => ⟨g, hq⟩), Fst, ?_, fun j hj => ?_⟩, by show pl.length - (n + 1) < pl.length - n; omega⟩
          · rcases g.1 with g | g
            · exact (hG' q g).1
            · omega
          · rcases g.1 with g | g
            · exact hrpG g
            · omega
          · rw [← List.append_assoc, List.length_append]
            simp only [List.length_cons, List.length_nil]
            omega
          · rw [← List.append_assoc]
            by_cases ej : j = n
            · rw [ej, et]
              simp
            · exact List.mem_append_left _ (hdone j (by omega))
    · have en : n = pl.length := by omega
      subst en
      (conv => whnf)
      refine HArith.fits (by omega) (by omega) ?_
      (conv => whnf)
      refine ⟨⟨k + 1, z', Q ++ T, G', rfl, by rw [List.length_append]; omega, E4, hG', OT, FT, hT, fun j hj t ht => ?_⟩, by show 120 - (k + 1) < 120 - k; omega⟩
      by_cases ej : j = k
      · rw [ej, hgq T] at ht ⊢
        obtain ⟨m, hm, e⟩ := List.getElem_of_mem (hmem2 t ht)
        have := hdone m hm
        have e2 : pl.getD m 0 = t := by simp [List.getD, hm, e]
        rw [e2] at this
        exact this
      · have e : (Q ++ T).getD j [] = Q.getD j [] := by
          simp only [List.getD]
          rw [List.getElem?_append_left (by omega)]
        rw [e] at ht ⊢
        exact List.mem_append_left T (hcl j (by omega) t ht)
  · have ek : k = Q.length := by omega
    subst ek
    have hfull : insW Q = redAll a0 a1 := by
      rw [hall]
      refine FQ.full hC P (by omega) fun q hq t ht => ?_
      obtain ⟨j, hj, e⟩ := mem_getD hq
      rw [← e] at ht ⊢
      exact hcl j hj t ht
    have hfit : (redAll a0 a1).length ≤ 120 := by
      rw [← hfull]
      have := (insW_facts Q).2.2
      omega
    rw [redOk_on hic hfit, reducedWords_on (redOk_on hic hfit), ← hfull]
    have RQ := OG.rows.ext (Ext.push h' [Row.own []])
    have hE := E.1
    (conv => whnf)
    refine HLit.empty ?_
    (conv => whnf)
    refine HLoop.intro [15, 14] [76, 77, 78, 79, 82, 83, 84, 85, 86, 87, 14, 80, 81, 15] (by kernel_rfl) (by kernel_rfl) (fun vs h'' => ∃ (j : Nat) (z' : H0), vs = [I j, .s z'] ∧ j ≤ Q.length ∧ Ext (h' ++ [Row.own []]) h'' ∧ OwnM h'.length h''.length h'' z' (insW (Q.take j))) (fun vs _ => Q.length - natAt vs 0) ⟨0, _, rfl, by omega, Ext.refl _, OwnM.none h'⟩ ?_
    rintro vs h5 ⟨j, z', rfl, hj, E5, O⟩
    have RQ := RQ.ext E5
    have hE5 := E5.1
    (conv => whnf)
    refine ⟨rfl, RQ.len ?_⟩
    (conv => whnf)
    refine HIf.dec (fun hlt => ?_) (fun hge => ?_)
    · have hjl : j < Q.length := by omega
      have hql : (Q.getD j []).length ≤ 15 := by rw [(FQ.red _ (getD_mem hjl)).1]; omega
      have hil : (insW (Q.take j)).length ≤ 120 := by
        have := (insW_facts (Q.take j)).2.2
        rw [List.length_take] at this
        omega
      obtain ⟨r, ρ, rfl, g2, g3, g4, m⟩ := O
      (conv => whnf)
      refine ⟨rfl, Rows.idxN RQ hjl (fun p y hp hy => ?_)⟩
      (conv => whnf)
      refine ⟨rfl, hp.load ?_⟩
      (conv => whnf)
      refine (spec_l11Put _ _ _ _ _ (Q.getD j []) m hy (by omega) (by omega)).mono ?_
      rintro w h6 ⟨y6, rfl, E6, M6⟩
      rw [← insW_snoc Q j hjl] at M6
      (conv => whnf)
      refine HArith.fits (by omega) (by omega) ?_
      (conv => whnf)
      refine ⟨⟨j + 1, y6, rfl, by omega, E5.trans E6, M6.own (by simp at hE5; omega) ?_⟩, by show Q.length - (j + 1) < Q.length - j; omega⟩
      rintro q _ (⟨i, hi, e⟩ | e)
      · have := g4 i hi
        omega
      · simp at hE5
        omega
    · have e : j = Q.length := by omega
      subst e
      rw [List.take_length] at O
      (conv => whnf)
      exact ⟨_, rfl, (E.pushed _).trans E5, O.lower (by omega)⟩

end Go.Proofs.Ytjgnnjegaedinaa.Hx

namespace Go.Proofs.Ytjgnnjegaedinaa.Hx
open Go.RowKit Go.ChangeShapes Go.WideShapes Go.ChangeAt

theorem i64_wf {n : Int} (h : (Lit.int .i64 n).wf = true) : -9223372036854775808 ≤ n ∧ n ≤ 9223372036854775807 := by
  simp only [Lit.wf, Bool.and_eq_true, decide_eq_true_eq] at h
  have h1 : IntKind.i64.min = -9223372036854775808 := by decide
  have h2 : IntKind.i64.max = 9223372036854775807 := by decide
  rw [h1, h2] at h
  exact h

/-- Many values opened, one after the other. -/
theorem open_many {Q : List Int → Prop} {w : World} : ∀ (vs : List Value) {φ : Plan} {h : Heap}, Rep w.heap.size φ h w →
    (∀ v ∈ vs, ∃ l : List Int, Q l ∧ ∀ (φ : Plan) (h : Heap), Rep w.heap.size φ h w → Opened φ h w v (fun h' x => Ints h' x l)) →
    ∃ (xs : List H0) (L : List (List Int)) (φ' : Plan) (h' : Heap), Sub φ φ' ∧ Ext h h' ∧ Rep w.heap.size φ' h' w ∧ xs.length = vs.length ∧ L.length = vs.length ∧
      (∀ (i : Nat) (x : H0) (v : Value), xs[i]? = some x → vs[i]? = some v → rep0 φ' x v) ∧ (∀ (i : Nat) (x : H0) (l : List Int), xs[i]? = some x → L[i]? = some l → Ints h' x l) ∧ ∀ l ∈ L, Q l
  | [], φ, h, R, _ => ⟨[], [], φ, h, Sub.refl _, Ext.refl _, R, rfl, rfl, fun i x v e => by simp at e, fun i x v e => by simp at e, fun l e => by simp at e⟩
  | v :: vs, φ, h, R, each => by
    obtain ⟨l, hl, hop⟩ := each v (by simp)
    obtain ⟨x, φ1, h1, s1, e1, R1, r1, t1⟩ := hop φ h R
    obtain ⟨xs, L, φ2, h2, s2, e2, R2, n1, n2, r2, t2, b2⟩ := open_many vs R1 (fun v hv => each v (by simp [hv]))
    refine ⟨x :: xs, l :: L, φ2, h2, s1.trans s2, e1.trans e2, R2, by simp [n1], by simp [n2], fun i y v' hy hv => ?_, fun i y l' hy hl' => ?_, fun l' hl' => ?_⟩
    · cases i with
      | zero => simp at hy hv; subst hy; subst hv; exact rep0.mono s2 r1
      | succ i => exact r2 i y v' (by simpa using hy) (by simpa using hv)
    · cases i with
      | zero => simp at hy hl'; subst hy; subst hl'; exact t1.ext e2
      | succ i => exact t2 i y l' (by simpa using hy) (by simpa using hl')
    · rcases List.mem_cons.1 hl' with rfl | hm
      · exact hl
      · exact b2 l' hm

theorem Opened.mono {φ : Plan} {h : Heap} {w : World} {v : Value} {T T' : Heap → H0 → Prop} (H : Opened φ h w v T) (k : ∀ h' x, T h' x → T' h' x) : Opened φ h w v T' := by
  obtain ⟨x, φ', h', a, b, c, d, e⟩ := H
  exact ⟨x, φ', h', a, b, c, d, k _ _ e⟩

def Wide (l : List Int) : Prop := ∀ n ∈ l, -9223372036854775808 ≤ n ∧ n ≤ 9223372036854775807

def Sizes (L : List (List Int)) : Prop := L.length ≤ 9223372036854775807 ∧ ∀ i, (L.getD i []).length ≤ 9223372036854775807

/-- An argument that is a slice of slices of ints. -/
theorem open_arg_rowsI {H : Type} {enc : TypeId × Value → H} {P : Program} {w : World} {t u e : TypeId} {v : Value} {d : DataW H} {ps : List MemPlace} {base : Nat} (ht : P.underlying t = some (.slice u)) (hu : P.underlying u = some (.slice e)) (he : P.underlying e = some (.int .i64))
    (hcu : P.cellsOf u = 1) (hc : P.cellsOf e = 1) (hv : Value.okWide P w .any base t v) (h0 : DataW.Trod enc P w 0 (fun _ => true) true t v d ps) {φ : Plan} {h : Heap} (R : Rep w.heap.size φ h w) : ∃ L, Opened φ h w v (fun h' x => Rows h' x L ∧ Sizes L ∧ ∀ l ∈ L, Wide l) := by
  obtain ⟨a0, len, cap, rfl⟩ := okWide_slice ht hv
  obtain ⟨fuel, hf⟩ := h0
  have none_ : ∀ (ao : Option Addr) (cap : Nat), Opened φ h w (.slice ao 0 cap) (fun h' x => Rows h' x [] ∧ Sizes [] ∧ ∀ l ∈ ([] : List (List Int)), Wide l) := fun ao cap =>
    ⟨.pl (.slice ao 0 cap), φ, h, Sub.refl _, Ext.refl _, R, rfl, ⟨[], Shows.nils _ _, rfl, fun i y l e => by simp at e⟩, ⟨by simp, fun i => by simp⟩, fun l hl => by simp at hl⟩
  rcases DataW.trod_slice ht hf with ⟨hcs, hx⟩ | ⟨a, len', cap', elems, rest, n, rfl, hcs, _, _, hl, hm, hlen, hel, _⟩
  · simp [Value.cells] at hcs
    obtain ⟨rfl, rfl, rfl⟩ := hcs
    exact ⟨[], none_ none 0⟩
  · simp [Value.cells] at hcs
    obtain ⟨rfl, rfl, rfl⟩ := hcs
    by_cases hz : len = 0
    · subst hz
      exact ⟨[], none_ (some a) cap⟩
    have cell : ∀ i, i < len → ∃ c, w.cell? (a.add i) = some c ∧ ∃ l : List Int, (l.length ≤ maxLen ∧ Wide l) ∧ ∀ (φ : Plan) (h : Heap), Rep w.heap.size φ h w → Opened φ h w c (fun h' x => Ints h' x l) := by
      intro i hi
      have hE := hel i hi
      rw [hcu, Nat.mul_one, List.getElem?_eq_getElem (by omega), Option.bind_eq_some_iff] at hE
      obtain ⟨cs1, hc1, hy1⟩ := hE
      rcases open_ints hu he hc hy1 with ⟨rfl, _⟩ | ⟨b, l1, c1, zs, rfl, _, hl1, hm1, hz1, _, hcell, hwz⟩
      · exact ⟨_, cell_of_cells?_one hc1, [], ⟨by simp, fun n hn => by simp at hn⟩, fun φ h R => open_cells R none 0 0 [] (Nat.le_refl _) (by unfold maxLen; omega) rfl (fun _ => rfl) (fun a h => by cases h)⟩
      · simp only [if_true] at hz1
        exact ⟨_, cell_of_cells?_one hc1, zs.take l1, ⟨by simp; omega, fun n hn => i64_wf (hwz n (List.mem_of_mem_take hn))⟩, fun φ h R => open_cells R (some b) l1 c1 zs hl1 hm1 hz1 (fun h => by cases h) (fun a' h => by cases h; exact fun i hi => hcell i (by omega))⟩
    let vs : List Value := (List.range len).map fun i => (w.cell? (a.add i)).getD undef
    have hvl : vs.length = len := by simp [vs]
    have hvi : ∀ (i : Nat) (v : Value), vs[i]? = some v → i < len ∧ w.cell? (a.add i) = some v := by
      intro i v hv
      have hi : i < len := by have := (List.getElem?_eq_some_iff.1 hv).1; omega
      obtain ⟨c, hc, _⟩ := cell i hi
      simp only [vs, List.getElem?_map, List.getElem?_range hi, Option.map_some, hc, Option.getD_some, Option.some.injEq] at hv
      subst hv
      exact ⟨hi, hc⟩
    obtain ⟨xs, L, φ2, h2, s2, e2, R2, n1, n2, r2, t2, b2⟩ := open_many vs R (fun v hv => by
      obtain ⟨i, hi⟩ := List.getElem?_of_mem hv
      obtain ⟨hil, hc⟩ := hvi i v hi
      obtain ⟨c, hc2, rest⟩ := cell i hil
      rw [hc] at hc2
      cases hc2
      exact rest)
    obtain ⟨b, off, spot⟩ := a
    obtain ⟨c0, hc0, _⟩ := cell 0 (by omega)
    have hspot : spot = none := by simpa [Addr.add] using World.cell?_spot hc0
    subst hspot
    have hb : b < w.heap.size := World.block_lt_of_cell? w ⟨b, off, none⟩ (by simpa [Addr.add] using hc0)
    refine ⟨L, .sl h2.length 0 len, φ2 ++ [⟨b, off, cap⟩], h2 ++ [.ro xs], s2.trans (Sub.push _ _), e2.trans (Ext.push _ _), R2.pushRo ⟨b, off, cap⟩ hb _ (fun k c hk => ?_), ⟨⟨b, off, cap⟩, _, _, ?_, rfl, hl, hm, by simp, fun _ => rfl⟩, ⟨xs, ?_, by omega, fun i y l hy hl => (t2 i y l hy hl).ext (Ext.push _ _)⟩, ?_, fun l hl => (b2 l hl).2⟩
    · have hk2 : k < vs.length := by have := (List.getElem?_eq_some_iff.1 hk).1; omega
      obtain ⟨_, hc⟩ := hvi k vs[k] (List.getElem?_eq_getElem hk2)
      exact ⟨vs[k], by rw [← addr_add]; exact hc, r2 k c _ hk (List.getElem?_eq_getElem hk2)⟩
    · rw [← R2.len, List.getElem?_append_right (Nat.le_refl _)]
      simp
    · have := Shows.ro h2.length 0 len _ (get_new h2 (.ro xs)) (by omega)
      simp only [List.drop_zero] at this
      rw [List.take_of_length_le (by omega)] at this
      exact this
    · have hml : maxLen ≤ 9223372036854775807 := by unfold maxLen; omega
      refine ⟨by omega, fun i => ?_⟩
      by_cases hi : i < L.length
      · have := (b2 L[i] (List.getElem_mem hi)).1
        simp [List.getD, hi]
        omega
      · simp [List.getD, Nat.le_of_not_lt hi]

theorem open_arg_rows {H : Type} {enc : TypeId × Value → H} {P : Program} {w : World} {t u e : TypeId} {v : Value} {d : DataW H} {ps : List MemPlace} {base : Nat} (ht : P.underlying t = some (.slice u)) (hu : P.underlying u = some (.slice e)) (he : P.underlying e = some (.int .i64))
    (hcu : P.cellsOf u = 1) (hc : P.cellsOf e = 1) (hv : Value.okWide P w .any base t v) (h0 : DataW.Trod enc P w 0 (fun _ => true) true t v d ps) {φ : Plan} {h : Heap} (R : Rep w.heap.size φ h w) : ∃ L, Opened φ h w v (fun h' x => Rows h' x L ∧ Sizes L) := by
  obtain ⟨L, O⟩ := open_arg_rowsI ht hu he hcu hc hv h0 R
  exact ⟨L, O.mono fun h' x k => ⟨k.1, k.2.1⟩⟩

end Go.Proofs.Ytjgnnjegaedinaa.Hx
