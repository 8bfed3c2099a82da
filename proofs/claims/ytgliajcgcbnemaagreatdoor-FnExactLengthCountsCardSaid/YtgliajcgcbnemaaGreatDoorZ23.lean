/-
  ElementsOf and LengthCounts, of the program and of the reference.
  From the model's readings of arguments to rows: a slice of ints that came in; and the end of a law: true, memory below as it was.
  From the model's readings of arguments to rows: a slice of slices of ints that came in.
  A row whose walk wants the shape of the world in which it begins: the number of a library's own variable.
-/
import Derived.Test.YtgliajcgcbnemaaGreatDoorZ22
import Derived.ProofKit
import Derived.LaidMore
import Derived.OpenShut
import Derived.Stop.Joined
namespace Go.Proofs.YtgliajcgcbnemaaGreatDoor.Hx
open Go.RowKit
variable {dm : Bool}

noncomputable def elemOk (c : List (List Int)) : Bool := decide (1 ≤ sizeN c) && decide (sizeN c ≤ 200)
noncomputable def elemL (c : List (List Int)) : List (List Int) := if elemOk c then elems c else []
theorem elemL_off {c : List (List Int)} (h : elemOk c = false) : elemL c = [] := by simp [elemL, h]
theorem elemL_on {c : List (List Int)} (h : elemOk c = true) : elemL c = elems c := by simp [elemL, h]
theorem elemOk_of {c : List (List Int)} (h1 : 1 ≤ sizeN c) (h2 : sizeN c ≤ 200) : elemOk c = true := by simp [elemOk, h1, h2]
theorem elemOk_low {c : List (List Int)} (h1 : sizeN c < 1) : elemOk c = false := by simp [elemOk, show ¬ 1 ≤ sizeN c by omega]
theorem elemOk_high {c : List (List Int)} (h1 : 200 < sizeN c) : elemOk c = false := by simp [elemOk, show ¬ sizeN c ≤ 200 by omega]
theorem elemOk_fin {c : List (List Int)} (h : elemOk c = true) : isFinite c = true ∧ Cartan c ∧ cntT c 30 (List.replicate c.length 1) ≤ 200 := by
  unfold elemOk at h
  rw [Bool.and_eq_true, decide_eq_true_eq, decide_eq_true_eq] at h
  have hf : isFinite c = true := by
    cases hf : isFinite c
    · rw [sizeN_off hf] at h
      omega
    · rfl
  exact ⟨hf, (fin_parts hf).1, (fin_size hf).2 h.2⟩
theorem elems_tot {c : List (List Int)} (hC : Cartan c) (hN : cntT c 30 (List.replicate c.length 1) ≤ 200) : (elems c).length ≤ 200 ∧ tot (elems c) ≤ 5800 := by
  have h1 := elems_len hN
  have h2 : tot (elems c) ≤ 29 * (elems c).length := tot_le_of fun w hw => (elems_word hC hw).1
  omega
theorem elemL_size (c : List (List Int)) : (elemL c).length ≤ 200 ∧ tot (elemL c) ≤ 5800 := by
  cases h : elemOk c
  · rw [elemL_off h]
    simp [tot]
  · obtain ⟨_, hC, hN⟩ := elemOk_fin h
    rw [elemL_on h]
    exact elems_tot hC hN

theorem elemL_bound (c : List (List Int)) : (elemL c).length ≤ 1099511627776 ∧ tot (elemL c) ≤ 1099511627776 := by
  have := elemL_size c
  omega

/-! ### Lengths counted -/

def cnts (L : List (List Int)) (i K : Nat) : List Int := (List.range K).map fun n => (((L.take i).filter fun w => decide (w.length = n)).length : Int)
theorem cnts_len (L : List (List Int)) (i K : Nat) : (cnts L i K).length = K := by simp [cnts]
theorem cnts_get (L : List (List Int)) (i : Nat) {K n : Nat} (h : n < K) : (cnts L i K).getD n 0 = (((L.take i).filter fun w => decide (w.length = n)).length : Int) := by
  simp [cnts, List.getD, h]
theorem cnts_rng (L : List (List Int)) (i : Nat) {K n : Nat} (h : n < K) : 0 ≤ (cnts L i K).getD n 0 ∧ (cnts L i K).getD n 0 ≤ L.length := by
  rw [cnts_get L i h]
  have h1 := List.length_filter_le (fun w => decide (w.length = n)) (L.take i)
  have h2 := List.length_take_le i L
  simp only [List.length_take] at h1
  omega
theorem cnts_zero (L : List (List Int)) (K : Nat) : cnts L 0 K = List.replicate K 0 := by
  apply List.ext_getElem
  · simp [cnts]
  · intro n h1 h2
    simp [cnts]
theorem cnts_elem {L : List (List Int)} {i K n : Nat} (h : n < (cnts L i K).length) : (cnts L i K)[n] = (((L.take i).filter fun w => decide (w.length = n)).length : Int) := by simp [cnts]
theorem cnts_inc {L : List (List Int)} {i K : Nat} (hi : i < L.length) (hK : (L.getD i []).length < K) : (cnts L i K).set (L.getD i []).length ((cnts L i K).getD (L.getD i []).length 0 + 1) = cnts L (i + 1) K := by
  have e : L.getD i [] = L[i] := by simp [List.getD, hi]
  rw [cnts_get L i hK, e]
  rw [e] at hK
  apply List.ext_getElem
  · rw [List.length_set, cnts_len, cnts_len]
  · intro n h1 h2
    rw [List.getElem_set, cnts_elem, cnts_elem, List.take_succ_eq_append_getElem hi, List.filter_append, List.length_append]
    by_cases en : L[i].length = n
    · subst en
      simp
    · rw [if_neg en]
      simp [en]
theorem cnts_grow {L : List (List Int)} {i K : Nat} (h : ∀ w ∈ L.take i, w.length < K) : cnts L i (K + 1) = cnts L i K ++ [0] := by
  unfold cnts
  rw [List.range_succ, List.map_append]
  congr 1
  simp only [List.map_cons, List.map_nil]
  congr 1
  rw [List.filter_eq_nil_iff.2 (fun w hw => by
    have := h w hw
    simp
    omega)]
  rfl
noncomputable def lenCounts (c : List (List Int)) : List Int := if elemOk c then cnts (elems c) (elems c).length (((elems c).getD ((elems c).length - 1) []).length + 1) else []
theorem lenCounts_off {c : List (List Int)} (h : elemOk c = false) : lenCounts c = [] := by simp [lenCounts, h]
theorem lenCounts_on {c : List (List Int)} (h : elemOk c = true) : lenCounts c = cnts (elems c) (elems c).length (((elems c).getD ((elems c).length - 1) []).length + 1) := by simp [lenCounts, h]
theorem lenCounts_len (c : List (List Int)) : (lenCounts c).length ≤ 30 := by
  cases h : elemOk c
  · rw [lenCounts_off h]
    simp
  · obtain ⟨_, hC, hN⟩ := elemOk_fin h
    rw [lenCounts_on h, cnts_len]
    have hp := elems_pos hC hN
    have hm : (elems c).getD ((elems c).length - 1) [] ∈ elems c := getD_mem (by omega)
    have := (elems_word hC hm).1
    omega

theorem MatAt.butR {h h' : Heap} {r q : Nat} {ρ : Nat → Nat} {L : List (List Int)} (m : MatAt h r ρ L) (k : But q h h') (hq : q ≠ r ∧ ∀ i, i < L.length → q ≠ ρ i) : MatAt h' r ρ L :=
  m.move (k.2 r m.lt.1 (Ne.symm hq.1)) (fun i hi => k.2 _ (m.lt.2 i hi) (Ne.symm (hq.2 i hi)))


theorem spec_ElementsOf (h : Heap) (x0 : H0) (a0 : List (List Int)) (hx0 : Rows h x0 a0) (s0 : a0.length ≤ 1048576 ∧ tot a0 ≤ 1048576) :
    HCalls dm Tryz.prog 13 [.s x0] h (fun r h' => ∃ y, r = T2 y (elemOk a0) ∧ Ext h h' ∧ OwnM h.length h'.length h' y (elemL a0)) := by
  have hlow := elemOk_low (c := a0)
  have hhigh := elemOk_high (c := a0)
  have hof := elemOk_of (c := a0)
  have hfin := elemOk_fin (c := a0)
  have hoff := elemL_off (c := a0)
  have hon := elemL_on (c := a0)
  generalize elemOk a0 = ok at *
  generalize elemL a0 = V at *
  refine calls_of_hFun (m := 0) kd_ok mixed Tryz.func13 rfl (by kernel_rfl) rfl rfl (of_decide_eq_true rfl) ?_; unfold hFun; (conv => whnf)
  refine (spec_SizeOf _ _ a0 hx0 s0).mono ?_
  rintro r h1 ⟨rfl, E1⟩
  generalize sizeN a0 = s at *
  (conv => whnf)
  by_cases h1s : s < 1
  · rw [decide_eq_true h1s]
    (repeat (first | (refine HIf.yes ?_; conv => whnf) | (refine HIf.no ?_; conv => whnf)))
    refine HLit.empty ?_
    (conv => whnf)
    rw [hlow h1s, hoff (hlow h1s)]
    exact ⟨_, rfl, E1.pushed _, (OwnM.none h1).lower E1.1⟩
  rw [decide_eq_false h1s]
  (repeat (first | (refine HIf.no ?_; conv => whnf)))
  refine HIf.dec (fun hg => ?_) (fun hg => ?_)
  · (conv => whnf)
    refine HLit.empty ?_
    (conv => whnf)
    rw [hhigh (by omega), hoff (hhigh (by omega))]
    exact ⟨_, rfl, E1.pushed _, (OwnM.none h1).lower E1.1⟩
  · have hok := hof (by omega) (by omega)
    obtain ⟨_, hC, hN⟩ := hfin hok
    rw [hok, hon hok]
    (conv => whnf)
    refine (spec_l13All _ _ a0 (hx0.ext E1) hC hN).mono ?_
    rintro r h2 ⟨y, rfl, E2, O⟩
    (conv => whnf)
    exact ⟨_, rfl, E1.trans E2, O.lower E1.1⟩

theorem impl_elements (h : Heap) (x0 : H0) (a0 : List (List Int)) (hx0 : Rows h x0 a0) (s0 : a0.length ≤ 1048576 ∧ tot a0 ≤ 1048576) :
    HCalls false Tryz.prog 81 [.s x0] h (fun r h' => ∃ y, r = .s y ∧ Ext h h' ∧ ((elemOk a0 = false ∧ y = .pl (.slice none 0 0)) ∨ (elemOk a0 = true ∧ OwnM h.length h'.length h' y (elems a0)))) := by
  have hlow := elemOk_low (c := a0)
  have hhigh := elemOk_high (c := a0)
  have hof := elemOk_of (c := a0)
  have hfin := elemOk_fin (c := a0)
  have hoffS := sizeN_off (c := a0)
  have hfs := fin_size (c := a0)
  generalize elemOk a0 = ok at *
  refine calls_of_hFun (m := 0) kd_ok mixed Tryz.func81 rfl (by kernel_rfl) rfl rfl (of_decide_eq_true rfl) ?_; unfold hFun; (conv => whnf)
  refine (impl_IsFinite _ _ a0 hx0 (by omega)).mono ?_
  rintro r h1 ⟨rfl, E1⟩
  (conv => whnf)
  cases hf : isFinite a0
  · (repeat (first | (refine HIf.yes ?_; conv => whnf) | (refine HIf.no ?_; conv => whnf)))
    exact ⟨_, rfl, E1, Or.inl ⟨hlow (by rw [hoffS hf]; omega), rfl⟩⟩
  have hs1 := (hfs hf).1
  (repeat (first | (refine HIf.no ?_; conv => whnf) | (refine HIf.yes ?_; conv => whnf)))
  refine (impl_SizeOf _ _ a0 (hx0.ext E1) s0).mono ?_
  rintro r h2 ⟨rfl, E2⟩
  generalize sizeN a0 = s at *
  have E12 := E1.trans E2
  (conv => whnf)
  (repeat (first | (refine HIf.no ?_; conv => whnf) | (refine HIf.yes ?_; conv => whnf)))
  refine HIf.dec (fun hg => ?_) (fun hg => ?_)
  · (conv => whnf)
    exact ⟨_, rfl, E12, Or.inl ⟨hhigh (by omega), rfl⟩⟩
  · have hok := hof hs1 (by omega)
    obtain ⟨_, hC, hN⟩ := hfin hok
    (conv => whnf)
    refine (impl_ball _ _ a0 (hx0.ext E12) hC hN).mono ?_
    rintro r h3 ⟨y, rfl, E3, O⟩
    (conv => whnf)
    exact ⟨_, rfl, E12.trans E3, Or.inr ⟨hok, O.lower E12.1⟩⟩

theorem impl_ElementsOf (h : Heap) (x0 : H0) (a0 : List (List Int)) (hx0 : Rows h x0 a0) (s0 : a0.length ≤ 1048576 ∧ tot a0 ≤ 1048576) :
    HCalls false Tryz.prog 14 [.s x0] h (fun r h' => ∃ y, r = T2 y (elemOk a0) ∧ Ext h h' ∧ OwnM h.length h'.length h' y (elemL a0)) := by
  have hoff := elemL_off (c := a0)
  have hon := elemL_on (c := a0)
  have hel := impl_elements h x0 a0 hx0 s0
  generalize elemOk a0 = ok at *
  generalize elemL a0 = V at *
  refine calls_of_hFun (m := 0) kd_ok mixed Tryz.func14 rfl (by kernel_rfl) rfl rfl (of_decide_eq_true rfl) ?_; unfold hFun; (conv => whnf)
  refine hel.mono ?_
  rintro r h1 ⟨y, rfl, E1, ⟨hok, rfl⟩ | ⟨hok, O⟩⟩
  · rw [hok, hoff hok]
    (conv => whnf)
    refine ⟨rfl, ?_⟩
    (conv => whnf)
    refine HIf.yes ?_
    (conv => whnf)
    refine HLit.empty ?_
    (conv => whnf)
    exact ⟨_, rfl, E1.pushed _, (OwnM.none h1).lower E1.1⟩
  · rw [hok, hon hok]
    obtain ⟨r, ρ, rfl, g⟩ := O
    (conv => whnf)
    refine ⟨rfl, ?_⟩
    (conv => whnf)
    refine HIf.no ?_
    (conv => whnf)
    exact ⟨_, rfl, E1, ⟨r, ρ, rfl, g⟩⟩

set_option maxHeartbeats 1000000 in
theorem impl_LengthCounts (h : Heap) (x0 : H0) (a0 : List (List Int)) (hx0 : Rows h x0 a0) (s0 : a0.length ≤ 1048576 ∧ tot a0 ≤ 1048576) :
    HCalls false Tryz.prog 18 [.s x0] h (fun r h' => ∃ y, r = .s y ∧ Fresh h h' y (lenCounts a0)) := by
  have hoff := lenCounts_off (c := a0)
  have hon := lenCounts_on (c := a0)
  have hfin := elemOk_fin (c := a0)
  have E0 := Ext.push h [Row.own []]
  have hel := impl_elements _ x0 a0 (hx0.ext E0) s0
  generalize elemOk a0 = ok at *
  generalize lenCounts a0 = V at *
  refine calls_of_hFun (m := 0) kd_ok mixed Tryz.func18 rfl (by kernel_rfl) rfl rfl (of_decide_eq_true rfl) ?_; unfold hFun; (conv => whnf)
  refine HLit.empty ?_
  (conv => whnf)
  have hn0 : (h ++ [Row.own []]).length = h.length + 1 := by simp
  have O0 := OwnR.push h []
  refine hel.mono ?_
  rintro r h1 ⟨y, rfl, E1, ⟨hok, rfl⟩ | ⟨hok, O⟩⟩
  · rw [hoff hok]
    (conv => whnf)
    refine ⟨rfl, ⟨0, rfl, ?_⟩⟩
    (conv => whnf)
    refine HLoop.intro [10, 3] [11, 12, 13, 5, 14, 15, 16, 17, 18, 19, 20, 21, 3, 22, 23, 24, 25, 26, 27, 28, 29, 10] (by kernel_rfl) (by kernel_rfl) (fun vs h' => vs = [I 0, .s (.sl h.length 0 0)] ∧ h' = h1) (fun vs _ => 0) ⟨rfl, rfl⟩ ?_
    rintro vs h' ⟨rfl, rfl⟩
    (conv => whnf)
    refine HIf.decF (by omega) ?_
    (conv => whnf)
    exact ⟨_, rfl, Fresh.ofRow (E0.trans E1) (O0.ext E1) (Nat.le_refl _)⟩
  obtain ⟨_, hC, hN⟩ := hfin hok
  have hpos := elems_pos hC hN
  have hsrt := elemsTo_sorted hC 30 (Nat.le_refl _)
  have hwd := fun w hw => (elems_word hC (w := w) hw).1
  have hlen := elems_len hN
  have hV := hon hok
  have hsl := fun i j (hij : i ≤ j) (hj : j < (elemsTo a0 30).length) => sorted_len hsrt hij hj
  have hee : elemsTo a0 30 = elems a0 := rfl
  rw [hee] at hsrt hsl
  clear hee hon hoff
  generalize elems a0 = L at *
  have E01 := E0.trans E1
  have hE01 := E01.1
  have O1 := (O0.ext E1)
  have hc0 : cnts L 0 0 = [] := rfl
  rw [← hc0] at O1
  rw [hn0] at O
  obtain ⟨r0, ρ, rfl, g1, g2, g3, m1⟩ := O
  (conv => whnf)
  refine ⟨rfl, m1.rows.len ?_⟩
  (conv => whnf)
  refine HLoop.intro [10, 3] [11, 12, 13, 5, 14, 15, 16, 17, 18, 19, 20, 21, 3, 22, 23, 24, 25, 26, 27, 28, 29, 10] (by kernel_rfl) (by kernel_rfl) (fun vs h' => ∃ (i K r : Nat), vs = [I i, .s (.sl r 0 K)] ∧ i ≤ L.length ∧ Ext h h' ∧ MatAt h' r0 ρ L ∧ h.length ≤ r ∧ OwnR r h' (.sl r 0 K) (cnts L i K) ∧ (i = 0 → K = 0) ∧ (0 < i → K = (L.getD (i - 1) []).length + 1) ∧ (r = h.length ∨ h1.length ≤ r) ∧ h1.length ≤ h'.length) (fun vs _ => L.length - natAt vs 0) ⟨0, 0, h.length, rfl, by omega, E01, m1, Nat.le_refl _, O1, fun _ => rfl, fun h => by omega, Or.inl rfl, Nat.le_refl _⟩ ?_
  clear E01 O1 m1
  rintro vs h' ⟨i, K, r, rfl, hi, E, m, hr, O, hK0, hK1, hr1, hl1⟩
  (conv => whnf)
  refine HIf.dec (fun hlt => ?_) (fun hge => ?_)
  rotate_left
  · have ei : i = L.length := by omega
    subst ei
    have hK := hK1 hpos
    rw [hK, ← hV] at O
    rw [hK]
    (conv => whnf)
    exact ⟨_, rfl, Fresh.ofRow E O hr⟩
  have hil : i < L.length := by omega
  have hw29 := hwd _ (getD_mem hil)
  have hsm : ∀ w ∈ L.take i, w.length < K := fun w hw => by
    obtain ⟨j, hj, e⟩ := List.getElem_of_mem hw
    have hj2 : j < i := by simp at hj; omega
    rw [List.getElem_take] at e
    have e2 : L.getD j [] = w := by simp [List.getD, show j < L.length by omega, e]
    have h5 := hsl j (i - 1) (by omega) (by omega)
    rw [e2] at h5
    have := hK1 (by omega)
    omega
  have hKw : K ≤ (L.getD i []).length + 1 := by
    by_cases e : i = 0
    · rw [hK0 e]
      omega
    · have h5 := hsl (i - 1) i (by omega) hil
      have := hK1 (by omega)
      omega
  have hinc := cnts_inc (L := L) (i := i) (K := (L.getD i []).length + 1) hil (by omega)
  have hrg := cnts_rng L i (K := (L.getD i []).length + 1) (n := (L.getD i []).length) (by omega)
  have hz := fun (hh : Heap) (mm : MatAt hh r0 ρ L) => (mm.inner' hil).ints
  have hnx : (L.getD (i + 1 - 1) []).length = (L.getD i []).length := by rw [Nat.add_sub_cancel]
  (conv => whnf)
  refine ⟨rfl, m.idx hil (fun p hp => ?_)⟩
  generalize L.getD i [] = W at *
  (conv => whnf)
  refine ⟨rfl, hp.load ?_⟩
  (conv => whnf)
  refine HLoop.intro [3] [14, 15, 16, 17, 18, 19, 20, 21, 3] (by kernel_rfl) (by kernel_rfl) (fun vs hz' => ∃ (K r : Nat), vs = [.s (.sl r 0 K)] ∧ K ≤ W.length + 1 ∧ Ext h hz' ∧ MatAt hz' r0 ρ L ∧ h.length ≤ r ∧ OwnR r hz' (.sl r 0 K) (cnts L i K) ∧ (∀ w ∈ L.take i, w.length < K) ∧ (r = h.length ∨ h1.length ≤ r) ∧ h1.length ≤ hz'.length) (fun vs _ => W.length + 1 - lenAt vs 0) ⟨K, r, rfl, hKw, E, m, hr, O, hsm, hr1, hl1⟩ ?_
  clear E m hr O hsm hr1 hl1 hKw hK0 hK1 hp
  rintro vs h' ⟨K, r, rfl, hKw, E, m, hr, O, hsm, hr1, hl1⟩
  have hcl := cnts_len L i K
  have hq : r ≠ r0 ∧ ∀ j, j < L.length → r ≠ ρ j := ⟨by omega, fun j hj => by have := g3 j hj; omega⟩
  have hOl := O.ints.len (K := fun v => v = I K)
  (conv => whnf)
  refine ⟨rfl, HLen.sl ?_⟩
  (conv => whnf)
  refine ⟨rfl, (hz h' m).len ?_⟩
  (conv => whnf)
  refine HIf.dec (fun hle => ?_) (fun hgt => ?_)
  · have hg := cnts_grow (K := K) hsm
    (conv => whnf)
    refine HLit.one ?_
    (conv => whnf)
    have O' : OwnR r h' (.sl r 0 (cnts L i K).length) (cnts L i K) := by rw [hcl]; exact O
    have key : ∀ {KK : HV → Heap → Prop}, (∀ hh r', But r h' hh → h'.length ≤ r' → OwnR r' hh (.sl r' 0 (K + 1)) (cnts L i (K + 1)) → KK (.s (.sl r' 0 (K + 1))) hh) → HApp (h' ++ [.own [ci 0]]) (.s (.sl r 0 K)) (.s (.sl h'.length 0 1)) KK := fun {KK} hK => by
      have := HApp.litR (K := KK) [0] O' (by rw [hcl]; simp; omega) (fun h3 r3 y3 B3 hr3 O3 => by
        rw [← hg] at O3
        obtain ⟨t, rfl, hrow⟩ := O3
        rw [cnts_len]
        exact hK h3 r3 B3 hr3 ⟨t, by rw [cnts_len], hrow⟩)
      rw [hcl] at this
      exact this
    refine ⟨rfl, rfl, key (fun hh r' B' hr' O2 => ?_)⟩
    (conv => whnf)
    exact ⟨⟨K + 1, r', rfl, by omega, E.but B' hr, m.butR B' hq, by have := E.1; omega, O2, fun w hw => by have := hsm w hw; omega, Or.inr (by omega), by have := B'.1; omega⟩, by show W.length + 1 - (K + 1) < W.length + 1 - K; omega⟩
  · have eK : K = W.length + 1 := by omega
    subst eK
    have hwlt : W.length < (cnts L i (W.length + 1)).length := by rw [hcl]; omega
    (conv => whnf)
    refine ⟨rfl, (hz h' m).len ?_⟩
    (conv => whnf)
    refine ⟨rfl, O.ints.idxN (n := W.length) hwlt (fun p hp => ?_)⟩
    generalize hv : (cnts L i (W.length + 1)).getD W.length 0 = v at *
    (conv => whnf)
    refine ⟨rfl, hp.load ?_⟩
    (conv => whnf)
    refine HArith.fits (by omega) (by omega) ?_
    (conv => whnf)
    refine ⟨rfl, O.idx (j := (W.length : Int)) (by omega) (by omega) ?_⟩
    rw [Int.toNat_natCast]
    (conv => whnf)
    refine ⟨rfl, O.put hwlt (fun h3 B3 n3 O3 => ?_)⟩
    rw [hinc] at O3
    (conv => whnf)
    refine HArith.fits (by omega) (by omega) ?_
    (conv => whnf)
    exact ⟨⟨i + 1, W.length + 1, r, rfl, by omega, E.but B3 hr, m.butR B3 hq, hr, O3, fun e => by omega, fun _ => by rw [hnx], hr1, by omega⟩, by show L.length - (i + 1) < L.length - i; omega⟩

set_option maxHeartbeats 1000000 in
theorem spec_LengthCounts (h : Heap) (x0 : H0) (a0 : List (List Int)) (hx0 : Rows h x0 a0) (s0 : a0.length ≤ 1048576 ∧ tot a0 ≤ 1048576) :
    HCalls dm Tryz.prog 17 [.s x0] h (fun r h' => ∃ y, r = .s y ∧ Fresh h h' y (lenCounts a0)) := by
  have hoff := lenCounts_off (c := a0)
  have hon := lenCounts_on (c := a0)
  have honL := elemL_on (c := a0)
  have hfin := elemOk_fin (c := a0)
  have hel := spec_ElementsOf (dm := dm) h x0 a0 hx0 s0
  generalize elemOk a0 = ok at *
  generalize lenCounts a0 = V at *
  generalize elemL a0 = L0 at *
  refine calls_of_hFun (m := 0) kd_ok mixed Tryz.func17 rfl (by kernel_rfl) rfl rfl (of_decide_eq_true rfl) ?_; unfold hFun; (conv => whnf)
  refine hel.mono ?_
  rintro r h1 ⟨y, rfl, E1, O⟩
  (conv => whnf)
  cases hok : ok
  · (repeat (first | (refine HIf.yes ?_; conv => whnf) | (refine HIf.no ?_; conv => whnf)))
    rw [hoff hok]
    refine HLit.empty ?_
    (conv => whnf)
    exact ⟨_, rfl, Fresh.ofRow (E1.pushed _) (OwnR.push h1 []) E1.1⟩
  obtain ⟨_, hC, hN⟩ := hfin hok
  have hpos := elems_pos hC hN
  have hsrt := elemsTo_sorted hC 30 (Nat.le_refl _)
  have hwd := fun w hw => (elems_word hC (w := w) hw).1
  have hlen := elems_len hN
  have hV := hon hok
  have hsl := fun i j (hij : i ≤ j) (hj : j < (elemsTo a0 30).length) => sorted_len hsrt hij hj
  have hee : elemsTo a0 30 = elems a0 := rfl
  rw [hee] at hsrt hsl
  rw [honL hok] at O
  clear hee hon hoff honL hfin
  generalize elems a0 = L at *
  have hlast := hwd _ (getD_mem (L := L) (i := L.length - 1) (by omega))
  have e1 : (L.length : Int) - 1 = ((L.length - 1 : Nat) : Int) := by omega
  (repeat (first | (refine HIf.no ?_; conv => whnf) | (refine HIf.yes ?_; conv => whnf)))
  refine ⟨rfl, O.rows.len ?_⟩
  (conv => whnf)
  refine HArith.to (e' := ((L.length - 1 : Nat) : Int)) e1 (by omega) (by omega) ?_
  (conv => whnf)
  refine ⟨rfl, O.rows.idxN (n := L.length - 1) (by omega) (fun p z hp hz => ?_)⟩
  (conv => whnf)
  refine ⟨rfl, hp.load ?_⟩
  (conv => whnf)
  refine ⟨rfl, hz.len ?_⟩
  (conv => whnf)
  have hmax : ∀ i, i < L.length → (L.getD i []).length ≤ (L.getD (L.length - 1) []).length := fun i hi => hsl i (L.length - 1) (by omega) (by omega)
  generalize (L.getD (L.length - 1) []).length = K at *
  refine HArith.to (e' := ((K + 1 : Nat) : Int)) (by omega) (by omega) (by omega) ?_
  (conv => whnf)
  refine HMake.ints (K + 1) rfl (by omega) ?_
  have O1 : OwnR h1.length (h1 ++ [.own (List.replicate (K + 1) (ci 0))]) (.sl h1.length 0 (K + 1)) (cnts L 0 (K + 1)) := ⟨[], by rw [cnts_len], by rw [get_new, cnts_zero]; simp⟩
  have E2 := E1.pushed [.own (List.replicate (K + 1) (ci 0))]
  obtain ⟨r0, ρ, rfl, g1, g2, g3, m1⟩ := O
  have m1 := m1.ext (Ext.push h1 [.own (List.replicate (K + 1) (ci 0))])
  generalize h1 ++ [.own (List.replicate (K + 1) (ci 0))] = h2 at *
  have hE1 := E1.1
  (conv => whnf)
  refine HLoop.intro [6] [24, 25, 26, 27, 30, 31, 32, 33, 34, 35, 36, 37, 38, 39, 40, 41, 42, 43, 44, 45, 28, 29, 6] (by kernel_rfl) (by kernel_rfl) (fun vs h' => ∃ i : Nat, vs = [I i] ∧ i ≤ L.length ∧ Ext h h' ∧ MatAt h' r0 ρ L ∧ OwnR h1.length h' (.sl h1.length 0 (K + 1)) (cnts L i (K + 1))) (fun vs _ => L.length - natAt vs 0) ⟨0, rfl, by omega, E2, m1, O1⟩ ?_
  clear O1 E2 m1
  rintro vs h' ⟨i, rfl, hi, E, m, O⟩
  have hq : h1.length ≠ r0 ∧ ∀ j, j < L.length → h1.length ≠ ρ j := ⟨by omega, fun j hj => by have := g3 j hj; omega⟩
  (conv => whnf)
  refine ⟨rfl, m.rows.len ?_⟩
  (conv => whnf)
  refine HIf.dec (fun hlt => ?_) (fun hge => ?_)
  · have hil : i < L.length := by omega
    have hmi := hmax i hil
    have hinc := cnts_inc (L := L) (i := i) (K := K + 1) hil (by omega)
    have hrg := cnts_rng L i (K := K + 1) (n := (L.getD i []).length) (by omega)
    have hcl := cnts_len L i (K + 1)
    have hz := (m.inner' hil).ints
    generalize hW : L.getD i [] = W at *
    have hwlt : W.length < (cnts L i (K + 1)).length := by rw [hcl]; omega
    (conv => whnf)
    refine Or.inr (Or.inr (Or.inl (Exists.intro 16 (Exists.intro [0, 1, 2, 3, 4, 5, 6, 7, 8, 9, 10, 11, 12, 13, 14, 15] (Exists.intro [16] (And.intro (show heldOk _ _ _ _ = true by kernel_rfl) ?_)))))); (conv => whnf)
    refine ⟨rfl, m.idx hil (fun p hp => ?_)⟩
    rw [hW] at hp
    (conv => whnf)
    refine ⟨rfl, hp.load ?_⟩
    (conv => whnf)
    refine ⟨rfl, hz.len ?_⟩
    (conv => whnf)
    refine ⟨rfl, m.idx hil (fun p2 hp2 => ?_)⟩
    rw [hW] at hp2
    (conv => whnf)
    refine ⟨rfl, hp2.load ?_⟩
    (conv => whnf)
    refine ⟨rfl, hz.len ?_⟩
    (conv => whnf)
    refine ⟨rfl, O.ints.idxN (n := W.length) hwlt (fun p3 hp3 => ?_)⟩
    generalize hv : (cnts L i (K + 1)).getD W.length 0 = v at *
    (conv => whnf)
    refine ⟨rfl, hp3.load ?_⟩
    (conv => whnf)
    refine HArith.fits (by omega) (by omega) ?_
    (conv => whnf)
    refine ⟨rfl, O.idx (j := (W.length : Int)) (by omega) (by omega) ?_⟩
    rw [Int.toNat_natCast]
    (conv => whnf)
    refine ⟨rfl, O.put hwlt (fun h3 B3 n3 O3 => ?_)⟩
    rw [hinc] at O3
    (conv => whnf)
    refine HArith.fits (by omega) (by omega) ?_
    (conv => whnf)
    exact ⟨⟨i + 1, rfl, by omega, E.but B3 hE1, m.butR B3 hq, O3⟩, by show L.length - (i + 1) < L.length - i; omega⟩
  · have ei : i = L.length := by omega
    subst ei
    rw [← hV] at O
    (conv => whnf)
    exact ⟨_, rfl, Fresh.ofRow E O hE1⟩

end Go.Proofs.YtgliajcgcbnemaaGreatDoor.Hx

namespace Go.Proofs.YtgliajcgcbnemaaGreatDoor.Hx
open Go.RowKit Go.ChangeShapes Go.WideShapes Go.ChangeAt
variable {dm : Bool}

theorem Rep.start (w : World) (ht : TabAt w.heap.size w := by refine ⟨fun x hx => ?_, fun x hx => ?_, fun x hx => ?_⟩ <;> cases hx) : Rep w.heap.size [] [] w :=
  ⟨rfl, Nat.le_refl _, fun r cs p h => by simp at h, fun r cs p h => by simp at h, fun r r' cs cs' p p' _ h => by simp at h, fun r so ks p h => by simp at h, fun r r' so so' ks ks' p p' _ h => by simp at h, ht⟩

/-- A row that is only read. -/
theorem Rep.pushRo {B0 : Nat} {φ : Plan} {h : Heap} {w : World} (R : Rep B0 φ h w) (p : Place) (hb : p.b < B0) (cs : List H0) (hc : ∀ (k : Nat) (c : H0), cs[k]? = some c → ∃ v, w.cell? ⟨p.b, p.o + k, none⟩ = some v ∧ rep0 φ c v) :
    Rep B0 (φ ++ [p]) (h ++ [.ro cs]) w := by
  have hold : ∀ (r : Nat) (x : Row), r < h.length → (h ++ [Row.ro cs])[r]? = some x → h[r]? = some x := fun r x hr hx => by rw [List.getElem?_append_left hr] at hx; exact hx
  have hpl : ∀ (r : Nat) (y : Place), r < h.length → (φ ++ [p])[r]? = some y → φ[r]? = some y := fun r y hr hx => by rw [List.getElem?_append_left (by rw [R.len]; exact hr)] at hx; exact hx
  have hlast : ∀ (r : Nat) (x : Row), ¬ r < h.length → (h ++ [Row.ro cs])[r]? = some x → r = h.length ∧ x = .ro cs := fun r x hr hx => by
    rw [List.getElem?_append_right (by omega)] at hx
    have h0 : r - h.length = 0 := by
      have := (List.getElem?_eq_some_iff.1 hx).1
      simp at this
      omega
    rw [h0] at hx
    simp at hx
    exact ⟨by omega, hx.symm⟩
  have keyq : ∀ (q : Nat) (so : Bool) (ks : List Key), (h ++ [Row.ro cs])[q]? = some (.keys so ks) → q < h.length := fun q so ks hq => by
    by_cases hl : q < h.length
    · exact hl
    · cases (hlast q _ hl hq).2
  refine ⟨by simp [R.len], R.base, fun r xs y h1 h2 => ?_, fun r xs y h1 h2 => ?_, fun r r' xs xs' y y' hne h1 h1' h2 h2' => ?_, fun r so ks y h1 h2 => R.keys r so ks y (hold r _ (keyq _ _ _ h1) h1) (hpl r y (keyq _ _ _ h1) h2),
    fun r r' so so' ks ks' y y' hne h1 h1' h2 h2' => R.apartK r r' so so' ks ks' y y' hne (hold r _ (keyq _ _ _ h1) h1) (hold r' _ (keyq _ _ _ h1') h1') (hpl r y (keyq _ _ _ h1) h2) (hpl r' y' (keyq _ _ _ h1') h2'), R.tab⟩
  · by_cases hr : r < h.length
    · obtain ⟨g1, g2⟩ := R.ro r xs y (hold r _ hr h1) (hpl r y hr h2)
      refine ⟨g1, fun k c hk => ?_⟩
      obtain ⟨v, e1, e2⟩ := g2 k c hk
      exact ⟨v, e1, e2.mono (Sub.push _ _)⟩
    · obtain ⟨e1, e2⟩ := hlast r _ hr h1
      subst e1
      cases e2
      rw [← R.len, List.getElem?_append_right (Nat.le_refl _)] at h2
      simp at h2
      subst h2
      refine ⟨hb, fun k c hk => ?_⟩
      obtain ⟨v, e1, e2⟩ := hc k c hk
      exact ⟨v, e1, e2.mono (Sub.push _ _)⟩
  · by_cases hr : r < h.length
    · obtain ⟨g1, g2, g3, cur', e', g4, g5, g6⟩ := R.own r xs y (hold r _ hr h1) (hpl r y hr h2)
      refine ⟨g1, g2, g3, cur', e', g4, g5, fun k c hk => ?_⟩
      obtain ⟨v, e1, e2⟩ := g6 k c hk
      exact ⟨v, e1, e2.mono (Sub.push _ _)⟩
    · cases (hlast r _ hr h1).2
  · by_cases hr : r < h.length <;> by_cases hr' : r' < h.length
    · exact R.apart r r' xs xs' y y' hne (hold r _ hr h1) (hold r' _ hr' h1') (hpl r y hr h2) (hpl r' y' hr' h2')
    · cases (hlast r' _ hr' h1').2
    · cases (hlast r _ hr h1).2
    · cases (hlast r _ hr h1).2

/-- What opening an argument gives. -/
def Opened (φ : Plan) (h : Heap) (w : World) (v : Value) (T : Heap → H0 → Prop) : Prop := ∃ x φ' h', Sub φ φ' ∧ Ext h h' ∧ Rep w.heap.size φ' h' w ∧ rep0 φ' x v ∧ T h' x

/-- A slice of ints by its cells. -/
theorem open_cells {φ : Plan} {h : Heap} {w : World} (R : Rep w.heap.size φ h w) (ao : Option Addr) (len cap : Nat) (zs : List Int) (hl : len ≤ cap) (hm : cap ≤ maxLen) (hz : zs.length = cap) (hnone : ao = none → cap = 0)
    (hc : ∀ a, ao = some a → ∀ i, i < cap → w.cell? (a.add i) = some (.int .i64 (zs.getD i 0))) : Opened φ h w (.slice ao len cap) (fun h' x => Ints h' x (zs.take len)) := by
  by_cases h0 : len = 0
  · subst h0
    exact ⟨.pl (.slice ao 0 cap), φ, h, Sub.refl _, Ext.refl _, R, rfl, Shows.nils _ _⟩
  · cases ao with
    | none => have := hnone rfl; omega
    | some a =>
      have hc := hc a rfl
      obtain ⟨b, off, spot⟩ := a
      have hspot : spot = none := by simpa [Addr.add] using World.cell?_spot (hc 0 (by omega))
      subst hspot
      have hb : b < w.heap.size := World.block_lt_of_cell? w ⟨b, off, none⟩ (by simpa [Addr.add] using hc 0 (by omega))
      have hlen : ((zs.take len).map ci).length = len := by simp; omega
      refine ⟨.sl h.length 0 len, φ ++ [⟨b, off, cap⟩], h ++ [.ro ((zs.take len).map ci)], Sub.push _ _, Ext.push _ _, R.pushRo ⟨b, off, cap⟩ hb _ (fun k c hk => ?_), ⟨⟨b, off, cap⟩, _, _, ?_, rfl, hl, hm, by simp, fun _ => rfl⟩, ?_⟩
      · have hk2 : k < len := by have := (List.getElem?_eq_some_iff.1 hk).1; omega
        refine ⟨.int .i64 (zs.getD k 0), by rw [← addr_add]; exact hc k (by omega), ?_⟩
        rw [List.getElem?_map, List.getElem?_take_of_lt hk2, List.getElem?_eq_getElem (by omega)] at hk
        simp only [Option.map_some, Option.some.injEq] at hk
        subst hk
        show _ = _
        simp [List.getD, show k < zs.length by omega]
      · rw [← R.len, List.getElem?_append_right (Nat.le_refl _)]
        simp
      · show Shows _ _ ((zs.take len).map ci)
        generalize (zs.take len).map ci = L at hlen ⊢
        have := Shows.ro h.length 0 len _ (get_new h (.ro L)) (by omega)
        simp only [List.drop_zero] at this
        rw [List.take_of_length_le (by omega)] at this
        exact this

/-- The end of a law: it comes back true, and memory that was there is as it was. -/
theorem law_calls {P : Program} {k : FuncId} {args : List HV} {h : Heap} {φ : Plan} {w : World} {vargs : Array Value} (H : HCalls false P k args h (fun r _ => r = B true)) (R : Rep w.heap.size φ h w) (ha : repVs φ args vargs.toList) :
    Calls P k vargs w fun e w' => e = .returned (.bool true) ∧ Below w.heap.size w w' :=
  (H.out _ φ w vargs R ha).mono (by
    rintro e w' ⟨v, x, h', φ', rfl, rfl, g2, g3, g4, g5⟩
    have hv := rep0_pl g4
    subst hv
    exact ⟨rfl, g5.toBelow⟩)

theorem own : ownKnob Tryz.prog.godebug = none := by kernel_rfl
theorem laidOut : laidOutB Tryz.prog = true := by kernel_rfl

end Go.Proofs.YtgliajcgcbnemaaGreatDoor.Hx

namespace Go.Proofs.YtgliajcgcbnemaaGreatDoor.Hx
open Go.RowKit Go.ChangeShapes Go.WideShapes Go.ChangeAt

theorem i64_wf {n : Int} (h : (Lit.int .i64 n).wf = true) : -9223372036854775808 ≤ n ∧ n ≤ 9223372036854775807 := by
  simp only [Lit.wf, Bool.and_eq_true, decide_eq_true_eq] at h
  have h1 : IntKind.i64.min = -9223372036854775808 := by decide
  have h2 : IntKind.i64.max = 9223372036854775807 := by decide
  rw [h1, h2] at h
  exact h

/-- Many values opened, one after the other. -/
theorem open_many {Q : List Int → Prop} {w : World} : ∀ (vs : List Value) {φ : Plan} {h : Heap}, Rep w.heap.size φ h w →
    (∀ v ∈ vs, ∃ l : List Int, Q l ∧ ∀ (φ : Plan) (h : Heap), Rep w.heap.size φ h w → Opened φ h w v (fun h' x => Ints h' x l)) →
    ∃ (xs : List H0) (L : List (List Int)) (φ' : Plan) (h' : Heap), Sub φ φ' ∧ Ext h h' ∧ Rep w.heap.size φ' h' w ∧ xs.length = vs.length ∧ L.length = vs.length ∧
      (∀ (i : Nat) (x : H0) (v : Value), xs[i]? = some x → vs[i]? = some v → rep0 φ' x v) ∧ (∀ (i : Nat) (x : H0) (l : List Int), xs[i]? = some x → L[i]? = some l → Ints h' x l) ∧ ∀ l ∈ L, Q l
  | [], φ, h, R, _ => ⟨[], [], φ, h, Sub.refl _, Ext.refl _, R, rfl, rfl, fun i x v e => by simp at e, fun i x v e => by simp at e, fun l e => by simp at e⟩
  | v :: vs, φ, h, R, each => by
    obtain ⟨l, hl, hop⟩ := each v (by simp)
    obtain ⟨x, φ1, h1, s1, e1, R1, r1, t1⟩ := hop φ h R
    obtain ⟨xs, L, φ2, h2, s2, e2, R2, n1, n2, r2, t2, b2⟩ := open_many vs R1 (fun v hv => each v (by simp [hv]))
    refine ⟨x :: xs, l :: L, φ2, h2, s1.trans s2, e1.trans e2, R2, by simp [n1], by simp [n2], fun i y v' hy hv => ?_, fun i y l' hy hl' => ?_, fun l' hl' => ?_⟩
    · cases i with
      | zero => simp at hy hv; subst hy; subst hv; exact rep0.mono s2 r1
      | succ i => exact r2 i y v' (by simpa using hy) (by simpa using hv)
    · cases i with
      | zero => simp at hy hl'; subst hy; subst hl'; exact t1.ext e2
      | succ i => exact t2 i y l' (by simpa using hy) (by simpa using hl')
    · rcases List.mem_cons.1 hl' with rfl | hm
      · exact hl
      · exact b2 l' hm

theorem Opened.mono {φ : Plan} {h : Heap} {w : World} {v : Value} {T T' : Heap → H0 → Prop} (H : Opened φ h w v T) (k : ∀ h' x, T h' x → T' h' x) : Opened φ h w v T' := by
  obtain ⟨x, φ', h', a, b, c, d, e⟩ := H
  exact ⟨x, φ', h', a, b, c, d, k _ _ e⟩

def Wide (l : List Int) : Prop := ∀ n ∈ l, -9223372036854775808 ≤ n ∧ n ≤ 9223372036854775807

def Sizes (L : List (List Int)) : Prop := L.length ≤ 9223372036854775807 ∧ ∀ i, (L.getD i []).length ≤ 9223372036854775807

/-- An argument that is a slice of slices of ints. -/
theorem open_arg_rowsI {H : Type} {enc : TypeId × Value → H} {P : Program} {w : World} {t u e : TypeId} {v : Value} {d : DataW H} {ps : List MemPlace} {base : Nat} (ht : P.underlying t = some (.slice u)) (hu : P.underlying u = some (.slice e)) (he : P.underlying e = some (.int .i64))
    (hcu : P.cellsOf u = 1) (hc : P.cellsOf e = 1) (hv : Value.okWide P w .any base t v) (h0 : DataW.Trod enc P w 0 (fun _ => true) true t v d ps) {φ : Plan} {h : Heap} (R : Rep w.heap.size φ h w) : ∃ L, Opened φ h w v (fun h' x => Rows h' x L ∧ Sizes L ∧ ∀ l ∈ L, Wide l) := by
  obtain ⟨a0, len, cap, rfl⟩ := okWide_slice ht hv
  obtain ⟨fuel, hf⟩ := h0
  have none_ : ∀ (ao : Option Addr) (cap : Nat), Opened φ h w (.slice ao 0 cap) (fun h' x => Rows h' x [] ∧ Sizes [] ∧ ∀ l ∈ ([] : List (List Int)), Wide l) := fun ao cap =>
    ⟨.pl (.slice ao 0 cap), φ, h, Sub.refl _, Ext.refl _, R, rfl, ⟨[], Shows.nils _ _, rfl, fun i y l e => by simp at e⟩, ⟨by simp, fun i => by simp⟩, fun l hl => by simp at hl⟩
  rcases DataW.trod_slice ht hf with ⟨hcs, hx⟩ | ⟨a, len', cap', elems, rest, n, rfl, hcs, _, _, hl, hm, hlen, hel, _⟩
  · simp [Value.cells] at hcs
    obtain ⟨rfl, rfl, rfl⟩ := hcs
    exact ⟨[], none_ none 0⟩
  · simp [Value.cells] at hcs
    obtain ⟨rfl, rfl, rfl⟩ := hcs
    by_cases hz : len = 0
    · subst hz
      exact ⟨[], none_ (some a) cap⟩
    have cell : ∀ i, i < len → ∃ c, w.cell? (a.add i) = some c ∧ ∃ l : List Int, (l.length ≤ maxLen ∧ Wide l) ∧ ∀ (φ : Plan) (h : Heap), Rep w.heap.size φ h w → Opened φ h w c (fun h' x => Ints h' x l) := by
      intro i hi
      have hE := hel i hi
      rw [hcu, Nat.mul_one, List.getElem?_eq_getElem (by omega), Option.bind_eq_some_iff] at hE
      obtain ⟨cs1, hc1, hy1⟩ := hE
      rcases open_ints hu he hc hy1 with ⟨rfl, _⟩ | ⟨b, l1, c1, zs, rfl, _, hl1, hm1, hz1, _, hcell, hwz⟩
      · exact ⟨_, cell_of_cells?_one hc1, [], ⟨by simp, fun n hn => by simp at hn⟩, fun φ h R => open_cells R none 0 0 [] (Nat.le_refl _) (by unfold maxLen; omega) rfl (fun _ => rfl) (fun a h => by cases h)⟩
      · simp only [if_true] at hz1
        exact ⟨_, cell_of_cells?_one hc1, zs.take l1, ⟨by simp; omega, fun n hn => i64_wf (hwz n (List.mem_of_mem_take hn))⟩, fun φ h R => open_cells R (some b) l1 c1 zs hl1 hm1 hz1 (fun h => by cases h) (fun a' h => by cases h; exact fun i hi => hcell i (by omega))⟩
    let vs : List Value := (List.range len).map fun i => (w.cell? (a.add i)).getD undef
    have hvl : vs.length = len := by simp [vs]
    have hvi : ∀ (i : Nat) (v : Value), vs[i]? = some v → i < len ∧ w.cell? (a.add i) = some v := by
      intro i v hv
      have hi : i < len := by have := (List.getElem?_eq_some_iff.1 hv).1; omega
      obtain ⟨c, hc, _⟩ := cell i hi
      simp only [vs, List.getElem?_map, List.getElem?_range hi, Option.map_some, hc, Option.getD_some, Option.some.injEq] at hv
      subst hv
      exact ⟨hi, hc⟩
    obtain ⟨xs, L, φ2, h2, s2, e2, R2, n1, n2, r2, t2, b2⟩ := open_many vs R (fun v hv => by
      obtain ⟨i, hi⟩ := List.getElem?_of_mem hv
      obtain ⟨hil, hc⟩ := hvi i v hi
      obtain ⟨c, hc2, rest⟩ := cell i hil
      rw [hc] at hc2
      cases hc2
      exact rest)
    obtain ⟨b, off, spot⟩ := a
    obtain ⟨c0, hc0, _⟩ := cell 0 (by omega)
    have hspot : spot = none := by simpa [Addr.add] using World.cell?_spot hc0
    subst hspot
    have hb : b < w.heap.size := World.block_lt_of_cell? w ⟨b, off, none⟩ (by simpa [Addr.add] using hc0)
    refine ⟨L, .sl h2.length 0 len, φ2 ++ [⟨b, off, cap⟩], h2 ++ [.ro xs], s2.trans (Sub.push _ _), e2.trans (Ext.push _ _), R2.pushRo ⟨b, off, cap⟩ hb _ (fun k c hk => ?_), ⟨⟨b, off, cap⟩, _, _, ?_, rfl, hl, hm, by simp, fun _ => rfl⟩, ⟨xs, ?_, by omega, fun i y l hy hl => (t2 i y l hy hl).ext (Ext.push _ _)⟩, ?_, fun l hl => (b2 l hl).2⟩
    · have hk2 : k < vs.length := by have := (List.getElem?_eq_some_iff.1 hk).1; omega
      obtain ⟨_, hc⟩ := hvi k vs[k] (List.getElem?_eq_getElem hk2)
      exact ⟨vs[k], by rw [← addr_add]; exact hc, r2 k c _ hk (List.getElem?_eq_getElem hk2)⟩
    · rw [← R2.len, List.getElem?_append_right (Nat.le_refl _)]
      simp
    · have := Shows.ro h2.length 0 len _ (get_new h2 (.ro xs)) (by omega)
      simp only [List.drop_zero] at this
      rw [List.take_of_length_le (by omega)] at this
      exact this
    · have hml : maxLen ≤ 9223372036854775807 := by unfold maxLen; omega
      refine ⟨by omega, fun i => ?_⟩
      by_cases hi : i < L.length
      · have := (b2 L[i] (List.getElem_mem hi)).1
        simp [List.getD, hi]
        omega
      · simp [List.getD, Nat.le_of_not_lt hi]

theorem open_arg_rows {H : Type} {enc : TypeId × Value → H} {P : Program} {w : World} {t u e : TypeId} {v : Value} {d : DataW H} {ps : List MemPlace} {base : Nat} (ht : P.underlying t = some (.slice u)) (hu : P.underlying u = some (.slice e)) (he : P.underlying e = some (.int .i64))
    (hcu : P.cellsOf u = 1) (hc : P.cellsOf e = 1) (hv : Value.okWide P w .any base t v) (h0 : DataW.Trod enc P w 0 (fun _ => true) true t v d ps) {φ : Plan} {h : Heap} (R : Rep w.heap.size φ h w) : ∃ L, Opened φ h w v (fun h' x => Rows h' x L ∧ Sizes L) := by
  obtain ⟨L, O⟩ := open_arg_rowsI ht hu he hcu hc hv h0 R
  exact ⟨L, O.mono fun h' x k => ⟨k.1, k.2.1⟩⟩

end Go.Proofs.YtgliajcgcbnemaaGreatDoor.Hx

namespace Go.Proofs.YtgliajcgcbnemaaGreatDoor.Hx
open Go.ChangeShapes Go.WideShapes Go.ChangeAt Go.RowKit

theorem row_shaped {H : Type} {enc : TypeId × Value → H} {C : Checked} {os : Os} {f : FuncId} {fn : Func} {s : ChangeSpec} {l : List (String × DataW Unit)} (own : ownKnob C.prog.godebug = none) (started : os.Started)
    (noInit : C.prog.inits.idxOf? f = none) (hfn : C.prog.funcs[f]? = some fn)
    (wit : ∃ (w : World) (tape : Tape) (i : Input), w.os = os ∧ (w.forCall tape i).Shaped C.prog ∧ i.vars = [] ∧ Input.okWide C.prog (w.forCall tape i) .any w.heap.size f i ∧
      ((s.pre enc C.prog fn [] false (w.forCall tape i).memory i.args ∧ laidMetH C.prog l (w.forCall tape i).memory) ∧ sizedMet enc C.prog fn (OpenSpec.ofChange s) false (w.forCall tape i).memory i.args) ∧ Assume.holds {} C.prog (lone (Frame.enter C.prog f i.args .normal) [] (w.forCall tape i)))
    (walk : ∀ (W : World) (base : Nat) (args : Array Value) (ds gs : List (DataW H)) (before : List MemPlace), (∀ (j : Nat) t v, fn.params[j]? = some t → args[j]? = some v → Value.okWide C.prog W .any base t v) →
      DataW.Whole enc C.prog fn.params.toList s.vars false W args.toList ds gs before → laidMetH C.prog l W → W.ShapedOpen C.prog →
      Calls C.prog f args W fun e W' => ∃ v, e = .returned v ∧ s.post enc C.prog fn false true false false W args v W') :
    ReturnsInHanded {} C os f .any (fun w args => (s.pre enc C.prog fn [] false w args ∧ laidMetH C.prog l w) ∧ sizedMet enc C.prog fn (OpenSpec.ofChange s) false w args) (s.post enc C.prog fn false true false false) :=
  returnsInHanded_of_calls own started noInit wit fun w tape i _ shape _ ok met _ => by
    obtain ⟨_, _, _, g, hg, _, _, _, _, vals⟩ := ok
    obtain rfl : fn = g := Option.some.inj (hfn.symm.trans hg)
    obtain ⟨⟨⟨ds, gs, before, whole, _⟩, laid⟩, _⟩ := met
    have whole' := DataW.Whole.of_heap (w' := w.forCall tape i) (by rfl) whole
    have laid' := laidMetH.of_heap (w' := w.forCall tape i) (by rfl) laid
    have run := walk (w.forCall tape i) w.heap.size i.args ds gs before vals whole' laid' shape
    exact run.mono fun e W' ⟨v, he, hp⟩ => by
      rw [he]
      exact ChangeSpec.post_blind hp

/-- The length that a library's own variable holds. -/
theorem tab_shaped {W : World} (h : W.ShapedOpen Tryz.prog) : ∀ g ∈ [0], g < W.heap.size ∧ ∃ m, W.cell? ⟨g, 0, none⟩ = some (.int .i64 m) := fun g hg => by
  obtain rfl := List.mem_singleton.1 hg
  obtain ⟨m, hm⟩ := Tryz.splitL.s1_3 W h
  exact ⟨World.block_lt_of_cell? _ _ hm, m, hm⟩

end Go.Proofs.YtgliajcgcbnemaaGreatDoor.Hx
