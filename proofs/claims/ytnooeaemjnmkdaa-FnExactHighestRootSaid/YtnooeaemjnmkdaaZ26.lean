/-
  The contracts of RootsUpTo, of the program and of the reference.
  The contracts of PositiveRoots, AddWeights and IsClosedSet, of the program and of the reference.
  The contracts of IsClosedSet, of the program and of the reference.
  HighestRoot of both sides.
-/
import Derived.Test.YtnooeaemjnmkdaaZ25
namespace Go.Proofs.Ytnooeaemjnmkdaa.Hx
open Go.RowKit
variable {dm : Bool}

def UpAt (c : List (List Int)) (H : Int) (Q : List (List Int)) (r : List Int) (i : Nat) : Prop := rootSign (mirror c i r) = 1 → heightOf (mirror c i r) ≤ H → heightOf r < heightOf (mirror c i r) → mirror c i r ∈ Q

theorem Coll.up_all {c : List (List Int)} {H : Int} {Q : List (List Int)} (C : Coll c H Q) (h : ∀ r ∈ Q, ∀ i, i < c.length → UpAt c H Q r i) (r : List Int) : r ∈ Q ↔ RootUp c H r := by
  refine ⟨C.up r, fun hr => ?_⟩
  induction hr with
  | simple i hi => exact C.simple i hi
  | step i hi _ hs hh hl ih => exact h _ ih i hi hs hh hl

theorem insR_app (A : List (List Int)) (x : List Int) : insR (A ++ [x]) = putR x (insR A) := by simp [insR, List.foldl_append]

theorem putR_keep {w : List Int} : ∀ {k : Nat} {L : List (List Int)}, k < L.length → (∀ j, j ≤ k → beforeR w (L.getD j []) = false) → (putR w L).take (k + 1) = L.take (k + 1)
  | _, [], h, _ => by simp at h
  | 0, a :: L, _, hb => by
    have := hb 0 (Nat.le_refl _)
    simp only [List.getD, List.getElem?_cons_zero, Option.getD_some] at this
    simp [putR, this]
  | k + 1, a :: L, h, hb => by
    have h0 := hb 0 (by omega)
    simp only [List.getD, List.getElem?_cons_zero, Option.getD_some] at h0
    have := putR_keep (w := w) (k := k) (L := L) (by simpa using h) (fun j hj => by
      have := hb (j + 1) (by omega)
      simpa [List.getD] using this)
    simp [putR, h0, this]

theorem getD_take {L : List (List Int)} {k j : Nat} (h : j < k) : (L.take k).getD j [] = L.getD j [] := by
  simp only [List.getD, List.getElem?_take_of_lt h]

theorem not_before {w a : List Int} (h : heightOf a < heightOf w) : beforeR w a = false := by
  unfold beforeR
  rw [if_neg (by omega)]
  exact decide_eq_false (by omega)

theorem sorted_height {L : List (List Int)} (h : SortedR L) {i j : Nat} (hij : i ≤ j) (hj : j < L.length) : heightOf (L.getD i []) ≤ heightOf (L.getD j []) := by
  by_cases e : i = j
  · subst e; exact Int.le_refl _
  · have := List.pairwise_iff_getElem.1 h i j (by omega) hj (by omega)
    rw [cmpR_lt] at this
    simp only [List.getD, show i < L.length by omega, hj, List.getElem?_eq_getElem, Option.getD_some]
    omega

theorem rootSign_pos (a : List Int) : rootSign a > 0 ↔ rootSign a = 1 := by
  rcases rootSign_cases a with h | h | h <;> rw [h] <;> omega

theorem rootsUp_size (c : List (List Int)) (H : Int) : (rootsUp c H).length ≤ 1099511627776 ∧ tot (rootsUp c H) ≤ 1099511627776 := by
  by_cases h : isCartan c = true ∧ 1 ≤ H ∧ H ≤ 12
  · unfold rootsUp
    rw [if_pos h]
    split
    · rename_i hx
      have := (Classical.choose_spec hx).size ((isCartan_iff c).1 h.1) h.2.2 h.2.1
      omega
    · simp [tot]
  · rw [rootsUp_off h]
    simp [tot]


theorem impl_RootsUpTo (h : Heap) (x0 : H0) (a0 : List (List Int)) (n1 : Int) (hx0 : Rows h x0 a0) (s0 : a0.length ≤ 1048576 ∧ tot a0 ≤ 1048576) (s1 : -9223372036854775808 ≤ n1 ∧ n1 ≤ 9223372036854775807) :
    HCalls dm Try.prog 19 [.s x0, I n1] h (fun r h' => ∃ y, r = .s y ∧ Ext h h' ∧ OwnM h.length h'.length h' y (rootsUp a0 n1)) := by
  refine calls_of_hFun (m := 0) kd_ok mixed Try.func19 rfl (by kernel_rfl) rfl rfl (of_decide_eq_true rfl) ?_; unfold hFun; (conv => whnf)
  refine (impl_IsCartan _ _ _ hx0 (by omega)).mono ?_
  rintro r h1 ⟨rfl, hh⟩
  subst hh
  have off : ¬ (isCartan a0 = true ∧ 1 ≤ n1 ∧ n1 ≤ 12) → ∃ y, HV.s (.sl h1.length 0 0) = .s y ∧ Ext h1 (h1 ++ [.own []]) ∧ OwnM h1.length (h1 ++ [Row.own []]).length (h1 ++ [.own []]) y (rootsUp a0 n1) := fun hn => by
    rw [rootsUp_off hn]
    exact ⟨_, rfl, Ext.push _ _, OwnM.none h1⟩
  cases hic : isCartan a0
  · (conv => whnf)
    (repeat (first | (refine HIf.no ?_; (conv => whnf)) | (refine HIf.isT rfl ?_; (conv => whnf))))
    refine HLit.empty ?_
    (conv => whnf)
    exact off (fun k => by rw [hic] at k; cases k.1)
  · (conv => whnf)
    refine HIf.isF rfl ?_
    (conv => whnf)
    refine HIf.isF rfl ?_
    (conv => whnf)
    refine HIf.isF rfl ?_
    (conv => whnf)
    by_cases c1 : n1 < 1
    · refine HIf.decT c1 ?_
      (conv => whnf)
      refine HIf.decT c1 ?_
      (conv => whnf)
      refine HIf.decT c1 ?_
      (conv => whnf)
      refine HIf.yes ?_
      (conv => whnf)
      refine HLit.empty ?_
      (conv => whnf)
      exact off (fun k => by omega)
    refine HIf.decF c1 ?_
    (conv => whnf)
    refine HIf.decF c1 ?_
    (conv => whnf)
    refine HIf.decF c1 ?_
    (conv => whnf)
    by_cases c2 : n1 > 12
    · refine HIf.decT c2 ?_
      (conv => whnf)
      refine HLit.empty ?_
      (conv => whnf)
      exact off (fun k => by omega)
    refine HIf.decF c2 ?_
    (conv => whnf)
    refine (impl_pairedRoots _ _ _ n1 hx0 ((isCartan_iff a0).1 hic) (by omega) (by omega)).mono ?_
    rintro r h2 ⟨y, z, rfl, E2, L, hL, O⟩
    (conv => whnf)
    rw [rootsUp_on ⟨hic, by omega, by omega⟩ hL]
    exact ⟨_, rfl, E2, O⟩

set_option maxHeartbeats 4000000 in
theorem spec_RootsUpTo (h : Heap) (x0 : H0) (a0 : List (List Int)) (n1 : Int) (hx0 : Rows h x0 a0) (s0 : a0.length ≤ 1048576 ∧ tot a0 ≤ 1048576) (s1 : -9223372036854775808 ≤ n1 ∧ n1 ≤ 9223372036854775807) :
    HCalls dm Try.prog 18 [.s x0, I n1] h (fun r h' => ∃ y, r = .s y ∧ Ext h h' ∧ OwnM h.length h'.length h' y (rootsUp a0 n1)) := by
  refine calls_of_hFun (m := 0) kd_ok mixed Try.func18 rfl (by kernel_rfl) rfl rfl (of_decide_eq_true rfl) ?_; unfold hFun; (conv => whnf)
  refine HLit.empty ?_
  (conv => whnf)
  have E0 := Ext.push h [Row.own []]
  have O0 := OwnM.none h
  refine (spec_IsCartan _ _ _ (hx0.ext E0) (by omega)).mono ?_
  rintro r h1 ⟨rfl, hh⟩
  subst hh
  have off : ¬ (isCartan a0 = true ∧ 1 ≤ n1 ∧ n1 ≤ 12) → ∃ y, HV.s (.sl h.length 0 0) = .s y ∧ Ext h (h ++ [.own []]) ∧ OwnM h.length (h ++ [Row.own []]).length (h ++ [.own []]) y (rootsUp a0 n1) := fun hn => by
    rw [rootsUp_off hn]
    exact ⟨_, rfl, E0, O0⟩
  cases hic : isCartan a0
  · (conv => whnf)
    (repeat (first | (refine HIf.no ?_; (conv => whnf)) | (refine HIf.isT rfl ?_; (conv => whnf))))
    exact off (fun k => by rw [hic] at k; cases k.1)
  · have hC := (isCartan_iff a0).1 hic
    have h4 := hC.le
    have hpos := hC.pos
    (conv => whnf)
    refine HIf.isF rfl ?_
    (conv => whnf)
    refine HIf.isF rfl ?_
    (conv => whnf)
    refine (spec_l1In _ _ _ _).mono ?_
    rintro r h2 ⟨rfl, hh⟩
    subst hh
    by_cases hcond : 1 ≤ n1 ∧ n1 ≤ 12
    rotate_left
    · have eb : (decide (1 ≤ n1) && decide (n1 ≤ 12)) = false := by
        rw [Bool.eq_false_iff]
        intro hb
        simp only [Bool.and_eq_true, decide_eq_true_eq] at hb
        exact hcond hb
      rw [eb]
      (conv => whnf)
      (repeat (first | (refine HIf.no ?_; (conv => whnf)) | (refine HIf.isF rfl ?_; (conv => whnf)) | (refine HIf.isT rfl ?_; (conv => whnf))))
      exact off (fun k => hcond ⟨k.2.1, k.2.2⟩)
    have eb : (decide (1 ≤ n1) && decide (n1 ≤ 12)) = true := by simp [hcond.1, hcond.2]
    rw [eb]
    (conv => whnf)
    (repeat (first | (refine HIf.yes ?_; (conv => whnf)) | (refine HIf.isF rfl ?_; (conv => whnf))))
    clear off
    generalize h ++ [Row.own []] = h1 at E0 O0 ⊢
    refine HLoop.intro [6, 5] [20, 21, 22, 23, 26, 27, 28, 29, 30, 5, 24, 25, 6] (by kernel_rfl) (by kernel_rfl) (fun vs h' => ∃ (i : Nat) (z : H0), vs = [I i, .s z] ∧ i ≤ a0.length ∧ Ext h h' ∧ OwnM h.length h'.length h' z (insR (simples a0 i))) (fun vs _ => a0.length - natAt vs 0) ⟨0, _, rfl, by omega, E0, O0⟩ ?_
    clear E0 O0
    rintro vs h1 ⟨i, z, rfl, hi, E, O⟩
    (conv => whnf)
    refine ⟨rfl, (hx0.ext E).len ?_⟩
    (conv => whnf)
    refine HIf.dec (fun hlt => ?_) (fun hge => ?_)
    · have hi' : i < a0.length := by omega
      (conv => whnf)
      refine (spec_SimpleRoot _ _ a0 (i : Int) (hx0.ext E) s0 (by omega)).mono ?_
      rintro r h2 ⟨y2, rfl, F2⟩
      have hil : (insR (simples a0 i)).length = i := by rw [insR_length, simples_len]
      have hin : ∀ j, j < (insR (simples a0 i)).length → ((insR (simples a0 i)).getD j []).length ≤ 1048576 := fun j hj => by
        have hm := getD_in hj
        obtain ⟨t, ht, e⟩ := mem_simples.1 ((insR_perm _).mem_iff.1 hm)
        rw [e]
        have := simpleRoot_length a0 (t : Nat)
        omega
      have hsl := simpleRoot_length a0 (i : Nat)
      have O2 := O.ext F2.1
      obtain ⟨r, ρ, rfl, g2, g3, g4, m⟩ := O2
      (conv => whnf)
      refine (spec_l7Put _ _ _ _ _ (simpleRoot a0 (i : Nat)) m F2.ints (by omega) (by omega) hin).mono ?_
      rintro v h3 ⟨y3, rfl, E3, M3⟩
      rw [← insR_app, ← simples_succ] at M3
      have l1 := E.1
      have l2 := F2.1.1
      (conv => whnf)
      refine HArith.fits (by omega) (by omega) ?_
      (conv => whnf)
      refine ⟨⟨i + 1, y3, rfl, by omega, (E.trans F2.1).trans E3, M3.own (by omega) ?_⟩, by show a0.length - (i + 1) < a0.length - i; omega⟩
      rintro q _ (⟨j, hj, e⟩ | e)
      · have := g4 j hj
        omega
      · omega
    have ei : i = a0.length := by omega
    subst ei
    clear hge hi
    have C0 : Coll a0 n1 (insR (simples a0 a0.length)) := ⟨(insR_perm _).nodup_iff.2 (simples_nodup hC _ (Nat.le_refl _)), fun r hr => by
      obtain ⟨j, hj, rfl⟩ := mem_simples.1 ((insR_perm _).mem_iff.1 hr)
      exact .simple j hj, fun j hj => (insR_perm _).mem_iff.2 (mem_simples.2 ⟨j, hj, rfl⟩)⟩
    have hlenOf : ∀ {L : List (List Int)}, Coll a0 n1 L → ∀ a ∈ L, a.length = a0.length := fun C a ha => by
      obtain ⟨n, R, _⟩ := (C.up a ha).facts hC hcond.2 hcond.1
      exact R.len
    have S0 : SortedR (insR (simples a0 a0.length)) := insR_sorted _ (fun a ha => hlenOf C0 a ((insR_perm _).mem_iff.2 ha))
    (conv => whnf)
    refine HLoop.intro [7, 5] [31, 32, 33, 34, 8, 37, 38, 39, 40, 43, 44, 45, 46, 47, 48, 49, 9, 50, 51, 52, 53, 54, 55, 56, 57, 58, 59, 60, 61, 62, 63, 64, 65, 66, 67, 68, 69, 70, 71, 72, 73, 74, 75, 76, 77, 5, 41, 42, 8, 35, 36, 7] (by kernel_rfl) (by kernel_rfl) (fun vs h' => ∃ (k : Nat) (z : H0) (L : List (List Int)), vs = [I k, .s z] ∧ k ≤ L.length ∧ Ext h h' ∧ OwnM h.length h'.length h' z L ∧ Coll a0 n1 L ∧ SortedR L ∧ ∀ j, j < k → ∀ i, i < a0.length → UpAt a0 n1 L (L.getD j []) i) (fun vs _ => 28562 - natAt vs 0) ⟨0, _, _, rfl, by omega, E, O, C0, S0, fun j hj => by omega⟩ ?_
    clear E O C0 S0
    rintro vs h1 ⟨k, z, L, rfl, hk, E, O, C, S, hcl⟩
    have hQ := roots_few hC hcond.2 hcond.1 C.nodup C.up
    (conv => whnf)
    refine ⟨rfl, O.rows.len ?_⟩
    (conv => whnf)
    refine HIf.dec (fun hlt => ?_) (fun hge => ?_)
    · have hk' : k < L.length := by omega
      (conv => whnf)
      refine HLoop.intro [8, 5] [37, 38, 39, 40, 43, 44, 45, 46, 47, 48, 49, 9, 50, 51, 52, 53, 54, 55, 56, 57, 58, 59, 60, 61, 62, 63, 64, 65, 66, 67, 68, 69, 70, 71, 72, 73, 74, 75, 76, 77, 5, 41, 42, 8] (by kernel_rfl) (by kernel_rfl) (fun vs h' => ∃ (i : Nat) (z : H0) (L' : List (List Int)), vs = [I i, .s z] ∧ i ≤ a0.length ∧ Ext h h' ∧ OwnM h.length h'.length h' z L' ∧ Coll a0 n1 L' ∧ SortedR L' ∧ k < L'.length ∧ L'.take (k + 1) = L.take (k + 1) ∧ (∀ j, j < k → ∀ i, i < a0.length → UpAt a0 n1 L' (L'.getD j []) i) ∧ ∀ t, t < i → UpAt a0 n1 L' (L'.getD k []) t) (fun vs _ => a0.length - natAt vs 0)
        ⟨0, z, L, rfl, by omega, E, O, C, S, hk', rfl, hcl, fun t ht => by omega⟩ ?_
      clear E O C S hcl hQ
      rintro vs h1 ⟨i, z, L', rfl, hi, E, O, C, S, hk2, hpre, hcl, hci⟩
      have hQ := roots_few hC hcond.2 hcond.1 C.nodup C.up
      (conv => whnf)
      refine ⟨rfl, (hx0.ext E).len ?_⟩
      (conv => whnf)
      refine HIf.dec (fun hlt2 => ?_) (fun hge2 => ?_)
      · have hi' : i < a0.length := by omega
        have hRl := hlenOf C _ (getD_in hk2)
        have hrow := hC.row i hi'
        (conv => whnf)
        refine ⟨rfl, Rows.idxN O.rows hk2 (fun p y hp hy => ?_)⟩
        (conv => whnf)
        refine ⟨rfl, hp.load ?_⟩
        (conv => whnf)
        refine (spec_l7Reflect _ _ _ a0 i _ (hx0.ext E) hy hi' (by omega) (by omega) (by omega)).mono ?_
        rintro r h2 ⟨y2, rfl, F2⟩
        have hy2 := hy.ext F2.1
        have O2 := (O.ext F2.1).widen F2.1.1
        have RO := O2.rows
        have hml : (mirror a0 i (L'.getD k [])).length = a0.length := by rw [mirror_length, hRl]
        have htot : L'.length ≤ 1048576 ∧ tot L' ≤ 1048576 := by
          have : tot L' ≤ 4 * L'.length := tot_le 4 L' (fun r hr => by have := hlenOf C r hr; omega)
          omega
        generalize hR : L'.getD k [] = R at *
        generalize hM : mirror a0 i R = M at *
        have done : ∀ (hno : UpAt a0 n1 L' R i), (∃ (i_1 : Nat) (z_1 : H0) (L'_1 : List (List Int)), [I ((i : Int) + 1), HV.s z] = [I i_1, .s z_1] ∧ i_1 ≤ a0.length ∧ Ext h h2 ∧ OwnM h.length h2.length h2 z_1 L'_1 ∧ Coll a0 n1 L'_1 ∧ SortedR L'_1 ∧ k < L'_1.length ∧ L'_1.take (k + 1) = L.take (k + 1) ∧ (∀ j, j < k → ∀ i, i < a0.length → UpAt a0 n1 L'_1 (L'_1.getD j []) i) ∧ ∀ t, t < i_1 → UpAt a0 n1 L'_1 (L'_1.getD k []) t) := fun hno =>
          ⟨i + 1, z, L', rfl, by omega, E.trans F2.1, O2, C, S, hk2, hpre, hcl, fun t ht => by
            rw [hR]
            by_cases e : t = i
            · subst e; exact hno
            · exact hci t (by omega)⟩
        (conv => whnf)
        refine Or.inl (And.intro (show Region.lexB _ _ = true by kernel_rfl) ?_); (conv => whnf)
        refine HCallQ.of (.int .i64 (rootSign M)) (spec_RootSign _ _ M F2.ints.frz (by omega)) (fun x h' r => r.1) ?_
        generalize hsg : rootSign M = sg at *
        (conv => whnf)
        by_cases c1 : sg > 0
        rotate_left
        · (repeat (refine HIf.decF c1 ?_; (conv => whnf)))
          (repeat (refine HIf.no ?_; (conv => whnf)))
          refine HArith.fits (by omega) (by omega) ?_
          (conv => whnf)
          exact ⟨done fun z1 => by
            rw [hM, hsg] at z1
            omega, by show a0.length - (i + 1) < a0.length - i; omega⟩
        refine HIf.decT c1 ?_
        (conv => whnf)
        refine HIf.decT c1 ?_
        (conv => whnf)
        refine HCallQ.of (.int .i64 (heightOf M)) (spec_HeightOf _ _ M F2.ints.frz (by omega)) (fun x h' r => r.1) ?_
        generalize hhm : heightOf M = hm at *
        (conv => whnf)
        refine HIf.decT c1 ?_
        (conv => whnf)
        refine HIf.decT c1 ?_
        (conv => whnf)
        refine HIf.decT c1 ?_
        (conv => whnf)
        by_cases c2 : hm ≤ n1
        rotate_left
        · (repeat (refine HIf.decF c2 ?_; (conv => whnf)))
          (repeat (refine HIf.no ?_; (conv => whnf)))
          refine HArith.fits (by omega) (by omega) ?_
          (conv => whnf)
          exact ⟨done fun _ z2 => by
            rw [hM, hhm] at z2
            omega, by show a0.length - (i + 1) < a0.length - i; omega⟩
        (repeat (refine HIf.decT c2 ?_; (conv => whnf)))
        refine HCallQ.of (.bool (decide (M ∈ L'))) (spec_l7In _ _ L' _ M RO.frz F2.ints.frz htot) (fun x h' r => r.1) ?_
        cases hbb : decide (M ∈ L') with
        | true =>
          (conv => whnf)
          (repeat (refine HIf.decT c2 ?_; (conv => whnf)))
          (repeat (first | (refine HIf.no ?_; (conv => whnf)) | (refine HIf.isF rfl ?_; (conv => whnf))))
          refine HArith.fits (by omega) (by omega) ?_
          (conv => whnf)
          exact ⟨done fun _ _ _ => by
            rw [hM]
            exact of_decide_eq_true hbb, by show a0.length - (i + 1) < a0.length - i; omega⟩
        | false =>
          have hnin : M ∉ L' := of_decide_eq_false hbb
          (conv => whnf)
          (repeat (refine HIf.decT c2 ?_; (conv => whnf)))
          (repeat (refine HIf.isT rfl ?_; (conv => whnf)))
          refine HCallQ.of (.int .i64 hm) (spec_HeightOf _ _ M F2.ints.frz (by omega)) (fun x h' r => by rw [← hhm]; exact r.1) ?_
          (conv => whnf)
          (repeat (refine HIf.isT rfl ?_; (conv => whnf)))
          refine ⟨rfl, Rows.idxN RO hk2 (fun p2 y3 hp2 hy3 => ?_)⟩
          rw [hR] at hy3
          (conv => whnf)
          (repeat (refine HIf.isT rfl ?_; (conv => whnf)))
          refine ⟨rfl, hp2.load ?_⟩
          (conv => whnf)
          (repeat (refine HIf.isT rfl ?_; (conv => whnf)))
          refine HCallQ.of (.int .i64 (heightOf R)) (spec_HeightOf _ _ R hy3.frz (by omega)) (fun x h' r => r.1) ?_
          generalize hhr : heightOf R = hr at *
          (conv => whnf)
          (repeat (refine HIf.isT rfl ?_; (conv => whnf)))
          refine HIf.dec (fun c4 => ?_) (fun c4 => ?_)
          rotate_left
          · (conv => whnf)
            refine HArith.fits (by omega) (by omega) ?_
            (conv => whnf)
            exact ⟨done fun _ _ z3 => by
              rw [hM, hhm, hhr] at z3
              omega, by show a0.length - (i + 1) < a0.length - i; omega⟩
          have hin : ∀ j, j < L'.length → (L'.getD j []).length ≤ 1048576 := fun j hj => by
            have := hlenOf C _ (getD_in hj)
            omega
          have hup : RootUp a0 n1 M := by
            rw [← hM]
            refine .step i hi' (C.up R (hR ▸ getD_in hk2)) ?_ ?_ ?_
            · rw [hM, hsg]
              have := (rootSign_pos M).1 (by rw [hsg]; exact c1)
              omega
            · rw [hM, hhm]; exact c2
            · rw [hM, hhm, hhr]; omega
          obtain ⟨r, ρ, rfl, g2, g3, g4, m⟩ := O2
          (conv => whnf)
          refine (spec_l7Put _ _ _ _ _ M m F2.ints (by omega) (by omega) hin).mono ?_
          rintro v h3 ⟨y4, rfl, E3, M3⟩
          have l1 := E.1
          have l2 := F2.1.1
          have O3 := M3.own (c := h.length) (by omega) (by
            rintro q _ (⟨j, hj, e⟩ | e)
            · have := g4 j hj
              omega
            · omega)
          (conv => whnf)
          refine HArith.fits (by omega) (by omega) ?_
          (conv => whnf)
          have hbef : ∀ j, j ≤ k → beforeR M (L'.getD j []) = false := fun j hj => not_before (by
            have := sorted_height S hj hk2
            rw [hR, hhr] at this
            rw [hhm]
            omega)
          have hkeep := putR_keep (w := M) hk2 hbef
          have hget : ∀ j, j ≤ k → (putR M L').getD j [] = L'.getD j [] := fun j hj => by
            rw [← getD_take (L := putR M L') (k := k + 1) (by omega), ← getD_take (L := L') (k := k + 1) (by omega), hkeep]
          have hsub : ∀ x, x ∈ L' → x ∈ putR M L' := fun x hx => (putR_perm M L').mem_iff.2 (List.mem_cons_of_mem _ hx)
          have hpl := putR_length M L'
          refine ⟨⟨i + 1, y4, putR M L', rfl, by omega, (E.trans F2.1).trans E3, O3, ⟨?_, fun r hr => ?_, fun t ht => hsub _ (C.simple t ht)⟩, putR_sorted (n := a0.length) hml (hlenOf C) S, by omega, by rw [hkeep]; exact hpre, fun j hj t ht => ?_, fun t ht => ?_⟩, by show a0.length - (i + 1) < a0.length - i; omega⟩
          · exact (putR_perm M L').nodup_iff.2 (List.nodup_cons.2 ⟨hnin, C.nodup⟩)
          · rcases List.mem_cons.1 ((putR_perm M L').mem_iff.1 hr) with rfl | hr
            · exact hup
            · exact C.up r hr
          · rw [hget j (by omega)]
            exact fun a b d => hsub _ (hcl j hj t ht a b d)
          · rw [hget k (Nat.le_refl _), hR]
            by_cases e : t = i
            · subst e
              exact fun _ _ _ => by rw [hM]; exact (putR_perm M L').mem_iff.2 (by simp)
            · exact fun a b d => hsub _ (hci t (by omega) a b d)
      · have ei : i = a0.length := by omega
        subst ei
        (conv => whnf)
        refine HArith.fits (by omega) (by omega) ?_
        (conv => whnf)
        refine ⟨⟨k + 1, z, L', rfl, by omega, E, O, C, S, fun j hj t ht => ?_⟩, (by show 28562 - (k + 1) < 28562 - k; omega)⟩
        by_cases e : j = k
        · subst e
          exact hci t ht
        · exact hcl j (by omega) t ht
    · have ek : k = L.length := by omega
      subst ek
      have hall := C.up_all fun r hr i hi => by
        obtain ⟨j, hj, rfl⟩ := List.getElem_of_mem hr
        have := hcl j hj i hi
        simpa [List.getD, hj] using this
      (conv => whnf)
      rw [rootsUp_on ⟨hic, hcond.1, hcond.2⟩ ⟨S, C.nodup, hall⟩]
      exact ⟨_, rfl, E, O⟩

end Go.Proofs.Ytnooeaemjnmkdaa.Hx

namespace Go.Proofs.Ytnooeaemjnmkdaa.Hx
open Go.RowKit
variable {dm : Bool}

noncomputable def posRoots (c : List (List Int)) : List (List Int) := if isFinite c = true then rootsUp c 12 else []

theorem posRoots_off {c : List (List Int)} (h : isFinite c = false) : posRoots c = [] := by simp [posRoots, h]
theorem posRoots_on {c : List (List Int)} (h : isFinite c = true) : posRoots c = rootsUp c 12 := by simp [posRoots, h]

theorem isFinite_cartan {c : List (List Int)} (h : isFinite c = true) : isCartan c = true := by
  cases hc : isCartan c
  · rw [isFinite_off hc] at h
    cases h
  · rfl

theorem rootsUp_small (c : List (List Int)) (H : Int) : (rootsUp c H).length ≤ 28561 ∧ tot (rootsUp c H) ≤ 114244 := by
  by_cases h : isCartan c = true ∧ 1 ≤ H ∧ H ≤ 12
  · unfold rootsUp
    rw [if_pos h]
    split
    · rename_i hx
      have := (Classical.choose_spec hx).size ((isCartan_iff c).1 h.1) h.2.2 h.2.1
      omega
    · simp [tot]
  · rw [rootsUp_off h]
    simp [tot]

theorem posRoots_small (c : List (List Int)) : (posRoots c).length ≤ 28561 ∧ tot (posRoots c) ≤ 114244 := by
  cases h : isFinite c
  · rw [posRoots_off h]
    simp [tot]
  · rw [posRoots_on h]
    exact rootsUp_small c 12

theorem posRoots_size (c : List (List Int)) : (posRoots c).length ≤ 1099511627776 ∧ tot (posRoots c) ≤ 1099511627776 := by
  have := posRoots_small c
  omega

def addTo (a b : List Int) (k : Nat) : List Int := (List.range k).map fun i => IntKind.i64.wrap (a.getD i 0 + b.getD i 0)
def addW (a b : List Int) : List Int := addTo a b (min a.length b.length)
theorem addTo_succ (a b : List Int) (k : Nat) : addTo a b (k + 1) = addTo a b k ++ [IntKind.i64.wrap (a.getD k 0 + b.getD k 0)] := by
  unfold addTo
  rw [List.range_succ, List.map_append]
  rfl
theorem addTo_len (a b : List Int) (k : Nat) : (addTo a b k).length = k := by simp [addTo]
theorem addW_len (a b : List Int) : (addW a b).length ≤ a.length := by
  rw [addW, addTo_len]
  exact Nat.min_le_left _ _

def ClosedP (c L : List (List Int)) : Prop :=
  isFinite c = true ∧ (∀ i, i < L.length → L.getD i [] ∈ posRoots c) ∧ ∀ i, i < L.length → ∀ k, k < i → addW (L.getD i []) (L.getD k []) ∈ posRoots c → addW (L.getD i []) (L.getD k []) ∈ L
open Classical in
noncomputable def isClosed (c L : List (List Int)) : Bool := decide (ClosedP c L)
open Classical in
theorem isClosed_on {c L : List (List Int)} (h : ClosedP c L) : isClosed c L = true := by
  unfold isClosed
  exact decide_eq_true h
open Classical in
theorem isClosed_off {c L : List (List Int)} (h : ¬ ClosedP c L) : isClosed c L = false := by
  unfold isClosed
  exact decide_eq_false h

theorem OwnM.down {b c e : Nat} {h : Heap} {x : H0} {L : List (List Int)} (H : OwnM b e h x L) (k : c ≤ b) : OwnM c e h x L := by
  obtain ⟨r, ρ, g1, g2, g3, g4, m⟩ := H
  exact ⟨r, ρ, g1, by omega, g3, fun i hi => by have := g4 i hi; omega, m⟩

theorem Rows.tkk {h : Heap} {r off len u : Nat} {L : List (List Int)} (H : Rows h (.sl r off len) L) (hl : u ≤ len) : Rows h (.sl r off u) (L.take u) := by
  obtain ⟨xs, h1, h2, h3⟩ := H
  have part : ∀ y, Shows h (.s y) (xs.take u) → Rows h y (L.take u) := fun y hy => ⟨xs.take u, hy, by simp [h2], fun i z l a b => by
    rw [List.getElem?_take] at a b
    split at a
    · rw [if_pos (by assumption)] at b
      exact h3 i z l a b
    · cases a⟩
  generalize hxs : xs = X at h1 part h2
  cases h1 with
  | ro _ _ _ cs hr hl2 =>
    refine part _ ?_
    have := Shows.ro (h := h) r off u cs hr (by omega)
    rw [List.take_take, Nat.min_eq_left hl]
    exact this
  | own _ _ _ cs hr hl2 =>
    refine part _ ?_
    have := Shows.own (h := h) r off u cs hr (by omega)
    rw [List.take_take, Nat.min_eq_left hl]
    exact this

/-- The first entries of a slice of slices. -/
theorem Rows.tk {h : Heap} {x : H0} {L : List (List Int)} (H : Rows h x L) (u : Nat) (hL : u ≤ L.length) {K : HV → Prop} (hK : ∀ y, Rows h y (L.take u) → K (.s y)) : HSlice h (.s x) none (some (I u)) K := by
  have H0 := H
  obtain ⟨xs, h1, h2, h3⟩ := H
  generalize hxs : xs = X at h1 h2
  cases h1 with
  | nils b c =>
    have e : u = 0 := by simp at h2; omega
    subst e
    refine ⟨0, 0, 0, rfl, Or.inl ⟨rfl, rfl⟩, Or.inr ⟨.i64, rfl⟩, Nat.le_refl _, Or.inl (Nat.le_refl _), hK _ ?_⟩
    have : L = [] := by cases L; rfl; simp at h2
    subst this
    exact H0
  | ro r off len cs hr hl =>
    have e : len = L.length := by simp at h2; omega
    exact ⟨len, 0, u, rfl, Or.inl ⟨rfl, rfl⟩, Or.inr ⟨.i64, rfl⟩, Nat.zero_le _, Or.inl (by omega), hK _ (H0.tkk (by omega))⟩
  | own r off len cs hr hl =>
    have e : len = L.length := by simp at h2; omega
    exact ⟨len, 0, u, rfl, Or.inl ⟨rfl, rfl⟩, Or.inr ⟨.i64, rfl⟩, Nat.zero_le _, Or.inl (by omega), hK _ (H0.tkk (by omega))⟩


theorem impl_PositiveRoots (h : Heap) (x0 : H0) (a0 : List (List Int)) (hx0 : Rows h x0 a0) (s0 : a0.length ≤ 1048576 ∧ tot a0 ≤ 1048576) :
    HCalls dm Try.prog 22 [.s x0] h (fun r h' => ∃ y, r = T2 y (isFinite a0) ∧ Ext h h' ∧ OwnM h.length h'.length h' y (posRoots a0)) := by
  refine calls_of_hFun (m := 0) kd_ok mixed Try.func22 rfl (by kernel_rfl) rfl rfl (of_decide_eq_true rfl) ?_; unfold hFun; (conv => whnf)
  refine (impl_IsFinite _ _ a0 hx0 (by omega)).mono ?_
  rintro r h1 ⟨rfl, E⟩
  (conv => whnf)
  cases hf : isFinite a0
  · (repeat (first | (refine HIf.yes ?_; conv => whnf) | (refine HIf.no ?_; conv => whnf)))
    refine HLit.empty ?_
    (conv => whnf)
    rw [posRoots_off hf]
    exact ⟨_, rfl, E.trans (Ext.push _ _), (OwnM.none h1).down E.1⟩
  (repeat (first | (refine HIf.yes ?_; conv => whnf) | (refine HIf.no ?_; conv => whnf)))
  refine (impl_RootsUpTo _ _ a0 12 (hx0.ext E) s0 (by omega)).mono ?_
  rintro r h2 ⟨y, rfl, E2, O⟩
  (conv => whnf)
  rw [posRoots_on hf]
  exact ⟨_, rfl, E.trans E2, O.down E.1⟩

theorem spec_PositiveRoots (h : Heap) (x0 : H0) (a0 : List (List Int)) (hx0 : Rows h x0 a0) (s0 : a0.length ≤ 1048576 ∧ tot a0 ≤ 1048576) :
    HCalls dm Try.prog 21 [.s x0] h (fun r h' => ∃ y, r = T2 y (isFinite a0) ∧ Ext h h' ∧ OwnM h.length h'.length h' y (posRoots a0)) := by
  refine calls_of_hFun (m := 0) kd_ok mixed Try.func21 rfl (by kernel_rfl) rfl rfl (of_decide_eq_true rfl) ?_; unfold hFun; (conv => whnf)
  refine (spec_IsFinite _ _ a0 hx0 (by omega)).mono ?_
  rintro r h1 ⟨rfl, E⟩
  (conv => whnf)
  cases hf : isFinite a0
  · (repeat (first | (refine HIf.yes ?_; conv => whnf) | (refine HIf.no ?_; conv => whnf)))
    refine HLit.empty ?_
    (conv => whnf)
    rw [posRoots_off hf]
    exact ⟨_, rfl, E.trans (Ext.push _ _), (OwnM.none h1).down E.1⟩
  (repeat (first | (refine HIf.yes ?_; conv => whnf) | (refine HIf.no ?_; conv => whnf)))
  refine (spec_RootsUpTo _ _ a0 12 (hx0.ext E) s0 (by omega)).mono ?_
  rintro r h2 ⟨y, rfl, E2, O⟩
  (conv => whnf)
  rw [posRoots_on hf]
  exact ⟨_, rfl, E.trans E2, O.down E.1⟩

theorem impl_AddWeights (h : Heap) (x0 : H0) (a0 : List Int) (x1 : H0) (a1 : List Int) (hx0 : Ints h x0 a0) (hx1 : Ints h x1 a1) (s0 : a0.length ≤ 1048576) (_s1 : a1.length ≤ 1048576) :
    HCalls dm Try.prog 54 [.s x0, .s x1] h (fun r h' => ∃ y, r = .s y ∧ Fresh h h' y (addW a0 a1)) := by
  refine calls_of_hFun (m := 0) kd_ok mixed Try.func54 rfl (by kernel_rfl) rfl rfl (of_decide_eq_true rfl) ?_; unfold hFun; (conv => whnf)
  have E0 := Ext.push h [Row.own []]
  refine HLit.empty ?_
  (conv => whnf)
  refine ⟨rfl, (hx0.ext E0).len ?_⟩
  (conv => whnf)
  refine ⟨rfl, (hx1.ext E0).len ?_⟩
  (conv => whnf)
  refine ⟨.i64, _, _, rfl, rfl, ?_⟩
  have em : (if (a1.length : Int) < (a0.length : Int) then (a1.length : Int) else (a0.length : Int)) = ((min a0.length a1.length : Nat) : Int) := by split <;> omega
  rw [em]
  clear em
  have hm1 := Nat.min_le_left a0.length a1.length
  have hm2 := Nat.min_le_right a0.length a1.length
  have hav : addW a0 a1 = addTo a0 a1 (min a0.length a1.length) := rfl
  rw [hav]
  clear hav
  generalize min a0.length a1.length = m at *
  (conv => whnf)
  refine HLoop.intro [13, 5] [14, 15, 6, 16, 17, 18, 19, 20, 21, 22, 23, 24, 25, 26, 27, 5, 28, 13] (by kernel_rfl) (by kernel_rfl) (fun vs h' => ∃ (k : Nat) (z : H0), vs = [I k, .s z] ∧ k ≤ m ∧ Ext h h' ∧ Own h.length h'.length h' z (addTo a0 a1 k)) (fun vs _ => m - natAt vs 0) ⟨0, _, rfl, by omega, E0, Own.none h⟩ ?_
  clear E0
  rintro vs h' ⟨k, z, rfl, hk, E, O⟩
  (conv => whnf)
  refine HIf.dec (fun hlt => ?_) (fun hge => ?_)
  · (conv => whnf)
    refine Or.inr (Or.inr (Or.inl (Exists.intro 11 (Exists.intro [0, 1, 2, 3, 4, 5, 6, 7, 8, 9] (Exists.intro [10, 11, 12] (And.intro (show heldOk _ _ _ _ = true by kernel_rfl) ?_)))))); (conv => whnf)
    refine ⟨rfl, (hx0.ext E).idxN (by omega) (fun p hp => ?_)⟩
    (conv => whnf)
    refine ⟨rfl, hp.load ?_⟩
    (conv => whnf)
    refine ⟨rfl, (hx1.ext E).idxN (by omega) (fun p2 hp2 => ?_)⟩
    (conv => whnf)
    refine ⟨rfl, hp2.load ?_⟩
    (conv => whnf)
    refine HArith.any ?_
    (conv => whnf)
    refine HLit.one ?_
    (conv => whnf)
    refine ⟨rfl, rfl, HApp.snoc E O (by rw [addTo_len]; omega) (fun h4 y4 E4 O4 => ?_)⟩
    rw [← addTo_succ] at O4
    (conv => whnf)
    refine HArith.fits (by omega) (by omega) ?_
    (conv => whnf)
    exact ⟨⟨k + 1, y4, rfl, by omega, E4, O4⟩, by show m - (k + 1) < m - k; omega⟩
  · have e : k = m := by omega
    subst e
    (conv => whnf)
    exact ⟨_, rfl, Fresh.of E O⟩

theorem spec_AddWeights (h : Heap) (x0 : H0) (a0 : List Int) (x1 : H0) (a1 : List Int) (hx0 : Ints h x0 a0) (hx1 : Ints h x1 a1) (s0 : a0.length ≤ 1048576) (_s1 : a1.length ≤ 1048576) :
    HCalls dm Try.prog 52 [.s x0, .s x1] h (fun r h' => ∃ y, r = .s y ∧ Fresh h h' y (addW a0 a1)) := by
  refine calls_of_hFun (m := 0) kd_ok mixed Try.func52 rfl (by kernel_rfl) rfl rfl (of_decide_eq_true rfl) ?_; unfold hFun; (conv => whnf)
  have E0 := Ext.push h [Row.own []]
  refine HLit.empty ?_
  have hm1 := Nat.min_le_left a0.length a1.length
  have hm2 := Nat.min_le_right a0.length a1.length
  have hm3 : ∀ k : Nat, k < a0.length → k < a1.length → k < min a0.length a1.length := fun k _ _ => by omega
  have hav : addW a0 a1 = addTo a0 a1 (min a0.length a1.length) := rfl
  rw [hav]
  clear hav
  generalize min a0.length a1.length = m at *
  (conv => whnf)
  refine HLoop.intro [6, 5] [8, 9, 10, 11, 12, 13, 14, 15, 16, 17, 20, 21, 22, 23, 24, 25, 26, 27, 28, 29, 30, 31, 5, 18, 19, 6] (by kernel_rfl) (by kernel_rfl) (fun vs h' => ∃ (k : Nat) (z : H0), vs = [I k, .s z] ∧ k ≤ m ∧ Ext h h' ∧ Own h.length h'.length h' z (addTo a0 a1 k)) (fun vs _ => m - natAt vs 0) ⟨0, _, rfl, by omega, E0, Own.none h⟩ ?_
  clear E0
  rintro vs h' ⟨k, z, rfl, hk, E, O⟩
  (conv => whnf)
  have fin : ∀ (_ : ¬ (k < a0.length ∧ k < a1.length)), ∃ y, HV.s z = .s y ∧ Fresh h h' y (addTo a0 a1 m) := fun hn => by
    have e : k = m := by
      by_cases k1 : k < m
      · omega
      · omega
    subst e
    exact ⟨_, rfl, Fresh.of E O⟩
  refine ⟨rfl, (hx0.ext E).len ?_⟩
  (conv => whnf)
  by_cases hlt : (k : Int) < (a0.length : Int)
  rotate_left
  · (repeat (first | (refine HIf.decF hlt ?_; (conv => whnf)) | (refine HIf.no ?_; (conv => whnf))))
    exact fin (by omega)
  (repeat (refine HIf.decT hlt ?_; (conv => whnf)))
  refine ⟨rfl, (hx1.ext E).len ?_⟩
  (conv => whnf)
  (repeat (refine HIf.decT hlt ?_; (conv => whnf)))
  by_cases hlt2 : (k : Int) < (a1.length : Int)
  rotate_left
  · (repeat (first | (refine HIf.decT hlt ?_; (conv => whnf)) | (refine HIf.decF hlt2 ?_; (conv => whnf)) | (refine HIf.no ?_; (conv => whnf))))
    exact fin (by omega)
  (repeat (first | (refine HIf.decT hlt ?_; (conv => whnf)) | (refine HIf.decT hlt2 ?_; (conv => whnf))))
  have := hm3 k (by omega) (by omega)
  refine Or.inr (Or.inr (Or.inl (Exists.intro 11 (Exists.intro [0, 1, 2, 3, 4, 5, 6, 7, 8, 9] (Exists.intro [10, 11, 12] (And.intro (show heldOk _ _ _ _ = true by kernel_rfl) ?_)))))); (conv => whnf)
  refine ⟨rfl, (hx0.ext E).idxN (by omega) (fun p hp => ?_)⟩
  (conv => whnf)
  refine ⟨rfl, hp.load ?_⟩
  (conv => whnf)
  refine ⟨rfl, (hx1.ext E).idxN (by omega) (fun p2 hp2 => ?_)⟩
  (conv => whnf)
  refine ⟨rfl, hp2.load ?_⟩
  (conv => whnf)
  refine HArith.any ?_
  (conv => whnf)
  refine HLit.one ?_
  (conv => whnf)
  refine ⟨rfl, rfl, HApp.snoc E O (by rw [addTo_len]; omega) (fun h4 y4 E4 O4 => ?_)⟩
  rw [← addTo_succ] at O4
  (conv => whnf)
  refine HArith.fits (by omega) (by omega) ?_
  (conv => whnf)
  exact ⟨⟨k + 1, y4, rfl, by omega, E4, O4⟩, by show m - (k + 1) < m - k; omega⟩

end Go.Proofs.Ytnooeaemjnmkdaa.Hx

namespace Go.Proofs.Ytnooeaemjnmkdaa.Hx
open Go.RowKit
variable {dm : Bool}


theorem impl_IsClosedSet (h : Heap) (x0 : H0) (a0 : List (List Int)) (x1 : H0) (a1 : List (List Int)) (hx0 : Rows h x0 a0) (hx1 : Rows h x1 a1) (s0 : a0.length ≤ 1048576 ∧ tot a0 ≤ 1048576) (s1 : a1.length ≤ 1048576 ∧ tot a1 ≤ 1048576) :
    HCalls dm Try.prog 26 [.s x0, .s x1] h (fun r h' => r = B (isClosed a0 a1) ∧ Ext h h') := by
  refine calls_of_hFun (m := 0) kd_ok mixed Try.func26 rfl (by kernel_rfl) rfl rfl (of_decide_eq_true rfl) ?_; unfold hFun; (conv => whnf)
  refine (impl_PositiveRoots _ _ a0 hx0 s0).mono ?_
  rintro r h1 ⟨y, rfl, E1, O1⟩
  have hps := posRoots_small a0
  (conv => whnf)
  cases hf : isFinite a0
  · (repeat (first | (refine HIf.yes ?_; conv => whnf) | (refine HIf.no ?_; conv => whnf)))
    exact ⟨bEq (isClosed_off fun k => by have := k.1; rw [hf] at this; cases this), E1⟩
  (repeat (first | (refine HIf.yes ?_; conv => whnf) | (refine HIf.no ?_; conv => whnf)))
  refine ⟨rfl, (hx1.ext E1).len ?_⟩
  (conv => whnf)
  refine HLoop.intro [23] [24, 25, 26, 8, 27, 28, 29, 30, 4, 31, 23] (by kernel_rfl) (by kernel_rfl) (fun vs h' => ∃ i : Nat, vs = [I i] ∧ i ≤ a1.length ∧ Ext h h' ∧ OwnM h.length h1.length h' y (posRoots a0) ∧ h1.length ≤ h'.length ∧ ∀ j, j < i → a1.getD j [] ∈ posRoots a0) (fun vs _ => a1.length - natAt vs 0) ⟨0, rfl, by omega, E1, O1, Nat.le_refl _, fun j hj => by omega⟩ ?_
  generalize h1.length = N at *
  clear E1 O1
  rintro vs h' ⟨i, rfl, hi, E, O, hN, hin⟩
  (conv => whnf)
  refine HIf.dec (fun hlt => ?_) (fun hge => ?_)
  · (conv => whnf)
    have hle := len_le_tot (L := a1) (i := i) (by omega)
    refine ⟨rfl, (hx1.ext E).idxN (by omega) (fun p z hp hz => ?_)⟩
    (conv => whnf)
    refine ⟨rfl, hp.load ?_⟩
    (conv => whnf)
    refine (impl_hasRoot _ _ (posRoots a0) _ _ O.rows hz (by omega) (by omega)).mono ?_
    rintro v h2 ⟨rfl, E2⟩
    (conv => whnf)
    by_cases hm : a1.getD i [] ∈ posRoots a0
    rotate_left
    · refine HIf.bnot (HIf.decF hm ?_)
      (conv => whnf)
      exact ⟨bEq (isClosed_off fun k => hm (k.2.1 i (by omega))), E.trans E2⟩
    refine HIf.bnot (HIf.decT hm ?_)
    (conv => whnf)
    refine HArith.fits (by omega) (by omega) ?_
    (conv => whnf)
    have := E2.1
    exact ⟨⟨i + 1, rfl, by omega, E.trans E2, O.ext E2, by omega, fun j hj => by
      by_cases e : j = i
      · subst e; exact hm
      · exact hin j (by omega)⟩, by show a1.length - (i + 1) < a1.length - i; omega⟩
  have ei : i = a1.length := by omega
  subst ei
  (conv => whnf)
  refine ⟨rfl, (hx1.ext E).len ?_⟩
  (conv => whnf)
  refine HLoop.intro [34] [35, 36, 37, 38, 9, 10, 39, 40, 41, 42, 43, 44, 45, 46, 12, 47, 48, 49, 13, 50, 51, 52, 53, 54, 55, 56, 57, 58, 4, 59, 43, 60, 34] (by kernel_rfl) (by kernel_rfl) (fun vs h' => ∃ i : Nat, vs = [I i] ∧ i ≤ a1.length ∧ Ext h h' ∧ OwnM h.length N h' y (posRoots a0) ∧ N ≤ h'.length ∧ ∀ j, j < i → ∀ k, k < j → addW (a1.getD j []) (a1.getD k []) ∈ posRoots a0 → addW (a1.getD j []) (a1.getD k []) ∈ a1) (fun vs _ => a1.length - natAt vs 0) ⟨0, rfl, by omega, E, O, hN, fun j hj => by omega⟩ ?_
  clear E O hN
  rintro vs h' ⟨i, rfl, hi, E, O, hN, hcl⟩
  (conv => whnf)
  refine HIf.dec (fun hlt => ?_) (fun hge => ?_)
  rotate_left
  · have ei : i = a1.length := by omega
    subst ei
    (conv => whnf)
    exact ⟨bEq (isClosed_on ⟨hf, hin, hcl⟩), E⟩
  have hle := len_le_tot (L := a1) (i := i) (by omega)
  (conv => whnf)
  refine ⟨rfl, (hx1.ext E).idxN (by omega) (fun p z hp hz => ?_)⟩
  (conv => whnf)
  refine ⟨rfl, hp.load ?_⟩
  (conv => whnf)
  refine ⟨rfl, (hx1.ext E).tk i (by omega) (fun ys hys => ?_)⟩
  (conv => whnf)
  refine ⟨rfl, hys.len ?_⟩
  have etl : (a1.take i).length = i := by rw [List.length_take]; omega
  rw [etl]
  (conv => whnf)
  refine HLoop.intro [43] [44, 45, 46, 12, 47, 48, 49, 13, 50, 51, 52, 53, 54, 55, 56, 57, 58, 4, 59, 43] (by kernel_rfl) (by kernel_rfl) (fun vs h2 => ∃ k : Nat, vs = [I k] ∧ k ≤ i ∧ Ext h' h2 ∧ OwnM h.length N h2 y (posRoots a0) ∧ N ≤ h2.length ∧ ∀ j, j < k → addW (a1.getD i []) (a1.getD j []) ∈ posRoots a0 → addW (a1.getD i []) (a1.getD j []) ∈ a1) (fun vs _ => i - natAt vs 0) ⟨0, rfl, by omega, Ext.refl _, O, hN, fun j hj => by omega⟩ ?_
  clear O hN
  rintro vs h2 ⟨k, rfl, hk, E2, O, hN, hck⟩
  have E3 := E.trans E2
  (conv => whnf)
  refine HIf.dec (fun hlt2 => ?_) (fun hge2 => ?_)
  · (conv => whnf)
    have hle2 := len_le_tot (L := a1) (i := k) (by omega)
    refine ⟨rfl, (hys.ext E2).idxN (by omega) (fun p2 z2 hp2 hz2 => ?_)⟩
    rw [getD_take (show k < i by omega)] at hz2
    (conv => whnf)
    refine ⟨rfl, hp2.load ?_⟩
    (conv => whnf)
    refine (impl_AddWeights _ _ _ _ _ (hz.ext E2) hz2 (by omega) (by omega)).mono ?_
    rintro v h4 ⟨z4, rfl, f4⟩
    have hal := addW_len (a1.getD i []) (a1.getD k [])
    (conv => whnf)
    generalize hS : addW (a1.getD i []) (a1.getD k []) = S at *
    refine (impl_hasRoot _ _ (posRoots a0) _ S (O.ext f4.1).rows f4.ints (by omega) (by omega)).mono ?_
    rintro v h5 ⟨rfl, E5⟩
    have E6 := f4.1.trans E5
    have := E6.1
    have next : ∀ h6, Ext h2 h6 → (S ∈ posRoots a0 → S ∈ a1) → (∃ k_1 : Nat, [I ((k : Int) + 1)] = [I k_1] ∧ k_1 ≤ i ∧ Ext h' h6 ∧ OwnM h.length N h6 y (posRoots a0) ∧ N ≤ h6.length ∧ ∀ j, j < k_1 → addW (a1.getD i []) (a1.getD j []) ∈ posRoots a0 → addW (a1.getD i []) (a1.getD j []) ∈ a1) := fun h6 F hs => by
      have := F.1
      exact ⟨k + 1, rfl, by omega, E2.trans F, O.ext F, by omega, fun j hj => by
        by_cases e : j = k
        · subst e; rw [hS]; exact hs
        · exact hck j (by omega)⟩
    (conv => whnf)
    by_cases hm : S ∈ posRoots a0
    rotate_left
    · (repeat (first | (refine HIf.decF hm ?_; conv => whnf) | (refine HIf.no ?_; conv => whnf)))
      refine HArith.fits (by omega) (by omega) ?_
      (conv => whnf)
      exact ⟨next _ E6 (fun q => absurd q hm), by show i - (k + 1) < i - k; omega⟩
    (repeat (first | (refine HIf.decT hm ?_; conv => whnf)))
    refine (impl_hasRoot _ _ a1 _ S ((hx1.ext E3).ext E6) (f4.ints.ext E5) (by omega) (by omega)).mono ?_
    rintro v h7 ⟨rfl, E7⟩
    (conv => whnf)
    (repeat (first | (refine HIf.decT hm ?_; conv => whnf)))
    by_cases hm2 : S ∈ a1
    rotate_left
    · (repeat (first | (refine HIf.bnot (HIf.decF hm2 ?_); conv => whnf) | (refine HIf.no ?_; conv => whnf) | (refine HIf.decT hm ?_; conv => whnf)))
      exact ⟨bEq (isClosed_off fun q => hm2 (by have := q.2.2 i (by omega) k (by omega); rw [hS] at this; exact this hm)), (E3.trans E6).trans E7⟩
    (repeat (first | (refine HIf.bnot (HIf.decT hm2 ?_); conv => whnf) | (refine HIf.yes ?_; conv => whnf) | (refine HIf.decT hm ?_; conv => whnf)))
    refine HArith.fits (by omega) (by omega) ?_
    (conv => whnf)
    exact ⟨next _ (E6.trans E7) (fun _ => hm2), by show i - (k + 1) < i - k; omega⟩
  · have ek : k = i := by omega
    subst ek
    (conv => whnf)
    refine HArith.fits (by omega) (by omega) ?_
    (conv => whnf)
    exact ⟨⟨k + 1, rfl, by omega, E3, O, hN, fun j hj => by
      by_cases e : j = k
      · subst e; exact hck
      · exact hcl j (by omega)⟩, by show a1.length - (k + 1) < a1.length - k; omega⟩

theorem spec_IsClosedSet (h : Heap) (x0 : H0) (a0 : List (List Int)) (x1 : H0) (a1 : List (List Int)) (hx0 : Rows h x0 a0) (hx1 : Rows h x1 a1) (s0 : a0.length ≤ 1048576 ∧ tot a0 ≤ 1048576) (s1 : a1.length ≤ 1048576 ∧ tot a1 ≤ 1048576) :
    HCalls dm Try.prog 25 [.s x0, .s x1] h (fun r h' => r = B (isClosed a0 a1) ∧ Ext h h') := by
  refine calls_of_hFun (m := 0) kd_ok mixed Try.func25 rfl (by kernel_rfl) rfl rfl (of_decide_eq_true rfl) ?_; unfold hFun; (conv => whnf)
  refine (spec_PositiveRoots _ _ a0 hx0 s0).mono ?_
  rintro r h1 ⟨y, rfl, E1, O1⟩
  have hps := posRoots_small a0
  (conv => whnf)
  refine HLoop.intro [7] [16, 17, 18, 19, 20, 21, 22, 8, 25, 26, 27, 30, 31, 32, 33, 34, 35, 36, 37, 38, 9, 39, 40, 41, 42, 43, 44, 45, 46, 47, 4, 28, 29, 8, 23, 24, 7] (by kernel_rfl) (by kernel_rfl) (fun vs h' => ∃ i : Nat, vs = [I i] ∧ i ≤ a1.length ∧ Ext h h' ∧ OwnM h.length h1.length h' y (posRoots a0) ∧ h1.length ≤ h'.length ∧ ∀ j, j < i → ∀ k, k < j → addW (a1.getD j []) (a1.getD k []) ∈ posRoots a0 → addW (a1.getD j []) (a1.getD k []) ∈ a1) (fun vs _ => a1.length - natAt vs 0) ⟨0, rfl, by omega, E1, O1, Nat.le_refl _, fun j hj => by omega⟩ ?_
  generalize h1.length = N at *
  clear E1 O1
  rintro vs h' ⟨i, rfl, hi, E, O, hN, hcl⟩
  (conv => whnf)
  refine ⟨rfl, (hx1.ext E).len ?_⟩
  (conv => whnf)
  by_cases hgo : i < a1.length ∧ isFinite a0 = true
  rotate_left
  · have hall : isFinite a0 = true → i = a1.length := fun hf => by
      by_cases e : i < a1.length
      · exact absurd ⟨e, hf⟩ hgo
      · omega
    by_cases hlt : (i : Int) < (a1.length : Int)
    case' pos =>
      have hf : isFinite a0 = false := by
        cases hf : isFinite a0
        · rfl
        · have := hall hf
          omega
      (repeat (first | (refine HIf.decT hlt ?_; conv => whnf) | (refine HIf.isF hf ?_; conv => whnf) | (refine HIf.no ?_; conv => whnf)))
    case' neg =>
      (repeat (first | (refine HIf.decF hlt ?_; conv => whnf) | (refine HIf.no ?_; conv => whnf)))
    all_goals
      refine HLoop.intro [10] [48, 49, 50, 51, 54, 55, 56, 57, 58, 59, 60, 4, 52, 53, 10] (by kernel_rfl) (by kernel_rfl) (fun vs h' => ∃ i : Nat, vs = [I i] ∧ i ≤ a1.length ∧ Ext h h' ∧ OwnM h.length N h' y (posRoots a0) ∧ ∀ j, j < i → a1.getD j [] ∈ posRoots a0) (fun vs _ => a1.length - natAt vs 0) ⟨0, rfl, by omega, E, O, fun j hj => by omega⟩ ?_
      clear E O hN hi hlt
      rintro vs h' ⟨t, rfl, ht, E, O, hin⟩
      (conv => whnf)
      refine ⟨rfl, (hx1.ext E).len ?_⟩
      (conv => whnf)
      refine HIf.dec (fun hlt => ?_) (fun hge => ?_)
      · (conv => whnf)
        have hle := len_le_tot (L := a1) (i := t) (by omega)
        refine ⟨rfl, (hx1.ext E).idxN (by omega) (fun p z hp hz => ?_)⟩
        (conv => whnf)
        refine ⟨rfl, hp.load ?_⟩
        (conv => whnf)
        refine (spec_l7In _ _ (posRoots a0) _ _ O.rows hz (by omega)).mono ?_
        rintro v h2 ⟨rfl, hh⟩
        subst h2
        (conv => whnf)
        by_cases hm : a1.getD t [] ∈ posRoots a0
        rotate_left
        · refine HIf.bnot (HIf.decF hm ?_)
          (conv => whnf)
          exact ⟨bEq (isClosed_off fun k => hm (k.2.1 t (by omega))), E⟩
        refine HIf.bnot (HIf.decT hm ?_)
        (conv => whnf)
        refine HArith.fits (by omega) (by omega) ?_
        (conv => whnf)
        exact ⟨⟨t + 1, rfl, by omega, E, O, fun j hj => by
          by_cases e : j = t
          · subst e; exact hm
          · exact hin j (by omega)⟩, by show a1.length - (t + 1) < a1.length - t; omega⟩
      · have et : t = a1.length := by omega
        subst et
        (conv => whnf)
        refine ⟨bEq ?_, E⟩
        cases hf : isFinite a0
        · exact isClosed_off fun k => by have := k.1; rw [hf] at this; cases this
        · have := hall hf
          subst this
          exact isClosed_on ⟨hf, hin, hcl⟩
  obtain ⟨hil, hf⟩ := hgo
  have hlt : (i : Int) < (a1.length : Int) := by omega
  have hle := len_le_tot (L := a1) (i := i) hil
  (repeat (first | (refine HIf.decT hlt ?_; conv => whnf) | (refine HIf.isT hf ?_; conv => whnf)))
  refine HLoop.intro [8] [25, 26, 27, 30, 31, 32, 33, 34, 35, 36, 37, 38, 9, 39, 40, 41, 42, 43, 44, 45, 46, 47, 4, 28, 29, 8] (by kernel_rfl) (by kernel_rfl) (fun vs h2 => ∃ k : Nat, vs = [I k] ∧ k ≤ i ∧ Ext h' h2 ∧ OwnM h.length N h2 y (posRoots a0) ∧ N ≤ h2.length ∧ ∀ j, j < k → addW (a1.getD i []) (a1.getD j []) ∈ posRoots a0 → addW (a1.getD i []) (a1.getD j []) ∈ a1) (fun vs _ => i - natAt vs 0) ⟨0, rfl, by omega, Ext.refl _, O, hN, fun j hj => by omega⟩ ?_
  clear O hN hlt
  rintro vs h2 ⟨k, rfl, hk, E2, O, hN, hck⟩
  have E3 := E.trans E2
  (conv => whnf)
  refine HIf.dec (fun hlt2 => ?_) (fun hge2 => ?_)
  · (conv => whnf)
    have hle2 := len_le_tot (L := a1) (i := k) (by omega)
    refine Or.inr (Or.inr (Or.inl (Exists.intro 10 (Exists.intro [0, 1, 2, 3, 4, 5, 6, 7] (Exists.intro [8, 9] (And.intro (show heldOk _ _ _ _ = true by kernel_rfl) ?_)))))); (conv => whnf)
    refine ⟨rfl, (hx1.ext E3).idxN hil (fun p z hp hz => ?_)⟩
    (conv => whnf)
    refine ⟨rfl, hp.load ?_⟩
    (conv => whnf)
    refine ⟨rfl, (hx1.ext E3).idxN (by omega) (fun p2 z2 hp2 hz2 => ?_)⟩
    (conv => whnf)
    refine ⟨rfl, hp2.load ?_⟩
    (conv => whnf)
    refine HCallF.fresh (spec_AddWeights _ _ _ _ _ hz.frz hz2.frz (by omega) (by omega)) (fun h4 z4 f4 => ?_)
    have hal := addW_len (a1.getD i []) (a1.getD k [])
    (conv => whnf)
    generalize hS : addW (a1.getD i []) (a1.getD k []) = S at *
    refine (spec_l7In _ _ (posRoots a0) _ S (O.ext f4.1).rows f4.ints (by omega)).mono ?_
    rintro v h5 ⟨rfl, hh⟩
    subst h5
    have E6 := f4.1
    have := E6.1
    have next : (S ∈ posRoots a0 → S ∈ a1) → (∃ k_1 : Nat, [I ((k : Int) + 1)] = [I k_1] ∧ k_1 ≤ i ∧ Ext h' h4 ∧ OwnM h.length N h4 y (posRoots a0) ∧ N ≤ h4.length ∧ ∀ j, j < k_1 → addW (a1.getD i []) (a1.getD j []) ∈ posRoots a0 → addW (a1.getD i []) (a1.getD j []) ∈ a1) := fun hs =>
      ⟨k + 1, rfl, by omega, E2.trans E6, O.ext E6, by omega, fun j hj => by
        by_cases e : j = k
        · subst e; rw [hS]; exact hs
        · exact hck j (by omega)⟩
    (conv => whnf)
    by_cases hm : S ∈ posRoots a0
    rotate_left
    · (repeat (first | (refine HIf.decF hm ?_; conv => whnf) | (refine HIf.no ?_; conv => whnf)))
      refine HArith.fits (by omega) (by omega) ?_
      (conv => whnf)
      exact ⟨next (fun q => absurd q hm), by show i - (k + 1) < i - k; omega⟩
    (repeat (first | (refine HIf.decT hm ?_; conv => whnf)))
    refine (spec_l7In _ _ a1 _ S ((hx1.ext E3).ext E6) f4.ints (by omega)).mono ?_
    rintro v h7 ⟨rfl, hh⟩
    subst h7
    (conv => whnf)
    (repeat (first | (refine HIf.decT hm ?_; conv => whnf)))
    by_cases hm2 : S ∈ a1
    rotate_left
    · (repeat (first | (refine HIf.bnot (HIf.decF hm2 ?_); conv => whnf) | (refine HIf.no ?_; conv => whnf) | (refine HIf.decT hm ?_; conv => whnf)))
      exact ⟨bEq (isClosed_off fun q => hm2 (by have := q.2.2 i (by omega) k (by omega); rw [hS] at this; exact this hm)), E3.trans E6⟩
    (repeat (first | (refine HIf.bnot (HIf.decT hm2 ?_); conv => whnf) | (refine HIf.yes ?_; conv => whnf) | (refine HIf.decT hm ?_; conv => whnf)))
    refine HArith.fits (by omega) (by omega) ?_
    (conv => whnf)
    exact ⟨next (fun _ => hm2), by show i - (k + 1) < i - k; omega⟩
  · have ek : k = i := by omega
    subst ek
    (conv => whnf)
    refine HArith.fits (by omega) (by omega) ?_
    (conv => whnf)
    exact ⟨⟨k + 1, rfl, by omega, E3, O, hN, fun j hj => by
      by_cases e : j = k
      · subst e; exact hck
      · exact hcl j (by omega)⟩, by show a1.length - (k + 1) < a1.length - k; omega⟩

end Go.Proofs.Ytnooeaemjnmkdaa.Hx

namespace Go.Proofs.Ytnooeaemjnmkdaa.Hx
open Go.RowKit
variable {dm : Bool}

theorem dedup_ex : ∀ (L : List (List Int)), ∃ M : List (List Int), M.Nodup ∧ ∀ x, x ∈ M ↔ x ∈ L
  | [] => ⟨[], by simp, fun x => Iff.rfl⟩
  | a :: L => by
    obtain ⟨M, h1, h2⟩ := dedup_ex L
    by_cases h : a ∈ M
    · exact ⟨M, h1, fun x => by
        rw [h2, List.mem_cons]
        constructor
        · exact Or.inr
        · rintro (e | e)
          · rw [e]; exact (h2 a).1 h
          · exact e⟩
    · exact ⟨a :: M, by simp [h, h1], fun x => by rw [List.mem_cons, List.mem_cons, h2]⟩

open Classical in
theorem rootList_ex {c : List (List Int)} (hC : Cartan c) {H : Int} (hH : H ≤ 12) (h1 : 1 ≤ H) : ∃ L, RootList c H L := by
  obtain ⟨M, hn, hm⟩ := dedup_ex ((boxes c.length).filter fun r => decide (RootUp c H r))
  have hmem : ∀ r, r ∈ M ↔ RootUp c H r := fun r => by
    rw [hm, List.mem_filter, decide_eq_true_eq]
    constructor
    · exact fun h => h.2
    · intro h
      obtain ⟨n, R, g1, g2⟩ := h.facts hC hH h1
      have := mem_boxes r (fun x hx => by
        obtain ⟨k, hk, rfl⟩ := List.getElem_of_mem hx
        have a := R.nonneg k
        have b := R.le k
        simp only [List.getD, hk, List.getElem?_eq_getElem, Option.getD_some] at a b
        omega)
      rw [R.len] at this
      exact ⟨this, h⟩
  refine ⟨insR M, insR_sorted (n := c.length) M (fun r hr => ?_), (insR_perm M).nodup_iff.2 hn, fun r => (insR_perm M).mem_iff.trans (hmem r)⟩
  obtain ⟨n, R, _⟩ := ((hmem r).1 hr).facts hC hH h1
  exact R.len

/-- A finite matrix's list of positive roots: what is known of it. -/
theorem posRoots_list {c : List (List Int)} (h : isFinite c = true) : RootList c 12 (posRoots c) := by
  have hic := isFinite_cartan h
  have hC := (isCartan_iff c).1 hic
  obtain ⟨L, hL⟩ := rootList_ex hC (H := 12) (by omega) (by omega)
  rw [posRoots_on h, rootsUp_on ⟨hic, by omega, by omega⟩ hL]
  exact hL
theorem posRoots_pos {c : List (List Int)} (h : isFinite c = true) : 0 < (posRoots c).length := by
  have hC := (isCartan_iff c).1 (isFinite_cartan h)
  exact List.length_pos_of_mem (((posRoots_list h).2.2 _).2 (RootUp.simple 0 hC.pos))

noncomputable def highOk (c : List (List Int)) : Bool := isFinite c && isConn c
noncomputable def highest (c : List (List Int)) : List Int := if highOk c then (posRoots c).getD ((posRoots c).length - 1) [] else []
theorem highest_size (c : List (List Int)) : (highest c).length ≤ 1099511627776 := by
  unfold highest
  split
  · by_cases h : (posRoots c).length - 1 < (posRoots c).length
    · have := len_le_tot h
      have := (posRoots_size c).2
      omega
    · have : (posRoots c).getD ((posRoots c).length - 1) [] = [] := by simp [List.getD, List.getElem?_eq_none (by omega : (posRoots c).length ≤ (posRoots c).length - 1)]
      rw [this]
      simp
  · simp


theorem impl_HighestRoot (h : Heap) (x0 : H0) (a0 : List (List Int)) (hx0 : Rows h x0 a0) (s0 : a0.length ≤ 1048576 ∧ tot a0 ≤ 1048576) :
    HCalls dm Try.prog 24 [.s x0] h (fun r h' => ∃ y, r = T2 y (highOk a0) ∧ Fresh h h' y (highest a0)) := by
  have hok : highOk a0 = (isFinite a0 && isConn a0) := rfl
  have hv : highest a0 = if highOk a0 then (posRoots a0).getD ((posRoots a0).length - 1) [] else [] := rfl
  rw [hv, hok]
  clear hv hok
  have hps := posRoots_small a0
  refine calls_of_hFun (m := 0) kd_ok mixed Try.func24 rfl (by kernel_rfl) rfl rfl (of_decide_eq_true rfl) ?_; unfold hFun; (conv => whnf)
  refine (impl_PositiveRoots _ _ a0 hx0 s0).mono ?_
  rintro r h1 ⟨y, rfl, E, O⟩
  (conv => whnf)
  cases hf : isFinite a0
  · (repeat (first | (refine HIf.yes ?_; (conv => whnf)) | (refine HIf.no ?_; (conv => whnf))))
    refine HLit.empty ?_
    (conv => whnf)
    exact ⟨_, rfl, Fresh.ofRow (E.pushed _) (OwnR.push h1 []) E.1⟩
  have hp := posRoots_pos hf
  (repeat (first | (refine HIf.yes ?_; (conv => whnf)) | (refine HIf.no ?_; (conv => whnf))))
  refine (impl_IsConnected _ _ a0 (hx0.ext E) (by omega)).mono ?_
  rintro r h2 ⟨rfl, E2⟩
  replace E := E.trans E2
  replace O := O.ext E2
  (conv => whnf)
  cases hc : isConn a0
  · (repeat (first | (refine HIf.yes ?_; (conv => whnf)) | (refine HIf.no ?_; (conv => whnf))))
    refine HLit.empty ?_
    (conv => whnf)
    exact ⟨_, rfl, Fresh.ofRow (E.pushed _) (OwnR.push h2 []) E.1⟩
  (repeat (first | (refine HIf.yes ?_; (conv => whnf)) | (refine HIf.no ?_; (conv => whnf))))
  generalize posRoots a0 = L at *
  obtain ⟨r, ρ, rfl, g2, g3, g4, m⟩ := O
  refine ⟨rfl, m.rows.len ?_⟩
  (conv => whnf)
  refine HArith.fits (by omega) (by omega) ?_
  (conv => whnf)
  have e1 : (L.length : Int) - 1 = ((L.length - 1 : Nat) : Int) := by omega
  rw [e1]
  refine ⟨rfl, m.idx (n := L.length - 1) (by omega) (fun p hp2 => ?_)⟩
  (conv => whnf)
  refine ⟨rfl, hp2.load ?_⟩
  (conv => whnf)
  exact ⟨_, rfl, Fresh.ofRow E (m.inner' (by omega)) (g4 _ (by omega)).1⟩

theorem spec_HighestRoot (h : Heap) (x0 : H0) (a0 : List (List Int)) (hx0 : Rows h x0 a0) (s0 : a0.length ≤ 1048576 ∧ tot a0 ≤ 1048576) :
    HCalls dm Try.prog 23 [.s x0] h (fun r h' => ∃ y, r = T2 y (highOk a0) ∧ Fresh h h' y (highest a0)) := by
  have hok : highOk a0 = (isFinite a0 && isConn a0) := rfl
  have hv : highest a0 = if highOk a0 then (posRoots a0).getD ((posRoots a0).length - 1) [] else [] := rfl
  rw [hv, hok]
  clear hv hok
  have hps := posRoots_small a0
  refine calls_of_hFun (m := 0) kd_ok mixed Try.func23 rfl (by kernel_rfl) rfl rfl (of_decide_eq_true rfl) ?_; unfold hFun; (conv => whnf)
  refine (spec_PositiveRoots _ _ a0 hx0 s0).mono ?_
  rintro r h1 ⟨y, rfl, E, O⟩
  (conv => whnf)
  cases hf : isFinite a0
  · (repeat (first | (refine HIf.yes ?_; (conv => whnf)) | (refine HIf.no ?_; (conv => whnf))))
    refine HLit.empty ?_
    (conv => whnf)
    exact ⟨_, rfl, Fresh.ofRow (E.pushed _) (OwnR.push h1 []) E.1⟩
  have hp := posRoots_pos hf
  (repeat (first | (refine HIf.yes ?_; (conv => whnf)) | (refine HIf.no ?_; (conv => whnf))))
  refine (spec_IsConnected _ _ a0 (hx0.ext E) (by omega)).mono ?_
  rintro r h2 ⟨rfl, E2⟩
  replace E := E.trans E2
  replace O := O.ext E2
  (conv => whnf)
  cases hc : isConn a0
  · (repeat (first | (refine HIf.yes ?_; (conv => whnf)) | (refine HIf.no ?_; (conv => whnf))))
    refine HLit.empty ?_
    (conv => whnf)
    exact ⟨_, rfl, Fresh.ofRow (E.pushed _) (OwnR.push h2 []) E.1⟩
  (repeat (first | (refine HIf.yes ?_; (conv => whnf)) | (refine HIf.no ?_; (conv => whnf))))
  generalize posRoots a0 = L at *
  have hle := len_le_tot (L := L) (i := L.length - 1) (by omega)
  refine HLit.empty ?_
  (conv => whnf)
  have EL := Ext.push h2 [Row.own []]
  refine ⟨rfl, (O.ext EL).rows.len ?_⟩
  (conv => whnf)
  refine HArith.fits (by omega) (by omega) ?_
  (conv => whnf)
  have e1 : (L.length : Int) - 1 = ((L.length - 1 : Nat) : Int) := by omega
  rw [e1]
  refine ⟨rfl, (O.ext EL).rows.idxN (n := L.length - 1) (by omega) (fun p z hp2 hz => ?_)⟩
  (conv => whnf)
  refine ⟨rfl, hp2.load ?_⟩
  (conv => whnf)
  refine ⟨rfl, rfl, HApp.moreR (OwnR.push h2 []) hz (by rw [List.length_nil]; omega) (fun h3 r3 y3 B3 hr3 O3 => ?_)⟩
  have E3 : Ext h h3 := E.trans ((Ext.push h2 [Row.own []]).but B3 (Nat.le_refl _))
  have hE := E.1
  have hl3 : h2.length ≤ r3 := by simp at hr3; omega
  rw [List.nil_append] at O3
  (conv => whnf)
  exact ⟨_, rfl, Fresh.ofRow E3 O3 (by omega)⟩

end Go.Proofs.Ytnooeaemjnmkdaa.Hx
