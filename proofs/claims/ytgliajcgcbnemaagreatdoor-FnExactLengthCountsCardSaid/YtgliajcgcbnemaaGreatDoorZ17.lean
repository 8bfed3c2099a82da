/-
  Orders, relabelled matrices, isomorphic matrices: of the reference.
  Isomorphic matrices: of the program.
-/
import Derived.Test.YtgliajcgcbnemaaGreatDoorZ16
namespace Go.Proofs.YtgliajcgcbnemaaGreatDoor.Hx
open Go.RowKit
variable {dm : Bool}

theorem pick_sub (c : List (List Int)) (o : List Int) : pick c o = subM c o := by
  apply List.ext_getElem
  · simp [pick, pickTo, subM]
  · intro i h1 h2
    have hi : i < o.length := by simpa [subM] using h2
    apply List.ext_getElem
    · simp [pick, pickTo, pickRow, subM]
    · intro j g1 g2
      have hj : j < o.length := by simpa [subM] using g2
      simp [pick, pickTo, pickRow, subM, List.getD, hi, hj]

theorem getD_memO {L : List (List Int)} {k : Nat} (hk : k < L.length) : L.getD k [] ∈ L := by
  have e : L.getD k [] = L[k] := by simp [List.getD, hk]
  rw [e]
  exact List.getElem_mem hk
theorem flat_take {F : List Int → List (List Int)} {L : List (List Int)} {k : Nat} (hk : k < L.length) : (L.take (k + 1)).flatMap F = (L.take k).flatMap F ++ F (L.getD k []) := by
  rw [List.take_succ_eq_append_getElem hk, List.flatMap_append]
  have e : L.getD k [] = L[k] := by simp [List.getD, hk]
  rw [e]
  simp
theorem flatX_len (n : Nat) (L : List (List Int)) : (L.flatMap fun o => extL n o n).length ≤ n * L.length := by
  induction L with
  | nil => simp
  | cons a t ih =>
    have := extL_len n a n
    simp only [List.flatMap_cons, List.length_append, List.length_cons, Nat.mul_add, Nat.mul_one]
    omega

theorem ordL_zero (n : Nat) : ordL n 0 = [[]] := rfl
theorem ordL_succ (n i : Nat) : ordL n (i + 1) = (ordL n i).flatMap fun o => extL n o n := rfl


set_option maxHeartbeats 1000000 in
theorem spec_l3Orders (h : Heap) (n : Nat) (hn : n ≤ 4) :
    HCalls dm Tryz.prog 223 [I n] h (fun r h' => ∃ y, r = .s y ∧ Ext h h' ∧ OwnM h.length h'.length h' y (ordL n n)) := by
  refine calls_of_hFun (m := 0) kd_ok mixed Tryz.func223 rfl (by kernel_rfl) rfl rfl (of_decide_eq_true rfl) ?_; unfold hFun; (conv => whnf)
  refine HLit.empty ?_
  (conv => whnf)
  refine HLit.row (y := .sl h.length 0 0) rfl ?_
  (conv => whnf)
  have E1 := Ext.push h [Row.own []]
  have O1 := OwnR.push h []
  have M1 : MatP (fun p => h.length ≤ p) (h ++ [Row.own []] ++ [Row.own [.sl h.length 0 0]]) (.sl (h ++ [Row.own []]).length 0 1) [[]] := by
    refine ⟨(h ++ [Row.own []]).length, fun _ => h.length, rfl, by simp, fun i _ => Nat.le_refl _, ⟨_, get_new _ _, by simp, fun i hi => ?_⟩, fun i hi => ?_, fun i _ => by simp, fun i j hij hj => ?_⟩
    · have : i = 0 := by simp at hi; omega
      subst this
      rfl
    · have : i = 0 := by simp at hi; omega
      subst this
      exact ⟨[], by rw [List.getElem?_append_left (by simp)]; exact get_new h _⟩
    · simp at hj
      omega
  have E2 := E1.pushed [Row.own [.sl h.length 0 0]]
  have M1 := M1.own (b := h.length) (fun p _ hp => hp)
  clear O1
  generalize h ++ [Row.own []] ++ [Row.own [.sl h.length 0 0]] = h2 at *
  generalize H0.sl (h ++ [Row.own []]).length 0 1 = z0 at *
  refine HLoop.intro [4, 3] [10, 11, 12, 15, 5, 6, 16, 17, 18, 19, 7, 22, 23, 24, 27, 28, 29, 30, 31, 32, 33, 34, 35, 36, 37, 38, 39, 40, 41, 42, 43, 44, 45, 5, 25, 26, 7, 20, 21, 6, 46, 3, 13, 14, 4] (by kernel_rfl) (by kernel_rfl) (fun vs h' => ∃ (i : Nat) (z : H0), vs = [I i, .s z] ∧ i ≤ n ∧ Ext h h' ∧ OwnM h.length h'.length h' z (ordL n i)) (fun vs _ => n - natAt vs 0) ⟨0, z0, rfl, by omega, E2, by rw [ordL_zero]; exact M1⟩ ?_
  clear E1 E2 M1
  rintro vs h' ⟨i, z, rfl, hi, E, O⟩
  have hlen := ordL_len n i
  have hpow : n ^ i ≤ 256 := by
    have h1 : n ^ i ≤ 4 ^ i := Nat.pow_le_pow_left hn i
    have h2 : 4 ^ i ≤ 4 ^ 4 := Nat.pow_le_pow_right (by omega) (by omega)
    have : 4 ^ 4 = 256 := rfl
    omega
  (conv => whnf)
  refine HIf.dec (fun hlt => ?_) (fun hge => ?_)
  rotate_left
  · have e : i = n := by omega
    subst e
    (conv => whnf)
    exact ⟨_, rfl, E, O⟩
  have hmem : ∀ k, k < (ordL n i).length → ((ordL n i).getD k []).length = i := fun k hk => (mem_ordL.1 (getD_memO hk)).1
  have hnext : ordL n (i + 1) = (ordL n i).flatMap fun o => extL n o n := ordL_succ n i
  generalize ordL n i = L at *
  (conv => whnf)
  refine HLit.empty ?_
  (conv => whnf)
  refine HLoop.intro [6, 5] [16, 17, 18, 19, 7, 22, 23, 24, 27, 28, 29, 30, 31, 32, 33, 34, 35, 36, 37, 38, 39, 40, 41, 42, 43, 44, 45, 5, 25, 26, 7, 20, 21, 6] (by kernel_rfl) (by kernel_rfl) (fun vs h2 => ∃ (k : Nat) (y : H0), vs = [I k, .s y] ∧ k ≤ L.length ∧ Ext h' h2 ∧ OwnM h'.length h2.length h2 y ((L.take k).flatMap fun o => extL n o n)) (fun vs _ => L.length - natAt vs 0) ⟨0, _, rfl, by omega, Ext.push _ _, by simpa using OwnM.none h'⟩ ?_
  rintro vs h2 ⟨k, y, rfl, hk, E2, O2⟩
  have hRz := (O.ext E2).rows
  have hfl := flatX_len n (L.take k)
  have hfl2 : (L.take k).length = k := by simp; omega
  rw [hfl2] at hfl
  (conv => whnf)
  refine ⟨rfl, hRz.len ?_⟩
  (conv => whnf)
  refine HIf.dec (fun hltk => ?_) (fun hgek => ?_)
  rotate_left
  · have ek : k = L.length := by omega
    subst ek
    rw [List.take_length, ← hnext] at O2
    have hE := E.1
    (conv => whnf)
    refine HArith.fits (by omega) (by omega) ?_
    (conv => whnf)
    exact ⟨⟨i + 1, y, rfl, by omega, E.trans E2, O2.lower hE⟩, by show n - (i + 1) < n - i; omega⟩
  have hkl : k < L.length := by omega
  have hol := hmem k hkl
  have hft := flat_take (F := fun o => extL n o n) hkl
  generalize hgo : L.getD k [] = o at *
  have hn4 : n * k ≤ 1024 := by
    have h1 : n * k ≤ 4 * k := Nat.mul_le_mul_right k hn
    omega
  (conv => whnf)
  refine HLoop.intro [7, 5] [22, 23, 24, 27, 28, 29, 30, 31, 32, 33, 34, 35, 36, 37, 38, 39, 40, 41, 42, 43, 44, 45, 5, 25, 26, 7] (by kernel_rfl) (by kernel_rfl) (fun vs h2 => ∃ (x : Nat) (y : H0), vs = [I x, .s y] ∧ x ≤ n ∧ Ext h' h2 ∧ OwnM h'.length h2.length h2 y (((L.take k).flatMap fun o => extL n o n) ++ extL n o x)) (fun vs _ => n - natAt vs 0) ⟨0, y, rfl, by omega, E2, by simpa [extL] using O2⟩ ?_
  clear E2 O2 hRz
  rintro vs h2 ⟨x, y, rfl, hx, E2, O2⟩
  have hRz := (O.ext E2).rows
  have hxl := extL_len n o x
  (conv => whnf)
  refine HIf.dec (fun hltx => ?_) (fun hgex => ?_)
  rotate_left
  · have ex : x = n := by omega
    subst ex
    rw [← hft] at O2
    (conv => whnf)
    refine HArith.fits (by omega) (by omega) ?_
    (conv => whnf)
    exact ⟨⟨k + 1, y, rfl, by omega, E2, O2⟩, by show L.length - (k + 1) < L.length - k; omega⟩
  (conv => whnf)
  refine ⟨rfl, hRz.idxN hkl (fun p y3 hp hy3 => ?_)⟩
  rw [hgo] at hy3
  (conv => whnf)
  refine ⟨rfl, hp.load ?_⟩
  (conv => whnf)
  refine (spec_l3Has _ _ o (x : Int) hy3 (by omega)).mono ?_
  rintro r h3 ⟨rfl, hh⟩
  subst h3
  (conv => whnf)
  by_cases hin : (x : Int) ∈ o
  · refine HIf.bnot (HIf.decT hin ?_)
    (conv => whnf)
    refine HArith.fits (by omega) (by omega) ?_
    (conv => whnf)
    exact ⟨⟨x + 1, y, rfl, by omega, E2, by rw [extL_out hin]; exact O2⟩, by show n - (x + 1) < n - x; omega⟩
  · refine HIf.bnot (HIf.decF hin ?_)
    (conv => whnf)
    refine HLit.empty ?_
    (conv => whnf)
    have Ep := Ext.push h2 [Row.own []]
    refine ⟨rfl, (hRz.ext Ep).idxN hkl (fun p2 y4 hp2 hy4 => ?_)⟩
    rw [hgo] at hy4
    (conv => whnf)
    refine ⟨rfl, hp2.load ?_⟩
    (conv => whnf)
    refine ⟨rfl, rfl, HApp.moreR (OwnR.push h2 []) hy4 (by rw [List.length_nil]; omega) (fun h3 r3 y5 B3 hr3 O3 => ?_)⟩
    rw [List.nil_append] at O3
    have E3 : Ext h2 h3 := Ep.but B3 (Nat.le_refl _)
    have hl3 : h2.length ≤ r3 := by simp at hr3; omega
    (conv => whnf)
    refine HLit.one ?_
    (conv => whnf)
    refine ⟨rfl, rfl, HApp.litR [(x : Int)] O3 (by simp; omega) (fun h4 r4 y6 B4 hr4 O4 => ?_)⟩
    have E4 : Ext h2 h4 := E3.but B4 hl3
    have hE3 := E3.1
    have F4 : Own h2.length h4.length h4 y6 (o ++ [(x : Int)]) := O4.own (by omega)
    (conv => whnf)
    refine HLit.row F4.one ?_
    (conv => whnf)
    refine ⟨rfl, rfl, HApp.snocM E2 O2 E4 F4 (by rw [List.length_append]; omega) (fun h5 y7 E5 O5 => ?_)⟩
    rw [List.append_assoc, ← extL_in hin] at O5
    (conv => whnf)
    refine HArith.fits (by omega) (by omega) ?_
    (conv => whnf)
    exact ⟨⟨x + 1, y7, rfl, by omega, E5, O5⟩, by show n - (x + 1) < n - x; omega⟩

set_option maxHeartbeats 1000000 in
theorem spec_RelabelCartan (h : Heap) (x0 : H0) (c : List (List Int)) (x1 : H0) (o : List Int) (hx0 : Rows h x0 c) (hx1 : Ints h x1 o) (hic : isCartan c = true) (hok : OrdOk c.length o) (hlen : o.length = c.length) :
    HCalls dm Tryz.prog 224 [.s x0, .s x1] h (fun r h' => ∃ y, r = T2 y true ∧ Ext h h' ∧ OwnM h.length h'.length h' y (pick c o)) := by
  have hC := (isCartan_iff c).1 hic
  have h4 := hC.le
  have ho : ∀ k, k < o.length → 0 ≤ o.getD k 0 ∧ o.getD k 0 < c.length := fun k hk => by
    obtain ⟨p, hp, hpn⟩ := hok.at hk
    omega
  have hol : o.length ≤ 4 := by omega
  refine calls_of_hFun (m := 0) kd_ok mixed Tryz.func224 rfl (by kernel_rfl) rfl rfl (of_decide_eq_true rfl) ?_; unfold hFun; (conv => whnf)
  refine (spec_IsCartan _ _ _ hx0 (by omega)).mono ?_
  rintro r h1 ⟨rfl, hh⟩
  subst h1
  rw [hic]
  have hz : (o.length : Int) = (c.length : Int) := by omega
  (conv => whnf)
  (repeat (first | (refine HIf.yes ?_; conv => whnf) | (refine HIf.no ?_; conv => whnf) | (refine ⟨rfl, hx1.len ?_⟩; conv => whnf) | (refine ⟨rfl, hx0.len ?_⟩; conv => whnf)))
  refine HIf.bneF hz ?_
  (conv => whnf)
  refine HLoop.intro [6] [22, 23, 24, 25, 28, 29, 30, 31, 32, 33, 34, 35, 36, 37, 38, 39, 40, 41, 42, 43, 44, 45, 46, 47, 4, 5, 26, 27, 6] (by kernel_rfl) (by kernel_rfl) (fun vs h' => ∃ k : Nat, vs = [I k] ∧ k ≤ o.length ∧ h' = h) (fun vs _ => o.length - natAt vs 0) ⟨0, rfl, by omega, rfl⟩ ?_
  rintro vs h' ⟨k, rfl, hk, hh⟩
  subst h'
  (conv => whnf)
  refine ⟨rfl, hx1.len ?_⟩
  (conv => whnf)
  refine HIf.dec (fun hlt => ?_) (fun hge => ?_)
  · have hokk := ho k (by omega)
    have hkl : k < o.length := by omega
    have hpt : isPoint c (o.getD k 0) = true := by simp only [isPoint, inRange, Bool.and_eq_true, decide_eq_true_eq]; omega
    have hnin : o.getD k 0 ∉ o.take k := by
      have e : o.getD k 0 = o[k] := by simp [List.getD, hkl]
      rw [e]
      intro hm
      obtain ⟨i, hi, ei⟩ := List.getElem_of_mem hm
      have hik : i < k := by simp at hi; omega
      rw [List.getElem_take] at ei
      have hn := hok.1
      unfold List.Nodup at hn
      rw [List.pairwise_iff_getElem] at hn
      exact hn i k (by omega) hkl hik ei
    have idx1 : ∀ {K : HV → Prop}, (∀ p, At h p (ci (o.getD k 0)) → K (.s p)) → HIdx h (.s x1) (I k) K := fun hK => Ints.idxN hx1 hkl hK
    (conv => whnf)
    refine Or.inl (And.intro (show Region.lexB _ _ = true by kernel_rfl) ?_); (conv => whnf)
    refine ⟨rfl, idx1 (fun p hp => ?_)⟩
    (conv => whnf)
    refine ⟨rfl, hp.load ?_⟩
    (conv => whnf)
    refine ⟨rfl, hx0.len ?_⟩
    (conv => whnf)
    refine HArith.fits (by omega) (by omega) ?_
    (conv => whnf)
    refine HCallQ.of (.bool (decide (0 ≤ o.getD k 0) && decide (o.getD k 0 ≤ (c.length : Int) - 1))) (spec_l1In _ (o.getD k 0) 0 ((c.length : Int) - 1)) (fun x h' hR => hR.1) ?_
    rw [isPoint_l1, hpt]
    (conv => whnf)
    (repeat (first | (refine HIf.yes ?_; conv => whnf) | (refine HIf.no ?_; conv => whnf)))
    refine ⟨rfl, hx1.take k (by omega) (fun y hy => ?_)⟩
    (conv => whnf)
    (repeat (first | (refine HIf.yes ?_; conv => whnf) | (refine HIf.no ?_; conv => whnf)))
    refine ⟨rfl, idx1 (fun p2 hp2 => ?_)⟩
    (conv => whnf)
    (repeat (first | (refine HIf.yes ?_; conv => whnf) | (refine HIf.no ?_; conv => whnf)))
    refine ⟨rfl, hp2.load ?_⟩
    (conv => whnf)
    (repeat (first | (refine HIf.yes ?_; conv => whnf) | (refine HIf.no ?_; conv => whnf)))
    refine HCallQ.of (.bool (decide (o.getD k 0 ∈ o.take k))) (spec_l3Has _ y (o.take k) (o.getD k 0) hy.frz (by simp; omega)) (fun x h' hR => hR.1) ?_
    rw [decide_eq_false hnin]
    (conv => whnf)
    (repeat (first | (refine HIf.yes ?_; conv => whnf) | (refine HIf.no ?_; conv => whnf)))
    refine HArith.fits (by omega) (by omega) ?_
    (conv => whnf)
    exact ⟨⟨k + 1, rfl, by omega, rfl⟩, by show o.length - (k + 1) < o.length - k; omega⟩
  (conv => whnf)
  refine HLit.empty ?_
  (conv => whnf)
  refine HLoop.intro [8, 7] [49, 50, 51, 52, 55, 9, 10, 56, 57, 58, 59, 62, 63, 64, 65, 66, 67, 68, 69, 70, 71, 72, 73, 74, 75, 76, 77, 9, 60, 61, 10, 78, 79, 80, 81, 7, 53, 54, 8] (by kernel_rfl) (by kernel_rfl) (fun vs h' => ∃ (a : Nat) (z : H0), vs = [I a, .s z] ∧ a ≤ o.length ∧ Ext h h' ∧ OwnM h.length h'.length h' z (pickTo c o a)) (fun vs _ => o.length - natAt vs 0) ⟨0, _, rfl, by omega, Ext.push _ _, OwnM.none h⟩ ?_
  rintro vs h' ⟨a, z, rfl, ha, E, OM⟩
  have hpl := pickTo_len c o a
  have hx1 := hx1.ext E
  (conv => whnf)
  refine ⟨rfl, hx1.len ?_⟩
  (conv => whnf)
  refine HIf.dec (fun hlt => ?_) (fun hge => ?_)
  · have hoa := ho a (by omega)
    obtain ⟨i, hi⟩ : ∃ i : Nat, o.getD a 0 = (i : Int) := ⟨(o.getD a 0).toNat, by omega⟩
    rw [hi] at hoa
    have hir := hC.row i (by omega)
    have Ep := Ext.push h' [Row.own []]
    (conv => whnf)
    refine HLit.empty ?_
    (conv => whnf)
    refine HLoop.intro [10, 9] [56, 57, 58, 59, 62, 63, 64, 65, 66, 67, 68, 69, 70, 71, 72, 73, 74, 75, 76, 77, 9, 60, 61, 10] (by kernel_rfl) (by kernel_rfl) (fun vs h2 => ∃ (b : Nat) (y : H0) (r : Nat), vs = [I b, .s y] ∧ b ≤ o.length ∧ Ext h' h2 ∧ h'.length ≤ r ∧ OwnR r h2 y (pickRow c o i b)) (fun vs _ => o.length - natAt vs 0) ⟨0, _, h'.length, rfl, by omega, Ep, Nat.le_refl _, OwnR.push h' []⟩ ?_
    rintro vs h2 ⟨b, y, r, rfl, hb, E2, hr, O⟩
    have hrl := pickRow_len c o i b
    have hE2 := E2.1
    have hx12 := hx1.ext E2
    (conv => whnf)
    refine ⟨rfl, hx12.len ?_⟩
    (conv => whnf)
    refine HIf.dec (fun hltb => ?_) (fun hgeb => ?_)
    · have hob := ho b (by omega)
      obtain ⟨j, hj⟩ : ∃ j : Nat, o.getD b 0 = (j : Int) := ⟨(o.getD b 0).toNat, by omega⟩
      rw [hj] at hob
      have hx02 := (hx0.ext E).ext E2
      (conv => whnf)
      refine Or.inr (Or.inr (Or.inl (Exists.intro 15 (Exists.intro [0, 1, 2, 3, 4, 5, 6, 7, 8, 9, 10, 11, 12, 13] (Exists.intro [14, 15, 16] (And.intro (show heldOk _ _ _ _ = true by kernel_rfl) ?_)))))); (conv => whnf)
      refine ⟨rfl, Ints.idxN hx12 (by omega) (fun p hp => ?_)⟩
      rw [hi] at hp
      (conv => whnf)
      refine ⟨rfl, hp.load ?_⟩
      (conv => whnf)
      refine ⟨rfl, Rows.idxN hx02 (by omega) (fun p3 y3 hp3 hy3 => ?_)⟩
      (conv => whnf)
      refine ⟨rfl, hp3.load ?_⟩
      (conv => whnf)
      refine ⟨rfl, Ints.idxN hx12 (by omega) (fun p2 hp2 => ?_)⟩
      rw [hj] at hp2
      (conv => whnf)
      refine ⟨rfl, hp2.load ?_⟩
      (conv => whnf)
      refine ⟨rfl, Ints.idxN hy3 (by omega) (fun p4 hp4 => ?_)⟩
      (conv => whnf)
      refine ⟨rfl, hp4.load ?_⟩
      rw [ent_eq]
      (conv => whnf)
      refine HLit.one ?_
      (conv => whnf)
      refine ⟨rfl, rfl, HApp.snocR O (by omega) (fun h3 r3 y5 B3 hr3 O3 => ?_)⟩
      have es : pickRow c o i (b + 1) = pickRow c o i b ++ [ent c i j] := by rw [pickRow_succ, hj]; rfl
      rw [← es] at O3
      (conv => whnf)
      refine HArith.fits (by omega) (by omega) ?_
      (conv => whnf)
      exact ⟨⟨b + 1, y5, r3, rfl, by omega, E2.but B3 hr, by omega, O3⟩, by show o.length - (b + 1) < o.length - b; omega⟩
    · have e : b = o.length := by omega
      subst e
      have er : pickTo c o (a + 1) = pickTo c o a ++ [pickRow c o i o.length] := by rw [pickTo_succ, hi]; rfl
      have F := O.own hr
      (conv => whnf)
      refine HLit.row F.one ?_
      (conv => whnf)
      refine ⟨rfl, rfl, HApp.snocM E OM E2 F (by omega) (fun h5 y5 E5 O5 => ?_)⟩
      rw [← er] at O5
      (conv => whnf)
      refine HArith.fits (by omega) (by omega) ?_
      (conv => whnf)
      exact ⟨⟨a + 1, y5, rfl, by omega, E5, O5⟩, by show o.length - (a + 1) < o.length - a; omega⟩
  · have e : a = o.length := by omega
    subst e
    (conv => whnf)
    exact ⟨_, rfl, E, OM⟩



set_option maxHeartbeats 1000000 in
theorem spec_EqualCartans (h : Heap) (x0 : H0) (a : List (List Int)) (x1 : H0) (b : List (List Int)) (hx0 : Rows h x0 a) (hx1 : Rows h x1 b) (n : Nat) (hn : n ≤ 4) (la : a.length = n) (lb : b.length = n) (ra : ∀ i, i < n → (a.getD i []).length = n) (rb : ∀ i, i < n → (b.getD i []).length = n) :
    HCalls dm Tryz.prog 225 [.s x0, .s x1] h (fun r h' => r = B (decide (a = b)) ∧ h' = h) := by
  have no : ∀ i, i < n → ∀ j, j < n → ent a i j ≠ ent b i j → decide (a = b) = false := fun i hi j hj hne => decide_eq_false fun e => hne (by rw [e])
  refine calls_of_hFun (m := 0) kd_ok mixed Tryz.func225 rfl (by kernel_rfl) rfl rfl (of_decide_eq_true rfl) ?_; unfold hFun; (conv => whnf)
  refine ⟨rfl, hx0.len ?_⟩
  (conv => whnf)
  refine ⟨rfl, hx1.len ?_⟩
  (conv => whnf)
  refine HIf.bneF (by omega) ?_
  (conv => whnf)
  refine HLoop.intro [5] [12, 13, 14, 15, 18, 19, 20, 21, 22, 23, 24, 25, 26, 27, 28, 4, 6, 29, 30, 31, 32, 33, 34, 35, 38, 39, 40, 41, 42, 43, 44, 45, 46, 47, 48, 49, 50, 51, 52, 4, 36, 37, 6, 16, 17, 5] (by kernel_rfl) (by kernel_rfl) (fun vs h' => ∃ i : Nat, vs = [I i] ∧ i ≤ n ∧ h' = h ∧ ∀ p, p < i → ∀ q, q < n → ent a p q = ent b p q) (fun vs _ => n - natAt vs 0) ⟨0, rfl, by omega, rfl, fun p hp => by omega⟩ ?_
  rintro vs h' ⟨i, rfl, hi, hh, hall⟩
  subst h'
  (conv => whnf)
  refine ⟨rfl, hx0.len ?_⟩
  (conv => whnf)
  refine HIf.dec (fun hlt => ?_) (fun hge => ?_)
  rotate_left
  · have e : i = n := by omega
    subst e
    (conv => whnf)
    exact ⟨bEq (by rw [decide_eq_true (mat_ext la lb ra rb hall)]), rfl⟩
  have hil : i < n := by omega
  have rai := ra i hil
  have rbi := rb i hil
  (conv => whnf)
  refine Or.inl (And.intro (show Region.lexB _ _ = true by kernel_rfl) ?_); (conv => whnf)
  refine ⟨rfl, Rows.idxN hx0 (by omega) (fun p y hp hy => ?_)⟩
  (conv => whnf)
  refine ⟨rfl, hp.load ?_⟩
  (conv => whnf)
  refine ⟨rfl, hy.len ?_⟩
  (conv => whnf)
  refine ⟨rfl, Rows.idxN hx1 (by omega) (fun p2 y2 hp2 hy2 => ?_)⟩
  (conv => whnf)
  refine ⟨rfl, hp2.load ?_⟩
  (conv => whnf)
  refine ⟨rfl, hy2.len ?_⟩
  (conv => whnf)
  refine HIf.bneF (by omega) ?_
  (conv => whnf)
  refine HLoop.intro [6] [29, 30, 31, 32, 33, 34, 35, 38, 39, 40, 41, 42, 43, 44, 45, 46, 47, 48, 49, 50, 51, 52, 4, 36, 37, 6] (by kernel_rfl) (by kernel_rfl) (fun vs h' => ∃ j : Nat, vs = [I j] ∧ j ≤ n ∧ h' = h ∧ ∀ q, q < j → ent a i q = ent b i q) (fun vs _ => n - natAt vs 0) ⟨0, rfl, by omega, rfl, fun p hp => by omega⟩ ?_
  clear hp hy hp2 hy2
  rintro vs h' ⟨j, rfl, hj, hh, hrow⟩
  subst h'
  (conv => whnf)
  refine ⟨rfl, Rows.idxN hx0 (by omega) (fun p y hp hy => ?_)⟩
  (conv => whnf)
  refine ⟨rfl, hp.load ?_⟩
  (conv => whnf)
  refine ⟨rfl, hy.len ?_⟩
  (conv => whnf)
  refine HIf.dec (fun hlt2 => ?_) (fun hge2 => ?_)
  rotate_left
  · have e : j = n := by omega
    subst e
    (conv => whnf)
    refine HArith.fits (by omega) (by omega) ?_
    (conv => whnf)
    exact ⟨⟨i + 1, rfl, by omega, rfl, fun p hp q hq => by
      by_cases e : p = i
      · subst e; exact hrow q hq
      · exact hall p (by omega) q hq⟩, by show j - (i + 1) < j - i; omega⟩
  have hjl : j < n := by omega
  (conv => whnf)
  refine Or.inl (And.intro (show Region.lexB _ _ = true by kernel_rfl) ?_); (conv => whnf)
  refine ⟨rfl, Rows.idxN hx0 (by omega) (fun p3 y3 hp3 hy3 => ?_)⟩
  (conv => whnf)
  refine ⟨rfl, hp3.load ?_⟩
  (conv => whnf)
  refine ⟨rfl, Ints.idxN hy3 (by omega) (fun p4 hp4 => ?_)⟩
  (conv => whnf)
  refine ⟨rfl, hp4.load ?_⟩
  (conv => whnf)
  refine ⟨rfl, Rows.idxN hx1 (by omega) (fun p5 y5 hp5 hy5 => ?_)⟩
  (conv => whnf)
  refine ⟨rfl, hp5.load ?_⟩
  (conv => whnf)
  refine ⟨rfl, Ints.idxN hy5 (by omega) (fun p6 hp6 => ?_)⟩
  (conv => whnf)
  refine ⟨rfl, hp6.load ?_⟩
  (conv => whnf)
  refine HIf.bne (fun hne => ?_) (fun he => ?_)
  · (conv => whnf)
    exact ⟨bEq (by rw [no i hil j hjl hne]), rfl⟩
  · (conv => whnf)
    refine HArith.fits (by omega) (by omega) ?_
    (conv => whnf)
    exact ⟨⟨j + 1, rfl, by omega, rfl, fun q hq => by
      by_cases e : q = j
      · subst e; exact he
      · exact hrow q (by omega)⟩, by show n - (j + 1) < n - j; omega⟩

set_option maxHeartbeats 1000000 in
theorem spec_AreIsomorphic (h : Heap) (x0 : H0) (a : List (List Int)) (x1 : H0) (b : List (List Int)) (hx0 : Rows h x0 a) (hx1 : Rows h x1 b) (ha : isCartan a = true) (hb : isCartan b = true) :
    HCalls dm Tryz.prog 183 [.s x0, .s x1] h (fun r h' => ∃ y, r = T2 y (isoB a b) ∧ Ext h h') := by
  have hA := (isCartan_iff a).1 ha
  have hB := (isCartan_iff b).1 hb
  have ha4 := hA.le
  have hb4 := hB.le
  obtain ⟨V, hV⟩ : ∃ V, V = isoB a b := ⟨_, rfl⟩
  rw [← hV]
  refine calls_of_hFun (m := 0) kd_ok mixed Tryz.func183 rfl (by kernel_rfl) rfl rfl (of_decide_eq_true rfl) ?_; unfold hFun; (conv => whnf)
  refine (spec_IsCartan _ _ _ hx0 (by omega)).mono ?_
  rintro r h1 ⟨rfl, hh⟩
  subst h1
  rw [ha]
  (conv => whnf)
  (repeat (first | (refine HIf.yes ?_; conv => whnf) | (refine HIf.no ?_; conv => whnf)))
  refine (spec_IsCartan _ _ _ hx1 (by omega)).mono ?_
  rintro r h1 ⟨rfl, hh⟩
  subst h1
  rw [hb]
  (conv => whnf)
  (repeat (first | (refine HIf.yes ?_; conv => whnf) | (refine HIf.no ?_; conv => whnf) | (refine ⟨rfl, hx0.len ?_⟩; conv => whnf) | (refine ⟨rfl, hx1.len ?_⟩; conv => whnf)))
  by_cases hl : (a.length : Int) = (b.length : Int)
  rotate_left
  · refine HIf.bneT hl ?_
    (conv => whnf)
    refine HLit.empty ?_
    (conv => whnf)
    have : V = false := by rw [hV, isoB_offl (Or.inr (Or.inr (by omega)))]
    rw [this]
    exact ⟨_, rfl, Ext.push _ _⟩
  have hln : a.length = b.length := by omega
  refine HIf.bneF hl ?_
  (conv => whnf)
  refine ⟨rfl, hx0.len ?_⟩
  (conv => whnf)
  refine (spec_l3Orders _ a.length ha4).mono ?_
  rintro r h2 ⟨yl, rfl, E2, O2⟩
  have hlen := ordL_len a.length a.length
  have hpow : a.length ^ a.length ≤ 256 := by
    have h1 : a.length ^ a.length ≤ 4 ^ a.length := Nat.pow_le_pow_left ha4 _
    have h2 : 4 ^ a.length ≤ 4 ^ 4 := Nat.pow_le_pow_right (by omega) ha4
    have : 4 ^ 4 = 256 := rfl
    omega
  have iff := isoB_on ha hb hln
  rw [← hV] at iff
  have hmem : ∀ k, k < (ordL a.length a.length).length → ((ordL a.length a.length).getD k []).length = a.length ∧ OrdOk a.length ((ordL a.length a.length).getD k []) := fun k hk => mem_ordL.1 (getD_memO hk)
  generalize ordL a.length a.length = L at *
  (conv => whnf)
  refine HLoop.intro [7] [29, 30, 31, 32, 36, 37, 38, 39, 40, 41, 35, 42, 43, 8, 9, 44, 45, 46, 47, 48, 49, 50, 4, 5, 33, 34, 7] (by kernel_rfl) (by kernel_rfl) (fun vs h' => ∃ k : Nat, vs = [I k] ∧ k ≤ L.length ∧ Ext h2 h' ∧ ∀ t, t < k → subM a (L.getD t []) ≠ b) (fun vs _ => L.length - natAt vs 0) ⟨0, rfl, by omega, Ext.refl _, fun t ht => by omega⟩ ?_
  rintro vs h' ⟨k, rfl, hk, E, hno⟩
  have R := (O2.ext E).rows
  have E02 := E2.trans E
  (conv => whnf)
  refine ⟨rfl, R.len ?_⟩
  (conv => whnf)
  refine HIf.dec (fun hlt => ?_) (fun hge => ?_)
  rotate_left
  · have : V = false := by
      cases hv : V
      · rfl
      · obtain ⟨o, ho, e⟩ := iff.1 hv
        obtain ⟨t, ht, et⟩ := List.getElem_of_mem ho
        have e2 : L.getD t [] = o := by simp [List.getD, ht, et]
        exact absurd (by rw [e2]; exact e) (hno t (by omega))
    rw [this]
    (conv => whnf)
    refine HLit.empty ?_
    (conv => whnf)
    exact ⟨_, rfl, E02.pushed _⟩
  have hkl : k < L.length := by omega
  obtain ⟨hol, hok⟩ := hmem k hkl
  have hin := getD_memO hkl
  generalize hgo : L.getD k [] = o at *
  (conv => whnf)
  refine ⟨rfl, R.idxN hkl (fun p y hp hy => ?_)⟩
  rw [hgo] at hy
  (conv => whnf)
  refine ⟨rfl, hp.load ?_⟩
  (conv => whnf)
  refine (spec_RelabelCartan _ _ a _ o (hx0.ext E02) hy ha hok hol).mono ?_
  rintro r h3 ⟨y3, rfl, E3, O3⟩
  rw [pick_sub] at O3
  (conv => whnf)
  refine (spec_EqualCartans _ _ _ _ b O3.rows (hx1.ext (E02.trans E3)) a.length ha4 (by rw [subM_len, hol]) hln.symm (fun i hi => by rw [subM_row (by omega)]; simpa using hol) (fun i hi => by rw [hB.row i (by omega), hln])).mono ?_
  rintro r h4 ⟨rfl, hh⟩
  subst h4
  (conv => whnf)
  refine HIf.dec (fun he => ?_) (fun hne => ?_)
  · have : V = true := iff.2 ⟨o, hin, he⟩
    rw [this]
    (conv => whnf)
    refine ⟨rfl, (R.ext E3).idxN hkl (fun p2 y2 hp2 hy2 => ?_)⟩
    (conv => whnf)
    refine ⟨rfl, hp2.load ?_⟩
    (conv => whnf)
    exact ⟨_, rfl, E02.trans E3⟩
  · (conv => whnf)
    refine HArith.fits (by omega) (by omega) ?_
    (conv => whnf)
    exact ⟨⟨k + 1, rfl, by omega, E.trans E3, fun t ht => by
      by_cases e : t = k
      · subst e; rw [hgo]; exact hne
      · exact hno t (by omega)⟩, by show L.length - (k + 1) < L.length - k; omega⟩

end Go.Proofs.YtgliajcgcbnemaaGreatDoor.Hx

namespace Go.Proofs.YtgliajcgcbnemaaGreatDoor.Hx
open Go.RowKit
variable {dm : Bool}

/-- What a slice of the program's own is, where only its number of entries matters. -/
def OwnAny (b q : Nat) (h : Heap) (cnt : Nat) : Prop := b ≤ q ∧ ∃ cs, h[q]? = some (.own cs) ∧ cnt ≤ cs.length ∧ ∀ c ∈ cs, c.one = true

theorem OwnAny.len {b q cnt : Nat} {h : Heap} (_ : OwnAny b q h cnt) {K : HV → Prop} (hK : K (I cnt)) : HLen (.s (.sl q 0 cnt)) K := HLen.sl hK
theorem OwnAny.ext {b q cnt : Nat} {h h' : Heap} (H : OwnAny b q h cnt) (E : Ext h h') : OwnAny b q h' cnt := by
  obtain ⟨h1, cs, h2, h3, h4⟩ := H
  exact ⟨h1, cs, E.row h2, h3, h4⟩
/-- A few entries, appended to nothing. -/
theorem HApp.any {b b2 q q2 cnt : Nat} {h0 h : Heap} {K : HV → Heap → Prop} (E : Ext h0 h) (hb : h0.length ≤ b) (H : OwnAny b q h 0) (H2 : OwnAny b2 q2 h cnt) (hc : cnt ≤ 1) (hK : ∀ h' q', Ext h0 h' → OwnAny b q' h' cnt → K (.s (.sl q' 0 cnt)) h') : HApp h (.s (.sl q 0 0)) (.s (.sl q2 0 cnt)) K := by
  obtain ⟨g1, cs, g2, g3, g4⟩ := H
  obtain ⟨k1, ds, k2, k3, k4⟩ := H2
  have hs := Shows.own q2 0 cnt ds k2 (by omega)
  have hl : ((ds.drop 0).take cnt).length = cnt := by simp; omega
  have ho : ∀ c ∈ (ds.drop 0).take cnt, c.one = true := fun c hc => k4 c (List.mem_of_mem_drop (List.mem_of_mem_take hc))
  generalize (ds.drop 0).take cnt = new at hs hl ho
  refine ⟨new, hs, ho, cs, rfl, g2, Nat.zero_le _, Or.inl ⟨by omega, ?_⟩⟩
  have e : 0 + new.length = cnt := by omega
  rw [e]
  have hlt := get_lt g2
  have hl2 : (h.set q .gone).length = h.length := by simp
  have hn := get_new (h.set q .gone) (.own (cs.take 0 ++ new))
  rw [hl2] at hn
  exact hK _ _ ((E.set (Nat.le_trans hb g1) _).pushed _) ⟨by omega, _, hn, by simp; omega, by simpa using ho⟩

theorem HLit.anyNil {z : Value} {h0 h : Heap} {K : HV → Heap → Prop} (E : Ext h0 h) (hK : ∀ h' q, Ext h h' → Ext h0 h' → OwnAny h0.length q h' 0 → K (.s (.sl q 0 0)) h') : HLit z 0 (some []) h K :=
  HLit.empty (hK _ _ (Ext.push _ _) (E.pushed _) ⟨E.1, [], get_new _ _, Nat.le_refl _, by simp⟩)

/-- An order as the program hands it on: nil, or a row of its own. -/
def OrdR (h : Heap) (x : H0) (o : List Int) : Prop := (x = .pl (.slice none 0 0) ∧ o = []) ∨ ∃ r, OwnR r h x o
theorem OrdR.ints {h : Heap} {x : H0} {o : List Int} (H : OrdR h x o) : Ints h x o := by
  rcases H with ⟨rfl, rfl⟩ | ⟨r, H⟩
  · exact Shows.nils _ _
  · exact H.ints
def FitAt (a b : List (List Int)) (o : List Int) (i j : Nat) : Prop := ent a i (o.getD j 0).toNat = ent b o.length j ∧ ent a (o.getD j 0).toNat i = ent b j o.length

theorem HApp.nilOne {h : Heap} {v : Int} {K : HV → Heap → Prop} (hK : ∀ h' r y, Ext h h' → h.length ≤ r → OwnR r h' y [v] → K (.s y) h') : HApp (h ++ [.own [ci v]]) (.s (.pl (.slice none 0 0))) (.s (.sl h.length 0 1)) K := by
  have hs : Shows (h ++ [Row.own [ci v]]) (.s (.sl h.length 0 1)) [ci v] := Shows.own h.length 0 1 [ci v] (get_new _ _) (by simp)
  refine ⟨[ci v], hs, fun c hc => ?_, by simp, ?_⟩
  · obtain rfl : c = ci v := by simpa using hc
    rfl
  · show K _ _
    exact hK _ (h ++ [Row.own [ci v]]).length _ ((Ext.push _ _).pushed _) (by simp) (OwnR.push (h ++ [Row.own [ci v]]) [v])


theorem lib_Clone2 (h : Heap) (r : Nat) (x : H0) (l : List Int) (hx : OwnR r h x l) (hl : l.length ≤ 1048576) :
    HCalls dm Tryz.prog 262 [.s x] h (fun v h' => ∃ y, v = .s y ∧ Fresh h h' y l) := by
  have hi := hx.ints
  obtain ⟨t, rfl, hr⟩ := hx
  refine calls_of_hFun (m := 0) kd_ok mixed Tryz.func262 rfl (by kernel_rfl) rfl rfl (of_decide_eq_true rfl) ?_; unfold hFun; (conv => whnf)
  refine ⟨rfl, ?_⟩
  (conv => whnf)
  refine HIf.no ?_
  (conv => whnf)
  refine HLit.empty ?_
  (conv => whnf)
  refine ⟨rfl, rfl, HApp.moreR (OwnR.push h []) (hi.ext (Ext.push _ _)) (by rw [List.length_nil]; omega) (fun h2 r2 y2 B2 hr2 O2 => ?_)⟩
  rw [List.nil_append] at O2
  (conv => whnf)
  exact ⟨_, rfl, Fresh.ofRow ((Ext.push h [Row.own []]).but B2 (Nat.le_refl _)) O2 (by simp at hr2; omega)⟩

theorem lib_CloneNil (h : Heap) : HCalls dm Tryz.prog 262 [.s (.pl (.slice none 0 0))] h (fun v h' => v = .s (.pl (.slice none 0 0)) ∧ h' = h) := by
  refine calls_of_hFun (m := 0) kd_ok mixed Tryz.func262 rfl (by kernel_rfl) rfl rfl (of_decide_eq_true rfl) ?_; unfold hFun; (conv => whnf)
  refine ⟨rfl, ?_⟩
  (conv => whnf)
  refine HIf.yes ?_
  (conv => whnf)
  exact ⟨rfl, rfl⟩

set_option maxHeartbeats 4000000 in
theorem impl_matches {a b : List (List Int)} (ha : Cartan a) (hb : Cartan b) (hl : a.length = b.length) : ∀ (f : Nat) (h : Heap) (x0 x1 x2 : H0) (o : List Int), Rows h x0 a → Rows h x1 b → OrdR h x2 o → OrdOk a.length o → o.length + f = a.length →
    HCalls dm Tryz.prog 233 [.s x0, .s x1, .s x2, I 1] h (fun r h' => ∃ q cnt, r = .s (.sl q 0 cnt) ∧ Ext h h' ∧ OwnAny h.length q h' cnt ∧ cnt ≤ 1 ∧ (0 < cnt ↔ ExtM a b f o)) := by
  have ha4 := ha.le
  have hap := ha.pos
  intro f
  induction f with
  | zero =>
    intro h x0 x1 x2 o hx0 hx1 hx2 hok hlen
    have hxi := hx2.ints
    refine calls_of_hFun (m := 0) kd_ok mixed Tryz.func233 rfl (by kernel_rfl) rfl rfl (of_decide_eq_true rfl) ?_; unfold hFun; (conv => whnf)
    refine ⟨rfl, hxi.len ?_⟩
    (conv => whnf)
    refine ⟨rfl, hx1.len ?_⟩
    (conv => whnf)
    refine HIf.beqT (by omega) ?_
    (conv => whnf)
    obtain ⟨r, O⟩ : ∃ r, OwnR r h x2 o := by
      rcases hx2 with ⟨_, e⟩ | H
      · subst e; simp at hlen; omega
      · exact H
    refine (lib_Clone2 _ r _ o O (by omega)).mono ?_
    rintro v h2 ⟨y, rfl, F⟩
    (conv => whnf)
    refine HLit.row F.own.one ?_
    (conv => whnf)
    exact ⟨h2.length, 1, rfl, F.1.pushed _, ⟨F.1.1, [y], get_new _ _, by simp, fun c hc => by
      obtain rfl : c = y := by simpa using hc
      exact F.own.one⟩, Nat.le_refl _, ⟨fun _ => trivial, fun _ => by omega⟩⟩
  | succ f ih =>
    intro h x0 x1 x2 o hx0 hx1 hx2 hok hlen
    have hxi := hx2.ints
    have hext : ExtM a b (f + 1) o ↔ ∃ i : Nat, i < a.length ∧ (i : Int) ∉ o ∧ Fit a b o i ∧ ExtM a b f (o ++ [(i : Int)]) := Iff.rfl
    refine calls_of_hFun (m := 0) kd_ok mixed Tryz.func233 rfl (by kernel_rfl) rfl rfl (of_decide_eq_true rfl) ?_; unfold hFun; (conv => whnf)
    refine ⟨rfl, hxi.len ?_⟩
    (conv => whnf)
    refine ⟨rfl, hx1.len ?_⟩
    (conv => whnf)
    refine HIf.beqF (by omega) ?_
    (conv => whnf)
    refine HLit.anyNil (Ext.refl h) (fun h1 q1 _ E1 O1 => ?_)
    (conv => whnf)
    refine ⟨rfl, (hx0.ext E1).len ?_⟩
    (conv => whnf)
    refine HLoop.intro [27, 10] [28, 29, 11, 30, 31, 32, 12, 33, 34, 35, 36, 37, 38, 39, 13, 14, 40, 41, 42, 43, 44, 45, 46, 47, 48, 49, 50, 51, 52, 53, 54, 55, 56, 57, 58, 59, 60, 61, 62, 63, 64, 65, 66, 67, 68, 69, 70, 71, 72, 73, 74, 12, 75, 35, 76, 77, 78, 79, 80, 81, 82, 83, 84, 85, 86, 87, 88, 89, 90, 10, 91, 92, 93, 94, 95, 27] (by kernel_rfl) (by kernel_rfl) (fun vs h' => ∃ i q : Nat, vs = [I i, .s (.sl q 0 0)] ∧ i ≤ a.length ∧ Ext h h' ∧ OwnAny h.length q h' 0 ∧ ∀ t : Nat, t < i → ¬ ((t : Int) ∉ o ∧ Fit a b o t ∧ ExtM a b f (o ++ [(t : Int)]))) (fun vs _ => a.length - natAt vs 0) ⟨0, q1, rfl, by omega, E1, O1, fun t ht => by omega⟩ ?_
    clear E1 O1
    rintro vs h' ⟨i, q, rfl, hi, E, O, hno⟩
    have hx0' := hx0.ext E
    have hx1' := hx1.ext E
    have hxi' := hxi.ext E
    (conv => whnf)
    refine HIf.dec (fun hlt => ?_) (fun hge => ?_)
    rotate_left
    · have ei : i = a.length := by omega
      (conv => whnf)
      refine ⟨q, 0, rfl, E, O, by omega, ⟨fun e => by omega, fun e => ?_⟩⟩
      obtain ⟨t, h1, h2⟩ := hext.1 e
      exact absurd h2 (hno t (by omega))
    have hil : i < a.length := by omega
    have next : ¬ ((i : Int) ∉ o ∧ Fit a b o i ∧ ExtM a b f (o ++ [(i : Int)])) → ∀ t : Nat, t < i + 1 → ¬ ((t : Int) ∉ o ∧ Fit a b o t ∧ ExtM a b f (o ++ [(t : Int)])) := fun hn t ht => by
      by_cases e : t = i
      · subst e; exact hn
      · exact hno t (by omega)
    (conv => whnf)
    refine (lib_Contains _ _ o (i : Int) hxi' (by omega)).mono ?_
    rintro v h3 ⟨rfl, hh⟩
    subst h3
    (conv => whnf)
    by_cases hin : (i : Int) ∈ o
    · refine HIf.decT hin ?_
      (conv => whnf)
      refine HArith.fits (by omega) (by omega) ?_
      (conv => whnf)
      exact ⟨⟨i + 1, q, rfl, by omega, E, O, next fun k => k.1 hin⟩, by show a.length - (i + 1) < a.length - i; omega⟩
    refine HIf.decF hin ?_
    (conv => whnf)
    refine ⟨rfl, hxi'.len ?_⟩
    (conv => whnf)
    refine HLoop.intro [35, 12] [36, 37, 38, 39, 13, 14, 40, 41, 42, 43, 44, 45, 46, 47, 48, 49, 50, 51, 52, 53, 54, 55, 56, 57, 58, 59, 60, 61, 62, 63, 64, 65, 66, 67, 68, 69, 70, 71, 72, 73, 74, 12, 75, 35] (by kernel_rfl) (by kernel_rfl) (fun vs h2 => ∃ (j : Nat) (ft : Bool), vs = [I j, B ft] ∧ j ≤ o.length ∧ h2 = h' ∧ (ft = true ↔ ∀ t, t < j → FitAt a b o i t)) (fun vs _ => o.length - natAt vs 0) ⟨0, true, rfl, by omega, rfl, ⟨fun _ t ht => by omega, fun _ => rfl⟩⟩ ?_
    rintro vs h2 ⟨j, ft, rfl, hj, hh, hft⟩
    subst h2
    (conv => whnf)
    refine HIf.dec (fun hltj => ?_) (fun hgej => ?_)
    · have hjl : j < o.length := by omega
      obtain ⟨p, hp, hpn⟩ := hok.at hjl
      have hra := ha.row i hil
      have hrp := ha.row p hpn
      have hrk := hb.row o.length (by omega)
      have hrj := hb.row j (by omega)
      have fat : FitAt a b o i j ↔ ent a i p = ent b o.length j ∧ ent a p i = ent b j o.length := by
        unfold FitAt
        rw [hp, Int.toNat_natCast]
      (conv => whnf)
      refine ⟨rfl, Ints.idxN hxi' hjl (fun p1 hp1 => ?_)⟩
      rw [hp] at hp1
      (conv => whnf)
      refine ⟨rfl, hp1.load ?_⟩
      (conv => whnf)
      refine Or.inl (And.intro (show Region.lexB _ _ = true by kernel_rfl) ?_); (conv => whnf)
      cases ft
      · (repeat (first | (refine HIf.no ?_; conv => whnf)))
        refine HArith.fits (by omega) (by omega) ?_
        (conv => whnf)
        exact ⟨⟨j + 1, false, rfl, by omega, rfl, ⟨(fun e => by cases e), fun k => hft.2 fun t ht => k t (by omega)⟩⟩, by show o.length - (j + 1) < o.length - j; omega⟩
      have hft1 := hft.1 rfl
      (repeat (first | (refine HIf.yes ?_; conv => whnf)))
      refine ⟨rfl, Rows.idxN hx0' hil (fun p2 y2 hp2 hy2 => ?_)⟩
      (conv => whnf)
      (repeat (first | (refine HIf.yes ?_; conv => whnf)))
      refine ⟨rfl, hp2.load ?_⟩
      (conv => whnf)
      (repeat (first | (refine HIf.yes ?_; conv => whnf)))
      refine ⟨rfl, Ints.idxN hy2 (by omega) (fun p3 hp3 => ?_)⟩
      (conv => whnf)
      (repeat (first | (refine HIf.yes ?_; conv => whnf)))
      refine ⟨rfl, hp3.load ?_⟩
      rw [ent_eq]
      (conv => whnf)
      (repeat (first | (refine HIf.yes ?_; conv => whnf)))
      refine ⟨rfl, Rows.idxN hx1' (by omega) (fun p4 y4 hp4 hy4 => ?_)⟩
      (conv => whnf)
      (repeat (first | (refine HIf.yes ?_; conv => whnf)))
      refine ⟨rfl, hp4.load ?_⟩
      (conv => whnf)
      (repeat (first | (refine HIf.yes ?_; conv => whnf)))
      refine ⟨rfl, Ints.idxN hy4 (by omega) (fun p5 hp5 => ?_)⟩
      (conv => whnf)
      (repeat (first | (refine HIf.yes ?_; conv => whnf)))
      refine ⟨rfl, hp5.load ?_⟩
      rw [ent_eq]
      (conv => whnf)
      (repeat (first | (refine HIf.yes ?_; conv => whnf)))
      generalize hea : ent a i p = ea at *
      generalize heb : ent b o.length j = eb at *
      by_cases he1 : ea = eb
      rotate_left
      · (repeat (refine HIf.beqF he1 ?_; conv => whnf))
        (repeat (first | (refine HIf.no ?_; conv => whnf)))
        refine HArith.fits (by omega) (by omega) ?_
        (conv => whnf)
        exact ⟨⟨j + 1, _, rfl, by omega, rfl, ⟨(fun e => by cases e), fun k => absurd (fat.1 (k j (by omega))).1 he1⟩⟩, by show o.length - (j + 1) < o.length - j; omega⟩
      refine HIf.beqT he1 ?_
      (conv => whnf)
      refine HIf.beqT he1 ?_
      (conv => whnf)
      refine HIf.beqT he1 ?_
      (conv => whnf)
      refine ⟨rfl, Rows.idxN hx0' hpn (fun p6 y6 hp6 hy6 => ?_)⟩
      (conv => whnf)
      refine HIf.beqT he1 ?_
      (conv => whnf)
      refine ⟨rfl, hp6.load ?_⟩
      (conv => whnf)
      refine HIf.beqT he1 ?_
      (conv => whnf)
      refine HIf.beqT he1 ?_
      (conv => whnf)
      refine ⟨rfl, Ints.idxN hy6 (by omega) (fun p7 hp7 => ?_)⟩
      (conv => whnf)
      refine HIf.beqT he1 ?_
      (conv => whnf)
      refine ⟨rfl, hp7.load ?_⟩
      rw [ent_eq]
      (conv => whnf)
      refine HIf.beqT he1 ?_
      (conv => whnf)
      refine HIf.beqT he1 ?_
      (conv => whnf)
      refine HIf.beqT he1 ?_
      (conv => whnf)
      refine ⟨rfl, Rows.idxN hx1' (by omega) (fun p8 y8 hp8 hy8 => ?_)⟩
      (conv => whnf)
      refine HIf.beqT he1 ?_
      (conv => whnf)
      refine ⟨rfl, hp8.load ?_⟩
      (conv => whnf)
      refine HIf.beqT he1 ?_
      (conv => whnf)
      refine HIf.beqT he1 ?_
      (conv => whnf)
      refine ⟨rfl, Ints.idxN hy8 (by omega) (fun p9 hp9 => ?_)⟩
      (conv => whnf)
      refine HIf.beqT he1 ?_
      (conv => whnf)
      refine ⟨rfl, hp9.load ?_⟩
      rw [ent_eq]
      (conv => whnf)
      (repeat (refine HIf.beqT he1 ?_; conv => whnf))
      refine HArith.fits (by omega) (by omega) ?_
      (conv => whnf)
      refine ⟨⟨j + 1, _, rfl, by omega, rfl, ⟨fun e t ht => ?_, fun k => ?_⟩⟩, by show o.length - (j + 1) < o.length - j; omega⟩
      · by_cases et : t = j
        · subst et
          exact fat.2 ⟨he1, by simpa using e⟩
        · exact hft1 t (by omega)
      · have := (fat.1 (k j (by omega))).2
        simpa using this
    have ej : j = o.length := by omega
    subst ej
    have hfit : ft = true ↔ Fit a b o i := hft
    (conv => whnf)
    cases ft
    · refine HIf.no ?_
      (conv => whnf)
      refine ⟨rfl, O.len ?_⟩
      (conv => whnf)
      refine HIf.decF (by omega) ?_
      (conv => whnf)
      refine HArith.fits (by omega) (by omega) ?_
      (conv => whnf)
      exact ⟨⟨i + 1, q, rfl, by omega, E, O, next fun k => by have := hfit.2 k.2.1; cases this⟩, by show a.length - (i + 1) < a.length - i; omega⟩
    have hF := hfit.1 rfl
    refine HIf.yes ?_
    (conv => whnf)
    rcases hx2 with ⟨rfl, rfl⟩ | ⟨rx, hx2⟩
    · refine (lib_CloneNil _).mono ?_
      rintro v h3 ⟨rfl, hh⟩
      subst h3
      (conv => whnf)
      refine HLit.one ?_
      (conv => whnf)
      refine ⟨rfl, rfl, HApp.nilOne (fun h3 r3 y3 E3 hr3 O3 => ?_)⟩
      (conv => whnf)
      refine ⟨rfl, (O.ext E3).len ?_⟩
      (conv => whnf)
      refine HArith.to (e' := 1) (by omega) (by omega) (by omega) ?_
      (conv => whnf)
      refine (ih _ _ _ _ _ (hx0'.ext E3) (hx1'.ext E3) (Or.inr ⟨r3, O3⟩) (hok.snoc hil hin) (by simp only [List.length_nil, List.length_singleton, List.length_append] at hlen ⊢; omega)).mono ?_
      rintro v h4 ⟨q4, cnt, rfl, E4, O4, hc, hiff⟩
      have E34 := E3.trans E4
      (conv => whnf)
      refine ⟨rfl, rfl, HApp.any (E.trans E34) (Nat.le_refl _) (O.ext E34) O4 hc (fun h5 q5 E5 O5 => ?_)⟩
      (conv => whnf)
      refine ⟨rfl, O5.len ?_⟩
      (conv => whnf)
      refine HIf.dec (fun hge => ?_) (fun hlt0 => ?_)
      · (conv => whnf)
        exact ⟨q5, cnt, rfl, E5, O5, hc, ⟨fun _ => hext.2 ⟨i, hil, hin, hF, hiff.1 (by omega)⟩, fun _ => by omega⟩⟩
      · obtain rfl : cnt = 0 := by omega
        (conv => whnf)
        refine HArith.fits (by omega) (by omega) ?_
        (conv => whnf)
        exact ⟨⟨i + 1, q5, rfl, by omega, E5, O5, next fun k => by have := hiff.2 k.2.2; omega⟩, by show a.length - (i + 1) < a.length - i; omega⟩
    · refine (lib_Clone2 _ rx _ o (hx2.ext E) (by omega)).mono ?_
      rintro v h2 ⟨y2, rfl, F⟩
      obtain ⟨r2, hr2, O2⟩ := F.row
      (conv => whnf)
      refine HLit.one ?_
      (conv => whnf)
      refine ⟨rfl, rfl, HApp.litR [(i : Int)] O2 (by simp; omega) (fun h3 r3 y3 B3 hr3 O3 => ?_)⟩
      have E3 : Ext h' h3 := F.1.but B3 hr2
      (conv => whnf)
      refine ⟨rfl, (O.ext E3).len ?_⟩
      (conv => whnf)
      refine HArith.to (e' := 1) (by omega) (by omega) (by omega) ?_
      (conv => whnf)
      refine (ih _ _ _ _ _ (hx0'.ext E3) (hx1'.ext E3) (Or.inr ⟨r3, O3⟩) (hok.snoc hil hin) (by simp only [List.length_nil, List.length_singleton, List.length_append] at hlen ⊢; omega)).mono ?_
      rintro v h4 ⟨q4, cnt, rfl, E4, O4, hc, hiff⟩
      have E34 := E3.trans E4
      (conv => whnf)
      refine ⟨rfl, rfl, HApp.any (E.trans E34) (Nat.le_refl _) (O.ext E34) O4 hc (fun h5 q5 E5 O5 => ?_)⟩
      (conv => whnf)
      refine ⟨rfl, O5.len ?_⟩
      (conv => whnf)
      refine HIf.dec (fun hge => ?_) (fun hlt0 => ?_)
      · (conv => whnf)
        exact ⟨q5, cnt, rfl, E5, O5, hc, ⟨fun _ => hext.2 ⟨i, hil, hin, hF, hiff.1 (by omega)⟩, fun _ => by omega⟩⟩
      · obtain rfl : cnt = 0 := by omega
        (conv => whnf)
        refine HArith.fits (by omega) (by omega) ?_
        (conv => whnf)
        exact ⟨⟨i + 1, q5, rfl, by omega, E5, O5, next fun k => by have := hiff.2 k.2.2; omega⟩, by show a.length - (i + 1) < a.length - i; omega⟩

set_option maxHeartbeats 1000000 in
theorem impl_AreIsomorphic (h : Heap) (x0 : H0) (a : List (List Int)) (x1 : H0) (b : List (List Int)) (hx0 : Rows h x0 a) (hx1 : Rows h x1 b) (ha : isCartan a = true) (hb : isCartan b = true) :
    HCalls dm Tryz.prog 192 [.s x0, .s x1] h (fun r h' => ∃ y, r = T2 y (isoB a b) ∧ Ext h h') := by
  have hA := (isCartan_iff a).1 ha
  have hB := (isCartan_iff b).1 hb
  have ha4 := hA.le
  have hb4 := hB.le
  obtain ⟨V, hV⟩ : ∃ V, V = isoB a b := ⟨_, rfl⟩
  rw [← hV]
  refine calls_of_hFun (m := 0) kd_ok mixed Tryz.func192 rfl (by kernel_rfl) rfl rfl (of_decide_eq_true rfl) ?_; unfold hFun; (conv => whnf)
  refine (impl_IsCartan _ _ _ hx0 (by omega)).mono ?_
  rintro r h1 ⟨rfl, hh⟩
  subst h1
  rw [ha]
  (conv => whnf)
  (repeat (first | (refine HIf.yes ?_; conv => whnf) | (refine HIf.no ?_; conv => whnf)))
  refine (impl_IsCartan _ _ _ hx1 (by omega)).mono ?_
  rintro r h1 ⟨rfl, hh⟩
  subst h1
  rw [hb]
  (conv => whnf)
  (repeat (first | (refine HIf.yes ?_; conv => whnf) | (refine HIf.no ?_; conv => whnf) | (refine ⟨rfl, hx0.len ?_⟩; conv => whnf) | (refine ⟨rfl, hx1.len ?_⟩; conv => whnf)))
  by_cases hl : (a.length : Int) = (b.length : Int)
  rotate_left
  · refine HIf.bneT hl ?_
    (conv => whnf)
    refine HLit.empty ?_
    (conv => whnf)
    have : V = false := by rw [hV, isoB_offl (Or.inr (Or.inr (by omega)))]
    rw [this]
    exact ⟨_, rfl, Ext.push _ _⟩
  have hln : a.length = b.length := by omega
  have iff := (isoB_on ha hb hln).trans (iso_iff hA hB hln).symm
  rw [← hV] at iff
  refine HIf.bneF hl ?_
  (conv => whnf)
  refine (impl_matches hA hB hln a.length _ _ _ (.pl (.slice none 0 0)) [] hx0 hx1 (Or.inl ⟨rfl, rfl⟩) (by simp [OrdOk]) (by simp)).mono ?_
  rintro r h2 ⟨q, cnt, rfl, E2, O2, hc, hiff⟩
  rw [← iff] at hiff
  (conv => whnf)
  refine ⟨rfl, O2.len ?_⟩
  (conv => whnf)
  refine HIf.beq (fun h0 => ?_) (fun h0 => ?_)
  · have : V = false := by
      cases hv : V
      · rfl
      · have := hiff.2 hv
        omega
    rw [this]
    (conv => whnf)
    refine HLit.empty ?_
    (conv => whnf)
    exact ⟨_, rfl, E2.pushed _⟩
  · have : V = true := hiff.1 (by omega)
    rw [this]
    obtain ⟨_, cs, hq, hcl, h1⟩ := O2
    have hcl0 : 0 < cs.length := by omega
    (conv => whnf)
    refine ⟨rfl, HIdx.sl (by omega) (by omega) ?_⟩
    (conv => whnf)
    refine ⟨rfl, At.load ⟨q, 0, _, cs, rfl, hq, rfl, List.getElem?_eq_getElem hcl0⟩ ?_⟩
    (conv => whnf)
    exact ⟨_, rfl, E2⟩

end Go.Proofs.YtgliajcgcbnemaaGreatDoor.Hx
