
/-
  Contracts of braid moves, of the program.
-/
import Derived.Test.YtlddnnkjpcncoaaGw
namespace Go.Proofs.Ytlddnnkjpcncoaa.Hx
open Go.RowKit
variable {dm : Bool}

theorem Fresh.one {h h' : Heap} {x : H0} {l : List Int} (H : Fresh h h' x l) : x.one = true := H.own.one


set_option maxHeartbeats 2000000 in
theorem impl_braided (h : Heap) (x0 : H0) (a0 : List (List Int)) (x1 : H0) (a1 : List Int) (n2 : Int) (hx0 : Rows h x0 a0) (hx1 : Ints h x1 a1) (hic : isWord a0 a1 = true) :
    HCalls dm Try.prog 45 [.s x0, .s x1, I n2] h (fun r h' => ∃ y, r = T2 y (brOk a0 a1 n2) ∧ Ext h h' ∧ (brOk a0 a1 n2 = true → Fresh h h' y (braid a0 a1 n2))) := by
  obtain ⟨hC, hl, hw⟩ := word_cartan hic
  have h4 := hC.le
  have no : ∀ {b : Bool} {P : Prop}, b = false → (b = true → P) := fun h h' => by rw [h] at h'; cases h'
  refine calls_of_hFun (m := 0) kd_ok mixed Try.func45 rfl (by kernel_rfl) rfl rfl (of_decide_eq_true rfl) ?_; unfold hFun; (conv => whnf)
  by_cases c1 : n2 < 0
  · have hb := brOk_off (c := a0) (w := a1) (Or.inr (Or.inl c1))
    rw [hb]
    refine Or.inl (And.intro (show Region.lexB _ _ = true by kernel_rfl) ?_); (conv => whnf)
    (repeat (first | (refine HArith.fits (by omega) (by omega) ?_; conv => whnf) | (refine HIf.decF (by assumption) ?_; conv => whnf) | (refine HIf.decT (by assumption) ?_; conv => whnf) | (refine HIf.beqF (by assumption) ?_; conv => whnf) | (refine HIf.beqT (by assumption) ?_; conv => whnf) | (refine HIf.yes ?_; conv => whnf) | (refine HIf.no ?_; conv => whnf) | (refine ⟨rfl, At.load (by assumption) ?_⟩; conv => whnf) | (refine ⟨rfl, Ints.len (by assumption) ?_⟩; conv => whnf)))
    exact ⟨_, rfl, Ext.refl _, no rfl⟩
  by_cases c2 : n2 ≥ (a1.length : Int) - 1
  · have hb := brOk_off (c := a0) (w := a1) (n := n2) (Or.inr (Or.inr (by omega)))
    rw [hb]
    refine Or.inl (And.intro (show Region.lexB _ _ = true by kernel_rfl) ?_); (conv => whnf)
    (repeat (first | (refine HArith.fits (by omega) (by omega) ?_; conv => whnf) | (refine HIf.decF (by assumption) ?_; conv => whnf) | (refine HIf.decT (by assumption) ?_; conv => whnf) | (refine HIf.beqF (by assumption) ?_; conv => whnf) | (refine HIf.beqT (by assumption) ?_; conv => whnf) | (refine HIf.yes ?_; conv => whnf) | (refine HIf.no ?_; conv => whnf) | (refine ⟨rfl, At.load (by assumption) ?_⟩; conv => whnf) | (refine ⟨rfl, Ints.len (by assumption) ?_⟩; conv => whnf)))
    exact ⟨_, rfl, Ext.refl _, no rfl⟩
  obtain ⟨k, rfl⟩ : ∃ k : Nat, n2 = k := ⟨n2.toNat, by omega⟩
  have hok := brOk_at (c := a0) (w := a1) (k := k) hic (by omega)
  have idx1 : ∀ {K : HV → Prop}, (∀ p, At h p (ci (a1.getD k 0)) → K (.s p)) → HIdx h (.s x1) (I k) K := fun hK => Ints.idxN hx1 (by omega) hK
  have idx2 : ∀ {K : HV → Prop}, (∀ p, At h p (ci (a1.getD (k + 1) 0)) → K (.s p)) → HIdx h (.s x1) (I ((k + 1 : Nat) : Int)) K := fun hK => Ints.idxN hx1 (by omega) hK
  have idx3 : ∀ {h2 : Heap} {K : HV → Prop}, Ext h h2 → (∀ p, At h2 p (ci (a1.getD k 0)) → K (.s p)) → HIdx h2 (.s x1) (I k) K := fun E hK => Ints.idxN (hx1.ext E) (by omega) hK
  have idx4 : ∀ {h2 : Heap} {K : HV → Prop}, Ext h h2 → (∀ p, At h2 p (ci (a1.getD (k + 1) 0)) → K (.s p)) → HIdx h2 (.s x1) (I ((k + 1 : Nat) : Int)) K := fun E hK => Ints.idxN (hx1.ext E) (by omega) hK
  have pa := letter_point hw (k := k) (by omega)
  have pb := letter_point hw (k := k + 1) (by omega)
  by_cases c3 : a1.getD k 0 = a1.getD (k + 1) 0
  · have hb := hok.trans (brN_eq c3)
    rw [hb]
    refine Or.inl (And.intro (show Region.lexB _ _ = true by kernel_rfl) ?_); (conv => whnf)
    (repeat (first | (refine HArith.to (e' := ((k + 1 : Nat) : Int)) (by omega) (by omega) (by omega) ?_; conv => whnf) | (refine HArith.fits (by omega) (by omega) ?_; conv => whnf) | (refine ⟨rfl, idx1 (fun p hp => ?_)⟩; conv => whnf) | (refine ⟨rfl, idx2 (fun p hp => ?_)⟩; conv => whnf) | (refine HIf.decF (by assumption) ?_; conv => whnf) | (refine HIf.decT (by assumption) ?_; conv => whnf) | (refine HIf.beqF (by assumption) ?_; conv => whnf) | (refine HIf.beqT (by assumption) ?_; conv => whnf) | (refine HIf.yes ?_; conv => whnf) | (refine HIf.no ?_; conv => whnf) | (refine ⟨rfl, At.load (by assumption) ?_⟩; conv => whnf) | (refine ⟨rfl, Ints.len (by assumption) ?_⟩; conv => whnf)))
    exact ⟨_, rfl, Ext.refl _, no rfl⟩
  refine Or.inl (And.intro (show Region.lexB _ _ = true by kernel_rfl) ?_); (conv => whnf)
  (repeat (first | (refine HArith.to (e' := ((k + 1 : Nat) : Int)) (by omega) (by omega) (by omega) ?_; conv => whnf) | (refine HArith.fits (by omega) (by omega) ?_; conv => whnf) | (refine ⟨rfl, idx1 (fun p hp => ?_)⟩; conv => whnf) | (refine ⟨rfl, idx2 (fun p hp => ?_)⟩; conv => whnf) | (refine HIf.decF (by assumption) ?_; conv => whnf) | (refine HIf.decT (by assumption) ?_; conv => whnf) | (refine HIf.beqF (by assumption) ?_; conv => whnf) | (refine HIf.beqT (by assumption) ?_; conv => whnf) | (refine HIf.yes ?_; conv => whnf) | (refine HIf.no ?_; conv => whnf) | (refine ⟨rfl, At.load (by assumption) ?_⟩; conv => whnf) | (refine ⟨rfl, Ints.len (by assumption) ?_⟩; conv => whnf)))
  refine Or.inl (And.intro (show Region.lexB _ _ = true by kernel_rfl) ?_); (conv => whnf)
  (repeat (first | (refine HArith.to (e' := ((k + 1 : Nat) : Int)) (by omega) (by omega) (by omega) ?_; conv => whnf) | (refine HArith.fits (by omega) (by omega) ?_; conv => whnf) | (refine ⟨rfl, idx1 (fun p hp => ?_)⟩; conv => whnf) | (refine ⟨rfl, idx2 (fun p hp => ?_)⟩; conv => whnf) | (refine HIf.decF (by assumption) ?_; conv => whnf) | (refine HIf.decT (by assumption) ?_; conv => whnf) | (refine HIf.beqF (by assumption) ?_; conv => whnf) | (refine HIf.beqT (by assumption) ?_; conv => whnf) | (refine HIf.yes ?_; conv => whnf) | (refine HIf.no ?_; conv => whnf) | (refine ⟨rfl, At.load (by assumption) ?_⟩; conv => whnf) | (refine ⟨rfl, Ints.len (by assumption) ?_⟩; conv => whnf)))
  refine HCallQ.of (.int .i64 (bond a0 (a1.getD k 0) (a1.getD (k + 1) 0))) (impl_BondOf _ _ a0 _ _ hx0.frz (by omega)) (fun x h' hR => hR.1) ?_
  have hbl := bond_le a0 (a1.getD k 0) (a1.getD (k + 1) 0)
  obtain ⟨bd, hbd⟩ : ∃ bd, bd = bond a0 (a1.getD k 0) (a1.getD (k + 1) 0) := ⟨_, rfl⟩
  rw [← hbd] at hbl
  rw [← hbd]
  (conv => whnf)
  by_cases c4 : bd < 2
  · have hb := hok.trans (brN_small (by rw [← hbd]; exact c4))
    rw [hb]
    refine Or.inr (Or.inr (Or.inl (Exists.intro 31 (Exists.intro [0, 1, 2, 3, 4, 5, 6, 7, 8, 9, 10, 11, 12, 13, 14, 15, 16, 17, 18, 19, 20, 21, 22, 23, 24, 25, 26] (Exists.intro [27, 28, 29, 30] (And.intro (show heldOk _ _ _ _ = true by kernel_rfl) ?_)))))); (conv => whnf)
    (repeat (first | (refine HArith.fits (by omega) (by omega) ?_; conv => whnf) | (refine HIf.decF (by assumption) ?_; conv => whnf) | (refine HIf.decT (by assumption) ?_; conv => whnf) | (refine HIf.beqF (by assumption) ?_; conv => whnf) | (refine HIf.beqT (by assumption) ?_; conv => whnf) | (refine HIf.yes ?_; conv => whnf) | (refine HIf.no ?_; conv => whnf) | (refine ⟨rfl, At.load (by assumption) ?_⟩; conv => whnf) | (refine ⟨rfl, Ints.len (by assumption) ?_⟩; conv => whnf)))
    exact ⟨_, rfl, Ext.refl _, no rfl⟩
  obtain ⟨m, rfl⟩ : ∃ m : Nat, bd = m := ⟨bd.toNat, by omega⟩
  by_cases c5 : ((k + m : Nat) : Int) > (a1.length : Int)
  · have hb := hok.trans (brN_long (by unfold brM; rw [← hbd]; omega))
    rw [hb]
    refine Or.inr (Or.inr (Or.inl (Exists.intro 31 (Exists.intro [0, 1, 2, 3, 4, 5, 6, 7, 8, 9, 10, 11, 12, 13, 14, 15, 16, 17, 18, 19, 20, 21, 22, 23, 24, 25, 26] (Exists.intro [27, 28, 29, 30] (And.intro (show heldOk _ _ _ _ = true by kernel_rfl) ?_)))))); (conv => whnf)
    (repeat (first | (refine HArith.to (e' := ((k + 1 : Nat) : Int)) (by omega) (by omega) (by omega) ?_; conv => whnf) | (refine HArith.to (e' := ((k + m : Nat) : Int)) (by omega) (by omega) (by omega) ?_; conv => whnf) | (refine HArith.fits (by omega) (by omega) ?_; conv => whnf) | (refine ⟨rfl, idx1 (fun p hp => ?_)⟩; conv => whnf) | (refine ⟨rfl, idx2 (fun p hp => ?_)⟩; conv => whnf) | (refine HIf.decF (by assumption) ?_; conv => whnf) | (refine HIf.decT (by assumption) ?_; conv => whnf) | (refine HIf.beqF (by assumption) ?_; conv => whnf) | (refine HIf.beqT (by assumption) ?_; conv => whnf) | (refine HIf.yes ?_; conv => whnf) | (refine HIf.no ?_; conv => whnf) | (refine ⟨rfl, At.load (by assumption) ?_⟩; conv => whnf) | (refine ⟨rfl, Ints.len (by assumption) ?_⟩; conv => whnf)))
    exact ⟨_, rfl, Ext.refl _, no rfl⟩
  obtain ⟨hm, hn⟩ := brN_of (c := a0) (w := a1) (k := k) (m := m) c3 hbd.symm (by omega) (by omega)
  rw [hn] at hok
  have ham := alt_length (i := a1.getD (k + 1) 0) (j := a1.getD k 0) (m := m) (by omega)
  have hbw : brW a0 a1 k = a1.take k ++ (alt (a1.getD (k + 1) 0) (a1.getD k 0) m ++ a1.drop (k + m)) := by rw [brW, hm]
  have hbo := fun h => braid_on (c := a0) (w := a1) (k := k) h
  rw [hbw] at hbo
  rw [hok] at hbo ⊢
  clear hn hm hbd hbw hok
  generalize a1.getD k 0 = a at *
  generalize a1.getD (k + 1) 0 = b at *
  refine Or.inr (Or.inr (Or.inl (Exists.intro 31 (Exists.intro [0, 1, 2, 3, 4, 5, 6, 7, 8, 9, 10, 11, 12, 13, 14, 15, 16, 17, 18, 19, 20, 21, 22, 23, 24, 25, 26] (Exists.intro [27, 28, 29, 30] (And.intro (show heldOk _ _ _ _ = true by kernel_rfl) ?_)))))); (conv => whnf)
  (repeat (first | (refine HArith.to (e' := ((k + 1 : Nat) : Int)) (by omega) (by omega) (by omega) ?_; conv => whnf) | (refine HArith.to (e' := ((k + m : Nat) : Int)) (by omega) (by omega) (by omega) ?_; conv => whnf) | (refine HArith.fits (by omega) (by omega) ?_; conv => whnf) | (refine ⟨rfl, idx1 (fun p hp => ?_)⟩; conv => whnf) | (refine ⟨rfl, idx2 (fun p hp => ?_)⟩; conv => whnf) | (refine HIf.decF (by assumption) ?_; conv => whnf) | (refine HIf.decT (by assumption) ?_; conv => whnf) | (refine HIf.beqF (by assumption) ?_; conv => whnf) | (refine HIf.beqT (by assumption) ?_; conv => whnf) | (refine HIf.yes ?_; conv => whnf) | (refine HIf.no ?_; conv => whnf) | (refine ⟨rfl, At.load (by assumption) ?_⟩; conv => whnf) | (refine ⟨rfl, Ints.len (by assumption) ?_⟩; conv => whnf)))
  refine ⟨rfl, Ints.slice hx1 k (k + m) (Or.inr rfl) (Or.inr rfl) (by omega) (by omega) (fun y1 hy1 => ?_)⟩
  (conv => whnf)
  (repeat (first | (refine HArith.to (e' := ((k + 1 : Nat) : Int)) (by omega) (by omega) (by omega) ?_; conv => whnf) | (refine HArith.to (e' := ((k + m : Nat) : Int)) (by omega) (by omega) (by omega) ?_; conv => whnf) | (refine HArith.fits (by omega) (by omega) ?_; conv => whnf) | (refine ⟨rfl, idx1 (fun p hp => ?_)⟩; conv => whnf) | (refine ⟨rfl, idx2 (fun p hp => ?_)⟩; conv => whnf) | (refine HIf.decF (by assumption) ?_; conv => whnf) | (refine HIf.decT (by assumption) ?_; conv => whnf) | (refine HIf.beqF (by assumption) ?_; conv => whnf) | (refine HIf.beqT (by assumption) ?_; conv => whnf) | (refine HIf.yes ?_; conv => whnf) | (refine HIf.no ?_; conv => whnf) | (refine ⟨rfl, At.load (by assumption) ?_⟩; conv => whnf) | (refine ⟨rfl, Ints.len (by assumption) ?_⟩; conv => whnf)))
  refine HCallF.fresh (impl_AlternatingWord _ a b (m : Int)) (fun h2 y2 f2 => ?_)
  (conv => whnf)
  (repeat (first | (refine HArith.to (e' := ((k + 1 : Nat) : Int)) (by omega) (by omega) (by omega) ?_; conv => whnf) | (refine HArith.to (e' := ((k + m : Nat) : Int)) (by omega) (by omega) (by omega) ?_; conv => whnf) | (refine HArith.fits (by omega) (by omega) ?_; conv => whnf) | (refine ⟨rfl, idx1 (fun p hp => ?_)⟩; conv => whnf) | (refine ⟨rfl, idx2 (fun p hp => ?_)⟩; conv => whnf) | (refine HIf.decF (by assumption) ?_; conv => whnf) | (refine HIf.decT (by assumption) ?_; conv => whnf) | (refine HIf.beqF (by assumption) ?_; conv => whnf) | (refine HIf.beqT (by assumption) ?_; conv => whnf) | (refine HIf.yes ?_; conv => whnf) | (refine HIf.no ?_; conv => whnf) | (refine ⟨rfl, At.load (by assumption) ?_⟩; conv => whnf) | (refine ⟨rfl, Ints.len (by assumption) ?_⟩; conv => whnf)))
  refine HCallF.same (B (decide ((a1.take (k + m)).drop k = alt a b (m : Int)))) (impl_EqualWords _ _ _ _ _ (hy1.ext f2.1).frz f2.ints.frz (by simp; omega)) (fun x h' hR => hR) ?_
  (conv => whnf)
  (repeat (first | (refine HArith.to (e' := ((k + 1 : Nat) : Int)) (by omega) (by omega) (by omega) ?_; conv => whnf) | (refine HArith.to (e' := ((k + m : Nat) : Int)) (by omega) (by omega) (by omega) ?_; conv => whnf) | (refine HArith.fits (by omega) (by omega) ?_; conv => whnf) | (refine ⟨rfl, idx1 (fun p hp => ?_)⟩; conv => whnf) | (refine ⟨rfl, idx2 (fun p hp => ?_)⟩; conv => whnf) | (refine HIf.decF (by assumption) ?_; conv => whnf) | (refine HIf.decT (by assumption) ?_; conv => whnf) | (refine HIf.beqF (by assumption) ?_; conv => whnf) | (refine HIf.beqT (by assumption) ?_; conv => whnf) | (refine HIf.yes ?_; conv => whnf) | (refine HIf.no ?_; conv => whnf) | (refine ⟨rfl, At.load (by assumption) ?_⟩; conv => whnf) | (refine ⟨rfl, Ints.len (by assumption) ?_⟩; conv => whnf)))
  refine HIf.bnot (HIf.dec (fun heq => ?_) (fun hne => ?_))
  · rw [decide_eq_true heq] at hbo ⊢
    have hbo := hbo rfl
    rw [hbo]
    have hx2 := hx1.ext f2.1
    have idx5 : ∀ {K : HV → Prop}, (∀ p, At h2 p (ci a) → K (.s p)) → HIdx h2 (.s x1) (I k) K := fun hK => idx3 f2.1 hK
    have idx6 : ∀ {K : HV → Prop}, (∀ p, At h2 p (ci b) → K (.s p)) → HIdx h2 (.s x1) (I ((k + 1 : Nat) : Int)) K := fun hK => idx4 f2.1 hK
    clear idx1 idx2 idx3 idx4
    (conv => whnf)
    refine Or.inr (Or.inr (Or.inl (Exists.intro 23 (Exists.intro [0, 1, 2, 3, 4, 5, 6, 7, 8, 9, 10, 11, 12, 14, 15, 16, 17, 18] (Exists.intro [13, 19, 20, 21, 22] (And.intro (show heldOk _ _ _ _ = true by kernel_rfl) ?_)))))); (conv => whnf)
    refine ⟨rfl, Ints.take hx2 k (by omega) (fun y3 hy3 => ?_)⟩
    (conv => whnf)
    (repeat (first | (refine HArith.to (e' := ((k + 1 : Nat) : Int)) (by omega) (by omega) (by omega) ?_; conv => whnf) | (refine HArith.fits (by omega) (by omega) ?_; conv => whnf) | (refine ⟨rfl, idx5 (fun p hp => ?_)⟩; conv => whnf) | (refine ⟨rfl, idx6 (fun p hp => ?_)⟩; conv => whnf) | (refine HIf.decF (by assumption) ?_; conv => whnf) | (refine HIf.decT (by assumption) ?_; conv => whnf) | (refine HIf.beqF (by assumption) ?_; conv => whnf) | (refine HIf.beqT (by assumption) ?_; conv => whnf) | (refine HIf.yes ?_; conv => whnf) | (refine HIf.no ?_; conv => whnf) | (refine ⟨rfl, At.load (by assumption) ?_⟩; conv => whnf) | (refine ⟨rfl, Ints.len (by assumption) ?_⟩; conv => whnf)))
    refine ⟨rfl, Ints.slice hx2 (k + m) a1.length (Or.inr rfl) (Or.inl ⟨rfl, rfl⟩) (by omega) (Nat.le_refl _) (fun y4 hy4 => ?_)⟩
    rw [List.take_length] at hy4
    (conv => whnf)
    refine HCallF.fresh (impl_AlternatingWord _ b a (m : Int)) (fun h5 y5 f5 => ?_)
    (conv => whnf)
    refine HLit.of (xs := [y3, y5, y4]) rfl (one3 hy3.one f5.own.one hy4.one) (by omega) ?_
    have E5 := f2.1.trans f5.1
    have R5 := (Rows.three (hy3.ext f5.1) f5.ints (hy4.ext f5.1)).frz
    have ht := tot3 (a1.take k) (alt b a (m : Int)) (a1.drop (k + m))
    have hlt : (a1.take k).length ≤ 15 := by simp; omega
    have hld : (a1.drop (k + m)).length ≤ 15 := by simp; omega
    (conv => whnf)
    refine HCallF.fresh ((lib_Concat _ _ _ R5 ⟨by simp, by rw [ht]; omega⟩).mono (fun r h' ⟨y, e, _, _, g⟩ => ⟨y, e, g (by rw [ht]; omega)⟩)) (fun h6 y6 f6 => ?_)
    rw [flat3] at f6
    have hz := Fresh.inner (E5.trans (Ext.push h5 [Row.own [y3, y5, y4]])) f6
    (conv => whnf)
    exact ⟨_, rfl, hz.1, fun _ => Fresh.of hz.1 hz.2⟩
  · rw [decide_eq_false hne] at hbo ⊢
    (conv => whnf)
    exact ⟨_, rfl, f2.1, no rfl⟩

theorem impl_BraidAt0 (h : Heap) (x0 : H0) (a0 : List (List Int)) (x1 : H0) (a1 : List Int) (n2 : Int) (hx0 : Rows h x0 a0) (hx1 : Ints h x1 a1) (s0 : a0.length ≤ 1048576 ∧ tot a0 ≤ 1048576) (s1 : a1.length ≤ 1048576) :
    HCalls dm Try.prog 20 [.s x0, .s x1, I n2] h (fun r h' => ∃ y, r = T2 y (brOk a0 a1 n2) ∧ Fresh h h' y (braid a0 a1 n2)) := by
  refine calls_of_hFun (m := 0) kd_ok mixed Try.func20 rfl (by kernel_rfl) rfl rfl (of_decide_eq_true rfl) ?_; unfold hFun; (conv => whnf)
  refine (impl_IsWord _ _ _ a0 a1 hx0 hx1 (by omega) (by omega)).mono ?_
  rintro r h1 ⟨rfl, rfl⟩
  (conv => whnf)
  cases hic : isWord a0 a1
  · have hb := brOk_off (c := a0) (w := a1) (n := n2) (Or.inl hic)
    rw [hb, braid_off hb]
    refine HIf.no ?_
    (conv => whnf)
    refine HLit.empty ?_
    (conv => whnf)
    refine ⟨rfl, rfl, HApp.copy hx1 (by omega) (fun h2 y2 E2 O2 => ?_)⟩
    (conv => whnf)
    exact ⟨_, rfl, Fresh.of E2 O2⟩
  refine HIf.yes ?_
  (conv => whnf)
  refine (impl_braided _ _ a0 _ a1 n2 hx0 hx1 hic).mono ?_
  rintro r h2 ⟨y2, rfl, E2, hf⟩
  cases hb : brOk a0 a1 n2
  · rw [braid_off hb]
    (conv => whnf)
    refine HIf.no ?_
    (conv => whnf)
    refine HLit.empty ?_
    (conv => whnf)
    refine ⟨rfl, rfl, HApp.copy (hx1.ext E2) (by omega) (fun h3 y3 E3 O3 => ?_)⟩
    obtain ⟨q, hq1, hq2, Oq⟩ := O3.row
    have := E2.1
    (conv => whnf)
    exact ⟨_, rfl, Fresh.ofRow (E2.trans E3) Oq (by omega)⟩
  · have f := hf hb
    (conv => whnf)
    refine HIf.yes ?_
    (conv => whnf)
    exact ⟨_, rfl, f⟩

theorem impl_BraidAt (h : Heap) (x0 : H0) (a0 : List (List Int)) (x1 : H0) (a1 : List Int) (n2 : Int) (hx0 : Rows h x0 a0) (hx1 : Ints h x1 a1) (s0 : a0.length ≤ 1048576 ∧ tot a0 ≤ 1048576) (s1 : a1.length ≤ 1048576) (_s2 : -9223372036854775808 ≤ n2 ∧ n2 ≤ 9223372036854775807) :
    HCalls dm Try.prog 20 [.s x0, .s x1, I n2] h (fun r h' => ∃ y, r = T2 y (brOk a0 a1 n2) ∧ Fresh h h' y (braid a0 a1 n2)) := impl_BraidAt0 h x0 a0 x1 a1 n2 hx0 hx1 s0 s1

end Go.Proofs.Ytlddnnkjpcncoaa.Hx
