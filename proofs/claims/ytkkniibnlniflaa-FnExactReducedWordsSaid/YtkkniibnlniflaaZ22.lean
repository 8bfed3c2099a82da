/-
  Contract of braid moves, of the reference; of the places of braid moves and of braid moves one after the other, of both.
  Contracts of the places of braid moves and of braid moves one after the other, of the program and of the reference.
-/
import Derived.Test.YtkkniibnlniflaaZ21
namespace Go.Proofs.Ytkkniibnlniflaa.Hx
open Go.RowKit
variable {dm : Bool}

theorem in_off {a b : Int} (h : a < 0 ∨ a > b) : (decide (0 ≤ a) && decide (a ≤ b)) = false := by
  rcases h with h | h
  · have : decide (0 ≤ a) = false := decide_eq_false (by omega)
    rw [this]
    rfl
  · have : decide (a ≤ b) = false := decide_eq_false (by omega)
    rw [this, Bool.and_false]
theorem in_on {a b : Int} (h : 0 ≤ a) (h2 : a ≤ b) : (decide (0 ≤ a) && decide (a ≤ b)) = true := by
  rw [decide_eq_true h, decide_eq_true h2]
  rfl

/-- The places below k at which a braid move can be made. -/
def brTo (c : List (List Int)) (w : List Int) (k : Nat) : List Int := ((List.range k).filter fun t => brOk c w (t : Nat)).map fun (t : Nat) => (t : Int)
theorem brTo_none (c : List (List Int)) (w : List Int) : brTo c w 0 = [] := rfl
theorem brTo_le (c : List (List Int)) (w : List Int) (k : Nat) : (brTo c w k).length ≤ k := by
  have := List.length_filter_le (fun t => brOk c w (t : Nat)) (List.range k)
  simp [brTo] at this ⊢
  exact this
theorem brTo_in {c : List (List Int)} {w : List Int} {k : Nat} (h : brOk c w k = true) : brTo c w (k + 1) = brTo c w k ++ [(k : Int)] := by
  unfold brTo
  rw [List.range_succ, List.filter_append, List.map_append, List.filter_cons_of_pos (p := fun t => brOk c w (t : Nat)) h, List.filter_nil]
  rfl
theorem brTo_out {c : List (List Int)} {w : List Int} {k : Nat} (h : brOk c w k = false) : brTo c w (k + 1) = brTo c w k := by
  unfold brTo
  rw [List.range_succ, List.filter_append, List.map_append, List.filter_cons_of_neg (p := fun t => brOk c w (t : Nat)) (by rw [h]; decide), List.filter_nil, List.map_nil, List.append_nil]

/-- Braid moves at told places, one after the other; nothing where one cannot be made. -/
def braids (c : List (List Int)) : List Int → List Int → Option (List Int)
  | x, [] => some x
  | x, n :: l => if brOk c x n then braids c (braid c x n) l else none
def apOk (c : List (List Int)) (w l : List Int) : Bool := isWord c w && (braids c w l).isSome
def apW (c : List (List Int)) (w l : List Int) : List Int := (braids c w l).getD w
theorem braids_end (c : List (List Int)) (x : List Int) : braids c x [] = some x := rfl
theorem braids_step {c : List (List Int)} {x l : List Int} {k : Nat} (h : k < l.length) : braids c x (l.drop k) = if brOk c x (l.getD k 0) then braids c (braid c x (l.getD k 0)) (l.drop (k + 1)) else none := by
  rw [List.drop_eq_getElem_cons h, braids]
  have e : l.getD k 0 = l[k] := by simp [List.getD, h]
  rw [e]
theorem brOk_word {c : List (List Int)} {w : List Int} {n : Int} (h : brOk c w n = true) : isWord c w = true := by
  simp only [brOk, Bool.and_eq_true] at h
  exact h.1.1
theorem braid_same {c : List (List Int)} {w : List Int} {n : Int} (h : brOk c w n = true) : (braid c w n).length = w.length := by
  have hw := brOk_word h
  unfold braid
  rw [if_pos h]
  refine brW_len hw ?_
  simp only [brOk, Bool.and_eq_true] at h
  exact h.2
theorem braids_len (c : List (List Int)) : ∀ (l x y : List Int), braids c x l = some y → y.length = x.length
  | [], x, y, h => by
    rw [braids_end] at h
    injection h with h
    rw [h]
  | n :: l, x, y, h => by
    rw [braids] at h
    split at h
    · rename_i hb
      rw [braids_len c l _ y h, braid_same hb]
    · cases h
theorem apW_len (c : List (List Int)) (w l : List Int) : (apW c w l).length = w.length := by
  unfold apW
  cases h : braids c w l with
  | none => rfl
  | some y => exact braids_len c l w y h
theorem braids_word {c : List (List Int)} {w l : List Int} (hl : 0 < l.length) (h : isWord c w = false) : braids c w l = none := by
  match l, hl with
  | n :: l, _ =>
    rw [braids, brOk_off (Or.inl h)]
    rfl


set_option maxHeartbeats 1000000 in
theorem spec_BraidAt0 (h : Heap) (x0 : H0) (a0 : List (List Int)) (x1 : H0) (a1 : List Int) (n2 : Int) (hx0 : Rows h x0 a0) (hx1 : Ints h x1 a1) (s0 : a0.length ≤ 1048576 ∧ tot a0 ≤ 1048576) (s1 : a1.length ≤ 1048576) :
    HCalls dm Try.prog 81 [.s x0, .s x1, I n2] h (fun r h' => ∃ y, r = T2 y (brOk a0 a1 n2) ∧ Fresh h h' y (braid a0 a1 n2)) := by
  have copy : brOk a0 a1 n2 = false → ∀ {K : HV → Heap → Prop}, (∀ h' y, Fresh h h' y (braid a0 a1 n2) → K (.s y) h') → HApp (h ++ [.own []]) (.s (.sl h.length 0 0)) (.s x1) K := fun hb K hK => by
    rw [braid_off hb] at hK
    exact HApp.copy hx1 (by omega) (fun h2 y2 E2 O2 => hK _ _ (Fresh.of E2 O2))
  refine calls_of_hFun (m := 0) kd_ok mixed Try.func81 rfl (by kernel_rfl) rfl rfl (of_decide_eq_true rfl) ?_; unfold hFun; (conv => whnf)
  refine Or.inl (And.intro (show Region.lexB _ _ = true by kernel_rfl) ?_); (conv => whnf)
  refine HCallQ.of (.bool (isWord a0 a1)) (spec_IsWord _ _ _ a0 a1 hx0.frz hx1.frz (by omega) (by omega)) (fun x h' hR => hR.1) ?_
  (conv => whnf)
  cases hic : isWord a0 a1
  · have hb := brOk_off (c := a0) (w := a1) (n := n2) (Or.inl hic)
    rw [hb]
    (repeat (first | (refine HArith.fits (by omega) (by omega) ?_; conv => whnf) | (refine HIf.decF (by assumption) ?_; conv => whnf) | (refine HIf.decT (by assumption) ?_; conv => whnf) | (refine HIf.beqF (by assumption) ?_; conv => whnf) | (refine HIf.beqT (by assumption) ?_; conv => whnf) | (refine HIf.yes ?_; conv => whnf) | (refine HIf.no ?_; conv => whnf) | (refine ⟨rfl, At.load (by assumption) ?_⟩; conv => whnf) | (refine ⟨rfl, Ints.len (by assumption) ?_⟩; conv => whnf)))
    refine HLit.empty ?_
    (conv => whnf)
    refine ⟨rfl, rfl, copy hb (fun h2 y2 f2 => ?_)⟩
    (conv => whnf)
    exact ⟨_, rfl, f2⟩
  obtain ⟨hC, hl, hw⟩ := word_cartan hic
  have h4 := hC.le
  (repeat (first | (refine HArith.fits (by omega) (by omega) ?_; conv => whnf) | (refine HIf.decF (by assumption) ?_; conv => whnf) | (refine HIf.decT (by assumption) ?_; conv => whnf) | (refine HIf.beqF (by assumption) ?_; conv => whnf) | (refine HIf.beqT (by assumption) ?_; conv => whnf) | (refine HIf.yes ?_; conv => whnf) | (refine HIf.no ?_; conv => whnf) | (refine ⟨rfl, At.load (by assumption) ?_⟩; conv => whnf) | (refine ⟨rfl, Ints.len (by assumption) ?_⟩; conv => whnf)))
  refine HCallQ.of (.bool (decide (0 ≤ n2) && decide (n2 ≤ (a1.length : Int) - 2))) (spec_l1In _ n2 0 ((a1.length : Int) - 2)) (fun x h' hR => hR.1) ?_
  (conv => whnf)
  by_cases c1 : n2 < 0 ∨ n2 > (a1.length : Int) - 2
  · have hb := brOk_off (c := a0) (w := a1) (n := n2) (Or.inr c1)
    rw [hb, in_off c1]
    (repeat (first | (refine HArith.fits (by omega) (by omega) ?_; conv => whnf) | (refine HIf.decF (by assumption) ?_; conv => whnf) | (refine HIf.decT (by assumption) ?_; conv => whnf) | (refine HIf.beqF (by assumption) ?_; conv => whnf) | (refine HIf.beqT (by assumption) ?_; conv => whnf) | (refine HIf.yes ?_; conv => whnf) | (refine HIf.no ?_; conv => whnf) | (refine ⟨rfl, At.load (by assumption) ?_⟩; conv => whnf) | (refine ⟨rfl, Ints.len (by assumption) ?_⟩; conv => whnf)))
    refine HLit.empty ?_
    (conv => whnf)
    refine ⟨rfl, rfl, copy hb (fun h2 y2 f2 => ?_)⟩
    (conv => whnf)
    exact ⟨_, rfl, f2⟩
  rw [in_on (by omega) (by omega)]
  obtain ⟨k, rfl⟩ : ∃ k : Nat, n2 = k := ⟨n2.toNat, by omega⟩
  have hok := brOk_at (c := a0) (w := a1) (k := k) hic (by omega)
  have idx1 : ∀ {K : HV → Prop}, (∀ p, At h p (ci (a1.getD k 0)) → K (.s p)) → HIdx h (.s x1) (I k) K := fun hK => Ints.idxN hx1 (by omega) hK
  have idx2 : ∀ {K : HV → Prop}, (∀ p, At h p (ci (a1.getD (k + 1) 0)) → K (.s p)) → HIdx h (.s x1) (I ((k + 1 : Nat) : Int)) K := fun hK => Ints.idxN hx1 (by omega) hK
  have idx3 : ∀ {h2 : Heap} {K : HV → Prop}, Ext h h2 → (∀ p, At h2 p (ci (a1.getD k 0)) → K (.s p)) → HIdx h2 (.s x1) (I k) K := fun E hK => Ints.idxN (hx1.ext E) (by omega) hK
  have idx4 : ∀ {h2 : Heap} {K : HV → Prop}, Ext h h2 → (∀ p, At h2 p (ci (a1.getD (k + 1) 0)) → K (.s p)) → HIdx h2 (.s x1) (I ((k + 1 : Nat) : Int)) K := fun E hK => Ints.idxN (hx1.ext E) (by omega) hK
  by_cases c3 : a1.getD k 0 = a1.getD (k + 1) 0
  · have hb := hok.trans (brN_eq c3)
    rw [hb]
    (repeat (first | (refine HArith.to (e' := ((k + 1 : Nat) : Int)) (by omega) (by omega) (by omega) ?_; conv => whnf) | (refine HArith.fits (by omega) (by omega) ?_; conv => whnf) | (refine ⟨rfl, idx1 (fun p hp => ?_)⟩; conv => whnf) | (refine ⟨rfl, idx2 (fun p hp => ?_)⟩; conv => whnf) | (refine HIf.decF (by assumption) ?_; conv => whnf) | (refine HIf.decT (by assumption) ?_; conv => whnf) | (refine HIf.beqF (by assumption) ?_; conv => whnf) | (refine HIf.beqT (by assumption) ?_; conv => whnf) | (refine HIf.yes ?_; conv => whnf) | (refine HIf.no ?_; conv => whnf) | (refine ⟨rfl, At.load (by assumption) ?_⟩; conv => whnf) | (refine ⟨rfl, Ints.len (by assumption) ?_⟩; conv => whnf)))
    refine HLit.empty ?_
    (conv => whnf)
    refine ⟨rfl, rfl, copy hb (fun h2 y2 f2 => ?_)⟩
    (conv => whnf)
    exact ⟨_, rfl, f2⟩
  (repeat (first | (refine HArith.to (e' := ((k + 1 : Nat) : Int)) (by omega) (by omega) (by omega) ?_; conv => whnf) | (refine HArith.fits (by omega) (by omega) ?_; conv => whnf) | (refine ⟨rfl, idx1 (fun p hp => ?_)⟩; conv => whnf) | (refine ⟨rfl, idx2 (fun p hp => ?_)⟩; conv => whnf) | (refine HIf.decF (by assumption) ?_; conv => whnf) | (refine HIf.decT (by assumption) ?_; conv => whnf) | (refine HIf.beqF (by assumption) ?_; conv => whnf) | (refine HIf.beqT (by assumption) ?_; conv => whnf) | (refine HIf.yes ?_; conv => whnf) | (refine HIf.no ?_; conv => whnf) | (refine ⟨rfl, At.load (by assumption) ?_⟩; conv => whnf) | (refine ⟨rfl, Ints.len (by assumption) ?_⟩; conv => whnf)))
  refine Or.inl (And.intro (show Region.lexB _ _ = true by kernel_rfl) ?_); (conv => whnf)
  (repeat (first | (refine HArith.to (e' := ((k + 1 : Nat) : Int)) (by omega) (by omega) (by omega) ?_; conv => whnf) | (refine HArith.fits (by omega) (by omega) ?_; conv => whnf) | (refine ⟨rfl, idx1 (fun p hp => ?_)⟩; conv => whnf) | (refine ⟨rfl, idx2 (fun p hp => ?_)⟩; conv => whnf) | (refine HIf.decF (by assumption) ?_; conv => whnf) | (refine HIf.decT (by assumption) ?_; conv => whnf) | (refine HIf.beqF (by assumption) ?_; conv => whnf) | (refine HIf.beqT (by assumption) ?_; conv => whnf) | (refine HIf.yes ?_; conv => whnf) | (refine HIf.no ?_; conv => whnf) | (refine ⟨rfl, At.load (by assumption) ?_⟩; conv => whnf) | (refine ⟨rfl, Ints.len (by assumption) ?_⟩; conv => whnf)))
  refine HCallQ.of (.int .i64 (bond a0 (a1.getD k 0) (a1.getD (k + 1) 0))) (spec_BondOf _ _ a0 _ _ hx0.frz (by omega)) (fun x h' hR => hR.1) ?_
  have hbl := bond_le a0 (a1.getD k 0) (a1.getD (k + 1) 0)
  obtain ⟨bd, hbd⟩ : ∃ bd, bd = bond a0 (a1.getD k 0) (a1.getD (k + 1) 0) := ⟨_, rfl⟩
  rw [← hbd] at hbl
  rw [← hbd]
  (conv => whnf)
  by_cases c4 : bd < 2
  · have hb := hok.trans (brN_small (by rw [← hbd]; exact c4))
    rw [hb]
    refine Or.inr (Or.inr (Or.inl (Exists.intro 31 (Exists.intro [0, 1, 2, 3, 4, 5, 6, 7, 8, 9, 10, 11, 12, 13, 14, 15, 16, 17, 18, 19, 20, 21, 22, 23, 24, 25, 26] (Exists.intro [27, 28, 29, 30] (And.intro (show heldOk _ _ _ _ = true by kernel_rfl) ?_)))))); (conv => whnf)
    (repeat (first | (refine HArith.fits (by omega) (by omega) ?_; conv => whnf) | (refine HIf.decF (by assumption) ?_; conv => whnf) | (refine HIf.decT (by assumption) ?_; conv => whnf) | (refine HIf.beqF (by assumption) ?_; conv => whnf) | (refine HIf.beqT (by assumption) ?_; conv => whnf) | (refine HIf.yes ?_; conv => whnf) | (refine HIf.no ?_; conv => whnf) | (refine ⟨rfl, At.load (by assumption) ?_⟩; conv => whnf) | (refine ⟨rfl, Ints.len (by assumption) ?_⟩; conv => whnf)))
    refine HLit.empty ?_
    (conv => whnf)
    refine ⟨rfl, rfl, copy hb (fun h2 y2 f2 => ?_)⟩
    (conv => whnf)
    exact ⟨_, rfl, f2⟩
  obtain ⟨m, rfl⟩ : ∃ m : Nat, bd = m := ⟨bd.toNat, by omega⟩
  by_cases c5 : (m : Int) > (a1.length : Int) - (k : Int)
  · have hb := hok.trans (brN_long (by unfold brM; rw [← hbd]; omega))
    rw [hb]
    refine Or.inr (Or.inr (Or.inl (Exists.intro 31 (Exists.intro [0, 1, 2, 3, 4, 5, 6, 7, 8, 9, 10, 11, 12, 13, 14, 15, 16, 17, 18, 19, 20, 21, 22, 23, 24, 25, 26] (Exists.intro [27, 28, 29, 30] (And.intro (show heldOk _ _ _ _ = true by kernel_rfl) ?_)))))); (conv => whnf)
    (repeat (first | (refine HArith.fits (by omega) (by omega) ?_; conv => whnf) | (refine HIf.decF (by assumption) ?_; conv => whnf) | (refine HIf.decT (by assumption) ?_; conv => whnf) | (refine HIf.beqF (by assumption) ?_; conv => whnf) | (refine HIf.beqT (by assumption) ?_; conv => whnf) | (refine HIf.yes ?_; conv => whnf) | (refine HIf.no ?_; conv => whnf) | (refine ⟨rfl, At.load (by assumption) ?_⟩; conv => whnf) | (refine ⟨rfl, Ints.len (by assumption) ?_⟩; conv => whnf)))
    refine HLit.empty ?_
    (conv => whnf)
    refine ⟨rfl, rfl, copy hb (fun h2 y2 f2 => ?_)⟩
    (conv => whnf)
    exact ⟨_, rfl, f2⟩
  obtain ⟨hm, hn⟩ := brN_of (c := a0) (w := a1) (k := k) (m := m) c3 hbd.symm (by omega) (by omega)
  rw [hn] at hok
  have ham := alt_length (i := a1.getD (k + 1) 0) (j := a1.getD k 0) (m := m) (by omega)
  have hbw : brW a0 a1 k = a1.take k ++ (alt (a1.getD (k + 1) 0) (a1.getD k 0) m ++ a1.drop (k + m)) := by rw [brW, hm]
  have hbo := fun h => braid_on (c := a0) (w := a1) (k := k) h
  rw [hbw] at hbo
  have hno := fun (h : _ = false) => hok.trans h
  rw [hok] at hbo copy ⊢
  clear hn hm hbd hbw hok
  generalize a1.getD k 0 = a at *
  generalize a1.getD (k + 1) 0 = b at *
  refine Or.inr (Or.inr (Or.inl (Exists.intro 31 (Exists.intro [0, 1, 2, 3, 4, 5, 6, 7, 8, 9, 10, 11, 12, 13, 14, 15, 16, 17, 18, 19, 20, 21, 22, 23, 24, 25, 26] (Exists.intro [27, 28, 29, 30] (And.intro (show heldOk _ _ _ _ = true by kernel_rfl) ?_)))))); (conv => whnf)
  (repeat (first | (refine HArith.to (e' := ((k + 1 : Nat) : Int)) (by omega) (by omega) (by omega) ?_; conv => whnf) | (refine HArith.to (e' := ((k + m : Nat) : Int)) (by omega) (by omega) (by omega) ?_; conv => whnf) | (refine HArith.fits (by omega) (by omega) ?_; conv => whnf) | (refine ⟨rfl, idx1 (fun p hp => ?_)⟩; conv => whnf) | (refine ⟨rfl, idx2 (fun p hp => ?_)⟩; conv => whnf) | (refine HIf.decF (by assumption) ?_; conv => whnf) | (refine HIf.decT (by assumption) ?_; conv => whnf) | (refine HIf.beqF (by assumption) ?_; conv => whnf) | (refine HIf.beqT (by assumption) ?_; conv => whnf) | (refine HIf.yes ?_; conv => whnf) | (refine HIf.no ?_; conv => whnf) | (refine ⟨rfl, At.load (by assumption) ?_⟩; conv => whnf) | (refine ⟨rfl, Ints.len (by assumption) ?_⟩; conv => whnf)))
  refine ⟨rfl, Ints.slice hx1 k (k + m) (Or.inr rfl) (Or.inr rfl) (by omega) (by omega) (fun y1 hy1 => ?_)⟩
  (conv => whnf)
  (repeat (first | (refine HArith.to (e' := ((k + 1 : Nat) : Int)) (by omega) (by omega) (by omega) ?_; conv => whnf) | (refine HArith.to (e' := ((k + m : Nat) : Int)) (by omega) (by omega) (by omega) ?_; conv => whnf) | (refine HArith.fits (by omega) (by omega) ?_; conv => whnf) | (refine ⟨rfl, idx1 (fun p hp => ?_)⟩; conv => whnf) | (refine ⟨rfl, idx2 (fun p hp => ?_)⟩; conv => whnf) | (refine HIf.decF (by assumption) ?_; conv => whnf) | (refine HIf.decT (by assumption) ?_; conv => whnf) | (refine HIf.beqF (by assumption) ?_; conv => whnf) | (refine HIf.beqT (by assumption) ?_; conv => whnf) | (refine HIf.yes ?_; conv => whnf) | (refine HIf.no ?_; conv => whnf) | (refine ⟨rfl, At.load (by assumption) ?_⟩; conv => whnf) | (refine ⟨rfl, Ints.len (by assumption) ?_⟩; conv => whnf)))
  refine HCallF.fresh (spec_AlternatingWord _ a b (m : Int)) (fun h2 y2 f2 => ?_)
  (conv => whnf)
  (repeat (first | (refine HArith.to (e' := ((k + 1 : Nat) : Int)) (by omega) (by omega) (by omega) ?_; conv => whnf) | (refine HArith.to (e' := ((k + m : Nat) : Int)) (by omega) (by omega) (by omega) ?_; conv => whnf) | (refine HArith.fits (by omega) (by omega) ?_; conv => whnf) | (refine ⟨rfl, idx1 (fun p hp => ?_)⟩; conv => whnf) | (refine ⟨rfl, idx2 (fun p hp => ?_)⟩; conv => whnf) | (refine HIf.decF (by assumption) ?_; conv => whnf) | (refine HIf.decT (by assumption) ?_; conv => whnf) | (refine HIf.beqF (by assumption) ?_; conv => whnf) | (refine HIf.beqT (by assumption) ?_; conv => whnf) | (refine HIf.yes ?_; conv => whnf) | (refine HIf.no ?_; conv => whnf) | (refine ⟨rfl, At.load (by assumption) ?_⟩; conv => whnf) | (refine ⟨rfl, Ints.len (by assumption) ?_⟩; conv => whnf)))
  refine HCallF.same (B (decide ((a1.take (k + m)).drop k = alt a b (m : Int)))) (spec_EqualWords _ _ _ _ _ (hy1.ext f2.1).frz f2.ints.frz (by simp; omega)) (fun x h' hR => hR) ?_
  (conv => whnf)
  (repeat (first | (refine HArith.to (e' := ((k + 1 : Nat) : Int)) (by omega) (by omega) (by omega) ?_; conv => whnf) | (refine HArith.to (e' := ((k + m : Nat) : Int)) (by omega) (by omega) (by omega) ?_; conv => whnf) | (refine HArith.fits (by omega) (by omega) ?_; conv => whnf) | (refine ⟨rfl, idx1 (fun p hp => ?_)⟩; conv => whnf) | (refine ⟨rfl, idx2 (fun p hp => ?_)⟩; conv => whnf) | (refine HIf.decF (by assumption) ?_; conv => whnf) | (refine HIf.decT (by assumption) ?_; conv => whnf) | (refine HIf.beqF (by assumption) ?_; conv => whnf) | (refine HIf.beqT (by assumption) ?_; conv => whnf) | (refine HIf.yes ?_; conv => whnf) | (refine HIf.no ?_; conv => whnf) | (refine ⟨rfl, At.load (by assumption) ?_⟩; conv => whnf) | (refine ⟨rfl, Ints.len (by assumption) ?_⟩; conv => whnf)))
  refine HIf.bnot (HIf.dec (fun heq => ?_) (fun hne => ?_))
  · rw [decide_eq_true heq] at hbo ⊢
    have hbo := hbo rfl
    rw [hbo]
    have hx2 := hx1.ext f2.1
    have idx5 : ∀ {K : HV → Prop}, (∀ p, At h2 p (ci a) → K (.s p)) → HIdx h2 (.s x1) (I k) K := fun hK => idx3 f2.1 hK
    have idx6 : ∀ {K : HV → Prop}, (∀ p, At h2 p (ci b) → K (.s p)) → HIdx h2 (.s x1) (I ((k + 1 : Nat) : Int)) K := fun hK => idx4 f2.1 hK
    clear idx1 idx2 idx3 idx4
    (conv => whnf)
    refine Or.inr (Or.inr (Or.inl (Exists.intro 23 (Exists.intro [0, 1, 2, 3, 4, 5, 6, 7, 8, 9, 10, 11, 12, 15, 16, 17, 18, 19] (Exists.intro [13, 14, 20, 21, 22] (And.intro (show heldOk _ _ _ _ = true by kernel_rfl) ?_)))))); (conv => whnf)
    refine ⟨rfl, Ints.take hx2 k (by omega) (fun y3 hy3 => ?_)⟩
    (conv => whnf)
    (repeat (first | (refine HArith.to (e' := ((k + 1 : Nat) : Int)) (by omega) (by omega) (by omega) ?_; conv => whnf) | (refine HArith.fits (by omega) (by omega) ?_; conv => whnf) | (refine ⟨rfl, idx5 (fun p hp => ?_)⟩; conv => whnf) | (refine ⟨rfl, idx6 (fun p hp => ?_)⟩; conv => whnf) | (refine HIf.decF (by assumption) ?_; conv => whnf) | (refine HIf.decT (by assumption) ?_; conv => whnf) | (refine HIf.beqF (by assumption) ?_; conv => whnf) | (refine HIf.beqT (by assumption) ?_; conv => whnf) | (refine HIf.yes ?_; conv => whnf) | (refine HIf.no ?_; conv => whnf) | (refine ⟨rfl, At.load (by assumption) ?_⟩; conv => whnf) | (refine ⟨rfl, Ints.len (by assumption) ?_⟩; conv => whnf)))
    refine ⟨rfl, Ints.slice hx2 (k + m) a1.length (Or.inr rfl) (Or.inl ⟨rfl, rfl⟩) (by omega) (Nat.le_refl _) (fun y4 hy4 => ?_)⟩
    rw [List.take_length] at hy4
    (conv => whnf)
    refine HCallF.fresh (spec_AlternatingWord _ b a (m : Int)) (fun h5 y5 f5 => ?_)
    have hlt : (a1.take k).length ≤ 15 := by simp; omega
    have hld : (a1.drop (k + m)).length ≤ 15 := by simp; omega
    (conv => whnf)
    refine HCallF.fresh (spec_ConcatWords _ _ _ _ _ (hy3.ext f5.1).frz f5.ints.frz (by omega) (by omega)) (fun h6 y6 f6 => ?_)
    have E6 := f5.1.trans f6.1
    (conv => whnf)
    refine HCallF.fresh (spec_ConcatWords _ _ _ _ _ f6.ints.frz (hy4.ext E6).frz (by rw [List.length_append]; omega) (by omega)) (fun h7 y7 f7 => ?_)
    rw [List.append_assoc] at f7
    have hz := Fresh.inner (f2.1.trans E6) f7
    (conv => whnf)
    exact ⟨_, rfl, Fresh.of hz.1 hz.2⟩
  · rw [decide_eq_false hne] at copy ⊢
    (conv => whnf)
    refine HLit.empty ?_
    have E2 := f2.1
    have hE2 := E2.1
    have hb := hno (decide_eq_false hne)
    (conv => whnf)
    refine ⟨rfl, rfl, HApp.copy (hx1.ext E2) (by omega) (fun h3 y3 E3 O3 => ?_)⟩
    obtain ⟨q, hq1, hq2, Oq⟩ := O3.row
    rw [braid_off hb]
    (conv => whnf)
    exact ⟨_, rfl, Fresh.ofRow (E2.trans E3) Oq (by omega)⟩

theorem spec_BraidAt (h : Heap) (x0 : H0) (a0 : List (List Int)) (x1 : H0) (a1 : List Int) (n2 : Int) (hx0 : Rows h x0 a0) (hx1 : Ints h x1 a1) (s0 : a0.length ≤ 1048576 ∧ tot a0 ≤ 1048576) (s1 : a1.length ≤ 1048576) (_s2 : -9223372036854775808 ≤ n2 ∧ n2 ≤ 9223372036854775807) :
    HCalls dm Try.prog 81 [.s x0, .s x1, I n2] h (fun r h' => ∃ y, r = T2 y (brOk a0 a1 n2) ∧ Fresh h h' y (braid a0 a1 n2)) := spec_BraidAt0 h x0 a0 x1 a1 n2 hx0 hx1 s0 s1

end Go.Proofs.Ytkkniibnlniflaa.Hx

namespace Go.Proofs.Ytkkniibnlniflaa.Hx
open Go.RowKit
variable {dm : Bool}

theorem ap_none {c : List (List Int)} {w l : List Int} (h : braids c w l = none) : apOk c w l = false ∧ apW c w l = w := by simp [apOk, apW, h]
theorem ap_off {c : List (List Int)} {w l : List Int} (h : isWord c w = false) : apOk c w l = false ∧ apW c w l = w := by
  refine ⟨by simp [apOk, h], ?_⟩
  match l with
  | [] => rfl
  | n :: l => exact (ap_none (braids_word (l := n :: l) (by simp) h)).2
theorem ap_some {c : List (List Int)} {w l x : List Int} (h : braids c w l = some x) : apOk c w l = isWord c w ∧ apW c w l = x := by simp [apOk, apW, h]


theorem spec_BraidPlaces (h : Heap) (x0 : H0) (a0 : List (List Int)) (x1 : H0) (a1 : List Int) (hx0 : Rows h x0 a0) (hx1 : Ints h x1 a1) (s0 : a0.length ≤ 1048576 ∧ tot a0 ≤ 1048576) (s1 : a1.length ≤ 1048576) :
    HCalls dm Try.prog 80 [.s x0, .s x1] h (fun r h' => ∃ y, r = .s y ∧ Fresh h h' y (brTo a0 a1 a1.length)) := by
  have E0 := Ext.push h [Row.own []]
  have O0 := OwnR.push h []
  refine calls_of_hFun (m := 0) kd_ok mixed Try.func80 rfl (by kernel_rfl) rfl rfl (of_decide_eq_true rfl) ?_; unfold hFun; (conv => whnf)
  refine HLit.empty ?_
  (conv => whnf)
  refine HLoop.intro [6, 5] [10, 11, 12, 13, 17, 18, 19, 20, 16, 21, 22, 7, 8, 23, 24, 25, 26, 27, 5, 14, 15, 6] (by kernel_rfl) (by kernel_rfl) (fun vs h' => ∃ (k : Nat) (z : H0) (r : Nat), vs = [I k, .s z] ∧ k ≤ a1.length ∧ Ext h h' ∧ h.length ≤ r ∧ OwnR r h' z (brTo a0 a1 k)) (fun vs _ => a1.length - natAt vs 0) ⟨0, _, h.length, rfl, by omega, E0, Nat.le_refl _, O0⟩ ?_
  rintro vs h' ⟨k, z, r, rfl, hk, E, hr, O⟩
  have hbl := brTo_le a0 a1 k
  have hx11 := hx1.ext E
  (conv => whnf)
  refine ⟨rfl, hx11.len ?_⟩
  (conv => whnf)
  refine HIf.dec (fun hlt => ?_) (fun hge => ?_)
  · (conv => whnf)
    refine (spec_BraidAt0 _ _ a0 _ a1 (k : Int) (hx0.ext E) (hx1.ext E) s0 s1).mono ?_
    rintro r2 h2 ⟨y2, rfl, f2⟩
    have E2 := E.trans f2.1
    have hE2 := E2.1
    have O2 := O.ext f2.1
    cases hb : brOk a0 a1 k
    · rw [← brTo_out hb] at O2
      (conv => whnf)
      refine HIf.no ?_
      (conv => whnf)
      refine HArith.fits (by omega) (by omega) ?_
      (conv => whnf)
      exact ⟨⟨k + 1, z, r, rfl, by omega, E2, hr, O2⟩, by show a1.length - (k + 1) < a1.length - k; omega⟩
    · (conv => whnf)
      refine HIf.yes ?_
      (conv => whnf)
      refine HLit.one ?_
      (conv => whnf)
      refine ⟨rfl, rfl, HApp.snocR O2 (by omega) (fun h3 r3 y3 B3 hr3 O3 => ?_)⟩
      rw [← brTo_in hb] at O3
      (conv => whnf)
      refine HArith.fits (by omega) (by omega) ?_
      (conv => whnf)
      exact ⟨⟨k + 1, y3, r3, rfl, by omega, E2.but B3 hr, by omega, O3⟩, by show a1.length - (k + 1) < a1.length - k; omega⟩
  · have e : k = a1.length := by omega
    subst e
    (conv => whnf)
    exact ⟨_, rfl, Fresh.ofRow E O hr⟩

end Go.Proofs.Ytkkniibnlniflaa.Hx
