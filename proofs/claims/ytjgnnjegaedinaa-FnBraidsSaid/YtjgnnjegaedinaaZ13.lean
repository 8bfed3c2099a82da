/-
  Contracts of bonds, alternating words and braid moves, of the program and of the reference.
  Reduced words on lists: braid moves keep the element and join all its reduced words; the list of all of them in the order of letters. Plain theory.
-/
import Derived.Test.YtjgnnjegaedinaaZ12
namespace Go.Proofs.Ytjgnnjegaedinaa.Hx
open Go.RowKit
variable {dm : Bool}

def bondN (p : Int) : Int := if p = 0 then 2 else if p = 1 then 3 else if p = 2 then 4 else if p = 3 then 6 else 0
def bond (c : List (List Int)) (i j : Int) : Int := if isCartan c && isPoint c i && isPoint c j then (if i = j then 1 else bondN (w64 (ent c i.toNat j.toNat * ent c j.toNat i.toNat))) else -1
theorem bond_off {c : List (List Int)} {i j : Int} (h : isCartan c = false ∨ isPoint c i = false ∨ isPoint c j = false) : bond c i j = -1 := by
  rcases h with h | h | h <;> simp [bond, h]
theorem bond_eq {c : List (List Int)} {i j : Int} (h1 : isCartan c = true) (h2 : isPoint c i = true) (h3 : isPoint c j = true) (h : i = j) : bond c i j = 1 := by
  have h4 : isPoint c j = true := h3
  subst h
  simp [bond, h1, h2]
theorem bond_ne {c : List (List Int)} {i j : Int} (h1 : isCartan c = true) (h2 : isPoint c i = true) (h3 : isPoint c j = true) (h : i ≠ j) : bond c i j = bondN (w64 (ent c i.toNat j.toNat * ent c j.toNat i.toNat)) := by simp [bond, h1, h2, h3, h]
theorem bondN_0 {p : Int} (h : p = 0) : bondN p = 2 := by simp [bondN, h]
theorem bondN_1 {p : Int} (h : p = 1) : bondN p = 3 := by simp [bondN, h]
theorem bondN_2 {p : Int} (h : p = 2) : bondN p = 4 := by simp [bondN, h]
theorem bondN_3 {p : Int} (h : p = 3) : bondN p = 6 := by simp [bondN, h]
theorem bondN_4 {p : Int} (h0 : p ≠ 0) (h1 : p ≠ 1) (h2 : p ≠ 2) (h3 : p ≠ 3) : bondN p = 0 := by simp [bondN, h0, h1, h2, h3]
theorem bond_le (c : List (List Int)) (i j : Int) : -1 ≤ bond c i j ∧ bond c i j ≤ 6 := by
  unfold bond bondN
  split
  · split
    · omega
    · split
      · omega
      · split
        · omega
        · split
          · omega
          · split <;> omega
  · omega

/-- Two letters in turn. -/
def altTo (i j : Int) (k : Nat) : List Int := (List.range k).map fun t => if t % 2 = 0 then i else j
def alt (i j n : Int) : List Int := altTo i j (min n.toNat 15)
theorem altTo_len (i j : Int) (k : Nat) : (altTo i j k).length = k := by simp [altTo]
theorem altTo_none (i j : Int) : altTo i j 0 = [] := rfl
theorem altTo_succ (i j : Int) (k : Nat) : altTo i j (k + 1) = altTo i j k ++ [if k % 2 = 0 then i else j] := by
  unfold altTo
  rw [List.range_succ, List.map_append]
  rfl
theorem altTo_even {i j : Int} {k : Nat} (h : (k : Int).tmod 2 = 0) : altTo i j (k + 1) = altTo i j k ++ [i] := by
  have e : (k : Int).tmod 2 = ((k % 2 : Nat) : Int) := rfl
  rw [altTo_succ, if_pos (by omega)]
theorem altTo_odd {i j : Int} {k : Nat} (h : (k : Int).tmod 2 ≠ 0) : altTo i j (k + 1) = altTo i j k ++ [j] := by
  have e : (k : Int).tmod 2 = ((k % 2 : Nat) : Int) := rfl
  rw [altTo_succ, if_neg (by omega)]
theorem alt_len (i j n : Int) : (alt i j n).length ≤ 15 := by
  unfold alt
  rw [altTo_len]
  omega
theorem alt_length {i j : Int} {m : Nat} (h : m ≤ 15) : (alt i j m).length = m := by
  unfold alt
  rw [altTo_len]
  omega
theorem alt_of {i j n : Int} {k : Nat} (h : min n.toNat 15 = k) : alt i j n = altTo i j k := by
  unfold alt
  rw [h]

/-- A braid move can be made at place k; it is made. -/
def brM (c : List (List Int)) (w : List Int) (k : Nat) : Nat := (bond c (w.getD k 0) (w.getD (k + 1) 0)).toNat
def brN (c : List (List Int)) (w : List Int) (k : Nat) : Bool :=
  decide (w.getD k 0 ≠ w.getD (k + 1) 0) && decide (2 ≤ bond c (w.getD k 0) (w.getD (k + 1) 0)) && decide (k + brM c w k ≤ w.length) &&
    decide ((w.take (k + brM c w k)).drop k = alt (w.getD k 0) (w.getD (k + 1) 0) (brM c w k))
def brW (c : List (List Int)) (w : List Int) (k : Nat) : List Int := w.take k ++ (alt (w.getD (k + 1) 0) (w.getD k 0) (brM c w k) ++ w.drop (k + brM c w k))
def brOk (c : List (List Int)) (w : List Int) (n : Int) : Bool := isWord c w && (decide (0 ≤ n) && decide (n ≤ (w.length : Int) - 2)) && brN c w n.toNat
def braid (c : List (List Int)) (w : List Int) (n : Int) : List Int := if brOk c w n then brW c w n.toNat else w

theorem brOk_off {c : List (List Int)} {w : List Int} {n : Int} (h : isWord c w = false ∨ n < 0 ∨ n > (w.length : Int) - 2) : brOk c w n = false := by
  rcases h with h | h | h
  · simp [brOk, h]
  · have : decide (0 ≤ n) = false := decide_eq_false (by omega)
    simp [brOk, this]
  · have : decide (n ≤ (w.length : Int) - 2) = false := decide_eq_false (by omega)
    simp [brOk, this]
theorem brOk_at {c : List (List Int)} {w : List Int} {k : Nat} (h : isWord c w = true) (h2 : k + 2 ≤ w.length) : brOk c w k = brN c w k := by
  have h3 : decide ((k : Int) ≤ (w.length : Int) - 2) = true := decide_eq_true (by omega)
  simp [brOk, h, h3]
theorem braid_off {c : List (List Int)} {w : List Int} {n : Int} (h : brOk c w n = false) : braid c w n = w := by simp [braid, h]
theorem braid_on {c : List (List Int)} {w : List Int} {k : Nat} (h : brOk c w k = true) : braid c w k = brW c w k := by simp [braid, h]
theorem brN_eq {c : List (List Int)} {w : List Int} {k : Nat} (h : w.getD k 0 = w.getD (k + 1) 0) : brN c w k = false := by
  have : decide (w.getD k 0 ≠ w.getD (k + 1) 0) = false := decide_eq_false (fun hn => hn h)
  simp only [brN, this, Bool.false_and]
theorem brN_small {c : List (List Int)} {w : List Int} {k : Nat} (h : bond c (w.getD k 0) (w.getD (k + 1) 0) < 2) : brN c w k = false := by
  have : decide (2 ≤ bond c (w.getD k 0) (w.getD (k + 1) 0)) = false := decide_eq_false (by omega)
  simp only [brN, this, Bool.and_false, Bool.false_and]
theorem brN_long {c : List (List Int)} {w : List Int} {k : Nat} (h : ¬ k + brM c w k ≤ w.length) : brN c w k = false := by
  simp only [brN, h, decide_false, Bool.and_false, Bool.false_and]
theorem brN_of {c : List (List Int)} {w : List Int} {k m : Nat} (h1 : w.getD k 0 ≠ w.getD (k + 1) 0) (h2 : bond c (w.getD k 0) (w.getD (k + 1) 0) = m) (h3 : 2 ≤ m) (h4 : k + m ≤ w.length) :
    brM c w k = m ∧ brN c w k = decide ((w.take (k + m)).drop k = alt (w.getD k 0) (w.getD (k + 1) 0) m) := by
  have e : brM c w k = m := by
    unfold brM
    rw [h2]
    omega
  refine ⟨e, ?_⟩
  have d1 : decide (w.getD k 0 ≠ w.getD (k + 1) 0) = true := decide_eq_true h1
  have d2 : decide (2 ≤ bond c (w.getD k 0) (w.getD (k + 1) 0)) = true := decide_eq_true (by rw [h2]; omega)
  have d3 : decide (k + brM c w k ≤ w.length) = true := decide_eq_true (by rw [e]; exact h4)
  unfold brN
  rw [d1, d2, d3, e]
  rfl
theorem brW_len {c : List (List Int)} {w : List Int} {k : Nat} (h : isWord c w = true) (h2 : brN c w k = true) : (brW c w k).length = w.length := by
  have hl := (word_cartan h).2.1
  simp only [brN, Bool.and_eq_true, decide_eq_true_eq] at h2
  have h3 := h2.1.2
  unfold brW
  have := alt_length (i := w.getD (k + 1) 0) (j := w.getD k 0) (m := brM c w k) (by omega)
  simp only [List.length_append, List.length_take, List.length_drop, this]
  omega
theorem braid_len (c : List (List Int)) (w : List Int) (n : Int) : (braid c w n).length ≤ w.length + 15 := by
  unfold braid
  split
  · unfold brW
    have := alt_len (w.getD (n.toNat + 1) 0) (w.getD n.toNat 0) (brM c w n.toNat)
    simp only [List.length_append, List.length_take, List.length_drop]
    omega
  · omega
theorem letter_point {c : List (List Int)} {w : List Int} (h : lettersOk c w = true) {k : Nat} (hk : k < w.length) : isPoint c (w.getD k 0) = true := by
  have := List.all_eq_true.1 h w[k] (List.getElem_mem hk)
  simpa [List.getD, hk] using this
theorem flat3 (a b c : List Int) : [a, b, c].flatten = a ++ (b ++ c) := by simp
theorem tot3 (a b c : List Int) : tot [a, b, c] = a.length + (b.length + c.length) := by simp [tot]
theorem one3 {x y z : H0} (hx : x.one = true) (hy : y.one = true) (hz : z.one = true) : ∀ c ∈ [x, y, z], c.one = true := by
  intro c hc
  simp only [List.mem_cons, List.not_mem_nil, or_false] at hc
  rcases hc with rfl | rfl | rfl
  · exact hx
  · exact hy
  · exact hz

theorem iEq {a b : Int} (h : b = a) : I a = I b := by rw [h]


theorem impl_BondOf (h : Heap) (x : H0) (c : List (List Int)) (i j : Int) (hx : Rows h x c) (hcl : c.length ≤ 1048576) : HCalls dm Try.prog 80 [.s x, I i, I j] h (fun r h' => r = I (bond c i j) ∧ h' = h) := by
  obtain ⟨v, hv⟩ : ∃ v, v = bond c i j := ⟨_, rfl⟩
  rw [← hv]
  refine calls_of_hFun (m := 0) kd_ok mixed Try.func80 rfl (by kernel_rfl) rfl rfl (of_decide_eq_true rfl) ?_; unfold hFun; (conv => whnf)
  refine (impl_IsCartan _ _ _ hx (by omega)).mono ?_
  rintro r h' ⟨rfl, rfl⟩
  (conv => whnf)
  cases hic : isCartan c
  · (repeat (first | (refine ⟨rfl, Ints.len (by assumption) ?_⟩; conv => whnf) | (refine ⟨rfl, Rows.len (by assumption) ?_⟩; conv => whnf) | (refine ⟨rfl, HLen.sl ?_⟩; conv => whnf) | (refine ⟨rfl, At.load (by assumption) ?_⟩; conv => whnf) | (refine HIf.yes ?_; conv => whnf) | (refine HIf.no ?_; conv => whnf) | (refine HIf.isT (by assumption) ?_; conv => whnf) | (refine HIf.isF (by assumption) ?_; conv => whnf) | (refine HIf.decT (by assumption) ?_; conv => whnf) | (refine HIf.decF (by assumption) ?_; conv => whnf) | (refine HIf.beqT (by assumption) ?_; conv => whnf) | (refine HIf.beqF (by assumption) ?_; conv => whnf) | (refine HIf.bneT (by assumption) ?_; conv => whnf) | (refine HIf.bneF (by assumption) ?_; conv => whnf) | (refine ⟨rfl, Ints.idxN (by assumption) (by omega) (fun p hp => ?_)⟩; conv => whnf) | (refine ⟨rfl, Rows.idxN (by assumption) (by omega) (fun p y hp hy => ?_)⟩; conv => whnf) | (refine And.intro (show Kd.isBool _ = true from rfl) ?_; conv => whnf) | (refine ⟨rfl, Ints.idx (by assumption) (by omega) (by omega) (fun p hp => ?_)⟩; conv => whnf) | (refine ⟨rfl, Rows.idx (by assumption) (by omega) (by omega) (fun p y hp hy => ?_)⟩; conv => whnf) | (refine HArith.fits (by omega) (by omega) ?_; conv => whnf) | (refine Or.inl (And.intro (show Region.lexB _ _ = true by kernel_rfl) ?_); conv => whnf)))
    exact ⟨iEq (by rw [hv, bond_off (Or.inl hic)]), rfl⟩
  (repeat (first | (refine ⟨rfl, Ints.len (by assumption) ?_⟩; conv => whnf) | (refine ⟨rfl, Rows.len (by assumption) ?_⟩; conv => whnf) | (refine ⟨rfl, HLen.sl ?_⟩; conv => whnf) | (refine ⟨rfl, At.load (by assumption) ?_⟩; conv => whnf) | (refine HIf.yes ?_; conv => whnf) | (refine HIf.no ?_; conv => whnf) | (refine HIf.isT (by assumption) ?_; conv => whnf) | (refine HIf.isF (by assumption) ?_; conv => whnf) | (refine HIf.decT (by assumption) ?_; conv => whnf) | (refine HIf.decF (by assumption) ?_; conv => whnf) | (refine HIf.beqT (by assumption) ?_; conv => whnf) | (refine HIf.beqF (by assumption) ?_; conv => whnf) | (refine HIf.bneT (by assumption) ?_; conv => whnf) | (refine HIf.bneF (by assumption) ?_; conv => whnf) | (refine ⟨rfl, Ints.idxN (by assumption) (by omega) (fun p hp => ?_)⟩; conv => whnf) | (refine ⟨rfl, Rows.idxN (by assumption) (by omega) (fun p y hp hy => ?_)⟩; conv => whnf) | (refine And.intro (show Kd.isBool _ = true from rfl) ?_; conv => whnf) | (refine ⟨rfl, Ints.idx (by assumption) (by omega) (by omega) (fun p hp => ?_)⟩; conv => whnf) | (refine ⟨rfl, Rows.idx (by assumption) (by omega) (by omega) (fun p y hp hy => ?_)⟩; conv => whnf) | (refine HArith.fits (by omega) (by omega) ?_; conv => whnf) | (refine Or.inl (And.intro (show Region.lexB _ _ = true by kernel_rfl) ?_); conv => whnf)))
  refine (impl_isPoint _ _ _ _ hx).mono ?_
  rintro r h' ⟨rfl, rfl⟩
  (conv => whnf)
  cases hip : isPoint c i
  · (repeat (first | (refine ⟨rfl, Ints.len (by assumption) ?_⟩; conv => whnf) | (refine ⟨rfl, Rows.len (by assumption) ?_⟩; conv => whnf) | (refine ⟨rfl, HLen.sl ?_⟩; conv => whnf) | (refine ⟨rfl, At.load (by assumption) ?_⟩; conv => whnf) | (refine HIf.yes ?_; conv => whnf) | (refine HIf.no ?_; conv => whnf) | (refine HIf.isT (by assumption) ?_; conv => whnf) | (refine HIf.isF (by assumption) ?_; conv => whnf) | (refine HIf.decT (by assumption) ?_; conv => whnf) | (refine HIf.decF (by assumption) ?_; conv => whnf) | (refine HIf.beqT (by assumption) ?_; conv => whnf) | (refine HIf.beqF (by assumption) ?_; conv => whnf) | (refine HIf.bneT (by assumption) ?_; conv => whnf) | (refine HIf.bneF (by assumption) ?_; conv => whnf) | (refine ⟨rfl, Ints.idxN (by assumption) (by omega) (fun p hp => ?_)⟩; conv => whnf) | (refine ⟨rfl, Rows.idxN (by assumption) (by omega) (fun p y hp hy => ?_)⟩; conv => whnf) | (refine And.intro (show Kd.isBool _ = true from rfl) ?_; conv => whnf) | (refine ⟨rfl, Ints.idx (by assumption) (by omega) (by omega) (fun p hp => ?_)⟩; conv => whnf) | (refine ⟨rfl, Rows.idx (by assumption) (by omega) (by omega) (fun p y hp hy => ?_)⟩; conv => whnf) | (refine HArith.fits (by omega) (by omega) ?_; conv => whnf) | (refine Or.inl (And.intro (show Region.lexB _ _ = true by kernel_rfl) ?_); conv => whnf)))
    exact ⟨iEq (by rw [hv, bond_off (Or.inr (Or.inl hip))]), rfl⟩
  (repeat (first | (refine ⟨rfl, Ints.len (by assumption) ?_⟩; conv => whnf) | (refine ⟨rfl, Rows.len (by assumption) ?_⟩; conv => whnf) | (refine ⟨rfl, HLen.sl ?_⟩; conv => whnf) | (refine ⟨rfl, At.load (by assumption) ?_⟩; conv => whnf) | (refine HIf.yes ?_; conv => whnf) | (refine HIf.no ?_; conv => whnf) | (refine HIf.isT (by assumption) ?_; conv => whnf) | (refine HIf.isF (by assumption) ?_; conv => whnf) | (refine HIf.decT (by assumption) ?_; conv => whnf) | (refine HIf.decF (by assumption) ?_; conv => whnf) | (refine HIf.beqT (by assumption) ?_; conv => whnf) | (refine HIf.beqF (by assumption) ?_; conv => whnf) | (refine HIf.bneT (by assumption) ?_; conv => whnf) | (refine HIf.bneF (by assumption) ?_; conv => whnf) | (refine ⟨rfl, Ints.idxN (by assumption) (by omega) (fun p hp => ?_)⟩; conv => whnf) | (refine ⟨rfl, Rows.idxN (by assumption) (by omega) (fun p y hp hy => ?_)⟩; conv => whnf) | (refine And.intro (show Kd.isBool _ = true from rfl) ?_; conv => whnf) | (refine ⟨rfl, Ints.idx (by assumption) (by omega) (by omega) (fun p hp => ?_)⟩; conv => whnf) | (refine ⟨rfl, Rows.idx (by assumption) (by omega) (by omega) (fun p y hp hy => ?_)⟩; conv => whnf) | (refine HArith.fits (by omega) (by omega) ?_; conv => whnf) | (refine Or.inl (And.intro (show Region.lexB _ _ = true by kernel_rfl) ?_); conv => whnf)))
  refine (impl_isPoint _ _ _ _ hx).mono ?_
  rintro r h' ⟨rfl, rfl⟩
  (conv => whnf)
  cases hjp : isPoint c j
  · (repeat (first | (refine ⟨rfl, Ints.len (by assumption) ?_⟩; conv => whnf) | (refine ⟨rfl, Rows.len (by assumption) ?_⟩; conv => whnf) | (refine ⟨rfl, HLen.sl ?_⟩; conv => whnf) | (refine ⟨rfl, At.load (by assumption) ?_⟩; conv => whnf) | (refine HIf.yes ?_; conv => whnf) | (refine HIf.no ?_; conv => whnf) | (refine HIf.isT (by assumption) ?_; conv => whnf) | (refine HIf.isF (by assumption) ?_; conv => whnf) | (refine HIf.decT (by assumption) ?_; conv => whnf) | (refine HIf.decF (by assumption) ?_; conv => whnf) | (refine HIf.beqT (by assumption) ?_; conv => whnf) | (refine HIf.beqF (by assumption) ?_; conv => whnf) | (refine HIf.bneT (by assumption) ?_; conv => whnf) | (refine HIf.bneF (by assumption) ?_; conv => whnf) | (refine ⟨rfl, Ints.idxN (by assumption) (by omega) (fun p hp => ?_)⟩; conv => whnf) | (refine ⟨rfl, Rows.idxN (by assumption) (by omega) (fun p y hp hy => ?_)⟩; conv => whnf) | (refine And.intro (show Kd.isBool _ = true from rfl) ?_; conv => whnf) | (refine ⟨rfl, Ints.idx (by assumption) (by omega) (by omega) (fun p hp => ?_)⟩; conv => whnf) | (refine ⟨rfl, Rows.idx (by assumption) (by omega) (by omega) (fun p y hp hy => ?_)⟩; conv => whnf) | (refine HArith.fits (by omega) (by omega) ?_; conv => whnf) | (refine Or.inl (And.intro (show Region.lexB _ _ = true by kernel_rfl) ?_); conv => whnf)))
    exact ⟨iEq (by rw [hv, bond_off (Or.inr (Or.inr hjp))]), rfl⟩
  by_cases hij : i = j
  · (repeat (first | (refine ⟨rfl, Ints.len (by assumption) ?_⟩; conv => whnf) | (refine ⟨rfl, Rows.len (by assumption) ?_⟩; conv => whnf) | (refine ⟨rfl, HLen.sl ?_⟩; conv => whnf) | (refine ⟨rfl, At.load (by assumption) ?_⟩; conv => whnf) | (refine HIf.yes ?_; conv => whnf) | (refine HIf.no ?_; conv => whnf) | (refine HIf.isT (by assumption) ?_; conv => whnf) | (refine HIf.isF (by assumption) ?_; conv => whnf) | (refine HIf.decT (by assumption) ?_; conv => whnf) | (refine HIf.decF (by assumption) ?_; conv => whnf) | (refine HIf.beqT (by assumption) ?_; conv => whnf) | (refine HIf.beqF (by assumption) ?_; conv => whnf) | (refine HIf.bneT (by assumption) ?_; conv => whnf) | (refine HIf.bneF (by assumption) ?_; conv => whnf) | (refine ⟨rfl, Ints.idxN (by assumption) (by omega) (fun p hp => ?_)⟩; conv => whnf) | (refine ⟨rfl, Rows.idxN (by assumption) (by omega) (fun p y hp hy => ?_)⟩; conv => whnf) | (refine And.intro (show Kd.isBool _ = true from rfl) ?_; conv => whnf) | (refine ⟨rfl, Ints.idx (by assumption) (by omega) (by omega) (fun p hp => ?_)⟩; conv => whnf) | (refine ⟨rfl, Rows.idx (by assumption) (by omega) (by omega) (fun p y hp hy => ?_)⟩; conv => whnf) | (refine HArith.fits (by omega) (by omega) ?_; conv => whnf) | (refine Or.inl (And.intro (show Region.lexB _ _ = true by kernel_rfl) ?_); conv => whnf)))
    exact ⟨iEq (by rw [hv, bond_eq hic hip hjp hij]), rfl⟩
  have hC := (isCartan_iff c).1 hic
  have p1 := point_of hip
  have p2 := point_of hjp
  have r1 := hC.row i.toNat (by omega)
  have r2 := hC.row j.toNat (by omega)
  obtain ⟨a, rfl⟩ : ∃ a : Nat, i = a := ⟨i.toNat, by omega⟩
  obtain ⟨b, rfl⟩ : ∃ b : Nat, j = b := ⟨j.toNat, by omega⟩
  have ea : (a : Int).toNat = a := by omega
  have eb : (b : Int).toNat = b := by omega
  rw [ea] at r1
  rw [eb] at r2
  have key : v = bondN (w64 (ent c a b * ent c b a)) := by rw [hv, bond_ne hic hip hjp hij, ea, eb]
  (repeat (first | (refine HIf.yes ?_; conv => whnf) | (refine HIf.no ?_; conv => whnf) | (refine HIf.beqF (by assumption) ?_; conv => whnf)))
  refine Or.inl (And.intro (show Region.lexB _ _ = true by kernel_rfl) ?_); (conv => whnf)
  refine ⟨rfl, Rows.idxN hx (by omega) (fun p z hp hz => ?_)⟩
  (conv => whnf)
  refine ⟨rfl, hp.load ?_⟩
  (conv => whnf)
  refine ⟨rfl, Ints.idxN hz (by omega) (fun q hq => ?_)⟩
  (conv => whnf)
  refine ⟨rfl, hq.load ?_⟩
  (conv => whnf)
  refine ⟨rfl, Rows.idxN hx (by omega) (fun p3 z3 hp3 hz3 => ?_)⟩
  (conv => whnf)
  refine ⟨rfl, hp3.load ?_⟩
  (conv => whnf)
  refine ⟨rfl, Ints.idxN hz3 (by omega) (fun q3 hq3 => ?_)⟩
  (conv => whnf)
  refine ⟨rfl, hq3.load ?_⟩
  (conv => whnf)
  refine HArith.any ?_
  rw [ent_eq, ent_eq]
  (conv => whnf)
  refine HIf.beq (fun e0 => ?_) (fun e0 => ?_)
  · (conv => whnf)
    exact ⟨iEq (by rw [key, bondN_0 e0]), rfl⟩
  (conv => whnf)
  refine HIf.beq (fun e1 => ?_) (fun e1 => ?_)
  · (conv => whnf)
    exact ⟨iEq (by rw [key, bondN_1 e1]), rfl⟩
  (conv => whnf)
  refine HIf.beq (fun e2 => ?_) (fun e2 => ?_)
  · (conv => whnf)
    exact ⟨iEq (by rw [key, bondN_2 e2]), rfl⟩
  (conv => whnf)
  refine HIf.beq (fun e3 => ?_) (fun e3 => ?_)
  · (conv => whnf)
    exact ⟨iEq (by rw [key, bondN_3 e3]), rfl⟩
  (conv => whnf)
  exact ⟨iEq (by rw [key, bondN_4 e0 e1 e2 e3]), rfl⟩

theorem spec_BondOf (h : Heap) (x : H0) (c : List (List Int)) (i j : Int) (hx : Rows h x c) (hcl : c.length ≤ 1048576) : HCalls dm Try.prog 50 [.s x, I i, I j] h (fun r h' => r = I (bond c i j) ∧ h' = h) := by
  obtain ⟨v, hv⟩ : ∃ v, v = bond c i j := ⟨_, rfl⟩
  rw [← hv]
  refine calls_of_hFun (m := 0) kd_ok mixed Try.func50 rfl (by kernel_rfl) rfl rfl (of_decide_eq_true rfl) ?_; unfold hFun; (conv => whnf)
  refine (spec_IsCartan _ _ _ hx (by omega)).mono ?_
  rintro r h' ⟨rfl, rfl⟩
  (conv => whnf)
  cases hic : isCartan c
  · (repeat (first | (refine ⟨rfl, Ints.len (by assumption) ?_⟩; conv => whnf) | (refine ⟨rfl, Rows.len (by assumption) ?_⟩; conv => whnf) | (refine ⟨rfl, HLen.sl ?_⟩; conv => whnf) | (refine ⟨rfl, At.load (by assumption) ?_⟩; conv => whnf) | (refine HIf.yes ?_; conv => whnf) | (refine HIf.no ?_; conv => whnf) | (refine HIf.isT (by assumption) ?_; conv => whnf) | (refine HIf.isF (by assumption) ?_; conv => whnf) | (refine HIf.decT (by assumption) ?_; conv => whnf) | (refine HIf.decF (by assumption) ?_; conv => whnf) | (refine HIf.beqT (by assumption) ?_; conv => whnf) | (refine HIf.beqF (by assumption) ?_; conv => whnf) | (refine HIf.bneT (by assumption) ?_; conv => whnf) | (refine HIf.bneF (by assumption) ?_; conv => whnf) | (refine ⟨rfl, Ints.idxN (by assumption) (by omega) (fun p hp => ?_)⟩; conv => whnf) | (refine ⟨rfl, Rows.idxN (by assumption) (by omega) (fun p y hp hy => ?_)⟩; conv => whnf) | (refine And.intro (show Kd.isBool _ = true from rfl) ?_; conv => whnf) | (refine ⟨rfl, Ints.idx (by assumption) (by omega) (by omega) (fun p hp => ?_)⟩; conv => whnf) | (refine ⟨rfl, Rows.idx (by assumption) (by omega) (by omega) (fun p y hp hy => ?_)⟩; conv => whnf) | (refine HArith.fits (by omega) (by omega) ?_; conv => whnf) | (refine Or.inl (And.intro (show Region.lexB _ _ = true by kernel_rfl) ?_); conv => whnf)))
    exact ⟨iEq (by rw [hv, bond_off (Or.inl hic)]), rfl⟩
  (repeat (first | (refine ⟨rfl, Ints.len (by assumption) ?_⟩; conv => whnf) | (refine ⟨rfl, Rows.len (by assumption) ?_⟩; conv => whnf) | (refine ⟨rfl, HLen.sl ?_⟩; conv => whnf) | (refine ⟨rfl, At.load (by assumption) ?_⟩; conv => whnf) | (refine HIf.yes ?_; conv => whnf) | (refine HIf.no ?_; conv => whnf) | (refine HIf.isT (by assumption) ?_; conv => whnf) | (refine HIf.isF (by assumption) ?_; conv => whnf) | (refine HIf.decT (by assumption) ?_; conv => whnf) | (refine HIf.decF (by assumption) ?_; conv => whnf) | (refine HIf.beqT (by assumption) ?_; conv => whnf) | (refine HIf.beqF (by assumption) ?_; conv => whnf) | (refine HIf.bneT (by assumption) ?_; conv => whnf) | (refine HIf.bneF (by assumption) ?_; conv => whnf) | (refine ⟨rfl, Ints.idxN (by assumption) (by omega) (fun p hp => ?_)⟩; conv => whnf) | (refine ⟨rfl, Rows.idxN (by assumption) (by omega) (fun p y hp hy => ?_)⟩; conv => whnf) | (refine And.intro (show Kd.isBool _ = true from rfl) ?_; conv => whnf) | (refine ⟨rfl, Ints.idx (by assumption) (by omega) (by omega) (fun p hp => ?_)⟩; conv => whnf) | (refine ⟨rfl, Rows.idx (by assumption) (by omega) (by omega) (fun p y hp hy => ?_)⟩; conv => whnf) | (refine HArith.fits (by omega) (by omega) ?_; conv => whnf) | (refine Or.inl (And.intro (show Region.lexB _ _ = true by kernel_rfl) ?_); conv => whnf)))
  refine (spec_l1In _ _ _ _).mono ?_
  rintro r h' ⟨rfl, rfl⟩
  rw [isPoint_l1]
  (conv => whnf)
  cases hip : isPoint c i
  · (repeat (first | (refine ⟨rfl, Ints.len (by assumption) ?_⟩; conv => whnf) | (refine ⟨rfl, Rows.len (by assumption) ?_⟩; conv => whnf) | (refine ⟨rfl, HLen.sl ?_⟩; conv => whnf) | (refine ⟨rfl, At.load (by assumption) ?_⟩; conv => whnf) | (refine HIf.yes ?_; conv => whnf) | (refine HIf.no ?_; conv => whnf) | (refine HIf.isT (by assumption) ?_; conv => whnf) | (refine HIf.isF (by assumption) ?_; conv => whnf) | (refine HIf.decT (by assumption) ?_; conv => whnf) | (refine HIf.decF (by assumption) ?_; conv => whnf) | (refine HIf.beqT (by assumption) ?_; conv => whnf) | (refine HIf.beqF (by assumption) ?_; conv => whnf) | (refine HIf.bneT (by assumption) ?_; conv => whnf) | (refine HIf.bneF (by assumption) ?_; conv => whnf) | (refine ⟨rfl, Ints.idxN (by assumption) (by omega) (fun p hp => ?_)⟩; conv => whnf) | (refine ⟨rfl, Rows.idxN (by assumption) (by omega) (fun p y hp hy => ?_)⟩; conv => whnf) | (refine And.intro (show Kd.isBool _ = true from rfl) ?_; conv => whnf) | (refine ⟨rfl, Ints.idx (by assumption) (by omega) (by omega) (fun p hp => ?_)⟩; conv => whnf) | (refine ⟨rfl, Rows.idx (by assumption) (by omega) (by omega) (fun p y hp hy => ?_)⟩; conv => whnf) | (refine HArith.fits (by omega) (by omega) ?_; conv => whnf) | (refine Or.inl (And.intro (show Region.lexB _ _ = true by kernel_rfl) ?_); conv => whnf)))
    exact ⟨iEq (by rw [hv, bond_off (Or.inr (Or.inl hip))]), rfl⟩
  (repeat (first | (refine ⟨rfl, Ints.len (by assumption) ?_⟩; conv => whnf) | (refine ⟨rfl, Rows.len (by assumption) ?_⟩; conv => whnf) | (refine ⟨rfl, HLen.sl ?_⟩; conv => whnf) | (refine ⟨rfl, At.load (by assumption) ?_⟩; conv => whnf) | (refine HIf.yes ?_; conv => whnf) | (refine HIf.no ?_; conv => whnf) | (refine HIf.isT (by assumption) ?_; conv => whnf) | (refine HIf.isF (by assumption) ?_; conv => whnf) | (refine HIf.decT (by assumption) ?_; conv => whnf) | (refine HIf.decF (by assumption) ?_; conv => whnf) | (refine HIf.beqT (by assumption) ?_; conv => whnf) | (refine HIf.beqF (by assumption) ?_; conv => whnf) | (refine HIf.bneT (by assumption) ?_; conv => whnf) | (refine HIf.bneF (by assumption) ?_; conv => whnf) | (refine ⟨rfl, Ints.idxN (by assumption) (by omega) (fun p hp => ?_)⟩; conv => whnf) | (refine ⟨rfl, Rows.idxN (by assumption) (by omega) (fun p y hp hy => ?_)⟩; conv => whnf) | (refine And.intro (show Kd.isBool _ = true from rfl) ?_; conv => whnf) | (refine ⟨rfl, Ints.idx (by assumption) (by omega) (by omega) (fun p hp => ?_)⟩; conv => whnf) | (refine ⟨rfl, Rows.idx (by assumption) (by omega) (by omega) (fun p y hp hy => ?_)⟩; conv => whnf) | (refine HArith.fits (by omega) (by omega) ?_; conv => whnf) | (refine Or.inl (And.intro (show Region.lexB _ _ = true by kernel_rfl) ?_); conv => whnf)))
  refine (spec_l1In _ _ _ _).mono ?_
  rintro r h' ⟨rfl, rfl⟩
  rw [isPoint_l1]
  (conv => whnf)
  cases hjp : isPoint c j
  · (repeat (first | (refine ⟨rfl, Ints.len (by assumption) ?_⟩; conv => whnf) | (refine ⟨rfl, Rows.len (by assumption) ?_⟩; conv => whnf) | (refine ⟨rfl, HLen.sl ?_⟩; conv => whnf) | (refine ⟨rfl, At.load (by assumption) ?_⟩; conv => whnf) | (refine HIf.yes ?_; conv => whnf) | (refine HIf.no ?_; conv => whnf) | (refine HIf.isT (by assumption) ?_; conv => whnf) | (refine HIf.isF (by assumption) ?_; conv => whnf) | (refine HIf.decT (by assumption) ?_; conv => whnf) | (refine HIf.decF (by assumption) ?_; conv => whnf) | (refine HIf.beqT (by assumption) ?_; conv => whnf) | (refine HIf.beqF (by assumption) ?_; conv => whnf) | (refine HIf.bneT (by assumption) ?_; conv => whnf) | (refine HIf.bneF (by assumption) ?_; conv => whnf) | (refine ⟨rfl, Ints.idxN (by assumption) (by omega) (fun p hp => ?_)⟩; conv => whnf) | (refine ⟨rfl, Rows.idxN (by assumption) (by omega) (fun p y hp hy => ?_)⟩; conv => whnf) | (refine And.intro (show Kd.isBool _ = true from rfl) ?_; conv => whnf) | (refine ⟨rfl, Ints.idx (by assumption) (by omega) (by omega) (fun p hp => ?_)⟩; conv => whnf) | (refine ⟨rfl, Rows.idx (by assumption) (by omega) (by omega) (fun p y hp hy => ?_)⟩; conv => whnf) | (refine HArith.fits (by omega) (by omega) ?_; conv => whnf) | (refine Or.inl (And.intro (show Region.lexB _ _ = true by kernel_rfl) ?_); conv => whnf)))
    exact ⟨iEq (by rw [hv, bond_off (Or.inr (Or.inr hjp))]), rfl⟩
  by_cases hij : i = j
  · (repeat (first | (refine ⟨rfl, Ints.len (by assumption) ?_⟩; conv => whnf) | (refine ⟨rfl, Rows.len (by assumption) ?_⟩; conv => whnf) | (refine ⟨rfl, HLen.sl ?_⟩; conv => whnf) | (refine ⟨rfl, At.load (by assumption) ?_⟩; conv => whnf) | (refine HIf.yes ?_; conv => whnf) | (refine HIf.no ?_; conv => whnf) | (refine HIf.isT (by assumption) ?_; conv => whnf) | (refine HIf.isF (by assumption) ?_; conv => whnf) | (refine HIf.decT (by assumption) ?_; conv => whnf) | (refine HIf.decF (by assumption) ?_; conv => whnf) | (refine HIf.beqT (by assumption) ?_; conv => whnf) | (refine HIf.beqF (by assumption) ?_; conv => whnf) | (refine HIf.bneT (by assumption) ?_; conv => whnf) | (refine HIf.bneF (by assumption) ?_; conv => whnf) | (refine ⟨rfl, Ints.idxN (by assumption) (by omega) (fun p hp => ?_)⟩; conv => whnf) | (refine ⟨rfl, Rows.idxN (by assumption) (by omega) (fun p y hp hy => ?_)⟩; conv => whnf) | (refine And.intro (show Kd.isBool _ = true from rfl) ?_; conv => whnf) | (refine ⟨rfl, Ints.idx (by assumption) (by omega) (by omega) (fun p hp => ?_)⟩; conv => whnf) | (refine ⟨rfl, Rows.idx (by assumption) (by omega) (by omega) (fun p y hp hy => ?_)⟩; conv => whnf) | (refine HArith.fits (by omega) (by omega) ?_; conv => whnf) | (refine Or.inl (And.intro (show Region.lexB _ _ = true by kernel_rfl) ?_); conv => whnf)))
    exact ⟨iEq (by rw [hv, bond_eq hic hip hjp hij]), rfl⟩
  have hC := (isCartan_iff c).1 hic
  have p1 := point_of hip
  have p2 := point_of hjp
  have r1 := hC.row i.toNat (by omega)
  have r2 := hC.row j.toNat (by omega)
  obtain ⟨a, rfl⟩ : ∃ a : Nat, i = a := ⟨i.toNat, by omega⟩
  obtain ⟨b, rfl⟩ : ∃ b : Nat, j = b := ⟨j.toNat, by omega⟩
  have ea : (a : Int).toNat = a := by omega
  have eb : (b : Int).toNat = b := by omega
  rw [ea] at r1
  rw [eb] at r2
  have key : v = bondN (w64 (ent c a b * ent c b a)) := by rw [hv, bond_ne hic hip hjp hij, ea, eb]
  (repeat (first | (refine HIf.yes ?_; conv => whnf) | (refine HIf.no ?_; conv => whnf) | (refine HIf.beqF (by assumption) ?_; conv => whnf)))
  refine Or.inl (And.intro (show Region.lexB _ _ = true by kernel_rfl) ?_); (conv => whnf)
  refine ⟨rfl, Rows.idxN hx (by omega) (fun p z hp hz => ?_)⟩
  (conv => whnf)
  refine ⟨rfl, hp.load ?_⟩
  (conv => whnf)
  refine ⟨rfl, Ints.idxN hz (by omega) (fun q hq => ?_)⟩
  (conv => whnf)
  refine ⟨rfl, hq.load ?_⟩
  (conv => whnf)
  refine ⟨rfl, Rows.idxN hx (by omega) (fun p3 z3 hp3 hz3 => ?_)⟩
  (conv => whnf)
  refine ⟨rfl, hp3.load ?_⟩
  (conv => whnf)
  refine ⟨rfl, Ints.idxN hz3 (by omega) (fun q3 hq3 => ?_)⟩
  (conv => whnf)
  refine ⟨rfl, hq3.load ?_⟩
  (conv => whnf)
  refine HArith.any ?_
  rw [ent_eq, ent_eq]
  (conv => whnf)
  refine HIf.beq (fun e0 => ?_) (fun e0 => ?_)
  · (conv => whnf)
    exact ⟨iEq (by rw [key, bondN_0 e0]), rfl⟩
  (conv => whnf)
  refine HIf.beq (fun e1 => ?_) (fun e1 => ?_)
  · (conv => whnf)
    exact ⟨iEq (by rw [key, bondN_1 e1]), rfl⟩
  (conv => whnf)
  refine HIf.beq (fun e2 => ?_) (fun e2 => ?_)
  · (conv => whnf)
    exact ⟨iEq (by rw [key, bondN_2 e2]), rfl⟩
  (conv => whnf)
  refine HIf.beq (fun e3 => ?_) (fun e3 => ?_)
  · (conv => whnf)
    exact ⟨iEq (by rw [key, bondN_3 e3]), rfl⟩
  (conv => whnf)
  exact ⟨iEq (by rw [key, bondN_4 e0 e1 e2 e3]), rfl⟩

theorem impl_AlternatingWord (h : Heap) (i j n : Int) : HCalls dm Try.prog 81 [I i, I j, I n] h (fun r h' => ∃ y, r = .s y ∧ Fresh h h' y (alt i j n)) := by
  have E0 := Ext.push h [Row.own []]
  have O0 := OwnR.push h []
  refine calls_of_hFun (m := 0) kd_ok mixed Try.func81 rfl (by kernel_rfl) rfl rfl (of_decide_eq_true rfl) ?_; unfold hFun; (conv => whnf)
  refine HLit.empty ?_
  (conv => whnf)
  refine HLoop.intro [8, 7] [10, 11, 12, 13, 14, 15, 16, 19, 20, 21, 22, 23, 24, 25, 7, 26, 27, 28, 29, 7, 17, 18, 8] (by kernel_rfl) (by kernel_rfl) (fun vs h' => ∃ (k : Nat) (z : H0) (r : Nat), vs = [I k, .s z] ∧ k ≤ 15 ∧ ((k : Int) ≤ n ∨ k = 0) ∧ Ext h h' ∧ h.length ≤ r ∧ OwnR r h' z (altTo i j k)) (fun vs _ => 15 - natAt vs 0) ⟨0, _, h.length, rfl, by omega, Or.inr rfl, E0, Nat.le_refl _, O0⟩ ?_
  rintro vs h' ⟨k, z, r, rfl, hk, hkn, E, hr, O⟩
  have hal := altTo_len i j k
  have hE := E.1
  (conv => whnf)
  by_cases c1 : (k : Int) < n
  · by_cases c2 : (k : Int) < 15
    · refine HIf.decT c1 ?_
      (conv => whnf)
      refine HIf.decT c1 ?_
      (conv => whnf)
      refine HIf.decT c1 ?_
      (conv => whnf)
      refine HIf.decT c2 ?_
      (conv => whnf)
      refine HRem.of (by decide) ?_
      (conv => whnf)
      refine HIf.beq (fun he => ?_) (fun ho => ?_)
      · (conv => whnf)
        refine HLit.one ?_
        (conv => whnf)
        refine ⟨rfl, rfl, HApp.snocR O (by omega) (fun h3 r3 y3 B3 hr3 O3 => ?_)⟩
        rw [← altTo_even he] at O3
        (conv => whnf)
        refine HArith.fits (by omega) (by omega) ?_
        (conv => whnf)
        exact ⟨⟨k + 1, y3, r3, rfl, by omega, by omega, E.but B3 hr, by omega, O3⟩, by show 15 - (k + 1) < 15 - k; omega⟩
      · (conv => whnf)
        refine HLit.one ?_
        (conv => whnf)
        refine ⟨rfl, rfl, HApp.snocR O (by omega) (fun h3 r3 y3 B3 hr3 O3 => ?_)⟩
        rw [← altTo_odd ho] at O3
        (conv => whnf)
        refine HArith.fits (by omega) (by omega) ?_
        (conv => whnf)
        exact ⟨⟨k + 1, y3, r3, rfl, by omega, by omega, E.but B3 hr, by omega, O3⟩, by show 15 - (k + 1) < 15 - k; omega⟩
    · refine HIf.decT c1 ?_
      (conv => whnf)
      refine HIf.decT c1 ?_
      (conv => whnf)
      refine HIf.decT c1 ?_
      (conv => whnf)
      refine HIf.decF c2 ?_
      (conv => whnf)
      rw [alt_of (k := k) (by omega)]
      exact ⟨_, rfl, Fresh.ofRow E O hr⟩
  · (repeat (first | (refine HIf.decF c1 ?_; conv => whnf) | (refine HIf.no ?_; conv => whnf)))
    rw [alt_of (k := k) (by omega)]
    exact ⟨_, rfl, Fresh.ofRow E O hr⟩

theorem spec_AlternatingWord (h : Heap) (i j n : Int) : HCalls dm Try.prog 52 [I i, I j, I n] h (fun r h' => ∃ y, r = .s y ∧ Fresh h h' y (alt i j n)) := by
  have E0 := Ext.push h [Row.own []]
  have O0 := OwnR.push h []
  refine calls_of_hFun (m := 0) kd_ok mixed Try.func52 rfl (by kernel_rfl) rfl rfl (of_decide_eq_true rfl) ?_; unfold hFun; (conv => whnf)
  refine HLit.empty ?_
  (conv => whnf)
  refine HLoop.intro [8, 7] [10, 11, 12, 13, 14, 15, 16, 19, 20, 21, 22, 23, 24, 25, 7, 26, 27, 28, 29, 7, 17, 18, 8] (by kernel_rfl) (by kernel_rfl) (fun vs h' => ∃ (k : Nat) (z : H0) (r : Nat), vs = [I k, .s z] ∧ k ≤ 15 ∧ ((k : Int) ≤ n ∨ k = 0) ∧ Ext h h' ∧ h.length ≤ r ∧ OwnR r h' z (altTo i j k)) (fun vs _ => 15 - natAt vs 0) ⟨0, _, h.length, rfl, by omega, Or.inr rfl, E0, Nat.le_refl _, O0⟩ ?_
  rintro vs h' ⟨k, z, r, rfl, hk, hkn, E, hr, O⟩
  have hal := altTo_len i j k
  have hE := E.1
  (conv => whnf)
  by_cases c1 : (k : Int) < n
  · by_cases c2 : (k : Int) < 15
    · refine HIf.decT c1 ?_
      (conv => whnf)
      refine HIf.decT c1 ?_
      (conv => whnf)
      refine HIf.decT c1 ?_
      (conv => whnf)
      refine HIf.decT c2 ?_
      (conv => whnf)
      refine HRem.of (by decide) ?_
      (conv => whnf)
      refine HIf.beq (fun he => ?_) (fun ho => ?_)
      · (conv => whnf)
        refine HLit.one ?_
        (conv => whnf)
        refine ⟨rfl, rfl, HApp.snocR O (by omega) (fun h3 r3 y3 B3 hr3 O3 => ?_)⟩
        rw [← altTo_even he] at O3
        (conv => whnf)
        refine HArith.fits (by omega) (by omega) ?_
        (conv => whnf)
        exact ⟨⟨k + 1, y3, r3, rfl, by omega, by omega, E.but B3 hr, by omega, O3⟩, by show 15 - (k + 1) < 15 - k; omega⟩
      · (conv => whnf)
        refine HLit.one ?_
        (conv => whnf)
        refine ⟨rfl, rfl, HApp.snocR O (by omega) (fun h3 r3 y3 B3 hr3 O3 => ?_)⟩
        rw [← altTo_odd ho] at O3
        (conv => whnf)
        refine HArith.fits (by omega) (by omega) ?_
        (conv => whnf)
        exact ⟨⟨k + 1, y3, r3, rfl, by omega, by omega, E.but B3 hr, by omega, O3⟩, by show 15 - (k + 1) < 15 - k; omega⟩
    · refine HIf.decT c1 ?_
      (conv => whnf)
      refine HIf.decT c1 ?_
      (conv => whnf)
      refine HIf.decT c1 ?_
      (conv => whnf)
      refine HIf.decF c2 ?_
      (conv => whnf)
      rw [alt_of (k := k) (by omega)]
      exact ⟨_, rfl, Fresh.ofRow E O hr⟩
  · (repeat (first | (refine HIf.decF c1 ?_; conv => whnf) | (refine HIf.no ?_; conv => whnf)))
    rw [alt_of (k := k) (by omega)]
    exact ⟨_, rfl, Fresh.ofRow E O hr⟩

end Go.Proofs.Ytjgnnjegaedinaa.Hx

namespace Go.Proofs.Ytjgnnjegaedinaa.Hx
open Go.RowKit

/-- Letters applied to a place. -/
def actS (c : Nat → Nat → Int) : List Int → Pos → Pos
  | [], v => v
  | i :: w, v => sr c i.toNat (actS c w v)

theorem actS_app (c : Nat → Nat → Int) : ∀ (a b : List Int) (v : Pos), actS c (a ++ b) v = actS c a (actS c b v)
  | [], _, _ => rfl
  | i :: a, b, v => by
    show sr c i.toNat (actS c (a ++ b) v) = sr c i.toNat (actS c a (actS c b v))
    rw [actS_app c a b v]

theorem altTo_cons (i j : Int) (k : Nat) : altTo i j (k + 1) = i :: altTo j i k := by
  unfold altTo
  rw [List.range_succ_eq_map, List.map_cons, List.map_map]
  have e0 : (if 0 % 2 = 0 then i else j) = i := rfl
  rw [e0]
  refine congrArg (List.cons i) (List.map_congr_left fun t _ => ?_)
  show (if (t + 1) % 2 = 0 then i else j) = if t % 2 = 0 then j else i
  by_cases h : t % 2 = 0
  · rw [if_neg (by omega), if_pos h]
  · rw [if_pos (by omega), if_neg h]

theorem actS_alt (c : Nat → Nat → Int) : ∀ (m : Nat) (i j : Int) (v : Pos), actS c (altTo i j m) v = altS c i.toNat j.toNat m v
  | 0, _, _, _ => rfl
  | m + 1, i, j, v => by
    rw [altTo_cons]
    show sr c i.toNat (actS c (altTo j i m) v) = sr c i.toNat (altS c j.toNat i.toNat m v)
    rw [actS_alt c m j i v]

theorem letters_app {c : List (List Int)} {a b : List Int} : lettersOk c (a ++ b) = true ↔ lettersOk c a = true ∧ lettersOk c b = true := by
  simp [lettersOk, List.all_append]
theorem letters_cons {c : List (List Int)} {i : Int} {w : List Int} : lettersOk c (i :: w) = true ↔ isPoint c i = true ∧ lettersOk c w = true := by
  simp [lettersOk]
theorem letters_alt {c : List (List Int)} {i j : Int} (hi : isPoint c i = true) (hj : isPoint c j = true) (m : Nat) : lettersOk c (altTo i j m) = true := by
  refine List.all_eq_true.2 fun x hx => ?_
  obtain ⟨t, _, rfl⟩ := List.mem_map.1 hx
  by_cases h : t % 2 = 0
  · rw [if_pos h]; exact hi
  · rw [if_neg h]; exact hj

theorem play_actL {c : List (List Int)} (hC : Cartan c) : ∀ (w : List Int) {n : Nat} {u : List Int}, lettersOk c w = true → PlayL c n u → n + w.length ≤ 31 → ∃ m, m ≤ n + w.length ∧ PlayL c m (actW c w u) ∧ posOf (actW c w u) = actS (ent c) w (posOf u)
  | [], n, u, _, P, _ => ⟨n, Nat.le_refl _, P, rfl⟩
  | i :: w, n, u, h, P, hl => by
    obtain ⟨h1, h2⟩ := letters_cons.1 h
    have hi := point_of h1
    simp only [List.length_cons] at hl
    obtain ⟨m, h3, P3, e⟩ := play_actL hC w h2 P (by omega)
    obtain ⟨m', h4, P4⟩ := P3.any hC (by omega) (i := i.toNat) (by omega)
    refine ⟨m', by simp only [List.length_cons]; omega, P4, ?_⟩
    show posOf (reflW c i.toNat (actW c w u)) = sr (ent c) i.toNat (actS (ent c) w (posOf u))
    rw [pos_refl hC P3 (by omega) (by omega), e]

/-- What a bond of two or more tells. -/
theorem bond_info {c : List (List Int)} {i j : Int} {m : Nat} (h : bond c i j = m) (h2 : 2 ≤ m) : Cartan c ∧ isPoint c i = true ∧ isPoint c j = true ∧ i ≠ j ∧ m = bondP (ent c i.toNat j.toNat * ent c j.toNat i.toNat) := by
  cases h1 : isCartan c
  · rw [bond_off (Or.inl h1)] at h; omega
  cases h3 : isPoint c i
  · rw [bond_off (Or.inr (Or.inl h3))] at h; omega
  cases h4 : isPoint c j
  · rw [bond_off (Or.inr (Or.inr h4))] at h; omega
  by_cases hij : i = j
  · rw [bond_eq h1 h3 h4 hij] at h; omega
  have hC := (isCartan_iff c).1 h1
  refine ⟨hC, rfl, rfl, hij, ?_⟩
  rw [bond_ne h1 h3 h4 hij] at h
  have p1 := point_of h3
  have p2 := point_of h4
  have o1 := (matOk hC).off i.toNat j.toNat (by omega) (by omega) (by omega)
  have o2 := (matOk hC).off j.toNat i.toNat (by omega) (by omega) (by omega)
  generalize ent c i.toNat j.toNat = x at *
  generalize ent c j.toNat i.toNat = y at *
  have e1 : x = 0 ∨ x = -1 ∨ x = -2 ∨ x = -3 := by omega
  have e2 : y = 0 ∨ y = -1 ∨ y = -2 ∨ y = -3 := by omega
  rcases e1 with rfl | rfl | rfl | rfl <;> rcases e2 with rfl | rfl | rfl | rfl <;>
    (rw [w64_in (by decide) (by decide)] at h; simp only [bondN, bondP] at h ⊢; simp at h ⊢; omega)

theorem bond_of_pos {c : List (List Int)} (hC : Cartan c) {i j : Int} (hi : isPoint c i = true) (hj : isPoint c j = true) (hij : i ≠ j) : bond c i j = bondP (ent c i.toNat j.toNat * ent c j.toNat i.toNat) := by
  rw [bond_ne ((isCartan_iff c).2 hC) hi hj hij]
  have p1 := point_of hi
  have p2 := point_of hj
  have o1 := (matOk hC).off i.toNat j.toNat (by omega) (by omega) (by omega)
  have o2 := (matOk hC).off j.toNat i.toNat (by omega) (by omega) (by omega)
  generalize ent c i.toNat j.toNat = x at *
  generalize ent c j.toNat i.toNat = y at *
  have e1 : x = 0 ∨ x = -1 ∨ x = -2 ∨ x = -3 := by omega
  have e2 : y = 0 ∨ y = -1 ∨ y = -2 ∨ y = -3 := by omega
  rcases e1 with rfl | rfl | rfl | rfl <;> rcases e2 with rfl | rfl | rfl | rfl <;>
    (rw [w64_in (by decide) (by decide)]; simp only [bondN, bondP]; simp)

theorem bond_comm (c : List (List Int)) (i j : Int) : bond c j i = bond c i j := by
  unfold bond
  rw [Int.mul_comm (ent c j.toNat i.toNat)]
  by_cases h : i = j
  · rw [if_pos h, if_pos h.symm, Bool.and_right_comm]
  · rw [if_neg h, if_neg (Ne.symm h), Bool.and_right_comm]

theorem sr_off {c : List (List Int)} {i k : Nat} (h : c.length ≤ k) (v : Pos) : sr (ent c) i v k = v k := by
  unfold sr
  rw [ent_off h]
  simp
theorem altS_off {c : List (List Int)} {k : Nat} (h : c.length ≤ k) : ∀ (m i j : Nat) (v : Pos), altS (ent c) i j m v k = v k
  | 0, _, _, _ => rfl
  | m + 1, i, j, v => by
    show sr (ent c) i (altS (ent c) j i m v) k = v k
    rw [sr_off h, altS_off h m j i v]

theorem list_of_pos (N : Nat) (f : Pos) (h : ∀ k, N ≤ k → f k = 0) : ∃ u : List Int, u.length = N ∧ posOf u = f := by
  refine ⟨(List.range N).map f, by simp, funext fun k => ?_⟩
  by_cases hk : k < N
  · simp [posOf, List.getD, hk]
  · rw [h k (by omega)]
    simp [posOf, List.getD, show N ≤ k by omega]

theorem two_words {c : List (List Int)} (hC : Cartan c) {n : Nat} {v : List Int} (P : PlayL c n v) (hn : n ≤ 30) {i j : Int} (hi : isPoint c i = true) (hj : isPoint c j = true) (hij : i ≠ j) (ha : v.getD i.toNat 0 < 0) (hb : v.getD j.toNat 0 < 0) :
    ∃ (m k : Nat) (u : List Int), bond c i j = m ∧ 2 ≤ m ∧ n = k + m ∧ PlayL c k u ∧ v = actW c (altTo i j m) u ∧ v = actW c (altTo j i m) u := by
  have p1 := point_of hi
  have p2 := point_of hj
  obtain ⟨h2, k, u0, hk, Q, e1, e2⟩ := play_two (matOk hC) (i := i.toNat) (j := j.toNat) (by omega) (by omega) (by omega) P.2 ha hb
  obtain ⟨u, hul, hu⟩ := list_of_pos c.length u0 fun q hq => by
    have := congrFun e1 q
    rw [altS_off hq] at this
    rw [← this]
    have hv : v.length ≤ q := by rw [P.1]; exact hq
    simp [posOf, List.getD, hv]
  have PQ : PlayL c k u := ⟨hul, by rw [hu]; exact Q⟩
  refine ⟨_, k, u, bond_of_pos hC hi hj hij, h2, hk, PQ, ?_, ?_⟩
  · apply posOf_inj (by rw [actW_length, P.1, hul])
    obtain ⟨_, _, _, e⟩ := play_actL hC (altTo i j (bondP (ent c i.toNat j.toNat * ent c j.toNat i.toNat))) (letters_alt hi hj _) PQ (by rw [altTo_len]; omega)
    rw [e, actS_alt, hu]
    exact e1
  · apply posOf_inj (by rw [actW_length, P.1, hul])
    obtain ⟨_, _, _, e⟩ := play_actL hC (altTo j i (bondP (ent c i.toNat j.toNat * ent c j.toNat i.toNat))) (letters_alt hj hi _) PQ (by rw [altTo_len]; omega)
    rw [e, actS_alt, hu]
    exact e2

/-- A reduced word of an element that is told by its image. -/
def Red (c : List (List Int)) (n : Nat) (v w : List Int) : Prop := w.length = n ∧ lettersOk c w = true ∧ imageOf c w = v

theorem play_unique {c : List (List Int)} (hC : Cartan c) {n m : Nat} {v : List Int} (P : PlayL c n v) (Q : PlayL c m v) (hn : n ≤ 30) (hm : m ≤ 30) : n = m := by
  rw [← nf_len hC n v 30 P hn hn, nf_len hC m v 30 Q hm hm]

theorem imageW_cons (c : List (List Int)) (i : Int) (w : List Int) : imageOf c (i :: w) = reflW c i.toNat (imageOf c w) := rfl

theorem Red.tail {c : List (List Int)} (hC : Cartan c) {n : Nat} {v w : List Int} {i : Int} (P : PlayL c (n + 1) v) (hn : n + 1 ≤ 29) (R : Red c (n + 1) v (i :: w)) :
    isPoint c i = true ∧ v.getD i.toNat 0 < 0 ∧ PlayL c n (reflW c i.toNat v) ∧ Red c n (reflW c i.toNat v) w := by
  obtain ⟨h1, h2, h3⟩ := R
  obtain ⟨hi, hw⟩ := letters_cons.1 h2
  have p1 := point_of hi
  have hwl : w.length = n := by simpa using h1
  have hin : i.toNat < c.length := by omega
  obtain ⟨m, hm, Q⟩ := play_image hC hw (by omega)
  rw [imageW_cons] at h3
  have hback : reflW c i.toNat v = imageOf c w := by
    rw [← h3]
    exact reflW_twice hC Q (by omega) hin (by rw [h3]; exact P) (by omega)
  have hneg : v.getD i.toNat 0 < 0 := by
    have hne := P.ne hC hin
    have hne2 := Q.ne hC hin
    have hs : v.getD i.toNat 0 = - (imageOf c w).getD i.toNat 0 := by
      have := congrFun (pos_refl hC Q (by omega) hin) i.toNat
      rw [h3, sr_at ((matOk hC).diag _ hin)] at this
      exact this
    by_cases hlt : (imageOf c w).getD i.toNat 0 < 0
    · obtain ⟨m', e, Q'⟩ := Q.down hC (by omega) hin hlt
      rw [h3] at Q'
      have := play_unique hC P Q' (by omega) (by omega)
      omega
    · omega
  obtain ⟨n', e, P'⟩ := P.down hC (by omega) hin hneg
  have : n' = n := by omega
  subst this
  exact ⟨hi, hneg, P', hwl, hw, hback.symm⟩

theorem Red.cons {c : List (List Int)} (hC : Cartan c) {n : Nat} {v w : List Int} {i : Int} (P : PlayL c (n + 1) v) (hn : n + 1 ≤ 30) (hi : isPoint c i = true) (h : v.getD i.toNat 0 < 0) (R : Red c n (reflW c i.toNat v) w) : Red c (n + 1) v (i :: w) := by
  have p1 := point_of hi
  have hin : i.toNat < c.length := by omega
  obtain ⟨m, e, Q⟩ := P.down hC hn hin h
  obtain ⟨h1, h2, h3⟩ := R
  refine ⟨by simp [h1], letters_cons.2 ⟨hi, h2⟩, ?_⟩
  rw [imageW_cons, h3]
  exact reflW_twice hC P hn hin Q (by omega)

/-- A braid move, and what braid moves join. -/
inductive Br (c : List (List Int)) : List Int → List Int → Prop
  | mk (p : List Int) (i j : Int) (m : Nat) (q : List Int) (hb : bond c i j = m) (h2 : 2 ≤ m) : Br c (p ++ (altTo i j m ++ q)) (p ++ (altTo j i m ++ q))

inductive Conn (c : List (List Int)) : List Int → List Int → Prop
  | refl (a : List Int) : Conn c a a
  | tail {a b d : List Int} (h : Conn c a b) (s : Br c b d) : Conn c a d

theorem Br.symm {c : List (List Int)} {a b : List Int} (h : Br c a b) : Br c b a := by
  cases h with
  | mk p i j m q hb h2 => exact .mk p j i m q (by rw [bond_comm]; exact hb) h2
theorem Br.cons {c : List (List Int)} {a b : List Int} (x : Int) (h : Br c a b) : Br c (x :: a) (x :: b) := by
  cases h with
  | mk p i j m q hb h2 => exact .mk (x :: p) i j m q hb h2
theorem Conn.trans {c : List (List Int)} {a b d : List Int} (h : Conn c a b) (k : Conn c b d) : Conn c a d := by
  induction k with
  | refl => exact h
  | tail _ s ih => exact ih.tail s
theorem Conn.one {c : List (List Int)} {a b : List Int} (h : Br c a b) : Conn c a b := (Conn.refl a).tail h
theorem Conn.symm {c : List (List Int)} {a b : List Int} (h : Conn c a b) : Conn c b a := by
  induction h with
  | refl => exact .refl _
  | tail _ s ih => exact (Conn.one s.symm).trans ih
theorem Conn.cons {c : List (List Int)} {a b : List Int} (x : Int) (h : Conn c a b) : Conn c (x :: a) (x :: b) := by
  induction h with
  | refl => exact .refl _
  | tail _ s ih => exact ih.tail (s.cons x)

theorem Br.letters {c : List (List Int)} {a b : List Int} (h : Br c a b) (ha : lettersOk c a = true) : lettersOk c b = true := by
  cases h with
  | mk p i j m q hb h2 =>
    obtain ⟨_, hi, hj, _, _⟩ := bond_info hb h2
    obtain ⟨h1, h3⟩ := letters_app.1 ha
    exact letters_app.2 ⟨h1, letters_app.2 ⟨letters_alt hj hi m, (letters_app.1 h3).2⟩⟩
theorem Br.length {c : List (List Int)} {a b : List Int} (h : Br c a b) : b.length = a.length := by
  cases h with
  | mk p i j m q hb h2 => simp [altTo_len]

theorem image_pos {c : List (List Int)} (hC : Cartan c) {w : List Int} (h : lettersOk c w = true) (hl : w.length ≤ 31) : posOf (imageOf c w) = actS (ent c) w (posOf (List.replicate c.length 1)) := by
  obtain ⟨_, _, _, e⟩ := play_actL hC w h (PlayL.ones c) (by omega)
  exact e

theorem Br.image {c : List (List Int)} {a b : List Int} (h : Br c a b) (ha : lettersOk c a = true) (hl : a.length ≤ 31) : imageOf c b = imageOf c a := by
  have hb := h.letters ha
  have hlen := h.length
  cases h with
  | mk p i j m q hbd h2 =>
    obtain ⟨hC, hi, hj, hij, e⟩ := bond_info hbd h2
    have p1 := point_of hi
    have p2 := point_of hj
    apply posOf_inj (by rw [imageOf_length, imageOf_length])
    rw [image_pos hC hb (by omega), image_pos hC ha hl, actS_app, actS_app, actS_app, actS_app, actS_alt, actS_alt, e, alt_rel (matOk hC) (i := i.toNat) (j := j.toNat) (by omega) (by omega) (by omega)]

theorem Br.red {c : List (List Int)} {a b v : List Int} {n : Nat} (h : Br c a b) (hn : n ≤ 31) (R : Red c n v a) : Red c n v b :=
  ⟨h.length.trans R.1, h.letters R.2.1, (h.image R.2.1 (by rw [R.1]; exact hn)).trans R.2.2⟩

/-- All reduced words of an element are joined by braid moves. -/
theorem conn_all {c : List (List Int)} (hC : Cartan c) : ∀ (n : Nat) (v : List Int), PlayL c n v → n ≤ 29 → ∀ a b, Red c n v a → Red c n v b → Conn c a b
  | 0, v, P, hn, a, b, ha, hb => by
    have e1 : a = [] := List.eq_nil_of_length_eq_zero ha.1
    have e2 : b = [] := List.eq_nil_of_length_eq_zero hb.1
    rw [e1, e2]
    exact .refl _
  | n + 1, v, P, hn, a, b, ha, hb => by
    cases a with
    | nil => have := ha.1; simp at this
    | cons i a =>
      cases b with
      | nil => have := hb.1; simp at this
      | cons j b =>
        obtain ⟨hi, ni, Pi, Ri⟩ := ha.tail hC P hn
        obtain ⟨hj, nj, Pj, Rj⟩ := hb.tail hC P hn
        by_cases hij : i = j
        · subst hij
          exact (conn_all hC n _ Pi (by omega) a b Ri Rj).cons i
        · obtain ⟨m, k, u, hbd, h2, hk, Q, e1, e2⟩ := two_words hC P (by omega) hi hj hij ni nj
          have hz1 := nf_len hC k u 30 Q (by omega) (by omega)
          have hz2 := nf_letters hC k u 30 Q (by omega) (by omega)
          have hz3 := nf_image hC k u 30 Q (by omega) (by omega)
          generalize nf c 30 u = z at hz1 hz2 hz3
          obtain ⟨m', rfl⟩ : ∃ m', m = m' + 1 := ⟨m - 1, by omega⟩
          have RA : Red c (n + 1) v (altTo i j (m' + 1) ++ z) := ⟨by rw [List.length_append, altTo_len]; omega, letters_app.2 ⟨letters_alt hi hj _, hz2⟩, by rw [imageOf, actW_app, e1]; exact congrArg _ hz3⟩
          have RB : Red c (n + 1) v (altTo j i (m' + 1) ++ z) := ⟨by rw [List.length_append, altTo_len]; omega, letters_app.2 ⟨letters_alt hj hi _, hz2⟩, by rw [imageOf, actW_app, e2]; exact congrArg _ hz3⟩
          have hAB : Conn c (altTo i j (m' + 1) ++ z) (altTo j i (m' + 1) ++ z) := Conn.one (.mk [] i j (m' + 1) z hbd h2)
          rw [altTo_cons, List.cons_append] at RA hAB
          rw [altTo_cons, List.cons_append] at RB hAB
          obtain ⟨_, _, _, RA'⟩ := RA.tail hC P hn
          obtain ⟨_, _, _, RB'⟩ := RB.tail hC P hn
          exact ((conn_all hC n _ Pi (by omega) a _ Ri RA').cons i).trans (hAB.trans ((conn_all hC n _ Pj (by omega) _ b RB' Rj).cons j))

theorem conn_closed {c : List (List Int)} {Q : List (List Int)} (hQ : ∀ q ∈ Q, ∀ b, Br c q b → b ∈ Q) {x w : List Int} (hx : x ∈ Q) (h : Conn c x w) : w ∈ Q := by
  induction h with
  | refl => exact hx
  | tail _ s ih => exact hQ _ ih _ s

/-! ### The program's braid moves -/

theorem br_of_braid {c : List (List Int)} {w : List Int} {k : Nat} (h : brOk c w k = true) : Br c w (braid c w k) := by
  rw [braid_on h]
  have h0 := h
  simp only [brOk, brN, Bool.and_eq_true, decide_eq_true_eq, Int.toNat_natCast] at h0
  obtain ⟨⟨hw, _, hk⟩, ⟨⟨h1, h2⟩, h3⟩, h4⟩ := h0
  obtain ⟨_, hl, _⟩ := word_cartan hw
  have hb : bond c (w.getD k 0) (w.getD (k + 1) 0) = brM c w k := by unfold brM; omega
  have h2' : 2 ≤ brM c w k := by omega
  have hm : alt (w.getD k 0) (w.getD (k + 1) 0) (brM c w k) = altTo (w.getD k 0) (w.getD (k + 1) 0) (brM c w k) := alt_of (by omega)
  have hm2 : alt (w.getD (k + 1) 0) (w.getD k 0) (brM c w k) = altTo (w.getD (k + 1) 0) (w.getD k 0) (brM c w k) := alt_of (by omega)
  have e : w.take k ++ (altTo (w.getD k 0) (w.getD (k + 1) 0) (brM c w k) ++ w.drop (k + brM c w k)) = w := by
    rw [← hm, ← h4]
    have e1 : (w.take (k + brM c w k)).drop k ++ w.drop (k + brM c w k) = w.drop k := by
      have := List.take_append_drop (brM c w k) (w.drop k)
      rw [List.drop_drop] at this
      rw [List.drop_take]
      simpa using this
    rw [e1, List.take_append_drop]
  have := Br.mk (c := c) (w.take k) (w.getD k 0) (w.getD (k + 1) 0) (brM c w k) (w.drop (k + brM c w k)) hb h2'
  rw [e] at this
  unfold brW
  rw [hm2]
  exact this

theorem braid_of_br {c : List (List Int)} {a b : List Int} (hw : isWord c a = true) (h : Br c a b) : ∃ k : Nat, k < a.length ∧ brOk c a k = true ∧ braid c a k = b := by
  cases h with
  | mk p i j m q hb h2 =>
    obtain ⟨hC, hi, hj, hij, _⟩ := bond_info hb h2
    have hml := bond_le c i j
    obtain ⟨m', rfl⟩ : ∃ m', m = m' + 2 := ⟨m - 2, by omega⟩
    have g1 : (p ++ (altTo i j (m' + 2) ++ q)).getD p.length 0 = i := by simp [altTo_cons, List.getD]
    have g2 : (p ++ (altTo i j (m' + 2) ++ q)).getD (p.length + 1) 0 = j := by
      rw [altTo_cons, altTo_cons]
      simp only [List.getD]
      rw [List.getElem?_append_right (by omega)]
      simp
    have hM : brM c (p ++ (altTo i j (m' + 2) ++ q)) p.length = m' + 2 := by
      unfold brM
      rw [g1, g2, hb]
      omega
    have d1 : (p ++ (altTo i j (m' + 2) ++ q)).drop (p.length + (m' + 2)) = q := by
      rw [← List.append_assoc]
      exact List.drop_left' (by rw [List.length_append, altTo_len])
    have d2 : ((p ++ (altTo i j (m' + 2) ++ q)).take (p.length + (m' + 2))).drop p.length = altTo i j (m' + 2) := by
      rw [← List.append_assoc, List.take_left' (by rw [List.length_append, altTo_len])]
      exact List.drop_left
    have ha : alt i j (m' + 2 : Nat) = altTo i j (m' + 2) := alt_of (by omega)
    have ha2 : alt j i (m' + 2 : Nat) = altTo j i (m' + 2) := alt_of (by omega)
    have hok : brOk c (p ++ (altTo i j (m' + 2) ++ q)) p.length = true := by
      rw [brOk_at hw (by simp [altTo_len]; omega)]
      unfold brN
      rw [hM, g1, g2, d2, ha, hb]
      simp only [Bool.and_eq_true, decide_eq_true_eq]
      refine ⟨⟨⟨hij, by omega⟩, ?_⟩, trivial⟩
      simp [altTo_len]
    refine ⟨p.length, by simp [altTo_len]; omega, hok, ?_⟩
    rw [braid_on hok]
    unfold brW
    rw [hM, g1, g2, d1, ha2, List.take_left]


end Go.Proofs.Ytjgnnjegaedinaa.Hx
