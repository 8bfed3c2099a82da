
/-
  Contracts of bonds, alternating words and braid moves, of the program and of the reference.
-/
import Derived.Test.YtlddnnkjpcncoaaGs
namespace Go.Proofs.Ytlddnnkjpcncoaa.Hx
open Go.RowKit
variable {dm : Bool}

def bondN (p : Int) : Int := if p = 0 then 2 else if p = 1 then 3 else if p = 2 then 4 else if p = 3 then 6 else 0
def bond (c : List (List Int)) (i j : Int) : Int := if isCartan c && isPoint c i && isPoint c j then (if i = j then 1 else bondN (w64 (ent c i.toNat j.toNat * ent c j.toNat i.toNat))) else -1
theorem bond_off {c : List (List Int)} {i j : Int} (h : isCartan c = false ∨ isPoint c i = false ∨ isPoint c j = false) : bond c i j = -1 := by
  rcases h with h | h | h <;> simp [bond, h]
theorem bond_eq {c : List (List Int)} {i j : Int} (h1 : isCartan c = true) (h2 : isPoint c i = true) (h3 : isPoint c j = true) (h : i = j) : bond c i j = 1 := by
  have h4 : isPoint c j = true := h3
  subst h
  simp [bond, h1, h2]
theorem bond_ne {c : List (List Int)} {i j : Int} (h1 : isCartan c = true) (h2 : isPoint c i = true) (h3 : isPoint c j = true) (h : i ≠ j) : bond c i j = bondN (w64 (ent c i.toNat j.toNat * ent c j.toNat i.toNat)) := by simp [bond, h1, h2, h3, h]
theorem bondN_0 {p : Int} (h : p = 0) : bondN p = 2 := by simp [bondN, h]
theorem bondN_1 {p : Int} (h : p = 1) : bondN p = 3 := by simp [bondN, h]
theorem bondN_2 {p : Int} (h : p = 2) : bondN p = 4 := by simp [bondN, h]
theorem bondN_3 {p : Int} (h : p = 3) : bondN p = 6 := by simp [bondN, h]
theorem bondN_4 {p : Int} (h0 : p ≠ 0) (h1 : p ≠ 1) (h2 : p ≠ 2) (h3 : p ≠ 3) : bondN p = 0 := by simp [bondN, h0, h1, h2, h3]
theorem bond_le (c : List (List Int)) (i j : Int) : -1 ≤ bond c i j ∧ bond c i j ≤ 6 := by
  unfold bond bondN
  split
  · split
    · omega
    · split
      · omega
      · split
        · omega
        · split
          · omega
          · split <;> omega
  · omega

/-- Two letters in turn. -/
def altTo (i j : Int) (k : Nat) : List Int := (List.range k).map fun t => if t % 2 = 0 then i else j
def alt (i j n : Int) : List Int := altTo i j (min n.toNat 15)
theorem altTo_len (i j : Int) (k : Nat) : (altTo i j k).length = k := by simp [altTo]
theorem altTo_none (i j : Int) : altTo i j 0 = [] := rfl
theorem altTo_succ (i j : Int) (k : Nat) : altTo i j (k + 1) = altTo i j k ++ [if k % 2 = 0 then i else j] := by
  unfold altTo
  rw [List.range_succ, List.map_append]
  rfl
theorem altTo_even {i j : Int} {k : Nat} (h : (k : Int).tmod 2 = 0) : altTo i j (k + 1) = altTo i j k ++ [i] := by
  have e : (k : Int).tmod 2 = ((k % 2 : Nat) : Int) := rfl
  rw [altTo_succ, if_pos (by omega)]
theorem altTo_odd {i j : Int} {k : Nat} (h : (k : Int).tmod 2 ≠ 0) : altTo i j (k + 1) = altTo i j k ++ [j] := by
  have e : (k : Int).tmod 2 = ((k % 2 : Nat) : Int) := rfl
  rw [altTo_succ, if_neg (by omega)]
theorem alt_len (i j n : Int) : (alt i j n).length ≤ 15 := by
  unfold alt
  rw [altTo_len]
  omega
theorem alt_length {i j : Int} {m : Nat} (h : m ≤ 15) : (alt i j m).length = m := by
  unfold alt
  rw [altTo_len]
  omega
theorem alt_of {i j n : Int} {k : Nat} (h : min n.toNat 15 = k) : alt i j n = altTo i j k := by
  unfold alt
  rw [h]

/-- A braid move can be made at place k; it is made. -/
def brM (c : List (List Int)) (w : List Int) (k : Nat) : Nat := (bond c (w.getD k 0) (w.getD (k + 1) 0)).toNat
def brN (c : List (List Int)) (w : List Int) (k : Nat) : Bool :=
  decide (w.getD k 0 ≠ w.getD (k + 1) 0) && decide (2 ≤ bond c (w.getD k 0) (w.getD (k + 1) 0)) && decide (k + brM c w k ≤ w.length) &&
    decide ((w.take (k + brM c w k)).drop k = alt (w.getD k 0) (w.getD (k + 1) 0) (brM c w k))
def brW (c : List (List Int)) (w : List Int) (k : Nat) : List Int := w.take k ++ (alt (w.getD (k + 1) 0) (w.getD k 0) (brM c w k) ++ w.drop (k + brM c w k))
def brOk (c : List (List Int)) (w : List Int) (n : Int) : Bool := isWord c w && (decide (0 ≤ n) && decide (n ≤ (w.length : Int) - 2)) && brN c w n.toNat
def braid (c : List (List Int)) (w : List Int) (n : Int) : List Int := if brOk c w n then brW c w n.toNat else w

theorem brOk_off {c : List (List Int)} {w : List Int} {n : Int} (h : isWord c w = false ∨ n < 0 ∨ n > (w.length : Int) - 2) : brOk c w n = false := by
  rcases h with h | h | h
  · simp [brOk, h]
  · have : decide (0 ≤ n) = false := decide_eq_false (by omega)
    simp [brOk, this]
  · have : decide (n ≤ (w.length : Int) - 2) = false := decide_eq_false (by omega)
    simp [brOk, this]
theorem brOk_at {c : List (List Int)} {w : List Int} {k : Nat} (h : isWord c w = true) (h2 : k + 2 ≤ w.length) : brOk c w k = brN c w k := by
  have h3 : decide ((k : Int) ≤ (w.length : Int) - 2) = true := decide_eq_true (by omega)
  simp [brOk, h, h3]
theorem braid_off {c : List (List Int)} {w : List Int} {n : Int} (h : brOk c w n = false) : braid c w n = w := by simp [braid, h]
theorem braid_on {c : List (List Int)} {w : List Int} {k : Nat} (h : brOk c w k = true) : braid c w k = brW c w k := by simp [braid, h]
theorem brN_eq {c : List (List Int)} {w : List Int} {k : Nat} (h : w.getD k 0 = w.getD (k + 1) 0) : brN c w k = false := by
  have : decide (w.getD k 0 ≠ w.getD (k + 1) 0) = false := decide_eq_false (fun hn => hn h)
  simp only [brN, this, Bool.false_and]
theorem brN_small {c : List (List Int)} {w : List Int} {k : Nat} (h : bond c (w.getD k 0) (w.getD (k + 1) 0) < 2) : brN c w k = false := by
  have : decide (2 ≤ bond c (w.getD k 0) (w.getD (k + 1) 0)) = false := decide_eq_false (by omega)
  simp only [brN, this, Bool.and_false, Bool.false_and]
theorem brN_long {c : List (List Int)} {w : List Int} {k : Nat} (h : ¬ k + brM c w k ≤ w.length) : brN c w k = false := by
  simp only [brN, h, decide_false, Bool.and_false, Bool.false_and]
theorem brN_of {c : List (List Int)} {w : List Int} {k m : Nat} (h1 : w.getD k 0 ≠ w.getD (k + 1) 0) (h2 : bond c (w.getD k 0) (w.getD (k + 1) 0) = m) (h3 : 2 ≤ m) (h4 : k + m ≤ w.length) :
    brM c w k = m ∧ brN c w k = decide ((w.take (k + m)).drop k = alt (w.getD k 0) (w.getD (k + 1) 0) m) := by
  have e : brM c w k = m := by
    unfold brM
    rw [h2]
    omega
  refine ⟨e, ?_⟩
  have d1 : decide (w.getD k 0 ≠ w.getD (k + 1) 0) = true := decide_eq_true h1
  have d2 : decide (2 ≤ bond c (w.getD k 0) (w.getD (k + 1) 0)) = true := decide_eq_true (by rw [h2]; omega)
  have d3 : decide (k + brM c w k ≤ w.length) = true := decide_eq_true (by rw [e]; exact h4)
  unfold brN
  rw [d1, d2, d3, e]
  rfl
theorem brW_len {c : List (List Int)} {w : List Int} {k : Nat} (h : isWord c w = true) (h2 : brN c w k = true) : (brW c w k).length = w.length := by
  have hl := (word_cartan h).2.1
  simp only [brN, Bool.and_eq_true, decide_eq_true_eq] at h2
  have h3 := h2.1.2
  unfold brW
  have := alt_length (i := w.getD (k + 1) 0) (j := w.getD k 0) (m := brM c w k) (by omega)
  simp only [List.length_append, List.length_take, List.length_drop, this]
  omega
theorem braid_len (c : List (List Int)) (w : List Int) (n : Int) : (braid c w n).length ≤ w.length + 15 := by
  unfold braid
  split
  · unfold brW
    have := alt_len (w.getD (n.toNat + 1) 0) (w.getD n.toNat 0) (brM c w n.toNat)
    simp only [List.length_append, List.length_take, List.length_drop]
    omega
  · omega
theorem letter_point {c : List (List Int)} {w : List Int} (h : lettersOk c w = true) {k : Nat} (hk : k < w.length) : isPoint c (w.getD k 0) = true := by
  have := List.all_eq_true.1 h w[k] (List.getElem_mem hk)
  simpa [List.getD, hk] using this
theorem flat3 (a b c : List Int) : [a, b, c].flatten = a ++ (b ++ c) := by simp
theorem tot3 (a b c : List Int) : tot [a, b, c] = a.length + (b.length + c.length) := by simp [tot]
theorem one3 {x y z : H0} (hx : x.one = true) (hy : y.one = true) (hz : z.one = true) : ∀ c ∈ [x, y, z], c.one = true := by
  intro c hc
  simp only [List.mem_cons, List.not_mem_nil, or_false] at hc
  rcases hc with rfl | rfl | rfl
  · exact hx
  · exact hy
  · exact hz

theorem iEq {a b : Int} (h : b = a) : I a = I b := by rw [h]


theorem impl_BondOf (h : Heap) (x : H0) (c : List (List Int)) (i j : Int) (hx : Rows h x c) (hcl : c.length ≤ 1048576) : HCalls dm Try.prog 74 [.s x, I i, I j] h (fun r h' => r = I (bond c i j) ∧ h' = h) := by
  obtain ⟨v, hv⟩ : ∃ v, v = bond c i j := ⟨_, rfl⟩
  rw [← hv]
  refine calls_of_hFun (m := 0) kd_ok mixed Try.func74 rfl (by kernel_rfl) rfl rfl (of_decide_eq_true rfl) ?_; unfold hFun; (conv => whnf)
  refine (impl_IsCartan _ _ _ hx (by omega)).mono ?_
  rintro r h' ⟨rfl, rfl⟩
  (conv => whnf)
  cases hic : isCartan c
  · (repeat (first | (refine ⟨rfl, Ints.len (by assumption) ?_⟩; conv => whnf) | (refine ⟨rfl, Rows.len (by assumption) ?_⟩; conv => whnf) | (refine ⟨rfl, HLen.sl ?_⟩; conv => whnf) | (refine ⟨rfl, At.load (by assumption) ?_⟩; conv => whnf) | (refine HIf.yes ?_; conv => whnf) | (refine HIf.no ?_; conv => whnf) | (refine HIf.isT (by assumption) ?_; conv => whnf) | (refine HIf.isF (by assumption) ?_; conv => whnf) | (refine HIf.decT (by assumption) ?_; conv => whnf) | (refine HIf.decF (by assumption) ?_; conv => whnf) | (refine HIf.beqT (by assumption) ?_; conv => whnf) | (refine HIf.beqF (by assumption) ?_; conv => whnf) | (refine HIf.bneT (by assumption) ?_; conv => whnf) | (refine HIf.bneF (by assumption) ?_; conv => whnf) | (refine ⟨rfl, Ints.idxN (by assumption) (by omega) (fun p hp => ?_)⟩; conv => whnf) | (refine ⟨rfl, Rows.idxN (by assumption) (by omega) (fun p y hp hy => ?_)⟩; conv => whnf) | (refine And.intro (show Kd.isBool _ = true from rfl) ?_; conv => whnf) | (refine ⟨rfl, Ints.idx (by assumption) (by omega) (by omega) (fun p hp => ?_)⟩; conv => whnf) | (refine ⟨rfl, Rows.idx (by assumption) (by omega) (by omega) (fun p y hp hy => ?_)⟩; conv => whnf) | (refine HArith.fits (by omega) (by omega) ?_; conv => whnf) | (refine Or.inl (And.intro (show Region.lexB _ _ = true by kernel_rfl) ?_); conv => whnf)))
    exact ⟨iEq (by rw [hv, bond_off (Or.inl hic)]), rfl⟩
  (repeat (first | (refine ⟨rfl, Ints.len (by assumption) ?_⟩; conv => whnf) | (refine ⟨rfl, Rows.len (by assumption) ?_⟩; conv => whnf) | (refine ⟨rfl, HLen.sl ?_⟩; conv => whnf) | (refine ⟨rfl, At.load (by assumption) ?_⟩; conv => whnf) | (refine HIf.yes ?_; conv => whnf) | (refine HIf.no ?_; conv => whnf) | (refine HIf.isT (by assumption) ?_; conv => whnf) | (refine HIf.isF (by assumption) ?_; conv => whnf) | (refine HIf.decT (by assumption) ?_; conv => whnf) | (refine HIf.decF (by assumption) ?_; conv => whnf) | (refine HIf.beqT (by assumption) ?_; conv => whnf) | (refine HIf.beqF (by assumption) ?_; conv => whnf) | (refine HIf.bneT (by assumption) ?_; conv => whnf) | (refine HIf.bneF (by assumption) ?_; conv => whnf) | (refine ⟨rfl, Ints.idxN (by assumption) (by omega) (fun p hp => ?_)⟩; conv => whnf) | (refine ⟨rfl, Rows.idxN (by assumption) (by omega) (fun p y hp hy => ?_)⟩; conv => whnf) | (refine And.intro (show Kd.isBool _ = true from rfl) ?_; conv => whnf) | (refine ⟨rfl, Ints.idx (by assumption) (by omega) (by omega) (fun p hp => ?_)⟩; conv => whnf) | (refine ⟨rfl, Rows.idx (by assumption) (by omega) (by omega) (fun p y hp hy => ?_)⟩; conv => whnf) | (refine HArith.fits (by omega) (by omega) ?_; conv => whnf) | (refine Or.inl (And.intro (show Region.lexB _ _ = true by kernel_rfl) ?_); conv => whnf)))
  refine (impl_isPoint _ _ _ _ hx).mono ?_
  rintro r h' ⟨rfl, rfl⟩
  (conv => whnf)
  cases hip : isPoint c i
  · (repeat (first | (refine ⟨rfl, Ints.len (by assumption) ?_⟩; conv => whnf) | (refine ⟨rfl, Rows.len (by assumption) ?_⟩; conv => whnf) | (refine ⟨rfl, HLen.sl ?_⟩; conv => whnf) | (refine ⟨rfl, At.load (by assumption) ?_⟩; conv => whnf) | (refine HIf.yes ?_; conv => whnf) | (refine HIf.no ?_; conv => whnf) | (refine HIf.isT (by assumption) ?_; conv => whnf) | (refine HIf.isF (by assumption) ?_; conv => whnf) | (refine HIf.decT (by assumption) ?_; conv => whnf) | (refine HIf.decF (by assumption) ?_; conv => whnf) | (refine HIf.beqT (by assumption) ?_; conv => whnf) | (refine HIf.beqF (by assumption) ?_; conv => whnf) | (refine HIf.bneT (by assumption) ?_; conv => whnf) | (refine HIf.bneF (by assumption) ?_; conv => whnf) | (refine ⟨rfl, Ints.idxN (by assumption) (by omega) (fun p hp => ?_)⟩; conv => whnf) | (refine ⟨rfl, Rows.idxN (by assumption) (by omega) (fun p y hp hy => ?_)⟩; conv => whnf) | (refine And.intro (show Kd.isBool _ = true from rfl) ?_; conv => whnf) | (refine ⟨rfl, Ints.idx (by assumption) (by omega) (by omega) (fun p hp => ?_)⟩; conv => whnf) | (refine ⟨rfl, Rows.idx (by assumption) (by omega) (by omega) (fun p y hp hy => ?_)⟩; conv => whnf) | (refine HArith.fits (by omega) (by omega) ?_; conv => whnf) | (refine Or.inl (And.intro (show Region.lexB _ _ = true by kernel_rfl) ?_); conv => whnf)))
    exact ⟨iEq (by rw [hv, bond_off (Or.inr (Or.inl hip))]), rfl⟩
  (repeat (first | (refine ⟨rfl, Ints.len (by assumption) ?_⟩; conv => whnf) | (refine ⟨rfl, Rows.len (by assumption) ?_⟩; conv => whnf) | (refine ⟨rfl, HLen.sl ?_⟩; conv => whnf) | (refine ⟨rfl, At.load (by assumption) ?_⟩; conv => whnf) | (refine HIf.yes ?_; conv => whnf) | (refine HIf.no ?_; conv => whnf) | (refine HIf.isT (by assumption) ?_; conv => whnf) | (refine HIf.isF (by assumption) ?_; conv => whnf) | (refine HIf.decT (by assumption) ?_; conv => whnf) | (refine HIf.decF (by assumption) ?_; conv => whnf) | (refine HIf.beqT (by assumption) ?_; conv => whnf) | (refine HIf.beqF (by assumption) ?_; conv => whnf) | (refine HIf.bneT (by assumption) ?_; conv => whnf) | (refine HIf.bneF (by assumption) ?_; conv => whnf) | (refine ⟨rfl, Ints.idxN (by assumption) (by omega) (fun p hp => ?_)⟩; conv => whnf) | (refine ⟨rfl, Rows.idxN (by assumption) (by omega) (fun p y hp hy => ?_)⟩; conv => whnf) | (refine And.intro (show Kd.isBool _ = true from rfl) ?_; conv => whnf) | (refine ⟨rfl, Ints.idx (by assumption) (by omega) (by omega) (fun p hp => ?_)⟩; conv => whnf) | (refine ⟨rfl, Rows.idx (by assumption) (by omega) (by omega) (fun p y hp hy => ?_)⟩; conv => whnf) | (refine HArith.fits (by omega) (by omega) ?_; conv => whnf) | (refine Or.inl (And.intro (show Region.lexB _ _ = true by kernel_rfl) ?_); conv => whnf)))
  refine (impl_isPoint _ _ _ _ hx).mono ?_
  rintro r h' ⟨rfl, rfl⟩
  (conv => whnf)
  cases hjp : isPoint c j
  · (repeat (first | (refine ⟨rfl, Ints.len (by assumption) ?_⟩; conv => whnf) | (refine ⟨rfl, Rows.len (by assumption) ?_⟩; conv => whnf) | (refine ⟨rfl, HLen.sl ?_⟩; conv => whnf) | (refine ⟨rfl, At.load (by assumption) ?_⟩; conv => whnf) | (refine HIf.yes ?_; conv => whnf) | (refine HIf.no ?_; conv => whnf) | (refine HIf.isT (by assumption) ?_; conv => whnf) | (refine HIf.isF (by assumption) ?_; conv => whnf) | (refine HIf.decT (by assumption) ?_; conv => whnf) | (refine HIf.decF (by assumption) ?_; conv => whnf) | (refine HIf.beqT (by assumption) ?_; conv => whnf) | (refine HIf.beqF (by assumption) ?_; conv => whnf) | (refine HIf.bneT (by assumption) ?_; conv => whnf) | (refine HIf.bneF (by assumption) ?_; conv => whnf) | (refine ⟨rfl, Ints.idxN (by assumption) (by omega) (fun p hp => ?_)⟩; conv => whnf) | (refine ⟨rfl, Rows.idxN (by assumption) (by omega) (fun p y hp hy => ?_)⟩; conv => whnf) | (refine And.intro (show Kd.isBool _ = true from rfl) ?_; conv => whnf) | (refine ⟨rfl, Ints.idx (by assumption) (by omega) (by omega) (fun p hp => ?_)⟩; conv => whnf) | (refine ⟨rfl, Rows.idx (by assumption) (by omega) (by omega) (fun p y hp hy => ?_)⟩; conv => whnf) | (refine HArith.fits (by omega) (by omega) ?_; conv => whnf) | (refine Or.inl (And.intro (show Region.lexB _ _ = true by kernel_rfl) ?_); conv => whnf)))
    exact ⟨iEq (by rw [hv, bond_off (Or.inr (Or.inr hjp))]), rfl⟩
  by_cases hij : i = j
  · (repeat (first | (refine ⟨rfl, Ints.len (by assumption) ?_⟩; conv => whnf) | (refine ⟨rfl, Rows.len (by assumption) ?_⟩; conv => whnf) | (refine ⟨rfl, HLen.sl ?_⟩; conv => whnf) | (refine ⟨rfl, At.load (by assumption) ?_⟩; conv => whnf) | (refine HIf.yes ?_; conv => whnf) | (refine HIf.no ?_; conv => whnf) | (refine HIf.isT (by assumption) ?_; conv => whnf) | (refine HIf.isF (by assumption) ?_; conv => whnf) | (refine HIf.decT (by assumption) ?_; conv => whnf) | (refine HIf.decF (by assumption) ?_; conv => whnf) | (refine HIf.beqT (by assumption) ?_; conv => whnf) | (refine HIf.beqF (by assumption) ?_; conv => whnf) | (refine HIf.bneT (by assumption) ?_; conv => whnf) | (refine HIf.bneF (by assumption) ?_; conv => whnf) | (refine ⟨rfl, Ints.idxN (by assumption) (by omega) (fun p hp => ?_)⟩; conv => whnf) | (refine ⟨rfl, Rows.idxN (by assumption) (by omega) (fun p y hp hy => ?_)⟩; conv => whnf) | (refine And.intro (show Kd.isBool _ = true from rfl) ?_; conv => whnf) | (refine ⟨rfl, Ints.idx (by assumption) (by omega) (by omega) (fun p hp => ?_)⟩; conv => whnf) | (refine ⟨rfl, Rows.idx (by assumption) (by omega) (by omega) (fun p y hp hy => ?_)⟩; conv => whnf) | (refine HArith.fits (by omega) (by omega) ?_; conv => whnf) | (refine Or.inl (And.intro (show Region.lexB _ _ = true by kernel_rfl) ?_); conv => whnf)))
    exact ⟨iEq (by rw [hv, bond_eq hic hip hjp hij]), rfl⟩
  have hC := (isCartan_iff c).1 hic
  have p1 := point_of hip
  have p2 := point_of hjp
  have r1 := hC.row i.toNat (by omega)
  have r2 := hC.row j.toNat (by omega)
  obtain ⟨a, rfl⟩ : ∃ a : Nat, i = a := ⟨i.toNat, by omega⟩
  obtain ⟨b, rfl⟩ : ∃ b : Nat, j = b := ⟨j.toNat, by omega⟩
  have ea : (a : Int).toNat = a := by omega
  have eb : (b : Int).toNat = b := by omega
  rw [ea] at r1
  rw [eb] at r2
  have key : v = bondN (w64 (ent c a b * ent c b a)) := by rw [hv, bond_ne hic hip hjp hij, ea, eb]
  (repeat (first | (refine HIf.yes ?_; conv => whnf) | (refine HIf.no ?_; conv => whnf) | (refine HIf.beqF (by assumption) ?_; conv => whnf)))
  refine Or.inl (And.intro (show Region.lexB _ _ = true by kernel_rfl) ?_); (conv => whnf)
  refine ⟨rfl, Rows.idxN hx (by omega) (fun p z hp hz => ?_)⟩
  (conv => whnf)
  refine ⟨rfl, hp.load ?_⟩
  (conv => whnf)
  refine ⟨rfl, Ints.idxN hz (by omega) (fun q hq => ?_)⟩
  (conv => whnf)
  refine ⟨rfl, hq.load ?_⟩
  (conv => whnf)
  refine ⟨rfl, Rows.idxN hx (by omega) (fun p3 z3 hp3 hz3 => ?_)⟩
  (conv => whnf)
  refine ⟨rfl, hp3.load ?_⟩
  (conv => whnf)
  refine ⟨rfl, Ints.idxN hz3 (by omega) (fun q3 hq3 => ?_)⟩
  (conv => whnf)
  refine ⟨rfl, hq3.load ?_⟩
  (conv => whnf)
  refine HArith.any ?_
  rw [ent_eq, ent_eq]
  (conv => whnf)
  refine HIf.beq (fun e0 => ?_) (fun e0 => ?_)
  · (conv => whnf)
    exact ⟨iEq (by rw [key, bondN_0 e0]), rfl⟩
  (conv => whnf)
  refine HIf.beq (fun e1 => ?_) (fun e1 => ?_)
  · (conv => whnf)
    exact ⟨iEq (by rw [key, bondN_1 e1]), rfl⟩
  (conv => whnf)
  refine HIf.beq (fun e2 => ?_) (fun e2 => ?_)
  · (conv => whnf)
    exact ⟨iEq (by rw [key, bondN_2 e2]), rfl⟩
  (conv => whnf)
  refine HIf.beq (fun e3 => ?_) (fun e3 => ?_)
  · (conv => whnf)
    exact ⟨iEq (by rw [key, bondN_3 e3]), rfl⟩
  (conv => whnf)
  exact ⟨iEq (by rw [key, bondN_4 e0 e1 e2 e3]), rfl⟩

theorem spec_BondOf (h : Heap) (x : H0) (c : List (List Int)) (i j : Int) (hx : Rows h x c) (hcl : c.length ≤ 1048576) : HCalls dm Try.prog 40 [.s x, I i, I j] h (fun r h' => r = I (bond c i j) ∧ h' = h) := by
  obtain ⟨v, hv⟩ : ∃ v, v = bond c i j := ⟨_, rfl⟩
  rw [← hv]
  refine calls_of_hFun (m := 0) kd_ok mixed Try.func40 rfl (by kernel_rfl) rfl rfl (of_decide_eq_true rfl) ?_; unfold hFun; (conv => whnf)
  refine (spec_IsCartan _ _ _ hx (by omega)).mono ?_
  rintro r h' ⟨rfl, rfl⟩
  (conv => whnf)
  cases hic : isCartan c
  · (repeat (first | (refine ⟨rfl, Ints.len (by assumption) ?_⟩; conv => whnf) | (refine ⟨rfl, Rows.len (by assumption) ?_⟩; conv => whnf) | (refine ⟨rfl, HLen.sl ?_⟩; conv => whnf) | (refine ⟨rfl, At.load (by assumption) ?_⟩; conv => whnf) | (refine HIf.yes ?_; conv => whnf) | (refine HIf.no ?_; conv => whnf) | (refine HIf.isT (by assumption) ?_; conv => whnf) | (refine HIf.isF (by assumption) ?_; conv => whnf) | (refine HIf.decT (by assumption) ?_; conv => whnf) | (refine HIf.decF (by assumption) ?_; conv => whnf) | (refine HIf.beqT (by assumption) ?_; conv => whnf) | (refine HIf.beqF (by assumption) ?_; conv => whnf) | (refine HIf.bneT (by assumption) ?_; conv => whnf) | (refine HIf.bneF (by assumption) ?_; conv => whnf) | (refine ⟨rfl, Ints.idxN (by assumption) (by omega) (fun p hp => ?_)⟩; conv => whnf) | (refine ⟨rfl, Rows.idxN (by assumption) (by omega) (fun p y hp hy => ?_)⟩; conv => whnf) | (refine And.intro (show Kd.isBool _ = true from rfl) ?_; conv => whnf) | (refine ⟨rfl, Ints.idx (by assumption) (by omega) (by omega) (fun p hp => ?_)⟩; conv => whnf) | (refine ⟨rfl, Rows.idx (by assumption) (by omega) (by omega) (fun p y hp hy => ?_)⟩; conv => whnf) | (refine HArith.fits (by omega) (by omega) ?_; conv => whnf) | (refine Or.inl (And.intro (show Region.lexB _ _ = true by kernel_rfl) ?_); conv => whnf)))
    exact ⟨iEq (by rw [hv, bond_off (Or.inl hic)]), rfl⟩
  (repeat (first | (refine ⟨rfl, Ints.len (by assumption) ?_⟩; conv => whnf) | (refine ⟨rfl, Rows.len (by assumption) ?_⟩; conv => whnf) | (refine ⟨rfl, HLen.sl ?_⟩; conv => whnf) | (refine ⟨rfl, At.load (by assumption) ?_⟩; conv => whnf) | (refine HIf.yes ?_; conv => whnf) | (refine HIf.no ?_; conv => whnf) | (refine HIf.isT (by assumption) ?_; conv => whnf) | (refine HIf.isF (by assumption) ?_; conv => whnf) | (refine HIf.decT (by assumption) ?_; conv => whnf) | (refine HIf.decF (by assumption) ?_; conv => whnf) | (refine HIf.beqT (by assumption) ?_; conv => whnf) | (refine HIf.beqF (by assumption) ?_; conv => whnf) | (refine HIf.bneT (by assumption) ?_; conv => whnf) | (refine HIf.bneF (by assumption) ?_; conv => whnf) | (refine ⟨rfl, Ints.idxN (by assumption) (by omega) (fun p hp => ?_)⟩; conv => whnf) | (refine ⟨rfl, Rows.idxN (by assumption) (by omega) (fun p y hp hy => ?_)⟩; conv => whnf) | (refine And.intro (show Kd.isBool _ = true from rfl) ?_; conv => whnf) | (refine ⟨rfl, Ints.idx (by assumption) (by omega) (by omega) (fun p hp => ?_)⟩; conv => whnf) | (refine ⟨rfl, Rows.idx (by assumption) (by omega) (by omega) (fun p y hp hy => ?_)⟩; conv => whnf) | (refine HArith.fits (by omega) (by omega) ?_; conv => whnf) | (refine Or.inl (And.intro (show Region.lexB _ _ = true by kernel_rfl) ?_); conv => whnf)))
  refine (spec_l1In _ _ _ _).mono ?_
  rintro r h' ⟨rfl, rfl⟩
  rw [isPoint_l1]
  (conv => whnf)
  cases hip : isPoint c i
  · (repeat (first | (refine ⟨rfl, Ints.len (by assumption) ?_⟩; conv => whnf) | (refine ⟨rfl, Rows.len (by assumption) ?_⟩; conv => whnf) | (refine ⟨rfl, HLen.sl ?_⟩; conv => whnf) | (refine ⟨rfl, At.load (by assumption) ?_⟩; conv => whnf) | (refine HIf.yes ?_; conv => whnf) | (refine HIf.no ?_; conv => whnf) | (refine HIf.isT (by assumption) ?_; conv => whnf) | (refine HIf.isF (by assumption) ?_; conv => whnf) | (refine HIf.decT (by assumption) ?_; conv => whnf) | (refine HIf.decF (by assumption) ?_; conv => whnf) | (refine HIf.beqT (by assumption) ?_; conv => whnf) | (refine HIf.beqF (by assumption) ?_; conv => whnf) | (refine HIf.bneT (by assumption) ?_; conv => whnf) | (refine HIf.bneF (by assumption) ?_; conv => whnf) | (refine ⟨rfl, Ints.idxN (by assumption) (by omega) (fun p hp => ?_)⟩; conv => whnf) | (refine ⟨rfl, Rows.idxN (by assumption) (by omega) (fun p y hp hy => ?_)⟩; conv => whnf) | (refine And.intro (show Kd.isBool _ = true from rfl) ?_; conv => whnf) | (refine ⟨rfl, Ints.idx (by assumption) (by omega) (by omega) (fun p hp => ?_)⟩; conv => whnf) | (refine ⟨rfl, Rows.idx (by assumption) (by omega) (by omega) (fun p y hp hy => ?_)⟩; conv => whnf) | (refine HArith.fits (by omega) (by omega) ?_; conv => whnf) | (refine Or.inl (And.intro (show Region.lexB _ _ = true by kernel_rfl) ?_); conv => whnf)))
    exact ⟨iEq (by rw [hv, bond_off (Or.inr (Or.inl hip))]), rfl⟩
  (repeat (first | (refine ⟨rfl, Ints.len (by assumption) ?_⟩; conv => whnf) | (refine ⟨rfl, Rows.len (by assumption) ?_⟩; conv => whnf) | (refine ⟨rfl, HLen.sl ?_⟩; conv => whnf) | (refine ⟨rfl, At.load (by assumption) ?_⟩; conv => whnf) | (refine HIf.yes ?_; conv => whnf) | (refine HIf.no ?_; conv => whnf) | (refine HIf.isT (by assumption) ?_; conv => whnf) | (refine HIf.isF (by assumption) ?_; conv => whnf) | (refine HIf.decT (by assumption) ?_; conv => whnf) | (refine HIf.decF (by assumption) ?_; conv => whnf) | (refine HIf.beqT (by assumption) ?_; conv => whnf) | (refine HIf.beqF (by assumption) ?_; conv => whnf) | (refine HIf.bneT (by assumption) ?_; conv => whnf) | (refine HIf.bneF (by assumption) ?_; conv => whnf) | (refine ⟨rfl, Ints.idxN (by assumption) (by omega) (fun p hp => ?_)⟩; conv => whnf) | (refine ⟨rfl, Rows.idxN (by assumption) (by omega) (fun p y hp hy => ?_)⟩; conv => whnf) | (refine And.intro (show Kd.isBool _ = true from rfl) ?_; conv => whnf) | (refine ⟨rfl, Ints.idx (by assumption) (by omega) (by omega) (fun p hp => ?_)⟩; conv => whnf) | (refine ⟨rfl, Rows.idx (by assumption) (by omega) (by omega) (fun p y hp hy => ?_)⟩; conv => whnf) | (refine HArith.fits (by omega) (by omega) ?_; conv => whnf) | (refine Or.inl (And.intro (show Region.lexB _ _ = true by kernel_rfl) ?_); conv => whnf)))
  refine (spec_l1In _ _ _ _).mono ?_
  rintro r h' ⟨rfl, rfl⟩
  rw [isPoint_l1]
  (conv => whnf)
  cases hjp : isPoint c j
  · (repeat (first | (refine ⟨rfl, Ints.len (by assumption) ?_⟩; conv => whnf) | (refine ⟨rfl, Rows.len (by assumption) ?_⟩; conv => whnf) | (refine ⟨rfl, HLen.sl ?_⟩; conv => whnf) | (refine ⟨rfl, At.load (by assumption) ?_⟩; conv => whnf) | (refine HIf.yes ?_; conv => whnf) | (refine HIf.no ?_; conv => whnf) | (refine HIf.isT (by assumption) ?_; conv => whnf) | (refine HIf.isF (by assumption) ?_; conv => whnf) | (refine HIf.decT (by assumption) ?_; conv => whnf) | (refine HIf.decF (by assumption) ?_; conv => whnf) | (refine HIf.beqT (by assumption) ?_; conv => whnf) | (refine HIf.beqF (by assumption) ?_; conv => whnf) | (refine HIf.bneT (by assumption) ?_; conv => whnf) | (refine HIf.bneF (by assumption) ?_; conv => whnf) | (refine ⟨rfl, Ints.idxN (by assumption) (by omega) (fun p hp => ?_)⟩; conv => whnf) | (refine ⟨rfl, Rows.idxN (by assumption) (by omega) (fun p y hp hy => ?_)⟩; conv => whnf) | (refine And.intro (show Kd.isBool _ = true from rfl) ?_; conv => whnf) | (refine ⟨rfl, Ints.idx (by assumption) (by omega) (by omega) (fun p hp => ?_)⟩; conv => whnf) | (refine ⟨rfl, Rows.idx (by assumption) (by omega) (by omega) (fun p y hp hy => ?_)⟩; conv => whnf) | (refine HArith.fits (by omega) (by omega) ?_; conv => whnf) | (refine Or.inl (And.intro (show Region.lexB _ _ = true by kernel_rfl) ?_); conv => whnf)))
    exact ⟨iEq (by rw [hv, bond_off (Or.inr (Or.inr hjp))]), rfl⟩
  by_cases hij : i = j
  · (repeat (first | (refine ⟨rfl, Ints.len (by assumption) ?_⟩; conv => whnf) | (refine ⟨rfl, Rows.len (by assumption) ?_⟩; conv => whnf) | (refine ⟨rfl, HLen.sl ?_⟩; conv => whnf) | (refine ⟨rfl, At.load (by assumption) ?_⟩; conv => whnf) | (refine HIf.yes ?_; conv => whnf) | (refine HIf.no ?_; conv => whnf) | (refine HIf.isT (by assumption) ?_; conv => whnf) | (refine HIf.isF (by assumption) ?_; conv => whnf) | (refine HIf.decT (by assumption) ?_; conv => whnf) | (refine HIf.decF (by assumption) ?_; conv => whnf) | (refine HIf.beqT (by assumption) ?_; conv => whnf) | (refine HIf.beqF (by assumption) ?_; conv => whnf) | (refine HIf.bneT (by assumption) ?_; conv => whnf) | (refine HIf.bneF (by assumption) ?_; conv => whnf) | (refine ⟨rfl, Ints.idxN (by assumption) (by omega) (fun p hp => ?_)⟩; conv => whnf) | (refine ⟨rfl, Rows.idxN (by assumption) (by omega) (fun p y hp hy => ?_)⟩; conv => whnf) | (refine And.intro (show Kd.isBool _ = true from rfl) ?_; conv => whnf) | (refine ⟨rfl, Ints.idx (by assumption) (by omega) (by omega) (fun p hp => ?_)⟩; conv => whnf) | (refine ⟨rfl, Rows.idx (by assumption) (by omega) (by omega) (fun p y hp hy => ?_)⟩; conv => whnf) | (refine HArith.fits (by omega) (by omega) ?_; conv => whnf) | (refine Or.inl (And.intro (show Region.lexB _ _ = true by kernel_rfl) ?_); conv => whnf)))
    exact ⟨iEq (by rw [hv, bond_eq hic hip hjp hij]), rfl⟩
  have hC := (isCartan_iff c).1 hic
  have p1 := point_of hip
  have p2 := point_of hjp
  have r1 := hC.row i.toNat (by omega)
  have r2 := hC.row j.toNat (by omega)
  obtain ⟨a, rfl⟩ : ∃ a : Nat, i = a := ⟨i.toNat, by omega⟩
  obtain ⟨b, rfl⟩ : ∃ b : Nat, j = b := ⟨j.toNat, by omega⟩
  have ea : (a : Int).toNat = a := by omega
  have eb : (b : Int).toNat = b := by omega
  rw [ea] at r1
  rw [eb] at r2
  have key : v = bondN (w64 (ent c a b * ent c b a)) := by rw [hv, bond_ne hic hip hjp hij, ea, eb]
  (repeat (first | (refine HIf.yes ?_; conv => whnf) | (refine HIf.no ?_; conv => whnf) | (refine HIf.beqF (by assumption) ?_; conv => whnf)))
  refine Or.inl (And.intro (show Region.lexB _ _ = true by kernel_rfl) ?_); (conv => whnf)
  refine ⟨rfl, Rows.idxN hx (by omega) (fun p z hp hz => ?_)⟩
  (conv => whnf)
  refine ⟨rfl, hp.load ?_⟩
  (conv => whnf)
  refine ⟨rfl, Ints.idxN hz (by omega) (fun q hq => ?_)⟩
  (conv => whnf)
  refine ⟨rfl, hq.load ?_⟩
  (conv => whnf)
  refine ⟨rfl, Rows.idxN hx (by omega) (fun p3 z3 hp3 hz3 => ?_)⟩
  (conv => whnf)
  refine ⟨rfl, hp3.load ?_⟩
  (conv => whnf)
  refine ⟨rfl, Ints.idxN hz3 (by omega) (fun q3 hq3 => ?_)⟩
  (conv => whnf)
  refine ⟨rfl, hq3.load ?_⟩
  (conv => whnf)
  refine HArith.any ?_
  rw [ent_eq, ent_eq]
  (conv => whnf)
  refine HIf.beq (fun e0 => ?_) (fun e0 => ?_)
  · (conv => whnf)
    exact ⟨iEq (by rw [key, bondN_0 e0]), rfl⟩
  (conv => whnf)
  refine HIf.beq (fun e1 => ?_) (fun e1 => ?_)
  · (conv => whnf)
    exact ⟨iEq (by rw [key, bondN_1 e1]), rfl⟩
  (conv => whnf)
  refine HIf.beq (fun e2 => ?_) (fun e2 => ?_)
  · (conv => whnf)
    exact ⟨iEq (by rw [key, bondN_2 e2]), rfl⟩
  (conv => whnf)
  refine HIf.beq (fun e3 => ?_) (fun e3 => ?_)
  · (conv => whnf)
    exact ⟨iEq (by rw [key, bondN_3 e3]), rfl⟩
  (conv => whnf)
  exact ⟨iEq (by rw [key, bondN_4 e0 e1 e2 e3]), rfl⟩

theorem impl_AlternatingWord (h : Heap) (i j n : Int) : HCalls dm Try.prog 76 [I i, I j, I n] h (fun r h' => ∃ y, r = .s y ∧ Fresh h h' y (alt i j n)) := by
  have E0 := Ext.push h [Row.own []]
  have O0 := OwnR.push h []
  refine calls_of_hFun (m := 0) kd_ok mixed Try.func76 rfl (by kernel_rfl) rfl rfl (of_decide_eq_true rfl) ?_; unfold hFun; (conv => whnf)
  refine HLit.empty ?_
  (conv => whnf)
  refine HLoop.intro [8, 7] [10, 11, 12, 13, 14, 15, 16, 19, 20, 21, 22, 23, 24, 25, 7, 26, 27, 28, 29, 7, 17, 18, 8] (by kernel_rfl) (by kernel_rfl) (fun vs h' => ∃ (k : Nat) (z : H0) (r : Nat), vs = [I k, .s z] ∧ k ≤ 15 ∧ ((k : Int) ≤ n ∨ k = 0) ∧ Ext h h' ∧ h.length ≤ r ∧ OwnR r h' z (altTo i j k)) (fun vs _ => 15 - natAt vs 0) ⟨0, _, h.length, rfl, by omega, Or.inr rfl, E0, Nat.le_refl _, O0⟩ ?_
  rintro vs h' ⟨k, z, r, rfl, hk, hkn, E, hr, O⟩
  have hal := altTo_len i j k
  have hE := E.1
  (conv => whnf)
  by_cases c1 : (k : Int) < n
  · by_cases c2 : (k : Int) < 15
    · refine HIf.decT c1 ?_
      (conv => whnf)
      refine HIf.decT c1 ?_
      (conv => whnf)
      refine HIf.decT c1 ?_
      (conv => whnf)
      refine HIf.decT c2 ?_
      (conv => whnf)
      refine HRem.of (by decide) ?_
      (conv => whnf)
      refine HIf.beq (fun he => ?_) (fun ho => ?_)
      · (conv => whnf)
        refine HLit.one ?_
        (conv => whnf)
        refine ⟨rfl, rfl, HApp.snocR O (by omega) (fun h3 r3 y3 B3 hr3 O3 => ?_)⟩
        rw [← altTo_even he] at O3
        (conv => whnf)
        refine HArith.fits (by omega) (by omega) ?_
        (conv => whnf)
        exact ⟨⟨k + 1, y3, r3, rfl, by omega, by omega, E.but B3 hr, by omega, O3⟩, by show 15 - (k + 1) < 15 - k; omega⟩
      · (conv => whnf)
        refine HLit.one ?_
        (conv => whnf)
        refine ⟨rfl, rfl, HApp.snocR O (by omega) (fun h3 r3 y3 B3 hr3 O3 => ?_)⟩
        rw [← altTo_odd ho] at O3
        (conv => whnf)
        refine HArith.fits (by omega) (by omega) ?_
        (conv => whnf)
        exact ⟨⟨k + 1, y3, r3, rfl, by omega, by omega, E.but B3 hr, by omega, O3⟩, by show 15 - (k + 1) < 15 - k; omega⟩
    · refine HIf.decT c1 ?_
      (conv => whnf)
      refine HIf.decT c1 ?_
      (conv => whnf)
      refine HIf.decT c1 ?_
      (conv => whnf)
      refine HIf.decF c2 ?_
      (conv => whnf)
      rw [alt_of (k := k) (by omega)]
      exact ⟨_, rfl, Fresh.ofRow E O hr⟩
  · (repeat (first | (refine HIf.decF c1 ?_; conv => whnf) | (refine HIf.no ?_; conv => whnf)))
    rw [alt_of (k := k) (by omega)]
    exact ⟨_, rfl, Fresh.ofRow E O hr⟩

theorem spec_AlternatingWord (h : Heap) (i j n : Int) : HCalls dm Try.prog 42 [I i, I j, I n] h (fun r h' => ∃ y, r = .s y ∧ Fresh h h' y (alt i j n)) := by
  have E0 := Ext.push h [Row.own []]
  have O0 := OwnR.push h []
  refine calls_of_hFun (m := 0) kd_ok mixed Try.func42 rfl (by kernel_rfl) rfl rfl (of_decide_eq_true rfl) ?_; unfold hFun; (conv => whnf)
  refine HLit.empty ?_
  (conv => whnf)
  refine HLoop.intro [8, 7] [10, 11, 12, 13, 14, 15, 16, 19, 20, 21, 22, 23, 24, 25, 7, 26, 27, 28, 29, 7, 17, 18, 8] (by kernel_rfl) (by kernel_rfl) (fun vs h' => ∃ (k : Nat) (z : H0) (r : Nat), vs = [I k, .s z] ∧ k ≤ 15 ∧ ((k : Int) ≤ n ∨ k = 0) ∧ Ext h h' ∧ h.length ≤ r ∧ OwnR r h' z (altTo i j k)) (fun vs _ => 15 - natAt vs 0) ⟨0, _, h.length, rfl, by omega, Or.inr rfl, E0, Nat.le_refl _, O0⟩ ?_
  rintro vs h' ⟨k, z, r, rfl, hk, hkn, E, hr, O⟩
  have hal := altTo_len i j k
  have hE := E.1
  (conv => whnf)
  by_cases c1 : (k : Int) < n
  · by_cases c2 : (k : Int) < 15
    · refine HIf.decT c1 ?_
      (conv => whnf)
      refine HIf.decT c1 ?_
      (conv => whnf)
      refine HIf.decT c1 ?_
      (conv => whnf)
      refine HIf.decT c2 ?_
      (conv => whnf)
      refine HRem.of (by decide) ?_
      (conv => whnf)
      refine HIf.beq (fun he => ?_) (fun ho => ?_)
      · (conv => whnf)
        refine HLit.one ?_
        (conv => whnf)
        refine ⟨rfl, rfl, HApp.snocR O (by omega) (fun h3 r3 y3 B3 hr3 O3 => ?_)⟩
        rw [← altTo_even he] at O3
        (conv => whnf)
        refine HArith.fits (by omega) (by omega) ?_
        (conv => whnf)
        exact ⟨⟨k + 1, y3, r3, rfl, by omega, by omega, E.but B3 hr, by omega, O3⟩, by show 15 - (k + 1) < 15 - k; omega⟩
      · (conv => whnf)
        refine HLit.one ?_
        (conv => whnf)
        refine ⟨rfl, rfl, HApp.snocR O (by omega) (fun h3 r3 y3 B3 hr3 O3 => ?_)⟩
        rw [← altTo_odd ho] at O3
        (conv => whnf)
        refine HArith.fits (by omega) (by omega) ?_
        (conv => whnf)
        exact ⟨⟨k + 1, y3, r3, rfl, by omega, by omega, E.but B3 hr, by omega, O3⟩, by show 15 - (k + 1) < 15 - k; omega⟩
    · refine HIf.decT c1 ?_
      (conv => whnf)
      refine HIf.decT c1 ?_
      (conv => whnf)
      refine HIf.decT c1 ?_
      (conv => whnf)
      refine HIf.decF c2 ?_
      (conv => whnf)
      rw [alt_of (k := k) (by omega)]
      exact ⟨_, rfl, Fresh.ofRow E O hr⟩
  · (repeat (first | (refine HIf.decF c1 ?_; conv => whnf) | (refine HIf.no ?_; conv => whnf)))
    rw [alt_of (k := k) (by omega)]
    exact ⟨_, rfl, Fresh.ofRow E O hr⟩

end Go.Proofs.Ytlddnnkjpcncoaa.Hx
