
/-
  Finite types: what the look at all matrices says of a valid matrix whose principal minors are positive.
-/
import Derived.Test.YtecfgbjddkpkcaaKa
namespace Go.Proofs.Ytecfgbjddkpkcaa.Hx
open Go.RowKit

theorem detZ2 (a b c d : Int) : detZ 2 [[a, b], [c, d]] = a * d - b * c := by
  have e : detZ 2 [[a, b], [c, d]] = 0 + 1 * (a * (0 + 1 * (d * 1))) + -1 * (b * (0 + 1 * (c * 1))) := rfl
  rw [e]
  simp only [Int.zero_add, Int.one_mul, Int.mul_one, Int.neg_mul, Int.sub_eq_add_neg]
theorem detZ3 (a b c d e f g h i : Int) : detZ 3 [[a, b, c], [d, e, f], [g, h, i]] = D3 a b c d e f g h i := by
  have e : detZ 3 [[a, b, c], [d, e, f], [g, h, i]] = 0 + 1 * (a * detZ 2 [[e, f], [h, i]]) + -1 * (b * detZ 2 [[d, f], [g, i]]) + 1 * (c * detZ 2 [[d, e], [g, h]]) := rfl
  rw [e, detZ2, detZ2, detZ2]
  unfold D3
  simp only [Int.zero_add, Int.one_mul, Int.neg_mul, Int.sub_eq_add_neg]
theorem detZ4 (a b c d e f g h i j k l m n o p : Int) : detZ 4 [[a, b, c, d], [e, f, g, h], [i, j, k, l], [m, n, o, p]] = a * D3 f g h j k l n o p - b * D3 e g h i k l m o p + c * D3 e f h i j l m n p - d * D3 e f g i j k m n o := by
  have e : detZ 4 [[a, b, c, d], [e, f, g, h], [i, j, k, l], [m, n, o, p]] = 0 + 1 * (a * detZ 3 [[f, g, h], [j, k, l], [n, o, p]]) + -1 * (b * detZ 3 [[e, g, h], [i, k, l], [m, o, p]]) + 1 * (c * detZ 3 [[e, f, h], [i, j, l], [m, n, p]]) + -1 * (d * detZ 3 [[e, f, g], [i, j, k], [m, n, o]]) := rfl
  rw [e, detZ3, detZ3, detZ3, detZ3]
  simp only [Int.zero_add, Int.one_mul, Int.neg_mul, Int.sub_eq_add_neg]

theorem dt_2 (c : List (List Int)) (m i j : Nat) (h : setB m = [(i : Int), (j : Int)]) : dt c m = ent c i i * ent c j j - ent c i j * ent c j i := by
  unfold dt
  rw [h]
  exact detZ2 _ _ _ _
theorem dt_3 (c : List (List Int)) (m i j k : Nat) (h : setB m = [(i : Int), (j : Int), (k : Int)]) : dt c m = D3 (ent c i i) (ent c i j) (ent c i k) (ent c j i) (ent c j j) (ent c j k) (ent c k i) (ent c k j) (ent c k k) := by
  unfold dt
  rw [h]
  exact detZ3 _ _ _ _ _ _ _ _ _
theorem dt_4 (c : List (List Int)) : dt c 15 = detZ 4 [[ent c 0 0, ent c 0 1, ent c 0 2, ent c 0 3], [ent c 1 0, ent c 1 1, ent c 1 2, ent c 1 3], [ent c 2 0, ent c 2 1, ent c 2 2, ent c 2 3], [ent c 3 0, ent c 3 1, ent c 3 2, ent c 3 3]] := rfl

theorem allPos_get {c : List (List Int)} (h : allPos c = true) (m : Nat) (h1 : 1 ≤ m) (h2 : m < 2 ^ c.length) : 0 < dt c m := by
  have := of_decide_eq_true (List.all_eq_true.1 h (m - 1) (List.mem_range.2 (by omega)))
  have e : m - 1 + 1 = m := by omega
  rw [e] at this
  exact this

theorem mem_opts {a b : Int} (ha : -3 ≤ a ∧ a ≤ 0) (hb : -3 ≤ b ∧ b ≤ 0) (hz : a = 0 → b = 0) (hz' : b = 0 → a = 0) (h : 0 < 2 * 2 - a * b) : (a, b) ∈ opts := by
  have h1 : a = 0 ∨ a = -1 ∨ a = -2 ∨ a = -3 := by omega
  have h2 : b = 0 ∨ b = -1 ∨ b = -2 ∨ b = -3 := by omega
  rcases h1 with rfl | rfl | rfl | rfl <;> rcases h2 with rfl | rfl | rfl | rfl <;> first
    | decide
    | (exfalso; omega)

theorem pair_opts {c : List (List Int)} (hC : Cartan c) (hp : allPos c = true) {i j m : Nat} (hi : i < c.length) (hj : j < c.length) (hij : i ≠ j) (h1 : 1 ≤ m) (h2 : m < 2 ^ c.length) (h : setB m = [(i : Int), (j : Int)]) : (ent c i j, ent c j i) ∈ opts := by
  have M := matOk hC
  have hd := allPos_get hp m h1 h2
  rw [dt_2 c m i j h, M.diag i hi, M.diag j hj] at hd
  exact mem_opts (M.off i j hi hj hij) (M.off j i hj hi (Ne.symm hij)) (M.zero i j hi hj) (M.zero j i hj hi) hd

theorem tri_pos {c : List (List Int)} (hC : Cartan c) (hp : allPos c = true) {i j k m : Nat} (hi : i < c.length) (hj : j < c.length) (hk : k < c.length) (h1 : 1 ≤ m) (h2 : m < 2 ^ c.length) (h : setB m = [(i : Int), (j : Int), (k : Int)]) : 0 < d3 (ent c i j, ent c j i) (ent c i k, ent c k i) (ent c j k, ent c k j) := by
  have M := matOk hC
  have hd := allPos_get hp m h1 h2
  rw [dt_3 c m i j k h, M.diag i hi, M.diag j hj, M.diag k hk] at hd
  exact hd

theorem ent_col {c : List (List Int)} (hC : Cartan c) {k j : Nat} (hj : c.length ≤ j) : ent c k j = 0 := by
  by_cases hk : k < c.length
  · unfold ent
    have := hC.row k hk
    have h2 : (c.getD k []).length ≤ j := by omega
    simp only [List.getD] at h2 ⊢
    rw [List.getElem?_eq_none h2]
    rfl
  · exact ent_off (by omega)

theorem fin_good {c : List (List Int)} (hC : Cartan c) (hp : allPos c = true) : good c.length (m6 c) = true := by
  have h1 := hC.pos
  have h4 := hC.le
  have z : ∀ i j, c.length ≤ j → ent c i j = 0 ∧ ent c j i = 0 := fun i j hj => ⟨ent_col hC hj, ent_off hj⟩
  have hn : c.length = 1 ∨ c.length = 2 ∨ c.length = 3 ∨ c.length = 4 := by omega
  rcases hn with hn | hn | hn | hn
  · have e : m6 c = ⟨z0, z0, z0, z0, z0, z0⟩ := by
      unfold m6 z0
      rw [(z 0 1 (by omega)).1, (z 0 1 (by omega)).2, (z 0 2 (by omega)).1, (z 0 2 (by omega)).2, (z 1 2 (by omega)).1, (z 1 2 (by omega)).2, (z 0 3 (by omega)).1, (z 0 3 (by omega)).2, (z 1 3 (by omega)).1, (z 1 3 (by omega)).2, (z 2 3 (by omega)).1, (z 2 3 (by omega)).2]
    rw [e, hn]
    exact chk1_ok
  · have e : m6 c = ⟨(ent c 0 1, ent c 1 0), z0, z0, z0, z0, z0⟩ := by
      unfold m6 z0
      rw [(z 0 2 (by omega)).1, (z 0 2 (by omega)).2, (z 1 2 (by omega)).1, (z 1 2 (by omega)).2, (z 0 3 (by omega)).1, (z 0 3 (by omega)).2, (z 1 3 (by omega)).1, (z 1 3 (by omega)).2, (z 2 3 (by omega)).1, (z 2 3 (by omega)).2]
    rw [e, hn]
    exact List.all_eq_true.1 chk2_ok _ (pair_opts hC hp (i := 0) (j := 1) (m := 3) (by omega) (by omega) (by omega) (by omega) (by rw [hn]; decide) (by decide))
  · have e : m6 c = ⟨(ent c 0 1, ent c 1 0), (ent c 0 2, ent c 2 0), (ent c 1 2, ent c 2 1), z0, z0, z0⟩ := by
      unfold m6 z0
      rw [(z 0 3 (by omega)).1, (z 0 3 (by omega)).2, (z 1 3 (by omega)).1, (z 1 3 (by omega)).2, (z 2 3 (by omega)).1, (z 2 3 (by omega)).2]
    have k := List.all_eq_true.1 (List.all_eq_true.1 (List.all_eq_true.1 chk3_ok _ (pair_opts hC hp (i := 0) (j := 1) (m := 3) (by omega) (by omega) (by omega) (by omega) (by rw [hn]; decide) (by decide))) _ (pair_opts hC hp (i := 0) (j := 2) (m := 5) (by omega) (by omega) (by omega) (by omega) (by rw [hn]; decide) (by decide))) _ (pair_opts hC hp (i := 1) (j := 2) (m := 6) (by omega) (by omega) (by omega) (by omega) (by rw [hn]; decide) (by decide))
    have t := tri_pos hC hp (i := 0) (j := 1) (k := 2) (m := 7) (by omega) (by omega) (by omega) (by omega) (by rw [hn]; decide) (by decide)
    rw [decide_eq_true t, Bool.not_true, Bool.false_or] at k
    rw [e, hn]
    exact k
  · have o := fun (i j m : Nat) (hi : i < 4) (hj : j < 4) (hij : i ≠ j) (h1 : 1 ≤ m) (h2 : m < 16) (h : setB m = [(i : Int), (j : Int)]) => pair_opts hC hp (i := i) (j := j) (m := m) (by omega) (by omega) hij h1 (by rw [hn]; exact h2) h
    have t := fun (i j k m : Nat) (hi : i < 4) (hj : j < 4) (hk : k < 4) (h1 : 1 ≤ m) (h2 : m < 16) (h : setB m = [(i : Int), (j : Int), (k : Int)]) => tri_pos hC hp (i := i) (j := j) (k := k) (m := m) (by omega) (by omega) (by omega) h1 (by rw [hn]; exact h2) h
    have k1 := List.all_eq_true.1 (List.all_eq_true.1 (List.all_eq_true.1 chk4_ok _ (o 0 1 3 (by omega) (by omega) (by omega) (by omega) (by omega) (by decide))) _ (o 0 2 5 (by omega) (by omega) (by omega) (by omega) (by omega) (by decide))) _ (o 1 2 6 (by omega) (by omega) (by omega) (by omega) (by omega) (by decide))
    rw [decide_eq_true (t 0 1 2 7 (by omega) (by omega) (by omega) (by omega) (by omega) (by decide)), Bool.not_true, Bool.false_or] at k1
    have k2 := List.all_eq_true.1 (List.all_eq_true.1 k1 _ (o 0 3 9 (by omega) (by omega) (by omega) (by omega) (by omega) (by decide))) _ (o 1 3 10 (by omega) (by omega) (by omega) (by omega) (by omega) (by decide))
    rw [decide_eq_true (t 0 1 3 11 (by omega) (by omega) (by omega) (by omega) (by omega) (by decide)), Bool.not_true, Bool.false_or] at k2
    have k3 := List.all_eq_true.1 k2 _ (o 2 3 12 (by omega) (by omega) (by omega) (by omega) (by omega) (by decide))
    have q := allPos_get hp 15 (by omega) (by rw [hn]; decide)
    have M := matOk hC
    rw [dt_4, detZ4, M.diag 0 (by omega), M.diag 1 (by omega), M.diag 2 (by omega), M.diag 3 (by omega)] at q
    have q' : 0 < d4 (ent c 0 1, ent c 1 0) (ent c 0 2, ent c 2 0) (ent c 1 2, ent c 2 1) (ent c 0 3, ent c 3 0) (ent c 1 3, ent c 3 1) (ent c 2 3, ent c 3 2) := q
    rw [decide_eq_true (t 0 2 3 13 (by omega) (by omega) (by omega) (by omega) (by omega) (by decide)), decide_eq_true (t 1 2 3 14 (by omega) (by omega) (by omega) (by omega) (by omega) (by decide)), decide_eq_true q', Bool.not_true, Bool.false_or, Bool.false_or, Bool.false_or] at k3
    rw [hn]
    exact k3

/-- The opposite of rho. -/
def opp (c : List (List Int)) : List Int := List.replicate c.length (-1)
theorem opp_len (c : List (List Int)) : (opp c).length = c.length := by simp [opp]
def longest (c : List (List Int)) : List Int := nf c 31 (opp c)

theorem eqV_iff {x y : V4} (h : eqV x y = true) : x = y := by
  simp only [eqV, Bool.and_eq_true, beq_iff_eq] at h
  obtain ⟨a, b, c, d⟩ := x
  obtain ⟨a', b', c', d'⟩ := y
  simp only at h
  obtain ⟨⟨⟨rfl, rfl⟩, rfl⟩, rfl⟩ := h
  rfl
theorem last_one {n : Nat} {m : M6} {k : V4 → V4} {v : V4} (h : last n m k v = true) : v = one4 := by
  simp only [last, Bool.and_eq_true] at h
  exact eqV_iff h.1.1.1.1
theorem hitV_at {n : Nat} {m : M6} {x : V4} (h : hitV n m x = true) : ∃ k, k < n ∧ x = stp m k (mone n) := by
  simp only [hitV, Bool.or_eq_true, Bool.and_eq_true, Nat.blt_eq] at h
  rcases h with ((h | h) | h) | h
  · exact ⟨0, h.1, eqV_iff h.2⟩
  · exact ⟨1, h.1, eqV_iff h.2⟩
  · exact ⟨2, h.1, eqV_iff h.2⟩
  · exact ⟨3, h.1, eqV_iff h.2⟩
theorem last_hit {n : Nat} {m : M6} {k : V4 → V4} {v : V4} (h : last n m k v = true) (hn : n ≤ 4) {i : Nat} (hi : i < n) : ∃ t, t < n ∧ k (stp m i one4) = stp m t (mone n) := by
  simp only [last, Bool.and_eq_true, Bool.or_eq_true, Bool.not_eq_true'] at h
  obtain ⟨⟨⟨⟨_, h0⟩, h1⟩, h2⟩, h3⟩ := h
  have no : ∀ {t : Nat}, t < n → Nat.blt t n = false → False := fun {t} ht hb => by
    have : Nat.blt t n = true := by rw [Nat.blt_eq]; exact ht
    rw [this] at hb
    cases hb
  have hi4 : i = 0 ∨ i = 1 ∨ i = 2 ∨ i = 3 := by omega
  rcases hi4 with rfl | rfl | rfl | rfl
  · exact hitV_at (h0.resolve_left (fun e => no hi e))
  · exact hitV_at (h1.resolve_left (fun e => no hi e))
  · exact hitV_at (h2.resolve_left (fun e => no hi e))
  · exact hitV_at (h3.resolve_left (fun e => no hi e))
theorem pos_opp {c : List (List Int)} (hC : Cartan c) : posOf (opp c) = cvt c.length (mone c.length) := by
  have h4 := hC.le
  funext k
  unfold cvt
  by_cases hk : k < c.length
  · rw [if_pos hk]
    have : k = 0 ∨ k = 1 ∨ k = 2 ∨ k = 3 := by omega
    rcases this with rfl | rfl | rfl | rfl <;> simp [posOf, opp, crd, mone, List.getD, hk]
  · rw [if_neg hk]
    have : c.length ≤ k := by omega
    simp [posOf, opp, List.getD, this]
theorem pos_one {c : List (List Int)} (hC : Cartan c) : posOf (List.replicate c.length 1) = cvt c.length one4 := by
  have h4 := hC.le
  funext k
  unfold cvt
  by_cases hk : k < c.length
  · rw [if_pos hk]
    have : k = 0 ∨ k = 1 ∨ k = 2 ∨ k = 3 := by omega
    rcases this with rfl | rfl | rfl | rfl <;> simp [posOf, crd, one4, List.getD, hk]
  · rw [if_neg hk]
    have : c.length ≤ k := by omega
    simp [posOf, List.getD, this]

/-- The opposite of rho leads to rho. -/
theorem fin_run {c : List (List Int)} (hC : Cartan c) (hp : allPos c = true) : ∃ w : List Nat, w.length ≤ 30 ∧ PlayL c w.length (opp c) ∧ longest c = w.map (fun (i : Nat) => (i : Int)) ∧ (∀ i, i ∈ w → i < c.length) ∧ last c.length (m6 c) (fun x => acts (m6 c) w x) one4 = true := by
  have h := fin_good hC hp
  unfold good at h
  obtain ⟨w, h1, h2, h3, h4, h5⟩ := run_sound (K := last c.length (m6 c)) hC (fun k v h => last_one h) 30 (mone c.length) id (opp c) (Nat.le_refl 30) h (opp_len c) (pos_opp hC)
  refine ⟨w, h1, h2, h3, h4, ?_⟩
  have e : (fun x => id (acts (m6 c) w x)) = fun x => acts (m6 c) w x := rfl
  rw [e] at h5
  exact h5

end Go.Proofs.Ytecfgbjddkpkcaa.Hx
