/-
  The game of signs: from where a word takes the vector of ones, any row of steps at negative numbers leads back to it, always in the same number of steps, and no number is ever zero. Plain theory; nothing of a program is named here.
  Contracts of the descents of the reference, of reversed words, of words with a letter left out, of the program and of the reference.
-/
import Derived.Test.YtkkniibnlniflaaZ12
namespace Go.Proofs.Ytkkniibnlniflaa.Hx

abbrev Pos := Nat → Int

/-- The step at i. -/
def sr (c : Nat → Nat → Int) (i : Nat) (v : Pos) : Pos := fun k => v k - v i * c k i

/-- n steps, each at a negative number, lead from v to ones. -/
inductive Play (N : Nat) (c : Nat → Nat → Int) : Nat → Pos → Prop where
  | done {v : Pos} (h : ∀ i, i < N → v i = 1) : Play N c 0 v
  | step {n : Nat} {v : Pos} (i : Nat) (hi : i < N) (h : v i < 0) (p : Play N c n (sr c i v)) : Play N c (n + 1) v

structure MatOk (N : Nat) (c : Nat → Nat → Int) : Prop where
  diag : ∀ i, i < N → c i i = 2
  off : ∀ i j, i < N → j < N → i ≠ j → -3 ≤ c i j ∧ c i j ≤ 0
  zero : ∀ i j, i < N → j < N → c i j = 0 → c j i = 0

theorem sr_at {c : Nat → Nat → Int} {i : Nat} (d : c i i = 2) (v : Pos) : sr c i v i = - v i := by
  unfold sr
  rw [d]
  omega

theorem sr_sr {c : Nat → Nat → Int} {i : Nat} (d : c i i = 2) (v : Pos) : sr c i (sr c i v) = v := by
  funext k
  show sr c i v k - sr c i v i * c k i = v k
  rw [sr_at d]
  unfold sr
  rw [Int.neg_mul]
  omega

theorem Play.up {N : Nat} {c : Nat → Nat → Int} (M : MatOk N c) {n i : Nat} {v : Pos} (p : Play N c n v) (hi : i < N) (h : 0 < v i) : Play N c (n + 1) (sr c i v) :=
  .step i hi (by rw [sr_at (M.diag i hi)]; omega) (by rw [sr_sr (M.diag i hi)]; exact p)

/-- Where steps at i and j alone lead. -/
def cb (c : Nat → Nat → Int) (i j : Nat) (v : Pos) (a b : Int) : Pos := fun k => v k - a * c k i - b * c k j

theorem cb_none (c : Nat → Nat → Int) (i j : Nat) (v : Pos) : cb c i j v 0 0 = v := by
  funext k
  simp [cb]
theorem cb_i (c : Nat → Nat → Int) (i j : Nat) (v : Pos) (a b a' : Int) (h : a' = a + cb c i j v a b i) : sr c i (cb c i j v a b) = cb c i j v a' b := by
  funext k
  show cb c i j v a b k - cb c i j v a b i * c k i = cb c i j v a' b k
  have : cb c i j v a b i = a' - a := by omega
  rw [this]
  simp only [cb, Int.sub_mul]
  omega
theorem cb_j (c : Nat → Nat → Int) (i j : Nat) (v : Pos) (a b b' : Int) (h : b' = b + cb c i j v a b j) : sr c j (cb c i j v a b) = cb c i j v a b' := by
  funext k
  show cb c i j v a b k - cb c i j v a b j * c k j = cb c i j v a b' k
  have : cb c i j v a b j = b' - b := by omega
  rw [this]
  simp only [cb, Int.sub_mul]
  omega

def Good (N : Nat) (c : Nat → Nat → Int) (n : Nat) (v : Pos) : Prop := ∀ i, i < N → v i ≠ 0 ∧ (v i < 0 → ∃ m, n = m + 1 ∧ Play N c m (sr c i v))

theorem play_inf {N : Nat} {c : Nat → Nat → Int} (M : MatOk N c) (n : Nat) (IH : ∀ m, m ≤ n → ∀ v, Play N c m v → Good N c m v) :
    ∀ k, k ≤ n → ∀ (v : Pos) (i j : Nat), Play N c k v → i < N → j < N → (c i j ≤ -2 ∧ c j i ≤ -2) → -3 ≤ c i j → -3 ≤ c j i → v i < 0 → 0 < v j → - c i j * v j ≤ 2 * (- v i) → False := by
  intro k
  induction k with
  | zero =>
    intro _ v i j p hi _ _ _ _ h1 _ _
    obtain ⟨m, hm, _⟩ := (IH 0 (by omega) v p i hi).2 h1
    omega
  | succ k ih =>
    intro hk v i j p hi hj hc h3 h4 h1 h2 hb
    obtain ⟨m, hm, q⟩ := (IH (k + 1) hk v p i hi).2 h1
    have : m = k := by omega
    subst this
    refine ih (by omega) (sr c i v) j i q hj hi ⟨hc.2, hc.1⟩ h4 h3 ?_ ?_ ?_
    · show v j - v i * c j i < 0
      have e1 : c i j = -2 ∨ c i j = -3 := by omega
      have e2 : c j i = -2 ∨ c j i = -3 := by omega
      rcases e1 with e1 | e1 <;> rcases e2 with e2 | e2 <;> rw [e1] at hb <;> rw [e2] <;> omega
    · rw [sr_at (M.diag i hi)]
      omega
    · rw [sr_at (M.diag i hi)]
      show - c j i * - v i ≤ 2 * -(v j - v i * c j i)
      have e1 : c i j = -2 ∨ c i j = -3 := by omega
      have e2 : c j i = -2 ∨ c j i = -3 := by omega
      rcases e1 with e1 | e1 <;> rcases e2 with e2 | e2 <;> rw [e1] at hb <;> rw [e2] <;> omega

section
variable {N : Nat} {c : Nat → Nat → Int} {n i j : Nat} {v : Pos}

theorem down_i (M : MatOk N c) (IH : ∀ m, m ≤ n → ∀ v, Play N c m v → Good N c m v) (hi : i < N) (a b a' : Int) {m : Nat} (hm : m ≤ n) (p : Play N c m (cb c i j v a b)) (h : a' - a = v i - 2 * a - b * c i j) (hl : a' ≤ a) :
    a' < a ∧ ∃ k, m = k + 1 ∧ Play N c k (cb c i j v a' b) := by
  have e : cb c i j v a b i = a' - a := by
    show v i - a * c i i - b * c i j = a' - a
    rw [M.diag i hi]
    omega
  have g := IH m hm _ p i hi
  rw [e] at g
  refine ⟨by omega, ?_⟩
  obtain ⟨k, hk, q⟩ := g.2 (by omega)
  rw [cb_i c i j v a b a' (by omega)] at q
  exact ⟨k, hk, q⟩
theorem down_j (M : MatOk N c) (IH : ∀ m, m ≤ n → ∀ v, Play N c m v → Good N c m v) (hj : j < N) (a b b' : Int) {m : Nat} (hm : m ≤ n) (p : Play N c m (cb c i j v a b)) (h : b' - b = v j - a * c j i - 2 * b) (hl : b' ≤ b) :
    b' < b ∧ ∃ k, m = k + 1 ∧ Play N c k (cb c i j v a b') := by
  have e : cb c i j v a b j = b' - b := by
    show v j - a * c j i - b * c j j = b' - b
    rw [M.diag j hj]
    omega
  have g := IH m hm _ p j hj
  rw [e] at g
  refine ⟨by omega, ?_⟩
  obtain ⟨k, hk, q⟩ := g.2 (by omega)
  rw [cb_j c i j v a b b' (by omega)] at q
  exact ⟨k, hk, q⟩
theorem up_i (M : MatOk N c) (hi : i < N) (a b a' : Int) {m : Nat} (p : Play N c m (cb c i j v a b)) (h : a' - a = v i - 2 * a - b * c i j) (hl : a < a') : Play N c (m + 1) (cb c i j v a' b) := by
  have e : cb c i j v a b i = a' - a := by
    show v i - a * c i i - b * c i j = a' - a
    rw [M.diag i hi]
    omega
  have := p.up M hi (by rw [e]; omega)
  rwa [cb_i c i j v a b a' (by omega)] at this
theorem up_j (M : MatOk N c) (hj : j < N) (a b b' : Int) {m : Nat} (p : Play N c m (cb c i j v a b)) (h : b' - b = v j - a * c j i - 2 * b) (hl : b < b') : Play N c (m + 1) (cb c i j v a b') := by
  have e : cb c i j v a b j = b' - b := by
    show v j - a * c j i - b * c j j = b' - b
    rw [M.diag j hj]
    omega
  have := p.up M hj (by rw [e]; omega)
  rwa [cb_j c i j v a b b' (by omega)] at this

theorem sr_cb (c : Nat → Nat → Int) (i j : Nat) (v : Pos) : sr c i v = cb c i j v (v i) 0 := by
  funext k
  simp [cb, sr]
theorem sr_cb' (c : Nat → Nat → Int) (i j : Nat) (v : Pos) : sr c j v = cb c i j v 0 (v j) := by
  funext k
  simp [cb, sr]

theorem play_pair (M : MatOk N c) (IH : ∀ m, m ≤ n → ∀ v, Play N c m v → Good N c m v) (hi : i < N) (hj : j < N) (hij : i ≠ j) (hb : v j < 0) (p : Play N c n (sr c j v)) (ha : v i ≤ 0) :
    v i < 0 ∧ Play N c n (sr c i v) := by
  have o1 := M.off i j hi hj hij
  have o2 := M.off j i hj hi (Ne.symm hij)
  have z1 := M.zero i j hi hj
  have z2 := M.zero j i hj hi
  by_cases inf : c i j ≤ -2 ∧ c j i ≤ -2
  · exfalso
    refine play_inf M n IH n (Nat.le_refl _) (sr c j v) i j p hi hj inf o1.1 o2.1 ?_ ?_ ?_
    · show v i - v j * c i j < 0
      have e1 : c i j = -2 ∨ c i j = -3 := by omega
      rcases e1 with e1 | e1 <;> rw [e1] <;> omega
    · rw [sr_at (M.diag j hj)]
      omega
    · rw [sr_at (M.diag j hj)]
      show - c i j * - v j ≤ 2 * - (v i - v j * c i j)
      have e1 : c i j = -2 ∨ c i j = -3 := by omega
      rcases e1 with e1 | e1 <;> rw [e1] <;> omega
  rw [sr_cb' c i j v] at p
  rw [sr_cb c i j v]
  generalize hA : v i = a at *
  generalize hB : v j = b at *
  have fin : (c i j = 0 ∧ c j i = 0) ∨ (c i j = -1 ∧ c j i = -1) ∨ (c i j = -2 ∧ c j i = -1) ∨ (c i j = -1 ∧ c j i = -2) ∨ (c i j = -3 ∧ c j i = -1) ∨ (c i j = -1 ∧ c j i = -3) := by omega
  rcases fin with ⟨e1, e2⟩ | ⟨e1, e2⟩ | ⟨e1, e2⟩ | ⟨e1, e2⟩ | ⟨e1, e2⟩ | ⟨e1, e2⟩
  · obtain ⟨d1, k1, m1, p⟩ := down_i M IH hi 0 b a (by omega) p (by rw [e1, hA]; omega) (by omega)
    refine ⟨by omega, ?_⟩
    have p := up_j M hj a b 0 p (by rw [e2, hB]; omega) (by omega)
    rw [m1]
    exact p
  · obtain ⟨d1, k1, m1, p⟩ := down_i M IH hi 0 b (a + b) (by omega) p (by rw [e1, hA]; omega) (by omega)
    obtain ⟨d2, k2, m2, p⟩ := down_j M IH hj (a + b) b (a + b) (by omega) p (by rw [e2, hB]; omega) (by omega)
    refine ⟨by omega, ?_⟩
    have p := up_i M hi (a + b) (a + b) a p (by rw [e1, hA]; omega) (by omega)
    have p := up_j M hj a (a + b) 0 p (by rw [e2, hB]; omega) (by omega)
    rw [m1, m2]
    exact p
  · obtain ⟨d1, k1, m1, p⟩ := down_i M IH hi 0 b (a + 2 * b) (by omega) p (by rw [e1, hA]; omega) (by omega)
    obtain ⟨d2, k2, m2, p⟩ := down_j M IH hj (a + 2 * b) b (a + 2 * b) (by omega) p (by rw [e2, hB]; omega) (by omega)
    obtain ⟨d3, k3, m3, p⟩ := down_i M IH hi (a + 2 * b) (a + 2 * b) (2 * a + 2 * b) (by omega) p (by rw [e1, hA]; omega) (by omega)
    refine ⟨by omega, ?_⟩
    have p := up_j M hj (2 * a + 2 * b) (a + 2 * b) (a + b) p (by rw [e2, hB]; omega) (by omega)
    have p := up_i M hi (2 * a + 2 * b) (a + b) a p (by rw [e1, hA]; omega) (by omega)
    have p := up_j M hj a (a + b) 0 p (by rw [e2, hB]; omega) (by omega)
    rw [m1, m2, m3]
    exact p
  · obtain ⟨d1, k1, m1, p⟩ := down_i M IH hi 0 b (a + b) (by omega) p (by rw [e1, hA]; omega) (by omega)
    obtain ⟨d2, k2, m2, p⟩ := down_j M IH hj (a + b) b (2 * a + 2 * b) (by omega) p (by rw [e2, hB]; omega) (by omega)
    obtain ⟨d3, k3, m3, p⟩ := down_i M IH hi (a + b) (2 * a + 2 * b) (2 * a + b) (by omega) p (by rw [e1, hA]; omega) (by omega)
    refine ⟨by omega, ?_⟩
    have p := up_j M hj (2 * a + b) (2 * a + 2 * b) (2 * a + b) p (by rw [e2, hB]; omega) (by omega)
    have p := up_i M hi (2 * a + b) (2 * a + b) a p (by rw [e1, hA]; omega) (by omega)
    have p := up_j M hj a (2 * a + b) 0 p (by rw [e2, hB]; omega) (by omega)
    rw [m1, m2, m3]
    exact p
  · obtain ⟨d1, k1, m1, p⟩ := down_i M IH hi 0 b (a + 3 * b) (by omega) p (by rw [e1, hA]; omega) (by omega)
    obtain ⟨d2, k2, m2, p⟩ := down_j M IH hj (a + 3 * b) b (a + 3 * b) (by omega) p (by rw [e2, hB]; omega) (by omega)
    obtain ⟨d3, k3, m3, p⟩ := down_i M IH hi (a + 3 * b) (a + 3 * b) (3 * a + 6 * b) (by omega) p (by rw [e1, hA]; omega) (by omega)
    obtain ⟨d4, k4, m4, p⟩ := down_j M IH hj (3 * a + 6 * b) (a + 3 * b) (2 * a + 4 * b) (by omega) p (by rw [e2, hB]; omega) (by omega)
    obtain ⟨d5, k5, m5, p⟩ := down_i M IH hi (3 * a + 6 * b) (2 * a + 4 * b) (4 * a + 6 * b) (by omega) p (by rw [e1, hA]; omega) (by omega)
    refine ⟨by omega, ?_⟩
    have p := up_j M hj (4 * a + 6 * b) (2 * a + 4 * b) (2 * a + 3 * b) p (by rw [e2, hB]; omega) (by omega)
    have p := up_i M hi (4 * a + 6 * b) (2 * a + 3 * b) (3 * a + 3 * b) p (by rw [e1, hA]; omega) (by omega)
    have p := up_j M hj (3 * a + 3 * b) (2 * a + 3 * b) (a + b) p (by rw [e2, hB]; omega) (by omega)
    have p := up_i M hi (3 * a + 3 * b) (a + b) a p (by rw [e1, hA]; omega) (by omega)
    have p := up_j M hj a (a + b) 0 p (by rw [e2, hB]; omega) (by omega)
    rw [m1, m2, m3, m4, m5]
    exact p
  · obtain ⟨d1, k1, m1, p⟩ := down_i M IH hi 0 b (a + b) (by omega) p (by rw [e1, hA]; omega) (by omega)
    obtain ⟨d2, k2, m2, p⟩ := down_j M IH hj (a + b) b (3 * a + 3 * b) (by omega) p (by rw [e2, hB]; omega) (by omega)
    obtain ⟨d3, k3, m3, p⟩ := down_i M IH hi (a + b) (3 * a + 3 * b) (3 * a + 2 * b) (by omega) p (by rw [e1, hA]; omega) (by omega)
    obtain ⟨d4, k4, m4, p⟩ := down_j M IH hj (3 * a + 2 * b) (3 * a + 3 * b) (6 * a + 4 * b) (by omega) p (by rw [e2, hB]; omega) (by omega)
    obtain ⟨d5, k5, m5, p⟩ := down_i M IH hi (3 * a + 2 * b) (6 * a + 4 * b) (4 * a + 2 * b) (by omega) p (by rw [e1, hA]; omega) (by omega)
    refine ⟨by omega, ?_⟩
    have p := up_j M hj (4 * a + 2 * b) (6 * a + 4 * b) (6 * a + 3 * b) p (by rw [e2, hB]; omega) (by omega)
    have p := up_i M hi (4 * a + 2 * b) (6 * a + 3 * b) (3 * a + b) p (by rw [e1, hA]; omega) (by omega)
    have p := up_j M hj (3 * a + b) (6 * a + 3 * b) (3 * a + b) p (by rw [e2, hB]; omega) (by omega)
    have p := up_i M hi (3 * a + b) (3 * a + b) a p (by rw [e1, hA]; omega) (by omega)
    have p := up_j M hj a (3 * a + b) 0 p (by rw [e2, hB]; omega) (by omega)
    rw [m1, m2, m3, m4, m5]
    exact p
end

theorem play_good {N : Nat} {c : Nat → Nat → Int} (M : MatOk N c) : ∀ (n : Nat) (v : Pos), Play N c n v → Good N c n v := by
  intro n
  induction n using Nat.strongRecOn with
  | ind n ih =>
    intro v p i hi
    cases p with
    | done h =>
      rw [h i hi]
      exact ⟨by decide, fun h => absurd h (by decide)⟩
    | step j hj hb p =>
      rename_i n
      by_cases e : i = j
      · subst e
        exact ⟨by omega, fun _ => ⟨n, rfl, p⟩⟩
      · by_cases ha : v i ≤ 0
        · obtain ⟨h1, h2⟩ := play_pair M (fun m hm => ih m (by omega)) hi hj e hb p ha
          exact ⟨by omega, fun _ => ⟨n, rfl, h2⟩⟩
        · exact ⟨by omega, fun h => absurd h (by omega)⟩

theorem Play.down {N : Nat} {c : Nat → Nat → Int} (M : MatOk N c) {n i : Nat} {v : Pos} (p : Play N c n v) (hi : i < N) (h : v i < 0) : ∃ m, n = m + 1 ∧ Play N c m (sr c i v) := (play_good M n v p i hi).2 h
theorem Play.ne {N : Nat} {c : Nat → Nat → Int} (M : MatOk N c) {n i : Nat} {v : Pos} (p : Play N c n v) (hi : i < N) : v i ≠ 0 := (play_good M n v p i hi).1

/-- Whatever step: at most one more. -/
theorem Play.any {N : Nat} {c : Nat → Nat → Int} (M : MatOk N c) {n i : Nat} {v : Pos} (p : Play N c n v) (hi : i < N) : ∃ m, m ≤ n + 1 ∧ Play N c m (sr c i v) := by
  by_cases h : v i < 0
  · obtain ⟨m, hm, q⟩ := p.down M hi h
    exact ⟨m, by omega, q⟩
  · have := p.ne M hi
    exact ⟨n + 1, Nat.le_refl _, p.up M hi (by omega)⟩

theorem Play.stop {N : Nat} {c : Nat → Nat → Int} {n : Nat} {v : Pos} (p : Play N c n v) (h : ∀ i, i < N → 0 ≤ v i) : n = 0 ∧ ∀ i, i < N → v i = 1 := by
  cases p with
  | done h => exact ⟨rfl, h⟩
  | step i hi hl _ => exact absurd (h i hi) (by omega)

theorem Play.size {N : Nat} {c : Nat → Nat → Int} (M : MatOk N c) {n : Nat} {v : Pos} (p : Play N c n v) : ∀ k, k < N → - (4 ^ n : Nat) ≤ v k ∧ v k ≤ (4 ^ n : Nat) := by
  induction p with
  | done h =>
    intro k hk
    rw [h k hk]
    decide
  | @step n v i hi hl p ih =>
    intro k hk
    have h1 := ih k hk
    have h2 := ih i hi
    rw [sr_at (M.diag i hi)] at h2
    have e : (4 ^ (n + 1) : Nat) = 4 * 4 ^ n := by rw [Nat.pow_succ, Nat.mul_comm]
    rw [e]
    generalize (4 ^ n : Nat) = b at *
    by_cases e : k = i
    · subst e
      omega
    · have o := M.off k i hk hi e
      have h3 : - (b : Int) ≤ v k - v i * c k i ∧ v k - v i * c k i ≤ b := h1
      have f : c k i = 0 ∨ c k i = -1 ∨ c k i = -2 ∨ c k i = -3 := by omega
      rcases f with f | f | f | f <;> rw [f] at h3 <;> omega

end Go.Proofs.Ytkkniibnlniflaa.Hx

namespace Go.Proofs.Ytkkniibnlniflaa.Hx
open Go.RowKit
variable {dm : Bool}

theorem HApp.snocR {r : Nat} {h : Heap} {y : H0} {l : List Int} {v : Int} {K : HV → Heap → Prop} (H : OwnR r h y l) (hl : l.length < 2199023255552)
    (hK : ∀ h' r' y', But r h h' → h.length ≤ r' → OwnR r' h' y' (l ++ [v]) → K (.s y') h') : HApp (h ++ [.own [ci v]]) (.s y) (.s (.sl h.length 0 1)) K :=
  HApp.litR [v] H (by simp; omega) hK

/-- A list without its entry at a place, if there is one. -/
def del (l : List Int) (n : Int) : List Int := if 0 ≤ n then l.eraseIdx n.toNat else l

theorem del_neg {l : List Int} {n : Int} (h : n < 0) : del l n = l := by
  unfold del
  rw [if_neg (by omega)]
theorem del_off {l : List Int} {n : Int} (h : (l.length : Int) ≤ n) : del l n = l := by
  unfold del
  split
  · exact List.eraseIdx_of_length_le (by omega)
  · rfl
theorem del_ne (l : List Int) (x n : Int) (h : (l.length : Int) ≠ n) : del (l ++ [x]) n = del l n ++ [x] := by
  unfold del
  split
  · by_cases h2 : n.toNat < l.length
    · rw [List.eraseIdx_append_of_lt_length h2]
    · rw [List.eraseIdx_of_length_le (by simp; omega), List.eraseIdx_of_length_le (by omega)]
  · rfl
theorem del_eq (l : List Int) (x : Int) : del (l ++ [x]) l.length = del l l.length := by
  unfold del
  have e : ((l.length : Nat) : Int).toNat = l.length := by omega
  rw [if_pos (by omega), if_pos (by omega), e, List.eraseIdx_append_of_length_le (Nat.le_refl _), List.eraseIdx_of_length_le (l := l) (Nat.le_refl _)]
  simp
theorem del_len (l : List Int) (n : Int) : (del l n).length ≤ l.length := by
  unfold del
  split
  · rw [List.length_eraseIdx]
    split <;> omega
  · exact Nat.le_refl _
theorem del_at (l : List Int) {i : Nat} : del l (i : Int) = l.take i ++ l.drop (i + 1) := by
  unfold del
  rw [if_pos (by omega), List.eraseIdx_eq_take_drop_succ]
  rfl
theorem del_none (n : Int) : del [] n = [] := by
  unfold del
  split
  · rfl
  · rfl
theorem take_snoc (w : List Int) {k : Nat} (h : k < w.length) : w.take (k + 1) = w.take k ++ [w.getD k 0] := by
  rw [List.take_succ_eq_append_getElem h]
  simp [List.getD, h]
theorem drop_rev (w : List Int) {k : Nat} (h : k < w.length) : (w.drop k).reverse = (w.drop (k + 1)).reverse ++ [w.getD k 0] := by
  rw [List.drop_eq_getElem_cons h]
  simp [List.getD, h]

/-- The first i and the last i numbers have changed places. -/
def revTo (l : List Int) (i : Nat) : List Int := (List.range l.length).map fun k => if k < i ∨ l.length ≤ k + i then l.getD (l.length - 1 - k) 0 else l.getD k 0

theorem revTo_length (l : List Int) (i : Nat) : (revTo l i).length = l.length := by simp [revTo]
theorem revTo_get (l : List Int) (i k : Nat) (h : k < l.length) (h1 : i ≤ k) (h2 : k + i < l.length) : (revTo l i).getD k 0 = l.getD k 0 := by
  unfold revTo
  simp only [List.getD, List.getElem?_map, List.getElem?_range h, Option.map_some, Option.getD_some]
  rw [if_neg (by omega)]
theorem revTo_none (l : List Int) : revTo l 0 = l := by
  apply List.ext_getElem (by simp [revTo])
  intro k h1 h2
  simp only [revTo, List.getElem_map, List.getElem_range]
  rw [if_neg (by omega)]
  simp [List.getD, h2]
theorem revTo_all (l : List Int) (i : Nat) (h : l.length ≤ 2 * i + 1) : revTo l i = l.reverse := by
  apply List.ext_getElem (by simp [revTo])
  intro k h1 h2
  simp only [revTo, List.getElem_map, List.getElem_range, List.getElem_reverse]
  have h2 : k < l.length := by simpa using h2
  split
  · have : l.length - 1 - k < l.length := by omega
    simp [List.getD, this]
  · have e : l.length - 1 - k = k := by omega
    simp [List.getD, e, h2]
theorem revTo_succ (l : List Int) (i : Nat) (h : 2 * i + 1 < l.length) : ((revTo l i).set i (l.getD (l.length - 1 - i) 0)).set (l.length - 1 - i) (l.getD i 0) = revTo l (i + 1) := by
  apply List.ext_getElem (by simp [revTo])
  intro k h1 h2
  have h2 : k < l.length := by simpa [revTo] using h2
  simp only [List.getElem_set, revTo, List.getElem_map, List.getElem_range]
  by_cases e1 : l.length - 1 - i = k
  · rw [if_pos e1, if_pos (by omega)]
    have : l.length - 1 - k = i := by omega
    rw [this]
  · rw [if_neg e1]
    by_cases e2 : i = k
    · subst e2
      rw [if_pos rfl, if_pos (by omega)]
    · rw [if_neg e2]
      by_cases e3 : k < i ∨ l.length ≤ k + i
      · rw [if_pos e3, if_pos (by omega)]
      · rw [if_neg e3, if_neg (by omega)]

/-- One number of one's own is written anew. -/
theorem OwnR.store {r : Nat} {h : Heap} {y : H0} {l : List Int} {i : Nat} {v : Int} (H : OwnR r h y l) (hi : i < l.length) :
    ∃ cs, y = .sl r 0 l.length ∧ h[r]? = some (.own cs) ∧ i < cs.length ∧ But r h (h.set r (.own (cs.set i (ci v)))) ∧ OwnR r (h.set r (.own (cs.set i (ci v)))) y (l.set i v) := by
  have hr' := H.lt
  obtain ⟨t, rfl, hr⟩ := H
  refine ⟨_, rfl, hr, by simp; omega, ⟨by simp, fun q _ hn => by rw [List.getElem?_set_ne (Ne.symm hn)]⟩, t, by simp, ?_⟩
  rw [List.getElem?_set_self hr', List.set_append_left _ _ (by simpa using hi), List.map_set]
theorem But.trans {r : Nat} {h h' h'' : Heap} (k : But r h h') (k2 : But r h' h'') : But r h h'' :=
  ⟨Nat.le_trans k.1 k2.1, fun q hq hn => by rw [k2.2 q (Nat.lt_of_lt_of_le hq k.1) hn]; exact k.2 q hq hn⟩
theorem But.refl (r : Nat) (h : Heap) : But r h h := ⟨Nat.le_refl _, fun _ _ _ => rfl⟩

theorem pair_eq {a b : Int} {k : Nat} (h1 : a = k) (h2 : b = k) : a = b := by omega


theorem spec_LeftDescents (h : Heap) (x0 : H0) (a0 : List (List Int)) (x1 : H0) (a1 : List Int) (hx0 : Rows h x0 a0) (hx1 : Ints h x1 a1) (s0 : a0.length ≤ 1048576 ∧ tot a0 ≤ 1048576) (s1 : a1.length ≤ 1048576) :
    HCalls dm Try.prog 28 [.s x0, .s x1] h (fun r h' => ∃ y, r = .s y ∧ Fresh h h' y (leftDescents a0 a1)) := by
  have E0 := Ext.push h [Row.own []]
  have O0 := OwnR.push h []
  refine calls_of_hFun (m := 0) kd_ok mixed Try.func28 rfl (by kernel_rfl) rfl rfl (of_decide_eq_true rfl) ?_; unfold hFun; (conv => whnf)
  refine HLit.empty ?_
  (conv => whnf)
  refine (spec_IsWord _ _ _ a0 a1 (hx0.ext E0) (hx1.ext E0) (by omega) (by omega)).mono ?_
  rintro r h1 ⟨rfl, rfl⟩
  (conv => whnf)
  cases hic : isWord a0 a1
  · (repeat (first | (refine ⟨rfl, Ints.len (by assumption) ?_⟩; conv => whnf) | (refine ⟨rfl, Rows.len (by assumption) ?_⟩; conv => whnf) | (refine ⟨rfl, HLen.sl ?_⟩; conv => whnf) | (refine ⟨rfl, At.load (by assumption) ?_⟩; conv => whnf) | (refine HIf.yes ?_; conv => whnf) | (refine HIf.no ?_; conv => whnf) | (refine HIf.isT (by assumption) ?_; conv => whnf) | (refine HIf.isF (by assumption) ?_; conv => whnf) | (refine HIf.decT (by assumption) ?_; conv => whnf) | (refine HIf.decF (by assumption) ?_; conv => whnf) | (refine HIf.beqT (by assumption) ?_; conv => whnf) | (refine HIf.beqF (by assumption) ?_; conv => whnf) | (refine HIf.bneT (by assumption) ?_; conv => whnf) | (refine HIf.bneF (by assumption) ?_; conv => whnf) | (refine ⟨rfl, Ints.idxN (by assumption) (by omega) (fun p hp => ?_)⟩; conv => whnf) | (refine ⟨rfl, Rows.idxN (by assumption) (by omega) (fun p y hp hy => ?_)⟩; conv => whnf) | (refine And.intro (show Kd.isBool _ = true from rfl) ?_; conv => whnf) | (refine ⟨rfl, Ints.idx (by assumption) (by omega) (by omega) (fun p hp => ?_)⟩; conv => whnf) | (refine ⟨rfl, Rows.idx (by assumption) (by omega) (by omega) (fun p y hp hy => ?_)⟩; conv => whnf) | (refine HArith.fits (by omega) (by omega) ?_; conv => whnf) | (refine Or.inl (And.intro (show Region.lexB _ _ = true by kernel_rfl) ?_); conv => whnf)))
    exact ⟨_, rfl, Fresh.none _ (leftDescents_off hic)⟩
  have wc := word_cartan hic
  have hcl := wc.1.le
  rw [leftDescents_on hic]
  (repeat (first | (refine ⟨rfl, Ints.len (by assumption) ?_⟩; conv => whnf) | (refine ⟨rfl, Rows.len (by assumption) ?_⟩; conv => whnf) | (refine ⟨rfl, HLen.sl ?_⟩; conv => whnf) | (refine ⟨rfl, At.load (by assumption) ?_⟩; conv => whnf) | (refine HIf.yes ?_; conv => whnf) | (refine HIf.no ?_; conv => whnf) | (refine HIf.isT (by assumption) ?_; conv => whnf) | (refine HIf.isF (by assumption) ?_; conv => whnf) | (refine HIf.decT (by assumption) ?_; conv => whnf) | (refine HIf.decF (by assumption) ?_; conv => whnf) | (refine HIf.beqT (by assumption) ?_; conv => whnf) | (refine HIf.beqF (by assumption) ?_; conv => whnf) | (refine HIf.bneT (by assumption) ?_; conv => whnf) | (refine HIf.bneF (by assumption) ?_; conv => whnf) | (refine ⟨rfl, Ints.idxN (by assumption) (by omega) (fun p hp => ?_)⟩; conv => whnf) | (refine ⟨rfl, Rows.idxN (by assumption) (by omega) (fun p y hp hy => ?_)⟩; conv => whnf) | (refine And.intro (show Kd.isBool _ = true from rfl) ?_; conv => whnf) | (refine ⟨rfl, Ints.idx (by assumption) (by omega) (by omega) (fun p hp => ?_)⟩; conv => whnf) | (refine ⟨rfl, Rows.idx (by assumption) (by omega) (by omega) (fun p y hp hy => ?_)⟩; conv => whnf) | (refine HArith.fits (by omega) (by omega) ?_; conv => whnf) | (refine Or.inl (And.intro (show Region.lexB _ _ = true by kernel_rfl) ?_); conv => whnf)))
  refine (spec_l8Image _ _ a0 _ a1 (hx0.ext E0) (hx1.ext E0) ((isCartan_iff a0).2 wc.1) wc.2.2 s1).mono ?_
  rintro r h2 ⟨y1, rfl, f1⟩
  have hvl := imageOf_length a0 a1
  have O1 := O0.ext f1.1
  have E1 := E0.trans f1.1
  obtain ⟨ri, hri, oi⟩ := f1.row
  simp only [List.length_append, List.length_cons, List.length_nil] at hri
  generalize imageOf a0 a1 = v at *
  (conv => whnf)
  refine HLoop.intro [7, 5] [17, 18, 19, 20, 23, 24, 25, 26, 27, 28, 29, 30, 31, 5, 21, 22, 7] (by kernel_rfl) (by kernel_rfl) (fun vs h' => ∃ (k : Nat) (z : H0) (r : Nat), vs = [I k, .s z] ∧ k ≤ v.length ∧ Ext h h' ∧ h.length ≤ r ∧ r ≠ ri ∧ OwnR r h' z (descs v k) ∧ OwnR ri h' y1 v) (fun vs _ => v.length - natAt vs 0) ⟨0, _, h.length, rfl, by omega, E1, Nat.le_refl _, by omega, O1, oi⟩ ?_
  rintro vs h' ⟨k, z, r, rfl, hk, E, hr, hn, O, oi⟩
  have hdl := descs_le v k
  have hx := oi.ints
  (conv => whnf)
  refine ⟨rfl, hx.len ?_⟩
  (conv => whnf)
  refine HIf.dec (fun hlt => ?_) (fun hge => ?_)
  · (conv => whnf)
    (repeat (first | (refine ⟨rfl, Ints.len (by assumption) ?_⟩; conv => whnf) | (refine ⟨rfl, Rows.len (by assumption) ?_⟩; conv => whnf) | (refine ⟨rfl, HLen.sl ?_⟩; conv => whnf) | (refine ⟨rfl, At.load (by assumption) ?_⟩; conv => whnf) | (refine HIf.yes ?_; conv => whnf) | (refine HIf.no ?_; conv => whnf) | (refine HIf.isT (by assumption) ?_; conv => whnf) | (refine HIf.isF (by assumption) ?_; conv => whnf) | (refine HIf.decT (by assumption) ?_; conv => whnf) | (refine HIf.decF (by assumption) ?_; conv => whnf) | (refine HIf.beqT (by assumption) ?_; conv => whnf) | (refine HIf.beqF (by assumption) ?_; conv => whnf) | (refine HIf.bneT (by assumption) ?_; conv => whnf) | (refine HIf.bneF (by assumption) ?_; conv => whnf) | (refine ⟨rfl, Ints.idxN (by assumption) (by omega) (fun p hp => ?_)⟩; conv => whnf) | (refine ⟨rfl, Rows.idxN (by assumption) (by omega) (fun p y hp hy => ?_)⟩; conv => whnf) | (refine And.intro (show Kd.isBool _ = true from rfl) ?_; conv => whnf) | (refine ⟨rfl, Ints.idx (by assumption) (by omega) (by omega) (fun p hp => ?_)⟩; conv => whnf) | (refine ⟨rfl, Rows.idx (by assumption) (by omega) (by omega) (fun p y hp hy => ?_)⟩; conv => whnf) | (refine HArith.fits (by omega) (by omega) ?_; conv => whnf) | (refine Or.inl (And.intro (show Region.lexB _ _ = true by kernel_rfl) ?_); conv => whnf)))
    refine HIf.dec (fun hneg => ?_) (fun hpos => ?_)
    · (conv => whnf)
      refine HLit.one ?_
      (conv => whnf)
      refine ⟨rfl, rfl, HApp.snocR O (by omega) (fun h3 r3 y3 B3 hr3 O3 => ?_)⟩
      have := oi.lt
      rw [← descs_in v k hneg] at O3
      (conv => whnf)
      refine HArith.fits (by omega) (by omega) ?_
      (conv => whnf)
      exact ⟨⟨k + 1, y3, r3, rfl, by omega, E.but B3 hr, by have := E.1; omega, by omega, O3, oi.but B3 (Ne.symm hn)⟩, by show v.length - (k + 1) < v.length - k; omega⟩
    · rw [← descs_out v k hpos] at O
      (conv => whnf)
      refine HArith.fits (by omega) (by omega) ?_
      (conv => whnf)
      exact ⟨⟨k + 1, z, r, rfl, by omega, E, hr, hn, O, oi⟩, by show v.length - (k + 1) < v.length - k; omega⟩
  · (conv => whnf)
    have e : k = v.length := by omega
    subst e
    exact ⟨_, rfl, Fresh.ofRow E O hr⟩

theorem spec_ReverseWord (h : Heap) (x0 : H0) (a0 : List Int) (hx0 : Ints h x0 a0) (s0 : a0.length ≤ 1048576) :
    HCalls dm Try.prog 111 [.s x0] h (fun r h' => ∃ y, r = .s y ∧ Fresh h h' y a0.reverse) := by
  have E0 := Ext.push h [Row.own []]
  have O0 := OwnR.push h []
  have hx00 := hx0.ext E0
  refine calls_of_hFun (m := 0) kd_ok mixed Try.func111 rfl (by kernel_rfl) rfl rfl (of_decide_eq_true rfl) ?_; unfold hFun; (conv => whnf)
  refine HLit.empty ?_
  (conv => whnf)
  refine ⟨rfl, hx00.len ?_⟩
  (conv => whnf)
  refine HArith.fits (by omega) (by omega) ?_
  (conv => whnf)
  refine HLoop.intro [4, 3] [9, 10, 13, 14, 15, 16, 17, 18, 19, 3, 11, 12, 4] (by kernel_rfl) (by kernel_rfl) (fun vs h' => ∃ (k : Nat) (z : H0) (r : Nat), vs = [I ((k : Int) - 1), .s z] ∧ k ≤ a0.length ∧ Ext h h' ∧ h.length ≤ r ∧ OwnR r h' z (a0.drop k).reverse) (fun vs _ => (intAt vs 0 + 1).toNat) ⟨a0.length, _, h.length, rfl, by omega, E0, Nat.le_refl _, by rw [List.drop_length]; exact O0⟩ ?_
  rintro vs h' ⟨k, z, r, rfl, hk, E, hr, O⟩
  have hx0 := hx0.ext E
  (conv => whnf)
  refine HIf.dec (fun hlt => ?_) (fun hge => ?_)
  · obtain ⟨m, rfl⟩ : ∃ m, k = m + 1 := ⟨k - 1, by omega⟩
    have e1 : (((m + 1 : Nat) : Int) - 1).toNat = m := by omega
    have hd := drop_rev a0 (k := m) (by omega)
    (conv => whnf)
    refine ⟨rfl, Ints.idx hx0 (by omega) (by omega) (fun p hp => ?_)⟩
    rw [e1] at hp
    (conv => whnf)
    refine ⟨rfl, hp.load ?_⟩
    (conv => whnf)
    refine HLit.one ?_
    (conv => whnf)
    refine ⟨rfl, rfl, HApp.snocR O (by simp; omega) (fun h3 r3 y3 B3 hr3 O3 => ?_)⟩
    rw [← hd] at O3
    (conv => whnf)
    refine HArith.fits (by omega) (by omega) ?_
    (conv => whnf)
    have e3 : ((m + 1 : Nat) : Int) - 1 - 1 = (m : Int) - 1 := by omega
    exact ⟨⟨m, y3, r3, by rw [← e3]; rfl, by omega, E.but B3 hr, by have := E.1; omega, O3⟩, by show (((m + 1 : Nat) : Int) - 1 - 1 + 1).toNat < (((m + 1 : Nat) : Int) - 1 + 1).toNat; omega⟩
  · have e : k = 0 := by omega
    subst e
    rw [List.drop_zero] at O
    (conv => whnf)
    exact ⟨_, rfl, Fresh.ofRow E O hr⟩

theorem lib_Reverse (h : Heap) (r : Nat) (x : H0) (l : List Int) (hx : OwnR r h x l) (hl : l.length ≤ 1048576) :
    HCalls dm Try.prog 144 [.s x] h (fun _ h' => But r h h' ∧ OwnR r h' x l.reverse) := by
  refine calls_of_hFun (m := 0) kd_ok mixed Try.func144 rfl (by kernel_rfl) rfl rfl (of_decide_eq_true rfl) ?_; unfold hFun; (conv => whnf)
  refine ⟨rfl, hx.ints.len ?_⟩
  (conv => whnf)
  refine HArith.fits (by omega) (by omega) ?_
  (conv => whnf)
  refine HLoop.intro [2, 3] [7, 8, 9, 14, 15, 16, 17, 18, 19, 20, 21, 22, 23, 24, 25, 26, 27, 10, 11, 12, 13, 2, 3] (by kernel_rfl) (by kernel_rfl) (fun vs h' => ∃ (i : Nat) (j : Int), vs = [I i, I j] ∧ j = (l.length : Int) - 1 - i ∧ 2 * i ≤ l.length ∧ But r h h' ∧ OwnR r h' x (revTo l i)) (fun vs _ => l.length - natAt vs 0) ⟨0, (l.length : Int) - 1, rfl, by omega, by omega, But.refl _ _, by rw [revTo_none]; exact hx⟩ ?_
  rintro vs h' ⟨i, j, rfl, hj0, hi, B, O⟩
  have hrl := revTo_length l i
  (conv => whnf)
  refine HIf.dec (fun hlt => ?_) (fun hge => ?_)
  · have hj : j = ((l.length - 1 - i : Nat) : Int) := by omega
    have g1 := revTo_get l i i (by omega) (by omega) (by omega)
    have g2 := revTo_get l i (l.length - 1 - i) (by omega) (by omega) (by omega)
    have hs := revTo_succ l i (by omega)
    obtain ⟨cs, e1, e2, e3, B2, O2⟩ := O.store (i := i) (v := l.getD (l.length - 1 - i) 0) (by omega)
    obtain ⟨cs', e1', e2', e3', B3, O3⟩ := O2.store (i := l.length - 1 - i) (v := l.getD i 0) (by simp; omega)
    rw [hs] at O3
    rw [hrl] at e1
    subst e1
    subst hj
    (conv => whnf)
    refine Or.inr (Or.inr (Or.inl (Exists.intro 13 (Exists.intro [0, 1, 2, 3, 4, 5, 6, 7, 8, 9, 10, 11, 12] (Exists.intro [13, 14, 15] (And.intro (show heldOk _ _ _ _ = true by kernel_rfl) ?_)))))); (conv => whnf)
    refine ⟨rfl, Ints.idxN O.ints (by omega) (fun p hp => ?_)⟩
    rw [g2] at hp
    (conv => whnf)
    refine ⟨rfl, hp.load ?_⟩
    (conv => whnf)
    refine ⟨rfl, Ints.idxN O.ints (by omega) (fun p2 hp2 => ?_)⟩
    rw [g1] at hp2
    (conv => whnf)
    refine ⟨rfl, hp2.load ?_⟩
    (conv => whnf)
    refine ⟨rfl, HIdx.sl (by omega) (by omega) ?_⟩
    (conv => whnf)
    have e0 : 0 + (i : Int).toNat = i := by omega
    rw [e0]
    refine ⟨rfl, HStore.own e2 (by omega) rfl ?_⟩
    (conv => whnf)
    refine ⟨rfl, HIdx.sl (by omega) (by omega) ?_⟩
    (conv => whnf)
    have e00 : 0 + ((l.length - 1 - i : Nat) : Int).toNat = l.length - 1 - i := by omega
    rw [e00]
    refine ⟨rfl, HStore.own e2' (by omega) rfl ?_⟩
    (conv => whnf)
    refine HArith.fits (by omega) (by omega) ?_
    (conv => whnf)
    refine HArith.fits (by omega) (by omega) ?_
    (conv => whnf)
    exact ⟨⟨i + 1, _, rfl, by omega, by omega, (B.trans B2).trans B3, O3⟩, by show l.length - (i + 1) < l.length - i; omega⟩
  · rw [revTo_all l i (by omega)] at O
    (conv => whnf)
    exact ⟨B, O⟩

theorem impl_ReverseWord (h : Heap) (x0 : H0) (a0 : List Int) (hx0 : Ints h x0 a0) (s0 : a0.length ≤ 1048576) :
    HCalls dm Try.prog 107 [.s x0] h (fun r h' => ∃ y, r = .s y ∧ Fresh h h' y a0.reverse) := by
  refine calls_of_hFun (m := 0) kd_ok mixed Try.func107 rfl (by kernel_rfl) rfl rfl (of_decide_eq_true rfl) ?_; unfold hFun; (conv => whnf)
  refine HLit.empty ?_
  (conv => whnf)
  refine ⟨rfl, rfl, HApp.copy hx0 (by omega) (fun h1 y1 E1 O1 => ?_)⟩
  obtain ⟨r, hr1, hr2, O⟩ := O1.row
  (conv => whnf)
  refine (lib_Reverse _ r _ _ O s0).mono ?_
  rintro v h2 ⟨B, O2⟩
  (conv => whnf)
  exact ⟨_, rfl, Fresh.ofRow (E1.but B hr1) O2 hr1⟩

theorem spec_DeleteAt0 (h : Heap) (x0 : H0) (a0 : List Int) (n1 : Int) (hx0 : Ints h x0 a0) (s0 : a0.length ≤ 1048576) :
    HCalls dm Try.prog 32 [.s x0, I n1] h (fun r h' => ∃ y, r = .s y ∧ Fresh h h' y (del a0 n1)) := by
  have E0 := Ext.push h [Row.own []]
  have O0 := OwnR.push h []
  refine calls_of_hFun (m := 0) kd_ok mixed Try.func32 rfl (by kernel_rfl) rfl rfl (of_decide_eq_true rfl) ?_; unfold hFun; (conv => whnf)
  refine HLit.empty ?_
  (conv => whnf)
  refine HLoop.intro [6, 5] [8, 9, 10, 11, 14, 15, 16, 17, 18, 19, 20, 21, 22, 23, 5, 12, 13, 6] (by kernel_rfl) (by kernel_rfl) (fun vs h' => ∃ (k : Nat) (z : H0) (r : Nat), vs = [I k, .s z] ∧ k ≤ a0.length ∧ Ext h h' ∧ h.length ≤ r ∧ OwnR r h' z (del (a0.take k) n1)) (fun vs _ => a0.length - natAt vs 0) ⟨0, _, h.length, rfl, by omega, E0, Nat.le_refl _, by rw [List.take_zero, del_none]; exact O0⟩ ?_
  rintro vs h' ⟨k, z, r, rfl, hk, E, hr, O⟩
  have hx0 := hx0.ext E
  have hdl := del_len (a0.take k) n1
  rw [List.length_take] at hdl
  have htl : (a0.take k).length = k := by simp; omega
  (conv => whnf)
  refine ⟨rfl, hx0.len ?_⟩
  (conv => whnf)
  refine HIf.dec (fun hlt => ?_) (fun hge => ?_)
  · have ht := take_snoc a0 (k := k) (by omega)
    (conv => whnf)
    refine HIf.bne (fun hne => ?_) (fun heq => ?_)
    · have hd := del_ne (a0.take k) (a0.getD k 0) n1 (by rw [htl]; exact hne)
      rw [← ht] at hd
      (conv => whnf)
      refine ⟨rfl, Ints.idxN hx0 (by omega) (fun p hp => ?_)⟩
      (conv => whnf)
      refine ⟨rfl, hp.load ?_⟩
      (conv => whnf)
      refine HLit.one ?_
      (conv => whnf)
      refine ⟨rfl, rfl, HApp.snocR O (by omega) (fun h3 r3 y3 B3 hr3 O3 => ?_)⟩
      rw [← hd] at O3
      (conv => whnf)
      refine HArith.fits (by omega) (by omega) ?_
      (conv => whnf)
      exact ⟨⟨k + 1, y3, r3, rfl, by omega, E.but B3 hr, by have := E.1; omega, O3⟩, by show a0.length - (k + 1) < a0.length - k; omega⟩
    · have hd := del_eq (a0.take k) (a0.getD k 0)
      rw [← ht, htl, heq] at hd
      rw [← hd] at O
      (conv => whnf)
      refine HArith.fits (by omega) (by omega) ?_
      (conv => whnf)
      exact ⟨⟨k + 1, z, r, rfl, by omega, E, hr, O⟩, by show a0.length - (k + 1) < a0.length - k; omega⟩
  · (conv => whnf)
    have e : k = a0.length := by omega
    subst e
    rw [List.take_length] at O
    exact ⟨_, rfl, Fresh.ofRow E O hr⟩

theorem spec_DeleteAt (h : Heap) (x0 : H0) (a0 : List Int) (n1 : Int) (hx0 : Ints h x0 a0) (s0 : a0.length ≤ 1048576) (_s1 : -9223372036854775808 ≤ n1 ∧ n1 ≤ 9223372036854775807) :
    HCalls dm Try.prog 32 [.s x0, I n1] h (fun r h' => ∃ y, r = .s y ∧ Fresh h h' y (del a0 n1)) := spec_DeleteAt0 h x0 a0 n1 hx0 s0

theorem lib_Delete (h : Heap) (r : Nat) (x : H0) (l : List Int) (i : Nat) (hx : OwnR r h x l) (hi : i < l.length) (hl : l.length ≤ 1048576) :
    HCalls dm Try.prog 94 [.s x, I i, I ((i + 1 : Nat) : Int)] h (fun v h' => ∃ y, v = .s y ∧ But r h h' ∧ OwnR r h' y (l.take i ++ l.drop (i + 1))) := by
  have hrl := hx.lt
  have hxi := hx.ints
  obtain ⟨t, rfl, hr⟩ := hx
  have hdl : (l.drop (i + 1)).length = l.length - (i + 1) := by simp
  refine calls_of_hFun (m := 0) kd_ok mixed Try.func94 rfl (by kernel_rfl) rfl rfl (of_decide_eq_true rfl) ?_; unfold hFun; (conv => whnf)
  refine ⟨rfl, HLen.sl ?_⟩
  (conv => whnf)
  refine ⟨rfl, ⟨l.length, i, i + 1, l.length, .i64, .i64, .i64, rfl, rfl, rfl, rfl, by omega, by omega, Nat.le_refl _, ?_⟩⟩
  (conv => whnf)
  (repeat (first | (refine HIf.beqF (by omega) ?_; conv => whnf)))
  refine ⟨rfl, HLen.sl ?_⟩
  (conv => whnf)
  refine Or.inr (Or.inl (Exists.intro 6 (And.intro (show Region.lexTailB _ _ _ = true by kernel_rfl) ?_))); (conv => whnf)
  refine ⟨rfl, ⟨l.length, 0, i, rfl, Or.inl ⟨rfl, rfl⟩, Or.inr ⟨.i64, rfl⟩, by omega, Or.inl (by omega), ?_⟩⟩
  (conv => whnf)
  refine ⟨rfl, ⟨l.length, i + 1, l.length, rfl, Or.inr ⟨.i64, rfl⟩, Or.inl ⟨rfl, rfl⟩, by omega, Or.inl (Nat.le_refl _), ?_⟩⟩
  (conv => whnf)
  refine ⟨rfl, rfl, ⟨(l.drop (i + 1)).map ci, ?_, ci_one _, l.map ci ++ t, rfl, hr, by simp; omega, Or.inr ⟨by simp; omega, ?_⟩⟩⟩
  · have h1 := Shows.own r (0 + (i + 1)) (l.length - (i + 1)) _ hr (by simp; omega)
    have e : ((l.map ci ++ t).drop (0 + (i + 1))).take (l.length - (i + 1)) = (l.drop (i + 1)).map ci := by
      rw [Nat.zero_add, List.drop_append_of_le_length (by simp; omega), List.take_append_of_le_length (by simp), List.take_of_length_le (by simp), List.map_drop]
    rw [e] at h1
    exact h1
  have e1 : i - 0 + ((l.drop (i + 1)).map ci).length = (l.take i ++ l.drop (i + 1)).length := by simp; omega
  have e2 : (l.map ci ++ t).take (i - 0) ++ (l.drop (i + 1)).map ci = (l.take i ++ l.drop (i + 1)).map ci := by
    rw [Nat.sub_zero, List.take_append_of_le_length (by simp; omega), ← List.map_take, List.map_append]
  have e3 : (l.take i ++ l.drop (i + 1)).length = l.length - 1 := by simp; omega
  rw [e1, e2]
  obtain ⟨t2, ht2⟩ : ∃ t2, t2 = (l.map ci ++ t).drop (l.take i ++ l.drop (i + 1)).length := ⟨_, rfl⟩
  have ht2l : 1 ≤ t2.length := by rw [ht2]; simp; omega
  rw [← ht2]
  clear ht2 e1 e2
  generalize l.take i ++ l.drop (i + 1) = m at *
  have hr2 : (h.set r (.own (m.map ci ++ t2)))[r]? = some (.own (m.map ci ++ t2)) := List.getElem?_set_self hrl
  have hln : l.length = m.length + 1 := by omega
  (conv => whnf)
  refine ⟨rfl, HLen.sl ?_⟩
  (conv => whnf)
  refine ⟨rfl, ⟨m.length, m.length, l.length, rfl, Or.inr ⟨.i64, rfl⟩, Or.inr ⟨.i64, rfl⟩, by omega, Or.inr ⟨r, 0, m.length, _, rfl, hr2, by simp; omega⟩, ?_⟩⟩
  (conv => whnf)
  refine ⟨Or.inr ⟨r, 0 + m.length, l.length - m.length, _, rfl, hr2, by simp; omega, ?_⟩⟩
  (conv => whnf)
  refine ⟨_, rfl, ⟨by simp, fun q _ hn => by rw [List.getElem?_set_ne (Ne.symm hn), List.getElem?_set_ne (Ne.symm hn)]⟩, List.replicate (l.length - m.length) (.pl (.int .i64 0)) ++ (m.map ci ++ t2).drop (0 + m.length + (l.length - m.length)), rfl, ?_⟩
  rw [List.getElem?_set_self (by simpa using hrl), Nat.zero_add, List.take_append_of_le_length (by simp), List.take_of_length_le (by simp), List.append_assoc]

theorem impl_DeleteAt0 (h : Heap) (x0 : H0) (a0 : List Int) (n1 : Int) (hx0 : Ints h x0 a0) (s0 : a0.length ≤ 1048576) :
    HCalls dm Try.prog 30 [.s x0, I n1] h (fun r h' => ∃ y, r = .s y ∧ Fresh h h' y (del a0 n1)) := by
  refine calls_of_hFun (m := 0) kd_ok mixed Try.func30 rfl (by kernel_rfl) rfl rfl (of_decide_eq_true rfl) ?_; unfold hFun; (conv => whnf)
  refine HLit.empty ?_
  (conv => whnf)
  refine ⟨rfl, rfl, HApp.copy hx0 (by omega) (fun h1 y1 E1 O1 => ?_)⟩
  have hx01 := hx0.ext E1
  obtain ⟨r, hr1, hr2, O⟩ := O1.row
  (conv => whnf)
  by_cases h0 : n1 < 0
  · (repeat (first | (refine ⟨rfl, Ints.len (by assumption) ?_⟩; conv => whnf) | (refine ⟨rfl, Rows.len (by assumption) ?_⟩; conv => whnf) | (refine ⟨rfl, HLen.sl ?_⟩; conv => whnf) | (refine ⟨rfl, At.load (by assumption) ?_⟩; conv => whnf) | (refine HIf.yes ?_; conv => whnf) | (refine HIf.no ?_; conv => whnf) | (refine HIf.isT (by assumption) ?_; conv => whnf) | (refine HIf.isF (by assumption) ?_; conv => whnf) | (refine HIf.decT (by assumption) ?_; conv => whnf) | (refine HIf.decF (by assumption) ?_; conv => whnf) | (refine HIf.beqT (by assumption) ?_; conv => whnf) | (refine HIf.beqF (by assumption) ?_; conv => whnf) | (refine HIf.bneT (by assumption) ?_; conv => whnf) | (refine HIf.bneF (by assumption) ?_; conv => whnf) | (refine ⟨rfl, Ints.idxN (by assumption) (by omega) (fun p hp => ?_)⟩; conv => whnf) | (refine ⟨rfl, Rows.idxN (by assumption) (by omega) (fun p y hp hy => ?_)⟩; conv => whnf) | (refine And.intro (show Kd.isBool _ = true from rfl) ?_; conv => whnf) | (refine ⟨rfl, Ints.idx (by assumption) (by omega) (by omega) (fun p hp => ?_)⟩; conv => whnf) | (refine ⟨rfl, Rows.idx (by assumption) (by omega) (by omega) (fun p y hp hy => ?_)⟩; conv => whnf) | (refine HArith.fits (by omega) (by omega) ?_; conv => whnf) | (refine Or.inl (And.intro (show Region.lexB _ _ = true by kernel_rfl) ?_); conv => whnf)))
    rw [del_neg h0]
    exact ⟨_, rfl, Fresh.of E1 O1⟩
  (repeat (first | (refine ⟨rfl, Ints.len (by assumption) ?_⟩; conv => whnf) | (refine ⟨rfl, Rows.len (by assumption) ?_⟩; conv => whnf) | (refine ⟨rfl, HLen.sl ?_⟩; conv => whnf) | (refine ⟨rfl, At.load (by assumption) ?_⟩; conv => whnf) | (refine HIf.yes ?_; conv => whnf) | (refine HIf.no ?_; conv => whnf) | (refine HIf.isT (by assumption) ?_; conv => whnf) | (refine HIf.isF (by assumption) ?_; conv => whnf) | (refine HIf.decT (by assumption) ?_; conv => whnf) | (refine HIf.decF (by assumption) ?_; conv => whnf) | (refine HIf.beqT (by assumption) ?_; conv => whnf) | (refine HIf.beqF (by assumption) ?_; conv => whnf) | (refine HIf.bneT (by assumption) ?_; conv => whnf) | (refine HIf.bneF (by assumption) ?_; conv => whnf) | (refine ⟨rfl, Ints.idxN (by assumption) (by omega) (fun p hp => ?_)⟩; conv => whnf) | (refine ⟨rfl, Rows.idxN (by assumption) (by omega) (fun p y hp hy => ?_)⟩; conv => whnf) | (refine And.intro (show Kd.isBool _ = true from rfl) ?_; conv => whnf) | (refine ⟨rfl, Ints.idx (by assumption) (by omega) (by omega) (fun p hp => ?_)⟩; conv => whnf) | (refine ⟨rfl, Rows.idx (by assumption) (by omega) (by omega) (fun p y hp hy => ?_)⟩; conv => whnf) | (refine HArith.fits (by omega) (by omega) ?_; conv => whnf) | (refine Or.inl (And.intro (show Region.lexB _ _ = true by kernel_rfl) ?_); conv => whnf)))
  by_cases h2 : (a0.length : Int) ≤ n1
  · (repeat (first | (refine ⟨rfl, Ints.len (by assumption) ?_⟩; conv => whnf) | (refine ⟨rfl, Rows.len (by assumption) ?_⟩; conv => whnf) | (refine ⟨rfl, HLen.sl ?_⟩; conv => whnf) | (refine ⟨rfl, At.load (by assumption) ?_⟩; conv => whnf) | (refine HIf.yes ?_; conv => whnf) | (refine HIf.no ?_; conv => whnf) | (refine HIf.isT (by assumption) ?_; conv => whnf) | (refine HIf.isF (by assumption) ?_; conv => whnf) | (refine HIf.decT (by assumption) ?_; conv => whnf) | (refine HIf.decF (by assumption) ?_; conv => whnf) | (refine HIf.beqT (by assumption) ?_; conv => whnf) | (refine HIf.beqF (by assumption) ?_; conv => whnf) | (refine HIf.bneT (by assumption) ?_; conv => whnf) | (refine HIf.bneF (by assumption) ?_; conv => whnf) | (refine ⟨rfl, Ints.idxN (by assumption) (by omega) (fun p hp => ?_)⟩; conv => whnf) | (refine ⟨rfl, Rows.idxN (by assumption) (by omega) (fun p y hp hy => ?_)⟩; conv => whnf) | (refine And.intro (show Kd.isBool _ = true from rfl) ?_; conv => whnf) | (refine ⟨rfl, Ints.idx (by assumption) (by omega) (by omega) (fun p hp => ?_)⟩; conv => whnf) | (refine ⟨rfl, Rows.idx (by assumption) (by omega) (by omega) (fun p y hp hy => ?_)⟩; conv => whnf) | (refine HArith.fits (by omega) (by omega) ?_; conv => whnf) | (refine Or.inl (And.intro (show Region.lexB _ _ = true by kernel_rfl) ?_); conv => whnf)))
    rw [del_off h2]
    exact ⟨_, rfl, Fresh.of E1 O1⟩
  obtain ⟨i, rfl⟩ : ∃ i : Nat, n1 = i := ⟨n1.toNat, by omega⟩
  (repeat (first | (refine ⟨rfl, Ints.len (by assumption) ?_⟩; conv => whnf) | (refine ⟨rfl, Rows.len (by assumption) ?_⟩; conv => whnf) | (refine ⟨rfl, HLen.sl ?_⟩; conv => whnf) | (refine ⟨rfl, At.load (by assumption) ?_⟩; conv => whnf) | (refine HIf.yes ?_; conv => whnf) | (refine HIf.no ?_; conv => whnf) | (refine HIf.isT (by assumption) ?_; conv => whnf) | (refine HIf.isF (by assumption) ?_; conv => whnf) | (refine HIf.decT (by assumption) ?_; conv => whnf) | (refine HIf.decF (by assumption) ?_; conv => whnf) | (refine HIf.beqT (by assumption) ?_; conv => whnf) | (refine HIf.beqF (by assumption) ?_; conv => whnf) | (refine HIf.bneT (by assumption) ?_; conv => whnf) | (refine HIf.bneF (by assumption) ?_; conv => whnf) | (refine ⟨rfl, Ints.idxN (by assumption) (by omega) (fun p hp => ?_)⟩; conv => whnf) | (refine ⟨rfl, Rows.idxN (by assumption) (by omega) (fun p y hp hy => ?_)⟩; conv => whnf) | (refine And.intro (show Kd.isBool _ = true from rfl) ?_; conv => whnf) | (refine ⟨rfl, Ints.idx (by assumption) (by omega) (by omega) (fun p hp => ?_)⟩; conv => whnf) | (refine ⟨rfl, Rows.idx (by assumption) (by omega) (by omega) (fun p y hp hy => ?_)⟩; conv => whnf) | (refine HArith.fits (by omega) (by omega) ?_; conv => whnf) | (refine Or.inl (And.intro (show Region.lexB _ _ = true by kernel_rfl) ?_); conv => whnf)))
  refine (lib_Delete _ r _ _ i O (by omega) s0).mono ?_
  rintro v h3 ⟨y, rfl, B, O3⟩
  rw [← del_at] at O3
  (conv => whnf)
  exact ⟨_, rfl, Fresh.ofRow (E1.but B hr1) O3 hr1⟩

theorem impl_DeleteAt (h : Heap) (x0 : H0) (a0 : List Int) (n1 : Int) (hx0 : Ints h x0 a0) (s0 : a0.length ≤ 1048576) (_s1 : -9223372036854775808 ≤ n1 ∧ n1 ≤ 9223372036854775807) :
    HCalls dm Try.prog 30 [.s x0, I n1] h (fun r h' => ∃ y, r = .s y ∧ Fresh h h' y (del a0 n1)) := impl_DeleteAt0 h x0 a0 n1 hx0 s0

end Go.Proofs.Ytkkniibnlniflaa.Hx
