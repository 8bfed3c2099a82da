/-
  The game of signs from whatever places above zero, and that the numbers of a root all have one sign. Plain theory.
  Roots as maps of places: a root's numbers all have one sign, and the sign is told by the length of a word. Plain theory.
  The matrix turned over: the same words are reduced, so a root and its coroot have one sign; a root above zero that is not simple goes down at some letter. Plain theory.
  The roots up to a height: whatever way leads to a root above zero, a way that only goes up leads to it too. Plain theory on lists.
  Inversions as places: which roots above zero a reduced word takes below zero, the same ones for all reduced words of an element. Plain theory.
  Reflections of weights, plain: a reflection is its own inverse, and the turns of two letters, as many as their bond says, lead to the same place whichever begins.
-/
import Derived.Test.YtgliajcgcbnemaaGreatDoorZ15
namespace Go.Proofs.YtgliajcgcbnemaaGreatDoor.Hx.Lam
open Go.Proofs.YtgliajcgcbnemaaGreatDoor.Hx

/-- n steps, each at a negative number, lead from v to lam. -/
inductive Play (lam : Pos) (N : Nat) (c : Nat → Nat → Int) : Nat → Pos → Prop where
  | done {v : Pos} (h : ∀ i, i < N → v i = lam i) : Play lam N c 0 v
  | step {n : Nat} {v : Pos} (i : Nat) (hi : i < N) (h : v i < 0) (p : Play lam N c n (sr c i v)) : Play lam N c (n + 1) v

theorem Play.up {lam : Pos} {N : Nat} {c : Nat → Nat → Int} (M : MatOk N c) {n i : Nat} {v : Pos} (p : Play lam N c n v) (hi : i < N) (h : 0 < v i) : Play lam N c (n + 1) (sr c i v) :=
  .step i hi (by rw [sr_at (M.diag i hi)]; omega) (by rw [sr_sr (M.diag i hi)]; exact p)

def Good (lam : Pos) (N : Nat) (c : Nat → Nat → Int) (n : Nat) (v : Pos) : Prop := ∀ i, i < N → v i ≠ 0 ∧ (v i < 0 → ∃ m, n = m + 1 ∧ Play lam N c m (sr c i v))

theorem play_inf {lam : Pos} {N : Nat} {c : Nat → Nat → Int} (M : MatOk N c) (n : Nat) (IH : ∀ m, m ≤ n → ∀ v, Play lam N c m v → Good lam N c m v) :
    ∀ k, k ≤ n → ∀ (v : Pos) (i j : Nat), Play lam N c k v → i < N → j < N → (c i j ≤ -2 ∧ c j i ≤ -2) → -3 ≤ c i j → -3 ≤ c j i → v i < 0 → 0 < v j → - c i j * v j ≤ 2 * (- v i) → False := by
  intro k
  induction k with
  | zero =>
    intro _ v i j p hi _ _ _ _ h1 _ _
    obtain ⟨m, hm, _⟩ := (IH 0 (by omega) v p i hi).2 h1
    omega
  | succ k ih =>
    intro hk v i j p hi hj hc h3 h4 h1 h2 hb
    obtain ⟨m, hm, q⟩ := (IH (k + 1) hk v p i hi).2 h1
    have : m = k := by omega
    subst this
    refine ih (by omega) (sr c i v) j i q hj hi ⟨hc.2, hc.1⟩ h4 h3 ?_ ?_ ?_
    · show v j - v i * c j i < 0
      have e1 : c i j = -2 ∨ c i j = -3 := by omega
      have e2 : c j i = -2 ∨ c j i = -3 := by omega
      rcases e1 with e1 | e1 <;> rcases e2 with e2 | e2 <;> rw [e1] at hb <;> rw [e2] <;> omega
    · rw [sr_at (M.diag i hi)]
      omega
    · rw [sr_at (M.diag i hi)]
      show - c j i * - v i ≤ 2 * -(v j - v i * c j i)
      have e1 : c i j = -2 ∨ c i j = -3 := by omega
      have e2 : c j i = -2 ∨ c j i = -3 := by omega
      rcases e1 with e1 | e1 <;> rcases e2 with e2 | e2 <;> rw [e1] at hb <;> rw [e2] <;> omega

section
variable {lam : Pos} {N : Nat} {c : Nat → Nat → Int} {n i j : Nat} {v : Pos}

theorem down_i (M : MatOk N c) (IH : ∀ m, m ≤ n → ∀ v, Play lam N c m v → Good lam N c m v) (hi : i < N) (a b a' : Int) {m : Nat} (hm : m ≤ n) (p : Play lam N c m (cb c i j v a b)) (h : a' - a = v i - 2 * a - b * c i j) (hl : a' ≤ a) :
    a' < a ∧ ∃ k, m = k + 1 ∧ Play lam N c k (cb c i j v a' b) := by
  have e : cb c i j v a b i = a' - a := by
    show v i - a * c i i - b * c i j = a' - a
    rw [M.diag i hi]
    omega
  have g := IH m hm _ p i hi
  rw [e] at g
  refine ⟨by omega, ?_⟩
  obtain ⟨k, hk, q⟩ := g.2 (by omega)
  rw [cb_i c i j v a b a' (by omega)] at q
  exact ⟨k, hk, q⟩
theorem down_j (M : MatOk N c) (IH : ∀ m, m ≤ n → ∀ v, Play lam N c m v → Good lam N c m v) (hj : j < N) (a b b' : Int) {m : Nat} (hm : m ≤ n) (p : Play lam N c m (cb c i j v a b)) (h : b' - b = v j - a * c j i - 2 * b) (hl : b' ≤ b) :
    b' < b ∧ ∃ k, m = k + 1 ∧ Play lam N c k (cb c i j v a b') := by
  have e : cb c i j v a b j = b' - b := by
    show v j - a * c j i - b * c j j = b' - b
    rw [M.diag j hj]
    omega
  have g := IH m hm _ p j hj
  rw [e] at g
  refine ⟨by omega, ?_⟩
  obtain ⟨k, hk, q⟩ := g.2 (by omega)
  rw [cb_j c i j v a b b' (by omega)] at q
  exact ⟨k, hk, q⟩
theorem up_i (M : MatOk N c) (hi : i < N) (a b a' : Int) {m : Nat} (p : Play lam N c m (cb c i j v a b)) (h : a' - a = v i - 2 * a - b * c i j) (hl : a < a') : Play lam N c (m + 1) (cb c i j v a' b) := by
  have e : cb c i j v a b i = a' - a := by
    show v i - a * c i i - b * c i j = a' - a
    rw [M.diag i hi]
    omega
  have := p.up M hi (by rw [e]; omega)
  rwa [cb_i c i j v a b a' (by omega)] at this
theorem up_j (M : MatOk N c) (hj : j < N) (a b b' : Int) {m : Nat} (p : Play lam N c m (cb c i j v a b)) (h : b' - b = v j - a * c j i - 2 * b) (hl : b < b') : Play lam N c (m + 1) (cb c i j v a b') := by
  have e : cb c i j v a b j = b' - b := by
    show v j - a * c j i - b * c j j = b' - b
    rw [M.diag j hj]
    omega
  have := p.up M hj (by rw [e]; omega)
  rwa [cb_j c i j v a b b' (by omega)] at this


theorem play_pair (M : MatOk N c) (IH : ∀ m, m ≤ n → ∀ v, Play lam N c m v → Good lam N c m v) (hi : i < N) (hj : j < N) (hij : i ≠ j) (hb : v j < 0) (p : Play lam N c n (sr c j v)) (ha : v i ≤ 0) :
    v i < 0 ∧ Play lam N c n (sr c i v) := by
  have o1 := M.off i j hi hj hij
  have o2 := M.off j i hj hi (Ne.symm hij)
  have z1 := M.zero i j hi hj
  have z2 := M.zero j i hj hi
  by_cases inf : c i j ≤ -2 ∧ c j i ≤ -2
  · exfalso
    refine play_inf M n IH n (Nat.le_refl _) (sr c j v) i j p hi hj inf o1.1 o2.1 ?_ ?_ ?_
    · show v i - v j * c i j < 0
      have e1 : c i j = -2 ∨ c i j = -3 := by omega
      rcases e1 with e1 | e1 <;> rw [e1] <;> omega
    · rw [sr_at (M.diag j hj)]
      omega
    · rw [sr_at (M.diag j hj)]
      show - c i j * - v j ≤ 2 * - (v i - v j * c i j)
      have e1 : c i j = -2 ∨ c i j = -3 := by omega
      rcases e1 with e1 | e1 <;> rw [e1] <;> omega
  rw [sr_cb' c i j v] at p
  rw [sr_cb c i j v]
  generalize hA : v i = a at *
  generalize hB : v j = b at *
  have fin : (c i j = 0 ∧ c j i = 0) ∨ (c i j = -1 ∧ c j i = -1) ∨ (c i j = -2 ∧ c j i = -1) ∨ (c i j = -1 ∧ c j i = -2) ∨ (c i j = -3 ∧ c j i = -1) ∨ (c i j = -1 ∧ c j i = -3) := by omega
  rcases fin with ⟨e1, e2⟩ | ⟨e1, e2⟩ | ⟨e1, e2⟩ | ⟨e1, e2⟩ | ⟨e1, e2⟩ | ⟨e1, e2⟩
  · obtain ⟨d1, k1, m1, p⟩ := down_i M IH hi 0 b a (by omega) p (by rw [e1, hA]; omega) (by omega)
    refine ⟨by omega, ?_⟩
    have p := up_j M hj a b 0 p (by rw [e2, hB]; omega) (by omega)
    rw [m1]
    exact p
  · obtain ⟨d1, k1, m1, p⟩ := down_i M IH hi 0 b (a + b) (by omega) p (by rw [e1, hA]; omega) (by omega)
    obtain ⟨d2, k2, m2, p⟩ := down_j M IH hj (a + b) b (a + b) (by omega) p (by rw [e2, hB]; omega) (by omega)
    refine ⟨by omega, ?_⟩
    have p := up_i M hi (a + b) (a + b) a p (by rw [e1, hA]; omega) (by omega)
    have p := up_j M hj a (a + b) 0 p (by rw [e2, hB]; omega) (by omega)
    rw [m1, m2]
    exact p
  · obtain ⟨d1, k1, m1, p⟩ := down_i M IH hi 0 b (a + 2 * b) (by omega) p (by rw [e1, hA]; omega) (by omega)
    obtain ⟨d2, k2, m2, p⟩ := down_j M IH hj (a + 2 * b) b (a + 2 * b) (by omega) p (by rw [e2, hB]; omega) (by omega)
    obtain ⟨d3, k3, m3, p⟩ := down_i M IH hi (a + 2 * b) (a + 2 * b) (2 * a + 2 * b) (by omega) p (by rw [e1, hA]; omega) (by omega)
    refine ⟨by omega, ?_⟩
    have p := up_j M hj (2 * a + 2 * b) (a + 2 * b) (a + b) p (by rw [e2, hB]; omega) (by omega)
    have p := up_i M hi (2 * a + 2 * b) (a + b) a p (by rw [e1, hA]; omega) (by omega)
    have p := up_j M hj a (a + b) 0 p (by rw [e2, hB]; omega) (by omega)
    rw [m1, m2, m3]
    exact p
  · obtain ⟨d1, k1, m1, p⟩ := down_i M IH hi 0 b (a + b) (by omega) p (by rw [e1, hA]; omega) (by omega)
    obtain ⟨d2, k2, m2, p⟩ := down_j M IH hj (a + b) b (2 * a + 2 * b) (by omega) p (by rw [e2, hB]; omega) (by omega)
    obtain ⟨d3, k3, m3, p⟩ := down_i M IH hi (a + b) (2 * a + 2 * b) (2 * a + b) (by omega) p (by rw [e1, hA]; omega) (by omega)
    refine ⟨by omega, ?_⟩
    have p := up_j M hj (2 * a + b) (2 * a + 2 * b) (2 * a + b) p (by rw [e2, hB]; omega) (by omega)
    have p := up_i M hi (2 * a + b) (2 * a + b) a p (by rw [e1, hA]; omega) (by omega)
    have p := up_j M hj a (2 * a + b) 0 p (by rw [e2, hB]; omega) (by omega)
    rw [m1, m2, m3]
    exact p
  · obtain ⟨d1, k1, m1, p⟩ := down_i M IH hi 0 b (a + 3 * b) (by omega) p (by rw [e1, hA]; omega) (by omega)
    obtain ⟨d2, k2, m2, p⟩ := down_j M IH hj (a + 3 * b) b (a + 3 * b) (by omega) p (by rw [e2, hB]; omega) (by omega)
    obtain ⟨d3, k3, m3, p⟩ := down_i M IH hi (a + 3 * b) (a + 3 * b) (3 * a + 6 * b) (by omega) p (by rw [e1, hA]; omega) (by omega)
    obtain ⟨d4, k4, m4, p⟩ := down_j M IH hj (3 * a + 6 * b) (a + 3 * b) (2 * a + 4 * b) (by omega) p (by rw [e2, hB]; omega) (by omega)
    obtain ⟨d5, k5, m5, p⟩ := down_i M IH hi (3 * a + 6 * b) (2 * a + 4 * b) (4 * a + 6 * b) (by omega) p (by rw [e1, hA]; omega) (by omega)
    refine ⟨by omega, ?_⟩
    have p := up_j M hj (4 * a + 6 * b) (2 * a + 4 * b) (2 * a + 3 * b) p (by rw [e2, hB]; omega) (by omega)
    have p := up_i M hi (4 * a + 6 * b) (2 * a + 3 * b) (3 * a + 3 * b) p (by rw [e1, hA]; omega) (by omega)
    have p := up_j M hj (3 * a + 3 * b) (2 * a + 3 * b) (a + b) p (by rw [e2, hB]; omega) (by omega)
    have p := up_i M hi (3 * a + 3 * b) (a + b) a p (by rw [e1, hA]; omega) (by omega)
    have p := up_j M hj a (a + b) 0 p (by rw [e2, hB]; omega) (by omega)
    rw [m1, m2, m3, m4, m5]
    exact p
  · obtain ⟨d1, k1, m1, p⟩ := down_i M IH hi 0 b (a + b) (by omega) p (by rw [e1, hA]; omega) (by omega)
    obtain ⟨d2, k2, m2, p⟩ := down_j M IH hj (a + b) b (3 * a + 3 * b) (by omega) p (by rw [e2, hB]; omega) (by omega)
    obtain ⟨d3, k3, m3, p⟩ := down_i M IH hi (a + b) (3 * a + 3 * b) (3 * a + 2 * b) (by omega) p (by rw [e1, hA]; omega) (by omega)
    obtain ⟨d4, k4, m4, p⟩ := down_j M IH hj (3 * a + 2 * b) (3 * a + 3 * b) (6 * a + 4 * b) (by omega) p (by rw [e2, hB]; omega) (by omega)
    obtain ⟨d5, k5, m5, p⟩ := down_i M IH hi (3 * a + 2 * b) (6 * a + 4 * b) (4 * a + 2 * b) (by omega) p (by rw [e1, hA]; omega) (by omega)
    refine ⟨by omega, ?_⟩
    have p := up_j M hj (4 * a + 2 * b) (6 * a + 4 * b) (6 * a + 3 * b) p (by rw [e2, hB]; omega) (by omega)
    have p := up_i M hi (4 * a + 2 * b) (6 * a + 3 * b) (3 * a + b) p (by rw [e1, hA]; omega) (by omega)
    have p := up_j M hj (3 * a + b) (6 * a + 3 * b) (3 * a + b) p (by rw [e2, hB]; omega) (by omega)
    have p := up_i M hi (3 * a + b) (3 * a + b) a p (by rw [e1, hA]; omega) (by omega)
    have p := up_j M hj a (3 * a + b) 0 p (by rw [e2, hB]; omega) (by omega)
    rw [m1, m2, m3, m4, m5]
    exact p
end

theorem play_good {lam : Pos} (hp : ∀ i, 0 < lam i) {N : Nat} {c : Nat → Nat → Int} (M : MatOk N c) : ∀ (n : Nat) (v : Pos), Play lam N c n v → Good lam N c n v := by
  intro n
  induction n using Nat.strongRecOn with
  | ind n ih =>
    intro v p i hi
    cases p with
    | done h =>
      rw [h i hi]
      have := hp i
      exact ⟨by omega, fun h => absurd h (by omega)⟩
    | step j hj hb p =>
      rename_i n
      by_cases e : i = j
      · subst e
        exact ⟨by omega, fun _ => ⟨n, rfl, p⟩⟩
      · by_cases ha : v i ≤ 0
        · obtain ⟨h1, h2⟩ := play_pair M (fun m hm => ih m (by omega)) hi hj e hb p ha
          exact ⟨by omega, fun _ => ⟨n, rfl, h2⟩⟩
        · exact ⟨by omega, fun h => absurd h (by omega)⟩

theorem Play.down {lam : Pos} {N : Nat} {c : Nat → Nat → Int} (hp : ∀ i, 0 < lam i) (M : MatOk N c) {n i : Nat} {v : Pos} (p : Play lam N c n v) (hi : i < N) (h : v i < 0) : ∃ m, n = m + 1 ∧ Play lam N c m (sr c i v) := (play_good hp M n v p i hi).2 h
theorem Play.ne {lam : Pos} {N : Nat} {c : Nat → Nat → Int} (hp : ∀ i, 0 < lam i) (M : MatOk N c) {n i : Nat} {v : Pos} (p : Play lam N c n v) (hi : i < N) : v i ≠ 0 := (play_good hp M n v p i hi).1

/-- Whatever step: at most one more. -/
theorem Play.any {lam : Pos} {N : Nat} {c : Nat → Nat → Int} (hp : ∀ i, 0 < lam i) (M : MatOk N c) {n i : Nat} {v : Pos} (p : Play lam N c n v) (hi : i < N) : ∃ m, m ≤ n + 1 ∧ Play lam N c m (sr c i v) := by
  by_cases h : v i < 0
  · obtain ⟨m, hm, q⟩ := p.down hp M hi h
    exact ⟨m, by omega, q⟩
  · have := p.ne hp M hi
    exact ⟨n + 1, Nat.le_refl _, p.up M hi (by omega)⟩

theorem Play.stop {lam : Pos} {N : Nat} {c : Nat → Nat → Int} {n : Nat} {v : Pos} (p : Play lam N c n v) (h : ∀ i, i < N → 0 ≤ v i) : n = 0 ∧ ∀ i, i < N → v i = lam i := by
  cases p with
  | done h => exact ⟨rfl, h⟩
  | step i hi hl _ => exact absurd (h i hi) (by omega)


end Go.Proofs.YtgliajcgcbnemaaGreatDoor.Hx.Lam

namespace Go.Proofs.YtgliajcgcbnemaaGreatDoor.Hx
open Go.RowKit

/-- The sum of products over the first places. -/
def dotP : Nat → Pos → Pos → Int
  | 0, _, _ => 0
  | n + 1, f, g => dotP n f g + f n * g n

/-- The place at which one number is 1. -/
def unitP (i : Nat) : Pos := fun k => if k = i then 1 else 0

/-- The mirror at i, of a root. -/
def mr (N : Nat) (c : Nat → Nat → Int) (i : Nat) (r : Pos) : Pos := fun k => r k - dotP N (c i) r * unitP i k

def tr (c : Nat → Nat → Int) : Nat → Nat → Int := fun a b => c b a

def actP (N : Nat) (c : Nat → Nat → Int) : List Int → Pos → Pos
  | [], r => r
  | i :: w, r => mr N c i.toNat (actP N c w r)

def sumPos (r : Pos) : Nat → Int
  | 0 => 0
  | n + 1 => sumPos r n + (if 0 < r n then r n else 0)
def sumNeg (r : Pos) : Nat → Int
  | 0 => 0
  | n + 1 => sumNeg r n + (if r n < 0 then - r n else 0)

def PosR (N : Nat) (r : Pos) : Prop := ∀ k, k < N → 0 ≤ r k

end Go.Proofs.YtgliajcgcbnemaaGreatDoor.Hx

namespace Go.Proofs.YtgliajcgcbnemaaGreatDoor.Hx
open Go.RowKit

def transp (c : List (List Int)) : List (List Int) := (List.range c.length).map fun i => (List.range c.length).map fun j => ent c j i

theorem ent_row {c : List (List Int)} (hC : Cartan c) {k i : Nat} (h : c.length ≤ i) : ent c k i = 0 := by
  by_cases hk : k < c.length
  · have := hC.row k hk
    show (c.getD k []).getD i 0 = 0
    generalize c.getD k [] = l at this
    simp [List.getD, show l.length ≤ i by omega]
  · exact ent_off (by omega)

/-- The root of a word and a letter, its coroot. -/
def rootP (c : List (List Int)) (w : List Int) (i : Nat) : Pos := actP c.length (ent c) w (unitP i)

/-- The pairing of a coroot's numbers with a root's. -/
def pairP (N : Nat) (c : Nat → Nat → Int) (n r : Pos) : Int := dotP N n (fun j => dotP N (c j) r)

end Go.Proofs.YtgliajcgcbnemaaGreatDoor.Hx

namespace Go.Proofs.YtgliajcgcbnemaaGreatDoor.Hx
open Go.RowKit

def Tame (n : Int) (r : List Int) : Prop := ∀ k, - n ≤ r.getD k 0 ∧ r.getD k 0 ≤ n

theorem ent_tame {c : List (List Int)} (hC : Cartan c) (i k : Nat) : -3 ≤ ent c i k ∧ ent c i k ≤ 2 := by
  by_cases hi : i < c.length
  · by_cases hk : k < c.length
    · by_cases e : i = k
      · subst e
        have := (matOk hC).diag i hi
        omega
      · have := (matOk hC).off i k hi hk e
        omega
    · rw [ent_row hC (by omega)]
      omega
  · rw [ent_off (by omega)]
    omega

/-- The roots to which ways that only go up lead. -/
inductive RootUp (c : List (List Int)) (H : Int) : List Int → Prop where
  | simple (i : Nat) (hi : i < c.length) : RootUp c H (simpleRoot c (i : Nat))
  | step {r : List Int} (i : Nat) (hi : i < c.length) (h : RootUp c H r) (hs : rootSign (mirror c i r) = 1) (hh : heightOf (mirror c i r) ≤ H) (hl : heightOf r < heightOf (mirror c i r)) : RootUp c H (mirror c i r)

/-- What is known of such a root. -/
structure RootIs (c : List (List Int)) (r : List Int) (n : Nat) : Prop where
  len : r.length = c.length
  nonneg : ∀ k, 0 ≤ r.getD k 0
  le : ∀ k, r.getD k 0 ≤ n
  height : heightOf r = n
  word : ∃ (w : List Int) (i : Nat), lettersOk c w = true ∧ i < c.length ∧ w.length + 1 ≤ n ∧ posOf r = rootP c w i

theorem getD_off {r : List Int} {k : Nat} (h : r.length ≤ k) : r.getD k 0 = 0 := by simp [List.getD, h]

/-! ### The list of them -/

def RootList (c : List (List Int)) (H : Int) (L : List (List Int)) : Prop := SortedR L ∧ L.Nodup ∧ ∀ r, r ∈ L ↔ RootUp c H r

open Classical in
noncomputable def rootsUp (c : List (List Int)) (H : Int) : List (List Int) :=
  if isCartan c = true ∧ 1 ≤ H ∧ H ≤ 12 then (if h : ∃ L, RootList c H L then Classical.choose h else []) else []

/-! ### There are not too many -/

def boxes : Nat → List (List Int)
  | 0 => [[]]
  | n + 1 => (List.range 13).flatMap fun (x : Nat) => (boxes n).map fun l => (x : Int) :: l

end Go.Proofs.YtgliajcgcbnemaaGreatDoor.Hx

namespace Go.Proofs.YtgliajcgcbnemaaGreatDoor.Hx
open Go.RowKit

def NegR (N : Nat) (r : Pos) : Prop := ∀ k, k < N → r k ≤ 0
def IsRootP (c : List (List Int)) (p : Pos) : Prop := ∃ (u : List Int) (i : Nat), lettersOk c u = true ∧ i < c.length ∧ p = rootP c u i
/-- The roots of a word's letters. -/
def InvS (c : List (List Int)) : List Int → Pos → Prop
  | [], _ => False
  | i :: w, p => p = unitP i.toNat ∨ InvS c w (mr c.length (ent c) i.toNat p)

/-! ### Sizes -/

theorem mul_big {x y m : Int} (hx : -3 ≤ x ∧ x ≤ 2) (hy : -m ≤ y ∧ y ≤ m) : -(3 * m) ≤ x * y ∧ x * y ≤ 3 * m := by
  have f : x = -3 ∨ x = -2 ∨ x = -1 ∨ x = 0 ∨ x = 1 ∨ x = 2 := by omega
  rcases f with f | f | f | f | f | f <;> rw [f] <;> omega
end Go.Proofs.YtgliajcgcbnemaaGreatDoor.Hx

namespace Go.Proofs.YtgliajcgcbnemaaGreatDoor.Hx
open Go.RowKit

def reflectWeight (c : List (List Int)) (i : Int) (v : List Int) : List Int := if isCartan c && decide (v.length = c.length) && isPoint c i then reflW c i.toNat v else v
def actOnWeight (c : List (List Int)) (w v : List Int) : List Int := if isWord c w && decide (v.length = c.length) then actW c w v else v
theorem reflectWeight_length (c : List (List Int)) (i : Int) (v : List Int) : (reflectWeight c i v).length = v.length := by
  unfold reflectWeight
  split
  · exact reflW_length _ _ _
  · rfl
theorem actOnWeight_length (c : List (List Int)) (w v : List Int) : (actOnWeight c w v).length = v.length := by
  unfold actOnWeight
  split
  · exact actW_length _ _ _
  · rfl
theorem reflectWeight_off {c : List (List Int)} {i : Int} {v : List Int} (h : (isCartan c && decide (v.length = c.length) && isPoint c i) = false) : reflectWeight c i v = v := by simp [reflectWeight, h]
theorem reflectWeight_on {c : List (List Int)} {i : Int} {v : List Int} (h : (isCartan c && decide (v.length = c.length) && isPoint c i) = true) : reflectWeight c i v = reflW c i.toNat v := by simp [reflectWeight, h]
theorem actOnWeight_on {c : List (List Int)} {w v : List Int} (h : (isWord c w && decide (v.length = c.length)) = true) : actOnWeight c w v = actW c w v := by simp [actOnWeight, h]

theorem refl_big {c : List (List Int)} (hC : Cartan c) {i : Nat} (_hi : i < c.length) {m : Int} (h0 : 0 ≤ m) (hm : m ≤ 2000000000000000000) {v : List Int} (hl : v.length = c.length) (h : Tame m v) : posOf (reflW c i v) = sr (ent c) i (posOf v) ∧ Tame (4 * m) (reflW c i v) := by
  have key : ∀ k, (reflW c i v).getD k 0 = posOf v k - posOf v i * ent c k i := fun k => by
    by_cases hk : k < v.length
    · have a := mul_big (m := m) (ent_tame hC k i) (h i)
      have b := h k
      rw [Int.mul_comm (ent c k i)] at a
      have e : reflNew c i v k = v.getD k 0 - v.getD i 0 * ent c k i := by
        unfold reflNew
        rw [w64_in (e := v.getD i 0 * ent c k i) (by omega) (by omega), w64_in (by omega) (by omega)]
      have e2 : (reflW c i v).getD k 0 = reflNew c i v k := by simp [reflW, List.getD, hk]
      rw [e2, e]
      rfl
    · rw [getD_off (by rw [reflW_length]; omega), ent_off (by omega)]
      show 0 = v.getD k 0 - _
      rw [getD_off (by omega)]
      simp
  refine ⟨funext key, fun k => ?_⟩
  rw [key]
  have a := mul_big (m := m) (ent_tame hC k i) (h i)
  have b := h k
  rw [Int.mul_comm (ent c k i)] at a
  unfold posOf
  omega

theorem reflectWeight_twice {c : List (List Int)} {i : Int} {v : List Int} (h : Tame 1001 v) : reflectWeight c i (reflectWeight c i v) = v := by
  cases hb : isCartan c && decide (v.length = c.length) && isPoint c i with
  | false => rw [reflectWeight_off hb, reflectWeight_off hb]
  | true =>
    have hb2 : (isCartan c && decide ((reflW c i.toNat v).length = c.length) && isPoint c i) = true := by rw [reflW_length]; exact hb
    rw [reflectWeight_on hb, reflectWeight_on hb2]
    simp only [Bool.and_eq_true, decide_eq_true_eq] at hb
    have hC := (isCartan_iff c).1 hb.1.1
    have p := point_of hb.2
    obtain ⟨e1, t1⟩ := refl_big hC (i := i.toNat) (by omega) (by omega) (by omega) hb.1.2 h
    obtain ⟨e2, _⟩ := refl_big hC (i := i.toNat) (by omega) (by omega) (by omega) (by rw [reflW_length]; exact hb.1.2) t1
    refine posOf_inj (by rw [reflW_length, reflW_length]) ?_
    rw [e2, e1, sr_sr ((matOk hC).diag _ (by omega))]

theorem actW_big {c : List (List Int)} (hC : Cartan c) {v : List Int} (hl : v.length = c.length) (h : Tame 1001 v) : ∀ (w : List Int), lettersOk c w = true → w.length ≤ 15 → posOf (actW c w v) = actS (ent c) w (posOf v) ∧ Tame (1001 * ((4 ^ w.length : Nat) : Int)) (actW c w v)
  | [], _, _ => ⟨rfl, by show Tame (1001 * ((4 ^ 0 : Nat) : Int)) v; simpa using h⟩
  | i :: w, hw, hn => by
    obtain ⟨hi, h2⟩ := letters_cons.1 hw
    have p1 := point_of hi
    have hn' : w.length ≤ 14 := by simp at hn; omega
    obtain ⟨e1, t1⟩ := actW_big hC hl h w h2 (by omega)
    have hp : 4 ^ w.length ≤ 4 ^ 14 := Nat.pow_le_pow_right (by omega) hn'
    have hp2 : (4 : Nat) ^ 14 ≤ 1000000000 := by decide
    have e : 4 ^ (i :: w).length = 4 * 4 ^ w.length := by rw [List.length_cons, Nat.pow_succ, Nat.mul_comm]
    rw [e]
    generalize 4 ^ w.length = M at hp t1
    obtain ⟨g1, g2⟩ := refl_big hC (i := i.toNat) (by omega) (by omega) (by omega) (by rw [actW_length]; exact hl) t1
    refine ⟨?_, ?_⟩
    · rw [actW, g1, e1]
      rfl
    · have e3 : (1001 : Int) * ((4 * M : Nat) : Int) = 4 * (1001 * (M : Int)) := by omega
      rw [e3]
      exact g2

/-- The braid relation of two reflections. -/
theorem braid_weights {c : List (List Int)} {j k m : Int} {v : List Int} (hm : bond c j k = m) (hp : 0 < m) (hl : v.length = c.length) (h : Tame 1001 v) : actOnWeight c (alt j k m) v = actOnWeight c (alt k j m) v := by
  by_cases hjk : j = k
  · rw [hjk]
  cases h1 : isCartan c
  · rw [bond_off (Or.inl h1)] at hm; omega
  cases h3 : isPoint c j
  · rw [bond_off (Or.inr (Or.inl h3))] at hm; omega
  cases h4 : isPoint c k
  · rw [bond_off (Or.inr (Or.inr h4))] at hm; omega
  have hC := (isCartan_iff c).1 h1
  have p1 := point_of h3
  have p2 := point_of h4
  have hb := bond_of_pos hC h3 h4 hjk
  have hle : ∀ p, bondP p ≤ 6 := fun p => by
    unfold bondP
    split
    · omega
    split
    · omega
    split
    · omega
    split <;> omega
  have hle2 := hle (ent c j.toNat k.toNat * ent c k.toNat j.toNat)
  have hmn : m.toNat = bondP (ent c j.toNat k.toNat * ent c k.toNat j.toNat) := by omega
  have ha : ∀ a b : Int, alt a b m = altTo a b m.toNat := fun a b => by
    unfold alt
    rw [Nat.min_eq_left (by omega)]
  have word : ∀ a b : Int, isPoint c a = true → isPoint c b = true → lettersOk c (altTo a b m.toNat) = true ∧ isWord c (altTo a b m.toNat) = true := fun a b h5 h6 => by
    have hlt := letters_alt h5 h6 m.toNat
    refine ⟨hlt, ?_⟩
    unfold isWord
    rw [h1, hlt, decide_eq_true (show (altTo a b m.toNat).length ≤ 15 by rw [altTo_len]; omega)]
    rfl
  obtain ⟨l1, w1⟩ := word j k h3 h4
  obtain ⟨l2, w2⟩ := word k j h4 h3
  rw [ha, ha, actOnWeight_on (by rw [w1, decide_eq_true hl]; rfl), actOnWeight_on (by rw [w2, decide_eq_true hl]; rfl)]
  obtain ⟨e1, _⟩ := actW_big hC hl h _ l1 (by rw [altTo_len]; omega)
  obtain ⟨e2, _⟩ := actW_big hC hl h _ l2 (by rw [altTo_len]; omega)
  refine posOf_inj (by rw [actW_length, actW_length]) ?_
  rw [e1, e2, actS_alt, actS_alt, hmn]
  exact alt_rel (matOk hC) (by omega) (by omega) (by omega) _

end Go.Proofs.YtgliajcgcbnemaaGreatDoor.Hx
