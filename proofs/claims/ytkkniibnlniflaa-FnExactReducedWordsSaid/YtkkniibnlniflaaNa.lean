
/-
  Braid relations and Matsumoto's theorem for the game of signs: the reduced words of an element are all joined by braid moves. Plain theory; nothing of a program is named here.
-/
import Derived.Test.YtkkniibnlniflaaPc
namespace Go.Proofs.Ytkkniibnlniflaa.Hx

def altS (c : Nat → Nat → Int) (i j : Nat) : Nat → Pos → Pos
  | 0, v => v
  | m + 1, v => sr c i (altS c j i m v)

def bondP (p : Int) : Nat := if p = 0 then 2 else if p = 1 then 3 else if p = 2 then 4 else if p = 3 then 6 else 0

section
variable {N : Nat} {c : Nat → Nat → Int} {i j : Nat} {v : Pos}

theorem st_i (M : MatOk N c) (hi : i < N) (a b a' : Int) (h : a + a' = v i - b * c i j) : sr c i (cb c i j v a b) = cb c i j v a' b := by
  refine cb_i c i j v a b a' ?_
  show a' = a + (v i - a * c i i - b * c i j)
  rw [M.diag i hi]
  omega
theorem st_j (M : MatOk N c) (hj : j < N) (a b b' : Int) (h : b + b' = v j - a * c j i) : sr c j (cb c i j v a b) = cb c i j v a b' := by
  refine cb_j c i j v a b b' ?_
  show b' = b + (v j - a * c j i - b * c j j)
  rw [M.diag j hj]
  omega
theorem dn_i (M : MatOk N c) (hi : i < N) {k : Nat} {a b : Int} (a' : Int) (p : Play N c k (cb c i j v a b)) (h : a + a' = v i - b * c i j) (lt : a' < a) : ∃ m, k = m + 1 ∧ Play N c m (cb c i j v a' b) := by
  have e : cb c i j v a b i = a' - a := by
    show v i - a * c i i - b * c i j = a' - a
    rw [M.diag i hi]
    omega
  obtain ⟨m, hm, q⟩ := p.down M hi (by rw [e]; omega)
  rw [st_i M hi a b a' h] at q
  exact ⟨m, hm, q⟩
theorem dn_j (M : MatOk N c) (hj : j < N) {k : Nat} {a b : Int} (b' : Int) (p : Play N c k (cb c i j v a b)) (h : b + b' = v j - a * c j i) (lt : b' < b) : ∃ m, k = m + 1 ∧ Play N c m (cb c i j v a b') := by
  have e : cb c i j v a b j = b' - b := by
    show v j - a * c j i - b * c j j = b' - b
    rw [M.diag j hj]
    omega
  obtain ⟨m, hm, q⟩ := p.down M hj (by rw [e]; omega)
  rw [st_j M hj a b b' h] at q
  exact ⟨m, hm, q⟩

theorem fin_cases_of (M : MatOk N c) (hi : i < N) (hj : j < N) (hij : i ≠ j) :
    (c i j = 0 ∧ c j i = 0) ∨ (c i j = -1 ∧ c j i = -1) ∨ (c i j = -2 ∧ c j i = -1) ∨ (c i j = -1 ∧ c j i = -2) ∨ (c i j = -3 ∧ c j i = -1) ∨ (c i j = -1 ∧ c j i = -3) ∨ (c i j ≤ -2 ∧ c j i ≤ -2) := by
  have o1 := M.off i j hi hj hij
  have o2 := M.off j i hj hi (Ne.symm hij)
  have z1 := M.zero i j hi hj
  have z2 := M.zero j i hj hi
  omega

theorem bondP_inf (M : MatOk N c) (hi : i < N) (hj : j < N) (hij : i ≠ j) (h : c i j ≤ -2 ∧ c j i ≤ -2) : bondP (c i j * c j i) = 0 := by
  have o1 := M.off i j hi hj hij
  have o2 := M.off j i hj hi (Ne.symm hij)
  have e1 : c i j = -2 ∨ c i j = -3 := by omega
  have e2 : c j i = -2 ∨ c j i = -3 := by omega
  rcases e1 with e1 | e1 <;> rcases e2 with e2 | e2 <;> rw [e1, e2] <;> rfl

/-- Both rows of turns lead to the same place. -/
theorem alt_rel (M : MatOk N c) (hi : i < N) (hj : j < N) (hij : i ≠ j) (v : Pos) : altS c i j (bondP (c i j * c j i)) v = altS c j i (bondP (c i j * c j i)) v := by
  have s1 : ∀ a b a' : Int, a + a' = v i - b * c i j → sr c i (cb c i j v a b) = cb c i j v a' b := fun a b a' h => st_i M hi a b a' h
  have s2 : ∀ a b b' : Int, b + b' = v j - a * c j i → sr c j (cb c i j v a b) = cb c i j v a b' := fun a b b' h => st_j M hj a b b' h
  have t1 : sr c i v = cb c i j v (v i) 0 := sr_cb c i j v
  have t2 : sr c j v = cb c i j v 0 (v j) := sr_cb' c i j v
  rcases fin_cases_of M hi hj hij with ⟨e1, e2⟩ | ⟨e1, e2⟩ | ⟨e1, e2⟩ | ⟨e1, e2⟩ | ⟨e1, e2⟩ | ⟨e1, e2⟩ | h
  · rw [show bondP (c i j * c j i) = 2 by rw [e1, e2]; rfl]
    rw [e1] at s1
    rw [e2] at s2
    generalize v i = a at *
    generalize v j = b at *
    simp only [altS, t1, t2]
    rw [s1 0 b a (by omega), s2 a 0 b (by omega)]
  · rw [show bondP (c i j * c j i) = 3 by rw [e1, e2]; rfl]
    rw [e1] at s1
    rw [e2] at s2
    generalize v i = a at *
    generalize v j = b at *
    simp only [altS, t1, t2]
    rw [s2 a 0 (a + b) (by omega), s1 a (a + b) (a + b) (by omega), s1 0 b (a + b) (by omega), s2 (a + b) b (a + b) (by omega)]
  · rw [show bondP (c i j * c j i) = 4 by rw [e1, e2]; rfl]
    rw [e1] at s1
    rw [e2] at s2
    generalize v i = a at *
    generalize v j = b at *
    simp only [altS, t1, t2]
    rw [s1 0 b (a + 2 * b) (by omega), s2 (a + 2 * b) b (a + 2 * b) (by omega), s1 (a + 2 * b) (a + 2 * b) (2 * a + 2 * b) (by omega),
      s2 a 0 (a + b) (by omega), s1 a (a + b) (2 * a + 2 * b) (by omega), s2 (2 * a + 2 * b) (a + b) (a + 2 * b) (by omega)]
  · rw [show bondP (c i j * c j i) = 4 by rw [e1, e2]; rfl]
    rw [e1] at s1
    rw [e2] at s2
    generalize v i = a at *
    generalize v j = b at *
    simp only [altS, t1, t2]
    rw [s1 0 b (a + b) (by omega), s2 (a + b) b (2 * a + 2 * b) (by omega), s1 (a + b) (2 * a + 2 * b) (2 * a + b) (by omega),
      s2 a 0 (2 * a + b) (by omega), s1 a (2 * a + b) (2 * a + b) (by omega), s2 (2 * a + b) (2 * a + b) (2 * a + 2 * b) (by omega)]
  · rw [show bondP (c i j * c j i) = 6 by rw [e1, e2]; rfl]
    rw [e1] at s1
    rw [e2] at s2
    generalize v i = a at *
    generalize v j = b at *
    simp only [altS, t1, t2]
    rw [s1 0 b (a + 3 * b) (by omega), s2 (a + 3 * b) b (a + 3 * b) (by omega), s1 (a + 3 * b) (a + 3 * b) (3 * a + 6 * b) (by omega), s2 (3 * a + 6 * b) (a + 3 * b) (2 * a + 4 * b) (by omega), s1 (3 * a + 6 * b) (2 * a + 4 * b) (4 * a + 6 * b) (by omega),
      s2 a 0 (a + b) (by omega), s1 a (a + b) (3 * a + 3 * b) (by omega), s2 (3 * a + 3 * b) (a + b) (2 * a + 3 * b) (by omega), s1 (3 * a + 3 * b) (2 * a + 3 * b) (4 * a + 6 * b) (by omega), s2 (4 * a + 6 * b) (2 * a + 3 * b) (2 * a + 4 * b) (by omega)]
  · rw [show bondP (c i j * c j i) = 6 by rw [e1, e2]; rfl]
    rw [e1] at s1
    rw [e2] at s2
    generalize v i = a at *
    generalize v j = b at *
    simp only [altS, t1, t2]
    rw [s1 0 b (a + b) (by omega), s2 (a + b) b (3 * a + 3 * b) (by omega), s1 (a + b) (3 * a + 3 * b) (3 * a + 2 * b) (by omega), s2 (3 * a + 2 * b) (3 * a + 3 * b) (6 * a + 4 * b) (by omega), s1 (3 * a + 2 * b) (6 * a + 4 * b) (4 * a + 2 * b) (by omega),
      s2 a 0 (3 * a + b) (by omega), s1 a (3 * a + b) (3 * a + b) (by omega), s2 (3 * a + b) (3 * a + b) (6 * a + 3 * b) (by omega), s1 (3 * a + b) (6 * a + 3 * b) (4 * a + 2 * b) (by omega), s2 (4 * a + 2 * b) (6 * a + 3 * b) (6 * a + 4 * b) (by omega)]
  · rw [bondP_inf M hi hj hij h]
    rfl

/-- Back by the same turns. -/
def downS (c : Nat → Nat → Int) (i j : Nat) : Nat → Pos → Pos
  | 0, v => v
  | m + 1, v => downS c j i m (sr c i v)

theorem alt_down : ∀ (m i j : Nat), c i i = 2 → c j j = 2 → ∀ v, altS c i j m (downS c i j m v) = v
  | 0, _, _, _, _, _ => rfl
  | m + 1, i, j, di, dj, v => by
    show sr c i (altS c j i m (downS c j i m (sr c i v))) = v
    rw [alt_down m j i dj di, sr_sr di]

theorem down_chain (c : Nat → Nat → Int) (i j : Nat) (m : Nat) (v : Pos) : downS c i j (m + 1) v = downS c j i m (sr c i v) := rfl

/-- Two descents: the element begins with either row of turns, and there is a bond. -/
theorem play_two (M : MatOk N c) (hi : i < N) (hj : j < N) (hij : i ≠ j) {n : Nat} (pp : Play N c n v) (ha : v i < 0) (hb : v j < 0) :
    2 ≤ bondP (c i j * c j i) ∧ ∃ k u, n = k + bondP (c i j * c j i) ∧ Play N c k u ∧ v = altS c i j (bondP (c i j * c j i)) u ∧ v = altS c j i (bondP (c i j * c j i)) u := by
  have fin : ∀ (m : Nat), bondP (c i j * c j i) = m → 2 ≤ m → (∃ k, n = k + m ∧ Play N c k (downS c i j m v)) →
      2 ≤ bondP (c i j * c j i) ∧ ∃ k u, n = k + bondP (c i j * c j i) ∧ Play N c k u ∧ v = altS c i j (bondP (c i j * c j i)) u ∧ v = altS c j i (bondP (c i j * c j i)) u := by
    rintro m rfl h2 ⟨k, hk, q⟩
    have e := alt_down (c := c) (bondP (c i j * c j i)) i j (M.diag i hi) (M.diag j hj) v
    exact ⟨h2, k, _, hk, q, e.symm, by rw [← alt_rel M hi hj hij]; exact e.symm⟩
  have p0 : Play N c n (cb c i j v 0 0) := by rw [cb_none]; exact pp
  have s1 : ∀ a b a' : Int, a + a' = v i - b * c i j → sr c i (cb c i j v a b) = cb c i j v a' b := fun a b a' h => st_i M hi a b a' h
  have s2 : ∀ a b b' : Int, b + b' = v j - a * c j i → sr c j (cb c i j v a b) = cb c i j v a b' := fun a b b' h => st_j M hj a b b' h
  have d1 : ∀ {k : Nat} {a b : Int} (a' : Int), Play N c k (cb c i j v a b) → a + a' = v i - b * c i j → a' < a → ∃ m, k = m + 1 ∧ Play N c m (cb c i j v a' b) := fun a' q h lt => dn_i M hi a' q h lt
  have d2 : ∀ {k : Nat} {a b : Int} (b' : Int), Play N c k (cb c i j v a b) → b + b' = v j - a * c j i → b' < b → ∃ m, k = m + 1 ∧ Play N c m (cb c i j v a b') := fun b' q h lt => dn_j M hj b' q h lt
  have t1 : sr c i v = cb c i j v (v i) 0 := sr_cb c i j v
  rcases fin_cases_of M hi hj hij with ⟨e1, e2⟩ | ⟨e1, e2⟩ | ⟨e1, e2⟩ | ⟨e1, e2⟩ | ⟨e1, e2⟩ | ⟨e1, e2⟩ | h
  · refine fin 2 (by rw [e1, e2]; rfl) (by omega) ?_
    rw [e1] at s1 d1
    rw [e2] at s2 d2
    generalize v i = a at *
    generalize v j = b at *
    simp only [downS, t1]
    rw [s2 a 0 b (by omega)]
    obtain ⟨k1, m1, p⟩ := d1 a p0 (by omega) (by omega)
    obtain ⟨k2, m2, p⟩ := d2 b p (by omega) (by omega)
    exact ⟨k2, by omega, p⟩
  · refine fin 3 (by rw [e1, e2]; rfl) (by omega) ?_
    rw [e1] at s1 d1
    rw [e2] at s2 d2
    generalize v i = a at *
    generalize v j = b at *
    simp only [downS, t1]
    rw [s2 a 0 (a + b) (by omega), s1 a (a + b) (a + b) (by omega)]
    obtain ⟨k1, m1, p⟩ := d1 a p0 (by omega) (by omega)
    obtain ⟨k2, m2, p⟩ := d2 (a + b) p (by omega) (by omega)
    obtain ⟨k3, m3, p⟩ := d1 (a + b) p (by omega) (by omega)
    exact ⟨k3, by omega, p⟩
  · refine fin 4 (by rw [e1, e2]; rfl) (by omega) ?_
    rw [e1] at s1 d1
    rw [e2] at s2 d2
    generalize v i = a at *
    generalize v j = b at *
    simp only [downS, t1]
    rw [s2 a 0 (a + b) (by omega), s1 a (a + b) (2 * a + 2 * b) (by omega), s2 (2 * a + 2 * b) (a + b) (a + 2 * b) (by omega)]
    obtain ⟨k1, m1, p⟩ := d1 a p0 (by omega) (by omega)
    obtain ⟨k2, m2, p⟩ := d2 (a + b) p (by omega) (by omega)
    obtain ⟨k3, m3, p⟩ := d1 (2 * a + 2 * b) p (by omega) (by omega)
    obtain ⟨k4, m4, p⟩ := d2 (a + 2 * b) p (by omega) (by omega)
    exact ⟨k4, by omega, p⟩
  · refine fin 4 (by rw [e1, e2]; rfl) (by omega) ?_
    rw [e1] at s1 d1
    rw [e2] at s2 d2
    generalize v i = a at *
    generalize v j = b at *
    simp only [downS, t1]
    rw [s2 a 0 (2 * a + b) (by omega), s1 a (2 * a + b) (2 * a + b) (by omega), s2 (2 * a + b) (2 * a + b) (2 * a + 2 * b) (by omega)]
    obtain ⟨k1, m1, p⟩ := d1 a p0 (by omega) (by omega)
    obtain ⟨k2, m2, p⟩ := d2 (2 * a + b) p (by omega) (by omega)
    obtain ⟨k3, m3, p⟩ := d1 (2 * a + b) p (by omega) (by omega)
    obtain ⟨k4, m4, p⟩ := d2 (2 * a + 2 * b) p (by omega) (by omega)
    exact ⟨k4, by omega, p⟩
  · refine fin 6 (by rw [e1, e2]; rfl) (by omega) ?_
    rw [e1] at s1 d1
    rw [e2] at s2 d2
    generalize v i = a at *
    generalize v j = b at *
    simp only [downS, t1]
    rw [s2 a 0 (a + b) (by omega), s1 a (a + b) (3 * a + 3 * b) (by omega), s2 (3 * a + 3 * b) (a + b) (2 * a + 3 * b) (by omega), s1 (3 * a + 3 * b) (2 * a + 3 * b) (4 * a + 6 * b) (by omega), s2 (4 * a + 6 * b) (2 * a + 3 * b) (2 * a + 4 * b) (by omega)]
    obtain ⟨k1, m1, p⟩ := d1 a p0 (by omega) (by omega)
    obtain ⟨k2, m2, p⟩ := d2 (a + b) p (by omega) (by omega)
    obtain ⟨k3, m3, p⟩ := d1 (3 * a + 3 * b) p (by omega) (by omega)
    obtain ⟨k4, m4, p⟩ := d2 (2 * a + 3 * b) p (by omega) (by omega)
    obtain ⟨k5, m5, p⟩ := d1 (4 * a + 6 * b) p (by omega) (by omega)
    obtain ⟨k6, m6, p⟩ := d2 (2 * a + 4 * b) p (by omega) (by omega)
    exact ⟨k6, by omega, p⟩
  · refine fin 6 (by rw [e1, e2]; rfl) (by omega) ?_
    rw [e1] at s1 d1
    rw [e2] at s2 d2
    generalize v i = a at *
    generalize v j = b at *
    simp only [downS, t1]
    rw [s2 a 0 (3 * a + b) (by omega), s1 a (3 * a + b) (3 * a + b) (by omega), s2 (3 * a + b) (3 * a + b) (6 * a + 3 * b) (by omega), s1 (3 * a + b) (6 * a + 3 * b) (4 * a + 2 * b) (by omega), s2 (4 * a + 2 * b) (6 * a + 3 * b) (6 * a + 4 * b) (by omega)]
    obtain ⟨k1, m1, p⟩ := d1 a p0 (by omega) (by omega)
    obtain ⟨k2, m2, p⟩ := d2 (3 * a + b) p (by omega) (by omega)
    obtain ⟨k3, m3, p⟩ := d1 (3 * a + b) p (by omega) (by omega)
    obtain ⟨k4, m4, p⟩ := d2 (6 * a + 3 * b) p (by omega) (by omega)
    obtain ⟨k5, m5, p⟩ := d1 (4 * a + 2 * b) p (by omega) (by omega)
    obtain ⟨k6, m6, p⟩ := d2 (6 * a + 4 * b) p (by omega) (by omega)
    exact ⟨k6, by omega, p⟩
  · exfalso
    have o1 := M.off i j hi hj hij
    have o2 := M.off j i hj hi (Ne.symm hij)
    obtain ⟨m, rfl, q⟩ := pp.down M hj hb
    refine play_inf M m (fun k _ w hw => play_good M k w hw) m (Nat.le_refl _) (sr c j v) i j q hi hj h o1.1 o2.1 ?_ ?_ ?_
    · show v i - v j * c i j < 0
      have e1 : c i j = -2 ∨ c i j = -3 := by omega
      rcases e1 with e1 | e1 <;> rw [e1] <;> omega
    · rw [sr_at (M.diag j hj)]
      omega
    · rw [sr_at (M.diag j hj)]
      show - c i j * - v j ≤ 2 * - (v i - v j * c i j)
      have e1 : c i j = -2 ∨ c i j = -3 := by omega
      rcases e1 with e1 | e1 <;> rw [e1] <;> omega
end

end Go.Proofs.Ytkkniibnlniflaa.Hx
