
/-
  Images of rho and the game of signs: no number is zero, and the reduction by first descents comes back. Plain theory on lists.
-/
import Derived.Test.YtkkniibnlniflaaPb
import Derived.Test.YtkkniibnlniflaaGq
namespace Go.Proofs.Ytkkniibnlniflaa.Hx
open Go.RowKit

theorem matOk {c : List (List Int)} (hC : Cartan c) : MatOk c.length (ent c) := by
  refine ⟨fun i hi => ?_, fun i j hi hj hij => ?_, fun i j hi hj h0 => ?_⟩
  · have h := hC.ok i hi i hi
    simp only [cartBad, decide_true, Bool.true_and, Bool.not_true, Bool.false_and, Bool.or_false, Bool.not_eq_false', beq_iff_eq] at h
    exact h
  · have h := hC.ok i hi j hj
    simp only [cartBad, hij, decide_false, Bool.false_and, Bool.not_false, Bool.true_and, Bool.false_or, Bool.or_eq_false_iff, decide_eq_false_iff_not] at h
    omega
  · by_cases hij : i = j
    · subst hij; exact h0
    · have h := hC.ok i hi j hj
      simp only [cartBad, hij, decide_false, Bool.false_and, Bool.not_false, Bool.true_and, Bool.false_or, Bool.or_eq_false_iff] at h
      have h2 := h.2
      rw [h0] at h2
      simpa using h2

theorem ent_off {c : List (List Int)} {k i : Nat} (h : c.length ≤ k) : ent c k i = 0 := by
  unfold ent
  have : c.getD k [] = [] := by simp [List.getD, h]
  rw [this]
  rfl

def posOf (v : List Int) : Pos := fun k => v.getD k 0

def PlayL (c : List (List Int)) (n : Nat) (v : List Int) : Prop := v.length = c.length ∧ Play c.length (ent c) n (posOf v)

theorem w64_in {e : Int} (h1 : -9223372036854775808 ≤ e) (h2 : e ≤ 9223372036854775807) : w64 e = e := IntWalk.i64_in e ⟨h1, h2⟩

theorem PlayL.size {c : List (List Int)} (hC : Cartan c) {n : Nat} {v : List Int} (P : PlayL c n v) (hn : n ≤ 30) {k : Nat} (hk : k < c.length) : -1152921504606846976 ≤ v.getD k 0 ∧ v.getD k 0 ≤ 1152921504606846976 := by
  have h := P.2.size (matOk hC) k hk
  have h4 : 4 ^ n ≤ 4 ^ 30 := Nat.pow_le_pow_right (by omega) hn
  have e : (4 : Nat) ^ 30 = 1152921504606846976 := by decide
  rw [e] at h4
  simp only [posOf] at h
  omega

theorem pos_refl {c : List (List Int)} (hC : Cartan c) {n : Nat} {v : List Int} (P : PlayL c n v) (hn : n ≤ 30) {i : Nat} (hi : i < c.length) : posOf (reflW c i v) = sr (ent c) i (posOf v) := by
  funext k
  by_cases hk : k < c.length
  · have b1 := P.size hC hn hk
    have b2 := P.size hC hn hi
    have hkv : k < v.length := by rw [P.1]; exact hk
    have e : posOf (reflW c i v) k = reflNew c i v k := by simp [posOf, reflW, List.getD, hkv]
    rw [e]
    unfold reflNew sr posOf
    have f : ent c k i = 2 ∨ ent c k i = 0 ∨ ent c k i = -1 ∨ ent c k i = -2 ∨ ent c k i = -3 := by
      by_cases hki : k = i
      · subst hki; exact Or.inl ((matOk hC).diag k hk)
      · have := (matOk hC).off k i hk hi hki
        omega
    generalize v.getD k 0 = a at *
    generalize v.getD i 0 = b at *
    rcases f with f | f | f | f | f <;> rw [f] <;> rw [w64_in (e := b * _) (by omega) (by omega), w64_in (by omega) (by omega)]
  · have e1 : posOf (reflW c i v) k = 0 := by
      have : (reflW c i v).length ≤ k := by rw [reflW_length, P.1]; omega
      simp [posOf, List.getD, this]
    have e2 : posOf v k = 0 := by
      have : v.length ≤ k := by rw [P.1]; omega
      simp [posOf, List.getD, this]
    rw [e1]
    unfold sr
    rw [e2, ent_off (by omega)]
    simp

theorem PlayL.ne {c : List (List Int)} (hC : Cartan c) {n : Nat} {v : List Int} (P : PlayL c n v) {i : Nat} (hi : i < c.length) : v.getD i 0 ≠ 0 := P.2.ne (matOk hC) hi

theorem PlayL.any {c : List (List Int)} (hC : Cartan c) {n : Nat} {v : List Int} (P : PlayL c n v) (hn : n ≤ 30) {i : Nat} (hi : i < c.length) : ∃ m, m ≤ n + 1 ∧ PlayL c m (reflW c i v) := by
  obtain ⟨m, h1, h2⟩ := P.2.any (matOk hC) hi
  exact ⟨m, h1, by rw [reflW_length]; exact P.1, by rw [pos_refl hC P hn hi]; exact h2⟩

theorem PlayL.down {c : List (List Int)} (hC : Cartan c) {n : Nat} {v : List Int} (P : PlayL c n v) (hn : n ≤ 30) {i : Nat} (hi : i < c.length) (h : v.getD i 0 < 0) : ∃ m, n = m + 1 ∧ PlayL c m (reflW c i v) := by
  obtain ⟨m, h1, h2⟩ := P.2.down (matOk hC) hi h
  exact ⟨m, h1, by rw [reflW_length]; exact P.1, by rw [pos_refl hC P hn hi]; exact h2⟩

theorem PlayL.ones (c : List (List Int)) : PlayL c 0 (List.replicate c.length 1) := ⟨by simp, .done fun i hi => by simp [posOf, List.getD, hi]⟩

theorem posOf_inj {v u : List Int} (hl : v.length = u.length) (h : posOf v = posOf u) : v = u := by
  apply List.ext_getElem hl
  intro k h1 h2
  have := congrFun h k
  simpa [posOf, List.getD, h1, h2] using this

theorem reflW_twice {c : List (List Int)} (hC : Cartan c) {n m : Nat} {v : List Int} (P : PlayL c n v) (hn : n ≤ 30) {i : Nat} (hi : i < c.length) (P2 : PlayL c m (reflW c i v)) (hm : m ≤ 30) : reflW c i (reflW c i v) = v := by
  apply posOf_inj (by rw [reflW_length, reflW_length])
  rw [pos_refl hC P2 hm hi, pos_refl hC P hn hi, sr_sr ((matOk hC).diag i hi)]

theorem play_act {c : List (List Int)} (hC : Cartan c) : ∀ (w : List Int), lettersOk c w = true → w.length ≤ 31 → ∃ n, n ≤ w.length ∧ PlayL c n (actW c w (List.replicate c.length 1))
  | [], _, _ => ⟨0, Nat.le_refl _, PlayL.ones c⟩
  | i :: w, h, hl => by
    have h2 : isPoint c i = true ∧ lettersOk c w = true := by simpa [lettersOk] using h
    have hi := point_of h2.1
    have hl' : w.length + 1 ≤ 31 := by simpa using hl
    obtain ⟨n, h3, P⟩ := play_act hC w h2.2 (by omega)
    obtain ⟨m, h4, P2⟩ := P.any hC (by omega) (i := i.toNat) (by omega)
    exact ⟨m, by simp; omega, P2⟩

theorem play_image {c : List (List Int)} (hC : Cartan c) {w : List Int} (h : lettersOk c w = true) (hl : w.length ≤ 31) : ∃ n, n ≤ w.length ∧ PlayL c n (imageOf c w) := play_act hC w h hl

/-- The first negative number. -/
def fd (v : List Int) : Nat := v.findIdx fun x => decide (x < 0)

/-- The letters by which the reduction by first descents goes, at most f. -/
def nf (c : List (List Int)) : Nat → List Int → List Int
  | 0, _ => []
  | f + 1, v => if fd v < v.length then (fd v : Int) :: nf c f (reflW c (fd v) v) else []

theorem fd_at {v : List Int} {i : Nat} (hi : i < v.length) (h : v.getD i 0 < 0) (hb : ∀ k, k < i → 0 ≤ v.getD k 0) : fd v = i := by
  unfold fd
  rw [List.findIdx_eq hi]
  refine ⟨by simpa [List.getD, hi] using h, fun j hj => ?_⟩
  have := hb j hj
  have hjl : j < v.length := by omega
  simp only [List.getD, List.getElem?_eq_getElem hjl, Option.getD_some] at this
  simp
  omega
theorem fd_lt {v : List Int} (h : fd v < v.length) : v.getD (fd v) 0 < 0 := by
  have := List.findIdx_getElem (xs := v) (p := fun x => decide (x < 0)) (w := h)
  unfold fd at h ⊢
  simp only [List.getD, List.getElem?_eq_getElem h, Option.getD_some]
  simpa using this
theorem fd_end {v : List Int} (h : ¬ fd v < v.length) : ∀ k, k < v.length → 0 ≤ v.getD k 0 := by
  intro k hk
  have e : fd v = v.length := by
    have := List.findIdx_le_length (p := fun x => decide (x < 0)) (xs := v)
    unfold fd at *
    omega
  unfold fd at e
  rw [List.findIdx_eq_length] at e
  have := e v[k] (List.getElem_mem hk)
  simp only [List.getD, List.getElem?_eq_getElem hk, Option.getD_some]
  simp at this
  omega
theorem nf_zero (c : List (List Int)) (v : List Int) : nf c 0 v = [] := rfl
theorem nf_step {c : List (List Int)} {f i : Nat} {v : List Int} (hi : i < v.length) (h : v.getD i 0 < 0) (hb : ∀ k, k < i → 0 ≤ v.getD k 0) : nf c (f + 1) v = (i : Int) :: nf c f (reflW c i v) := by
  have e := fd_at hi h hb
  rw [nf, e, if_pos hi]
theorem nf_stop {c : List (List Int)} {f : Nat} {v : List Int} (hb : ∀ k, k < v.length → 0 ≤ v.getD k 0) : nf c f v = [] := by
  cases f with
  | zero => rfl
  | succ f =>
    rw [nf, if_neg]
    intro h
    have h1 := fd_lt h
    have := hb _ h
    omega

theorem nf_more {c : List (List Int)} (hC : Cartan c) : ∀ (n : Nat) (v : List Int) (f g : Nat), PlayL c n v → n ≤ 30 → n ≤ f → n ≤ g → nf c f v = nf c g v
  | n, v, f, g, P, hn, hf, hg => by
    by_cases h : fd v < v.length
    · have hlt := fd_lt h
      obtain ⟨m, rfl, P2⟩ := P.down hC hn (i := fd v) (by rw [← P.1]; exact h) hlt
      obtain ⟨f, rfl⟩ : ∃ f', f = f' + 1 := ⟨f - 1, by omega⟩
      obtain ⟨g, rfl⟩ : ∃ g', g = g' + 1 := ⟨g - 1, by omega⟩
      rw [nf, nf, if_pos h, if_pos h, nf_more hC m _ f g P2 (by omega) (by omega) (by omega)]
    · rw [nf_stop (fd_end h), nf_stop (fd_end h)]

theorem nf_len {c : List (List Int)} (hC : Cartan c) : ∀ (n : Nat) (v : List Int) (f : Nat), PlayL c n v → n ≤ 30 → n ≤ f → (nf c f v).length = n
  | n, v, f, P, hn, hf => by
    by_cases h : fd v < v.length
    · have hlt := fd_lt h
      obtain ⟨m, rfl, P2⟩ := P.down hC hn (i := fd v) (by rw [← P.1]; exact h) hlt
      obtain ⟨f, rfl⟩ : ∃ f', f = f' + 1 := ⟨f - 1, by omega⟩
      rw [nf, if_pos h, List.length_cons, nf_len hC m _ f P2 (by omega) (by omega)]
    · rw [nf_stop (fd_end h)]
      have := (P.2.stop fun i hi => fd_end h i (by rw [P.1]; exact hi)).1
      simp [this]

theorem nf_letters {c : List (List Int)} (hC : Cartan c) : ∀ (n : Nat) (v : List Int) (f : Nat), PlayL c n v → n ≤ 30 → n ≤ f → lettersOk c (nf c f v) = true
  | n, v, f, P, hn, hf => by
    by_cases h : fd v < v.length
    · have hlt := fd_lt h
      have hc : fd v < c.length := by rw [← P.1]; exact h
      obtain ⟨m, rfl, P2⟩ := P.down hC hn (i := fd v) hc hlt
      obtain ⟨f, rfl⟩ : ∃ f', f = f' + 1 := ⟨f - 1, by omega⟩
      rw [nf, if_pos h]
      have ih := nf_letters hC m _ f P2 (by omega) (by omega)
      have hp : isPoint c (fd v) = true := by simp [isPoint, inRange]; omega
      simp only [lettersOk, List.all_cons, Bool.and_eq_true] at ih ⊢
      exact ⟨hp, ih⟩
    · rw [nf_stop (fd_end h)]
      rfl

theorem nf_image {c : List (List Int)} (hC : Cartan c) : ∀ (n : Nat) (v : List Int) (f : Nat), PlayL c n v → n ≤ 30 → n ≤ f → imageOf c (nf c f v) = v
  | n, v, f, P, hn, hf => by
    by_cases h : fd v < v.length
    · have hlt := fd_lt h
      have hc : fd v < c.length := by rw [← P.1]; exact h
      obtain ⟨m, rfl, P2⟩ := P.down hC hn (i := fd v) hc hlt
      obtain ⟨f, rfl⟩ : ∃ f', f = f' + 1 := ⟨f - 1, by omega⟩
      have ih := nf_image hC m _ f P2 (by omega) (by omega)
      have e : imageOf c ((fd v : Int) :: nf c f (reflW c (fd v) v)) = reflW c (fd v) (imageOf c (nf c f (reflW c (fd v) v))) := by simp [imageOf, actW]
      rw [nf, if_pos h, e, ih]
      exact reflW_twice hC P hn hc P2 (by omega)
    · rw [nf_stop (fd_end h)]
      have h1 := (P.2.stop fun i hi => fd_end h i (by rw [P.1]; exact hi)).2
      apply posOf_inj (by rw [imageOf_length, P.1])
      funext k
      by_cases hk : k < c.length
      · rw [h1 k hk]
        simp [posOf, imageOf, actW, List.getD, hk]
      · have hv : v.length ≤ k := by rw [P.1]; omega
        have hk' : c.length ≤ k := by omega
        simp [posOf, imageOf, actW, List.getD, hv, hk']

end Go.Proofs.Ytkkniibnlniflaa.Hx
