/-
  The matrix turned over: the same words are reduced, so a root and its coroot have one sign; a root above zero that is not simple goes down at some letter. Plain theory.
  The roots up to a height: whatever way leads to a root above zero, a way that only goes up leads to it too. Plain theory on lists.
-/
import Derived.Test.YtnooeaemjnmkdaaZ22
namespace Go.Proofs.Ytnooeaemjnmkdaa.Hx
open Go.RowKit

def transp (c : List (List Int)) : List (List Int) := (List.range c.length).map fun i => (List.range c.length).map fun j => ent c j i

theorem transp_length (c : List (List Int)) : (transp c).length = c.length := by simp [transp]
theorem transp_row (c : List (List Int)) {i : Nat} (hi : i < c.length) : (transp c).getD i [] = (List.range c.length).map fun j => ent c j i := by
  simp [transp, List.getD, hi]

theorem ent_row {c : List (List Int)} (hC : Cartan c) {k i : Nat} (h : c.length ≤ i) : ent c k i = 0 := by
  by_cases hk : k < c.length
  · have := hC.row k hk
    show (c.getD k []).getD i 0 = 0
    generalize c.getD k [] = l at this
    simp [List.getD, show l.length ≤ i by omega]
  · exact ent_off (by omega)

theorem ent_transp {c : List (List Int)} (hC : Cartan c) : ent (transp c) = tr (ent c) := by
  funext i j
  show ent (transp c) i j = ent c j i
  by_cases hi : i < c.length
  · by_cases hj : j < c.length
    · unfold ent
      rw [transp_row c hi]
      simp [List.getD, hj, ent]
    · rw [ent_off (c := c) (by omega)]
      unfold ent
      rw [transp_row c hi]
      simp [List.getD, hj]
  · rw [ent_off (by rw [transp_length]; omega), ent_row hC (by omega)]

theorem transp_cartan {c : List (List Int)} (hC : Cartan c) : Cartan (transp c) := by
  refine ⟨by rw [transp_length]; exact hC.pos, by rw [transp_length]; exact hC.le, fun i hi => ?_, fun i hi j hj => ?_⟩
  · rw [transp_length] at hi ⊢
    rw [transp_row c hi]
    simp
  · rw [transp_length] at hi hj
    have h1 := hC.ok j hj i hi
    have h2 := hC.ok i hi j hj
    unfold cartBad at h1 h2 ⊢
    rw [ent_transp hC]
    show ((decide (i = j) && !(ent c j i == 2)) || (!decide (i = j) && (decide (ent c j i < -3) || decide (ent c j i > 0) || !((ent c j i == 0) == (ent c i j == 0))))) = false
    by_cases e : i = j
    · subst e
      exact h1
    · have e' : ¬ j = i := fun h => e h.symm
      simpa [e, e'] using h1

theorem transp_transp {c : List (List Int)} (hC : Cartan c) : transp (transp c) = c := by
  apply List.ext_getElem?
  intro i
  by_cases hi : i < c.length
  · have h1 : (transp (transp c))[i]? = some ((transp (transp c)).getD i []) := by
      simp [List.getD, transp_length, hi]
    have h2 : c[i]? = some (c.getD i []) := by simp [List.getD, hi]
    rw [h1, h2, transp_row _ (by rw [transp_length]; exact hi), transp_length, ent_transp hC]
    refine congrArg some ?_
    apply List.ext_getElem?
    intro j
    have hr := hC.row i hi
    by_cases hj : j < c.length
    · simp only [List.getElem?_map, List.getElem?_range hj, Option.map_some]
      show some (ent c i j) = _
      unfold ent
      simp [List.getD, show j < (c[i]?.getD []).length from hr.symm ▸ hj]
    · rw [List.getElem?_eq_none (by simp; omega), List.getElem?_eq_none (by omega)]
  · rw [List.getElem?_eq_none (by rw [transp_length, transp_length]; omega), List.getElem?_eq_none (by omega)]

theorem point_transp (c : List (List Int)) (i : Int) : isPoint (transp c) i = isPoint c i := by
  unfold isPoint
  rw [transp_length]
theorem letters_transp (c : List (List Int)) (w : List Int) : lettersOk (transp c) w = lettersOk c w := by
  unfold lettersOk
  exact congrArg (fun f => w.all f) (funext (point_transp c))

theorem bond_transp {c : List (List Int)} (hC : Cartan c) (i j : Int) : bond (transp c) i j = bond c i j := by
  unfold bond
  rw [(isCartan_iff _).2 hC, (isCartan_iff _).2 (transp_cartan hC), point_transp, point_transp, ent_transp hC]
  show (if (true && isPoint c i && isPoint c j) = true then (if i = j then (1 : Int) else bondN (w64 (ent c j.toNat i.toNat * ent c i.toNat j.toNat))) else -1) = _
  rw [Int.mul_comm]

theorem Br.transp {c : List (List Int)} (hC : Cartan c) {a b : List Int} (h : Br (transp c) a b) : Br c a b := by
  cases h with
  | mk p i j m q hb h2 => exact .mk p i j m q (by rw [← bond_transp hC]; exact hb) h2
theorem Conn.transp {c : List (List Int)} (hC : Cartan c) {a b : List Int} (h : Conn (transp c) a b) : Conn c a b := by
  induction h with
  | refl => exact .refl _
  | tail _ s ih => exact ih.tail (s.transp hC)
theorem Conn.transp' {c : List (List Int)} (hC : Cartan c) {a b : List Int} (h : Conn c a b) : Conn (Hx.transp c) a b := by
  have h' : Conn (Hx.transp (Hx.transp c)) a b := by rw [transp_transp hC]; exact h
  exact h'.transp (transp_cartan hC)

theorem play_up {c : List (List Int)} (hC : Cartan c) {n : Nat} {w : List Int} (P : PlayL c n (imageOf c w)) (hn : n ≤ 30) {i : Int} (hi : isPoint c i = true) (h : 0 < (imageOf c w).getD i.toNat 0) : PlayL c (n + 1) (imageOf c (i :: w)) := by
  have p1 := point_of hi
  rw [imageW_cons]
  refine ⟨by rw [reflW_length]; exact P.1, ?_⟩
  rw [pos_refl hC P hn (by omega)]
  exact P.2.up (matOk hC) (by omega) h

/-- A reduced word at whose front a letter takes off has a reduced word that begins with it. -/
theorem front {c : List (List Int)} (hC : Cartan c) {n : Nat} {w : List Int} (P : PlayL c n (imageOf c w)) (hn : n ≤ 29) (hl : w.length = n) (hw : lettersOk c w = true) {i : Int} (hi : isPoint c i = true) (h : (imageOf c w).getD i.toNat 0 < 0) :
    ∃ m t, n = m + 1 ∧ t.length = m ∧ lettersOk c t = true ∧ PlayL c m (imageOf c t) ∧ Conn c w (i :: t) := by
  have p1 := point_of hi
  obtain ⟨m, rfl, Q⟩ := P.down hC (by omega) (i := i.toNat) (by omega) h
  have Rz : Red c m (reflW c i.toNat (imageOf c w)) (nf c 30 (reflW c i.toNat (imageOf c w))) := ⟨nf_len hC m _ 30 Q (by omega) (by omega), nf_letters hC m _ 30 Q (by omega) (by omega), nf_image hC m _ 30 Q (by omega) (by omega)⟩
  have Ri := Red.cons hC P (by omega) hi h Rz
  refine ⟨m, _, rfl, Rz.1, Rz.2.1, ?_, conn_all hC (m + 1) _ P hn w _ ⟨hl, hw, rfl⟩ Ri⟩
  rw [Rz.2.2]
  exact Q

/-- A word that is reduced is reduced for the matrix turned over. -/
theorem red_same {c : List (List Int)} (hC : Cartan c) : ∀ (w : List Int), lettersOk c w = true → w.length ≤ 29 → PlayL c w.length (imageOf c w) → PlayL (transp c) w.length (imageOf (transp c) w)
  | [], _, _, _ => PlayL.ones (transp c)
  | i :: u, hw, hl, P => by
    obtain ⟨hi, hu⟩ := letters_cons.1 hw
    have p1 := point_of hi
    simp only [List.length_cons] at hl P ⊢
    obtain ⟨_, g2, g3, g4⟩ := Red.tail hC P (by omega) (w := u) (i := i) ⟨by simp, hw, rfl⟩
    have e := g4.2.2
    rw [← e] at g3
    have IH := red_same hC u hu (by omega) g3
    have hi' : isPoint (transp c) i = true := by rw [point_transp]; exact hi
    have hne := IH.ne (transp_cartan hC) (i := i.toNat) (by rw [transp_length]; omega)
    by_cases h : 0 < (imageOf (transp c) u).getD i.toNat 0
    · exact play_up (transp_cartan hC) IH (by omega) hi' h
    · exfalso
      obtain ⟨m, t, e1, e2, e3, _, e5⟩ := front (transp_cartan hC) IH (by omega) rfl (by rw [letters_transp]; exact hu) hi' (by omega)
      have L : Lin c (i :: u) t := ((e5.transp hC).lin.cons i).trans (twice hC hi t)
      have et : lettersOk c t = true := by rw [← letters_transp]; exact e3
      have him := lin_image hC L hw et (by simp; omega) (by omega)
      obtain ⟨n, hn, Q⟩ := play_image hC et (by omega)
      rw [him] at P
      have := play_unique hC P Q (by omega) (by omega)
      omega

/-- Each word has a word that is reduced for both matrices and does the same for both. -/
theorem red_both {c : List (List Int)} (hC : Cartan c) : ∀ (w : List Int), lettersOk c w = true → w.length ≤ 28 →
    ∃ r, r.length ≤ w.length ∧ lettersOk c r = true ∧ PlayL c r.length (imageOf c r) ∧ Lin c r w ∧ Lin (transp c) r w
  | [], _, _ => ⟨[], Nat.le_refl _, rfl, PlayL.ones c, Lin.refl _ _, Lin.refl _ _⟩
  | i :: u, hw, hl => by
    obtain ⟨hi, hu⟩ := letters_cons.1 hw
    have p1 := point_of hi
    simp only [List.length_cons] at hl ⊢
    obtain ⟨r, r1, r2, r3, r4, r5⟩ := red_both hC u hu (by omega)
    have hi' : isPoint (transp c) i = true := by rw [point_transp]; exact hi
    have hne := r3.ne hC (i := i.toNat) (by omega)
    by_cases h : 0 < (imageOf c r).getD i.toNat 0
    · exact ⟨i :: r, by simp; omega, letters_cons.2 ⟨hi, r2⟩, by simpa using play_up hC r3 (by omega) hi h, r4.cons i, r5.cons i⟩
    · obtain ⟨m, t, e1, e2, e3, e4, e5⟩ := front hC r3 (by omega) rfl r2 hi (by omega)
      refine ⟨t, by omega, e3, by rw [e2]; exact e4, ?_, ?_⟩
      · exact ((r4.symm.cons i).trans ((e5.lin.cons i).trans (twice hC hi t))).symm
      · exact ((r5.symm.cons i).trans (((e5.transp' hC).lin.cons i).trans (twice (transp_cartan hC) hi' t))).symm

theorem sign_half {c : List (List Int)} (hC : Cartan c) {w : List Int} (hw : lettersOk c w = true) (hl : w.length ≤ 28) {i : Int} (hi : isPoint c i = true) (h : 0 < (imageOf c w).getD i.toNat 0) : 0 < (imageOf (transp c) w).getD i.toNat 0 := by
  have p1 := point_of hi
  have hC' := transp_cartan hC
  obtain ⟨r, r1, r2, r3, r4, r5⟩ := red_both hC w hw hl
  have hi' : isPoint (transp c) i = true := by rw [point_transp]; exact hi
  have r2' : lettersOk (transp c) r = true := by rw [letters_transp]; exact r2
  rw [← lin_image hC r4 r2 hw (by omega) (by omega)] at h
  rw [← lin_image hC' r5 r2' (by rw [letters_transp]; exact hw) (by omega) (by omega)]
  have q1 := red_same hC r r2 (by omega) r3
  have q2 := red_same hC (i :: r) (letters_cons.2 ⟨hi, r2⟩) (by simp; omega) (by simpa using play_up hC r3 (by omega) hi h)
  have hne := q1.ne hC' (i := i.toNat) (by rw [transp_length]; omega)
  by_cases k : 0 < (imageOf (transp c) r).getD i.toNat 0
  · exact k
  · exfalso
    obtain ⟨m, e1, Q⟩ := q1.down hC' (by omega) (i := i.toNat) (by rw [transp_length]; omega) (by omega)
    rw [List.length_cons, imageW_cons] at q2
    have := play_unique hC' q2 Q (by omega) (by omega)
    omega

theorem sign_both {c : List (List Int)} (hC : Cartan c) {w : List Int} (hw : lettersOk c w = true) (hl : w.length ≤ 28) {i : Int} (hi : isPoint c i = true) : 0 < (imageOf c w).getD i.toNat 0 ↔ 0 < (imageOf (transp c) w).getD i.toNat 0 := by
  refine ⟨sign_half hC hw hl hi, fun h => ?_⟩
  have := sign_half (transp_cartan hC) (w := w) (by rw [letters_transp]; exact hw) hl (i := i) (by rw [point_transp]; exact hi) h
  rw [transp_transp hC] at this
  exact this

/-- The root of a word and a letter, its coroot. -/
def rootP (c : List (List Int)) (w : List Int) (i : Nat) : Pos := actP c.length (ent c) w (unitP i)

theorem ones_at {N : Nat} (r : Pos) : dotP N (fun _ => 1) r = dotP N (posOf (List.replicate N 1)) r :=
  dotP_congr N fun k hk => ⟨by simp [posOf, List.getD, hk], rfl⟩

/-- A root's height is a number of an image of rho. -/
theorem height_image {c : List (List Int)} (hC : Cartan c) {w : List Int} (hw : lettersOk c w = true) (hl : w.length ≤ 31) {i : Nat} (hi : i < c.length) :
    dotP c.length (fun _ => 1) (rootP c w i) = (imageOf (transp c) w.reverse).getD i 0 := by
  unfold rootP
  rw [ones_at, root_dot hw hi, ← ent_transp hC]
  have := image_pos (transp_cartan hC) (w := w.reverse) (by rw [letters_transp]; exact letters_rev hw) (by simpa using hl)
  rw [transp_length] at this
  rw [← this]
  rfl

theorem rootP_sign {c : List (List Int)} (hC : Cartan c) {w : List Int} (hw : lettersOk c w = true) {i : Nat} (hi : i < c.length) : PosR c.length (rootP c w i) ∨ (∀ k, k < c.length → rootP c w i k ≤ 0) := root_sign hC hw hi

theorem rootP_pos {c : List (List Int)} (hC : Cartan c) {w : List Int} (hw : lettersOk c w = true) (hl : w.length ≤ 31) {i : Nat} (hi : i < c.length) : PosR c.length (rootP c w i) ↔ 0 < (imageOf (transp c) w.reverse).getD i 0 := by
  rw [← height_image hC hw hl hi]
  exact (root_height hC hw hi).2

/-- A root above zero has its coroot above zero. -/
theorem coroot_pos {c : List (List Int)} (hC : Cartan c) {w : List Int} (hw : lettersOk c w = true) (hl : w.length ≤ 28) {i : Nat} (hi : i < c.length) : PosR c.length (rootP c w i) ↔ PosR c.length (rootP (transp c) w i) := by
  have h2 := rootP_pos (transp_cartan hC) (w := w) (by rw [letters_transp]; exact hw) (by omega) (i := i) (by rw [transp_length]; exact hi)
  rw [transp_transp hC, transp_length] at h2
  rw [rootP_pos hC hw (by omega) hi, h2]
  exact (sign_both hC (w := w.reverse) (letters_rev hw) (by simpa using hl) (i := (i : Int)) (by simp [isPoint, inRange]; omega)).symm

/-- The pairing of a coroot's numbers with a root's. -/
def pairP (N : Nat) (c : Nat → Nat → Int) (n r : Pos) : Int := dotP N n (fun j => dotP N (c j) r)

theorem pair_mr {N : Nat} {c : Nat → Nat → Int} (M : MatOk N c) {i : Nat} (hi : i < N) (n r : Pos) : pairP N c (mr N (tr c) i n) (mr N c i r) = pairP N c n r := by
  have e1 : ∀ j, dotP N (c j) (mr N c i r) = dotP N (c j) r - dotP N (c i) r * tr c i j := fun j => by
    unfold mr
    rw [dotP_subr, dotP_unit, if_pos hi]
    rfl
  unfold pairP
  rw [show (fun j => dotP N (c j) (mr N c i r)) = fun j => dotP N (c j) r - dotP N (c i) r * tr c i j from funext e1]
  have e2 : ∀ f : Pos, dotP N (mr N (tr c) i n) f = dotP N n f - dotP N (tr c i) n * f i := fun f => by
    unfold mr
    rw [dotP_sub, dotP_comm (unitP i) f, dotP_unit, if_pos hi]
  rw [e2, dotP_subr, dotP_comm (tr c i) n]
  have d : tr c i i = 2 := M.diag i hi
  rw [d]
  grind

theorem pair_word {c : List (List Int)} (hC : Cartan c) : ∀ (w : List Int), lettersOk c w = true → ∀ (n r : Pos), pairP c.length (ent c) (actP c.length (tr (ent c)) w n) (actP c.length (ent c) w r) = pairP c.length (ent c) n r
  | [], _, _, _ => rfl
  | i :: w, h, n, r => by
    obtain ⟨h1, h2⟩ := letters_cons.1 h
    have p1 := point_of h1
    simp only [actP]
    rw [pair_mr (matOk hC) (by omega), pair_word hC w h2]

theorem pair_root {c : List (List Int)} (hC : Cartan c) {w : List Int} (hw : lettersOk c w = true) {i : Nat} (hi : i < c.length) : pairP c.length (ent c) (rootP (transp c) w i) (rootP c w i) = 2 := by
  unfold rootP
  rw [transp_length, ent_transp hC, pair_word hC w hw]
  unfold pairP
  rw [dotP_comm, dotP_unit, if_pos hi, dotP_unit, if_pos hi]
  exact (matOk hC).diag i hi

theorem dotP_some {f g : Pos} : ∀ (N : Nat), PosR N f → 0 < dotP N f g → ∃ j, j < N ∧ 0 < g j
  | 0, _, h => absurd h (by simp [dotP])
  | n + 1, hf, h => by
    simp only [dotP] at h
    by_cases h1 : 0 < dotP n f g
    · obtain ⟨j, hj, e⟩ := dotP_some n (fun k hk => hf k (by omega)) h1
      exact ⟨j, by omega, e⟩
    · refine ⟨n, by omega, ?_⟩
      have h2 := hf n (by omega)
      by_cases h3 : 0 < g n
      · exact h3
      · exfalso
        have : f n * g n ≤ 0 := Int.mul_nonpos_of_nonneg_of_nonpos h2 (by omega)
        omega

/-- A root above zero goes down at some letter. -/
theorem root_down {c : List (List Int)} (hC : Cartan c) {w : List Int} (hw : lettersOk c w = true) (hl : w.length ≤ 28) {i : Nat} (hi : i < c.length) (h : PosR c.length (rootP c w i)) : ∃ j, j < c.length ∧ 0 < dotP c.length (ent c j) (rootP c w i) := by
  refine dotP_some c.length (f := rootP (transp c) w i) ((coroot_pos hC hw hl hi).1 h) ?_
  have := pair_root hC hw hi
  unfold pairP at this
  omega

theorem mr_mul (N : Nat) (c : Nat → Nat → Int) (i : Nat) (a : Int) (r : Pos) : mr N c i (fun k => a * r k) = fun k => a * mr N c i r k := by
  have e : ∀ (f : Pos) (N : Nat), dotP N f (fun k => a * r k) = a * dotP N f r := by
    intro f N
    induction N with
    | zero => simp [dotP]
    | succ n ih => simp only [dotP, ih]; grind
  funext k
  simp only [mr, e]
  grind

theorem actP_mul (N : Nat) (c : Nat → Nat → Int) (a : Int) : ∀ (w : List Int) (r : Pos), actP N c w (fun k => a * r k) = fun k => a * actP N c w r k
  | [], _ => rfl
  | i :: w, r => by simp only [actP, actP_mul N c a w r, mr_mul]

theorem mr_mr {N : Nat} {c : Nat → Nat → Int} (M : MatOk N c) {i : Nat} (hi : i < N) (r : Pos) : mr N c i (mr N c i r) = r := by
  funext k
  have e : dotP N (c i) (mr N c i r) = - dotP N (c i) r := by
    unfold mr
    rw [dotP_subr, dotP_unit, if_pos hi, M.diag i hi]
    omega
  show mr N c i r k - dotP N (c i) (mr N c i r) * unitP i k = r k
  rw [e]
  unfold mr
  grind

theorem actP_rev {c : List (List Int)} (hC : Cartan c) : ∀ (w : List Int), lettersOk c w = true → ∀ r, actP c.length (ent c) w.reverse (actP c.length (ent c) w r) = r
  | [], _, _ => rfl
  | i :: w, h, r => by
    obtain ⟨h1, h2⟩ := letters_cons.1 h
    have p1 := point_of h1
    rw [List.reverse_cons, actP_app]
    simp only [actP]
    rw [mr_mr (matOk hC) (by omega), actP_rev hC w h2]

theorem mr_off {N : Nat} (c : Nat → Nat → Int) {i k : Nat} (hi : i < N) (hk : N ≤ k) (r : Pos) : mr N c i r k = r k := by
  simp [mr, unitP, show k ≠ i by omega]
theorem rootP_off {c : List (List Int)} : ∀ (w : List Int), lettersOk c w = true → ∀ {i k : Nat}, i < c.length → c.length ≤ k → rootP c w i k = 0
  | [], _, i, k, hi, hk => by simp [rootP, actP, unitP, show k ≠ i by omega]
  | j :: w, h, i, k, hi, hk => by
    obtain ⟨h1, h2⟩ := letters_cons.1 h
    have p1 := point_of h1
    show mr c.length (ent c) j.toNat (rootP c w i) k = 0
    rw [mr_off _ (by omega) hk]
    exact rootP_off w h2 hi hk

/-- A root with numbers at one letter alone, above zero, is simple. -/
theorem root_one {c : List (List Int)} (hC : Cartan c) {w : List Int} (hw : lettersOk c w = true) {i : Nat} (hi : i < c.length) {j : Nat} (h : PosR c.length (rootP c w i)) (hz : ∀ k, k < c.length → k ≠ j → rootP c w i k = 0) : rootP c w i = unitP j := by
  have e : rootP c w i = fun k => rootP c w i j * unitP j k := by
    funext k
    by_cases hk : k = j
    · subst hk; simp [unitP]
    · by_cases hl : k < c.length
      · simp [hz k hl hk, unitP, hk]
      · simp [rootP_off w hw hi (Nat.le_of_not_lt hl), unitP, hk]
  have hb : actP c.length (ent c) w.reverse (rootP c w i) = unitP i := actP_rev hC w hw _
  rw [e, actP_mul] at hb
  have h1 := congrFun hb i
  simp only [unitP, if_true] at h1
  have hj : j < c.length := by
    refine Nat.lt_of_not_le fun hle => ?_
    rw [rootP_off w hw hi hle] at h1
    simp at h1
  have h0 := h j hj
  have hone : rootP c w i j = 1 := by
    have hd : rootP c w i j ∣ 1 := ⟨_, h1.symm⟩
    exact Int.eq_one_of_dvd_one h0 hd
  rw [e, hone]
  simp

/-- Going down at a letter keeps a root above zero, unless it is simple. -/
theorem root_step {c : List (List Int)} (hC : Cartan c) {w : List Int} (hw : lettersOk c w = true) {i : Nat} (hi : i < c.length) {j : Nat} (hj : j < c.length) (h : PosR c.length (rootP c w i)) (hne : rootP c w i ≠ unitP j) : PosR c.length (rootP c ((j : Int) :: w) i) := by
  have hw' : lettersOk c ((j : Int) :: w) = true := letters_cons.2 ⟨by simp [isPoint, inRange]; omega, hw⟩
  rcases rootP_sign hC hw' hi with k | k
  · exact k
  · exfalso
    refine hne (root_one hC hw hi h fun t ht htj => ?_)
    have h1 := k t ht
    have h2 := h t ht
    have e : rootP c ((j : Int) :: w) i t = rootP c w i t := by
      show mr c.length (ent c) (j : Int).toNat (rootP c w i) t = rootP c w i t
      simp [mr, unitP, htj]
    omega

end Go.Proofs.Ytnooeaemjnmkdaa.Hx

namespace Go.Proofs.Ytnooeaemjnmkdaa.Hx
open Go.RowKit

def Tame (n : Int) (r : List Int) : Prop := ∀ k, - n ≤ r.getD k 0 ∧ r.getD k 0 ≤ n

theorem dotP_bound {f g : Pos} {a b : Int} : ∀ (N : Nat), (∀ k, k < N → - a ≤ f k * g k ∧ f k * g k ≤ a) → b = N * a → - b ≤ dotP N f g ∧ dotP N f g ≤ b := by
  intro N
  induction N generalizing b with
  | zero => intro _ hb; simp at hb; subst hb; simp [dotP]
  | succ n ih =>
    intro h hb
    have h1 := ih (b := n * a) (fun k hk => h k (by omega)) rfl
    have h2 := h n (by omega)
    have e : b = n * a + a := by rw [hb]; push_cast; rw [Int.add_mul, Int.one_mul]
    simp only [dotP]
    omega

theorem mul_tame {x y : Int} (hx : -3 ≤ x ∧ x ≤ 2) (hy : -1000 ≤ y ∧ y ≤ 1000) : -3000 ≤ x * y ∧ x * y ≤ 3000 := by
  have f : x = -3 ∨ x = -2 ∨ x = -1 ∨ x = 0 ∨ x = 1 ∨ x = 2 := by omega
  rcases f with f | f | f | f | f | f <;> rw [f] <;> omega

theorem ent_tame {c : List (List Int)} (hC : Cartan c) (i k : Nat) : -3 ≤ ent c i k ∧ ent c i k ≤ 2 := by
  by_cases hi : i < c.length
  · by_cases hk : k < c.length
    · by_cases e : i = k
      · subst e
        have := (matOk hC).diag i hi
        omega
      · have := (matOk hC).off i k hi hk e
        omega
    · rw [ent_row hC (by omega)]
      omega
  · rw [ent_off (by omega)]
    omega

theorem dotTo_tame {c : List (List Int)} (hC : Cartan c) (i : Nat) {r : List Int} (h : Tame 1000 r) : ∀ k, k ≤ 4 → dotTo (c.getD i []) r k = dotP k (ent c i) (posOf r)
  | 0, _ => rfl
  | k + 1, hk => by
    have ih := dotTo_tame hC i h k (by omega)
    have b := dotP_bound (f := ent c i) (g := posOf r) (a := 3000) k (fun t _ => mul_tame (ent_tame hC i t) (h t)) rfl
    have m := mul_tame (ent_tame hC i k) (h k)
    rw [dotTo_succ, ih]
    have hk4 : (k : Int) * 3000 ≤ 12000 := by omega
    show w64 (dotP k (ent c i) (posOf r) + w64 (ent c i k * r.getD k 0)) = dotP k (ent c i) (posOf r) + ent c i k * r.getD k 0
    rw [w64_in (e := ent c i k * r.getD k 0) (by omega) (by omega), w64_in (by omega) (by omega)]

theorem mirror_pos {c : List (List Int)} (hC : Cartan c) {i : Nat} (hi : i < c.length) {r : List Int} (hl : r.length = c.length) (h : Tame 1000 r) : posOf (mirror c i r) = mr c.length (ent c) i (posOf r) := by
  have h4 := hC.le
  funext k
  have b := dotP_bound (f := ent c i) (g := posOf r) (a := 3000) c.length (fun t _ => mul_tame (ent_tame hC i t) (h t)) rfl
  have hb : (c.length : Int) * 3000 ≤ 12000 := by omega
  have hi2 := h i
  unfold mirror
  rw [hl, dotTo_tame hC i h _ h4]
  show (r.set i (w64 (r.getD i 0 - dotP c.length (ent c i) (posOf r)))).getD k 0 = posOf r k - dotP c.length (ent c i) (posOf r) * unitP i k
  rw [w64_in (by omega) (by omega)]
  by_cases e : k = i
  · subst e
    have : k < r.length := by omega
    simp [List.getD, this, unitP, posOf]
  · simp [List.getD, List.getElem?_set_ne (fun x => e x.symm), unitP, e, posOf]

theorem height_take {r : List Int} (h : Tame 1000 r) : ∀ k, k ≤ r.length → k ≤ 4 → heightOf (r.take k) = dotP k (fun _ => 1) (posOf r)
  | 0, _, _ => by simp [heightOf, dotP]
  | k + 1, hk, h4 => by
    have ih := height_take h k (by omega) (by omega)
    have b := dotP_bound (f := fun _ => 1) (g := posOf r) (a := 1000) k (fun t _ => by rw [Int.one_mul]; exact h t) rfl
    have hk4 : (k : Int) * 1000 ≤ 4000 := by omega
    have m := h k
    rw [heightOf_snoc r k (by omega), ih]
    show w64 (dotP k (fun _ => 1) (posOf r) + r.getD k 0) = dotP k (fun _ => 1) (posOf r) + 1 * r.getD k 0
    rw [w64_in (by omega) (by omega), Int.one_mul]

theorem height_pos {r : List Int} (h : Tame 1000 r) (h4 : r.length ≤ 4) : heightOf r = dotP r.length (fun _ => 1) (posOf r) := by
  have := height_take h r.length (Nat.le_refl _) h4
  rwa [List.take_length] at this

theorem rootSign_one {r : List Int} : rootSign r = 1 ↔ (∀ k, 0 ≤ r.getD k 0) ∧ ∃ k, 0 < r.getD k 0 := by
  have hu : anyUp r = true ↔ ∃ k, 0 < r.getD k 0 := by
    unfold anyUp
    rw [List.any_eq_true]
    constructor
    · rintro ⟨x, hx, h⟩
      obtain ⟨k, hk, rfl⟩ := List.getElem_of_mem hx
      exact ⟨k, by simpa [List.getD, hk] using h⟩
    · rintro ⟨k, h⟩
      by_cases hk : k < r.length
      · exact ⟨r[k], List.getElem_mem hk, by simpa [List.getD, hk] using h⟩
      · simp [List.getD, Nat.le_of_not_lt hk] at h
  have hd : anyDown r = true ↔ ∃ k, r.getD k 0 < 0 := by
    unfold anyDown
    rw [List.any_eq_true]
    constructor
    · rintro ⟨x, hx, h⟩
      obtain ⟨k, hk, rfl⟩ := List.getElem_of_mem hx
      exact ⟨k, by simpa [List.getD, hk] using h⟩
    · rintro ⟨k, h⟩
      by_cases hk : k < r.length
      · exact ⟨r[k], List.getElem_mem hk, by simpa [List.getD, hk] using h⟩
      · simp [List.getD, Nat.le_of_not_lt hk] at h
  have hn : (∀ k, 0 ≤ r.getD k 0) ↔ anyDown r = false := by
    rw [← Bool.not_eq_true, hd]
    constructor
    · rintro h ⟨k, hk⟩
      have := h k
      omega
    · intro h k
      by_cases hk : r.getD k 0 < 0
      · exact absurd ⟨k, hk⟩ h
      · omega
  rw [hn, ← hu]
  unfold rootSign
  cases anyUp r <;> cases anyDown r <;> simp

/-- The roots to which ways that only go up lead. -/
inductive RootUp (c : List (List Int)) (H : Int) : List Int → Prop where
  | simple (i : Nat) (hi : i < c.length) : RootUp c H (simpleRoot c (i : Nat))
  | step {r : List Int} (i : Nat) (hi : i < c.length) (h : RootUp c H r) (hs : rootSign (mirror c i r) = 1) (hh : heightOf (mirror c i r) ≤ H) (hl : heightOf r < heightOf (mirror c i r)) : RootUp c H (mirror c i r)

/-- What is known of such a root. -/
structure RootIs (c : List (List Int)) (r : List Int) (n : Nat) : Prop where
  len : r.length = c.length
  nonneg : ∀ k, 0 ≤ r.getD k 0
  le : ∀ k, r.getD k 0 ≤ n
  height : heightOf r = n
  word : ∃ (w : List Int) (i : Nat), lettersOk c w = true ∧ i < c.length ∧ w.length + 1 ≤ n ∧ posOf r = rootP c w i

theorem simple_pos {c : List (List Int)} (hC : Cartan c) {i : Nat} (hi : i < c.length) : simpleRoot c (i : Nat) = (List.replicate c.length (0 : Int)).set i 1 ∧ posOf (simpleRoot c (i : Nat)) = unitP i := by
  have e : simpleRoot c (i : Nat) = (List.replicate c.length (0 : Int)).set i 1 := by
    unfold simpleRoot
    rw [(isCartan_iff c).2 hC]
    have : isPoint c (i : Nat) = true := by simp [isPoint, inRange]; omega
    rw [this]
    rfl
  refine ⟨e, ?_⟩
  rw [e]
  funext k
  unfold posOf unitP
  by_cases h : k = i
  · subst h
    simp [List.getD, hi]
  · rw [if_neg h]
    simp only [List.getD, List.getElem?_set_ne (fun x => h x.symm), List.getElem?_replicate]
    split <;> rfl

theorem dot_ge {r : Pos} : ∀ (N : Nat), PosR N r → ∀ k, k < N → r k ≤ dotP N (fun _ => 1) r
  | 0, _, k, hk => by omega
  | n + 1, h, k, hk => by
    have h1 := dotP_ones_pos n (fun k hk => h k (by omega) : PosR n r)
    have h2 := h n (by omega)
    simp only [dotP, Int.one_mul]
    by_cases e : k = n
    · subst e; omega
    · have := dot_ge n (fun k hk => h k (by omega)) k (by omega)
      omega

theorem getD_off {r : List Int} {k : Nat} (h : r.length ≤ k) : r.getD k 0 = 0 := by simp [List.getD, h]

/-- A list of a root's numbers, all above zero. -/
theorem rootIs_of {c : List (List Int)} (hC : Cartan c) {r : List Int} {w : List Int} {i : Nat} (hl : r.length = c.length) (hw : lettersOk c w = true) (hi : i < c.length) (hp : posOf r = rootP c w i) (ht : Tame 1000 r) (h0 : ∀ k, 0 ≤ r.getD k 0) {n : Nat} (hn : heightOf r = n) (hwn : w.length + 1 ≤ n) : RootIs c r n := by
  have h4 := hC.le
  have hh := height_pos ht (by omega)
  rw [hl] at hh
  refine ⟨hl, h0, fun k => ?_, hn, w, i, hw, hi, hwn, hp⟩
  by_cases hk : k < c.length
  · have := dot_ge (r := posOf r) c.length (fun k _ => h0 k) k hk
    rw [← hh, hn] at this
    exact this
  · rw [getD_off (by omega)]
    omega

theorem RootIs.tame {c : List (List Int)} {r : List Int} {n : Nat} (h : RootIs c r n) (hn : n ≤ 12) : Tame 12 r := fun k => by
  have := h.nonneg k
  have := h.le k
  omega
theorem Tame.more {a b : Int} {r : List Int} (h : Tame a r) (hab : a ≤ b) : Tame b r := fun k => by
  have := h k
  omega

/-- Its mirrors are still small. -/
theorem RootIs.mirror {c : List (List Int)} (hC : Cartan c) {r : List Int} {n : Nat} (h : RootIs c r n) (hn : n ≤ 12) {i : Nat} (hi : i < c.length) : Tame 200 (mirror c i r) ∧ posOf (mirror c i r) = mr c.length (ent c) i (posOf r) := by
  have h4 := hC.le
  have ht := h.tame hn
  have e := mirror_pos hC hi h.len (ht.more (by omega))
  refine ⟨fun k => ?_, e⟩
  have b := dotP_bound (f := ent c i) (g := posOf r) (a := 36) c.length (fun t _ => by
    have g := ent_tame hC i t
    have q := ht t
    show -36 ≤ ent c i t * r.getD t 0 ∧ ent c i t * r.getD t 0 ≤ 36
    have f : ent c i t = -3 ∨ ent c i t = -2 ∨ ent c i t = -1 ∨ ent c i t = 0 ∨ ent c i t = 1 ∨ ent c i t = 2 := by omega
    rcases f with f | f | f | f | f | f <;> rw [f] <;> omega) rfl
  have hb : (c.length : Int) * 36 ≤ 144 := by omega
  have q := ht k
  have := congrFun e k
  show -200 ≤ posOf (Hx.mirror c i r) k ∧ posOf (Hx.mirror c i r) k ≤ 200
  rw [this]
  show -200 ≤ posOf r k - dotP c.length (ent c i) (posOf r) * unitP i k ∧ posOf r k - dotP c.length (ent c i) (posOf r) * unitP i k ≤ 200
  have hq : -12 ≤ posOf r k ∧ posOf r k ≤ 12 := q
  unfold unitP
  split <;> omega

theorem RootUp.facts {c : List (List Int)} (hC : Cartan c) {H : Int} (hH : H ≤ 12) (h1 : 1 ≤ H) {r : List Int} (h : RootUp c H r) : ∃ n : Nat, RootIs c r n ∧ 1 ≤ n ∧ (n : Int) ≤ H := by
  have h4 := hC.le
  induction h with
  | simple i hi =>
    obtain ⟨e1, e2⟩ := simple_pos hC hi
    have hl : (simpleRoot c (i : Nat)).length = c.length := by rw [e1]; simp
    have hg : ∀ k, (simpleRoot c (i : Nat)).getD k 0 = if k = i then 1 else 0 := fun k => congrFun e2 k
    have ht : Tame 1000 (simpleRoot c (i : Nat)) := fun k => by rw [hg]; split <;> omega
    have hh : heightOf (simpleRoot c (i : Nat)) = (1 : Nat) := by
      rw [height_pos ht (by omega), hl, e2, dotP_unit, if_pos hi]
      rfl
    exact ⟨1, rootIs_of hC hl (w := []) (i := i) rfl hi e2 ht (fun k => by rw [hg]; split <;> omega) hh (Nat.le_refl _), Nat.le_refl _, h1⟩
  | @step r i hi _ hs hh hl ih =>
    obtain ⟨n, R, g1, g2⟩ := ih
    obtain ⟨t1, t2⟩ := R.mirror hC (by omega) hi
    obtain ⟨w, j, hw, hj, hwn, hp⟩ := R.word
    have hge := (rootSign_one.1 hs).1
    rw [R.height] at hl
    obtain ⟨m, hm⟩ : ∃ m : Nat, heightOf (Hx.mirror c i r) = m := ⟨(heightOf (Hx.mirror c i r)).toNat, by omega⟩
    refine ⟨m, rootIs_of hC (by rw [mirror_length]; exact R.len) (w := (i : Int) :: w) (i := j) (letters_cons.2 ⟨by simp [isPoint, inRange]; omega, hw⟩) hj (by rw [t2, hp]; rfl) (t1.more (by omega)) hge hm (by simp; omega), by omega, by omega⟩

/-- Each root above zero of a small height is reached by going up. -/
theorem root_reached {c : List (List Int)} (hC : Cartan c) {H : Int} : ∀ (n : Nat) (r w : List Int) (i : Nat), r.length = c.length → lettersOk c w = true → i < c.length → posOf r = rootP c w i → Tame 1000 r → (∀ k, 0 ≤ r.getD k 0) → heightOf r = n → (n : Int) ≤ H → n ≤ 12 → w.length + n ≤ 28 → RootUp c H r
  | 0, r, w, i, hl, hw, hi, hp, ht, h0, hn, _, _, _ => by
    exfalso
    have h4 := hC.le
    have hh := height_pos ht (by omega)
    rw [hl, hp, hn] at hh
    exact (root_height hC hw hi).1 hh.symm
  | n + 1, r, w, i, hl, hw, hi, hp, ht, h0, hn, hH, h12, hs => by
    have h4 := hC.le
    have hP : PosR c.length (rootP c w i) := fun k _ => by rw [← hp]; exact h0 k
    by_cases hsim : ∃ j, j < c.length ∧ rootP c w i = unitP j
    · obtain ⟨j, hj, e⟩ := hsim
      obtain ⟨e1, e2⟩ := simple_pos hC hj
      have : r = simpleRoot c (j : Nat) := posOf_inj (by rw [hl, e1]; simp) (by rw [hp, e, e2])
      rw [this]
      exact .simple j hj
    · obtain ⟨j, hj, hpos⟩ := root_down hC hw (by omega) hi hP
      have hne : rootP c w i ≠ unitP j := fun e => hsim ⟨j, hj, e⟩
      have hP2 := root_step hC hw hi hj hP hne
      have hRI := rootIs_of hC hl hw hi hp ht h0 hn
      have hle : ∀ k, r.getD k 0 ≤ (n + 1 : Nat) := fun k => by
        have hh := height_pos ht (by omega)
        rw [hl] at hh
        by_cases hk : k < c.length
        · have := dot_ge (r := posOf r) c.length (fun k _ => h0 k) k hk
          rw [← hh, hn] at this
          exact this
        · rw [getD_off (by omega)]
          omega
      have e := mirror_pos hC hj hl ht
      have hw2 : lettersOk c ((j : Int) :: w) = true := letters_cons.2 ⟨by simp [isPoint, inRange]; omega, hw⟩
      have hp2 : posOf (mirror c j r) = rootP c ((j : Int) :: w) i := by rw [e, hp]; rfl
      have h02 : ∀ k, 0 ≤ (mirror c j r).getD k 0 := fun k => by
        by_cases hk : k < c.length
        · have := hP2 k hk
          rw [← hp2] at this
          exact this
        · rw [getD_off (by rw [mirror_length]; omega)]
          omega
      have hpos' : 0 < dotP c.length (ent c j) (posOf r) := by rw [hp]; exact hpos
      have hle2 : ∀ k, (mirror c j r).getD k 0 ≤ r.getD k 0 := fun k => by
        have := congrFun e k
        show posOf (mirror c j r) k ≤ posOf r k
        rw [this]
        show posOf r k - dotP c.length (ent c j) (posOf r) * unitP j k ≤ posOf r k
        unfold unitP
        split <;> omega
      have ht2 : Tame 1000 (mirror c j r) := fun k => by
        have a1 := h02 k
        have a2 := hle2 k
        have a3 := hle k
        omega
      have hl2 : (mirror c j r).length = c.length := by rw [mirror_length]; exact hl
      have hh1 := height_pos ht (by omega)
      have hh2 := height_pos ht2 (by omega)
      rw [hl] at hh1
      rw [hl2, e] at hh2
      have hdec : dotP c.length (fun _ => 1) (mr c.length (ent c) j (posOf r)) = dotP c.length (fun _ => 1) (posOf r) - dotP c.length (ent c j) (posOf r) := by
        unfold mr
        rw [dotP_subr, dotP_unit, if_pos hj, Int.mul_one]
      have h0h : 0 ≤ heightOf (mirror c j r) := by
        rw [hh2, ← e]
        exact dotP_ones_pos _ (fun k _ => h02 k)
      obtain ⟨m, hm⟩ : ∃ m : Nat, heightOf (mirror c j r) = m := ⟨(heightOf (mirror c j r)).toNat, by omega⟩
      have hmn : m ≤ n := by omega
      have IH := root_reached hC (H := H) m (mirror c j r) ((j : Int) :: w) i hl2 hw2 hi hp2 ht2 h02 hm (by omega) (by omega) (by simp; omega)
      have back : mirror c j (mirror c j r) = r := posOf_inj (by rw [mirror_length, mirror_length]) (by
        rw [mirror_pos hC hj hl2 ht2, e, mr_mr (matOk hC) hj])
      have hsg : rootSign (mirror c j (mirror c j r)) = 1 := by
        rw [back]
        refine rootSign_one.2 ⟨h0, ?_⟩
        refine Classical.byContradiction fun hn0 => ?_
        have hz : ∀ k, k < c.length → posOf r k ≤ 0 := fun k _ => by
          by_cases g : 0 < r.getD k 0
          · exact absurd ⟨k, g⟩ hn0
          · show r.getD k 0 ≤ 0
            omega
        have := dotP_ones_neg c.length hz
        omega
      have := RootUp.step (H := H) j hj IH hsg (by rw [back, hn]; omega) (by rw [back, hn, hm]; omega)
      rw [back] at this
      exact this
  termination_by n => n

/-- Whatever mirror keeps above zero and low is reached. -/
theorem RootUp.close {c : List (List Int)} (hC : Cartan c) {H : Int} (hH : H ≤ 12) (h1 : 1 ≤ H) {r : List Int} (h : RootUp c H r) {i : Nat} (hi : i < c.length) (hs : rootSign (mirror c i r) = 1) (hh : heightOf (mirror c i r) ≤ H) : RootUp c H (mirror c i r) := by
  obtain ⟨n, R, g1, g2⟩ := h.facts hC hH h1
  obtain ⟨t1, t2⟩ := R.mirror hC (by omega) hi
  obtain ⟨w, j, hw, hj, hwn, hp⟩ := R.word
  have hge := (rootSign_one.1 hs).1
  have h4 := hC.le
  have hl : (Hx.mirror c i r).length = c.length := by rw [mirror_length]; exact R.len
  have h0h : 0 ≤ heightOf (Hx.mirror c i r) := by
    rw [height_pos (t1.more (by omega)) (by omega)]
    exact dotP_ones_pos _ (fun k _ => hge k)
  obtain ⟨m, hm⟩ : ∃ m : Nat, heightOf (Hx.mirror c i r) = m := ⟨(heightOf (Hx.mirror c i r)).toNat, by omega⟩
  exact root_reached hC m _ ((i : Int) :: w) j hl (letters_cons.2 ⟨by simp [isPoint, inRange]; omega, hw⟩) hj (by rw [t2, hp]; rfl) (t1.more (by omega)) hge hm (by omega) (by omega) (by simp; omega)

/-! ### The list of them -/

def RootList (c : List (List Int)) (H : Int) (L : List (List Int)) : Prop := SortedR L ∧ L.Nodup ∧ ∀ r, r ∈ L ↔ RootUp c H r

theorem RootList.one {c : List (List Int)} {H : Int} {A B : List (List Int)} (a : RootList c H A) (b : RootList c H B) : A = B :=
  sortedR_one a.1 b.1 ((List.perm_ext_iff_of_nodup a.2.1 b.2.1).2 fun r => (a.2.2 r).trans (b.2.2 r).symm)

open Classical in
noncomputable def rootsUp (c : List (List Int)) (H : Int) : List (List Int) :=
  if isCartan c = true ∧ 1 ≤ H ∧ H ≤ 12 then (if h : ∃ L, RootList c H L then Classical.choose h else []) else []

theorem rootsUp_off {c : List (List Int)} {H : Int} (h : ¬ (isCartan c = true ∧ 1 ≤ H ∧ H ≤ 12)) : rootsUp c H = [] := by
  unfold rootsUp
  rw [if_neg h]

theorem rootsUp_on {c : List (List Int)} {H : Int} (hc : isCartan c = true ∧ 1 ≤ H ∧ H ≤ 12) {L : List (List Int)} (h : RootList c H L) : rootsUp c H = L := by
  have hx : ∃ L, RootList c H L := ⟨L, h⟩
  unfold rootsUp
  rw [if_pos hc, dif_pos hx]
  exact (Classical.choose_spec hx).one h

/-! ### There are not too many -/

def boxes : Nat → List (List Int)
  | 0 => [[]]
  | n + 1 => (List.range 13).flatMap fun (x : Nat) => (boxes n).map fun l => (x : Int) :: l

theorem boxes_length : ∀ n, (boxes n).length = 13 ^ n
  | 0 => rfl
  | n + 1 => by
    have h : ∀ m, ((List.range m).flatMap fun (x : Nat) => (boxes n).map fun l => (x : Int) :: l).length = m * 13 ^ n := by
      intro m
      induction m with
      | zero => simp
      | succ m ih => rw [List.range_succ, List.flatMap_append, List.length_append, ih]; simp [boxes_length n, Nat.add_mul]
    show ((List.range 13).flatMap fun (x : Nat) => (boxes n).map fun l => (x : Int) :: l).length = 13 ^ (n + 1)
    rw [h, Nat.pow_succ, Nat.mul_comm]

theorem mem_boxes : ∀ (r : List Int), (∀ x ∈ r, 0 ≤ x ∧ x ≤ 12) → r ∈ boxes r.length
  | [], _ => by simp [boxes]
  | x :: r, h => by
    have hx := h x (by simp)
    have := mem_boxes r (fun y hy => h y (by simp [hy]))
    simp only [List.length_cons, boxes, List.mem_flatMap, List.mem_range, List.mem_map]
    exact ⟨x.toNat, by omega, r, this, by rw [Int.toNat_of_nonneg hx.1]⟩

theorem roots_few {c : List (List Int)} (hC : Cartan c) {H : Int} (hH : H ≤ 12) (h1 : 1 ≤ H) {L : List (List Int)} (hn : L.Nodup) (hL : ∀ r ∈ L, RootUp c H r) : L.length ≤ 28561 := by
  have h4 := hC.le
  have h : L.length ≤ (boxes c.length).length := nodup_le hn fun r hr => by
    obtain ⟨n, R, g1, g2⟩ := (hL r hr).facts hC hH h1
    have := mem_boxes r (fun x hx => by
      obtain ⟨k, hk, rfl⟩ := List.getElem_of_mem hx
      have a := R.nonneg k
      have b := R.le k
      simp only [List.getD, hk, List.getElem?_eq_getElem, Option.getD_some] at a b
      omega)
    rw [R.len] at this
    exact this
  rw [boxes_length] at h
  have : 13 ^ c.length ≤ 13 ^ 4 := Nat.pow_le_pow_right (by omega) h4
  have e : 13 ^ 4 = 28561 := by decide
  omega

theorem RootList.size {c : List (List Int)} (hC : Cartan c) {H : Int} (hH : H ≤ 12) (h1 : 1 ≤ H) {L : List (List Int)} (h : RootList c H L) : L.length ≤ 28561 ∧ tot L ≤ 28561 * 4 := by
  have hl := roots_few hC hH h1 h.2.1 (fun r hr => (h.2.2 r).1 hr)
  refine ⟨hl, ?_⟩
  have h4 := hC.le
  have : tot L ≤ 4 * L.length := tot_le 4 L (fun r hr => by
    obtain ⟨n, R, _⟩ := ((h.2.2 r).1 hr).facts hC hH h1
    have := R.len
    omega)
  omega

end Go.Proofs.Ytnooeaemjnmkdaa.Hx
