/-
  The matrix turned over: the same words are reduced, so a root and its coroot have one sign; a root above zero that is not simple goes down at some letter. Plain theory.
  Contracts of small functions over one slice of ints: SignOf, HeightOf, SquareFree, RootSign, each as the program has it and as the reference has it.
  The order of roots (by height, then by the first number that differs, greater ones first), sorted lists of roots, and slices of slices that grow by rows that are there already. Plain, and over rows.
  The list of all reduced words in the order of letters, and what a search by braid moves finds. Plain theory.
-/
import Derived.Test.YtgliajcgcbnemaaGreatDoorZ13
namespace Go.Proofs.YtgliajcgcbnemaaGreatDoor.Hx
open Go.RowKit

def transp (c : List (List Int)) : List (List Int) := (List.range c.length).map fun i => (List.range c.length).map fun j => ent c j i

theorem transp_length (c : List (List Int)) : (transp c).length = c.length := by simp [transp]
theorem transp_row (c : List (List Int)) {i : Nat} (hi : i < c.length) : (transp c).getD i [] = (List.range c.length).map fun j => ent c j i := by
  simp [transp, List.getD, hi]

theorem ent_row {c : List (List Int)} (hC : Cartan c) {k i : Nat} (h : c.length ≤ i) : ent c k i = 0 := by
  by_cases hk : k < c.length
  · have := hC.row k hk
    show (c.getD k []).getD i 0 = 0
    generalize c.getD k [] = l at this
    simp [List.getD, show l.length ≤ i by omega]
  · exact ent_off (by omega)

theorem ent_transp {c : List (List Int)} (hC : Cartan c) : ent (transp c) = tr (ent c) := by
  funext i j
  show ent (transp c) i j = ent c j i
  by_cases hi : i < c.length
  · by_cases hj : j < c.length
    · unfold ent
      rw [transp_row c hi]
      simp [List.getD, hj, ent]
    · rw [ent_off (c := c) (by omega)]
      unfold ent
      rw [transp_row c hi]
      simp [List.getD, hj]
  · rw [ent_off (by rw [transp_length]; omega), ent_row hC (by omega)]

theorem transp_cartan {c : List (List Int)} (hC : Cartan c) : Cartan (transp c) := by
  refine ⟨by rw [transp_length]; exact hC.pos, by rw [transp_length]; exact hC.le, fun i hi => ?_, fun i hi j hj => ?_⟩
  · rw [transp_length] at hi ⊢
    rw [transp_row c hi]
    simp
  · rw [transp_length] at hi hj
    have h1 := hC.ok j hj i hi
    have h2 := hC.ok i hi j hj
    unfold cartBad at h1 h2 ⊢
    rw [ent_transp hC]
    show ((decide (i = j) && !(ent c j i == 2)) || (!decide (i = j) && (decide (ent c j i < -3) || decide (ent c j i > 0) || !((ent c j i == 0) == (ent c i j == 0))))) = false
    by_cases e : i = j
    · subst e
      exact h1
    · have e' : ¬ j = i := fun h => e h.symm
      simpa [e, e'] using h1

theorem transp_transp {c : List (List Int)} (hC : Cartan c) : transp (transp c) = c := by
  apply List.ext_getElem?
  intro i
  by_cases hi : i < c.length
  · have h1 : (transp (transp c))[i]? = some ((transp (transp c)).getD i []) := by
      simp [List.getD, transp_length, hi]
    have h2 : c[i]? = some (c.getD i []) := by simp [List.getD, hi]
    rw [h1, h2, transp_row _ (by rw [transp_length]; exact hi), transp_length, ent_transp hC]
    refine congrArg some ?_
    apply List.ext_getElem?
    intro j
    have hr := hC.row i hi
    by_cases hj : j < c.length
    · simp only [List.getElem?_map, List.getElem?_range hj, Option.map_some]
      show some (ent c i j) = _
      unfold ent
      simp [List.getD, show j < (c[i]?.getD []).length from hr.symm ▸ hj]
    · rw [List.getElem?_eq_none (by simp; omega), List.getElem?_eq_none (by omega)]
  · rw [List.getElem?_eq_none (by rw [transp_length, transp_length]; omega), List.getElem?_eq_none (by omega)]

theorem point_transp (c : List (List Int)) (i : Int) : isPoint (transp c) i = isPoint c i := by
  unfold isPoint
  rw [transp_length]
theorem letters_transp (c : List (List Int)) (w : List Int) : lettersOk (transp c) w = lettersOk c w := by
  unfold lettersOk
  exact congrArg (fun f => w.all f) (funext (point_transp c))

theorem bond_transp {c : List (List Int)} (hC : Cartan c) (i j : Int) : bond (transp c) i j = bond c i j := by
  unfold bond
  rw [(isCartan_iff _).2 hC, (isCartan_iff _).2 (transp_cartan hC), point_transp, point_transp, ent_transp hC]
  show (if (true && isPoint c i && isPoint c j) = true then (if i = j then (1 : Int) else bondN (w64 (ent c j.toNat i.toNat * ent c i.toNat j.toNat))) else -1) = _
  rw [Int.mul_comm]

theorem Br.transp {c : List (List Int)} (hC : Cartan c) {a b : List Int} (h : Br (transp c) a b) : Br c a b := by
  cases h with
  | mk p i j m q hb h2 => exact .mk p i j m q (by rw [← bond_transp hC]; exact hb) h2
theorem Conn.transp {c : List (List Int)} (hC : Cartan c) {a b : List Int} (h : Conn (transp c) a b) : Conn c a b := by
  induction h with
  | refl => exact .refl _
  | tail _ s ih => exact ih.tail (s.transp hC)
theorem Conn.transp' {c : List (List Int)} (hC : Cartan c) {a b : List Int} (h : Conn c a b) : Conn (Hx.transp c) a b := by
  have h' : Conn (Hx.transp (Hx.transp c)) a b := by rw [transp_transp hC]; exact h
  exact h'.transp (transp_cartan hC)

theorem play_up {c : List (List Int)} (hC : Cartan c) {n : Nat} {w : List Int} (P : PlayL c n (imageOf c w)) (hn : n ≤ 30) {i : Int} (hi : isPoint c i = true) (h : 0 < (imageOf c w).getD i.toNat 0) : PlayL c (n + 1) (imageOf c (i :: w)) := by
  have p1 := point_of hi
  rw [imageW_cons]
  refine ⟨by rw [reflW_length]; exact P.1, ?_⟩
  rw [pos_refl hC P hn (by omega)]
  exact P.2.up (matOk hC) (by omega) h

/-- A reduced word at whose front a letter takes off has a reduced word that begins with it. -/
theorem front {c : List (List Int)} (hC : Cartan c) {n : Nat} {w : List Int} (P : PlayL c n (imageOf c w)) (hn : n ≤ 29) (hl : w.length = n) (hw : lettersOk c w = true) {i : Int} (hi : isPoint c i = true) (h : (imageOf c w).getD i.toNat 0 < 0) :
    ∃ m t, n = m + 1 ∧ t.length = m ∧ lettersOk c t = true ∧ PlayL c m (imageOf c t) ∧ Conn c w (i :: t) := by
  have p1 := point_of hi
  obtain ⟨m, rfl, Q⟩ := P.down hC (by omega) (i := i.toNat) (by omega) h
  have Rz : Red c m (reflW c i.toNat (imageOf c w)) (nf c 30 (reflW c i.toNat (imageOf c w))) := ⟨nf_len hC m _ 30 Q (by omega) (by omega), nf_letters hC m _ 30 Q (by omega) (by omega), nf_image hC m _ 30 Q (by omega) (by omega)⟩
  have Ri := Red.cons hC P (by omega) hi h Rz
  refine ⟨m, _, rfl, Rz.1, Rz.2.1, ?_, conn_all hC (m + 1) _ P hn w _ ⟨hl, hw, rfl⟩ Ri⟩
  rw [Rz.2.2]
  exact Q

/-- A word that is reduced is reduced for the matrix turned over. -/
theorem red_same {c : List (List Int)} (hC : Cartan c) : ∀ (w : List Int), lettersOk c w = true → w.length ≤ 29 → PlayL c w.length (imageOf c w) → PlayL (transp c) w.length (imageOf (transp c) w)
  | [], _, _, _ => PlayL.ones (transp c)
  | i :: u, hw, hl, P => by
    obtain ⟨hi, hu⟩ := letters_cons.1 hw
    have p1 := point_of hi
    simp only [List.length_cons] at hl P ⊢
    obtain ⟨_, g2, g3, g4⟩ := Red.tail hC P (by omega) (w := u) (i := i) ⟨by simp, hw, rfl⟩
    have e := g4.2.2
    rw [← e] at g3
    have IH := red_same hC u hu (by omega) g3
    have hi' : isPoint (transp c) i = true := by rw [point_transp]; exact hi
    have hne := IH.ne (transp_cartan hC) (i := i.toNat) (by rw [transp_length]; omega)
    by_cases h : 0 < (imageOf (transp c) u).getD i.toNat 0
    · exact play_up (transp_cartan hC) IH (by omega) hi' h
    · exfalso
      obtain ⟨m, t, e1, e2, e3, _, e5⟩ := front (transp_cartan hC) IH (by omega) rfl (by rw [letters_transp]; exact hu) hi' (by omega)
      have L : Lin c (i :: u) t := ((e5.transp hC).lin.cons i).trans (twice hC hi t)
      have et : lettersOk c t = true := by rw [← letters_transp]; exact e3
      have him := lin_image hC L hw et (by simp; omega) (by omega)
      obtain ⟨n, hn, Q⟩ := play_image hC et (by omega)
      rw [him] at P
      have := play_unique hC P Q (by omega) (by omega)
      omega

/-- Each word has a word that is reduced for both matrices and does the same for both. -/
theorem red_both {c : List (List Int)} (hC : Cartan c) : ∀ (w : List Int), lettersOk c w = true → w.length ≤ 28 →
    ∃ r, r.length ≤ w.length ∧ lettersOk c r = true ∧ PlayL c r.length (imageOf c r) ∧ Lin c r w ∧ Lin (transp c) r w
  | [], _, _ => ⟨[], Nat.le_refl _, rfl, PlayL.ones c, Lin.refl _ _, Lin.refl _ _⟩
  | i :: u, hw, hl => by
    obtain ⟨hi, hu⟩ := letters_cons.1 hw
    have p1 := point_of hi
    simp only [List.length_cons] at hl ⊢
    obtain ⟨r, r1, r2, r3, r4, r5⟩ := red_both hC u hu (by omega)
    have hi' : isPoint (transp c) i = true := by rw [point_transp]; exact hi
    have hne := r3.ne hC (i := i.toNat) (by omega)
    by_cases h : 0 < (imageOf c r).getD i.toNat 0
    · exact ⟨i :: r, by simp; omega, letters_cons.2 ⟨hi, r2⟩, by simpa using play_up hC r3 (by omega) hi h, r4.cons i, r5.cons i⟩
    · obtain ⟨m, t, e1, e2, e3, e4, e5⟩ := front hC r3 (by omega) rfl r2 hi (by omega)
      refine ⟨t, by omega, e3, by rw [e2]; exact e4, ?_, ?_⟩
      · exact ((r4.symm.cons i).trans ((e5.lin.cons i).trans (twice hC hi t))).symm
      · exact ((r5.symm.cons i).trans (((e5.transp' hC).lin.cons i).trans (twice (transp_cartan hC) hi' t))).symm

theorem sign_half {c : List (List Int)} (hC : Cartan c) {w : List Int} (hw : lettersOk c w = true) (hl : w.length ≤ 28) {i : Int} (hi : isPoint c i = true) (h : 0 < (imageOf c w).getD i.toNat 0) : 0 < (imageOf (transp c) w).getD i.toNat 0 := by
  have p1 := point_of hi
  have hC' := transp_cartan hC
  obtain ⟨r, r1, r2, r3, r4, r5⟩ := red_both hC w hw hl
  have hi' : isPoint (transp c) i = true := by rw [point_transp]; exact hi
  have r2' : lettersOk (transp c) r = true := by rw [letters_transp]; exact r2
  rw [← lin_image hC r4 r2 hw (by omega) (by omega)] at h
  rw [← lin_image hC' r5 r2' (by rw [letters_transp]; exact hw) (by omega) (by omega)]
  have q1 := red_same hC r r2 (by omega) r3
  have q2 := red_same hC (i :: r) (letters_cons.2 ⟨hi, r2⟩) (by simp; omega) (by simpa using play_up hC r3 (by omega) hi h)
  have hne := q1.ne hC' (i := i.toNat) (by rw [transp_length]; omega)
  by_cases k : 0 < (imageOf (transp c) r).getD i.toNat 0
  · exact k
  · exfalso
    obtain ⟨m, e1, Q⟩ := q1.down hC' (by omega) (i := i.toNat) (by rw [transp_length]; omega) (by omega)
    rw [List.length_cons, imageW_cons] at q2
    have := play_unique hC' q2 Q (by omega) (by omega)
    omega

theorem sign_both {c : List (List Int)} (hC : Cartan c) {w : List Int} (hw : lettersOk c w = true) (hl : w.length ≤ 28) {i : Int} (hi : isPoint c i = true) : 0 < (imageOf c w).getD i.toNat 0 ↔ 0 < (imageOf (transp c) w).getD i.toNat 0 := by
  refine ⟨sign_half hC hw hl hi, fun h => ?_⟩
  have := sign_half (transp_cartan hC) (w := w) (by rw [letters_transp]; exact hw) hl (i := i) (by rw [point_transp]; exact hi) h
  rw [transp_transp hC] at this
  exact this

/-- The root of a word and a letter, its coroot. -/
def rootP (c : List (List Int)) (w : List Int) (i : Nat) : Pos := actP c.length (ent c) w (unitP i)

theorem ones_at {N : Nat} (r : Pos) : dotP N (fun _ => 1) r = dotP N (posOf (List.replicate N 1)) r :=
  dotP_congr N fun k hk => ⟨by simp [posOf, List.getD, hk], rfl⟩

/-- A root's height is a number of an image of rho. -/
theorem height_image {c : List (List Int)} (hC : Cartan c) {w : List Int} (hw : lettersOk c w = true) (hl : w.length ≤ 31) {i : Nat} (hi : i < c.length) :
    dotP c.length (fun _ => 1) (rootP c w i) = (imageOf (transp c) w.reverse).getD i 0 := by
  unfold rootP
  rw [ones_at, root_dot hw hi, ← ent_transp hC]
  have := image_pos (transp_cartan hC) (w := w.reverse) (by rw [letters_transp]; exact letters_rev hw) (by simpa using hl)
  rw [transp_length] at this
  rw [← this]
  rfl

theorem rootP_sign {c : List (List Int)} (hC : Cartan c) {w : List Int} (hw : lettersOk c w = true) {i : Nat} (hi : i < c.length) : PosR c.length (rootP c w i) ∨ (∀ k, k < c.length → rootP c w i k ≤ 0) := root_sign hC hw hi

theorem rootP_pos {c : List (List Int)} (hC : Cartan c) {w : List Int} (hw : lettersOk c w = true) (hl : w.length ≤ 31) {i : Nat} (hi : i < c.length) : PosR c.length (rootP c w i) ↔ 0 < (imageOf (transp c) w.reverse).getD i 0 := by
  rw [← height_image hC hw hl hi]
  exact (root_height hC hw hi).2

/-- A root above zero has its coroot above zero. -/
theorem coroot_pos {c : List (List Int)} (hC : Cartan c) {w : List Int} (hw : lettersOk c w = true) (hl : w.length ≤ 28) {i : Nat} (hi : i < c.length) : PosR c.length (rootP c w i) ↔ PosR c.length (rootP (transp c) w i) := by
  have h2 := rootP_pos (transp_cartan hC) (w := w) (by rw [letters_transp]; exact hw) (by omega) (i := i) (by rw [transp_length]; exact hi)
  rw [transp_transp hC, transp_length] at h2
  rw [rootP_pos hC hw (by omega) hi, h2]
  exact (sign_both hC (w := w.reverse) (letters_rev hw) (by simpa using hl) (i := (i : Int)) (by simp [isPoint, inRange]; omega)).symm

/-- The pairing of a coroot's numbers with a root's. -/
def pairP (N : Nat) (c : Nat → Nat → Int) (n r : Pos) : Int := dotP N n (fun j => dotP N (c j) r)

theorem pair_mr {N : Nat} {c : Nat → Nat → Int} (M : MatOk N c) {i : Nat} (hi : i < N) (n r : Pos) : pairP N c (mr N (tr c) i n) (mr N c i r) = pairP N c n r := by
  have e1 : ∀ j, dotP N (c j) (mr N c i r) = dotP N (c j) r - dotP N (c i) r * tr c i j := fun j => by
    unfold mr
    rw [dotP_subr, dotP_unit, if_pos hi]
    rfl
  unfold pairP
  rw [show (fun j => dotP N (c j) (mr N c i r)) = fun j => dotP N (c j) r - dotP N (c i) r * tr c i j from funext e1]
  have e2 : ∀ f : Pos, dotP N (mr N (tr c) i n) f = dotP N n f - dotP N (tr c i) n * f i := fun f => by
    unfold mr
    rw [dotP_sub, dotP_comm (unitP i) f, dotP_unit, if_pos hi]
  rw [e2, dotP_subr, dotP_comm (tr c i) n]
  have d : tr c i i = 2 := M.diag i hi
  rw [d]
  grind

theorem pair_word {c : List (List Int)} (hC : Cartan c) : ∀ (w : List Int), lettersOk c w = true → ∀ (n r : Pos), pairP c.length (ent c) (actP c.length (tr (ent c)) w n) (actP c.length (ent c) w r) = pairP c.length (ent c) n r
  | [], _, _, _ => rfl
  | i :: w, h, n, r => by
    obtain ⟨h1, h2⟩ := letters_cons.1 h
    have p1 := point_of h1
    simp only [actP]
    rw [pair_mr (matOk hC) (by omega), pair_word hC w h2]

theorem pair_root {c : List (List Int)} (hC : Cartan c) {w : List Int} (hw : lettersOk c w = true) {i : Nat} (hi : i < c.length) : pairP c.length (ent c) (rootP (transp c) w i) (rootP c w i) = 2 := by
  unfold rootP
  rw [transp_length, ent_transp hC, pair_word hC w hw]
  unfold pairP
  rw [dotP_comm, dotP_unit, if_pos hi, dotP_unit, if_pos hi]
  exact (matOk hC).diag i hi

theorem dotP_some {f g : Pos} : ∀ (N : Nat), PosR N f → 0 < dotP N f g → ∃ j, j < N ∧ 0 < g j
  | 0, _, h => absurd h (by simp [dotP])
  | n + 1, hf, h => by
    simp only [dotP] at h
    by_cases h1 : 0 < dotP n f g
    · obtain ⟨j, hj, e⟩ := dotP_some n (fun k hk => hf k (by omega)) h1
      exact ⟨j, by omega, e⟩
    · refine ⟨n, by omega, ?_⟩
      have h2 := hf n (by omega)
      by_cases h3 : 0 < g n
      · exact h3
      · exfalso
        have : f n * g n ≤ 0 := Int.mul_nonpos_of_nonneg_of_nonpos h2 (by omega)
        omega

/-- A root above zero goes down at some letter. -/
theorem root_down {c : List (List Int)} (hC : Cartan c) {w : List Int} (hw : lettersOk c w = true) (hl : w.length ≤ 28) {i : Nat} (hi : i < c.length) (h : PosR c.length (rootP c w i)) : ∃ j, j < c.length ∧ 0 < dotP c.length (ent c j) (rootP c w i) := by
  refine dotP_some c.length (f := rootP (transp c) w i) ((coroot_pos hC hw hl hi).1 h) ?_
  have := pair_root hC hw hi
  unfold pairP at this
  omega

theorem mr_mul (N : Nat) (c : Nat → Nat → Int) (i : Nat) (a : Int) (r : Pos) : mr N c i (fun k => a * r k) = fun k => a * mr N c i r k := by
  have e : ∀ (f : Pos) (N : Nat), dotP N f (fun k => a * r k) = a * dotP N f r := by
    intro f N
    induction N with
    | zero => simp [dotP]
    | succ n ih => simp only [dotP, ih]; grind
  funext k
  simp only [mr, e]
  grind

theorem actP_mul (N : Nat) (c : Nat → Nat → Int) (a : Int) : ∀ (w : List Int) (r : Pos), actP N c w (fun k => a * r k) = fun k => a * actP N c w r k
  | [], _ => rfl
  | i :: w, r => by simp only [actP, actP_mul N c a w r, mr_mul]

theorem mr_mr {N : Nat} {c : Nat → Nat → Int} (M : MatOk N c) {i : Nat} (hi : i < N) (r : Pos) : mr N c i (mr N c i r) = r := by
  funext k
  have e : dotP N (c i) (mr N c i r) = - dotP N (c i) r := by
    unfold mr
    rw [dotP_subr, dotP_unit, if_pos hi, M.diag i hi]
    omega
  show mr N c i r k - dotP N (c i) (mr N c i r) * unitP i k = r k
  rw [e]
  unfold mr
  grind

theorem actP_rev {c : List (List Int)} (hC : Cartan c) : ∀ (w : List Int), lettersOk c w = true → ∀ r, actP c.length (ent c) w.reverse (actP c.length (ent c) w r) = r
  | [], _, _ => rfl
  | i :: w, h, r => by
    obtain ⟨h1, h2⟩ := letters_cons.1 h
    have p1 := point_of h1
    rw [List.reverse_cons, actP_app]
    simp only [actP]
    rw [mr_mr (matOk hC) (by omega), actP_rev hC w h2]

theorem mr_off {N : Nat} (c : Nat → Nat → Int) {i k : Nat} (hi : i < N) (hk : N ≤ k) (r : Pos) : mr N c i r k = r k := by
  simp [mr, unitP, show k ≠ i by omega]
theorem rootP_off {c : List (List Int)} : ∀ (w : List Int), lettersOk c w = true → ∀ {i k : Nat}, i < c.length → c.length ≤ k → rootP c w i k = 0
  | [], _, i, k, hi, hk => by simp [rootP, actP, unitP, show k ≠ i by omega]
  | j :: w, h, i, k, hi, hk => by
    obtain ⟨h1, h2⟩ := letters_cons.1 h
    have p1 := point_of h1
    show mr c.length (ent c) j.toNat (rootP c w i) k = 0
    rw [mr_off _ (by omega) hk]
    exact rootP_off w h2 hi hk

/-- A root with numbers at one letter alone, above zero, is simple. -/
theorem root_one {c : List (List Int)} (hC : Cartan c) {w : List Int} (hw : lettersOk c w = true) {i : Nat} (hi : i < c.length) {j : Nat} (h : PosR c.length (rootP c w i)) (hz : ∀ k, k < c.length → k ≠ j → rootP c w i k = 0) : rootP c w i = unitP j := by
  have e : rootP c w i = fun k => rootP c w i j * unitP j k := by
    funext k
    by_cases hk : k = j
    · subst hk; simp [unitP]
    · by_cases hl : k < c.length
      · simp [hz k hl hk, unitP, hk]
      · simp [rootP_off w hw hi (Nat.le_of_not_lt hl), unitP, hk]
  have hb : actP c.length (ent c) w.reverse (rootP c w i) = unitP i := actP_rev hC w hw _
  rw [e, actP_mul] at hb
  have h1 := congrFun hb i
  simp only [unitP, if_true] at h1
  have hj : j < c.length := by
    refine Nat.lt_of_not_le fun hle => ?_
    rw [rootP_off w hw hi hle] at h1
    simp at h1
  have h0 := h j hj
  have hone : rootP c w i j = 1 := by
    have hd : rootP c w i j ∣ 1 := ⟨_, h1.symm⟩
    exact Int.eq_one_of_dvd_one h0 hd
  rw [e, hone]
  simp

/-- Going down at a letter keeps a root above zero, unless it is simple. -/
theorem root_step {c : List (List Int)} (hC : Cartan c) {w : List Int} (hw : lettersOk c w = true) {i : Nat} (hi : i < c.length) {j : Nat} (hj : j < c.length) (h : PosR c.length (rootP c w i)) (hne : rootP c w i ≠ unitP j) : PosR c.length (rootP c ((j : Int) :: w) i) := by
  have hw' : lettersOk c ((j : Int) :: w) = true := letters_cons.2 ⟨by simp [isPoint, inRange]; omega, hw⟩
  rcases rootP_sign hC hw' hi with k | k
  · exact k
  · exfalso
    refine hne (root_one hC hw hi h fun t ht htj => ?_)
    have h1 := k t ht
    have h2 := h t ht
    have e : rootP c ((j : Int) :: w) i t = rootP c w i t := by
      show mr c.length (ent c) (j : Int).toNat (rootP c w i) t = rootP c w i t
      simp [mr, unitP, htj]
    omega

end Go.Proofs.YtgliajcgcbnemaaGreatDoor.Hx

namespace Go.Proofs.YtgliajcgcbnemaaGreatDoor.Hx
open Go.RowKit
variable {dm : Bool}

def signOf (a : List Int) : Int := if (a.length : Int).tmod 2 = 0 then 1 else -1

def heightOf (a : List Int) : Int := a.foldl (fun s x => IntKind.i64.wrap (s + x)) 0

theorem heightOf_snoc (a : List Int) (i : Nat) (hi : i < a.length) : heightOf (a.take (i + 1)) = IntKind.i64.wrap (heightOf (a.take i) + a.getD i 0) := by
  rw [List.take_succ_eq_append_getElem hi]
  unfold heightOf
  rw [List.foldl_append]
  simp [List.getD, hi]

theorem spec_HeightOf (h : Heap) (x : H0) (a : List Int) (hx : Ints h x a) (hal : a.length ≤ 2199023255552) : HCalls dm Tryz.prog 162 [.s x] h (fun r h' => r = I (heightOf a) ∧ h' = h) := by
  refine calls_of_hFun (m := 0) kd_ok mixed Tryz.func162 rfl (by kernel_rfl) rfl rfl (of_decide_eq_true rfl) ?_; unfold hFun; (conv => whnf)
  refine HLoop.intro [4, 3] [5, 6, 7, 8, 11, 12, 13, 14, 15, 16, 3, 9, 10, 4] (by kernel_rfl) (by kernel_rfl) (fun vs h' => ∃ i : Nat, vs = [I i, I (heightOf (a.take i))] ∧ i ≤ a.length ∧ h' = h) (fun vs _ => a.length - natAt vs 0) ⟨0, rfl, by omega, rfl⟩ ?_
  rintro vs h' ⟨i, rfl, hi, rfl⟩
  (conv => whnf)
  (repeat (first | (refine ⟨rfl, Ints.len (by assumption) ?_⟩; conv => whnf) | (refine ⟨rfl, Rows.len (by assumption) ?_⟩; conv => whnf) | (refine ⟨rfl, HLen.sl ?_⟩; conv => whnf) | (refine ⟨rfl, At.load (by assumption) ?_⟩; conv => whnf) | (refine HIf.yes ?_; conv => whnf) | (refine HIf.no ?_; conv => whnf) | (refine HIf.isT (by assumption) ?_; conv => whnf) | (refine HIf.isF (by assumption) ?_; conv => whnf) | (refine HIf.decT (by assumption) ?_; conv => whnf) | (refine HIf.decF (by assumption) ?_; conv => whnf) | (refine HIf.beqT (by assumption) ?_; conv => whnf) | (refine HIf.beqF (by assumption) ?_; conv => whnf) | (refine HIf.bneT (by assumption) ?_; conv => whnf) | (refine HIf.bneF (by assumption) ?_; conv => whnf) | (refine ⟨rfl, Ints.idxN (by assumption) (by omega) (fun p hp => ?_)⟩; conv => whnf) | (refine ⟨rfl, Rows.idxN (by assumption) (by omega) (fun p y hp hy => ?_)⟩; conv => whnf) | (refine And.intro (show Kd.isBool _ = true from rfl) ?_; conv => whnf) | (refine ⟨rfl, Ints.idx (by assumption) (by omega) (by omega) (fun p hp => ?_)⟩; conv => whnf) | (refine ⟨rfl, Rows.idx (by assumption) (by omega) (by omega) (fun p y hp hy => ?_)⟩; conv => whnf) | (refine HArith.fits (by omega) (by omega) ?_; conv => whnf) | (refine Or.inl (And.intro (show Region.lexB _ _ = true by kernel_rfl) ?_); conv => whnf)))
  refine HIf.dec (fun hlt => ?_) (fun hge => ?_)
  · (conv => whnf)
    refine ⟨rfl, Ints.idx hx (by omega) (by omega) (fun p hp => ?_)⟩
    (conv => whnf)
    refine ⟨rfl, hp.load ?_⟩
    (conv => whnf)
    refine HArith.any ?_
    (conv => whnf)
    (repeat (first | (refine ⟨rfl, Ints.len (by assumption) ?_⟩; conv => whnf) | (refine ⟨rfl, Rows.len (by assumption) ?_⟩; conv => whnf) | (refine ⟨rfl, HLen.sl ?_⟩; conv => whnf) | (refine ⟨rfl, At.load (by assumption) ?_⟩; conv => whnf) | (refine HIf.yes ?_; conv => whnf) | (refine HIf.no ?_; conv => whnf) | (refine HIf.isT (by assumption) ?_; conv => whnf) | (refine HIf.isF (by assumption) ?_; conv => whnf) | (refine HIf.decT (by assumption) ?_; conv => whnf) | (refine HIf.decF (by assumption) ?_; conv => whnf) | (refine HIf.beqT (by assumption) ?_; conv => whnf) | (refine HIf.beqF (by assumption) ?_; conv => whnf) | (refine HIf.bneT (by assumption) ?_; conv => whnf) | (refine HIf.bneF (by assumption) ?_; conv => whnf) | (refine ⟨rfl, Ints.idxN (by assumption) (by omega) (fun p hp => ?_)⟩; conv => whnf) | (refine ⟨rfl, Rows.idxN (by assumption) (by omega) (fun p y hp hy => ?_)⟩; conv => whnf) | (refine And.intro (show Kd.isBool _ = true from rfl) ?_; conv => whnf) | (refine ⟨rfl, Ints.idx (by assumption) (by omega) (by omega) (fun p hp => ?_)⟩; conv => whnf) | (refine ⟨rfl, Rows.idx (by assumption) (by omega) (by omega) (fun p y hp hy => ?_)⟩; conv => whnf) | (refine HArith.fits (by omega) (by omega) ?_; conv => whnf) | (refine Or.inl (And.intro (show Region.lexB _ _ = true by kernel_rfl) ?_); conv => whnf)))
    exact ⟨⟨i + 1, by rw [heightOf_snoc a i (by omega)]; rfl, by omega, rfl⟩, by show a.length - (i + 1) < a.length - i; omega⟩
  · (conv => whnf)
    have e : i = a.length := by omega
    rw [e, List.take_length]
    exact ⟨rfl, rfl⟩

theorem impl_HeightOf (h : Heap) (x : H0) (a : List Int) (hx : Ints h x a) (hal : a.length ≤ 2199023255552) : HCalls dm Tryz.prog 154 [.s x] h (fun r h' => r = I (heightOf a) ∧ h' = h) := by
  refine calls_of_hFun (m := 0) kd_ok mixed Tryz.func154 rfl (by kernel_rfl) rfl rfl (of_decide_eq_true rfl) ?_; unfold hFun; (conv => whnf)
  refine ⟨rfl, hx.len ?_⟩
  (conv => whnf)
  refine HLoop.intro [8, 3] [9, 10, 11, 5, 12, 13, 14, 3, 15, 8] (by kernel_rfl) (by kernel_rfl) (fun vs h' => ∃ i : Nat, vs = [I i, I (heightOf (a.take i))] ∧ i ≤ a.length ∧ h' = h) (fun vs _ => a.length - natAt vs 0) ⟨0, rfl, by omega, rfl⟩ ?_
  rintro vs h' ⟨i, rfl, hi, rfl⟩
  (conv => whnf)
  refine HIf.dec (fun hlt => ?_) (fun hge => ?_)
  · (conv => whnf)
    refine ⟨rfl, Ints.idx hx (by omega) (by omega) (fun p hp => ?_)⟩
    (conv => whnf)
    refine ⟨rfl, hp.load ?_⟩
    (conv => whnf)
    refine HArith.any ?_
    (conv => whnf)
    (repeat (first | (refine ⟨rfl, Ints.len (by assumption) ?_⟩; conv => whnf) | (refine ⟨rfl, Rows.len (by assumption) ?_⟩; conv => whnf) | (refine ⟨rfl, HLen.sl ?_⟩; conv => whnf) | (refine ⟨rfl, At.load (by assumption) ?_⟩; conv => whnf) | (refine HIf.yes ?_; conv => whnf) | (refine HIf.no ?_; conv => whnf) | (refine HIf.isT (by assumption) ?_; conv => whnf) | (refine HIf.isF (by assumption) ?_; conv => whnf) | (refine HIf.decT (by assumption) ?_; conv => whnf) | (refine HIf.decF (by assumption) ?_; conv => whnf) | (refine HIf.beqT (by assumption) ?_; conv => whnf) | (refine HIf.beqF (by assumption) ?_; conv => whnf) | (refine HIf.bneT (by assumption) ?_; conv => whnf) | (refine HIf.bneF (by assumption) ?_; conv => whnf) | (refine ⟨rfl, Ints.idxN (by assumption) (by omega) (fun p hp => ?_)⟩; conv => whnf) | (refine ⟨rfl, Rows.idxN (by assumption) (by omega) (fun p y hp hy => ?_)⟩; conv => whnf) | (refine And.intro (show Kd.isBool _ = true from rfl) ?_; conv => whnf) | (refine ⟨rfl, Ints.idx (by assumption) (by omega) (by omega) (fun p hp => ?_)⟩; conv => whnf) | (refine ⟨rfl, Rows.idx (by assumption) (by omega) (by omega) (fun p y hp hy => ?_)⟩; conv => whnf) | (refine HArith.fits (by omega) (by omega) ?_; conv => whnf) | (refine Or.inl (And.intro (show Region.lexB _ _ = true by kernel_rfl) ?_); conv => whnf)))
    exact ⟨⟨i + 1, by rw [heightOf_snoc a i (by omega)]; rfl, by omega, rfl⟩, by show a.length - (i + 1) < a.length - i; omega⟩
  · (conv => whnf)
    have e : i = a.length := by omega
    rw [e, List.take_length]
    exact ⟨rfl, rfl⟩

/-- No two neighbours are equal. -/
def sqFree (a : List Int) : Bool := (List.range a.length).all fun j => decide (j = 0) || !(a.getD j 0 == a.getD (j - 1) 0)

def anyUp (a : List Int) : Bool := a.any fun n => decide (n > 0)
def anyDown (a : List Int) : Bool := a.any fun n => decide (n < 0)
def rootSign (a : List Int) : Int := if anyUp a == anyDown a then 0 else if anyUp a then 1 else -1

theorem anyUp_snoc (a : List Int) (i : Nat) (hi : i < a.length) : anyUp (a.take (i + 1)) = (anyUp (a.take i) || decide (a.getD i 0 > 0)) := by
  rw [List.take_succ_eq_append_getElem hi]
  unfold anyUp
  rw [List.any_append]
  simp [List.getD, hi]

theorem anyDown_snoc (a : List Int) (i : Nat) (hi : i < a.length) : anyDown (a.take (i + 1)) = (anyDown (a.take i) || decide (a.getD i 0 < 0)) := by
  rw [List.take_succ_eq_append_getElem hi]
  unfold anyDown
  rw [List.any_append]
  simp [List.getD, hi]

theorem spec_RootSign (h : Heap) (x : H0) (a : List Int) (hx : Ints h x a) (hal : a.length ≤ 2199023255552) : HCalls dm Tryz.prog 108 [.s x] h (fun r h' => r = I (rootSign a) ∧ h' = h) := by
  refine calls_of_hFun (m := 0) kd_ok mixed Tryz.func108 rfl (by kernel_rfl) rfl rfl (of_decide_eq_true rfl) ?_; unfold hFun; (conv => whnf)
  refine HLoop.intro [5, 3, 4] [6, 7, 8, 9, 12, 13, 14, 15, 16, 17, 18, 19, 3, 20, 21, 22, 23, 24, 25, 26, 27, 4, 10, 11, 5] (by kernel_rfl) (by kernel_rfl) (fun vs h' => ∃ i : Nat, vs = [I i, B (anyUp (a.take i)), B (anyDown (a.take i))] ∧ i ≤ a.length ∧ h' = h) (fun vs _ => a.length - natAt vs 0) ⟨0, rfl, by omega, rfl⟩ ?_
  rintro vs h' ⟨i, rfl, hi, rfl⟩
  (conv => whnf)
  (repeat (first | (refine ⟨rfl, Ints.len (by assumption) ?_⟩; conv => whnf) | (refine ⟨rfl, Rows.len (by assumption) ?_⟩; conv => whnf) | (refine ⟨rfl, HLen.sl ?_⟩; conv => whnf) | (refine ⟨rfl, At.load (by assumption) ?_⟩; conv => whnf) | (refine HIf.yes ?_; conv => whnf) | (refine HIf.no ?_; conv => whnf) | (refine HIf.isT (by assumption) ?_; conv => whnf) | (refine HIf.isF (by assumption) ?_; conv => whnf) | (refine HIf.decT (by assumption) ?_; conv => whnf) | (refine HIf.decF (by assumption) ?_; conv => whnf) | (refine HIf.beqT (by assumption) ?_; conv => whnf) | (refine HIf.beqF (by assumption) ?_; conv => whnf) | (refine HIf.bneT (by assumption) ?_; conv => whnf) | (refine HIf.bneF (by assumption) ?_; conv => whnf) | (refine ⟨rfl, Ints.idxN (by assumption) (by omega) (fun p hp => ?_)⟩; conv => whnf) | (refine ⟨rfl, Rows.idxN (by assumption) (by omega) (fun p y hp hy => ?_)⟩; conv => whnf) | (refine And.intro (show Kd.isBool _ = true from rfl) ?_; conv => whnf) | (refine ⟨rfl, Ints.idx (by assumption) (by omega) (by omega) (fun p hp => ?_)⟩; conv => whnf) | (refine ⟨rfl, Rows.idx (by assumption) (by omega) (by omega) (fun p y hp hy => ?_)⟩; conv => whnf) | (refine HArith.fits (by omega) (by omega) ?_; conv => whnf) | (refine Or.inl (And.intro (show Region.lexB _ _ = true by kernel_rfl) ?_); conv => whnf)))
  refine HIf.dec (fun hlt => ?_) (fun hge => ?_)
  · have hu := anyUp_snoc a i (by omega)
    have hd := anyDown_snoc a i (by omega)
    (conv => whnf)
    refine HIf.split (fun h1 => ?_) (fun h1 => ?_) <;> (conv => whnf) <;> (repeat (first | (refine ⟨rfl, Ints.len (by assumption) ?_⟩; conv => whnf) | (refine ⟨rfl, Rows.len (by assumption) ?_⟩; conv => whnf) | (refine ⟨rfl, HLen.sl ?_⟩; conv => whnf) | (refine ⟨rfl, At.load (by assumption) ?_⟩; conv => whnf) | (refine HIf.yes ?_; conv => whnf) | (refine HIf.no ?_; conv => whnf) | (refine HIf.isT (by assumption) ?_; conv => whnf) | (refine HIf.isF (by assumption) ?_; conv => whnf) | (refine HIf.decT (by assumption) ?_; conv => whnf) | (refine HIf.decF (by assumption) ?_; conv => whnf) | (refine HIf.beqT (by assumption) ?_; conv => whnf) | (refine HIf.beqF (by assumption) ?_; conv => whnf) | (refine HIf.bneT (by assumption) ?_; conv => whnf) | (refine HIf.bneF (by assumption) ?_; conv => whnf) | (refine ⟨rfl, Ints.idxN (by assumption) (by omega) (fun p hp => ?_)⟩; conv => whnf) | (refine ⟨rfl, Rows.idxN (by assumption) (by omega) (fun p y hp hy => ?_)⟩; conv => whnf) | (refine And.intro (show Kd.isBool _ = true from rfl) ?_; conv => whnf) | (refine ⟨rfl, Ints.idx (by assumption) (by omega) (by omega) (fun p hp => ?_)⟩; conv => whnf) | (refine ⟨rfl, Rows.idx (by assumption) (by omega) (by omega) (fun p y hp hy => ?_)⟩; conv => whnf) | (refine HArith.fits (by omega) (by omega) ?_; conv => whnf) | (refine Or.inl (And.intro (show Region.lexB _ _ = true by kernel_rfl) ?_); conv => whnf))) <;> refine HIf.split (fun h3 => ?_) (fun h3 => ?_) <;> (conv => whnf) <;> (repeat (first | (refine ⟨rfl, Ints.len (by assumption) ?_⟩; conv => whnf) | (refine ⟨rfl, Rows.len (by assumption) ?_⟩; conv => whnf) | (refine ⟨rfl, HLen.sl ?_⟩; conv => whnf) | (refine ⟨rfl, At.load (by assumption) ?_⟩; conv => whnf) | (refine HIf.yes ?_; conv => whnf) | (refine HIf.no ?_; conv => whnf) | (refine HIf.isT (by assumption) ?_; conv => whnf) | (refine HIf.isF (by assumption) ?_; conv => whnf) | (refine HIf.decT (by assumption) ?_; conv => whnf) | (refine HIf.decF (by assumption) ?_; conv => whnf) | (refine HIf.beqT (by assumption) ?_; conv => whnf) | (refine HIf.beqF (by assumption) ?_; conv => whnf) | (refine HIf.bneT (by assumption) ?_; conv => whnf) | (refine HIf.bneF (by assumption) ?_; conv => whnf) | (refine ⟨rfl, Ints.idxN (by assumption) (by omega) (fun p hp => ?_)⟩; conv => whnf) | (refine ⟨rfl, Rows.idxN (by assumption) (by omega) (fun p y hp hy => ?_)⟩; conv => whnf) | (refine And.intro (show Kd.isBool _ = true from rfl) ?_; conv => whnf) | (refine ⟨rfl, Ints.idx (by assumption) (by omega) (by omega) (fun p hp => ?_)⟩; conv => whnf) | (refine ⟨rfl, Rows.idx (by assumption) (by omega) (by omega) (fun p y hp hy => ?_)⟩; conv => whnf) | (refine HArith.fits (by omega) (by omega) ?_; conv => whnf) | (refine Or.inl (And.intro (show Region.lexB _ _ = true by kernel_rfl) ?_); conv => whnf)))
    all_goals exact ⟨⟨i + 1, by rw [hu, hd, h1, h3]; rfl, by omega, rfl⟩, by show a.length - (i + 1) < a.length - i; omega⟩
  · have e : i = a.length := by omega
    rw [e, List.take_length]
    (conv => whnf)
    refine ⟨rfl, ?_⟩
    (conv => whnf)
    refine HIf.split (fun h1 => ?_) (fun h1 => ?_)
    · (conv => whnf)
      exact ⟨by rw [rootSign, if_pos h1]; rfl, rfl⟩
    · (conv => whnf)
      refine HIf.split (fun h2 => ?_) (fun h2 => ?_)
      · (conv => whnf)
        exact ⟨by rw [rootSign, if_neg (by rw [h1]; decide), if_pos h2]; rfl, rfl⟩
      · (conv => whnf)
        exact ⟨by rw [rootSign, if_neg (by rw [h1]; decide), if_neg (by rw [h2]; decide)]; rfl, rfl⟩

theorem impl_RootSign (h : Heap) (x : H0) (a : List Int) (hx : Ints h x a) (hal : a.length ≤ 2199023255552) : HCalls dm Tryz.prog 98 [.s x] h (fun r h' => r = I (rootSign a) ∧ h' = h) := by
  refine calls_of_hFun (m := 0) kd_ok mixed Tryz.func98 rfl (by kernel_rfl) rfl rfl (of_decide_eq_true rfl) ?_; unfold hFun; (conv => whnf)
  refine ⟨rfl, hx.len ?_⟩
  (conv => whnf)
  refine HLoop.intro [9, 3, 4] [10, 11, 12, 6, 13, 14, 15, 16, 17, 3, 18, 19, 20, 21, 22, 4, 23, 9] (by kernel_rfl) (by kernel_rfl) (fun vs h' => ∃ i : Nat, vs = [I i, B (anyUp (a.take i)), B (anyDown (a.take i))] ∧ i ≤ a.length ∧ h' = h) (fun vs _ => a.length - natAt vs 0) ⟨0, rfl, by omega, rfl⟩ ?_
  rintro vs h' ⟨i, rfl, hi, rfl⟩
  (conv => whnf)
  refine HIf.dec (fun hlt => ?_) (fun hge => ?_)
  · have hu := anyUp_snoc a i (by omega)
    have hd := anyDown_snoc a i (by omega)
    (conv => whnf)
    (repeat (first | (refine ⟨rfl, Ints.len (by assumption) ?_⟩; conv => whnf) | (refine ⟨rfl, Rows.len (by assumption) ?_⟩; conv => whnf) | (refine ⟨rfl, HLen.sl ?_⟩; conv => whnf) | (refine ⟨rfl, At.load (by assumption) ?_⟩; conv => whnf) | (refine HIf.yes ?_; conv => whnf) | (refine HIf.no ?_; conv => whnf) | (refine HIf.isT (by assumption) ?_; conv => whnf) | (refine HIf.isF (by assumption) ?_; conv => whnf) | (refine HIf.decT (by assumption) ?_; conv => whnf) | (refine HIf.decF (by assumption) ?_; conv => whnf) | (refine HIf.beqT (by assumption) ?_; conv => whnf) | (refine HIf.beqF (by assumption) ?_; conv => whnf) | (refine HIf.bneT (by assumption) ?_; conv => whnf) | (refine HIf.bneF (by assumption) ?_; conv => whnf) | (refine ⟨rfl, Ints.idxN (by assumption) (by omega) (fun p hp => ?_)⟩; conv => whnf) | (refine ⟨rfl, Rows.idxN (by assumption) (by omega) (fun p y hp hy => ?_)⟩; conv => whnf) | (refine And.intro (show Kd.isBool _ = true from rfl) ?_; conv => whnf) | (refine ⟨rfl, Ints.idx (by assumption) (by omega) (by omega) (fun p hp => ?_)⟩; conv => whnf) | (refine ⟨rfl, Rows.idx (by assumption) (by omega) (by omega) (fun p y hp hy => ?_)⟩; conv => whnf) | (refine HArith.fits (by omega) (by omega) ?_; conv => whnf) | (refine Or.inl (And.intro (show Region.lexB _ _ = true by kernel_rfl) ?_); conv => whnf)))
    refine HIf.split (fun h1 => ?_) (fun h1 => ?_) <;> (conv => whnf) <;> (repeat (first | (refine ⟨rfl, Ints.len (by assumption) ?_⟩; conv => whnf) | (refine ⟨rfl, Rows.len (by assumption) ?_⟩; conv => whnf) | (refine ⟨rfl, HLen.sl ?_⟩; conv => whnf) | (refine ⟨rfl, At.load (by assumption) ?_⟩; conv => whnf) | (refine HIf.yes ?_; conv => whnf) | (refine HIf.no ?_; conv => whnf) | (refine HIf.isT (by assumption) ?_; conv => whnf) | (refine HIf.isF (by assumption) ?_; conv => whnf) | (refine HIf.decT (by assumption) ?_; conv => whnf) | (refine HIf.decF (by assumption) ?_; conv => whnf) | (refine HIf.beqT (by assumption) ?_; conv => whnf) | (refine HIf.beqF (by assumption) ?_; conv => whnf) | (refine HIf.bneT (by assumption) ?_; conv => whnf) | (refine HIf.bneF (by assumption) ?_; conv => whnf) | (refine ⟨rfl, Ints.idxN (by assumption) (by omega) (fun p hp => ?_)⟩; conv => whnf) | (refine ⟨rfl, Rows.idxN (by assumption) (by omega) (fun p y hp hy => ?_)⟩; conv => whnf) | (refine And.intro (show Kd.isBool _ = true from rfl) ?_; conv => whnf) | (refine ⟨rfl, Ints.idx (by assumption) (by omega) (by omega) (fun p hp => ?_)⟩; conv => whnf) | (refine ⟨rfl, Rows.idx (by assumption) (by omega) (by omega) (fun p y hp hy => ?_)⟩; conv => whnf) | (refine HArith.fits (by omega) (by omega) ?_; conv => whnf) | (refine Or.inl (And.intro (show Region.lexB _ _ = true by kernel_rfl) ?_); conv => whnf))) <;> refine HIf.split (fun h3 => ?_) (fun h3 => ?_) <;> (conv => whnf) <;> (repeat (first | (refine ⟨rfl, Ints.len (by assumption) ?_⟩; conv => whnf) | (refine ⟨rfl, Rows.len (by assumption) ?_⟩; conv => whnf) | (refine ⟨rfl, HLen.sl ?_⟩; conv => whnf) | (refine ⟨rfl, At.load (by assumption) ?_⟩; conv => whnf) | (refine HIf.yes ?_; conv => whnf) | (refine HIf.no ?_; conv => whnf) | (refine HIf.isT (by assumption) ?_; conv => whnf) | (refine HIf.isF (by assumption) ?_; conv => whnf) | (refine HIf.decT (by assumption) ?_; conv => whnf) | (refine HIf.decF (by assumption) ?_; conv => whnf) | (refine HIf.beqT (by assumption) ?_; conv => whnf) | (refine HIf.beqF (by assumption) ?_; conv => whnf) | (refine HIf.bneT (by assumption) ?_; conv => whnf) | (refine HIf.bneF (by assumption) ?_; conv => whnf) | (refine ⟨rfl, Ints.idxN (by assumption) (by omega) (fun p hp => ?_)⟩; conv => whnf) | (refine ⟨rfl, Rows.idxN (by assumption) (by omega) (fun p y hp hy => ?_)⟩; conv => whnf) | (refine And.intro (show Kd.isBool _ = true from rfl) ?_; conv => whnf) | (refine ⟨rfl, Ints.idx (by assumption) (by omega) (by omega) (fun p hp => ?_)⟩; conv => whnf) | (refine ⟨rfl, Rows.idx (by assumption) (by omega) (by omega) (fun p y hp hy => ?_)⟩; conv => whnf) | (refine HArith.fits (by omega) (by omega) ?_; conv => whnf) | (refine Or.inl (And.intro (show Region.lexB _ _ = true by kernel_rfl) ?_); conv => whnf)))
    all_goals exact ⟨⟨i + 1, by rw [hu, hd, h1, h3]; rfl, by omega, rfl⟩, by show a.length - (i + 1) < a.length - i; omega⟩
  · have e : i = a.length := by omega
    rw [e, List.take_length]
    have tl : ∀ (b1 b2 : Bool), anyUp a = b1 → anyDown a = b2 → rootSign a = (if b1 == b2 then (0 : Int) else if b1 then 1 else -1) := fun b1 b2 e1 e2 => by rw [← e1, ← e2]; rfl
    cases h1 : anyUp a <;> cases h2 : anyDown a <;> (conv => whnf) <;> (repeat (first | (refine ⟨rfl, Ints.len (by assumption) ?_⟩; conv => whnf) | (refine ⟨rfl, Rows.len (by assumption) ?_⟩; conv => whnf) | (refine ⟨rfl, HLen.sl ?_⟩; conv => whnf) | (refine ⟨rfl, At.load (by assumption) ?_⟩; conv => whnf) | (refine HIf.yes ?_; conv => whnf) | (refine HIf.no ?_; conv => whnf) | (refine HIf.isT (by assumption) ?_; conv => whnf) | (refine HIf.isF (by assumption) ?_; conv => whnf) | (refine HIf.decT (by assumption) ?_; conv => whnf) | (refine HIf.decF (by assumption) ?_; conv => whnf) | (refine HIf.beqT (by assumption) ?_; conv => whnf) | (refine HIf.beqF (by assumption) ?_; conv => whnf) | (refine HIf.bneT (by assumption) ?_; conv => whnf) | (refine HIf.bneF (by assumption) ?_; conv => whnf) | (refine ⟨rfl, Ints.idxN (by assumption) (by omega) (fun p hp => ?_)⟩; conv => whnf) | (refine ⟨rfl, Rows.idxN (by assumption) (by omega) (fun p y hp hy => ?_)⟩; conv => whnf) | (refine And.intro (show Kd.isBool _ = true from rfl) ?_; conv => whnf) | (refine ⟨rfl, Ints.idx (by assumption) (by omega) (by omega) (fun p hp => ?_)⟩; conv => whnf) | (refine ⟨rfl, Rows.idx (by assumption) (by omega) (by omega) (fun p y hp hy => ?_)⟩; conv => whnf) | (refine HArith.fits (by omega) (by omega) ?_; conv => whnf) | (refine Or.inl (And.intro (show Region.lexB _ _ = true by kernel_rfl) ?_); conv => whnf)))
    all_goals exact ⟨by rw [tl _ _ h1 h2]; rfl, rfl⟩

end Go.Proofs.YtgliajcgcbnemaaGreatDoor.Hx

namespace Go.Proofs.YtgliajcgcbnemaaGreatDoor.Hx
open Go.RowKit

/-! ### Plain -/

def lexC : List Int → List Int → Int
  | [], [] => 0
  | [], _ :: _ => -1
  | _ :: _, [] => 1
  | x :: a, y :: b => if x < y then -1 else if y < x then 1 else lexC a b

def lexGt : List Int → List Int → Bool
  | x :: a, y :: b => if x = y then lexGt a b else decide (y < x)
  | _, _ => false

def cmpR (a b : List Int) : Int := if heightOf a < heightOf b then -1 else if heightOf b < heightOf a then 1 else lexC b a

def beforeR (a b : List Int) : Bool := if heightOf a = heightOf b then lexGt a b else decide (heightOf a < heightOf b)

theorem lexC_neg : ∀ a b : List Int, lexC b a = - lexC a b
  | [], [] => rfl
  | [], _ :: _ => rfl
  | _ :: _, [] => rfl
  | x :: a, y :: b => by
    have := lexC_neg a b
    simp only [lexC]
    by_cases h1 : x < y
    · rw [if_neg (by omega), if_pos h1, if_pos h1]; rfl
    · by_cases h2 : y < x
      · rw [if_pos h2, if_neg h1, if_pos h2]
      · rw [if_neg h2, if_neg h1, if_neg h1, if_neg h2]; exact this

theorem lexC_trans : ∀ a b c : List Int, lexC a b < 0 → lexC b c < 0 → lexC a c < 0
  | [], [], c, h, _ => by simp [lexC] at h
  | [], _ :: _, [], _, h => by simp [lexC] at h
  | [], _ :: _, _ :: _, _, _ => by simp [lexC]
  | _ :: _, [], _, h, _ => by simp [lexC] at h
  | _ :: _, _ :: _, [], _, h => by simp [lexC] at h
  | x :: a, y :: b, z :: c, h, k => by
    have ih := lexC_trans a b c
    simp only [lexC] at h k ⊢
    by_cases h1 : x < y
    · by_cases k1 : y < z
      · rw [if_pos (by omega)]; decide
      · by_cases k2 : z < y
        · rw [if_neg k1, if_pos k2] at k; omega
        · rw [if_pos (by omega)]; decide
    · by_cases h2 : y < x
      · rw [if_neg h1, if_pos h2] at h; omega
      · rw [if_neg h1, if_neg h2] at h
        have e : x = y := by omega
        subst e
        by_cases k1 : x < z
        · rw [if_pos k1]; decide
        · by_cases k2 : z < x
          · rw [if_neg k1, if_pos k2] at k; omega
          · rw [if_neg k1, if_neg k2] at k ⊢
            exact ih h k

theorem lexC_eq : ∀ a b : List Int, lexC a b = 0 → a = b
  | [], [], _ => rfl
  | [], _ :: _, h => by simp [lexC] at h
  | _ :: _, [], h => by simp [lexC] at h
  | x :: a, y :: b, h => by
    simp only [lexC] at h
    by_cases h1 : x < y
    · rw [if_pos h1] at h; omega
    · by_cases h2 : y < x
      · rw [if_neg h1, if_pos h2] at h; omega
      · rw [if_neg h1, if_neg h2] at h
        rw [lexC_eq a b h, show x = y by omega]

theorem cmpR_neg (a b : List Int) : cmpR b a = - cmpR a b := by
  have := lexC_neg a b
  unfold cmpR
  by_cases h1 : heightOf a < heightOf b
  · rw [if_neg (by omega), if_pos h1, if_pos h1]; rfl
  · by_cases h2 : heightOf b < heightOf a
    · rw [if_pos h2, if_neg h1, if_pos h2]
    · rw [if_neg h2, if_neg h1, if_neg h1, if_neg h2]; omega

theorem cmpR_lt {a b : List Int} : cmpR a b < 0 ↔ heightOf a < heightOf b ∨ heightOf a = heightOf b ∧ lexC b a < 0 := by
  unfold cmpR
  by_cases h1 : heightOf a < heightOf b
  · rw [if_pos h1]; simp [h1]
  · by_cases h2 : heightOf b < heightOf a
    · rw [if_neg h1, if_pos h2]
      constructor
      · intro h; omega
      · rintro (h | h) <;> omega
    · rw [if_neg h1, if_neg h2]
      constructor
      · intro h; exact Or.inr ⟨by omega, h⟩
      · rintro (h | h)
        · omega
        · exact h.2

theorem cmpR_eq {a b : List Int} (h : cmpR a b = 0) : a = b := by
  unfold cmpR at h
  by_cases h1 : heightOf a < heightOf b
  · rw [if_pos h1] at h; omega
  · by_cases h2 : heightOf b < heightOf a
    · rw [if_neg h1, if_pos h2] at h; omega
    · rw [if_neg h1, if_neg h2] at h
      exact (lexC_eq b a h).symm

theorem cmpR_trans {a b c : List Int} (h : cmpR a b < 0) (k : cmpR b c < 0) : cmpR a c < 0 := by
  rw [cmpR_lt] at *
  rcases h with h | ⟨h, h2⟩ <;> rcases k with k | ⟨k, k2⟩
  · exact Or.inl (by omega)
  · exact Or.inl (by omega)
  · exact Or.inl (by omega)
  · exact Or.inr ⟨by omega, lexC_trans c b a k2 h2⟩

theorem cmpR_ntrans {a b c : List Int} (h : ¬ cmpR a b < 0) (k : ¬ cmpR b c < 0) : ¬ cmpR a c < 0 := by
  intro hn
  have e1 := cmpR_neg a b
  have e2 := cmpR_neg b c
  have e3 := cmpR_neg a c
  by_cases h0 : cmpR a b = 0
  · rw [cmpR_eq h0] at hn; omega
  · by_cases k0 : cmpR b c = 0
    · rw [← cmpR_eq k0] at hn; omega
    · have := cmpR_trans (a := c) (b := b) (c := a) (by omega) (by omega)
      omega

/-- Sorted. -/
def SortedR (L : List (List Int)) : Prop := L.Pairwise (fun a b => ¬ cmpR b a < 0)

theorem sortedR_one {A B : List (List Int)} (hA : SortedR A) (hB : SortedR B) (p : A.Perm B) : A = B :=
  List.Perm.eq_of_pairwise (le := fun a b => ¬ cmpR b a < 0) (fun a b _ _ h k => by
    have := cmpR_neg a b
    exact cmpR_eq (by omega)) hA hB p

theorem lexGt_lexC : ∀ a b : List Int, a.length = b.length → (lexGt a b = true ↔ lexC b a < 0)
  | [], [], _ => by simp [lexGt, lexC]
  | [], _ :: _, h => by simp at h
  | _ :: _, [], h => by simp at h
  | x :: a, y :: b, h => by
    have ih := lexGt_lexC a b (by simpa using h)
    simp only [lexGt, lexC]
    by_cases h1 : y < x
    · rw [if_neg (by omega), if_pos h1]; simp [h1]
    · by_cases h2 : x < y
      · rw [if_neg (by omega), if_neg h1, if_pos h2]; simp [h1]
      · rw [if_pos (by omega), if_neg h1, if_neg h2]; exact ih

theorem beforeR_cmpR {a b : List Int} (h : a.length = b.length) : beforeR a b = true ↔ cmpR a b < 0 := by
  rw [cmpR_lt]
  unfold beforeR
  by_cases e : heightOf a = heightOf b
  · rw [if_pos e, lexGt_lexC a b h]
    constructor
    · intro k; exact Or.inr ⟨e, k⟩
    · rintro (k | k)
      · omega
      · exact k.2
  · rw [if_neg e]
    simp [e]

/-- One root put in its place. -/
def putR (r : List Int) : List (List Int) → List (List Int)
  | [] => [r]
  | a :: t => if beforeR r a then r :: a :: t else a :: putR r t

theorem putR_perm (r : List Int) : ∀ L, (putR r L).Perm (r :: L)
  | [] => List.Perm.refl _
  | a :: t => by
    simp only [putR]
    split
    · exact List.Perm.refl _
    · exact ((putR_perm r t).cons a).trans (List.Perm.swap r a t)

theorem putR_sorted {n : Nat} {r : List Int} (hr : r.length = n) : ∀ {L : List (List Int)}, (∀ a ∈ L, a.length = n) → SortedR L → SortedR (putR r L)
  | [], _, _ => by simp [putR, SortedR]
  | a :: t, hn, hs => by
    have hs' := List.pairwise_cons.1 hs
    have hb := beforeR_cmpR (a := r) (b := a) (hr.trans (hn a (by simp)).symm)
    simp only [putR]
    split
    · rename_i h
      have hlt := hb.1 h
      refine List.pairwise_cons.2 ⟨fun b hb2 hlt2 => ?_, hs⟩
      have h3 := cmpR_neg r a
      rcases List.mem_cons.1 hb2 with rfl | hb2
      · omega
      · exact hs'.1 b hb2 (cmpR_trans hlt2 hlt)
    · rename_i h
      have hge : ¬ cmpR r a < 0 := fun k => h (hb.2 k)
      refine List.pairwise_cons.2 ⟨fun b hb2 => ?_, putR_sorted hr (fun x hx => hn x (by simp [hx])) hs'.2⟩
      rcases List.mem_cons.1 ((putR_perm r t).mem_iff.1 hb2) with rfl | hb2
      · exact hge
      · exact hs'.1 b hb2

def insR (L : List (List Int)) : List (List Int) := L.foldl (fun o r => putR r o) []

theorem insR_snoc (L : List (List Int)) (k : Nat) (hk : k < L.length) : insR (L.take (k + 1)) = putR (L.getD k []) (insR (L.take k)) := by
  rw [List.take_succ_eq_append_getElem hk]
  unfold insR
  rw [List.foldl_append]
  simp [List.getD, hk]

theorem insR_perm (L : List (List Int)) : (insR L).Perm L := by
  have main : ∀ (L o : List (List Int)), (L.foldl (fun o r => putR r o) o).Perm (o ++ L) := by
    intro L
    induction L with
    | nil => intro o; simp
    | cons r t ih =>
      intro o
      refine (ih _).trans ?_
      refine ((putR_perm r o).append_right t).trans ?_
      exact List.perm_middle.symm
  have := main L []
  rw [List.nil_append] at this
  exact this

theorem insR_sorted {n : Nat} (L : List (List Int)) (hn : ∀ a ∈ L, a.length = n) : SortedR (insR L) := by
  have main : ∀ (L o : List (List Int)), (∀ a ∈ L, a.length = n) → (∀ a ∈ o, a.length = n) → SortedR o → SortedR (L.foldl (fun o r => putR r o) o) := by
    intro L
    induction L with
    | nil => intro o _ _ h; exact h
    | cons r t ih =>
      intro o h1 h2 h3
      refine ih _ (fun a ha => h1 a (by simp [ha])) (fun a ha => ?_) (putR_sorted (h1 r (by simp)) h2 h3)
      rcases List.mem_cons.1 ((putR_perm r o).mem_iff.1 ha) with rfl | ha
      · exact h1 _ (by simp)
      · exact h2 a ha
  exact main L [] hn (by simp) List.Pairwise.nil

theorem insR_length (L : List (List Int)) : (insR L).length = L.length := (insR_perm L).length_eq

/-- What the sort leaves is what the insertions leave. -/
theorem sorted_insR {n : Nat} {L : List (List Int)} (hn : ∀ a ∈ L, a.length = n) {σ : List Nat} (hp : σ.Perm (List.range L.length)) (hs : σ.Pairwise (fun i j => ¬ cmpR (L.getD j []) (L.getD i []) < 0)) : σ.map (fun i => L.getD i []) = insR L := by
  refine sortedR_one (List.pairwise_map.2 hs) (insR_sorted L hn) ?_
  refine (hp.map _).trans (List.Perm.trans ?_ (insR_perm L).symm)
  have : (List.range L.length).map (fun i => L.getD i []) = L := by
    apply List.ext_getElem (by simp)
    intro i h1 h2
    simp [List.getD, h2]
  rw [this]

/-! ### Over rows -/

/-- A slice of slices: its own row is of number b or more, its parts lie in rows of which S holds. -/
def MatIn (b : Nat) (S : Nat → Prop) (h : Heap) (z : H0) (T : List (List Int)) : Prop := ∃ r ρ, z = .sl r 0 T.length ∧ b ≤ r ∧ (∀ i, i < T.length → S (ρ i)) ∧ MatAt h r ρ T

theorem MatIn.none (h : Heap) (S : Nat → Prop) : MatIn h.length S (h ++ [Row.own []]) (.sl h.length 0 0) [] :=
  ⟨h.length, fun _ => 0, rfl, Nat.le_refl _, fun i hi => by simp at hi, ⟨[], get_new _ _, Nat.le_refl _, fun i hi => by simp at hi⟩, fun i hi => by simp at hi, fun i hi => by simp at hi, fun i j _ hj => by simp at hj⟩

theorem MatAt.lt {h : Heap} {r : Nat} {ρ : Nat → Nat} {L : List (List Int)} (m : MatAt h r ρ L) : r < h.length ∧ ∀ i, i < L.length → ρ i < h.length :=
  ⟨by obtain ⟨cs, g, _⟩ := m.outer; exact get_lt g, fun i hi => by obtain ⟨t, g⟩ := m.inner i hi; exact get_lt g⟩

theorem MatAt.ext {h h' : Heap} {r : Nat} {ρ : Nat → Nat} {L : List (List Int)} (m : MatAt h r ρ L) (E : Ext h h') : MatAt h' r ρ L :=
  m.move (E.2 _ m.lt.1) (fun i hi => E.2 _ (m.lt.2 i hi))

theorem MatIn.weaken {b : Nat} {S S' : Nat → Prop} {h : Heap} {z : H0} {T : List (List Int)} (M : MatIn b S h z T) (k : ∀ q, q < h.length → S q → S' q) : MatIn b S' h z T := by
  obtain ⟨r, ρ, g1, g2, g3, m⟩ := M
  exact ⟨r, ρ, g1, g2, fun i hi => k _ (m.lt.2 i hi) (g3 i hi), m⟩

theorem MatIn.own {b c : Nat} {S : Nat → Prop} {h : Heap} {z : H0} {T : List (List Int)} (M : MatIn b S h z T) (hc : c ≤ b) (k : ∀ q, q < h.length → S q → c ≤ q) : OwnM c h.length h z T := by
  obtain ⟨r, ρ, g1, g2, g3, m⟩ := M
  exact ⟨r, ρ, g1, by omega, m.lt.1, fun i hi => ⟨k _ (m.lt.2 i hi) (g3 i hi), m.lt.2 i hi⟩, m⟩

/-- A slice of ints that is there, in a row of which S does not hold, appended to a slice of such slices. -/
theorem HApp.snocS {hb h h2 : Heap} {S : Nat → Prop} {z y : H0} {L : List (List Int)} {l : List Int} {q : Nat} {K : HV → Heap → Prop} (E : Ext hb h) (M : MatIn hb.length S h z L) (E2 : Ext h h2) (F : OwnR q h2 y l) (hq : ¬ S q) (hqr : q < hb.length ∨ h.length ≤ q) (hl : L.length < 2199023255552)
    (hK : ∀ h' z', Ext hb h' → h2.length ≤ h'.length → MatIn hb.length (fun x => S x ∨ x = q) h' z' (L ++ [l]) → K (.s z') h') : HApp (h2 ++ [.own [y]]) (.s z) (.s (.sl h2.length 0 1)) K := by
  have l1 := E.1
  have l2 := E2.1
  obtain ⟨r, ρ, rfl, hr1, hS, m⟩ := M
  obtain ⟨hr2, hρ⟩ := m.lt
  have hq2 := F.lt
  obtain ⟨t, rfl, hqo⟩ := F
  obtain ⟨cs, ho, hcl, hoc⟩ := m.outer
  refine ⟨[.sl q 0 l.length], ?_, by simp [H0.one], cs, rfl, (Ext.push h2 _).row (E2.row ho), hcl, Or.inl ⟨by simp; omega, ?_⟩⟩
  · have := Shows.own h2.length 0 1 _ (get_new h2 (.own [.sl q 0 l.length])) (by simp)
    simpa using this
  have e1 : L.length + [H0.sl q 0 l.length].length = (L ++ [l]).length := by simp
  rw [e1]
  have old : ∀ p, p < h2.length → p ≠ r → ((h2 ++ [Row.own [.sl q 0 l.length]]).set r .gone ++ [Row.own (cs.take L.length ++ [.sl q 0 l.length])])[p]? = h2[p]? := fun p hp hn => by
    rw [List.getElem?_append_left (by simp; omega), List.getElem?_set_ne (Ne.symm hn), List.getElem?_append_left hp]
  have gd1 : ∀ i, i < L.length → (L ++ [l]).getD i [] = L.getD i [] := fun i hi => by
    simp only [List.getD]
    rw [List.getElem?_append_left hi]
  have gd2 : (L ++ [l]).getD L.length [] = l := by simp [List.getD]
  have hE : Ext hb ((h2 ++ [Row.own [.sl q 0 l.length]]).set r .gone ++ [Row.own (cs.take L.length ++ [.sl q 0 l.length])]) := ((((E.trans E2).pushed _).set hr1 _).pushed _)
  have hlen : ((h2 ++ [Row.own [.sl q 0 l.length]]).set r .gone ++ [Row.own (cs.take L.length ++ [.sl q 0 l.length])]).length = h2.length + 2 := by simp
  have hqr2 : q ≠ r := by omega
  refine hK _ _ hE (by rw [hlen]; omega) ⟨h2.length + 1, fun i => if i < L.length then ρ i else q, by simp, by omega, fun i hi => ?_, ⟨cs.take L.length ++ [.sl q 0 l.length], ?_, by simp; omega, fun i hi => ?_⟩, fun i hi => ?_, fun i hi => ?_, fun i j hij hj => ?_⟩
  · by_cases hi2 : i < L.length
    · simp only [hi2, if_true]
      exact Or.inl (hS i hi2)
    · show S (if i < L.length then ρ i else q) ∨ (if i < L.length then ρ i else q) = q
      rw [if_neg hi2]
      exact Or.inr rfl
  · rw [List.getElem?_append_right (by simp)]
    simp
  · by_cases hi2 : i < L.length
    · rw [List.getElem?_append_left (by simp; omega), List.getElem?_take_of_lt hi2, hoc i hi2, gd1 i hi2]
      simp [hi2]
    · have e : i = L.length := by simp at hi; omega
      subst e
      rw [gd2, List.getElem?_append_right (by simp; omega)]
      have : L.length - (cs.take L.length).length = 0 := by simp; omega
      rw [this]
      simp
  · by_cases hi2 : i < L.length
    · obtain ⟨t2, ht2⟩ := m.inner i hi2
      have hb2 := hρ i hi2
      have hne := m.ne i hi2
      refine ⟨t2, ?_⟩
      rw [gd1 i hi2, if_pos hi2, old _ (by omega) hne]
      exact E2.row ht2
    · have e : i = L.length := by simp at hi; omega
      subst e
      refine ⟨t, ?_⟩
      rw [gd2, if_neg (by omega), old _ (by omega) (by omega)]
      exact hqo
  · by_cases hi2 : i < L.length
    · have := hρ i hi2
      simp only [hi2, if_true]
      omega
    · simp only [hi2, if_false]
      omega
  · have hj' : j ≤ L.length := by simp at hj; omega
    have hi2 : i < L.length := by omega
    by_cases hj2 : j < L.length
    · simp only [hi2, hj2, if_true]
      exact m.inj i j hij hj2
    · simp only [hi2, hj2, if_true, if_false]
      intro e
      exact hq (by rw [← e]; exact hS i hi2)

theorem MatAt.idx {h : Heap} {r : Nat} {ρ : Nat → Nat} {L : List (List Int)} (m : MatAt h r ρ L) {n : Nat} (h1 : n < L.length) {k : IntKind} {K : HV → Prop} (hK : ∀ p, At h p (.sl (ρ n) 0 (L.getD n []).length) → K (.s p)) :
    HIdx h (.s (.sl r 0 L.length)) (.s (.pl (.int k (n : Int)))) K := by
  obtain ⟨cs, g1, g2, g3⟩ := m.outer
  refine HIdx.sl (by omega) (by omega) (hK _ ⟨r, _, _, cs, rfl, g1, rfl, ?_⟩)
  rw [Int.toNat_natCast, Nat.zero_add]
  exact g3 n h1

theorem MatAt.inner' {h : Heap} {r : Nat} {ρ : Nat → Nat} {L : List (List Int)} (m : MatAt h r ρ L) {n : Nat} (h1 : n < L.length) : OwnR (ρ n) h (.sl (ρ n) 0 (L.getD n []).length) (L.getD n []) := by
  obtain ⟨t, ht⟩ := m.inner n h1
  exact ⟨t, rfl, ht⟩

theorem iEq' {a b : Int} (h : a = b) : I a = I b := by rw [h]

end Go.Proofs.YtgliajcgcbnemaaGreatDoor.Hx

namespace Go.Proofs.YtgliajcgcbnemaaGreatDoor.Hx
open Go.RowKit

/-! ### Words by length, then by letters -/

def cmpW (a b : List Int) : Int := if a.length < b.length then -1 else if b.length < a.length then 1 else lexC a b

def SortedW (L : List (List Int)) : Prop := L.Pairwise (fun a b => cmpW a b < 0)

/-- One word put in its place, unless it is there. -/
def putW (r : List Int) : List (List Int) → List (List Int)
  | [] => [r]
  | a :: t => if cmpW r a = 0 then a :: t else if cmpW r a < 0 then r :: a :: t else a :: putW r t

def insW (L : List (List Int)) : List (List Int) := L.foldl (fun o r => putW r o) []

/-! ### All reduced words -/

def spellW (c : List (List Int)) : Nat → List Int → List (List Int)
  | 0, _ => [[]]
  | n + 1, v => (descs v v.length).flatMap fun i => (spellW c n (reflW c i.toNat v)).map (i :: ·)

theorem nodup_le : ∀ {A B : List (List Int)}, A.Nodup → (∀ x ∈ A, x ∈ B) → A.length ≤ B.length
  | [], _, _, _ => by simp
  | a :: A, B, hn, h => by
    have hn' := List.nodup_cons.1 hn
    have ha := h a (by simp)
    have ih := nodup_le (A := A) (B := B.erase a) hn'.2 fun x hx => (List.mem_erase_of_ne (fun e => hn'.1 (by rw [← e]; exact hx))).2 (h x (by simp [hx]))
    have hl := List.length_erase_of_mem ha
    have hp : 0 < B.length := List.length_pos_of_mem ha
    simp only [List.length_cons]
    omega

/-- What a search by braid moves has found so far. -/
structure Found (c : List (List Int)) (n : Nat) (v x : List Int) (Q : List (List Int)) : Prop where
  red : ∀ q ∈ Q, Red c n v q
  nodup : Q.Nodup
  head : x ∈ Q

/-! ### The answer -/

def redAll (c : List (List Int)) (w : List Int) : List (List Int) := spellW c (normF c w).length (imageOf c w)
def redOk (c : List (List Int)) (w : List Int) : Bool := isWord c w && decide ((redAll c w).length ≤ 120)
def reducedWords (c : List (List Int)) (w : List Int) : List (List Int) := if redOk c w then redAll c w else []

theorem normF_red {c : List (List Int)} {w : List Int} (h : isWord c w = true) : PlayL c (normF c w).length (imageOf c w) ∧ (normF c w).length ≤ 15 ∧ Red c (normF c w).length (imageOf c w) (normF c w) := by
  obtain ⟨hC, hl, hw⟩ := word_cartan h
  obtain ⟨n, hn, P⟩ := play_image hC hw (by omega)
  have e : (normF c w).length = n := nf_len hC n _ 31 P (by omega) (by omega)
  refine ⟨by rw [e]; exact P, by omega, rfl, normF_letters hC hw (by omega), normF_image hC hw (by omega)⟩

end Go.Proofs.YtgliajcgcbnemaaGreatDoor.Hx
