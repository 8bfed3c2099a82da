/-
  Contracts of lengths, normal forms, elements, inverses and products, of the program and of the reference.
  Contracts of bonds, alternating words and braid moves, of the program and of the reference.
  Reduced words on lists: braid moves keep the element and join all its reduced words; the list of all of them in the order of letters. Plain theory.
  Words as maps of all places: the exchange of a letter, the deletion of two letters, and that the image of rho tells the map. Plain theory.
  Contracts of small functions over one slice of ints: SignOf, HeightOf, SquareFree, RootSign, each as the program has it and as the reference has it.
  The order of roots (by height, then by the first number that differs, greater ones first), sorted lists of roots, and slices of slices that grow by rows that are there already. Plain, and over rows.
  The list of all reduced words in the order of letters, and what a search by braid moves finds. Plain theory.
-/
import Derived.Test.YtgliajcgcbnemaaGreatDoorZ11
namespace Go.Proofs.YtgliajcgcbnemaaGreatDoor.Hx
open Go.RowKit
variable {dm : Bool}

def normalForm (c : List (List Int)) (w : List Int) : List Int := if isWord c w then normF c w else []
def lengthI (c : List (List Int)) (w : List Int) : Int := if isWord c w then ((normF c w).length : Int) else -1
def isReduced (c : List (List Int)) (w : List Int) : Bool := isWord c w && decide ((normF c w).length = w.length)
def isElement (c : List (List Int)) (w : List Int) : Bool := isWord c w && decide (normF c w = w)
def mulOk (c : List (List Int)) (a b : List Int) : Bool := isWord c a && isWord c b && decide ((normF c (a ++ b)).length ≤ 15)
def mul (c : List (List Int)) (a b : List Int) : List Int := if mulOk c a b then normF c (a ++ b) else []
def conjOk (c : List (List Int)) (w b : List Int) : Bool := mulOk c b.reverse w && mulOk c (mul c b.reverse w) b
def conj (c : List (List Int)) (w b : List Int) : List Int := if conjOk c w b then mul c (mul c b.reverse w) b else []
def isInvol (c : List (List Int)) (w : List Int) : Bool := isWord c w && decide (0 < (normF c w).length) && decide (imageOf c w = imageOf c w.reverse)

theorem actW_app (c : List (List Int)) : ∀ (a b v : List Int), actW c (a ++ b) v = actW c a (actW c b v)
  | [], _, _ => rfl
  | i :: a, b, v => by rw [List.cons_append, actW, actW, actW_app c a b v]
/-- A slice and a Bool. -/
abbrev T2 (y : H0) (b : Bool) : HV := .tup [y, .pl (.bool b)]


end Go.Proofs.YtgliajcgcbnemaaGreatDoor.Hx

namespace Go.Proofs.YtgliajcgcbnemaaGreatDoor.Hx
open Go.RowKit
variable {dm : Bool}

def bondN (p : Int) : Int := if p = 0 then 2 else if p = 1 then 3 else if p = 2 then 4 else if p = 3 then 6 else 0
def bond (c : List (List Int)) (i j : Int) : Int := if isCartan c && isPoint c i && isPoint c j then (if i = j then 1 else bondN (w64 (ent c i.toNat j.toNat * ent c j.toNat i.toNat))) else -1
theorem bond_off {c : List (List Int)} {i j : Int} (h : isCartan c = false ∨ isPoint c i = false ∨ isPoint c j = false) : bond c i j = -1 := by
  rcases h with h | h | h <;> simp [bond, h]
theorem bond_eq {c : List (List Int)} {i j : Int} (h1 : isCartan c = true) (h2 : isPoint c i = true) (h3 : isPoint c j = true) (h : i = j) : bond c i j = 1 := by
  have h4 : isPoint c j = true := h3
  subst h
  simp [bond, h1, h2]
theorem bond_ne {c : List (List Int)} {i j : Int} (h1 : isCartan c = true) (h2 : isPoint c i = true) (h3 : isPoint c j = true) (h : i ≠ j) : bond c i j = bondN (w64 (ent c i.toNat j.toNat * ent c j.toNat i.toNat)) := by simp [bond, h1, h2, h3, h]
/-- Two letters in turn. -/
def altTo (i j : Int) (k : Nat) : List Int := (List.range k).map fun t => if t % 2 = 0 then i else j
def alt (i j n : Int) : List Int := altTo i j (min n.toNat 15)
theorem altTo_len (i j : Int) (k : Nat) : (altTo i j k).length = k := by simp [altTo]
theorem altTo_none (i j : Int) : altTo i j 0 = [] := rfl
/-- A braid move can be made at place k; it is made. -/
def brM (c : List (List Int)) (w : List Int) (k : Nat) : Nat := (bond c (w.getD k 0) (w.getD (k + 1) 0)).toNat
def brN (c : List (List Int)) (w : List Int) (k : Nat) : Bool :=
  decide (w.getD k 0 ≠ w.getD (k + 1) 0) && decide (2 ≤ bond c (w.getD k 0) (w.getD (k + 1) 0)) && decide (k + brM c w k ≤ w.length) &&
    decide ((w.take (k + brM c w k)).drop k = alt (w.getD k 0) (w.getD (k + 1) 0) (brM c w k))
def brW (c : List (List Int)) (w : List Int) (k : Nat) : List Int := w.take k ++ (alt (w.getD (k + 1) 0) (w.getD k 0) (brM c w k) ++ w.drop (k + brM c w k))
def brOk (c : List (List Int)) (w : List Int) (n : Int) : Bool := isWord c w && (decide (0 ≤ n) && decide (n ≤ (w.length : Int) - 2)) && brN c w n.toNat
def braid (c : List (List Int)) (w : List Int) (n : Int) : List Int := if brOk c w n then brW c w n.toNat else w

end Go.Proofs.YtgliajcgcbnemaaGreatDoor.Hx

namespace Go.Proofs.YtgliajcgcbnemaaGreatDoor.Hx
open Go.RowKit

/-- Letters applied to a place. -/
def actS (c : Nat → Nat → Int) : List Int → Pos → Pos
  | [], v => v
  | i :: w, v => sr c i.toNat (actS c w v)

theorem actS_app (c : Nat → Nat → Int) : ∀ (a b : List Int) (v : Pos), actS c (a ++ b) v = actS c a (actS c b v)
  | [], _, _ => rfl
  | i :: a, b, v => by
    show sr c i.toNat (actS c (a ++ b) v) = sr c i.toNat (actS c a (actS c b v))
    rw [actS_app c a b v]

theorem altTo_cons (i j : Int) (k : Nat) : altTo i j (k + 1) = i :: altTo j i k := by
  unfold altTo
  rw [List.range_succ_eq_map, List.map_cons, List.map_map]
  have e0 : (if 0 % 2 = 0 then i else j) = i := rfl
  rw [e0]
  refine congrArg (List.cons i) (List.map_congr_left fun t _ => ?_)
  show (if (t + 1) % 2 = 0 then i else j) = if t % 2 = 0 then j else i
  by_cases h : t % 2 = 0
  · rw [if_neg (by omega), if_pos h]
  · rw [if_pos (by omega), if_neg h]

theorem actS_alt (c : Nat → Nat → Int) : ∀ (m : Nat) (i j : Int) (v : Pos), actS c (altTo i j m) v = altS c i.toNat j.toNat m v
  | 0, _, _, _ => rfl
  | m + 1, i, j, v => by
    rw [altTo_cons]
    show sr c i.toNat (actS c (altTo j i m) v) = sr c i.toNat (altS c j.toNat i.toNat m v)
    rw [actS_alt c m j i v]

theorem letters_app {c : List (List Int)} {a b : List Int} : lettersOk c (a ++ b) = true ↔ lettersOk c a = true ∧ lettersOk c b = true := by
  simp [lettersOk, List.all_append]
theorem letters_cons {c : List (List Int)} {i : Int} {w : List Int} : lettersOk c (i :: w) = true ↔ isPoint c i = true ∧ lettersOk c w = true := by
  simp [lettersOk]
theorem letters_alt {c : List (List Int)} {i j : Int} (hi : isPoint c i = true) (hj : isPoint c j = true) (m : Nat) : lettersOk c (altTo i j m) = true := by
  refine List.all_eq_true.2 fun x hx => ?_
  obtain ⟨t, _, rfl⟩ := List.mem_map.1 hx
  by_cases h : t % 2 = 0
  · rw [if_pos h]; exact hi
  · rw [if_neg h]; exact hj

theorem play_actL {c : List (List Int)} (hC : Cartan c) : ∀ (w : List Int) {n : Nat} {u : List Int}, lettersOk c w = true → PlayL c n u → n + w.length ≤ 31 → ∃ m, m ≤ n + w.length ∧ PlayL c m (actW c w u) ∧ posOf (actW c w u) = actS (ent c) w (posOf u)
  | [], n, u, _, P, _ => ⟨n, Nat.le_refl _, P, rfl⟩
  | i :: w, n, u, h, P, hl => by
    obtain ⟨h1, h2⟩ := letters_cons.1 h
    have hi := point_of h1
    simp only [List.length_cons] at hl
    obtain ⟨m, h3, P3, e⟩ := play_actL hC w h2 P (by omega)
    obtain ⟨m', h4, P4⟩ := P3.any hC (by omega) (i := i.toNat) (by omega)
    refine ⟨m', by simp only [List.length_cons]; omega, P4, ?_⟩
    show posOf (reflW c i.toNat (actW c w u)) = sr (ent c) i.toNat (actS (ent c) w (posOf u))
    rw [pos_refl hC P3 (by omega) (by omega), e]

/-- What a bond of two or more tells. -/
theorem bond_info {c : List (List Int)} {i j : Int} {m : Nat} (h : bond c i j = m) (h2 : 2 ≤ m) : Cartan c ∧ isPoint c i = true ∧ isPoint c j = true ∧ i ≠ j ∧ m = bondP (ent c i.toNat j.toNat * ent c j.toNat i.toNat) := by
  cases h1 : isCartan c
  · rw [bond_off (Or.inl h1)] at h; omega
  cases h3 : isPoint c i
  · rw [bond_off (Or.inr (Or.inl h3))] at h; omega
  cases h4 : isPoint c j
  · rw [bond_off (Or.inr (Or.inr h4))] at h; omega
  by_cases hij : i = j
  · rw [bond_eq h1 h3 h4 hij] at h; omega
  have hC := (isCartan_iff c).1 h1
  refine ⟨hC, rfl, rfl, hij, ?_⟩
  rw [bond_ne h1 h3 h4 hij] at h
  have p1 := point_of h3
  have p2 := point_of h4
  have o1 := (matOk hC).off i.toNat j.toNat (by omega) (by omega) (by omega)
  have o2 := (matOk hC).off j.toNat i.toNat (by omega) (by omega) (by omega)
  generalize ent c i.toNat j.toNat = x at *
  generalize ent c j.toNat i.toNat = y at *
  have e1 : x = 0 ∨ x = -1 ∨ x = -2 ∨ x = -3 := by omega
  have e2 : y = 0 ∨ y = -1 ∨ y = -2 ∨ y = -3 := by omega
  rcases e1 with rfl | rfl | rfl | rfl <;> rcases e2 with rfl | rfl | rfl | rfl <;>
    (rw [w64_in (by decide) (by decide)] at h; simp only [bondN, bondP] at h ⊢; simp at h ⊢; omega)

theorem bond_of_pos {c : List (List Int)} (hC : Cartan c) {i j : Int} (hi : isPoint c i = true) (hj : isPoint c j = true) (hij : i ≠ j) : bond c i j = bondP (ent c i.toNat j.toNat * ent c j.toNat i.toNat) := by
  rw [bond_ne ((isCartan_iff c).2 hC) hi hj hij]
  have p1 := point_of hi
  have p2 := point_of hj
  have o1 := (matOk hC).off i.toNat j.toNat (by omega) (by omega) (by omega)
  have o2 := (matOk hC).off j.toNat i.toNat (by omega) (by omega) (by omega)
  generalize ent c i.toNat j.toNat = x at *
  generalize ent c j.toNat i.toNat = y at *
  have e1 : x = 0 ∨ x = -1 ∨ x = -2 ∨ x = -3 := by omega
  have e2 : y = 0 ∨ y = -1 ∨ y = -2 ∨ y = -3 := by omega
  rcases e1 with rfl | rfl | rfl | rfl <;> rcases e2 with rfl | rfl | rfl | rfl <;>
    (rw [w64_in (by decide) (by decide)]; simp only [bondN, bondP]; simp)

theorem sr_off {c : List (List Int)} {i k : Nat} (h : c.length ≤ k) (v : Pos) : sr (ent c) i v k = v k := by
  unfold sr
  rw [ent_off h]
  simp
theorem altS_off {c : List (List Int)} {k : Nat} (h : c.length ≤ k) : ∀ (m i j : Nat) (v : Pos), altS (ent c) i j m v k = v k
  | 0, _, _, _ => rfl
  | m + 1, i, j, v => by
    show sr (ent c) i (altS (ent c) j i m v) k = v k
    rw [sr_off h, altS_off h m j i v]

theorem list_of_pos (N : Nat) (f : Pos) (h : ∀ k, N ≤ k → f k = 0) : ∃ u : List Int, u.length = N ∧ posOf u = f := by
  refine ⟨(List.range N).map f, by simp, funext fun k => ?_⟩
  by_cases hk : k < N
  · simp [posOf, List.getD, hk]
  · rw [h k (by omega)]
    simp [posOf, List.getD, show N ≤ k by omega]

theorem two_words {c : List (List Int)} (hC : Cartan c) {n : Nat} {v : List Int} (P : PlayL c n v) (hn : n ≤ 30) {i j : Int} (hi : isPoint c i = true) (hj : isPoint c j = true) (hij : i ≠ j) (ha : v.getD i.toNat 0 < 0) (hb : v.getD j.toNat 0 < 0) :
    ∃ (m k : Nat) (u : List Int), bond c i j = m ∧ 2 ≤ m ∧ n = k + m ∧ PlayL c k u ∧ v = actW c (altTo i j m) u ∧ v = actW c (altTo j i m) u := by
  have p1 := point_of hi
  have p2 := point_of hj
  obtain ⟨h2, k, u0, hk, Q, e1, e2⟩ := play_two (matOk hC) (i := i.toNat) (j := j.toNat) (by omega) (by omega) (by omega) P.2 ha hb
  obtain ⟨u, hul, hu⟩ := list_of_pos c.length u0 fun q hq => by
    have := congrFun e1 q
    rw [altS_off hq] at this
    rw [← this]
    have hv : v.length ≤ q := by rw [P.1]; exact hq
    simp [posOf, List.getD, hv]
  have PQ : PlayL c k u := ⟨hul, by rw [hu]; exact Q⟩
  refine ⟨_, k, u, bond_of_pos hC hi hj hij, h2, hk, PQ, ?_, ?_⟩
  · apply posOf_inj (by rw [actW_length, P.1, hul])
    obtain ⟨_, _, _, e⟩ := play_actL hC (altTo i j (bondP (ent c i.toNat j.toNat * ent c j.toNat i.toNat))) (letters_alt hi hj _) PQ (by rw [altTo_len]; omega)
    rw [e, actS_alt, hu]
    exact e1
  · apply posOf_inj (by rw [actW_length, P.1, hul])
    obtain ⟨_, _, _, e⟩ := play_actL hC (altTo j i (bondP (ent c i.toNat j.toNat * ent c j.toNat i.toNat))) (letters_alt hj hi _) PQ (by rw [altTo_len]; omega)
    rw [e, actS_alt, hu]
    exact e2

/-- A reduced word of an element that is told by its image. -/
def Red (c : List (List Int)) (n : Nat) (v w : List Int) : Prop := w.length = n ∧ lettersOk c w = true ∧ imageOf c w = v

theorem play_unique {c : List (List Int)} (hC : Cartan c) {n m : Nat} {v : List Int} (P : PlayL c n v) (Q : PlayL c m v) (hn : n ≤ 30) (hm : m ≤ 30) : n = m := by
  rw [← nf_len hC n v 30 P hn hn, nf_len hC m v 30 Q hm hm]

theorem imageW_cons (c : List (List Int)) (i : Int) (w : List Int) : imageOf c (i :: w) = reflW c i.toNat (imageOf c w) := rfl

theorem Red.tail {c : List (List Int)} (hC : Cartan c) {n : Nat} {v w : List Int} {i : Int} (P : PlayL c (n + 1) v) (hn : n + 1 ≤ 29) (R : Red c (n + 1) v (i :: w)) :
    isPoint c i = true ∧ v.getD i.toNat 0 < 0 ∧ PlayL c n (reflW c i.toNat v) ∧ Red c n (reflW c i.toNat v) w := by
  obtain ⟨h1, h2, h3⟩ := R
  obtain ⟨hi, hw⟩ := letters_cons.1 h2
  have p1 := point_of hi
  have hwl : w.length = n := by simpa using h1
  have hin : i.toNat < c.length := by omega
  obtain ⟨m, hm, Q⟩ := play_image hC hw (by omega)
  rw [imageW_cons] at h3
  have hback : reflW c i.toNat v = imageOf c w := by
    rw [← h3]
    exact reflW_twice hC Q (by omega) hin (by rw [h3]; exact P) (by omega)
  have hneg : v.getD i.toNat 0 < 0 := by
    have hne := P.ne hC hin
    have hne2 := Q.ne hC hin
    have hs : v.getD i.toNat 0 = - (imageOf c w).getD i.toNat 0 := by
      have := congrFun (pos_refl hC Q (by omega) hin) i.toNat
      rw [h3, sr_at ((matOk hC).diag _ hin)] at this
      exact this
    by_cases hlt : (imageOf c w).getD i.toNat 0 < 0
    · obtain ⟨m', e, Q'⟩ := Q.down hC (by omega) hin hlt
      rw [h3] at Q'
      have := play_unique hC P Q' (by omega) (by omega)
      omega
    · omega
  obtain ⟨n', e, P'⟩ := P.down hC (by omega) hin hneg
  have : n' = n := by omega
  subst this
  exact ⟨hi, hneg, P', hwl, hw, hback.symm⟩

theorem Red.cons {c : List (List Int)} (hC : Cartan c) {n : Nat} {v w : List Int} {i : Int} (P : PlayL c (n + 1) v) (hn : n + 1 ≤ 30) (hi : isPoint c i = true) (h : v.getD i.toNat 0 < 0) (R : Red c n (reflW c i.toNat v) w) : Red c (n + 1) v (i :: w) := by
  have p1 := point_of hi
  have hin : i.toNat < c.length := by omega
  obtain ⟨m, e, Q⟩ := P.down hC hn hin h
  obtain ⟨h1, h2, h3⟩ := R
  refine ⟨by simp [h1], letters_cons.2 ⟨hi, h2⟩, ?_⟩
  rw [imageW_cons, h3]
  exact reflW_twice hC P hn hin Q (by omega)

/-- A braid move, and what braid moves join. -/
inductive Br (c : List (List Int)) : List Int → List Int → Prop
  | mk (p : List Int) (i j : Int) (m : Nat) (q : List Int) (hb : bond c i j = m) (h2 : 2 ≤ m) : Br c (p ++ (altTo i j m ++ q)) (p ++ (altTo j i m ++ q))

inductive Conn (c : List (List Int)) : List Int → List Int → Prop
  | refl (a : List Int) : Conn c a a
  | tail {a b d : List Int} (h : Conn c a b) (s : Br c b d) : Conn c a d

theorem Br.cons {c : List (List Int)} {a b : List Int} (x : Int) (h : Br c a b) : Br c (x :: a) (x :: b) := by
  cases h with
  | mk p i j m q hb h2 => exact .mk (x :: p) i j m q hb h2
theorem Conn.trans {c : List (List Int)} {a b d : List Int} (h : Conn c a b) (k : Conn c b d) : Conn c a d := by
  induction k with
  | refl => exact h
  | tail _ s ih => exact ih.tail s
theorem Conn.one {c : List (List Int)} {a b : List Int} (h : Br c a b) : Conn c a b := (Conn.refl a).tail h
theorem Conn.cons {c : List (List Int)} {a b : List Int} (x : Int) (h : Conn c a b) : Conn c (x :: a) (x :: b) := by
  induction h with
  | refl => exact .refl _
  | tail _ s ih => exact ih.tail (s.cons x)

theorem Br.length {c : List (List Int)} {a b : List Int} (h : Br c a b) : b.length = a.length := by
  cases h with
  | mk p i j m q hb h2 => simp [altTo_len]

theorem image_pos {c : List (List Int)} (hC : Cartan c) {w : List Int} (h : lettersOk c w = true) (hl : w.length ≤ 31) : posOf (imageOf c w) = actS (ent c) w (posOf (List.replicate c.length 1)) := by
  obtain ⟨_, _, _, e⟩ := play_actL hC w h (PlayL.ones c) (by omega)
  exact e

/-- All reduced words of an element are joined by braid moves. -/
theorem conn_all {c : List (List Int)} (hC : Cartan c) : ∀ (n : Nat) (v : List Int), PlayL c n v → n ≤ 29 → ∀ a b, Red c n v a → Red c n v b → Conn c a b
  | 0, v, P, hn, a, b, ha, hb => by
    have e1 : a = [] := List.eq_nil_of_length_eq_zero ha.1
    have e2 : b = [] := List.eq_nil_of_length_eq_zero hb.1
    rw [e1, e2]
    exact .refl _
  | n + 1, v, P, hn, a, b, ha, hb => by
    cases a with
    | nil => have := ha.1; simp at this
    | cons i a =>
      cases b with
      | nil => have := hb.1; simp at this
      | cons j b =>
        obtain ⟨hi, ni, Pi, Ri⟩ := ha.tail hC P hn
        obtain ⟨hj, nj, Pj, Rj⟩ := hb.tail hC P hn
        by_cases hij : i = j
        · subst hij
          exact (conn_all hC n _ Pi (by omega) a b Ri Rj).cons i
        · obtain ⟨m, k, u, hbd, h2, hk, Q, e1, e2⟩ := two_words hC P (by omega) hi hj hij ni nj
          have hz1 := nf_len hC k u 30 Q (by omega) (by omega)
          have hz2 := nf_letters hC k u 30 Q (by omega) (by omega)
          have hz3 := nf_image hC k u 30 Q (by omega) (by omega)
          generalize nf c 30 u = z at hz1 hz2 hz3
          obtain ⟨m', rfl⟩ : ∃ m', m = m' + 1 := ⟨m - 1, by omega⟩
          have RA : Red c (n + 1) v (altTo i j (m' + 1) ++ z) := ⟨by rw [List.length_append, altTo_len]; omega, letters_app.2 ⟨letters_alt hi hj _, hz2⟩, by rw [imageOf, actW_app, e1]; exact congrArg _ hz3⟩
          have RB : Red c (n + 1) v (altTo j i (m' + 1) ++ z) := ⟨by rw [List.length_append, altTo_len]; omega, letters_app.2 ⟨letters_alt hj hi _, hz2⟩, by rw [imageOf, actW_app, e2]; exact congrArg _ hz3⟩
          have hAB : Conn c (altTo i j (m' + 1) ++ z) (altTo j i (m' + 1) ++ z) := Conn.one (.mk [] i j (m' + 1) z hbd h2)
          rw [altTo_cons, List.cons_append] at RA hAB
          rw [altTo_cons, List.cons_append] at RB hAB
          obtain ⟨_, _, _, RA'⟩ := RA.tail hC P hn
          obtain ⟨_, _, _, RB'⟩ := RB.tail hC P hn
          exact ((conn_all hC n _ Pi (by omega) a _ Ri RA').cons i).trans (hAB.trans ((conn_all hC n _ Pj (by omega) _ b RB' Rj).cons j))

/-! ### The program's braid moves -/

end Go.Proofs.YtgliajcgcbnemaaGreatDoor.Hx

namespace Go.Proofs.YtgliajcgcbnemaaGreatDoor.Hx
open Go.RowKit

/-- Two words do the same to every place. -/
def Lin (c : List (List Int)) (a b : List Int) : Prop := ∀ v : Pos, actS (ent c) a v = actS (ent c) b v

theorem Lin.refl (c : List (List Int)) (a : List Int) : Lin c a a := fun _ => rfl
theorem Lin.symm {c : List (List Int)} {a b : List Int} (h : Lin c a b) : Lin c b a := fun v => (h v).symm
theorem Lin.trans {c : List (List Int)} {a b d : List Int} (h : Lin c a b) (k : Lin c b d) : Lin c a d := fun v => (h v).trans (k v)
theorem Lin.app {c : List (List Int)} {a b a' b' : List Int} (h : Lin c a b) (k : Lin c a' b') : Lin c (a ++ a') (b ++ b') := fun v => by rw [actS_app, actS_app, k v, h]
theorem Lin.cons {c : List (List Int)} {a b : List Int} (i : Int) (h : Lin c a b) : Lin c (i :: a) (i :: b) := Lin.app (Lin.refl c [i]) h

theorem Br.lin {c : List (List Int)} {a b : List Int} (h : Br c a b) : Lin c a b := by
  cases h with
  | mk p i j m q hb h2 =>
    obtain ⟨hC, hi, hj, hij, e⟩ := bond_info hb h2
    have p1 := point_of hi
    have p2 := point_of hj
    refine Lin.app (Lin.refl c p) (Lin.app (fun v => ?_) (Lin.refl c q))
    rw [actS_alt, actS_alt, e, alt_rel (matOk hC) (i := i.toNat) (j := j.toNat) (by omega) (by omega) (by omega)]

theorem Conn.lin {c : List (List Int)} {a b : List Int} (h : Conn c a b) : Lin c a b := by
  induction h with
  | refl => exact Lin.refl c _
  | tail _ s ih => exact ih.trans s.lin
theorem twice {c : List (List Int)} (hC : Cartan c) {i : Int} (hi : isPoint c i = true) (w : List Int) : Lin c (i :: i :: w) w := fun v => by
  have p1 := point_of hi
  exact sr_sr ((matOk hC).diag i.toNat (by omega)) _

theorem bondP_cases {p : Int} (h : 2 ≤ bondP p) : bondP p = 2 ∨ bondP p = 3 ∨ bondP p = 4 ∨ bondP p = 6 := by
  unfold bondP at h ⊢
  split
  · exact Or.inl rfl
  · split
    · exact Or.inr (Or.inl rfl)
    · split
      · exact Or.inr (Or.inr (Or.inl rfl))
      · split
        · exact Or.inr (Or.inr (Or.inr rfl))
        · rename_i h1 h2 h3 h4
          rw [if_neg h1, if_neg h2, if_neg h3, if_neg h4] at h
          omega

/-- A letter less of one row of turns is a letter less of the other. -/
theorem alt_erase {c : List (List Int)} (hC : Cartan c) {i j : Int} (hi : isPoint c i = true) (hj : isPoint c j = true) {m : Nat} (hm : m = 2 ∨ m = 3 ∨ m = 4 ∨ m = 6) {k : Nat} (hk : k < m) :
    Lin c ((altTo i j m).eraseIdx k) ((altTo j i m).eraseIdx (m - 1 - k)) := by
  have p1 := point_of hi
  have p2 := point_of hj
  have d1 : ∀ v, sr (ent c) i.toNat (sr (ent c) i.toNat v) = v := sr_sr ((matOk hC).diag i.toNat (by omega))
  have d2 : ∀ v, sr (ent c) j.toNat (sr (ent c) j.toNat v) = v := sr_sr ((matOk hC).diag j.toNat (by omega))
  intro v
  rcases hm with rfl | rfl | rfl | rfl
  · have e : k = 0 ∨ k = 1 := by omega
    rcases e with rfl | rfl <;> rfl
  · have e : k = 0 ∨ k = 1 ∨ k = 2 := by omega
    rcases e with rfl | rfl | rfl
    · rfl
    · show sr (ent c) i.toNat (sr (ent c) i.toNat v) = sr (ent c) j.toNat (sr (ent c) j.toNat v)
      rw [d1, d2]
    · rfl
  · have e : k = 0 ∨ k = 1 ∨ k = 2 ∨ k = 3 := by omega
    rcases e with rfl | rfl | rfl | rfl
    · rfl
    · show sr (ent c) i.toNat (sr (ent c) i.toNat (sr (ent c) j.toNat v)) = sr (ent c) j.toNat (sr (ent c) i.toNat (sr (ent c) i.toNat v))
      rw [d1, d1]
    · show sr (ent c) i.toNat (sr (ent c) j.toNat (sr (ent c) j.toNat v)) = sr (ent c) j.toNat (sr (ent c) j.toNat (sr (ent c) i.toNat v))
      rw [d2, d2]
    · rfl
  · have e : k = 0 ∨ k = 1 ∨ k = 2 ∨ k = 3 ∨ k = 4 ∨ k = 5 := by omega
    have u : ∀ (m : Nat) (x y : Int), altTo x y (m + 1) = x :: altTo y x m := fun m x y => altTo_cons x y m
    rcases e with rfl | rfl | rfl | rfl | rfl | rfl <;> simp only [u, altTo_none, List.eraseIdx, actS, d1, d2] <;> try rfl

/-- One letter of w can be left out for letter i put ahead. -/
def Exch (c : List (List Int)) (i : Int) (w : List Int) : Prop := ∃ k, k < w.length ∧ Lin c (w.eraseIdx k) (i :: w)

theorem Exch.br {c : List (List Int)} {a b : List Int} {i : Int} (h : Br c a b) (H : Exch c i a) : Exch c i b := by
  have hl := h.lin
  have hbr := h.length
  obtain ⟨k, hk, e⟩ := H
  cases h with
  | mk p s t m q hb h2 =>
    obtain ⟨hC, hs, ht, hst, em⟩ := bond_info hb h2
    have p1 := point_of hs
    have p2 := point_of ht
    have halt : Lin c (altTo s t m) (altTo t s m) := fun v => by
      rw [actS_alt, actS_alt, em, alt_rel (matOk hC) (i := s.toNat) (j := t.toNat) (by omega) (by omega) (by omega)]
    have l1 : (altTo s t m).length = m := altTo_len s t m
    have l2 : (altTo t s m).length = m := altTo_len t s m
    by_cases h1 : k < p.length
    · refine ⟨k, by rw [hbr]; exact hk, ?_⟩
      rw [List.eraseIdx_append_of_lt_length h1] at e ⊢
      exact (Lin.app (Lin.refl c _) (Lin.app halt.symm (Lin.refl c q))).trans (e.trans (hl.cons i))
    · rw [List.eraseIdx_append_of_length_le (by omega)] at e
      by_cases h3 : k - p.length < m
      · rw [List.eraseIdx_append_of_lt_length (by omega)] at e
        refine ⟨p.length + (m - 1 - (k - p.length)), by simp [l2]; omega, ?_⟩
        rw [List.eraseIdx_append_of_length_le (by omega), Nat.add_sub_cancel_left, List.eraseIdx_append_of_lt_length (by omega)]
        have hal := alt_erase hC hs ht (m := m) (k := k - p.length) (by rw [em]; exact bondP_cases (by omega)) h3
        exact (Lin.app (Lin.refl c p) (Lin.app hal.symm (Lin.refl c q))).trans (e.trans (hl.cons i))
      · rw [List.eraseIdx_append_of_length_le (by omega)] at e
        refine ⟨k, by rw [hbr]; exact hk, ?_⟩
        rw [List.eraseIdx_append_of_length_le (by omega), List.eraseIdx_append_of_length_le (by omega), l2]
        rw [l1] at e
        exact (Lin.app (Lin.refl c p) (Lin.app halt.symm (Lin.refl c _))).trans (e.trans (hl.cons i))

theorem Exch.conn {c : List (List Int)} {a b : List Int} {i : Int} (h : Conn c a b) (H : Exch c i a) : Exch c i b := by
  induction h with
  | refl => exact H
  | tail _ s ih => exact ih.br s

/-- The exchange of a letter. -/
theorem exchange {c : List (List Int)} (hC : Cartan c) {n : Nat} {v w : List Int} (P : PlayL c n v) (hn : n ≤ 29) (R : Red c n v w) {i : Int} (hi : isPoint c i = true) (h : v.getD i.toNat 0 < 0) : Exch c i w := by
  have p1 := point_of hi
  obtain ⟨m, rfl, Q⟩ := P.down hC (by omega) (i := i.toNat) (by omega) h
  have Rz : Red c m (reflW c i.toNat v) (nf c 30 (reflW c i.toNat v)) := ⟨nf_len hC m _ 30 Q (by omega) (by omega), nf_letters hC m _ 30 Q (by omega) (by omega), nf_image hC m _ 30 Q (by omega) (by omega)⟩
  have Ri := Red.cons hC P (by omega) hi h Rz
  refine Exch.conn (conn_all hC (m + 1) v P hn _ w Ri R) ⟨0, by simp, ?_⟩
  exact (twice hC hi _).symm

theorem lin_image {c : List (List Int)} (hC : Cartan c) {a b : List Int} (h : Lin c a b) (ha : lettersOk c a = true) (hb : lettersOk c b = true) (hla : a.length ≤ 31) (hlb : b.length ≤ 31) : imageOf c a = imageOf c b := by
  apply posOf_inj (by rw [imageOf_length, imageOf_length])
  rw [image_pos hC ha hla, image_pos hC hb hlb]
  exact h _

theorem letters_erase {c : List (List Int)} {w : List Int} (h : lettersOk c w = true) (k : Nat) : lettersOk c (w.eraseIdx k) = true :=
  List.all_eq_true.2 fun x hx => List.all_eq_true.1 h x (List.mem_of_mem_eraseIdx hx)

/-- The deletion of two letters. -/
theorem deletion {c : List (List Int)} (hC : Cartan c) : ∀ (w : List Int) (n : Nat), lettersOk c w = true → w.length ≤ 29 → PlayL c n (imageOf c w) → n < w.length →
    ∃ a b, a < b ∧ b < w.length ∧ Lin c ((w.eraseIdx b).eraseIdx a) w
  | [], _, _, _, _, h => by simp at h
  | s :: q, n, hw, hl, P, hn => by
    obtain ⟨hs, hq⟩ := letters_cons.1 hw
    have p1 := point_of hs
    simp only [List.length_cons] at hl hn
    obtain ⟨m, hm, Q⟩ := play_image hC hq (by omega)
    by_cases h : m < q.length
    · obtain ⟨a, b, h1, h2, h3⟩ := deletion hC q m hq (by omega) Q h
      exact ⟨a + 1, b + 1, by omega, by simp; omega, by simpa using h3.cons s⟩
    · have em : m = q.length := by omega
      have hneg : (imageOf c q).getD s.toNat 0 < 0 := by
        have hne := Q.ne hC (i := s.toNat) (by omega)
        by_cases hlt : (imageOf c q).getD s.toNat 0 < 0
        · exact hlt
        · exfalso
          have U : PlayL c (m + 1) (imageOf c (s :: q)) := by
            rw [imageW_cons]
            refine ⟨by rw [reflW_length]; exact Q.1, ?_⟩
            rw [pos_refl hC Q (by omega) (by omega)]
            exact Q.2.up (matOk hC) (by omega) (by show 0 < (imageOf c q).getD s.toNat 0; omega)
          have := play_unique hC P U (by omega) (by omega)
          omega
      obtain ⟨k, hk, e⟩ := exchange hC Q (by omega) (w := q) ⟨em.symm, hq, rfl⟩ hs hneg
      exact ⟨0, k + 1, by omega, by simp; omega, by simpa using e⟩

/-- Each word is as good as a reduced one. -/
theorem reduce_to {c : List (List Int)} (hC : Cartan c) : ∀ (l : Nat) (w : List Int) (n : Nat), w.length ≤ l → lettersOk c w = true → w.length ≤ 29 → n ≤ 30 → PlayL c n (imageOf c w) → ∃ r, Red c n (imageOf c w) r ∧ Lin c r w
  | l, w, n, hl, hw, h29, h30, P => by
    obtain ⟨m, hm, Q⟩ := play_image hC hw (by omega)
    have hn : n = m := play_unique hC P Q h30 (by omega)
    subst hn
    by_cases h : n < w.length
    · obtain ⟨a, b, h1, h2, h3⟩ := deletion hC w n hw h29 P h
      have hwl : ((w.eraseIdx b).eraseIdx a).length + 2 = w.length := by
        rw [List.length_eraseIdx_of_lt (by rw [List.length_eraseIdx_of_lt h2]; omega), List.length_eraseIdx_of_lt h2]
        omega
      have hlt := letters_erase (letters_erase hw b) a
      have him := lin_image hC h3 hlt hw (by omega) (by omega)
      obtain ⟨l', rfl⟩ : ∃ l', l = l' + 1 := ⟨l - 1, by omega⟩
      obtain ⟨r, Rr, hr⟩ := reduce_to hC l' ((w.eraseIdx b).eraseIdx a) n (by omega) hlt (by omega) h30 (by rw [him]; exact P)
      rw [him] at Rr
      exact ⟨r, Rr, hr.trans h3⟩
    · exact ⟨w, ⟨by omega, hw, rfl⟩, Lin.refl c w⟩

/-- The image of rho tells the map. -/
theorem faithful {c : List (List Int)} (hC : Cartan c) {a b : List Int} (ha : lettersOk c a = true) (hb : lettersOk c b = true) (hla : a.length ≤ 29) (hlb : b.length ≤ 29) (h : imageOf c a = imageOf c b) : Lin c a b := by
  obtain ⟨n, hn, P⟩ := play_image hC ha (by omega)
  obtain ⟨r, Rr, hr⟩ := reduce_to hC a.length a n (Nat.le_refl _) ha hla (by omega) P
  obtain ⟨s, Rs, hs⟩ := reduce_to hC b.length b n (Nat.le_refl _) hb hlb (by omega) (by rw [← h]; exact P)
  rw [← h] at Rs
  exact hr.symm.trans ((conn_all hC n _ P (by omega) r s Rr Rs).lin.trans hs)

end Go.Proofs.YtgliajcgcbnemaaGreatDoor.Hx

namespace Go.Proofs.YtgliajcgcbnemaaGreatDoor.Hx
open Go.RowKit
variable {dm : Bool}

def signOf (a : List Int) : Int := if (a.length : Int).tmod 2 = 0 then 1 else -1

def heightOf (a : List Int) : Int := a.foldl (fun s x => IntKind.i64.wrap (s + x)) 0

/-- No two neighbours are equal. -/
def sqFree (a : List Int) : Bool := (List.range a.length).all fun j => decide (j = 0) || !(a.getD j 0 == a.getD (j - 1) 0)

def anyUp (a : List Int) : Bool := a.any fun n => decide (n > 0)
def anyDown (a : List Int) : Bool := a.any fun n => decide (n < 0)
def rootSign (a : List Int) : Int := if anyUp a == anyDown a then 0 else if anyUp a then 1 else -1

end Go.Proofs.YtgliajcgcbnemaaGreatDoor.Hx

namespace Go.Proofs.YtgliajcgcbnemaaGreatDoor.Hx
open Go.RowKit

/-! ### Plain -/

def lexC : List Int → List Int → Int
  | [], [] => 0
  | [], _ :: _ => -1
  | _ :: _, [] => 1
  | x :: a, y :: b => if x < y then -1 else if y < x then 1 else lexC a b

def lexGt : List Int → List Int → Bool
  | x :: a, y :: b => if x = y then lexGt a b else decide (y < x)
  | _, _ => false

def cmpR (a b : List Int) : Int := if heightOf a < heightOf b then -1 else if heightOf b < heightOf a then 1 else lexC b a

def beforeR (a b : List Int) : Bool := if heightOf a = heightOf b then lexGt a b else decide (heightOf a < heightOf b)

theorem lexC_neg : ∀ a b : List Int, lexC b a = - lexC a b
  | [], [] => rfl
  | [], _ :: _ => rfl
  | _ :: _, [] => rfl
  | x :: a, y :: b => by
    have := lexC_neg a b
    simp only [lexC]
    by_cases h1 : x < y
    · rw [if_neg (by omega), if_pos h1, if_pos h1]; rfl
    · by_cases h2 : y < x
      · rw [if_pos h2, if_neg h1, if_pos h2]
      · rw [if_neg h2, if_neg h1, if_neg h1, if_neg h2]; exact this

theorem lexC_trans : ∀ a b c : List Int, lexC a b < 0 → lexC b c < 0 → lexC a c < 0
  | [], [], c, h, _ => by simp [lexC] at h
  | [], _ :: _, [], _, h => by simp [lexC] at h
  | [], _ :: _, _ :: _, _, _ => by simp [lexC]
  | _ :: _, [], _, h, _ => by simp [lexC] at h
  | _ :: _, _ :: _, [], _, h => by simp [lexC] at h
  | x :: a, y :: b, z :: c, h, k => by
    have ih := lexC_trans a b c
    simp only [lexC] at h k ⊢
    by_cases h1 : x < y
    · by_cases k1 : y < z
      · rw [if_pos (by omega)]; decide
      · by_cases k2 : z < y
        · rw [if_neg k1, if_pos k2] at k; omega
        · rw [if_pos (by omega)]; decide
    · by_cases h2 : y < x
      · rw [if_neg h1, if_pos h2] at h; omega
      · rw [if_neg h1, if_neg h2] at h
        have e : x = y := by omega
        subst e
        by_cases k1 : x < z
        · rw [if_pos k1]; decide
        · by_cases k2 : z < x
          · rw [if_neg k1, if_pos k2] at k; omega
          · rw [if_neg k1, if_neg k2] at k ⊢
            exact ih h k

theorem lexC_eq : ∀ a b : List Int, lexC a b = 0 → a = b
  | [], [], _ => rfl
  | [], _ :: _, h => by simp [lexC] at h
  | _ :: _, [], h => by simp [lexC] at h
  | x :: a, y :: b, h => by
    simp only [lexC] at h
    by_cases h1 : x < y
    · rw [if_pos h1] at h; omega
    · by_cases h2 : y < x
      · rw [if_neg h1, if_pos h2] at h; omega
      · rw [if_neg h1, if_neg h2] at h
        rw [lexC_eq a b h, show x = y by omega]

/-- Sorted. -/
def SortedR (L : List (List Int)) : Prop := L.Pairwise (fun a b => ¬ cmpR b a < 0)

/-- One root put in its place. -/
def putR (r : List Int) : List (List Int) → List (List Int)
  | [] => [r]
  | a :: t => if beforeR r a then r :: a :: t else a :: putR r t

def insR (L : List (List Int)) : List (List Int) := L.foldl (fun o r => putR r o) []

/-! ### Over rows -/

/-- A slice of slices: its own row is of number b or more, its parts lie in rows of which S holds. -/
def MatIn (b : Nat) (S : Nat → Prop) (h : Heap) (z : H0) (T : List (List Int)) : Prop := ∃ r ρ, z = .sl r 0 T.length ∧ b ≤ r ∧ (∀ i, i < T.length → S (ρ i)) ∧ MatAt h r ρ T

theorem MatIn.none (h : Heap) (S : Nat → Prop) : MatIn h.length S (h ++ [Row.own []]) (.sl h.length 0 0) [] :=
  ⟨h.length, fun _ => 0, rfl, Nat.le_refl _, fun i hi => by simp at hi, ⟨[], get_new _ _, Nat.le_refl _, fun i hi => by simp at hi⟩, fun i hi => by simp at hi, fun i hi => by simp at hi, fun i j _ hj => by simp at hj⟩

theorem MatAt.lt {h : Heap} {r : Nat} {ρ : Nat → Nat} {L : List (List Int)} (m : MatAt h r ρ L) : r < h.length ∧ ∀ i, i < L.length → ρ i < h.length :=
  ⟨by obtain ⟨cs, g, _⟩ := m.outer; exact get_lt g, fun i hi => by obtain ⟨t, g⟩ := m.inner i hi; exact get_lt g⟩

theorem MatAt.ext {h h' : Heap} {r : Nat} {ρ : Nat → Nat} {L : List (List Int)} (m : MatAt h r ρ L) (E : Ext h h') : MatAt h' r ρ L :=
  m.move (E.2 _ m.lt.1) (fun i hi => E.2 _ (m.lt.2 i hi))

theorem MatIn.weaken {b : Nat} {S S' : Nat → Prop} {h : Heap} {z : H0} {T : List (List Int)} (M : MatIn b S h z T) (k : ∀ q, q < h.length → S q → S' q) : MatIn b S' h z T := by
  obtain ⟨r, ρ, g1, g2, g3, m⟩ := M
  exact ⟨r, ρ, g1, g2, fun i hi => k _ (m.lt.2 i hi) (g3 i hi), m⟩

theorem MatIn.own {b c : Nat} {S : Nat → Prop} {h : Heap} {z : H0} {T : List (List Int)} (M : MatIn b S h z T) (hc : c ≤ b) (k : ∀ q, q < h.length → S q → c ≤ q) : OwnM c h.length h z T := by
  obtain ⟨r, ρ, g1, g2, g3, m⟩ := M
  exact ⟨r, ρ, g1, by omega, m.lt.1, fun i hi => ⟨k _ (m.lt.2 i hi) (g3 i hi), m.lt.2 i hi⟩, m⟩

/-- A slice of ints that is there, in a row of which S does not hold, appended to a slice of such slices. -/
theorem HApp.snocS {hb h h2 : Heap} {S : Nat → Prop} {z y : H0} {L : List (List Int)} {l : List Int} {q : Nat} {K : HV → Heap → Prop} (E : Ext hb h) (M : MatIn hb.length S h z L) (E2 : Ext h h2) (F : OwnR q h2 y l) (hq : ¬ S q) (hqr : q < hb.length ∨ h.length ≤ q) (hl : L.length < 2199023255552)
    (hK : ∀ h' z', Ext hb h' → h2.length ≤ h'.length → MatIn hb.length (fun x => S x ∨ x = q) h' z' (L ++ [l]) → K (.s z') h') : HApp (h2 ++ [.own [y]]) (.s z) (.s (.sl h2.length 0 1)) K := by
  have l1 := E.1
  have l2 := E2.1
  obtain ⟨r, ρ, rfl, hr1, hS, m⟩ := M
  obtain ⟨hr2, hρ⟩ := m.lt
  have hq2 := F.lt
  obtain ⟨t, rfl, hqo⟩ := F
  obtain ⟨cs, ho, hcl, hoc⟩ := m.outer
  refine ⟨[.sl q 0 l.length], ?_, by simp [H0.one], cs, rfl, (Ext.push h2 _).row (E2.row ho), hcl, Or.inl ⟨by simp; omega, ?_⟩⟩
  · have := Shows.own h2.length 0 1 _ (get_new h2 (.own [.sl q 0 l.length])) (by simp)
    simpa using this
  have e1 : L.length + [H0.sl q 0 l.length].length = (L ++ [l]).length := by simp
  rw [e1]
  have old : ∀ p, p < h2.length → p ≠ r → ((h2 ++ [Row.own [.sl q 0 l.length]]).set r .gone ++ [Row.own (cs.take L.length ++ [.sl q 0 l.length])])[p]? = h2[p]? := fun p hp hn => by
    rw [List.getElem?_append_left (by simp; omega), List.getElem?_set_ne (Ne.symm hn), List.getElem?_append_left hp]
  have gd1 : ∀ i, i < L.length → (L ++ [l]).getD i [] = L.getD i [] := fun i hi => by
    simp only [List.getD]
    rw [List.getElem?_append_left hi]
  have gd2 : (L ++ [l]).getD L.length [] = l := by simp [List.getD]
  have hE : Ext hb ((h2 ++ [Row.own [.sl q 0 l.length]]).set r .gone ++ [Row.own (cs.take L.length ++ [.sl q 0 l.length])]) := ((((E.trans E2).pushed _).set hr1 _).pushed _)
  have hlen : ((h2 ++ [Row.own [.sl q 0 l.length]]).set r .gone ++ [Row.own (cs.take L.length ++ [.sl q 0 l.length])]).length = h2.length + 2 := by simp
  have hqr2 : q ≠ r := by omega
  refine hK _ _ hE (by rw [hlen]; omega) ⟨h2.length + 1, fun i => if i < L.length then ρ i else q, by simp, by omega, fun i hi => ?_, ⟨cs.take L.length ++ [.sl q 0 l.length], ?_, by simp; omega, fun i hi => ?_⟩, fun i hi => ?_, fun i hi => ?_, fun i j hij hj => ?_⟩
  · by_cases hi2 : i < L.length
    · simp only [hi2, if_true]
      exact Or.inl (hS i hi2)
    · show S (if i < L.length then ρ i else q) ∨ (if i < L.length then ρ i else q) = q
      rw [if_neg hi2]
      exact Or.inr rfl
  · rw [List.getElem?_append_right (by simp)]
    simp
  · by_cases hi2 : i < L.length
    · rw [List.getElem?_append_left (by simp; omega), List.getElem?_take_of_lt hi2, hoc i hi2, gd1 i hi2]
      simp [hi2]
    · have e : i = L.length := by simp at hi; omega
      subst e
      rw [gd2, List.getElem?_append_right (by simp; omega)]
      have : L.length - (cs.take L.length).length = 0 := by simp; omega
      rw [this]
      simp
  · by_cases hi2 : i < L.length
    · obtain ⟨t2, ht2⟩ := m.inner i hi2
      have hb2 := hρ i hi2
      have hne := m.ne i hi2
      refine ⟨t2, ?_⟩
      rw [gd1 i hi2, if_pos hi2, old _ (by omega) hne]
      exact E2.row ht2
    · have e : i = L.length := by simp at hi; omega
      subst e
      refine ⟨t, ?_⟩
      rw [gd2, if_neg (by omega), old _ (by omega) (by omega)]
      exact hqo
  · by_cases hi2 : i < L.length
    · have := hρ i hi2
      simp only [hi2, if_true]
      omega
    · simp only [hi2, if_false]
      omega
  · have hj' : j ≤ L.length := by simp at hj; omega
    have hi2 : i < L.length := by omega
    by_cases hj2 : j < L.length
    · simp only [hi2, hj2, if_true]
      exact m.inj i j hij hj2
    · simp only [hi2, hj2, if_true, if_false]
      intro e
      exact hq (by rw [← e]; exact hS i hi2)

theorem MatAt.idx {h : Heap} {r : Nat} {ρ : Nat → Nat} {L : List (List Int)} (m : MatAt h r ρ L) {n : Nat} (h1 : n < L.length) {k : IntKind} {K : HV → Prop} (hK : ∀ p, At h p (.sl (ρ n) 0 (L.getD n []).length) → K (.s p)) :
    HIdx h (.s (.sl r 0 L.length)) (.s (.pl (.int k (n : Int)))) K := by
  obtain ⟨cs, g1, g2, g3⟩ := m.outer
  refine HIdx.sl (by omega) (by omega) (hK _ ⟨r, _, _, cs, rfl, g1, rfl, ?_⟩)
  rw [Int.toNat_natCast, Nat.zero_add]
  exact g3 n h1

theorem MatAt.inner' {h : Heap} {r : Nat} {ρ : Nat → Nat} {L : List (List Int)} (m : MatAt h r ρ L) {n : Nat} (h1 : n < L.length) : OwnR (ρ n) h (.sl (ρ n) 0 (L.getD n []).length) (L.getD n []) := by
  obtain ⟨t, ht⟩ := m.inner n h1
  exact ⟨t, rfl, ht⟩

theorem iEq' {a b : Int} (h : a = b) : I a = I b := by rw [h]

end Go.Proofs.YtgliajcgcbnemaaGreatDoor.Hx

namespace Go.Proofs.YtgliajcgcbnemaaGreatDoor.Hx
open Go.RowKit

/-! ### Words by length, then by letters -/

def cmpW (a b : List Int) : Int := if a.length < b.length then -1 else if b.length < a.length then 1 else lexC a b

theorem cmpW_neg (a b : List Int) : cmpW b a = - cmpW a b := by
  have := lexC_neg a b
  unfold cmpW
  by_cases h1 : a.length < b.length
  · rw [if_neg (by omega), if_pos h1, if_pos h1]; rfl
  · by_cases h2 : b.length < a.length
    · rw [if_pos h2, if_neg h1, if_pos h2]
    · rw [if_neg h2, if_neg h1, if_neg h1, if_neg h2]; omega
theorem cmpW_lt {a b : List Int} : cmpW a b < 0 ↔ a.length < b.length ∨ a.length = b.length ∧ lexC a b < 0 := by
  unfold cmpW
  by_cases h1 : a.length < b.length
  · rw [if_pos h1]; simp [h1]
  · by_cases h2 : b.length < a.length
    · rw [if_neg h1, if_pos h2]
      constructor
      · intro h; omega
      · rintro (h | h) <;> omega
    · rw [if_neg h1, if_neg h2]
      constructor
      · intro h; exact Or.inr ⟨by omega, h⟩
      · rintro (h | h)
        · omega
        · exact h.2
theorem cmpW_eq {a b : List Int} (h : cmpW a b = 0) : a = b := by
  unfold cmpW at h
  by_cases h1 : a.length < b.length
  · rw [if_pos h1] at h; omega
  · by_cases h2 : b.length < a.length
    · rw [if_neg h1, if_pos h2] at h; omega
    · rw [if_neg h1, if_neg h2] at h
      exact lexC_eq a b h
theorem cmpW_self (a : List Int) : cmpW a a = 0 := by
  have := cmpW_neg a a
  omega
theorem cmpW_trans {a b c : List Int} (h : cmpW a b < 0) (k : cmpW b c < 0) : cmpW a c < 0 := by
  rw [cmpW_lt] at *
  rcases h with h | ⟨h, h2⟩ <;> rcases k with k | ⟨k, k2⟩
  · exact Or.inl (by omega)
  · exact Or.inl (by omega)
  · exact Or.inl (by omega)
  · exact Or.inr ⟨by omega, lexC_trans a b c h2 k2⟩

def SortedW (L : List (List Int)) : Prop := L.Pairwise (fun a b => cmpW a b < 0)

theorem SortedW.nodup {L : List (List Int)} (h : SortedW L) : L.Nodup := List.Pairwise.imp (fun {a b} hab e => by
  subst e
  rw [cmpW_self] at hab
  omega) h

theorem sortedW_one {A B : List (List Int)} (hA : SortedW A) (hB : SortedW B) (h : ∀ w, w ∈ A ↔ w ∈ B) : A = B :=
  List.Perm.eq_of_pairwise (le := fun a b => cmpW a b < 0) (fun a b _ _ h k => by
    have := cmpW_neg a b
    omega) hA hB ((List.perm_ext_iff_of_nodup hA.nodup hB.nodup).2 h)

/-- One word put in its place, unless it is there. -/
def putW (r : List Int) : List (List Int) → List (List Int)
  | [] => [r]
  | a :: t => if cmpW r a = 0 then a :: t else if cmpW r a < 0 then r :: a :: t else a :: putW r t

theorem mem_putW (r w : List Int) : ∀ L, w ∈ putW r L ↔ w = r ∨ w ∈ L
  | [] => by simp [putW]
  | a :: t => by
    have ih := mem_putW r w t
    simp only [putW]
    split
    · rename_i h
      have := cmpW_eq h
      subst this
      simp
    · split
      · simp
      · simp only [List.mem_cons, ih]
        constructor
        · rintro (h | h | h)
          · exact Or.inr (Or.inl h)
          · exact Or.inl h
          · exact Or.inr (Or.inr h)
        · rintro (h | h | h)
          · exact Or.inr (Or.inl h)
          · exact Or.inl h
          · exact Or.inr (Or.inr h)

theorem putW_sorted (r : List Int) : ∀ {L : List (List Int)}, SortedW L → SortedW (putW r L)
  | [], _ => by simp [putW, SortedW]
  | a :: t, hs => by
    have hs' := List.pairwise_cons.1 hs
    simp only [putW]
    split
    · exact hs
    · rename_i h0
      split
      · rename_i h
        refine List.pairwise_cons.2 ⟨fun b hb => ?_, hs⟩
        rcases List.mem_cons.1 hb with rfl | hb
        · exact h
        · exact cmpW_trans h (hs'.1 b hb)
      · rename_i h
        refine List.pairwise_cons.2 ⟨fun b hb => ?_, putW_sorted r hs'.2⟩
        rcases (mem_putW r b t).1 hb with rfl | hb
        · have := cmpW_neg a b
          omega
        · exact hs'.1 b hb

theorem putW_le (r : List Int) : ∀ L, L.length ≤ (putW r L).length ∧ (putW r L).length ≤ L.length + 1
  | [] => by simp [putW]
  | a :: t => by
    have ih := putW_le r t
    simp only [putW]
    split
    · simp
    · split
      · simp
      · simp only [List.length_cons]; omega

def insW (L : List (List Int)) : List (List Int) := L.foldl (fun o r => putW r o) []

theorem insW_facts (L : List (List Int)) : SortedW (insW L) ∧ (∀ w, w ∈ insW L ↔ w ∈ L) ∧ (insW L).length ≤ L.length := by
  have main : ∀ (L o : List (List Int)), SortedW o → SortedW (L.foldl (fun o r => putW r o) o) ∧ (∀ w, w ∈ L.foldl (fun o r => putW r o) o ↔ w ∈ o ∨ w ∈ L) ∧ (L.foldl (fun o r => putW r o) o).length ≤ o.length + L.length := by
    intro L
    induction L with
    | nil => intro o h; exact ⟨h, by simp, by simp⟩
    | cons r t ih =>
      intro o h
      obtain ⟨h1, h2, h3⟩ := ih (putW r o) (putW_sorted r h)
      have := putW_le r o
      refine ⟨h1, fun w => ?_, by simp only [List.foldl_cons, List.length_cons]; omega⟩
      rw [List.foldl_cons, h2, mem_putW]
      simp only [List.mem_cons]
      constructor
      · rintro ((h | h) | h)
        · exact Or.inr (Or.inl h)
        · exact Or.inl h
        · exact Or.inr (Or.inr h)
      · rintro (h | h | h)
        · exact Or.inl (Or.inr h)
        · exact Or.inl (Or.inl h)
        · exact Or.inr h
  obtain ⟨h1, h2, h3⟩ := main L [] List.Pairwise.nil
  refine ⟨h1, fun w => ?_, ?_⟩
  · rw [insW, h2]; simp
  · rw [insW]; simpa using h3

/-! ### All reduced words -/

def spellW (c : List (List Int)) : Nat → List Int → List (List Int)
  | 0, _ => [[]]
  | n + 1, v => (descs v v.length).flatMap fun i => (spellW c n (reflW c i.toNat v)).map (i :: ·)

theorem nodup_le : ∀ {A B : List (List Int)}, A.Nodup → (∀ x ∈ A, x ∈ B) → A.length ≤ B.length
  | [], _, _, _ => by simp
  | a :: A, B, hn, h => by
    have hn' := List.nodup_cons.1 hn
    have ha := h a (by simp)
    have ih := nodup_le (A := A) (B := B.erase a) hn'.2 fun x hx => (List.mem_erase_of_ne (fun e => hn'.1 (by rw [← e]; exact hx))).2 (h x (by simp [hx]))
    have hl := List.length_erase_of_mem ha
    have hp : 0 < B.length := List.length_pos_of_mem ha
    simp only [List.length_cons]
    omega

/-- What a search by braid moves has found so far. -/
structure Found (c : List (List Int)) (n : Nat) (v x : List Int) (Q : List (List Int)) : Prop where
  red : ∀ q ∈ Q, Red c n v q
  nodup : Q.Nodup
  head : x ∈ Q

/-! ### The answer -/

def redAll (c : List (List Int)) (w : List Int) : List (List Int) := spellW c (normF c w).length (imageOf c w)
def redOk (c : List (List Int)) (w : List Int) : Bool := isWord c w && decide ((redAll c w).length ≤ 120)
def reducedWords (c : List (List Int)) (w : List Int) : List (List Int) := if redOk c w then redAll c w else []

end Go.Proofs.YtgliajcgcbnemaaGreatDoor.Hx
