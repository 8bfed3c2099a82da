/-
  Reduced words on lists: braid moves keep the element and join all its reduced words; the list of all of them in the order of letters. Plain theory.
  Words as maps of all places: the exchange of a letter, the deletion of two letters, and that the image of rho tells the map. Plain theory.
  The game of signs from whatever places above zero, and that the numbers of a root all have one sign. Plain theory.
  Roots as maps of places: a root's numbers all have one sign, and the sign is told by the length of a word. Plain theory.
-/
import Derived.Test.YtgliajcgcbnemaaGreatDoorZ12
namespace Go.Proofs.YtgliajcgcbnemaaGreatDoor.Hx
open Go.RowKit

/-- Letters applied to a place. -/
def actS (c : Nat → Nat → Int) : List Int → Pos → Pos
  | [], v => v
  | i :: w, v => sr c i.toNat (actS c w v)

theorem actS_app (c : Nat → Nat → Int) : ∀ (a b : List Int) (v : Pos), actS c (a ++ b) v = actS c a (actS c b v)
  | [], _, _ => rfl
  | i :: a, b, v => by
    show sr c i.toNat (actS c (a ++ b) v) = sr c i.toNat (actS c a (actS c b v))
    rw [actS_app c a b v]

theorem altTo_cons (i j : Int) (k : Nat) : altTo i j (k + 1) = i :: altTo j i k := by
  unfold altTo
  rw [List.range_succ_eq_map, List.map_cons, List.map_map]
  have e0 : (if 0 % 2 = 0 then i else j) = i := rfl
  rw [e0]
  refine congrArg (List.cons i) (List.map_congr_left fun t _ => ?_)
  show (if (t + 1) % 2 = 0 then i else j) = if t % 2 = 0 then j else i
  by_cases h : t % 2 = 0
  · rw [if_neg (by omega), if_pos h]
  · rw [if_pos (by omega), if_neg h]

theorem actS_alt (c : Nat → Nat → Int) : ∀ (m : Nat) (i j : Int) (v : Pos), actS c (altTo i j m) v = altS c i.toNat j.toNat m v
  | 0, _, _, _ => rfl
  | m + 1, i, j, v => by
    rw [altTo_cons]
    show sr c i.toNat (actS c (altTo j i m) v) = sr c i.toNat (altS c j.toNat i.toNat m v)
    rw [actS_alt c m j i v]

theorem letters_app {c : List (List Int)} {a b : List Int} : lettersOk c (a ++ b) = true ↔ lettersOk c a = true ∧ lettersOk c b = true := by
  simp [lettersOk, List.all_append]
theorem letters_cons {c : List (List Int)} {i : Int} {w : List Int} : lettersOk c (i :: w) = true ↔ isPoint c i = true ∧ lettersOk c w = true := by
  simp [lettersOk]
theorem letters_alt {c : List (List Int)} {i j : Int} (hi : isPoint c i = true) (hj : isPoint c j = true) (m : Nat) : lettersOk c (altTo i j m) = true := by
  refine List.all_eq_true.2 fun x hx => ?_
  obtain ⟨t, _, rfl⟩ := List.mem_map.1 hx
  by_cases h : t % 2 = 0
  · rw [if_pos h]; exact hi
  · rw [if_neg h]; exact hj

theorem play_actL {c : List (List Int)} (hC : Cartan c) : ∀ (w : List Int) {n : Nat} {u : List Int}, lettersOk c w = true → PlayL c n u → n + w.length ≤ 31 → ∃ m, m ≤ n + w.length ∧ PlayL c m (actW c w u) ∧ posOf (actW c w u) = actS (ent c) w (posOf u)
  | [], n, u, _, P, _ => ⟨n, Nat.le_refl _, P, rfl⟩
  | i :: w, n, u, h, P, hl => by
    obtain ⟨h1, h2⟩ := letters_cons.1 h
    have hi := point_of h1
    simp only [List.length_cons] at hl
    obtain ⟨m, h3, P3, e⟩ := play_actL hC w h2 P (by omega)
    obtain ⟨m', h4, P4⟩ := P3.any hC (by omega) (i := i.toNat) (by omega)
    refine ⟨m', by simp only [List.length_cons]; omega, P4, ?_⟩
    show posOf (reflW c i.toNat (actW c w u)) = sr (ent c) i.toNat (actS (ent c) w (posOf u))
    rw [pos_refl hC P3 (by omega) (by omega), e]

/-- What a bond of two or more tells. -/
theorem bond_info {c : List (List Int)} {i j : Int} {m : Nat} (h : bond c i j = m) (h2 : 2 ≤ m) : Cartan c ∧ isPoint c i = true ∧ isPoint c j = true ∧ i ≠ j ∧ m = bondP (ent c i.toNat j.toNat * ent c j.toNat i.toNat) := by
  cases h1 : isCartan c
  · rw [bond_off (Or.inl h1)] at h; omega
  cases h3 : isPoint c i
  · rw [bond_off (Or.inr (Or.inl h3))] at h; omega
  cases h4 : isPoint c j
  · rw [bond_off (Or.inr (Or.inr h4))] at h; omega
  by_cases hij : i = j
  · rw [bond_eq h1 h3 h4 hij] at h; omega
  have hC := (isCartan_iff c).1 h1
  refine ⟨hC, rfl, rfl, hij, ?_⟩
  rw [bond_ne h1 h3 h4 hij] at h
  have p1 := point_of h3
  have p2 := point_of h4
  have o1 := (matOk hC).off i.toNat j.toNat (by omega) (by omega) (by omega)
  have o2 := (matOk hC).off j.toNat i.toNat (by omega) (by omega) (by omega)
  generalize ent c i.toNat j.toNat = x at *
  generalize ent c j.toNat i.toNat = y at *
  have e1 : x = 0 ∨ x = -1 ∨ x = -2 ∨ x = -3 := by omega
  have e2 : y = 0 ∨ y = -1 ∨ y = -2 ∨ y = -3 := by omega
  rcases e1 with rfl | rfl | rfl | rfl <;> rcases e2 with rfl | rfl | rfl | rfl <;>
    (rw [w64_in (by decide) (by decide)] at h; simp only [bondN, bondP] at h ⊢; simp at h ⊢; omega)

theorem bond_of_pos {c : List (List Int)} (hC : Cartan c) {i j : Int} (hi : isPoint c i = true) (hj : isPoint c j = true) (hij : i ≠ j) : bond c i j = bondP (ent c i.toNat j.toNat * ent c j.toNat i.toNat) := by
  rw [bond_ne ((isCartan_iff c).2 hC) hi hj hij]
  have p1 := point_of hi
  have p2 := point_of hj
  have o1 := (matOk hC).off i.toNat j.toNat (by omega) (by omega) (by omega)
  have o2 := (matOk hC).off j.toNat i.toNat (by omega) (by omega) (by omega)
  generalize ent c i.toNat j.toNat = x at *
  generalize ent c j.toNat i.toNat = y at *
  have e1 : x = 0 ∨ x = -1 ∨ x = -2 ∨ x = -3 := by omega
  have e2 : y = 0 ∨ y = -1 ∨ y = -2 ∨ y = -3 := by omega
  rcases e1 with rfl | rfl | rfl | rfl <;> rcases e2 with rfl | rfl | rfl | rfl <;>
    (rw [w64_in (by decide) (by decide)]; simp only [bondN, bondP]; simp)

theorem sr_off {c : List (List Int)} {i k : Nat} (h : c.length ≤ k) (v : Pos) : sr (ent c) i v k = v k := by
  unfold sr
  rw [ent_off h]
  simp
theorem altS_off {c : List (List Int)} {k : Nat} (h : c.length ≤ k) : ∀ (m i j : Nat) (v : Pos), altS (ent c) i j m v k = v k
  | 0, _, _, _ => rfl
  | m + 1, i, j, v => by
    show sr (ent c) i (altS (ent c) j i m v) k = v k
    rw [sr_off h, altS_off h m j i v]

theorem list_of_pos (N : Nat) (f : Pos) (h : ∀ k, N ≤ k → f k = 0) : ∃ u : List Int, u.length = N ∧ posOf u = f := by
  refine ⟨(List.range N).map f, by simp, funext fun k => ?_⟩
  by_cases hk : k < N
  · simp [posOf, List.getD, hk]
  · rw [h k (by omega)]
    simp [posOf, List.getD, show N ≤ k by omega]

theorem two_words {c : List (List Int)} (hC : Cartan c) {n : Nat} {v : List Int} (P : PlayL c n v) (hn : n ≤ 30) {i j : Int} (hi : isPoint c i = true) (hj : isPoint c j = true) (hij : i ≠ j) (ha : v.getD i.toNat 0 < 0) (hb : v.getD j.toNat 0 < 0) :
    ∃ (m k : Nat) (u : List Int), bond c i j = m ∧ 2 ≤ m ∧ n = k + m ∧ PlayL c k u ∧ v = actW c (altTo i j m) u ∧ v = actW c (altTo j i m) u := by
  have p1 := point_of hi
  have p2 := point_of hj
  obtain ⟨h2, k, u0, hk, Q, e1, e2⟩ := play_two (matOk hC) (i := i.toNat) (j := j.toNat) (by omega) (by omega) (by omega) P.2 ha hb
  obtain ⟨u, hul, hu⟩ := list_of_pos c.length u0 fun q hq => by
    have := congrFun e1 q
    rw [altS_off hq] at this
    rw [← this]
    have hv : v.length ≤ q := by rw [P.1]; exact hq
    simp [posOf, List.getD, hv]
  have PQ : PlayL c k u := ⟨hul, by rw [hu]; exact Q⟩
  refine ⟨_, k, u, bond_of_pos hC hi hj hij, h2, hk, PQ, ?_, ?_⟩
  · apply posOf_inj (by rw [actW_length, P.1, hul])
    obtain ⟨_, _, _, e⟩ := play_actL hC (altTo i j (bondP (ent c i.toNat j.toNat * ent c j.toNat i.toNat))) (letters_alt hi hj _) PQ (by rw [altTo_len]; omega)
    rw [e, actS_alt, hu]
    exact e1
  · apply posOf_inj (by rw [actW_length, P.1, hul])
    obtain ⟨_, _, _, e⟩ := play_actL hC (altTo j i (bondP (ent c i.toNat j.toNat * ent c j.toNat i.toNat))) (letters_alt hj hi _) PQ (by rw [altTo_len]; omega)
    rw [e, actS_alt, hu]
    exact e2

/-- A reduced word of an element that is told by its image. -/
def Red (c : List (List Int)) (n : Nat) (v w : List Int) : Prop := w.length = n ∧ lettersOk c w = true ∧ imageOf c w = v

theorem play_unique {c : List (List Int)} (hC : Cartan c) {n m : Nat} {v : List Int} (P : PlayL c n v) (Q : PlayL c m v) (hn : n ≤ 30) (hm : m ≤ 30) : n = m := by
  rw [← nf_len hC n v 30 P hn hn, nf_len hC m v 30 Q hm hm]

theorem imageW_cons (c : List (List Int)) (i : Int) (w : List Int) : imageOf c (i :: w) = reflW c i.toNat (imageOf c w) := rfl

theorem Red.tail {c : List (List Int)} (hC : Cartan c) {n : Nat} {v w : List Int} {i : Int} (P : PlayL c (n + 1) v) (hn : n + 1 ≤ 29) (R : Red c (n + 1) v (i :: w)) :
    isPoint c i = true ∧ v.getD i.toNat 0 < 0 ∧ PlayL c n (reflW c i.toNat v) ∧ Red c n (reflW c i.toNat v) w := by
  obtain ⟨h1, h2, h3⟩ := R
  obtain ⟨hi, hw⟩ := letters_cons.1 h2
  have p1 := point_of hi
  have hwl : w.length = n := by simpa using h1
  have hin : i.toNat < c.length := by omega
  obtain ⟨m, hm, Q⟩ := play_image hC hw (by omega)
  rw [imageW_cons] at h3
  have hback : reflW c i.toNat v = imageOf c w := by
    rw [← h3]
    exact reflW_twice hC Q (by omega) hin (by rw [h3]; exact P) (by omega)
  have hneg : v.getD i.toNat 0 < 0 := by
    have hne := P.ne hC hin
    have hne2 := Q.ne hC hin
    have hs : v.getD i.toNat 0 = - (imageOf c w).getD i.toNat 0 := by
      have := congrFun (pos_refl hC Q (by omega) hin) i.toNat
      rw [h3, sr_at ((matOk hC).diag _ hin)] at this
      exact this
    by_cases hlt : (imageOf c w).getD i.toNat 0 < 0
    · obtain ⟨m', e, Q'⟩ := Q.down hC (by omega) hin hlt
      rw [h3] at Q'
      have := play_unique hC P Q' (by omega) (by omega)
      omega
    · omega
  obtain ⟨n', e, P'⟩ := P.down hC (by omega) hin hneg
  have : n' = n := by omega
  subst this
  exact ⟨hi, hneg, P', hwl, hw, hback.symm⟩

theorem Red.cons {c : List (List Int)} (hC : Cartan c) {n : Nat} {v w : List Int} {i : Int} (P : PlayL c (n + 1) v) (hn : n + 1 ≤ 30) (hi : isPoint c i = true) (h : v.getD i.toNat 0 < 0) (R : Red c n (reflW c i.toNat v) w) : Red c (n + 1) v (i :: w) := by
  have p1 := point_of hi
  have hin : i.toNat < c.length := by omega
  obtain ⟨m, e, Q⟩ := P.down hC hn hin h
  obtain ⟨h1, h2, h3⟩ := R
  refine ⟨by simp [h1], letters_cons.2 ⟨hi, h2⟩, ?_⟩
  rw [imageW_cons, h3]
  exact reflW_twice hC P hn hin Q (by omega)

/-- A braid move, and what braid moves join. -/
inductive Br (c : List (List Int)) : List Int → List Int → Prop
  | mk (p : List Int) (i j : Int) (m : Nat) (q : List Int) (hb : bond c i j = m) (h2 : 2 ≤ m) : Br c (p ++ (altTo i j m ++ q)) (p ++ (altTo j i m ++ q))

inductive Conn (c : List (List Int)) : List Int → List Int → Prop
  | refl (a : List Int) : Conn c a a
  | tail {a b d : List Int} (h : Conn c a b) (s : Br c b d) : Conn c a d

theorem Br.cons {c : List (List Int)} {a b : List Int} (x : Int) (h : Br c a b) : Br c (x :: a) (x :: b) := by
  cases h with
  | mk p i j m q hb h2 => exact .mk (x :: p) i j m q hb h2
theorem Conn.trans {c : List (List Int)} {a b d : List Int} (h : Conn c a b) (k : Conn c b d) : Conn c a d := by
  induction k with
  | refl => exact h
  | tail _ s ih => exact ih.tail s
theorem Conn.one {c : List (List Int)} {a b : List Int} (h : Br c a b) : Conn c a b := (Conn.refl a).tail h
theorem Conn.cons {c : List (List Int)} {a b : List Int} (x : Int) (h : Conn c a b) : Conn c (x :: a) (x :: b) := by
  induction h with
  | refl => exact .refl _
  | tail _ s ih => exact ih.tail (s.cons x)

theorem Br.length {c : List (List Int)} {a b : List Int} (h : Br c a b) : b.length = a.length := by
  cases h with
  | mk p i j m q hb h2 => simp [altTo_len]

theorem image_pos {c : List (List Int)} (hC : Cartan c) {w : List Int} (h : lettersOk c w = true) (hl : w.length ≤ 31) : posOf (imageOf c w) = actS (ent c) w (posOf (List.replicate c.length 1)) := by
  obtain ⟨_, _, _, e⟩ := play_actL hC w h (PlayL.ones c) (by omega)
  exact e

/-- All reduced words of an element are joined by braid moves. -/
theorem conn_all {c : List (List Int)} (hC : Cartan c) : ∀ (n : Nat) (v : List Int), PlayL c n v → n ≤ 29 → ∀ a b, Red c n v a → Red c n v b → Conn c a b
  | 0, v, P, hn, a, b, ha, hb => by
    have e1 : a = [] := List.eq_nil_of_length_eq_zero ha.1
    have e2 : b = [] := List.eq_nil_of_length_eq_zero hb.1
    rw [e1, e2]
    exact .refl _
  | n + 1, v, P, hn, a, b, ha, hb => by
    cases a with
    | nil => have := ha.1; simp at this
    | cons i a =>
      cases b with
      | nil => have := hb.1; simp at this
      | cons j b =>
        obtain ⟨hi, ni, Pi, Ri⟩ := ha.tail hC P hn
        obtain ⟨hj, nj, Pj, Rj⟩ := hb.tail hC P hn
        by_cases hij : i = j
        · subst hij
          exact (conn_all hC n _ Pi (by omega) a b Ri Rj).cons i
        · obtain ⟨m, k, u, hbd, h2, hk, Q, e1, e2⟩ := two_words hC P (by omega) hi hj hij ni nj
          have hz1 := nf_len hC k u 30 Q (by omega) (by omega)
          have hz2 := nf_letters hC k u 30 Q (by omega) (by omega)
          have hz3 := nf_image hC k u 30 Q (by omega) (by omega)
          generalize nf c 30 u = z at hz1 hz2 hz3
          obtain ⟨m', rfl⟩ : ∃ m', m = m' + 1 := ⟨m - 1, by omega⟩
          have RA : Red c (n + 1) v (altTo i j (m' + 1) ++ z) := ⟨by rw [List.length_append, altTo_len]; omega, letters_app.2 ⟨letters_alt hi hj _, hz2⟩, by rw [imageOf, actW_app, e1]; exact congrArg _ hz3⟩
          have RB : Red c (n + 1) v (altTo j i (m' + 1) ++ z) := ⟨by rw [List.length_append, altTo_len]; omega, letters_app.2 ⟨letters_alt hj hi _, hz2⟩, by rw [imageOf, actW_app, e2]; exact congrArg _ hz3⟩
          have hAB : Conn c (altTo i j (m' + 1) ++ z) (altTo j i (m' + 1) ++ z) := Conn.one (.mk [] i j (m' + 1) z hbd h2)
          rw [altTo_cons, List.cons_append] at RA hAB
          rw [altTo_cons, List.cons_append] at RB hAB
          obtain ⟨_, _, _, RA'⟩ := RA.tail hC P hn
          obtain ⟨_, _, _, RB'⟩ := RB.tail hC P hn
          exact ((conn_all hC n _ Pi (by omega) a _ Ri RA').cons i).trans (hAB.trans ((conn_all hC n _ Pj (by omega) _ b RB' Rj).cons j))

/-! ### The program's braid moves -/

end Go.Proofs.YtgliajcgcbnemaaGreatDoor.Hx

namespace Go.Proofs.YtgliajcgcbnemaaGreatDoor.Hx
open Go.RowKit

/-- Two words do the same to every place. -/
def Lin (c : List (List Int)) (a b : List Int) : Prop := ∀ v : Pos, actS (ent c) a v = actS (ent c) b v

theorem Lin.refl (c : List (List Int)) (a : List Int) : Lin c a a := fun _ => rfl
theorem Lin.symm {c : List (List Int)} {a b : List Int} (h : Lin c a b) : Lin c b a := fun v => (h v).symm
theorem Lin.trans {c : List (List Int)} {a b d : List Int} (h : Lin c a b) (k : Lin c b d) : Lin c a d := fun v => (h v).trans (k v)
theorem Lin.app {c : List (List Int)} {a b a' b' : List Int} (h : Lin c a b) (k : Lin c a' b') : Lin c (a ++ a') (b ++ b') := fun v => by rw [actS_app, actS_app, k v, h]
theorem Lin.cons {c : List (List Int)} {a b : List Int} (i : Int) (h : Lin c a b) : Lin c (i :: a) (i :: b) := Lin.app (Lin.refl c [i]) h

theorem Br.lin {c : List (List Int)} {a b : List Int} (h : Br c a b) : Lin c a b := by
  cases h with
  | mk p i j m q hb h2 =>
    obtain ⟨hC, hi, hj, hij, e⟩ := bond_info hb h2
    have p1 := point_of hi
    have p2 := point_of hj
    refine Lin.app (Lin.refl c p) (Lin.app (fun v => ?_) (Lin.refl c q))
    rw [actS_alt, actS_alt, e, alt_rel (matOk hC) (i := i.toNat) (j := j.toNat) (by omega) (by omega) (by omega)]

theorem Conn.lin {c : List (List Int)} {a b : List Int} (h : Conn c a b) : Lin c a b := by
  induction h with
  | refl => exact Lin.refl c _
  | tail _ s ih => exact ih.trans s.lin
theorem twice {c : List (List Int)} (hC : Cartan c) {i : Int} (hi : isPoint c i = true) (w : List Int) : Lin c (i :: i :: w) w := fun v => by
  have p1 := point_of hi
  exact sr_sr ((matOk hC).diag i.toNat (by omega)) _

theorem bondP_cases {p : Int} (h : 2 ≤ bondP p) : bondP p = 2 ∨ bondP p = 3 ∨ bondP p = 4 ∨ bondP p = 6 := by
  unfold bondP at h ⊢
  split
  · exact Or.inl rfl
  · split
    · exact Or.inr (Or.inl rfl)
    · split
      · exact Or.inr (Or.inr (Or.inl rfl))
      · split
        · exact Or.inr (Or.inr (Or.inr rfl))
        · rename_i h1 h2 h3 h4
          rw [if_neg h1, if_neg h2, if_neg h3, if_neg h4] at h
          omega

/-- A letter less of one row of turns is a letter less of the other. -/
theorem alt_erase {c : List (List Int)} (hC : Cartan c) {i j : Int} (hi : isPoint c i = true) (hj : isPoint c j = true) {m : Nat} (hm : m = 2 ∨ m = 3 ∨ m = 4 ∨ m = 6) {k : Nat} (hk : k < m) :
    Lin c ((altTo i j m).eraseIdx k) ((altTo j i m).eraseIdx (m - 1 - k)) := by
  have p1 := point_of hi
  have p2 := point_of hj
  have d1 : ∀ v, sr (ent c) i.toNat (sr (ent c) i.toNat v) = v := sr_sr ((matOk hC).diag i.toNat (by omega))
  have d2 : ∀ v, sr (ent c) j.toNat (sr (ent c) j.toNat v) = v := sr_sr ((matOk hC).diag j.toNat (by omega))
  intro v
  rcases hm with rfl | rfl | rfl | rfl
  · have e : k = 0 ∨ k = 1 := by omega
    rcases e with rfl | rfl <;> rfl
  · have e : k = 0 ∨ k = 1 ∨ k = 2 := by omega
    rcases e with rfl | rfl | rfl
    · rfl
    · show sr (ent c) i.toNat (sr (ent c) i.toNat v) = sr (ent c) j.toNat (sr (ent c) j.toNat v)
      rw [d1, d2]
    · rfl
  · have e : k = 0 ∨ k = 1 ∨ k = 2 ∨ k = 3 := by omega
    rcases e with rfl | rfl | rfl | rfl
    · rfl
    · show sr (ent c) i.toNat (sr (ent c) i.toNat (sr (ent c) j.toNat v)) = sr (ent c) j.toNat (sr (ent c) i.toNat (sr (ent c) i.toNat v))
      rw [d1, d1]
    · show sr (ent c) i.toNat (sr (ent c) j.toNat (sr (ent c) j.toNat v)) = sr (ent c) j.toNat (sr (ent c) j.toNat (sr (ent c) i.toNat v))
      rw [d2, d2]
    · rfl
  · have e : k = 0 ∨ k = 1 ∨ k = 2 ∨ k = 3 ∨ k = 4 ∨ k = 5 := by omega
    have u : ∀ (m : Nat) (x y : Int), altTo x y (m + 1) = x :: altTo y x m := fun m x y => altTo_cons x y m
    rcases e with rfl | rfl | rfl | rfl | rfl | rfl <;> simp only [u, altTo_none, List.eraseIdx, actS, d1, d2] <;> try rfl

/-- One letter of w can be left out for letter i put ahead. -/
def Exch (c : List (List Int)) (i : Int) (w : List Int) : Prop := ∃ k, k < w.length ∧ Lin c (w.eraseIdx k) (i :: w)

theorem Exch.br {c : List (List Int)} {a b : List Int} {i : Int} (h : Br c a b) (H : Exch c i a) : Exch c i b := by
  have hl := h.lin
  have hbr := h.length
  obtain ⟨k, hk, e⟩ := H
  cases h with
  | mk p s t m q hb h2 =>
    obtain ⟨hC, hs, ht, hst, em⟩ := bond_info hb h2
    have p1 := point_of hs
    have p2 := point_of ht
    have halt : Lin c (altTo s t m) (altTo t s m) := fun v => by
      rw [actS_alt, actS_alt, em, alt_rel (matOk hC) (i := s.toNat) (j := t.toNat) (by omega) (by omega) (by omega)]
    have l1 : (altTo s t m).length = m := altTo_len s t m
    have l2 : (altTo t s m).length = m := altTo_len t s m
    by_cases h1 : k < p.length
    · refine ⟨k, by rw [hbr]; exact hk, ?_⟩
      rw [List.eraseIdx_append_of_lt_length h1] at e ⊢
      exact (Lin.app (Lin.refl c _) (Lin.app halt.symm (Lin.refl c q))).trans (e.trans (hl.cons i))
    · rw [List.eraseIdx_append_of_length_le (by omega)] at e
      by_cases h3 : k - p.length < m
      · rw [List.eraseIdx_append_of_lt_length (by omega)] at e
        refine ⟨p.length + (m - 1 - (k - p.length)), by simp [l2]; omega, ?_⟩
        rw [List.eraseIdx_append_of_length_le (by omega), Nat.add_sub_cancel_left, List.eraseIdx_append_of_lt_length (by omega)]
        have hal := alt_erase hC hs ht (m := m) (k := k - p.length) (by rw [em]; exact bondP_cases (by omega)) h3
        exact (Lin.app (Lin.refl c p) (Lin.app hal.symm (Lin.refl c q))).trans (e.trans (hl.cons i))
      · rw [List.eraseIdx_append_of_length_le (by omega)] at e
        refine ⟨k, by rw [hbr]; exact hk, ?_⟩
        rw [List.eraseIdx_append_of_length_le (by omega), List.eraseIdx_append_of_length_le (by omega), l2]
        rw [l1] at e
        exact (Lin.app (Lin.refl c p) (Lin.app halt.symm (Lin.refl c _))).trans (e.trans (hl.cons i))

theorem Exch.conn {c : List (List Int)} {a b : List Int} {i : Int} (h : Conn c a b) (H : Exch c i a) : Exch c i b := by
  induction h with
  | refl => exact H
  | tail _ s ih => exact ih.br s

/-- The exchange of a letter. -/
theorem exchange {c : List (List Int)} (hC : Cartan c) {n : Nat} {v w : List Int} (P : PlayL c n v) (hn : n ≤ 29) (R : Red c n v w) {i : Int} (hi : isPoint c i = true) (h : v.getD i.toNat 0 < 0) : Exch c i w := by
  have p1 := point_of hi
  obtain ⟨m, rfl, Q⟩ := P.down hC (by omega) (i := i.toNat) (by omega) h
  have Rz : Red c m (reflW c i.toNat v) (nf c 30 (reflW c i.toNat v)) := ⟨nf_len hC m _ 30 Q (by omega) (by omega), nf_letters hC m _ 30 Q (by omega) (by omega), nf_image hC m _ 30 Q (by omega) (by omega)⟩
  have Ri := Red.cons hC P (by omega) hi h Rz
  refine Exch.conn (conn_all hC (m + 1) v P hn _ w Ri R) ⟨0, by simp, ?_⟩
  exact (twice hC hi _).symm

theorem lin_image {c : List (List Int)} (hC : Cartan c) {a b : List Int} (h : Lin c a b) (ha : lettersOk c a = true) (hb : lettersOk c b = true) (hla : a.length ≤ 31) (hlb : b.length ≤ 31) : imageOf c a = imageOf c b := by
  apply posOf_inj (by rw [imageOf_length, imageOf_length])
  rw [image_pos hC ha hla, image_pos hC hb hlb]
  exact h _

/-- The deletion of two letters. -/
theorem deletion {c : List (List Int)} (hC : Cartan c) : ∀ (w : List Int) (n : Nat), lettersOk c w = true → w.length ≤ 29 → PlayL c n (imageOf c w) → n < w.length →
    ∃ a b, a < b ∧ b < w.length ∧ Lin c ((w.eraseIdx b).eraseIdx a) w
  | [], _, _, _, _, h => by simp at h
  | s :: q, n, hw, hl, P, hn => by
    obtain ⟨hs, hq⟩ := letters_cons.1 hw
    have p1 := point_of hs
    simp only [List.length_cons] at hl hn
    obtain ⟨m, hm, Q⟩ := play_image hC hq (by omega)
    by_cases h : m < q.length
    · obtain ⟨a, b, h1, h2, h3⟩ := deletion hC q m hq (by omega) Q h
      exact ⟨a + 1, b + 1, by omega, by simp; omega, by simpa using h3.cons s⟩
    · have em : m = q.length := by omega
      have hneg : (imageOf c q).getD s.toNat 0 < 0 := by
        have hne := Q.ne hC (i := s.toNat) (by omega)
        by_cases hlt : (imageOf c q).getD s.toNat 0 < 0
        · exact hlt
        · exfalso
          have U : PlayL c (m + 1) (imageOf c (s :: q)) := by
            rw [imageW_cons]
            refine ⟨by rw [reflW_length]; exact Q.1, ?_⟩
            rw [pos_refl hC Q (by omega) (by omega)]
            exact Q.2.up (matOk hC) (by omega) (by show 0 < (imageOf c q).getD s.toNat 0; omega)
          have := play_unique hC P U (by omega) (by omega)
          omega
      obtain ⟨k, hk, e⟩ := exchange hC Q (by omega) (w := q) ⟨em.symm, hq, rfl⟩ hs hneg
      exact ⟨0, k + 1, by omega, by simp; omega, by simpa using e⟩

theorem letters_rev {c : List (List Int)} {w : List Int} (h : lettersOk c w = true) : lettersOk c w.reverse = true :=
  List.all_eq_true.2 fun x hx => List.all_eq_true.1 h x (List.mem_reverse.1 hx)

end Go.Proofs.YtgliajcgcbnemaaGreatDoor.Hx

namespace Go.Proofs.YtgliajcgcbnemaaGreatDoor.Hx.Lam
open Go.Proofs.YtgliajcgcbnemaaGreatDoor.Hx

/-- n steps, each at a negative number, lead from v to lam. -/
inductive Play (lam : Pos) (N : Nat) (c : Nat → Nat → Int) : Nat → Pos → Prop where
  | done {v : Pos} (h : ∀ i, i < N → v i = lam i) : Play lam N c 0 v
  | step {n : Nat} {v : Pos} (i : Nat) (hi : i < N) (h : v i < 0) (p : Play lam N c n (sr c i v)) : Play lam N c (n + 1) v

theorem Play.up {lam : Pos} {N : Nat} {c : Nat → Nat → Int} (M : MatOk N c) {n i : Nat} {v : Pos} (p : Play lam N c n v) (hi : i < N) (h : 0 < v i) : Play lam N c (n + 1) (sr c i v) :=
  .step i hi (by rw [sr_at (M.diag i hi)]; omega) (by rw [sr_sr (M.diag i hi)]; exact p)

def Good (lam : Pos) (N : Nat) (c : Nat → Nat → Int) (n : Nat) (v : Pos) : Prop := ∀ i, i < N → v i ≠ 0 ∧ (v i < 0 → ∃ m, n = m + 1 ∧ Play lam N c m (sr c i v))

theorem play_inf {lam : Pos} {N : Nat} {c : Nat → Nat → Int} (M : MatOk N c) (n : Nat) (IH : ∀ m, m ≤ n → ∀ v, Play lam N c m v → Good lam N c m v) :
    ∀ k, k ≤ n → ∀ (v : Pos) (i j : Nat), Play lam N c k v → i < N → j < N → (c i j ≤ -2 ∧ c j i ≤ -2) → -3 ≤ c i j → -3 ≤ c j i → v i < 0 → 0 < v j → - c i j * v j ≤ 2 * (- v i) → False := by
  intro k
  induction k with
  | zero =>
    intro _ v i j p hi _ _ _ _ h1 _ _
    obtain ⟨m, hm, _⟩ := (IH 0 (by omega) v p i hi).2 h1
    omega
  | succ k ih =>
    intro hk v i j p hi hj hc h3 h4 h1 h2 hb
    obtain ⟨m, hm, q⟩ := (IH (k + 1) hk v p i hi).2 h1
    have : m = k := by omega
    subst this
    refine ih (by omega) (sr c i v) j i q hj hi ⟨hc.2, hc.1⟩ h4 h3 ?_ ?_ ?_
    · show v j - v i * c j i < 0
      have e1 : c i j = -2 ∨ c i j = -3 := by omega
      have e2 : c j i = -2 ∨ c j i = -3 := by omega
      rcases e1 with e1 | e1 <;> rcases e2 with e2 | e2 <;> rw [e1] at hb <;> rw [e2] <;> omega
    · rw [sr_at (M.diag i hi)]
      omega
    · rw [sr_at (M.diag i hi)]
      show - c j i * - v i ≤ 2 * -(v j - v i * c j i)
      have e1 : c i j = -2 ∨ c i j = -3 := by omega
      have e2 : c j i = -2 ∨ c j i = -3 := by omega
      rcases e1 with e1 | e1 <;> rcases e2 with e2 | e2 <;> rw [e1] at hb <;> rw [e2] <;> omega

section
variable {lam : Pos} {N : Nat} {c : Nat → Nat → Int} {n i j : Nat} {v : Pos}

theorem down_i (M : MatOk N c) (IH : ∀ m, m ≤ n → ∀ v, Play lam N c m v → Good lam N c m v) (hi : i < N) (a b a' : Int) {m : Nat} (hm : m ≤ n) (p : Play lam N c m (cb c i j v a b)) (h : a' - a = v i - 2 * a - b * c i j) (hl : a' ≤ a) :
    a' < a ∧ ∃ k, m = k + 1 ∧ Play lam N c k (cb c i j v a' b) := by
  have e : cb c i j v a b i = a' - a := by
    show v i - a * c i i - b * c i j = a' - a
    rw [M.diag i hi]
    omega
  have g := IH m hm _ p i hi
  rw [e] at g
  refine ⟨by omega, ?_⟩
  obtain ⟨k, hk, q⟩ := g.2 (by omega)
  rw [cb_i c i j v a b a' (by omega)] at q
  exact ⟨k, hk, q⟩
theorem down_j (M : MatOk N c) (IH : ∀ m, m ≤ n → ∀ v, Play lam N c m v → Good lam N c m v) (hj : j < N) (a b b' : Int) {m : Nat} (hm : m ≤ n) (p : Play lam N c m (cb c i j v a b)) (h : b' - b = v j - a * c j i - 2 * b) (hl : b' ≤ b) :
    b' < b ∧ ∃ k, m = k + 1 ∧ Play lam N c k (cb c i j v a b') := by
  have e : cb c i j v a b j = b' - b := by
    show v j - a * c j i - b * c j j = b' - b
    rw [M.diag j hj]
    omega
  have g := IH m hm _ p j hj
  rw [e] at g
  refine ⟨by omega, ?_⟩
  obtain ⟨k, hk, q⟩ := g.2 (by omega)
  rw [cb_j c i j v a b b' (by omega)] at q
  exact ⟨k, hk, q⟩
theorem up_i (M : MatOk N c) (hi : i < N) (a b a' : Int) {m : Nat} (p : Play lam N c m (cb c i j v a b)) (h : a' - a = v i - 2 * a - b * c i j) (hl : a < a') : Play lam N c (m + 1) (cb c i j v a' b) := by
  have e : cb c i j v a b i = a' - a := by
    show v i - a * c i i - b * c i j = a' - a
    rw [M.diag i hi]
    omega
  have := p.up M hi (by rw [e]; omega)
  rwa [cb_i c i j v a b a' (by omega)] at this
theorem up_j (M : MatOk N c) (hj : j < N) (a b b' : Int) {m : Nat} (p : Play lam N c m (cb c i j v a b)) (h : b' - b = v j - a * c j i - 2 * b) (hl : b < b') : Play lam N c (m + 1) (cb c i j v a b') := by
  have e : cb c i j v a b j = b' - b := by
    show v j - a * c j i - b * c j j = b' - b
    rw [M.diag j hj]
    omega
  have := p.up M hj (by rw [e]; omega)
  rwa [cb_j c i j v a b b' (by omega)] at this


theorem play_pair (M : MatOk N c) (IH : ∀ m, m ≤ n → ∀ v, Play lam N c m v → Good lam N c m v) (hi : i < N) (hj : j < N) (hij : i ≠ j) (hb : v j < 0) (p : Play lam N c n (sr c j v)) (ha : v i ≤ 0) :
    v i < 0 ∧ Play lam N c n (sr c i v) := by
  have o1 := M.off i j hi hj hij
  have o2 := M.off j i hj hi (Ne.symm hij)
  have z1 := M.zero i j hi hj
  have z2 := M.zero j i hj hi
  by_cases inf : c i j ≤ -2 ∧ c j i ≤ -2
  · exfalso
    refine play_inf M n IH n (Nat.le_refl _) (sr c j v) i j p hi hj inf o1.1 o2.1 ?_ ?_ ?_
    · show v i - v j * c i j < 0
      have e1 : c i j = -2 ∨ c i j = -3 := by omega
      rcases e1 with e1 | e1 <;> rw [e1] <;> omega
    · rw [sr_at (M.diag j hj)]
      omega
    · rw [sr_at (M.diag j hj)]
      show - c i j * - v j ≤ 2 * - (v i - v j * c i j)
      have e1 : c i j = -2 ∨ c i j = -3 := by omega
      rcases e1 with e1 | e1 <;> rw [e1] <;> omega
  rw [sr_cb' c i j v] at p
  rw [sr_cb c i j v]
  generalize hA : v i = a at *
  generalize hB : v j = b at *
  have fin : (c i j = 0 ∧ c j i = 0) ∨ (c i j = -1 ∧ c j i = -1) ∨ (c i j = -2 ∧ c j i = -1) ∨ (c i j = -1 ∧ c j i = -2) ∨ (c i j = -3 ∧ c j i = -1) ∨ (c i j = -1 ∧ c j i = -3) := by omega
  rcases fin with ⟨e1, e2⟩ | ⟨e1, e2⟩ | ⟨e1, e2⟩ | ⟨e1, e2⟩ | ⟨e1, e2⟩ | ⟨e1, e2⟩
  · obtain ⟨d1, k1, m1, p⟩ := down_i M IH hi 0 b a (by omega) p (by rw [e1, hA]; omega) (by omega)
    refine ⟨by omega, ?_⟩
    have p := up_j M hj a b 0 p (by rw [e2, hB]; omega) (by omega)
    rw [m1]
    exact p
  · obtain ⟨d1, k1, m1, p⟩ := down_i M IH hi 0 b (a + b) (by omega) p (by rw [e1, hA]; omega) (by omega)
    obtain ⟨d2, k2, m2, p⟩ := down_j M IH hj (a + b) b (a + b) (by omega) p (by rw [e2, hB]; omega) (by omega)
    refine ⟨by omega, ?_⟩
    have p := up_i M hi (a + b) (a + b) a p (by rw [e1, hA]; omega) (by omega)
    have p := up_j M hj a (a + b) 0 p (by rw [e2, hB]; omega) (by omega)
    rw [m1, m2]
    exact p
  · obtain ⟨d1, k1, m1, p⟩ := down_i M IH hi 0 b (a + 2 * b) (by omega) p (by rw [e1, hA]; omega) (by omega)
    obtain ⟨d2, k2, m2, p⟩ := down_j M IH hj (a + 2 * b) b (a + 2 * b) (by omega) p (by rw [e2, hB]; omega) (by omega)
    obtain ⟨d3, k3, m3, p⟩ := down_i M IH hi (a + 2 * b) (a + 2 * b) (2 * a + 2 * b) (by omega) p (by rw [e1, hA]; omega) (by omega)
    refine ⟨by omega, ?_⟩
    have p := up_j M hj (2 * a + 2 * b) (a + 2 * b) (a + b) p (by rw [e2, hB]; omega) (by omega)
    have p := up_i M hi (2 * a + 2 * b) (a + b) a p (by rw [e1, hA]; omega) (by omega)
    have p := up_j M hj a (a + b) 0 p (by rw [e2, hB]; omega) (by omega)
    rw [m1, m2, m3]
    exact p
  · obtain ⟨d1, k1, m1, p⟩ := down_i M IH hi 0 b (a + b) (by omega) p (by rw [e1, hA]; omega) (by omega)
    obtain ⟨d2, k2, m2, p⟩ := down_j M IH hj (a + b) b (2 * a + 2 * b) (by omega) p (by rw [e2, hB]; omega) (by omega)
    obtain ⟨d3, k3, m3, p⟩ := down_i M IH hi (a + b) (2 * a + 2 * b) (2 * a + b) (by omega) p (by rw [e1, hA]; omega) (by omega)
    refine ⟨by omega, ?_⟩
    have p := up_j M hj (2 * a + b) (2 * a + 2 * b) (2 * a + b) p (by rw [e2, hB]; omega) (by omega)
    have p := up_i M hi (2 * a + b) (2 * a + b) a p (by rw [e1, hA]; omega) (by omega)
    have p := up_j M hj a (2 * a + b) 0 p (by rw [e2, hB]; omega) (by omega)
    rw [m1, m2, m3]
    exact p
  · obtain ⟨d1, k1, m1, p⟩ := down_i M IH hi 0 b (a + 3 * b) (by omega) p (by rw [e1, hA]; omega) (by omega)
    obtain ⟨d2, k2, m2, p⟩ := down_j M IH hj (a + 3 * b) b (a + 3 * b) (by omega) p (by rw [e2, hB]; omega) (by omega)
    obtain ⟨d3, k3, m3, p⟩ := down_i M IH hi (a + 3 * b) (a + 3 * b) (3 * a + 6 * b) (by omega) p (by rw [e1, hA]; omega) (by omega)
    obtain ⟨d4, k4, m4, p⟩ := down_j M IH hj (3 * a + 6 * b) (a + 3 * b) (2 * a + 4 * b) (by omega) p (by rw [e2, hB]; omega) (by omega)
    obtain ⟨d5, k5, m5, p⟩ := down_i M IH hi (3 * a + 6 * b) (2 * a + 4 * b) (4 * a + 6 * b) (by omega) p (by rw [e1, hA]; omega) (by omega)
    refine ⟨by omega, ?_⟩
    have p := up_j M hj (4 * a + 6 * b) (2 * a + 4 * b) (2 * a + 3 * b) p (by rw [e2, hB]; omega) (by omega)
    have p := up_i M hi (4 * a + 6 * b) (2 * a + 3 * b) (3 * a + 3 * b) p (by rw [e1, hA]; omega) (by omega)
    have p := up_j M hj (3 * a + 3 * b) (2 * a + 3 * b) (a + b) p (by rw [e2, hB]; omega) (by omega)
    have p := up_i M hi (3 * a + 3 * b) (a + b) a p (by rw [e1, hA]; omega) (by omega)
    have p := up_j M hj a (a + b) 0 p (by rw [e2, hB]; omega) (by omega)
    rw [m1, m2, m3, m4, m5]
    exact p
  · obtain ⟨d1, k1, m1, p⟩ := down_i M IH hi 0 b (a + b) (by omega) p (by rw [e1, hA]; omega) (by omega)
    obtain ⟨d2, k2, m2, p⟩ := down_j M IH hj (a + b) b (3 * a + 3 * b) (by omega) p (by rw [e2, hB]; omega) (by omega)
    obtain ⟨d3, k3, m3, p⟩ := down_i M IH hi (a + b) (3 * a + 3 * b) (3 * a + 2 * b) (by omega) p (by rw [e1, hA]; omega) (by omega)
    obtain ⟨d4, k4, m4, p⟩ := down_j M IH hj (3 * a + 2 * b) (3 * a + 3 * b) (6 * a + 4 * b) (by omega) p (by rw [e2, hB]; omega) (by omega)
    obtain ⟨d5, k5, m5, p⟩ := down_i M IH hi (3 * a + 2 * b) (6 * a + 4 * b) (4 * a + 2 * b) (by omega) p (by rw [e1, hA]; omega) (by omega)
    refine ⟨by omega, ?_⟩
    have p := up_j M hj (4 * a + 2 * b) (6 * a + 4 * b) (6 * a + 3 * b) p (by rw [e2, hB]; omega) (by omega)
    have p := up_i M hi (4 * a + 2 * b) (6 * a + 3 * b) (3 * a + b) p (by rw [e1, hA]; omega) (by omega)
    have p := up_j M hj (3 * a + b) (6 * a + 3 * b) (3 * a + b) p (by rw [e2, hB]; omega) (by omega)
    have p := up_i M hi (3 * a + b) (3 * a + b) a p (by rw [e1, hA]; omega) (by omega)
    have p := up_j M hj a (3 * a + b) 0 p (by rw [e2, hB]; omega) (by omega)
    rw [m1, m2, m3, m4, m5]
    exact p
end

theorem play_good {lam : Pos} (hp : ∀ i, 0 < lam i) {N : Nat} {c : Nat → Nat → Int} (M : MatOk N c) : ∀ (n : Nat) (v : Pos), Play lam N c n v → Good lam N c n v := by
  intro n
  induction n using Nat.strongRecOn with
  | ind n ih =>
    intro v p i hi
    cases p with
    | done h =>
      rw [h i hi]
      have := hp i
      exact ⟨by omega, fun h => absurd h (by omega)⟩
    | step j hj hb p =>
      rename_i n
      by_cases e : i = j
      · subst e
        exact ⟨by omega, fun _ => ⟨n, rfl, p⟩⟩
      · by_cases ha : v i ≤ 0
        · obtain ⟨h1, h2⟩ := play_pair M (fun m hm => ih m (by omega)) hi hj e hb p ha
          exact ⟨by omega, fun _ => ⟨n, rfl, h2⟩⟩
        · exact ⟨by omega, fun h => absurd h (by omega)⟩

theorem Play.down {lam : Pos} {N : Nat} {c : Nat → Nat → Int} (hp : ∀ i, 0 < lam i) (M : MatOk N c) {n i : Nat} {v : Pos} (p : Play lam N c n v) (hi : i < N) (h : v i < 0) : ∃ m, n = m + 1 ∧ Play lam N c m (sr c i v) := (play_good hp M n v p i hi).2 h
theorem Play.ne {lam : Pos} {N : Nat} {c : Nat → Nat → Int} (hp : ∀ i, 0 < lam i) (M : MatOk N c) {n i : Nat} {v : Pos} (p : Play lam N c n v) (hi : i < N) : v i ≠ 0 := (play_good hp M n v p i hi).1

/-- Whatever step: at most one more. -/
theorem Play.any {lam : Pos} {N : Nat} {c : Nat → Nat → Int} (hp : ∀ i, 0 < lam i) (M : MatOk N c) {n i : Nat} {v : Pos} (p : Play lam N c n v) (hi : i < N) : ∃ m, m ≤ n + 1 ∧ Play lam N c m (sr c i v) := by
  by_cases h : v i < 0
  · obtain ⟨m, hm, q⟩ := p.down hp M hi h
    exact ⟨m, by omega, q⟩
  · have := p.ne hp M hi
    exact ⟨n + 1, Nat.le_refl _, p.up M hi (by omega)⟩

theorem Play.stop {lam : Pos} {N : Nat} {c : Nat → Nat → Int} {n : Nat} {v : Pos} (p : Play lam N c n v) (h : ∀ i, i < N → 0 ≤ v i) : n = 0 ∧ ∀ i, i < N → v i = lam i := by
  cases p with
  | done h => exact ⟨rfl, h⟩
  | step i hi hl _ => exact absurd (h i hi) (by omega)


end Go.Proofs.YtgliajcgcbnemaaGreatDoor.Hx.Lam

namespace Go.Proofs.YtgliajcgcbnemaaGreatDoor.Hx
open Go.RowKit

/-- The sum of products over the first places. -/
def dotP : Nat → Pos → Pos → Int
  | 0, _, _ => 0
  | n + 1, f, g => dotP n f g + f n * g n

theorem dotP_congr {f g f' g' : Pos} : ∀ (N : Nat), (∀ k, k < N → f k = f' k ∧ g k = g' k) → dotP N f g = dotP N f' g'
  | 0, _ => rfl
  | n + 1, h => by
    obtain ⟨h1, h2⟩ := h n (by omega)
    simp only [dotP, dotP_congr n (fun k hk => h k (by omega)), h1, h2]

theorem dotP_sub (f g : Pos) (a : Int) (u : Pos) : ∀ (N : Nat), dotP N (fun k => f k - a * u k) g = dotP N f g - a * dotP N u g
  | 0 => by simp [dotP]
  | n + 1 => by
    simp only [dotP, dotP_sub f g a u n]
    grind

theorem dotP_subr (f g : Pos) (a : Int) (u : Pos) : ∀ (N : Nat), dotP N f (fun k => g k - a * u k) = dotP N f g - a * dotP N f u
  | 0 => by simp [dotP]
  | n + 1 => by
    simp only [dotP, dotP_subr f g a u n]
    grind

/-- The place at which one number is 1. -/
def unitP (i : Nat) : Pos := fun k => if k = i then 1 else 0

theorem dotP_unit (f : Pos) (i : Nat) : ∀ (N : Nat), dotP N f (unitP i) = if i < N then f i else 0
  | 0 => by simp [dotP]
  | n + 1 => by
    simp only [dotP, dotP_unit f i n, unitP]
    by_cases h : n = i
    · subst h
      simp
    · rw [if_neg h]
      by_cases h2 : i < n
      · rw [if_pos h2, if_pos (by omega)]
        omega
      · rw [if_neg h2, if_neg (by omega)]
        omega

theorem dotP_comm (f g : Pos) : ∀ (N : Nat), dotP N f g = dotP N g f
  | 0 => rfl
  | n + 1 => by
    simp only [dotP, dotP_comm f g n, Int.mul_comm]

/-- The mirror at i, of a root. -/
def mr (N : Nat) (c : Nat → Nat → Int) (i : Nat) (r : Pos) : Pos := fun k => r k - dotP N (c i) r * unitP i k

def tr (c : Nat → Nat → Int) : Nat → Nat → Int := fun a b => c b a

theorem dotP_mr {N : Nat} (c : Nat → Nat → Int) {i : Nat} (hi : i < N) (v r : Pos) : dotP N v (mr N c i r) = dotP N (sr (tr c) i v) r := by
  unfold mr sr tr
  rw [dotP_subr, dotP_sub, dotP_unit, if_pos hi, Int.mul_comm]

def actP (N : Nat) (c : Nat → Nat → Int) : List Int → Pos → Pos
  | [], r => r
  | i :: w, r => mr N c i.toNat (actP N c w r)

theorem actP_app (N : Nat) (c : Nat → Nat → Int) : ∀ (a b : List Int) (r : Pos), actP N c (a ++ b) r = actP N c a (actP N c b r)
  | [], _, _ => rfl
  | i :: a, b, r => by simp only [List.cons_append, actP, actP_app N c a b r]

theorem dotP_act {c : List (List Int)} : ∀ (w : List Int) (v r : Pos), lettersOk c w = true → dotP c.length v (actP c.length (ent c) w r) = dotP c.length (actS (tr (ent c)) w.reverse v) r
  | [], _, _, _ => rfl
  | i :: w, v, r, h => by
    obtain ⟨h1, h2⟩ := letters_cons.1 h
    have p1 := point_of h1
    rw [List.reverse_cons, actS_app]
    simp only [actP, actS]
    rw [dotP_mr (ent c) (by omega), dotP_act w _ r h2]

theorem matOk_tr {N : Nat} {c : Nat → Nat → Int} (M : MatOk N c) : MatOk N (tr c) :=
  ⟨M.diag, fun i j hi hj hij => M.off j i hj hi (Ne.symm hij), fun i j hi hj h => M.zero j i hj hi h⟩

theorem Lam.play_word {lam : Pos} (hp : ∀ i, 0 < lam i) {c : List (List Int)} {m : Nat → Nat → Int} (M : MatOk c.length m) : ∀ (w : List Int), lettersOk c w = true → ∃ n, Lam.Play lam c.length m n (actS m w lam)
  | [], _ => ⟨0, .done fun _ _ => rfl⟩
  | i :: w, h => by
    obtain ⟨h1, h2⟩ := letters_cons.1 h
    have p1 := point_of h1
    obtain ⟨n, P⟩ := Lam.play_word hp M w h2
    obtain ⟨k, _, Q⟩ := P.any hp M (i := i.toNat) (by omega)
    exact ⟨k, Q⟩

def sumPos (r : Pos) : Nat → Int
  | 0 => 0
  | n + 1 => sumPos r n + (if 0 < r n then r n else 0)
def sumNeg (r : Pos) : Nat → Int
  | 0 => 0
  | n + 1 => sumNeg r n + (if r n < 0 then - r n else 0)

theorem sumPos_ge (r : Pos) : ∀ (N : Nat), 0 ≤ sumPos r N ∧ ∀ k, k < N → r k ≤ sumPos r N
  | 0 => ⟨Int.le_refl _, fun k hk => by omega⟩
  | n + 1 => by
    obtain ⟨h1, h2⟩ := sumPos_ge r n
    simp only [sumPos]
    refine ⟨by split <;> omega, fun k hk => ?_⟩
    by_cases e : k = n
    · subst e
      split <;> omega
    · have := h2 k (by omega)
      split <;> omega
theorem sumNeg_ge (r : Pos) : ∀ (N : Nat), 0 ≤ sumNeg r N ∧ ∀ k, k < N → - r k ≤ sumNeg r N
  | 0 => ⟨Int.le_refl _, fun k hk => by omega⟩
  | n + 1 => by
    obtain ⟨h1, h2⟩ := sumNeg_ge r n
    simp only [sumNeg]
    refine ⟨by split <;> omega, fun k hk => ?_⟩
    by_cases e : k = n
    · subst e
      split <;> omega
    · have := h2 k (by omega)
      split <;> omega

theorem dotP_mix (r : Pos) (a b : Int) : ∀ (N : Nat), dotP N (fun k => if 0 < r k then a else if r k < 0 then b else 1) r = a * sumPos r N - b * sumNeg r N
  | 0 => by simp [dotP, sumPos, sumNeg]
  | n + 1 => by
    simp only [dotP, dotP_mix r a b n, sumPos, sumNeg]
    by_cases h : 0 < r n
    · rw [if_pos h, if_pos h, if_neg (by omega)]
      grind
    · by_cases h2 : r n < 0
      · rw [if_neg h, if_pos h2, if_neg h, if_pos h2]
        grind
      · have e : r n = 0 := by omega
        rw [if_neg h, if_neg h2, if_neg h, if_neg h2, e]
        simp

/-- A place whose sum with whatever places above zero is not zero has numbers of one sign. -/
theorem coherent {N : Nat} {r : Pos} (h : ∀ lam : Pos, (∀ i, 0 < lam i) → dotP N lam r ≠ 0) : (∀ k, k < N → 0 ≤ r k) ∨ (∀ k, k < N → r k ≤ 0) := by
  by_cases h1 : ∀ k, k < N → 0 ≤ r k
  · exact Or.inl h1
  by_cases h2 : ∀ k, k < N → r k ≤ 0
  · exact Or.inr h2
  exfalso
  have e1 : ∃ k, k < N ∧ r k < 0 := by
    refine Classical.byContradiction fun hn => h1 fun k hk => ?_
    by_cases g : 0 ≤ r k
    · exact g
    · exact absurd ⟨k, hk, by omega⟩ hn
  have e2 : ∃ k, k < N ∧ 0 < r k := by
    refine Classical.byContradiction fun hn => h2 fun k hk => ?_
    by_cases g : r k ≤ 0
    · exact g
    · exact absurd ⟨k, hk, by omega⟩ hn
  obtain ⟨k1, l1, g1⟩ := e1
  obtain ⟨k2, l2, g2⟩ := e2
  have p1 := (sumPos_ge r N).2 k2 l2
  have p2 := (sumNeg_ge r N).2 k1 l1
  refine h (fun k => if 0 < r k then sumNeg r N else if r k < 0 then sumPos r N else 1) (fun i => ?_) ?_
  · show 0 < (if 0 < r i then sumNeg r N else if r i < 0 then sumPos r N else 1)
    split
    · omega
    · split <;> omega
  · rw [dotP_mix, Int.mul_comm]
    omega

def PosR (N : Nat) (r : Pos) : Prop := ∀ k, k < N → 0 ≤ r k

theorem root_dot {c : List (List Int)} {w : List Int} (hw : lettersOk c w = true) {i : Nat} (hi : i < c.length) (v : Pos) : dotP c.length v (actP c.length (ent c) w (unitP i)) = actS (tr (ent c)) w.reverse v i := by
  rw [dotP_act w v _ hw, dotP_unit, if_pos hi]

/-- A root's numbers are all at least zero or all at most zero. -/
theorem root_sign {c : List (List Int)} (hC : Cartan c) {w : List Int} (hw : lettersOk c w = true) {i : Nat} (hi : i < c.length) :
    PosR c.length (actP c.length (ent c) w (unitP i)) ∨ (∀ k, k < c.length → actP c.length (ent c) w (unitP i) k ≤ 0) := by
  refine coherent fun lam hp => ?_
  rw [root_dot hw hi]
  obtain ⟨n, P⟩ := Lam.play_word hp (matOk_tr (matOk hC)) w.reverse (letters_rev hw)
  exact P.ne hp (matOk_tr (matOk hC)) hi

theorem dotP_ones_pos {r : Pos} : ∀ (N : Nat), PosR N r → 0 ≤ dotP N (fun _ => 1) r
  | 0, _ => Int.le_refl _
  | n + 1, h => by
    have := dotP_ones_pos n (fun k hk => h k (by omega))
    have := h n (by omega)
    simp only [dotP]
    omega

theorem dotP_ones_neg {r : Pos} : ∀ (N : Nat), (∀ k, k < N → r k ≤ 0) → dotP N (fun _ => 1) r ≤ 0
  | 0, _ => Int.le_refl _
  | n + 1, h => by
    have := dotP_ones_neg n (fun k hk => h k (by omega))
    have := h n (by omega)
    simp only [dotP]
    omega

/-- The sign of a root is that of its height, which is not zero. -/
theorem root_height {c : List (List Int)} (hC : Cartan c) {w : List Int} (hw : lettersOk c w = true) {i : Nat} (hi : i < c.length) :
    dotP c.length (fun _ => 1) (actP c.length (ent c) w (unitP i)) ≠ 0 ∧ (PosR c.length (actP c.length (ent c) w (unitP i)) ↔ 0 < dotP c.length (fun _ => 1) (actP c.length (ent c) w (unitP i))) := by
  have hne : dotP c.length (fun _ => 1) (actP c.length (ent c) w (unitP i)) ≠ 0 := by
    rw [root_dot hw hi]
    have hp : ∀ i : Nat, 0 < (fun _ => 1 : Pos) i := fun _ => (by decide : (0 : Int) < 1)
    obtain ⟨n, P⟩ := Lam.play_word hp (matOk_tr (matOk hC)) w.reverse (letters_rev hw)
    exact P.ne hp (matOk_tr (matOk hC)) hi
  refine ⟨hne, fun h => ?_, fun h => ?_⟩
  · have := dotP_ones_pos _ h
    omega
  · rcases root_sign hC hw hi with k | k
    · exact k
    · have := dotP_ones_neg _ k
      omega

end Go.Proofs.YtgliajcgcbnemaaGreatDoor.Hx
