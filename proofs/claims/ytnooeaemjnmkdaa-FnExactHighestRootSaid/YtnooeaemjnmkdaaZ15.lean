/-
  Words as maps of all places: the exchange of a letter, the deletion of two letters, and that the image of rho tells the map. Plain theory.
  The game of signs from whatever places above zero, and that the numbers of a root all have one sign. Plain theory.
  Roots as maps of places: a root's numbers all have one sign, and the sign is told by the length of a word. Plain theory.
  The matrix turned over: the same words are reduced, so a root and its coroot have one sign; a root above zero that is not simple goes down at some letter. Plain theory.
-/
import Derived.Test.YtnooeaemjnmkdaaZ14
namespace Go.Proofs.Ytnooeaemjnmkdaa.Hx
open Go.RowKit

/-- Two words do the same to every place. -/
def Lin (c : List (List Int)) (a b : List Int) : Prop := ∀ v : Pos, actS (ent c) a v = actS (ent c) b v

theorem Lin.refl (c : List (List Int)) (a : List Int) : Lin c a a := fun _ => rfl
theorem Lin.symm {c : List (List Int)} {a b : List Int} (h : Lin c a b) : Lin c b a := fun v => (h v).symm
theorem Lin.trans {c : List (List Int)} {a b d : List Int} (h : Lin c a b) (k : Lin c b d) : Lin c a d := fun v => (h v).trans (k v)
theorem Lin.app {c : List (List Int)} {a b a' b' : List Int} (h : Lin c a b) (k : Lin c a' b') : Lin c (a ++ a') (b ++ b') := fun v => by rw [actS_app, actS_app, k v, h]
theorem Lin.cons {c : List (List Int)} {a b : List Int} (i : Int) (h : Lin c a b) : Lin c (i :: a) (i :: b) := Lin.app (Lin.refl c [i]) h

theorem Br.lin {c : List (List Int)} {a b : List Int} (h : Br c a b) : Lin c a b := by
  cases h with
  | mk p i j m q hb h2 =>
    obtain ⟨hC, hi, hj, hij, e⟩ := bond_info hb h2
    have p1 := point_of hi
    have p2 := point_of hj
    refine Lin.app (Lin.refl c p) (Lin.app (fun v => ?_) (Lin.refl c q))
    rw [actS_alt, actS_alt, e, alt_rel (matOk hC) (i := i.toNat) (j := j.toNat) (by omega) (by omega) (by omega)]

theorem Conn.lin {c : List (List Int)} {a b : List Int} (h : Conn c a b) : Lin c a b := by
  induction h with
  | refl => exact Lin.refl c _
  | tail _ s ih => exact ih.trans s.lin
theorem Conn.letters {c : List (List Int)} {a b : List Int} (h : Conn c a b) (ha : lettersOk c a = true) : lettersOk c b = true := by
  induction h with
  | refl => exact ha
  | tail _ s ih => exact s.letters ih

theorem twice {c : List (List Int)} (hC : Cartan c) {i : Int} (hi : isPoint c i = true) (w : List Int) : Lin c (i :: i :: w) w := fun v => by
  have p1 := point_of hi
  exact sr_sr ((matOk hC).diag i.toNat (by omega)) _

theorem bondP_cases {p : Int} (h : 2 ≤ bondP p) : bondP p = 2 ∨ bondP p = 3 ∨ bondP p = 4 ∨ bondP p = 6 := by
  unfold bondP at h ⊢
  split
  · exact Or.inl rfl
  · split
    · exact Or.inr (Or.inl rfl)
    · split
      · exact Or.inr (Or.inr (Or.inl rfl))
      · split
        · exact Or.inr (Or.inr (Or.inr rfl))
        · rename_i h1 h2 h3 h4
          rw [if_neg h1, if_neg h2, if_neg h3, if_neg h4] at h
          omega

/-- A letter less of one row of turns is a letter less of the other. -/
theorem alt_erase {c : List (List Int)} (hC : Cartan c) {i j : Int} (hi : isPoint c i = true) (hj : isPoint c j = true) {m : Nat} (hm : m = 2 ∨ m = 3 ∨ m = 4 ∨ m = 6) {k : Nat} (hk : k < m) :
    Lin c ((altTo i j m).eraseIdx k) ((altTo j i m).eraseIdx (m - 1 - k)) := by
  have p1 := point_of hi
  have p2 := point_of hj
  have d1 : ∀ v, sr (ent c) i.toNat (sr (ent c) i.toNat v) = v := sr_sr ((matOk hC).diag i.toNat (by omega))
  have d2 : ∀ v, sr (ent c) j.toNat (sr (ent c) j.toNat v) = v := sr_sr ((matOk hC).diag j.toNat (by omega))
  intro v
  rcases hm with rfl | rfl | rfl | rfl
  · have e : k = 0 ∨ k = 1 := by omega
    rcases e with rfl | rfl <;> rfl
  · have e : k = 0 ∨ k = 1 ∨ k = 2 := by omega
    rcases e with rfl | rfl | rfl
    · rfl
    · show sr (ent c) i.toNat (sr (ent c) i.toNat v) = sr (ent c) j.toNat (sr (ent c) j.toNat v)
      rw [d1, d2]
    · rfl
  · have e : k = 0 ∨ k = 1 ∨ k = 2 ∨ k = 3 := by omega
    rcases e with rfl | rfl | rfl | rfl
    · rfl
    · show sr (ent c) i.toNat (sr (ent c) i.toNat (sr (ent c) j.toNat v)) = sr (ent c) j.toNat (sr (ent c) i.toNat (sr (ent c) i.toNat v))
      rw [d1, d1]
    · show sr (ent c) i.toNat (sr (ent c) j.toNat (sr (ent c) j.toNat v)) = sr (ent c) j.toNat (sr (ent c) j.toNat (sr (ent c) i.toNat v))
      rw [d2, d2]
    · rfl
  · have e : k = 0 ∨ k = 1 ∨ k = 2 ∨ k = 3 ∨ k = 4 ∨ k = 5 := by omega
    have u : ∀ (m : Nat) (x y : Int), altTo x y (m + 1) = x :: altTo y x m := fun m x y => altTo_cons x y m
    rcases e with rfl | rfl | rfl | rfl | rfl | rfl <;> simp only [u, altTo_none, List.eraseIdx, actS, d1, d2] <;> try rfl

/-- One letter of w can be left out for letter i put ahead. -/
def Exch (c : List (List Int)) (i : Int) (w : List Int) : Prop := ∃ k, k < w.length ∧ Lin c (w.eraseIdx k) (i :: w)

theorem Exch.br {c : List (List Int)} {a b : List Int} {i : Int} (h : Br c a b) (H : Exch c i a) : Exch c i b := by
  have hl := h.lin
  have hbr := h.length
  obtain ⟨k, hk, e⟩ := H
  cases h with
  | mk p s t m q hb h2 =>
    obtain ⟨hC, hs, ht, hst, em⟩ := bond_info hb h2
    have p1 := point_of hs
    have p2 := point_of ht
    have halt : Lin c (altTo s t m) (altTo t s m) := fun v => by
      rw [actS_alt, actS_alt, em, alt_rel (matOk hC) (i := s.toNat) (j := t.toNat) (by omega) (by omega) (by omega)]
    have l1 : (altTo s t m).length = m := altTo_len s t m
    have l2 : (altTo t s m).length = m := altTo_len t s m
    by_cases h1 : k < p.length
    · refine ⟨k, by rw [hbr]; exact hk, ?_⟩
      rw [List.eraseIdx_append_of_lt_length h1] at e ⊢
      exact (Lin.app (Lin.refl c _) (Lin.app halt.symm (Lin.refl c q))).trans (e.trans (hl.cons i))
    · rw [List.eraseIdx_append_of_length_le (by omega)] at e
      by_cases h3 : k - p.length < m
      · rw [List.eraseIdx_append_of_lt_length (by omega)] at e
        refine ⟨p.length + (m - 1 - (k - p.length)), by simp [l2]; omega, ?_⟩
        rw [List.eraseIdx_append_of_length_le (by omega), Nat.add_sub_cancel_left, List.eraseIdx_append_of_lt_length (by omega)]
        have hal := alt_erase hC hs ht (m := m) (k := k - p.length) (by rw [em]; exact bondP_cases (by omega)) h3
        exact (Lin.app (Lin.refl c p) (Lin.app hal.symm (Lin.refl c q))).trans (e.trans (hl.cons i))
      · rw [List.eraseIdx_append_of_length_le (by omega)] at e
        refine ⟨k, by rw [hbr]; exact hk, ?_⟩
        rw [List.eraseIdx_append_of_length_le (by omega), List.eraseIdx_append_of_length_le (by omega), l2]
        rw [l1] at e
        exact (Lin.app (Lin.refl c p) (Lin.app halt.symm (Lin.refl c _))).trans (e.trans (hl.cons i))

theorem Exch.conn {c : List (List Int)} {a b : List Int} {i : Int} (h : Conn c a b) (H : Exch c i a) : Exch c i b := by
  induction h with
  | refl => exact H
  | tail _ s ih => exact ih.br s

/-- The exchange of a letter. -/
theorem exchange {c : List (List Int)} (hC : Cartan c) {n : Nat} {v w : List Int} (P : PlayL c n v) (hn : n ≤ 29) (R : Red c n v w) {i : Int} (hi : isPoint c i = true) (h : v.getD i.toNat 0 < 0) : Exch c i w := by
  have p1 := point_of hi
  obtain ⟨m, rfl, Q⟩ := P.down hC (by omega) (i := i.toNat) (by omega) h
  have Rz : Red c m (reflW c i.toNat v) (nf c 30 (reflW c i.toNat v)) := ⟨nf_len hC m _ 30 Q (by omega) (by omega), nf_letters hC m _ 30 Q (by omega) (by omega), nf_image hC m _ 30 Q (by omega) (by omega)⟩
  have Ri := Red.cons hC P (by omega) hi h Rz
  refine Exch.conn (conn_all hC (m + 1) v P hn _ w Ri R) ⟨0, by simp, ?_⟩
  exact (twice hC hi _).symm

theorem lin_image {c : List (List Int)} (hC : Cartan c) {a b : List Int} (h : Lin c a b) (ha : lettersOk c a = true) (hb : lettersOk c b = true) (hla : a.length ≤ 31) (hlb : b.length ≤ 31) : imageOf c a = imageOf c b := by
  apply posOf_inj (by rw [imageOf_length, imageOf_length])
  rw [image_pos hC ha hla, image_pos hC hb hlb]
  exact h _

theorem letters_erase {c : List (List Int)} {w : List Int} (h : lettersOk c w = true) (k : Nat) : lettersOk c (w.eraseIdx k) = true :=
  List.all_eq_true.2 fun x hx => List.all_eq_true.1 h x (List.mem_of_mem_eraseIdx hx)

/-- The deletion of two letters. -/
theorem deletion {c : List (List Int)} (hC : Cartan c) : ∀ (w : List Int) (n : Nat), lettersOk c w = true → w.length ≤ 29 → PlayL c n (imageOf c w) → n < w.length →
    ∃ a b, a < b ∧ b < w.length ∧ Lin c ((w.eraseIdx b).eraseIdx a) w
  | [], _, _, _, _, h => by simp at h
  | s :: q, n, hw, hl, P, hn => by
    obtain ⟨hs, hq⟩ := letters_cons.1 hw
    have p1 := point_of hs
    simp only [List.length_cons] at hl hn
    obtain ⟨m, hm, Q⟩ := play_image hC hq (by omega)
    by_cases h : m < q.length
    · obtain ⟨a, b, h1, h2, h3⟩ := deletion hC q m hq (by omega) Q h
      exact ⟨a + 1, b + 1, by omega, by simp; omega, by simpa using h3.cons s⟩
    · have em : m = q.length := by omega
      have hneg : (imageOf c q).getD s.toNat 0 < 0 := by
        have hne := Q.ne hC (i := s.toNat) (by omega)
        by_cases hlt : (imageOf c q).getD s.toNat 0 < 0
        · exact hlt
        · exfalso
          have U : PlayL c (m + 1) (imageOf c (s :: q)) := by
            rw [imageW_cons]
            refine ⟨by rw [reflW_length]; exact Q.1, ?_⟩
            rw [pos_refl hC Q (by omega) (by omega)]
            exact Q.2.up (matOk hC) (by omega) (by show 0 < (imageOf c q).getD s.toNat 0; omega)
          have := play_unique hC P U (by omega) (by omega)
          omega
      obtain ⟨k, hk, e⟩ := exchange hC Q (by omega) (w := q) ⟨em.symm, hq, rfl⟩ hs hneg
      exact ⟨0, k + 1, by omega, by simp; omega, by simpa using e⟩

/-- Each word is as good as a reduced one. -/
theorem reduce_to {c : List (List Int)} (hC : Cartan c) : ∀ (l : Nat) (w : List Int) (n : Nat), w.length ≤ l → lettersOk c w = true → w.length ≤ 29 → n ≤ 30 → PlayL c n (imageOf c w) → ∃ r, Red c n (imageOf c w) r ∧ Lin c r w
  | l, w, n, hl, hw, h29, h30, P => by
    obtain ⟨m, hm, Q⟩ := play_image hC hw (by omega)
    have hn : n = m := play_unique hC P Q h30 (by omega)
    subst hn
    by_cases h : n < w.length
    · obtain ⟨a, b, h1, h2, h3⟩ := deletion hC w n hw h29 P h
      have hwl : ((w.eraseIdx b).eraseIdx a).length + 2 = w.length := by
        rw [List.length_eraseIdx_of_lt (by rw [List.length_eraseIdx_of_lt h2]; omega), List.length_eraseIdx_of_lt h2]
        omega
      have hlt := letters_erase (letters_erase hw b) a
      have him := lin_image hC h3 hlt hw (by omega) (by omega)
      obtain ⟨l', rfl⟩ : ∃ l', l = l' + 1 := ⟨l - 1, by omega⟩
      obtain ⟨r, Rr, hr⟩ := reduce_to hC l' ((w.eraseIdx b).eraseIdx a) n (by omega) hlt (by omega) h30 (by rw [him]; exact P)
      rw [him] at Rr
      exact ⟨r, Rr, hr.trans h3⟩
    · exact ⟨w, ⟨by omega, hw, rfl⟩, Lin.refl c w⟩

/-- The image of rho tells the map. -/
theorem faithful {c : List (List Int)} (hC : Cartan c) {a b : List Int} (ha : lettersOk c a = true) (hb : lettersOk c b = true) (hla : a.length ≤ 29) (hlb : b.length ≤ 29) (h : imageOf c a = imageOf c b) : Lin c a b := by
  obtain ⟨n, hn, P⟩ := play_image hC ha (by omega)
  obtain ⟨r, Rr, hr⟩ := reduce_to hC a.length a n (Nat.le_refl _) ha hla (by omega) P
  obtain ⟨s, Rs, hs⟩ := reduce_to hC b.length b n (Nat.le_refl _) hb hlb (by omega) (by rw [← h]; exact P)
  rw [← h] at Rs
  exact hr.symm.trans ((conn_all hC n _ P (by omega) r s Rr Rs).lin.trans hs)

theorem actS_rev {c : List (List Int)} (hC : Cartan c) : ∀ (w : List Int), lettersOk c w = true → ∀ v, actS (ent c) w (actS (ent c) w.reverse v) = v ∧ actS (ent c) w.reverse (actS (ent c) w v) = v
  | [], _, _ => ⟨rfl, rfl⟩
  | i :: w, h, v => by
    obtain ⟨h1, h2⟩ := letters_cons.1 h
    have p1 := point_of h1
    have d : ∀ v, sr (ent c) i.toNat (sr (ent c) i.toNat v) = v := sr_sr ((matOk hC).diag i.toNat (by omega))
    rw [List.reverse_cons, actS_app, actS_app]
    show sr (ent c) i.toNat (actS (ent c) w (actS (ent c) w.reverse (sr (ent c) i.toNat v))) = v ∧ actS (ent c) w.reverse (sr (ent c) i.toNat (sr (ent c) i.toNat (actS (ent c) w v))) = v
    rw [(actS_rev hC w h2 _).1, d, d, (actS_rev hC w h2 _).2]
    exact ⟨rfl, rfl⟩

theorem letters_rev {c : List (List Int)} {w : List Int} (h : lettersOk c w = true) : lettersOk c w.reverse = true :=
  List.all_eq_true.2 fun x hx => List.all_eq_true.1 h x (List.mem_reverse.1 hx)

theorem Lin.rev {c : List (List Int)} (hC : Cartan c) {a b : List Int} (ha : lettersOk c a = true) (hb : lettersOk c b = true) (h : Lin c a b) : Lin c a.reverse b.reverse := fun v => by
  have h1 := (actS_rev hC a ha v).1
  have h2 := (actS_rev hC b hb v).1
  have h3 := (actS_rev hC a ha (actS (ent c) b.reverse v)).2
  rw [h (actS (ent c) b.reverse v), h2] at h3
  exact h3

/-- A word from behind is as long as the word. -/
theorem play_rev {c : List (List Int)} (hC : Cartan c) {w : List Int} {n m : Nat} (hw : lettersOk c w = true) (hl : w.length ≤ 29) (P : PlayL c n (imageOf c w)) (Q : PlayL c m (imageOf c w.reverse)) (hm : m ≤ 30) (hn : n ≤ 30) : m = n := by
  have key : ∀ (w : List Int) (n m : Nat), lettersOk c w = true → w.length ≤ 29 → PlayL c n (imageOf c w) → PlayL c m (imageOf c w.reverse) → m ≤ 30 → n ≤ 30 → m ≤ n := by
    intro w n m hw hl P Q hm hn
    obtain ⟨r, Rr, hr⟩ := reduce_to hC w.length w n (Nat.le_refl _) hw hl hn P
    have him := lin_image hC (hr.rev hC Rr.2.1 hw) (letters_rev Rr.2.1) (letters_rev hw) (by rw [List.length_reverse, Rr.1]; omega) (by rw [List.length_reverse]; omega)
    obtain ⟨k, hk, K⟩ := play_image hC (letters_rev Rr.2.1) (by rw [List.length_reverse, Rr.1]; omega)
    rw [him] at K
    rw [List.length_reverse, Rr.1] at hk
    have := play_unique hC Q K hm (by omega)
    omega
  have h1 := key w n m hw hl P Q hm hn
  have h2 := key w.reverse m n (letters_rev hw) (by rw [List.length_reverse]; exact hl) Q (by rw [List.reverse_reverse]; exact P) hn hm
  omega

end Go.Proofs.Ytnooeaemjnmkdaa.Hx

namespace Go.Proofs.Ytnooeaemjnmkdaa.Hx.Lam
open Go.Proofs.Ytnooeaemjnmkdaa.Hx

/-- n steps, each at a negative number, lead from v to lam. -/
inductive Play (lam : Pos) (N : Nat) (c : Nat → Nat → Int) : Nat → Pos → Prop where
  | done {v : Pos} (h : ∀ i, i < N → v i = lam i) : Play lam N c 0 v
  | step {n : Nat} {v : Pos} (i : Nat) (hi : i < N) (h : v i < 0) (p : Play lam N c n (sr c i v)) : Play lam N c (n + 1) v

theorem Play.up {lam : Pos} {N : Nat} {c : Nat → Nat → Int} (M : MatOk N c) {n i : Nat} {v : Pos} (p : Play lam N c n v) (hi : i < N) (h : 0 < v i) : Play lam N c (n + 1) (sr c i v) :=
  .step i hi (by rw [sr_at (M.diag i hi)]; omega) (by rw [sr_sr (M.diag i hi)]; exact p)

def Good (lam : Pos) (N : Nat) (c : Nat → Nat → Int) (n : Nat) (v : Pos) : Prop := ∀ i, i < N → v i ≠ 0 ∧ (v i < 0 → ∃ m, n = m + 1 ∧ Play lam N c m (sr c i v))

theorem play_inf {lam : Pos} {N : Nat} {c : Nat → Nat → Int} (M : MatOk N c) (n : Nat) (IH : ∀ m, m ≤ n → ∀ v, Play lam N c m v → Good lam N c m v) :
    ∀ k, k ≤ n → ∀ (v : Pos) (i j : Nat), Play lam N c k v → i < N → j < N → (c i j ≤ -2 ∧ c j i ≤ -2) → -3 ≤ c i j → -3 ≤ c j i → v i < 0 → 0 < v j → - c i j * v j ≤ 2 * (- v i) → False := by
  intro k
  induction k with
  | zero =>
    intro _ v i j p hi _ _ _ _ h1 _ _
    obtain ⟨m, hm, _⟩ := (IH 0 (by omega) v p i hi).2 h1
    omega
  | succ k ih =>
    intro hk v i j p hi hj hc h3 h4 h1 h2 hb
    obtain ⟨m, hm, q⟩ := (IH (k + 1) hk v p i hi).2 h1
    have : m = k := by omega
    subst this
    refine ih (by omega) (sr c i v) j i q hj hi ⟨hc.2, hc.1⟩ h4 h3 ?_ ?_ ?_
    · show v j - v i * c j i < 0
      have e1 : c i j = -2 ∨ c i j = -3 := by omega
      have e2 : c j i = -2 ∨ c j i = -3 := by omega
      rcases e1 with e1 | e1 <;> rcases e2 with e2 | e2 <;> rw [e1] at hb <;> rw [e2] <;> omega
    · rw [sr_at (M.diag i hi)]
      omega
    · rw [sr_at (M.diag i hi)]
      show - c j i * - v i ≤ 2 * -(v j - v i * c j i)
      have e1 : c i j = -2 ∨ c i j = -3 := by omega
      have e2 : c j i = -2 ∨ c j i = -3 := by omega
      rcases e1 with e1 | e1 <;> rcases e2 with e2 | e2 <;> rw [e1] at hb <;> rw [e2] <;> omega

section
variable {lam : Pos} {N : Nat} {c : Nat → Nat → Int} {n i j : Nat} {v : Pos}

theorem down_i (M : MatOk N c) (IH : ∀ m, m ≤ n → ∀ v, Play lam N c m v → Good lam N c m v) (hi : i < N) (a b a' : Int) {m : Nat} (hm : m ≤ n) (p : Play lam N c m (cb c i j v a b)) (h : a' - a = v i - 2 * a - b * c i j) (hl : a' ≤ a) :
    a' < a ∧ ∃ k, m = k + 1 ∧ Play lam N c k (cb c i j v a' b) := by
  have e : cb c i j v a b i = a' - a := by
    show v i - a * c i i - b * c i j = a' - a
    rw [M.diag i hi]
    omega
  have g := IH m hm _ p i hi
  rw [e] at g
  refine ⟨by omega, ?_⟩
  obtain ⟨k, hk, q⟩ := g.2 (by omega)
  rw [cb_i c i j v a b a' (by omega)] at q
  exact ⟨k, hk, q⟩
theorem down_j (M : MatOk N c) (IH : ∀ m, m ≤ n → ∀ v, Play lam N c m v → Good lam N c m v) (hj : j < N) (a b b' : Int) {m : Nat} (hm : m ≤ n) (p : Play lam N c m (cb c i j v a b)) (h : b' - b = v j - a * c j i - 2 * b) (hl : b' ≤ b) :
    b' < b ∧ ∃ k, m = k + 1 ∧ Play lam N c k (cb c i j v a b') := by
  have e : cb c i j v a b j = b' - b := by
    show v j - a * c j i - b * c j j = b' - b
    rw [M.diag j hj]
    omega
  have g := IH m hm _ p j hj
  rw [e] at g
  refine ⟨by omega, ?_⟩
  obtain ⟨k, hk, q⟩ := g.2 (by omega)
  rw [cb_j c i j v a b b' (by omega)] at q
  exact ⟨k, hk, q⟩
theorem up_i (M : MatOk N c) (hi : i < N) (a b a' : Int) {m : Nat} (p : Play lam N c m (cb c i j v a b)) (h : a' - a = v i - 2 * a - b * c i j) (hl : a < a') : Play lam N c (m + 1) (cb c i j v a' b) := by
  have e : cb c i j v a b i = a' - a := by
    show v i - a * c i i - b * c i j = a' - a
    rw [M.diag i hi]
    omega
  have := p.up M hi (by rw [e]; omega)
  rwa [cb_i c i j v a b a' (by omega)] at this
theorem up_j (M : MatOk N c) (hj : j < N) (a b b' : Int) {m : Nat} (p : Play lam N c m (cb c i j v a b)) (h : b' - b = v j - a * c j i - 2 * b) (hl : b < b') : Play lam N c (m + 1) (cb c i j v a b') := by
  have e : cb c i j v a b j = b' - b := by
    show v j - a * c j i - b * c j j = b' - b
    rw [M.diag j hj]
    omega
  have := p.up M hj (by rw [e]; omega)
  rwa [cb_j c i j v a b b' (by omega)] at this


theorem play_pair (M : MatOk N c) (IH : ∀ m, m ≤ n → ∀ v, Play lam N c m v → Good lam N c m v) (hi : i < N) (hj : j < N) (hij : i ≠ j) (hb : v j < 0) (p : Play lam N c n (sr c j v)) (ha : v i ≤ 0) :
    v i < 0 ∧ Play lam N c n (sr c i v) := by
  have o1 := M.off i j hi hj hij
  have o2 := M.off j i hj hi (Ne.symm hij)
  have z1 := M.zero i j hi hj
  have z2 := M.zero j i hj hi
  by_cases inf : c i j ≤ -2 ∧ c j i ≤ -2
  · exfalso
    refine play_inf M n IH n (Nat.le_refl _) (sr c j v) i j p hi hj inf o1.1 o2.1 ?_ ?_ ?_
    · show v i - v j * c i j < 0
      have e1 : c i j = -2 ∨ c i j = -3 := by omega
      rcases e1 with e1 | e1 <;> rw [e1] <;> omega
    · rw [sr_at (M.diag j hj)]
      omega
    · rw [sr_at (M.diag j hj)]
      show - c i j * - v j ≤ 2 * - (v i - v j * c i j)
      have e1 : c i j = -2 ∨ c i j = -3 := by omega
      rcases e1 with e1 | e1 <;> rw [e1] <;> omega
  rw [sr_cb' c i j v] at p
  rw [sr_cb c i j v]
  generalize hA : v i = a at *
  generalize hB : v j = b at *
  have fin : (c i j = 0 ∧ c j i = 0) ∨ (c i j = -1 ∧ c j i = -1) ∨ (c i j = -2 ∧ c j i = -1) ∨ (c i j = -1 ∧ c j i = -2) ∨ (c i j = -3 ∧ c j i = -1) ∨ (c i j = -1 ∧ c j i = -3) := by omega
  rcases fin with ⟨e1, e2⟩ | ⟨e1, e2⟩ | ⟨e1, e2⟩ | ⟨e1, e2⟩ | ⟨e1, e2⟩ | ⟨e1, e2⟩
  · obtain ⟨d1, k1, m1, p⟩ := down_i M IH hi 0 b a (by omega) p (by rw [e1, hA]; omega) (by omega)
    refine ⟨by omega, ?_⟩
    have p := up_j M hj a b 0 p (by rw [e2, hB]; omega) (by omega)
    rw [m1]
    exact p
  · obtain ⟨d1, k1, m1, p⟩ := down_i M IH hi 0 b (a + b) (by omega) p (by rw [e1, hA]; omega) (by omega)
    obtain ⟨d2, k2, m2, p⟩ := down_j M IH hj (a + b) b (a + b) (by omega) p (by rw [e2, hB]; omega) (by omega)
    refine ⟨by omega, ?_⟩
    have p := up_i M hi (a + b) (a + b) a p (by rw [e1, hA]; omega) (by omega)
    have p := up_j M hj a (a + b) 0 p (by rw [e2, hB]; omega) (by omega)
    rw [m1, m2]
    exact p
  · obtain ⟨d1, k1, m1, p⟩ := down_i M IH hi 0 b (a + 2 * b) (by omega) p (by rw [e1, hA]; omega) (by omega)
    obtain ⟨d2, k2, m2, p⟩ := down_j M IH hj (a + 2 * b) b (a + 2 * b) (by omega) p (by rw [e2, hB]; omega) (by omega)
    obtain ⟨d3, k3, m3, p⟩ := down_i M IH hi (a + 2 * b) (a + 2 * b) (2 * a + 2 * b) (by omega) p (by rw [e1, hA]; omega) (by omega)
    refine ⟨by omega, ?_⟩
    have p := up_j M hj (2 * a + 2 * b) (a + 2 * b) (a + b) p (by rw [e2, hB]; omega) (by omega)
    have p := up_i M hi (2 * a + 2 * b) (a + b) a p (by rw [e1, hA]; omega) (by omega)
    have p := up_j M hj a (a + b) 0 p (by rw [e2, hB]; omega) (by omega)
    rw [m1, m2, m3]
    exact p
  · obtain ⟨d1, k1, m1, p⟩ := down_i M IH hi 0 b (a + b) (by omega) p (by rw [e1, hA]; omega) (by omega)
    obtain ⟨d2, k2, m2, p⟩ := down_j M IH hj (a + b) b (2 * a + 2 * b) (by omega) p (by rw [e2, hB]; omega) (by omega)
    obtain ⟨d3, k3, m3, p⟩ := down_i M IH hi (a + b) (2 * a + 2 * b) (2 * a + b) (by omega) p (by rw [e1, hA]; omega) (by omega)
    refine ⟨by omega, ?_⟩
    have p := up_j M hj (2 * a + b) (2 * a + 2 * b) (2 * a + b) p (by rw [e2, hB]; omega) (by omega)
    have p := up_i M hi (2 * a + b) (2 * a + b) a p (by rw [e1, hA]; omega) (by omega)
    have p := up_j M hj a (2 * a + b) 0 p (by rw [e2, hB]; omega) (by omega)
    rw [m1, m2, m3]
    exact p
  · obtain ⟨d1, k1, m1, p⟩ := down_i M IH hi 0 b (a + 3 * b) (by omega) p (by rw [e1, hA]; omega) (by omega)
    obtain ⟨d2, k2, m2, p⟩ := down_j M IH hj (a + 3 * b) b (a + 3 * b) (by omega) p (by rw [e2, hB]; omega) (by omega)
    obtain ⟨d3, k3, m3, p⟩ := down_i M IH hi (a + 3 * b) (a + 3 * b) (3 * a + 6 * b) (by omega) p (by rw [e1, hA]; omega) (by omega)
    obtain ⟨d4, k4, m4, p⟩ := down_j M IH hj (3 * a + 6 * b) (a + 3 * b) (2 * a + 4 * b) (by omega) p (by rw [e2, hB]; omega) (by omega)
    obtain ⟨d5, k5, m5, p⟩ := down_i M IH hi (3 * a + 6 * b) (2 * a + 4 * b) (4 * a + 6 * b) (by omega) p (by rw [e1, hA]; omega) (by omega)
    refine ⟨by omega, ?_⟩
    have p := up_j M hj (4 * a + 6 * b) (2 * a + 4 * b) (2 * a + 3 * b) p (by rw [e2, hB]; omega) (by omega)
    have p := up_i M hi (4 * a + 6 * b) (2 * a + 3 * b) (3 * a + 3 * b) p (by rw [e1, hA]; omega) (by omega)
    have p := up_j M hj (3 * a + 3 * b) (2 * a + 3 * b) (a + b) p (by rw [e2, hB]; omega) (by omega)
    have p := up_i M hi (3 * a + 3 * b) (a + b) a p (by rw [e1, hA]; omega) (by omega)
    have p := up_j M hj a (a + b) 0 p (by rw [e2, hB]; omega) (by omega)
    rw [m1, m2, m3, m4, m5]
    exact p
  · obtain ⟨d1, k1, m1, p⟩ := down_i M IH hi 0 b (a + b) (by omega) p (by rw [e1, hA]; omega) (by omega)
    obtain ⟨d2, k2, m2, p⟩ := down_j M IH hj (a + b) b (3 * a + 3 * b) (by omega) p (by rw [e2, hB]; omega) (by omega)
    obtain ⟨d3, k3, m3, p⟩ := down_i M IH hi (a + b) (3 * a + 3 * b) (3 * a + 2 * b) (by omega) p (by rw [e1, hA]; omega) (by omega)
    obtain ⟨d4, k4, m4, p⟩ := down_j M IH hj (3 * a + 2 * b) (3 * a + 3 * b) (6 * a + 4 * b) (by omega) p (by rw [e2, hB]; omega) (by omega)
    obtain ⟨d5, k5, m5, p⟩ := down_i M IH hi (3 * a + 2 * b) (6 * a + 4 * b) (4 * a + 2 * b) (by omega) p (by rw [e1, hA]; omega) (by omega)
    refine ⟨by omega, ?_⟩
    have p := up_j M hj (4 * a + 2 * b) (6 * a + 4 * b) (6 * a + 3 * b) p (by rw [e2, hB]; omega) (by omega)
    have p := up_i M hi (4 * a + 2 * b) (6 * a + 3 * b) (3 * a + b) p (by rw [e1, hA]; omega) (by omega)
    have p := up_j M hj (3 * a + b) (6 * a + 3 * b) (3 * a + b) p (by rw [e2, hB]; omega) (by omega)
    have p := up_i M hi (3 * a + b) (3 * a + b) a p (by rw [e1, hA]; omega) (by omega)
    have p := up_j M hj a (3 * a + b) 0 p (by rw [e2, hB]; omega) (by omega)
    rw [m1, m2, m3, m4, m5]
    exact p
end

theorem play_good {lam : Pos} (hp : ∀ i, 0 < lam i) {N : Nat} {c : Nat → Nat → Int} (M : MatOk N c) : ∀ (n : Nat) (v : Pos), Play lam N c n v → Good lam N c n v := by
  intro n
  induction n using Nat.strongRecOn with
  | ind n ih =>
    intro v p i hi
    cases p with
    | done h =>
      rw [h i hi]
      have := hp i
      exact ⟨by omega, fun h => absurd h (by omega)⟩
    | step j hj hb p =>
      rename_i n
      by_cases e : i = j
      · subst e
        exact ⟨by omega, fun _ => ⟨n, rfl, p⟩⟩
      · by_cases ha : v i ≤ 0
        · obtain ⟨h1, h2⟩ := play_pair M (fun m hm => ih m (by omega)) hi hj e hb p ha
          exact ⟨by omega, fun _ => ⟨n, rfl, h2⟩⟩
        · exact ⟨by omega, fun h => absurd h (by omega)⟩

theorem Play.down {lam : Pos} {N : Nat} {c : Nat → Nat → Int} (hp : ∀ i, 0 < lam i) (M : MatOk N c) {n i : Nat} {v : Pos} (p : Play lam N c n v) (hi : i < N) (h : v i < 0) : ∃ m, n = m + 1 ∧ Play lam N c m (sr c i v) := (play_good hp M n v p i hi).2 h
theorem Play.ne {lam : Pos} {N : Nat} {c : Nat → Nat → Int} (hp : ∀ i, 0 < lam i) (M : MatOk N c) {n i : Nat} {v : Pos} (p : Play lam N c n v) (hi : i < N) : v i ≠ 0 := (play_good hp M n v p i hi).1

/-- Whatever step: at most one more. -/
theorem Play.any {lam : Pos} {N : Nat} {c : Nat → Nat → Int} (hp : ∀ i, 0 < lam i) (M : MatOk N c) {n i : Nat} {v : Pos} (p : Play lam N c n v) (hi : i < N) : ∃ m, m ≤ n + 1 ∧ Play lam N c m (sr c i v) := by
  by_cases h : v i < 0
  · obtain ⟨m, hm, q⟩ := p.down hp M hi h
    exact ⟨m, by omega, q⟩
  · have := p.ne hp M hi
    exact ⟨n + 1, Nat.le_refl _, p.up M hi (by omega)⟩

theorem Play.stop {lam : Pos} {N : Nat} {c : Nat → Nat → Int} {n : Nat} {v : Pos} (p : Play lam N c n v) (h : ∀ i, i < N → 0 ≤ v i) : n = 0 ∧ ∀ i, i < N → v i = lam i := by
  cases p with
  | done h => exact ⟨rfl, h⟩
  | step i hi hl _ => exact absurd (h i hi) (by omega)


end Go.Proofs.Ytnooeaemjnmkdaa.Hx.Lam

namespace Go.Proofs.Ytnooeaemjnmkdaa.Hx
open Go.RowKit

/-- The sum of products over the first places. -/
def dotP : Nat → Pos → Pos → Int
  | 0, _, _ => 0
  | n + 1, f, g => dotP n f g + f n * g n

theorem dotP_congr {f g f' g' : Pos} : ∀ (N : Nat), (∀ k, k < N → f k = f' k ∧ g k = g' k) → dotP N f g = dotP N f' g'
  | 0, _ => rfl
  | n + 1, h => by
    obtain ⟨h1, h2⟩ := h n (by omega)
    simp only [dotP, dotP_congr n (fun k hk => h k (by omega)), h1, h2]

theorem dotP_sub (f g : Pos) (a : Int) (u : Pos) : ∀ (N : Nat), dotP N (fun k => f k - a * u k) g = dotP N f g - a * dotP N u g
  | 0 => by simp [dotP]
  | n + 1 => by
    simp only [dotP, dotP_sub f g a u n]
    grind

theorem dotP_subr (f g : Pos) (a : Int) (u : Pos) : ∀ (N : Nat), dotP N f (fun k => g k - a * u k) = dotP N f g - a * dotP N f u
  | 0 => by simp [dotP]
  | n + 1 => by
    simp only [dotP, dotP_subr f g a u n]
    grind

/-- The place at which one number is 1. -/
def unitP (i : Nat) : Pos := fun k => if k = i then 1 else 0

theorem dotP_unit (f : Pos) (i : Nat) : ∀ (N : Nat), dotP N f (unitP i) = if i < N then f i else 0
  | 0 => by simp [dotP]
  | n + 1 => by
    simp only [dotP, dotP_unit f i n, unitP]
    by_cases h : n = i
    · subst h
      simp
    · rw [if_neg h]
      by_cases h2 : i < n
      · rw [if_pos h2, if_pos (by omega)]
        omega
      · rw [if_neg h2, if_neg (by omega)]
        omega

theorem dotP_comm (f g : Pos) : ∀ (N : Nat), dotP N f g = dotP N g f
  | 0 => rfl
  | n + 1 => by
    simp only [dotP, dotP_comm f g n, Int.mul_comm]

/-- The mirror at i, of a root. -/
def mr (N : Nat) (c : Nat → Nat → Int) (i : Nat) (r : Pos) : Pos := fun k => r k - dotP N (c i) r * unitP i k

def tr (c : Nat → Nat → Int) : Nat → Nat → Int := fun a b => c b a

theorem dotP_mr {N : Nat} (c : Nat → Nat → Int) {i : Nat} (hi : i < N) (v r : Pos) : dotP N v (mr N c i r) = dotP N (sr (tr c) i v) r := by
  unfold mr sr tr
  rw [dotP_subr, dotP_sub, dotP_unit, if_pos hi, Int.mul_comm]

def actP (N : Nat) (c : Nat → Nat → Int) : List Int → Pos → Pos
  | [], r => r
  | i :: w, r => mr N c i.toNat (actP N c w r)

theorem actP_app (N : Nat) (c : Nat → Nat → Int) : ∀ (a b : List Int) (r : Pos), actP N c (a ++ b) r = actP N c a (actP N c b r)
  | [], _, _ => rfl
  | i :: a, b, r => by simp only [List.cons_append, actP, actP_app N c a b r]

theorem dotP_act {c : List (List Int)} : ∀ (w : List Int) (v r : Pos), lettersOk c w = true → dotP c.length v (actP c.length (ent c) w r) = dotP c.length (actS (tr (ent c)) w.reverse v) r
  | [], _, _, _ => rfl
  | i :: w, v, r, h => by
    obtain ⟨h1, h2⟩ := letters_cons.1 h
    have p1 := point_of h1
    rw [List.reverse_cons, actS_app]
    simp only [actP, actS]
    rw [dotP_mr (ent c) (by omega), dotP_act w _ r h2]

theorem matOk_tr {N : Nat} {c : Nat → Nat → Int} (M : MatOk N c) : MatOk N (tr c) :=
  ⟨M.diag, fun i j hi hj hij => M.off j i hj hi (Ne.symm hij), fun i j hi hj h => M.zero j i hj hi h⟩

theorem Lam.play_word {lam : Pos} (hp : ∀ i, 0 < lam i) {c : List (List Int)} {m : Nat → Nat → Int} (M : MatOk c.length m) : ∀ (w : List Int), lettersOk c w = true → ∃ n, Lam.Play lam c.length m n (actS m w lam)
  | [], _ => ⟨0, .done fun _ _ => rfl⟩
  | i :: w, h => by
    obtain ⟨h1, h2⟩ := letters_cons.1 h
    have p1 := point_of h1
    obtain ⟨n, P⟩ := Lam.play_word hp M w h2
    obtain ⟨k, _, Q⟩ := P.any hp M (i := i.toNat) (by omega)
    exact ⟨k, Q⟩

def sumPos (r : Pos) : Nat → Int
  | 0 => 0
  | n + 1 => sumPos r n + (if 0 < r n then r n else 0)
def sumNeg (r : Pos) : Nat → Int
  | 0 => 0
  | n + 1 => sumNeg r n + (if r n < 0 then - r n else 0)

theorem sumPos_ge (r : Pos) : ∀ (N : Nat), 0 ≤ sumPos r N ∧ ∀ k, k < N → r k ≤ sumPos r N
  | 0 => ⟨Int.le_refl _, fun k hk => by omega⟩
  | n + 1 => by
    obtain ⟨h1, h2⟩ := sumPos_ge r n
    simp only [sumPos]
    refine ⟨by split <;> omega, fun k hk => ?_⟩
    by_cases e : k = n
    · subst e
      split <;> omega
    · have := h2 k (by omega)
      split <;> omega
theorem sumNeg_ge (r : Pos) : ∀ (N : Nat), 0 ≤ sumNeg r N ∧ ∀ k, k < N → - r k ≤ sumNeg r N
  | 0 => ⟨Int.le_refl _, fun k hk => by omega⟩
  | n + 1 => by
    obtain ⟨h1, h2⟩ := sumNeg_ge r n
    simp only [sumNeg]
    refine ⟨by split <;> omega, fun k hk => ?_⟩
    by_cases e : k = n
    · subst e
      split <;> omega
    · have := h2 k (by omega)
      split <;> omega

theorem dotP_mix (r : Pos) (a b : Int) : ∀ (N : Nat), dotP N (fun k => if 0 < r k then a else if r k < 0 then b else 1) r = a * sumPos r N - b * sumNeg r N
  | 0 => by simp [dotP, sumPos, sumNeg]
  | n + 1 => by
    simp only [dotP, dotP_mix r a b n, sumPos, sumNeg]
    by_cases h : 0 < r n
    · rw [if_pos h, if_pos h, if_neg (by omega)]
      grind
    · by_cases h2 : r n < 0
      · rw [if_neg h, if_pos h2, if_neg h, if_pos h2]
        grind
      · have e : r n = 0 := by omega
        rw [if_neg h, if_neg h2, if_neg h, if_neg h2, e]
        simp

/-- A place whose sum with whatever places above zero is not zero has numbers of one sign. -/
theorem coherent {N : Nat} {r : Pos} (h : ∀ lam : Pos, (∀ i, 0 < lam i) → dotP N lam r ≠ 0) : (∀ k, k < N → 0 ≤ r k) ∨ (∀ k, k < N → r k ≤ 0) := by
  by_cases h1 : ∀ k, k < N → 0 ≤ r k
  · exact Or.inl h1
  by_cases h2 : ∀ k, k < N → r k ≤ 0
  · exact Or.inr h2
  exfalso
  have e1 : ∃ k, k < N ∧ r k < 0 := by
    refine Classical.byContradiction fun hn => h1 fun k hk => ?_
    by_cases g : 0 ≤ r k
    · exact g
    · exact absurd ⟨k, hk, by omega⟩ hn
  have e2 : ∃ k, k < N ∧ 0 < r k := by
    refine Classical.byContradiction fun hn => h2 fun k hk => ?_
    by_cases g : r k ≤ 0
    · exact g
    · exact absurd ⟨k, hk, by omega⟩ hn
  obtain ⟨k1, l1, g1⟩ := e1
  obtain ⟨k2, l2, g2⟩ := e2
  have p1 := (sumPos_ge r N).2 k2 l2
  have p2 := (sumNeg_ge r N).2 k1 l1
  refine h (fun k => if 0 < r k then sumNeg r N else if r k < 0 then sumPos r N else 1) (fun i => ?_) ?_
  · show 0 < (if 0 < r i then sumNeg r N else if r i < 0 then sumPos r N else 1)
    split
    · omega
    · split <;> omega
  · rw [dotP_mix, Int.mul_comm]
    omega

def PosR (N : Nat) (r : Pos) : Prop := ∀ k, k < N → 0 ≤ r k

theorem root_dot {c : List (List Int)} {w : List Int} (hw : lettersOk c w = true) {i : Nat} (hi : i < c.length) (v : Pos) : dotP c.length v (actP c.length (ent c) w (unitP i)) = actS (tr (ent c)) w.reverse v i := by
  rw [dotP_act w v _ hw, dotP_unit, if_pos hi]

/-- A root's numbers are all at least zero or all at most zero. -/
theorem root_sign {c : List (List Int)} (hC : Cartan c) {w : List Int} (hw : lettersOk c w = true) {i : Nat} (hi : i < c.length) :
    PosR c.length (actP c.length (ent c) w (unitP i)) ∨ (∀ k, k < c.length → actP c.length (ent c) w (unitP i) k ≤ 0) := by
  refine coherent fun lam hp => ?_
  rw [root_dot hw hi]
  obtain ⟨n, P⟩ := Lam.play_word hp (matOk_tr (matOk hC)) w.reverse (letters_rev hw)
  exact P.ne hp (matOk_tr (matOk hC)) hi

theorem dotP_ones_pos {r : Pos} : ∀ (N : Nat), PosR N r → 0 ≤ dotP N (fun _ => 1) r
  | 0, _ => Int.le_refl _
  | n + 1, h => by
    have := dotP_ones_pos n (fun k hk => h k (by omega))
    have := h n (by omega)
    simp only [dotP]
    omega

theorem dotP_ones_neg {r : Pos} : ∀ (N : Nat), (∀ k, k < N → r k ≤ 0) → dotP N (fun _ => 1) r ≤ 0
  | 0, _ => Int.le_refl _
  | n + 1, h => by
    have := dotP_ones_neg n (fun k hk => h k (by omega))
    have := h n (by omega)
    simp only [dotP]
    omega

/-- The sign of a root is that of its height, which is not zero. -/
theorem root_height {c : List (List Int)} (hC : Cartan c) {w : List Int} (hw : lettersOk c w = true) {i : Nat} (hi : i < c.length) :
    dotP c.length (fun _ => 1) (actP c.length (ent c) w (unitP i)) ≠ 0 ∧ (PosR c.length (actP c.length (ent c) w (unitP i)) ↔ 0 < dotP c.length (fun _ => 1) (actP c.length (ent c) w (unitP i))) := by
  have hne : dotP c.length (fun _ => 1) (actP c.length (ent c) w (unitP i)) ≠ 0 := by
    rw [root_dot hw hi]
    have hp : ∀ i : Nat, 0 < (fun _ => 1 : Pos) i := fun _ => (by decide : (0 : Int) < 1)
    obtain ⟨n, P⟩ := Lam.play_word hp (matOk_tr (matOk hC)) w.reverse (letters_rev hw)
    exact P.ne hp (matOk_tr (matOk hC)) hi
  refine ⟨hne, fun h => ?_, fun h => ?_⟩
  · have := dotP_ones_pos _ h
    omega
  · rcases root_sign hC hw hi with k | k
    · exact k
    · have := dotP_ones_neg _ k
      omega

end Go.Proofs.Ytnooeaemjnmkdaa.Hx

namespace Go.Proofs.Ytnooeaemjnmkdaa.Hx
open Go.RowKit

def transp (c : List (List Int)) : List (List Int) := (List.range c.length).map fun i => (List.range c.length).map fun j => ent c j i

theorem transp_length (c : List (List Int)) : (transp c).length = c.length := by simp [transp]
theorem transp_row (c : List (List Int)) {i : Nat} (hi : i < c.length) : (transp c).getD i [] = (List.range c.length).map fun j => ent c j i := by
  simp [transp, List.getD, hi]

theorem ent_row {c : List (List Int)} (hC : Cartan c) {k i : Nat} (h : c.length ≤ i) : ent c k i = 0 := by
  by_cases hk : k < c.length
  · have := hC.row k hk
    show (c.getD k []).getD i 0 = 0
    generalize c.getD k [] = l at this
    simp [List.getD, show l.length ≤ i by omega]
  · exact ent_off (by omega)

theorem ent_transp {c : List (List Int)} (hC : Cartan c) : ent (transp c) = tr (ent c) := by
  funext i j
  show ent (transp c) i j = ent c j i
  by_cases hi : i < c.length
  · by_cases hj : j < c.length
    · unfold ent
      rw [transp_row c hi]
      simp [List.getD, hj, ent]
    · rw [ent_off (c := c) (by omega)]
      unfold ent
      rw [transp_row c hi]
      simp [List.getD, hj]
  · rw [ent_off (by rw [transp_length]; omega), ent_row hC (by omega)]

theorem transp_cartan {c : List (List Int)} (hC : Cartan c) : Cartan (transp c) := by
  refine ⟨by rw [transp_length]; exact hC.pos, by rw [transp_length]; exact hC.le, fun i hi => ?_, fun i hi j hj => ?_⟩
  · rw [transp_length] at hi ⊢
    rw [transp_row c hi]
    simp
  · rw [transp_length] at hi hj
    have h1 := hC.ok j hj i hi
    have h2 := hC.ok i hi j hj
    unfold cartBad at h1 h2 ⊢
    rw [ent_transp hC]
    show ((decide (i = j) && !(ent c j i == 2)) || (!decide (i = j) && (decide (ent c j i < -3) || decide (ent c j i > 0) || !((ent c j i == 0) == (ent c i j == 0))))) = false
    by_cases e : i = j
    · subst e
      exact h1
    · have e' : ¬ j = i := fun h => e h.symm
      simpa [e, e'] using h1

theorem transp_transp {c : List (List Int)} (hC : Cartan c) : transp (transp c) = c := by
  apply List.ext_getElem?
  intro i
  by_cases hi : i < c.length
  · have h1 : (transp (transp c))[i]? = some ((transp (transp c)).getD i []) := by
      simp [List.getD, transp_length, hi]
    have h2 : c[i]? = some (c.getD i []) := by simp [List.getD, hi]
    rw [h1, h2, transp_row _ (by rw [transp_length]; exact hi), transp_length, ent_transp hC]
    refine congrArg some ?_
    apply List.ext_getElem?
    intro j
    have hr := hC.row i hi
    by_cases hj : j < c.length
    · simp only [List.getElem?_map, List.getElem?_range hj, Option.map_some]
      show some (ent c i j) = _
      unfold ent
      simp [List.getD, show j < (c[i]?.getD []).length from hr.symm ▸ hj]
    · rw [List.getElem?_eq_none (by simp; omega), List.getElem?_eq_none (by omega)]
  · rw [List.getElem?_eq_none (by rw [transp_length, transp_length]; omega), List.getElem?_eq_none (by omega)]

theorem point_transp (c : List (List Int)) (i : Int) : isPoint (transp c) i = isPoint c i := by
  unfold isPoint
  rw [transp_length]
theorem letters_transp (c : List (List Int)) (w : List Int) : lettersOk (transp c) w = lettersOk c w := by
  unfold lettersOk
  exact congrArg (fun f => w.all f) (funext (point_transp c))

theorem bond_transp {c : List (List Int)} (hC : Cartan c) (i j : Int) : bond (transp c) i j = bond c i j := by
  unfold bond
  rw [(isCartan_iff _).2 hC, (isCartan_iff _).2 (transp_cartan hC), point_transp, point_transp, ent_transp hC]
  show (if (true && isPoint c i && isPoint c j) = true then (if i = j then (1 : Int) else bondN (w64 (ent c j.toNat i.toNat * ent c i.toNat j.toNat))) else -1) = _
  rw [Int.mul_comm]

theorem Br.transp {c : List (List Int)} (hC : Cartan c) {a b : List Int} (h : Br (transp c) a b) : Br c a b := by
  cases h with
  | mk p i j m q hb h2 => exact .mk p i j m q (by rw [← bond_transp hC]; exact hb) h2
theorem Conn.transp {c : List (List Int)} (hC : Cartan c) {a b : List Int} (h : Conn (transp c) a b) : Conn c a b := by
  induction h with
  | refl => exact .refl _
  | tail _ s ih => exact ih.tail (s.transp hC)
theorem Conn.transp' {c : List (List Int)} (hC : Cartan c) {a b : List Int} (h : Conn c a b) : Conn (Hx.transp c) a b := by
  have h' : Conn (Hx.transp (Hx.transp c)) a b := by rw [transp_transp hC]; exact h
  exact h'.transp (transp_cartan hC)

theorem play_up {c : List (List Int)} (hC : Cartan c) {n : Nat} {w : List Int} (P : PlayL c n (imageOf c w)) (hn : n ≤ 30) {i : Int} (hi : isPoint c i = true) (h : 0 < (imageOf c w).getD i.toNat 0) : PlayL c (n + 1) (imageOf c (i :: w)) := by
  have p1 := point_of hi
  rw [imageW_cons]
  refine ⟨by rw [reflW_length]; exact P.1, ?_⟩
  rw [pos_refl hC P hn (by omega)]
  exact P.2.up (matOk hC) (by omega) h

/-- A reduced word at whose front a letter takes off has a reduced word that begins with it. -/
theorem front {c : List (List Int)} (hC : Cartan c) {n : Nat} {w : List Int} (P : PlayL c n (imageOf c w)) (hn : n ≤ 29) (hl : w.length = n) (hw : lettersOk c w = true) {i : Int} (hi : isPoint c i = true) (h : (imageOf c w).getD i.toNat 0 < 0) :
    ∃ m t, n = m + 1 ∧ t.length = m ∧ lettersOk c t = true ∧ PlayL c m (imageOf c t) ∧ Conn c w (i :: t) := by
  have p1 := point_of hi
  obtain ⟨m, rfl, Q⟩ := P.down hC (by omega) (i := i.toNat) (by omega) h
  have Rz : Red c m (reflW c i.toNat (imageOf c w)) (nf c 30 (reflW c i.toNat (imageOf c w))) := ⟨nf_len hC m _ 30 Q (by omega) (by omega), nf_letters hC m _ 30 Q (by omega) (by omega), nf_image hC m _ 30 Q (by omega) (by omega)⟩
  have Ri := Red.cons hC P (by omega) hi h Rz
  refine ⟨m, _, rfl, Rz.1, Rz.2.1, ?_, conn_all hC (m + 1) _ P hn w _ ⟨hl, hw, rfl⟩ Ri⟩
  rw [Rz.2.2]
  exact Q

/-- A word that is reduced is reduced for the matrix turned over. -/
theorem red_same {c : List (List Int)} (hC : Cartan c) : ∀ (w : List Int), lettersOk c w = true → w.length ≤ 29 → PlayL c w.length (imageOf c w) → PlayL (transp c) w.length (imageOf (transp c) w)
  | [], _, _, _ => PlayL.ones (transp c)
  | i :: u, hw, hl, P => by
    obtain ⟨hi, hu⟩ := letters_cons.1 hw
    have p1 := point_of hi
    simp only [List.length_cons] at hl P ⊢
    obtain ⟨_, g2, g3, g4⟩ := Red.tail hC P (by omega) (w := u) (i := i) ⟨by simp, hw, rfl⟩
    have e := g4.2.2
    rw [← e] at g3
    have IH := red_same hC u hu (by omega) g3
    have hi' : isPoint (transp c) i = true := by rw [point_transp]; exact hi
    have hne := IH.ne (transp_cartan hC) (i := i.toNat) (by rw [transp_length]; omega)
    by_cases h : 0 < (imageOf (transp c) u).getD i.toNat 0
    · exact play_up (transp_cartan hC) IH (by omega) hi' h
    · exfalso
      obtain ⟨m, t, e1, e2, e3, _, e5⟩ := front (transp_cartan hC) IH (by omega) rfl (by rw [letters_transp]; exact hu) hi' (by omega)
      have L : Lin c (i :: u) t := ((e5.transp hC).lin.cons i).trans (twice hC hi t)
      have et : lettersOk c t = true := by rw [← letters_transp]; exact e3
      have him := lin_image hC L hw et (by simp; omega) (by omega)
      obtain ⟨n, hn, Q⟩ := play_image hC et (by omega)
      rw [him] at P
      have := play_unique hC P Q (by omega) (by omega)
      omega

/-- Each word has a word that is reduced for both matrices and does the same for both. -/
theorem red_both {c : List (List Int)} (hC : Cartan c) : ∀ (w : List Int), lettersOk c w = true → w.length ≤ 28 →
    ∃ r, r.length ≤ w.length ∧ lettersOk c r = true ∧ PlayL c r.length (imageOf c r) ∧ Lin c r w ∧ Lin (transp c) r w
  | [], _, _ => ⟨[], Nat.le_refl _, rfl, PlayL.ones c, Lin.refl _ _, Lin.refl _ _⟩
  | i :: u, hw, hl => by
    obtain ⟨hi, hu⟩ := letters_cons.1 hw
    have p1 := point_of hi
    simp only [List.length_cons] at hl ⊢
    obtain ⟨r, r1, r2, r3, r4, r5⟩ := red_both hC u hu (by omega)
    have hi' : isPoint (transp c) i = true := by rw [point_transp]; exact hi
    have hne := r3.ne hC (i := i.toNat) (by omega)
    by_cases h : 0 < (imageOf c r).getD i.toNat 0
    · exact ⟨i :: r, by simp; omega, letters_cons.2 ⟨hi, r2⟩, by simpa using play_up hC r3 (by omega) hi h, r4.cons i, r5.cons i⟩
    · obtain ⟨m, t, e1, e2, e3, e4, e5⟩ := front hC r3 (by omega) rfl r2 hi (by omega)
      refine ⟨t, by omega, e3, by rw [e2]; exact e4, ?_, ?_⟩
      · exact ((r4.symm.cons i).trans ((e5.lin.cons i).trans (twice hC hi t))).symm
      · exact ((r5.symm.cons i).trans (((e5.transp' hC).lin.cons i).trans (twice (transp_cartan hC) hi' t))).symm

theorem sign_half {c : List (List Int)} (hC : Cartan c) {w : List Int} (hw : lettersOk c w = true) (hl : w.length ≤ 28) {i : Int} (hi : isPoint c i = true) (h : 0 < (imageOf c w).getD i.toNat 0) : 0 < (imageOf (transp c) w).getD i.toNat 0 := by
  have p1 := point_of hi
  have hC' := transp_cartan hC
  obtain ⟨r, r1, r2, r3, r4, r5⟩ := red_both hC w hw hl
  have hi' : isPoint (transp c) i = true := by rw [point_transp]; exact hi
  have r2' : lettersOk (transp c) r = true := by rw [letters_transp]; exact r2
  rw [← lin_image hC r4 r2 hw (by omega) (by omega)] at h
  rw [← lin_image hC' r5 r2' (by rw [letters_transp]; exact hw) (by omega) (by omega)]
  have q1 := red_same hC r r2 (by omega) r3
  have q2 := red_same hC (i :: r) (letters_cons.2 ⟨hi, r2⟩) (by simp; omega) (by simpa using play_up hC r3 (by omega) hi h)
  have hne := q1.ne hC' (i := i.toNat) (by rw [transp_length]; omega)
  by_cases k : 0 < (imageOf (transp c) r).getD i.toNat 0
  · exact k
  · exfalso
    obtain ⟨m, e1, Q⟩ := q1.down hC' (by omega) (i := i.toNat) (by rw [transp_length]; omega) (by omega)
    rw [List.length_cons, imageW_cons] at q2
    have := play_unique hC' q2 Q (by omega) (by omega)
    omega

theorem sign_both {c : List (List Int)} (hC : Cartan c) {w : List Int} (hw : lettersOk c w = true) (hl : w.length ≤ 28) {i : Int} (hi : isPoint c i = true) : 0 < (imageOf c w).getD i.toNat 0 ↔ 0 < (imageOf (transp c) w).getD i.toNat 0 := by
  refine ⟨sign_half hC hw hl hi, fun h => ?_⟩
  have := sign_half (transp_cartan hC) (w := w) (by rw [letters_transp]; exact hw) hl (i := i) (by rw [point_transp]; exact hi) h
  rw [transp_transp hC] at this
  exact this

/-- The root of a word and a letter, its coroot. -/
def rootP (c : List (List Int)) (w : List Int) (i : Nat) : Pos := actP c.length (ent c) w (unitP i)

theorem ones_at {N : Nat} (r : Pos) : dotP N (fun _ => 1) r = dotP N (posOf (List.replicate N 1)) r :=
  dotP_congr N fun k hk => ⟨by simp [posOf, List.getD, hk], rfl⟩

/-- A root's height is a number of an image of rho. -/
theorem height_image {c : List (List Int)} (hC : Cartan c) {w : List Int} (hw : lettersOk c w = true) (hl : w.length ≤ 31) {i : Nat} (hi : i < c.length) :
    dotP c.length (fun _ => 1) (rootP c w i) = (imageOf (transp c) w.reverse).getD i 0 := by
  unfold rootP
  rw [ones_at, root_dot hw hi, ← ent_transp hC]
  have := image_pos (transp_cartan hC) (w := w.reverse) (by rw [letters_transp]; exact letters_rev hw) (by simpa using hl)
  rw [transp_length] at this
  rw [← this]
  rfl

theorem rootP_sign {c : List (List Int)} (hC : Cartan c) {w : List Int} (hw : lettersOk c w = true) {i : Nat} (hi : i < c.length) : PosR c.length (rootP c w i) ∨ (∀ k, k < c.length → rootP c w i k ≤ 0) := root_sign hC hw hi

theorem rootP_pos {c : List (List Int)} (hC : Cartan c) {w : List Int} (hw : lettersOk c w = true) (hl : w.length ≤ 31) {i : Nat} (hi : i < c.length) : PosR c.length (rootP c w i) ↔ 0 < (imageOf (transp c) w.reverse).getD i 0 := by
  rw [← height_image hC hw hl hi]
  exact (root_height hC hw hi).2

/-- A root above zero has its coroot above zero. -/
theorem coroot_pos {c : List (List Int)} (hC : Cartan c) {w : List Int} (hw : lettersOk c w = true) (hl : w.length ≤ 28) {i : Nat} (hi : i < c.length) : PosR c.length (rootP c w i) ↔ PosR c.length (rootP (transp c) w i) := by
  have h2 := rootP_pos (transp_cartan hC) (w := w) (by rw [letters_transp]; exact hw) (by omega) (i := i) (by rw [transp_length]; exact hi)
  rw [transp_transp hC, transp_length] at h2
  rw [rootP_pos hC hw (by omega) hi, h2]
  exact (sign_both hC (w := w.reverse) (letters_rev hw) (by simpa using hl) (i := (i : Int)) (by simp [isPoint, inRange]; omega)).symm

/-- The pairing of a coroot's numbers with a root's. -/
def pairP (N : Nat) (c : Nat → Nat → Int) (n r : Pos) : Int := dotP N n (fun j => dotP N (c j) r)

theorem pair_mr {N : Nat} {c : Nat → Nat → Int} (M : MatOk N c) {i : Nat} (hi : i < N) (n r : Pos) : pairP N c (mr N (tr c) i n) (mr N c i r) = pairP N c n r := by
  have e1 : ∀ j, dotP N (c j) (mr N c i r) = dotP N (c j) r - dotP N (c i) r * tr c i j := fun j => by
    unfold mr
    rw [dotP_subr, dotP_unit, if_pos hi]
    rfl
  unfold pairP
  rw [show (fun j => dotP N (c j) (mr N c i r)) = fun j => dotP N (c j) r - dotP N (c i) r * tr c i j from funext e1]
  have e2 : ∀ f : Pos, dotP N (mr N (tr c) i n) f = dotP N n f - dotP N (tr c i) n * f i := fun f => by
    unfold mr
    rw [dotP_sub, dotP_comm (unitP i) f, dotP_unit, if_pos hi]
  rw [e2, dotP_subr, dotP_comm (tr c i) n]
  have d : tr c i i = 2 := M.diag i hi
  rw [d]
  grind

theorem pair_word {c : List (List Int)} (hC : Cartan c) : ∀ (w : List Int), lettersOk c w = true → ∀ (n r : Pos), pairP c.length (ent c) (actP c.length (tr (ent c)) w n) (actP c.length (ent c) w r) = pairP c.length (ent c) n r
  | [], _, _, _ => rfl
  | i :: w, h, n, r => by
    obtain ⟨h1, h2⟩ := letters_cons.1 h
    have p1 := point_of h1
    simp only [actP]
    rw [pair_mr (matOk hC) (by omega), pair_word hC w h2]

theorem pair_root {c : List (List Int)} (hC : Cartan c) {w : List Int} (hw : lettersOk c w = true) {i : Nat} (hi : i < c.length) : pairP c.length (ent c) (rootP (transp c) w i) (rootP c w i) = 2 := by
  unfold rootP
  rw [transp_length, ent_transp hC, pair_word hC w hw]
  unfold pairP
  rw [dotP_comm, dotP_unit, if_pos hi, dotP_unit, if_pos hi]
  exact (matOk hC).diag i hi

theorem dotP_some {f g : Pos} : ∀ (N : Nat), PosR N f → 0 < dotP N f g → ∃ j, j < N ∧ 0 < g j
  | 0, _, h => absurd h (by simp [dotP])
  | n + 1, hf, h => by
    simp only [dotP] at h
    by_cases h1 : 0 < dotP n f g
    · obtain ⟨j, hj, e⟩ := dotP_some n (fun k hk => hf k (by omega)) h1
      exact ⟨j, by omega, e⟩
    · refine ⟨n, by omega, ?_⟩
      have h2 := hf n (by omega)
      by_cases h3 : 0 < g n
      · exact h3
      · exfalso
        have : f n * g n ≤ 0 := Int.mul_nonpos_of_nonneg_of_nonpos h2 (by omega)
        omega

/-- A root above zero goes down at some letter. -/
theorem root_down {c : List (List Int)} (hC : Cartan c) {w : List Int} (hw : lettersOk c w = true) (hl : w.length ≤ 28) {i : Nat} (hi : i < c.length) (h : PosR c.length (rootP c w i)) : ∃ j, j < c.length ∧ 0 < dotP c.length (ent c j) (rootP c w i) := by
  refine dotP_some c.length (f := rootP (transp c) w i) ((coroot_pos hC hw hl hi).1 h) ?_
  have := pair_root hC hw hi
  unfold pairP at this
  omega

theorem mr_mul (N : Nat) (c : Nat → Nat → Int) (i : Nat) (a : Int) (r : Pos) : mr N c i (fun k => a * r k) = fun k => a * mr N c i r k := by
  have e : ∀ (f : Pos) (N : Nat), dotP N f (fun k => a * r k) = a * dotP N f r := by
    intro f N
    induction N with
    | zero => simp [dotP]
    | succ n ih => simp only [dotP, ih]; grind
  funext k
  simp only [mr, e]
  grind

theorem actP_mul (N : Nat) (c : Nat → Nat → Int) (a : Int) : ∀ (w : List Int) (r : Pos), actP N c w (fun k => a * r k) = fun k => a * actP N c w r k
  | [], _ => rfl
  | i :: w, r => by simp only [actP, actP_mul N c a w r, mr_mul]

theorem mr_mr {N : Nat} {c : Nat → Nat → Int} (M : MatOk N c) {i : Nat} (hi : i < N) (r : Pos) : mr N c i (mr N c i r) = r := by
  funext k
  have e : dotP N (c i) (mr N c i r) = - dotP N (c i) r := by
    unfold mr
    rw [dotP_subr, dotP_unit, if_pos hi, M.diag i hi]
    omega
  show mr N c i r k - dotP N (c i) (mr N c i r) * unitP i k = r k
  rw [e]
  unfold mr
  grind

theorem actP_rev {c : List (List Int)} (hC : Cartan c) : ∀ (w : List Int), lettersOk c w = true → ∀ r, actP c.length (ent c) w.reverse (actP c.length (ent c) w r) = r
  | [], _, _ => rfl
  | i :: w, h, r => by
    obtain ⟨h1, h2⟩ := letters_cons.1 h
    have p1 := point_of h1
    rw [List.reverse_cons, actP_app]
    simp only [actP]
    rw [mr_mr (matOk hC) (by omega), actP_rev hC w h2]

theorem mr_off {N : Nat} (c : Nat → Nat → Int) {i k : Nat} (hi : i < N) (hk : N ≤ k) (r : Pos) : mr N c i r k = r k := by
  simp [mr, unitP, show k ≠ i by omega]
theorem rootP_off {c : List (List Int)} : ∀ (w : List Int), lettersOk c w = true → ∀ {i k : Nat}, i < c.length → c.length ≤ k → rootP c w i k = 0
  | [], _, i, k, hi, hk => by simp [rootP, actP, unitP, show k ≠ i by omega]
  | j :: w, h, i, k, hi, hk => by
    obtain ⟨h1, h2⟩ := letters_cons.1 h
    have p1 := point_of h1
    show mr c.length (ent c) j.toNat (rootP c w i) k = 0
    rw [mr_off _ (by omega) hk]
    exact rootP_off w h2 hi hk

/-- A root with numbers at one letter alone, above zero, is simple. -/
theorem root_one {c : List (List Int)} (hC : Cartan c) {w : List Int} (hw : lettersOk c w = true) {i : Nat} (hi : i < c.length) {j : Nat} (h : PosR c.length (rootP c w i)) (hz : ∀ k, k < c.length → k ≠ j → rootP c w i k = 0) : rootP c w i = unitP j := by
  have e : rootP c w i = fun k => rootP c w i j * unitP j k := by
    funext k
    by_cases hk : k = j
    · subst hk; simp [unitP]
    · by_cases hl : k < c.length
      · simp [hz k hl hk, unitP, hk]
      · simp [rootP_off w hw hi (Nat.le_of_not_lt hl), unitP, hk]
  have hb : actP c.length (ent c) w.reverse (rootP c w i) = unitP i := actP_rev hC w hw _
  rw [e, actP_mul] at hb
  have h1 := congrFun hb i
  simp only [unitP, if_true] at h1
  have hj : j < c.length := by
    refine Nat.lt_of_not_le fun hle => ?_
    rw [rootP_off w hw hi hle] at h1
    simp at h1
  have h0 := h j hj
  have hone : rootP c w i j = 1 := by
    have hd : rootP c w i j ∣ 1 := ⟨_, h1.symm⟩
    exact Int.eq_one_of_dvd_one h0 hd
  rw [e, hone]
  simp

/-- Going down at a letter keeps a root above zero, unless it is simple. -/
theorem root_step {c : List (List Int)} (hC : Cartan c) {w : List Int} (hw : lettersOk c w = true) {i : Nat} (hi : i < c.length) {j : Nat} (hj : j < c.length) (h : PosR c.length (rootP c w i)) (hne : rootP c w i ≠ unitP j) : PosR c.length (rootP c ((j : Int) :: w) i) := by
  have hw' : lettersOk c ((j : Int) :: w) = true := letters_cons.2 ⟨by simp [isPoint, inRange]; omega, hw⟩
  rcases rootP_sign hC hw' hi with k | k
  · exact k
  · exfalso
    refine hne (root_one hC hw hi h fun t ht htj => ?_)
    have h1 := k t ht
    have h2 := h t ht
    have e : rootP c ((j : Int) :: w) i t = rootP c w i t := by
      show mr c.length (ent c) (j : Int).toNat (rootP c w i) t = rootP c w i t
      simp [mr, unitP, htj]
    omega

end Go.Proofs.Ytnooeaemjnmkdaa.Hx
