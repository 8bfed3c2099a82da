/-
  Words as maps of all places: the exchange of a letter, the deletion of two letters, and that the image of rho tells the map. Plain theory.
  The reference's named matrices: chains, entries set anew, two matrices side by side.
-/
import Derived.Test.YtdlnjplkkfdejaaZ20
namespace Go.Proofs.Ytdlnjplkkfdejaa.Hx
open Go.RowKit

/-- Two words do the same to every place. -/
def Lin (c : List (List Int)) (a b : List Int) : Prop := ∀ v : Pos, actS (ent c) a v = actS (ent c) b v

theorem Lin.refl (c : List (List Int)) (a : List Int) : Lin c a a := fun _ => rfl
theorem Lin.symm {c : List (List Int)} {a b : List Int} (h : Lin c a b) : Lin c b a := fun v => (h v).symm
theorem Lin.trans {c : List (List Int)} {a b d : List Int} (h : Lin c a b) (k : Lin c b d) : Lin c a d := fun v => (h v).trans (k v)
theorem Lin.app {c : List (List Int)} {a b a' b' : List Int} (h : Lin c a b) (k : Lin c a' b') : Lin c (a ++ a') (b ++ b') := fun v => by rw [actS_app, actS_app, k v, h]
theorem Lin.cons {c : List (List Int)} {a b : List Int} (i : Int) (h : Lin c a b) : Lin c (i :: a) (i :: b) := Lin.app (Lin.refl c [i]) h

theorem Br.lin {c : List (List Int)} {a b : List Int} (h : Br c a b) : Lin c a b := by
  cases h with
  | mk p i j m q hb h2 =>
    obtain ⟨hC, hi, hj, hij, e⟩ := bond_info hb h2
    have p1 := point_of hi
    have p2 := point_of hj
    refine Lin.app (Lin.refl c p) (Lin.app (fun v => ?_) (Lin.refl c q))
    rw [actS_alt, actS_alt, e, alt_rel (matOk hC) (i := i.toNat) (j := j.toNat) (by omega) (by omega) (by omega)]

theorem Conn.lin {c : List (List Int)} {a b : List Int} (h : Conn c a b) : Lin c a b := by
  induction h with
  | refl => exact Lin.refl c _
  | tail _ s ih => exact ih.trans s.lin
theorem Conn.letters {c : List (List Int)} {a b : List Int} (h : Conn c a b) (ha : lettersOk c a = true) : lettersOk c b = true := by
  induction h with
  | refl => exact ha
  | tail _ s ih => exact s.letters ih

theorem twice {c : List (List Int)} (hC : Cartan c) {i : Int} (hi : isPoint c i = true) (w : List Int) : Lin c (i :: i :: w) w := fun v => by
  have p1 := point_of hi
  exact sr_sr ((matOk hC).diag i.toNat (by omega)) _

theorem bondP_cases {p : Int} (h : 2 ≤ bondP p) : bondP p = 2 ∨ bondP p = 3 ∨ bondP p = 4 ∨ bondP p = 6 := by
  unfold bondP at h ⊢
  split
  · exact Or.inl rfl
  · split
    · exact Or.inr (Or.inl rfl)
    · split
      · exact Or.inr (Or.inr (Or.inl rfl))
      · split
        · exact Or.inr (Or.inr (Or.inr rfl))
        · rename_i h1 h2 h3 h4
          rw [if_neg h1, if_neg h2, if_neg h3, if_neg h4] at h
          omega

/-- A letter less of one row of turns is a letter less of the other. -/
theorem alt_erase {c : List (List Int)} (hC : Cartan c) {i j : Int} (hi : isPoint c i = true) (hj : isPoint c j = true) {m : Nat} (hm : m = 2 ∨ m = 3 ∨ m = 4 ∨ m = 6) {k : Nat} (hk : k < m) :
    Lin c ((altTo i j m).eraseIdx k) ((altTo j i m).eraseIdx (m - 1 - k)) := by
  have p1 := point_of hi
  have p2 := point_of hj
  have d1 : ∀ v, sr (ent c) i.toNat (sr (ent c) i.toNat v) = v := sr_sr ((matOk hC).diag i.toNat (by omega))
  have d2 : ∀ v, sr (ent c) j.toNat (sr (ent c) j.toNat v) = v := sr_sr ((matOk hC).diag j.toNat (by omega))
  intro v
  rcases hm with rfl | rfl | rfl | rfl
  · have e : k = 0 ∨ k = 1 := by omega
    rcases e with rfl | rfl <;> rfl
  · have e : k = 0 ∨ k = 1 ∨ k = 2 := by omega
    rcases e with rfl | rfl | rfl
    · rfl
    · show sr (ent c) i.toNat (sr (ent c) i.toNat v) = sr (ent c) j.toNat (sr (ent c) j.toNat v)
      rw [d1, d2]
    · rfl
  · have e : k = 0 ∨ k = 1 ∨ k = 2 ∨ k = 3 := by omega
    rcases e with rfl | rfl | rfl | rfl
    · rfl
    · show sr (ent c) i.toNat (sr (ent c) i.toNat (sr (ent c) j.toNat v)) = sr (ent c) j.toNat (sr (ent c) i.toNat (sr (ent c) i.toNat v))
      rw [d1, d1]
    · show sr (ent c) i.toNat (sr (ent c) j.toNat (sr (ent c) j.toNat v)) = sr (ent c) j.toNat (sr (ent c) j.toNat (sr (ent c) i.toNat v))
      rw [d2, d2]
    · rfl
  · have e : k = 0 ∨ k = 1 ∨ k = 2 ∨ k = 3 ∨ k = 4 ∨ k = 5 := by omega
    have u : ∀ (m : Nat) (x y : Int), altTo x y (m + 1) = x :: altTo y x m := fun m x y => altTo_cons x y m
    rcases e with rfl | rfl | rfl | rfl | rfl | rfl <;> simp only [u, altTo_none, List.eraseIdx, actS, d1, d2] <;> try rfl

/-- One letter of w can be left out for letter i put ahead. -/
def Exch (c : List (List Int)) (i : Int) (w : List Int) : Prop := ∃ k, k < w.length ∧ Lin c (w.eraseIdx k) (i :: w)

theorem Exch.br {c : List (List Int)} {a b : List Int} {i : Int} (h : Br c a b) (H : Exch c i a) : Exch c i b := by
  have hl := h.lin
  have hbr := h.length
  obtain ⟨k, hk, e⟩ := H
  cases h with
  | mk p s t m q hb h2 =>
    obtain ⟨hC, hs, ht, hst, em⟩ := bond_info hb h2
    have p1 := point_of hs
    have p2 := point_of ht
    have halt : Lin c (altTo s t m) (altTo t s m) := fun v => by
      rw [actS_alt, actS_alt, em, alt_rel (matOk hC) (i := s.toNat) (j := t.toNat) (by omega) (by omega) (by omega)]
    have l1 : (altTo s t m).length = m := altTo_len s t m
    have l2 : (altTo t s m).length = m := altTo_len t s m
    by_cases h1 : k < p.length
    · refine ⟨k, by rw [hbr]; exact hk, ?_⟩
      rw [List.eraseIdx_append_of_lt_length h1] at e ⊢
      exact (Lin.app (Lin.refl c _) (Lin.app halt.symm (Lin.refl c q))).trans (e.trans (hl.cons i))
    · rw [List.eraseIdx_append_of_length_le (by omega)] at e
      by_cases h3 : k - p.length < m
      · rw [List.eraseIdx_append_of_lt_length (by omega)] at e
        refine ⟨p.length + (m - 1 - (k - p.length)), by simp [l2]; omega, ?_⟩
        rw [List.eraseIdx_append_of_length_le (by omega), Nat.add_sub_cancel_left, List.eraseIdx_append_of_lt_length (by omega)]
        have hal := alt_erase hC hs ht (m := m) (k := k - p.length) (by rw [em]; exact bondP_cases (by omega)) h3
        exact (Lin.app (Lin.refl c p) (Lin.app hal.symm (Lin.refl c q))).trans (e.trans (hl.cons i))
      · rw [List.eraseIdx_append_of_length_le (by omega)] at e
        refine ⟨k, by rw [hbr]; exact hk, ?_⟩
        rw [List.eraseIdx_append_of_length_le (by omega), List.eraseIdx_append_of_length_le (by omega), l2]
        rw [l1] at e
        exact (Lin.app (Lin.refl c p) (Lin.app halt.symm (Lin.refl c _))).trans (e.trans (hl.cons i))

theorem Exch.conn {c : List (List Int)} {a b : List Int} {i : Int} (h : Conn c a b) (H : Exch c i a) : Exch c i b := by
  induction h with
  | refl => exact H
  | tail _ s ih => exact ih.br s

/-- The exchange of a letter. -/
theorem exchange {c : List (List Int)} (hC : Cartan c) {n : Nat} {v w : List Int} (P : PlayL c n v) (hn : n ≤ 29) (R : Red c n v w) {i : Int} (hi : isPoint c i = true) (h : v.getD i.toNat 0 < 0) : Exch c i w := by
  have p1 := point_of hi
  obtain ⟨m, rfl, Q⟩ := P.down hC (by omega) (i := i.toNat) (by omega) h
  have Rz : Red c m (reflW c i.toNat v) (nf c 30 (reflW c i.toNat v)) := ⟨nf_len hC m _ 30 Q (by omega) (by omega), nf_letters hC m _ 30 Q (by omega) (by omega), nf_image hC m _ 30 Q (by omega) (by omega)⟩
  have Ri := Red.cons hC P (by omega) hi h Rz
  refine Exch.conn (conn_all hC (m + 1) v P hn _ w Ri R) ⟨0, by simp, ?_⟩
  exact (twice hC hi _).symm

theorem lin_image {c : List (List Int)} (hC : Cartan c) {a b : List Int} (h : Lin c a b) (ha : lettersOk c a = true) (hb : lettersOk c b = true) (hla : a.length ≤ 31) (hlb : b.length ≤ 31) : imageOf c a = imageOf c b := by
  apply posOf_inj (by rw [imageOf_length, imageOf_length])
  rw [image_pos hC ha hla, image_pos hC hb hlb]
  exact h _

theorem letters_erase {c : List (List Int)} {w : List Int} (h : lettersOk c w = true) (k : Nat) : lettersOk c (w.eraseIdx k) = true :=
  List.all_eq_true.2 fun x hx => List.all_eq_true.1 h x (List.mem_of_mem_eraseIdx hx)

/-- The deletion of two letters. -/
theorem deletion {c : List (List Int)} (hC : Cartan c) : ∀ (w : List Int) (n : Nat), lettersOk c w = true → w.length ≤ 29 → PlayL c n (imageOf c w) → n < w.length →
    ∃ a b, a < b ∧ b < w.length ∧ Lin c ((w.eraseIdx b).eraseIdx a) w
  | [], _, _, _, _, h => by simp at h
  | s :: q, n, hw, hl, P, hn => by
    obtain ⟨hs, hq⟩ := letters_cons.1 hw
    have p1 := point_of hs
    simp only [List.length_cons] at hl hn
    obtain ⟨m, hm, Q⟩ := play_image hC hq (by omega)
    by_cases h : m < q.length
    · obtain ⟨a, b, h1, h2, h3⟩ := deletion hC q m hq (by omega) Q h
      exact ⟨a + 1, b + 1, by omega, by simp; omega, by simpa using h3.cons s⟩
    · have em : m = q.length := by omega
      have hneg : (imageOf c q).getD s.toNat 0 < 0 := by
        have hne := Q.ne hC (i := s.toNat) (by omega)
        by_cases hlt : (imageOf c q).getD s.toNat 0 < 0
        · exact hlt
        · exfalso
          have U : PlayL c (m + 1) (imageOf c (s :: q)) := by
            rw [imageW_cons]
            refine ⟨by rw [reflW_length]; exact Q.1, ?_⟩
            rw [pos_refl hC Q (by omega) (by omega)]
            exact Q.2.up (matOk hC) (by omega) (by show 0 < (imageOf c q).getD s.toNat 0; omega)
          have := play_unique hC P U (by omega) (by omega)
          omega
      obtain ⟨k, hk, e⟩ := exchange hC Q (by omega) (w := q) ⟨em.symm, hq, rfl⟩ hs hneg
      exact ⟨0, k + 1, by omega, by simp; omega, by simpa using e⟩

/-- Each word is as good as a reduced one. -/
theorem reduce_to {c : List (List Int)} (hC : Cartan c) : ∀ (l : Nat) (w : List Int) (n : Nat), w.length ≤ l → lettersOk c w = true → w.length ≤ 29 → n ≤ 30 → PlayL c n (imageOf c w) → ∃ r, Red c n (imageOf c w) r ∧ Lin c r w
  | l, w, n, hl, hw, h29, h30, P => by
    obtain ⟨m, hm, Q⟩ := play_image hC hw (by omega)
    have hn : n = m := play_unique hC P Q h30 (by omega)
    subst hn
    by_cases h : n < w.length
    · obtain ⟨a, b, h1, h2, h3⟩ := deletion hC w n hw h29 P h
      have hwl : ((w.eraseIdx b).eraseIdx a).length + 2 = w.length := by
        rw [List.length_eraseIdx_of_lt (by rw [List.length_eraseIdx_of_lt h2]; omega), List.length_eraseIdx_of_lt h2]
        omega
      have hlt := letters_erase (letters_erase hw b) a
      have him := lin_image hC h3 hlt hw (by omega) (by omega)
      obtain ⟨l', rfl⟩ : ∃ l', l = l' + 1 := ⟨l - 1, by omega⟩
      obtain ⟨r, Rr, hr⟩ := reduce_to hC l' ((w.eraseIdx b).eraseIdx a) n (by omega) hlt (by omega) h30 (by rw [him]; exact P)
      rw [him] at Rr
      exact ⟨r, Rr, hr.trans h3⟩
    · exact ⟨w, ⟨by omega, hw, rfl⟩, Lin.refl c w⟩

/-- The image of rho tells the map. -/
theorem faithful {c : List (List Int)} (hC : Cartan c) {a b : List Int} (ha : lettersOk c a = true) (hb : lettersOk c b = true) (hla : a.length ≤ 29) (hlb : b.length ≤ 29) (h : imageOf c a = imageOf c b) : Lin c a b := by
  obtain ⟨n, hn, P⟩ := play_image hC ha (by omega)
  obtain ⟨r, Rr, hr⟩ := reduce_to hC a.length a n (Nat.le_refl _) ha hla (by omega) P
  obtain ⟨s, Rs, hs⟩ := reduce_to hC b.length b n (Nat.le_refl _) hb hlb (by omega) (by rw [← h]; exact P)
  rw [← h] at Rs
  exact hr.symm.trans ((conn_all hC n _ P (by omega) r s Rr Rs).lin.trans hs)

theorem actS_rev {c : List (List Int)} (hC : Cartan c) : ∀ (w : List Int), lettersOk c w = true → ∀ v, actS (ent c) w (actS (ent c) w.reverse v) = v ∧ actS (ent c) w.reverse (actS (ent c) w v) = v
  | [], _, _ => ⟨rfl, rfl⟩
  | i :: w, h, v => by
    obtain ⟨h1, h2⟩ := letters_cons.1 h
    have p1 := point_of h1
    have d : ∀ v, sr (ent c) i.toNat (sr (ent c) i.toNat v) = v := sr_sr ((matOk hC).diag i.toNat (by omega))
    rw [List.reverse_cons, actS_app, actS_app]
    show sr (ent c) i.toNat (actS (ent c) w (actS (ent c) w.reverse (sr (ent c) i.toNat v))) = v ∧ actS (ent c) w.reverse (sr (ent c) i.toNat (sr (ent c) i.toNat (actS (ent c) w v))) = v
    rw [(actS_rev hC w h2 _).1, d, d, (actS_rev hC w h2 _).2]
    exact ⟨rfl, rfl⟩

theorem letters_rev {c : List (List Int)} {w : List Int} (h : lettersOk c w = true) : lettersOk c w.reverse = true :=
  List.all_eq_true.2 fun x hx => List.all_eq_true.1 h x (List.mem_reverse.1 hx)

theorem Lin.rev {c : List (List Int)} (hC : Cartan c) {a b : List Int} (ha : lettersOk c a = true) (hb : lettersOk c b = true) (h : Lin c a b) : Lin c a.reverse b.reverse := fun v => by
  have h1 := (actS_rev hC a ha v).1
  have h2 := (actS_rev hC b hb v).1
  have h3 := (actS_rev hC a ha (actS (ent c) b.reverse v)).2
  rw [h (actS (ent c) b.reverse v), h2] at h3
  exact h3

/-- A word from behind is as long as the word. -/
theorem play_rev {c : List (List Int)} (hC : Cartan c) {w : List Int} {n m : Nat} (hw : lettersOk c w = true) (hl : w.length ≤ 29) (P : PlayL c n (imageOf c w)) (Q : PlayL c m (imageOf c w.reverse)) (hm : m ≤ 30) (hn : n ≤ 30) : m = n := by
  have key : ∀ (w : List Int) (n m : Nat), lettersOk c w = true → w.length ≤ 29 → PlayL c n (imageOf c w) → PlayL c m (imageOf c w.reverse) → m ≤ 30 → n ≤ 30 → m ≤ n := by
    intro w n m hw hl P Q hm hn
    obtain ⟨r, Rr, hr⟩ := reduce_to hC w.length w n (Nat.le_refl _) hw hl hn P
    have him := lin_image hC (hr.rev hC Rr.2.1 hw) (letters_rev Rr.2.1) (letters_rev hw) (by rw [List.length_reverse, Rr.1]; omega) (by rw [List.length_reverse]; omega)
    obtain ⟨k, hk, K⟩ := play_image hC (letters_rev Rr.2.1) (by rw [List.length_reverse, Rr.1]; omega)
    rw [him] at K
    rw [List.length_reverse, Rr.1] at hk
    have := play_unique hC Q K hm (by omega)
    omega
  have h1 := key w n m hw hl P Q hm hn
  have h2 := key w.reverse m n (letters_rev hw) (by rw [List.length_reverse]; exact hl) Q (by rw [List.reverse_reverse]; exact P) hn hm
  omega

end Go.Proofs.Ytdlnjplkkfdejaa.Hx

namespace Go.Proofs.Ytdlnjplkkfdejaa.Hx
open Go.RowKit

def chainR (n i : Nat) : List Int :=
  let r1 := (List.replicate n (0 : Int)).set i 2
  let r2 := if 0 < i then r1.set (i - 1) (-1) else r1
  if i + 1 < n then r2.set (i + 1) (-1) else r2
def chainTo (n k : Nat) : List (List Int) := (List.range k).map (chainR n)
def chainC (n : Nat) : List (List Int) := chainTo n n
def setM (L : List (List Int)) (i j : Nat) (a : Int) : List (List Int) := L.set i ((L.getD i []).set j a)
def setC (L : List (List Int)) (i j : Nat) (a b : Int) : List (List Int) := setM (setM L i j a) j i b
def zerosL (n : Nat) : List Int := List.replicate n 0
def joinTo1 (a b : List (List Int)) (k : Nat) : List (List Int) := (List.range k).map fun i => a.getD i [] ++ zerosL b.length
def joinTo2 (a b : List (List Int)) (k : Nat) : List (List Int) := joinTo1 a b a.length ++ (List.range k).map fun i => zerosL a.length ++ b.getD i []
def joinC (a b : List (List Int)) : List (List Int) := joinTo2 a b b.length

theorem chainR_length (n i : Nat) : (chainR n i).length = n := by
  unfold chainR
  simp only
  split <;> split <;> simp
theorem chainTo_length (n k : Nat) : (chainTo n k).length = k := by simp [chainTo]
theorem chainTo_succ (n k : Nat) : chainTo n (k + 1) = chainTo n k ++ [chainR n k] := by simp [chainTo, List.range_succ]
theorem setM_length (L : List (List Int)) (i j : Nat) (a : Int) : (setM L i j a).length = L.length := by simp [setM]
theorem setM_get {L : List (List Int)} {i : Nat} (hi : i < L.length) (j : Nat) (a : Int) (k : Nat) : (setM L i j a).getD k [] = if k = i then (L.getD i []).set j a else L.getD k [] := by
  unfold setM
  by_cases hk : k = i
  · subst hk
    simp [List.getD, hi]
  · rw [if_neg hk]
    simp [List.getD, List.getElem?_set_ne (Ne.symm hk)]
theorem setM_row {L : List (List Int)} {i : Nat} (hi : i < L.length) (j : Nat) (a : Int) (k : Nat) : ((setM L i j a).getD k []).length = (L.getD k []).length := by
  rw [setM_get hi]
  split
  · rename_i h
    subst h
    simp
  · rfl
theorem joinTo1_length (a b : List (List Int)) (k : Nat) : (joinTo1 a b k).length = k := by simp [joinTo1]
theorem joinTo1_succ (a b : List (List Int)) (k : Nat) : joinTo1 a b (k + 1) = joinTo1 a b k ++ [a.getD k [] ++ zerosL b.length] := by simp [joinTo1, List.range_succ]
theorem joinTo2_succ (a b : List (List Int)) (k : Nat) : joinTo2 a b (k + 1) = joinTo2 a b k ++ [zerosL a.length ++ b.getD k []] := by simp [joinTo2, List.range_succ]
theorem joinTo2_none (a b : List (List Int)) : joinTo2 a b 0 = joinTo1 a b a.length := by simp [joinTo2]
theorem joinTo2_length (a b : List (List Int)) (k : Nat) : (joinTo2 a b k).length = a.length + k := by simp [joinTo2, joinTo1]

/-- One cell of one's own slice written anew. -/
theorem OwnR.put {r : Nat} {h : Heap} {x : H0} {l : List Int} (O : OwnR r h x l) {o : Nat} (ho : o < l.length) {v : Int} {K : HV → Heap → Prop} (hK : ∀ h', But r h h' → h'.length = h.length → OwnR r h' x (l.set o v) → K .dead h') : HStore h (.s (.ptr r o)) (I v) K := by
  have hlt := O.lt
  obtain ⟨t, rfl, hr⟩ := O
  refine HStore.own hr (by simp; omega) rfl (hK _ ⟨by simp, fun q hq hn => by rw [List.getElem?_set_ne (Ne.symm hn)]⟩ (by simp) ⟨t, by simp, ?_⟩)
  rw [List.getElem?_set_self hlt, List.set_append_left _ _ (by simpa using ho), List.map_set]

theorem OwnR.idx {r : Nat} {h : Heap} {x : H0} {l : List Int} (O : OwnR r h x l) {j : Int} (h0 : 0 ≤ j) (h1 : j < l.length) {k : IntKind} {K : HV → Prop} (hK : K (.s (.ptr r j.toNat))) : HIdx h (.s x) (.s (.pl (.int k j))) K := by
  obtain ⟨t, rfl, hr⟩ := O
  exact HIdx.sl h0 h1 (by rw [Nat.zero_add]; exact hK)

/-- One cell of a slice of slices of one's own written anew. -/
theorem MatAt.put {h : Heap} {r : Nat} {ρ : Nat → Nat} {L : List (List Int)} (m : MatAt h r ρ L) {i o : Nat} (hi : i < L.length) (ho : o < (L.getD i []).length) {v : Int} {K : HV → Heap → Prop}
    (hK : ∀ h', h'.length = h.length → KeepN (fun q => q = ρ i) h h' → MatAt h' r ρ (setM L i o v) → K .dead h') : HStore h (.s (.ptr (ρ i) o)) (I v) K := by
  obtain ⟨t, ht⟩ := m.inner i hi
  have hlt := get_lt ht
  refine HStore.own ht (by simp only [List.length_append, List.length_map]; omega) rfl (hK _ (by simp) ⟨by simp, fun q hq hn => by rw [List.getElem?_set_ne (Ne.symm hn)]⟩ ⟨?_, fun k hk => ?_, fun k hk => ?_, fun k j hkj hj => ?_⟩)
  · obtain ⟨cs, g1, g2, g3⟩ := m.outer
    refine ⟨cs, by rw [List.getElem?_set_ne (m.ne i hi)]; exact g1, by rw [setM_length]; exact g2, fun k hk => ?_⟩
    rw [setM_length] at hk
    rw [setM_row hi]
    exact g3 k hk
  · rw [setM_length] at hk
    rw [setM_get hi]
    by_cases hki : k = i
    · subst hki
      refine ⟨t, ?_⟩
      rw [if_pos rfl, List.getElem?_set_self hlt, List.set_append_left _ _ (by simpa using ho), List.map_set]
    · obtain ⟨t2, ht2⟩ := m.inner k hk
      refine ⟨t2, ?_⟩
      have hne : ρ i ≠ ρ k := by
        rcases Nat.lt_or_gt_of_ne hki with h | h
        · exact fun e => m.inj k i h hi e.symm
        · exact m.inj i k h hk
      rw [if_neg hki, List.getElem?_set_ne hne]
      exact ht2
  · exact m.ne k (by simpa [setM_length] using hk)
  · exact m.inj k j hkj (by simpa [setM_length] using hj)

/-- One slice of a slice of slices of one's own put in anew. -/
theorem MatAt.putRow {h : Heap} {r : Nat} {ρ : Nat → Nat} {L : List (List Int)} (m : MatAt h r ρ L) {i q : Nat} (hi : i < L.length) {y : H0} {l : List Int} (O : OwnR q h y l) (hq : q ≠ r) (hqs : ∀ k, k < L.length → q ≠ ρ k) {K : HV → Heap → Prop}
    (hK : ∀ h', h'.length = h.length → KeepN (fun q => q = r) h h' → MatAt h' r (fun k => if k = i then q else ρ k) (L.set i l) → K .dead h') : HStore h (.s (.ptr r i)) (.s y) K := by
  obtain ⟨cs, g1, g2, g3⟩ := m.outer
  obtain ⟨t, rfl, hr⟩ := O
  have hlt := get_lt g1
  have gd : ∀ k, (L.set i l).getD k [] = if k = i then l else L.getD k [] := fun k => by
    by_cases hk : k = i
    · subst hk
      simp [List.getD, hi]
    · rw [if_neg hk]
      simp [List.getD, List.getElem?_set_ne (Ne.symm hk)]
  refine HStore.own g1 (by omega) rfl (hK _ (by simp) ⟨by simp, fun q hq hn => by rw [List.getElem?_set_ne (Ne.symm hn)]⟩ ⟨⟨_, List.getElem?_set_self hlt, by simpa using g2, fun k hk => ?_⟩, fun k hk => ?_, fun k hk => ?_, fun k j hkj hj => ?_⟩)
  · rw [gd]
    simp only [List.length_set] at hk
    by_cases hki : k = i
    · subst hki
      rw [List.getElem?_set_self (by omega), if_pos rfl, if_pos rfl]
    · rw [List.getElem?_set_ne (Ne.symm hki), if_neg hki, if_neg hki]
      exact g3 k hk
  · rw [gd]
    simp only [List.length_set] at hk
    by_cases hki : k = i
    · subst hki
      rw [if_pos rfl, if_pos rfl]
      exact ⟨t, by rw [List.getElem?_set_ne (Ne.symm hq)]; exact hr⟩
    · obtain ⟨t2, ht2⟩ := m.inner k hk
      rw [if_neg hki, if_neg hki]
      exact ⟨t2, by rw [List.getElem?_set_ne (Ne.symm (m.ne k hk))]; exact ht2⟩
  · simp only [List.length_set] at hk
    show (if k = i then q else ρ k) ≠ r
    by_cases hki : k = i
    · rw [if_pos hki]; exact hq
    · rw [if_neg hki]; exact m.ne k hk
  · simp only [List.length_set] at hj
    show (if k = i then q else ρ k) ≠ (if j = i then q else ρ j)
    by_cases hki : k = i
    · rw [if_pos hki, if_neg (by omega)]
      exact hqs j hj
    · by_cases hji : j = i
      · rw [if_neg hki, if_pos hji]
        exact fun e => hqs k (by omega) e.symm
      · rw [if_neg hki, if_neg hji]
        exact m.inj k j hkj hj

/-- Zeros, appended to one's own slice. -/
theorem HAppZ2.ints {r : Nat} {h : Heap} {y : H0} {l : List Int} {n : Int} {K : HV → Heap → Prop} (H : OwnR r h y l) (h0 : 0 < n) (hn : (l.length : Int) + n ≤ 1048576)
    (hK : ∀ h' r' y', But r h h' → h.length ≤ r' → OwnR r' h' y' (l ++ zerosL n.toNat) → K (.s y') h') : HAppZ2 (.int .i64 0) h (.s y) (I n) K := by
  obtain ⟨t, rfl, hr⟩ := H
  refine ⟨.i64, n.toNat, r, l.length, _, rfl, by rw [Int.toNat_of_nonneg (by omega)], by omega, by omega, hr, by simp, ?_⟩
  have e1 : l.length + n.toNat = (l ++ zerosL n.toNat).length := by simp [zerosL]
  have e2 : (l.map ci ++ t).take l.length ++ List.replicate n.toNat (H0.pl (.int .i64 0)) = (l ++ zerosL n.toNat).map ci := by
    rw [List.take_append_of_le_length (by simp), List.take_of_length_le (by simp)]
    simp [zerosL]
  rw [e1, e2]
  refine hK _ h.length _ ⟨by simp, fun q hq hn => ?_⟩ (Nat.le_refl _) ⟨[], rfl, ?_⟩
  · rw [List.getElem?_append_left (by simpa using hq), List.getElem?_set_ne (Ne.symm hn)]
  · rw [List.getElem?_append_right (by simp)]
    simp

theorem OwnM.keep {F : Nat → Prop} {b e : Nat} {h h' : Heap} {x : H0} {L : List (List Int)} (H : OwnM b e h x L) (k : KeepN F h h') (hf : ∀ q, b ≤ q → q < e → ¬ F q) : OwnM b e h' x L := by
  obtain ⟨r, ρ, g1, g2, g3, g4, m⟩ := H
  exact ⟨r, ρ, g1, g2, g3, g4, m.move (k.2 r m.lt.1 (hf r g2 g3)) (fun i hi => k.2 _ (m.lt.2 i hi) (hf _ (g4 i hi).1 (g4 i hi).2))⟩

theorem OwnM.rowsN {F : Nat → Prop} {b e : Nat} {h : Heap} {x : H0} {L : List (List Int)} (H : OwnM b e h x L) (hf : ∀ q, b ≤ q → q < e → ¬ F q) : RowsN F h x L := by
  obtain ⟨r, ρ, rfl, g2, g3, g4, m⟩ := H
  obtain ⟨cs, h1, h2, h3⟩ := m.outer
  refine ⟨(cs.drop 0).take L.length, Shows.own r 0 L.length cs h1 (by omega), fun r' o n e => by cases e; exact hf _ g2 g3, by simp; omega, fun i y l hy hl => ?_⟩
  have hi : i < L.length := (List.getElem?_eq_some_iff.1 hl).1
  rw [List.drop_zero, List.getElem?_take_of_lt hi, h3 i hi] at hy
  cases hy
  obtain ⟨t, ht⟩ := m.inner i hi
  have e : L.getD i [] = l := by simp [List.getD, hl]
  rw [e] at ht ⊢
  exact ⟨Ints.ofOwn ht, fun r' o n e => by cases e; exact hf _ (g4 i hi).1 (g4 i hi).2⟩

/-- Two texts compared. -/
theorem HStr.eql {a b : ByteArray} {K : HV → Prop} (hK : K (B (a.toList == b.toList))) : HStr .eql a b K := ⟨_, fun _ _ => rfl, hK⟩
theorem HIf.str {a b : ByteArray} {A C : Prop} (h1 : a = b → A) (h2 : a ≠ b → C) : HIf (a.toList == b.toList) A C := by
  refine HIf.split (fun h => h1 ?_) (fun h => h2 (fun e => ?_))
  · rw [ByteArray.toList_eq, ByteArray.toList_eq] at h
    exact Go.WideShapes.bytes_inj (by simpa using h)
  · subst e
    simp at h
theorem HIf.strT {a b : ByteArray} {A C : Prop} (e : a = b) (h : A) : HIf (a.toList == b.toList) A C := HIf.str (fun _ => h) (fun k => absurd e k)
theorem HIf.strF {a b : ByteArray} {A C : Prop} (e : a ≠ b) (h : C) : HIf (a.toList == b.toList) A C := HIf.str (fun k => absurd k e) (fun _ => h)

/-- The names of which the reference draws. -/
def namesT : List ByteArray := [⟨#[65, 49]⟩, ⟨#[65, 50]⟩, ⟨#[65, 51]⟩, ⟨#[65, 52]⟩, ⟨#[66, 50]⟩, ⟨#[66, 51]⟩, ⟨#[66, 52]⟩, ⟨#[67, 51]⟩, ⟨#[67, 52]⟩, ⟨#[68, 52]⟩, ⟨#[70, 52]⟩, ⟨#[71, 50]⟩, ⟨#[65, 49, 126]⟩, ⟨#[65, 50, 126]⟩, ⟨#[65, 51, 126]⟩, ⟨#[67, 50, 126]⟩, ⟨#[71, 50, 126]⟩]
theorem cartA1 : isCartan (chainC 1) = true := by decide +kernel
theorem cartA2 : isCartan (chainC 2) = true := by decide +kernel
theorem cartA3 : isCartan (chainC 3) = true := by decide +kernel
theorem cartA4 : isCartan (chainC 4) = true := by decide +kernel
theorem cartB2 : isCartan (setC (chainC 2) 0 1 (-1) (-2)) = true := by decide +kernel
theorem cartB3 : isCartan (setC (chainC 3) 1 2 (-1) (-2)) = true := by decide +kernel
theorem cartB4 : isCartan (setC (chainC 4) 2 3 (-1) (-2)) = true := by decide +kernel
theorem cartC3 : isCartan (setC (chainC 3) 1 2 (-2) (-1)) = true := by decide +kernel
theorem cartC4 : isCartan (setC (chainC 4) 2 3 (-2) (-1)) = true := by decide +kernel
theorem cartD4 : isCartan (setC (setC (chainC 4) 2 3 0 0) 1 3 (-1) (-1)) = true := by decide +kernel
theorem cartF4 : isCartan (setC (chainC 4) 1 2 (-1) (-2)) = true := by decide +kernel
theorem cartG2 : isCartan (setC (chainC 2) 0 1 (-1) (-3)) = true := by decide +kernel
theorem cartA1t : isCartan (setC (chainC 2) 0 1 (-2) (-2)) = true := by decide +kernel
theorem cartA2t : isCartan (setC (chainC 3) 0 2 (-1) (-1)) = true := by decide +kernel
theorem cartA3t : isCartan (setC (chainC 4) 0 3 (-1) (-1)) = true := by decide +kernel
theorem cartC2t : isCartan (setC (setC (chainC 3) 0 1 (-1) (-2)) 1 2 (-2) (-1)) = true := by decide +kernel
theorem cartG2t : isCartan (setC (chainC 3) 1 2 (-1) (-3)) = true := by decide +kernel

/-- A matrix as the draws make them: square, of one to four points. -/
structure Shape (L : List (List Int)) : Prop where
  pos : 1 ≤ L.length
  le : L.length ≤ 4
  row : ∀ k, k < L.length → (L.getD k []).length = L.length

theorem Shape.of {L : List (List Int)} (h : isCartan L = true) : Shape L := by
  have := (isCartan_iff L).1 h
  exact ⟨this.pos, this.le, this.row⟩
theorem tot_rows {n : Nat} {L : List (List Int)} (h : ∀ k, k < L.length → (L.getD k []).length ≤ n) : tot L ≤ n * L.length :=
  tot_le n L (fun l hl => by
    obtain ⟨i, hi, e⟩ := List.getElem_of_mem hl
    have := h i hi
    have e2 : L.getD i [] = l := by simp [List.getD, hi, e]
    rw [e2] at this
    exact this)
theorem Shape.tot {L : List (List Int)} (h : Shape L) : tot L ≤ 16 := by
  have h1 := tot_rows (n := 4) (L := L) (fun k hk => by rw [h.row k hk]; exact h.le)
  have := h.le
  omega
theorem Shape.set {L : List (List Int)} (h : Shape L) {i j : Nat} (hi : i < L.length) (hj : j < L.length) (a b : Int) : Shape (setC L i j a b) := by
  unfold setC
  refine ⟨?_, ?_, fun k hk => ?_⟩
  · rw [setM_length, setM_length]; exact h.pos
  · rw [setM_length, setM_length]; exact h.le
  · rw [setM_length, setM_length] at hk
    rw [setM_length, setM_length, setM_row (by rw [setM_length]; exact hj), setM_row hi]
    exact h.row k hk

set_option smartUnfolding false

theorem spec_l2Chain (h : Heap) (n : Nat) (hn : n ≤ 4) : HCalls Try.prog 117 [I n] h (fun r h' => ∃ y, r = .s y ∧ Ext h h' ∧ OwnM h.length h'.length h' y (chainC n)) := by
  refine calls_of_hFun (m := 0) kd_ok mixed Try.func117 rfl (by kernel_rfl) rfl rfl (of_decide_eq_true rfl) ?_; unfold hFun; (conv => whnf)
  refine HLit.empty ?_
  (conv => whnf)
  refine HLoop.intro [4, 3] [7, 8, 9, 12, 13, 5, 14, 15, 16, 17, 18, 19, 20, 21, 22, 23, 24, 25, 26, 27, 28, 29, 30, 31, 32, 33, 34, 3, 10, 11, 4] (by kernel_rfl) (by kernel_rfl) (fun vs h' => ∃ (k : Nat) (z : H0), vs = [I k, .s z] ∧ k ≤ n ∧ Ext h h' ∧ OwnM h.length h'.length h' z (chainTo n k)) (fun vs _ => n - natAt vs 0) ⟨0, _, rfl, by omega, Ext.push _ _, OwnM.none h⟩ ?_
  rintro vs h' ⟨k, z, rfl, hk, E, O⟩
  have hcl := chainTo_length n k
  (conv => whnf)
  refine HIf.dec (fun hlt => ?_) (fun hge => ?_)
  · (conv => whnf)
    refine HMake.ints n rfl (by omega) ?_
    have O1 : OwnR h'.length (h' ++ [.own (List.replicate n (ci 0))]) (.sl h'.length 0 n) (List.replicate n (0 : Int)) := ⟨[], by simp, by rw [get_new]; simp⟩
    have E1 := Ext.push h' [.own (List.replicate n (ci 0))]
    generalize h' ++ [Row.own (List.replicate n (ci 0))] = h1 at O1 E1 ⊢
    have hE1 := E1.1
    have hrl : (List.replicate n (0 : Int)).length = n := by simp
    (conv => whnf)
    refine ⟨rfl, O1.idx (by omega) (by omega) ?_⟩
    (conv => whnf)
    refine ⟨rfl, O1.put (o := k) (by omega) (fun h2 B2 n2 O2 => ?_)⟩
    have E2 := E1.but B2 (Nat.le_refl _)
    have l2 : (((List.replicate n (0 : Int)).set k 2)).length = n := by simp
    (conv => whnf)
    refine HIf.dec (fun h0 => ?_) (fun h0 => ?_)
    · (conv => whnf)
      refine HArith.fits (by omega) (by omega) ?_
      (conv => whnf)
      refine ⟨rfl, O2.idx (by omega) (by omega) ?_⟩
      (conv => whnf)
      refine ⟨rfl, O2.put (by omega) (fun h3 B3 n3 O3 => ?_)⟩
      have E3 := E2.but B3 (Nat.le_refl _)
      have e3 : ((k : Int) - 1).toNat = k - 1 := by omega
      rw [e3] at O3
      have l3 : ((((List.replicate n (0 : Int)).set k 2)).set (k - 1) (-1)).length = n := by simp
      (conv => whnf)
      refine HArith.fits (by omega) (by omega) ?_
      (conv => whnf)
      refine HIf.dec (fun h1 => ?_) (fun h1 => ?_)
      · (conv => whnf)
        refine HArith.fits (by omega) (by omega) ?_
        (conv => whnf)
        refine ⟨rfl, O3.idx (by omega) (by omega) ?_⟩
        (conv => whnf)
        refine ⟨rfl, O3.put (by omega) (fun h4 B4 n4 O4 => ?_)⟩
        have E4 := E3.but B4 (Nat.le_refl _)
        have e4 : ((k : Int) + 1).toNat = k + 1 := by omega
        have e5 : (((((List.replicate n (0 : Int)).set k 2)).set (k - 1) (-1)).set ((k : Int) + 1).toNat (-1)) = chainR n k := by
          rw [e4]
          unfold chainR
          simp only
          rw [if_pos (by omega), if_pos (by omega)]
        rw [e5] at O4
        (conv => whnf)
        refine HLit.row (O4.own (Nat.zero_le _)).one ?_
        (conv => whnf)
        refine ⟨rfl, rfl, HApp.snocM E O E4 (O4.own (by omega)) (by omega) (fun h6 y6 E6 O6 => ?_)⟩
        rw [← chainTo_succ] at O6
        (conv => whnf)
        refine HArith.fits (by omega) (by omega) ?_
        (conv => whnf)
        exact ⟨⟨k + 1, y6, rfl, by omega, E6, O6⟩, by show n - (k + 1) < n - k; omega⟩
      · have e5 : ((((List.replicate n (0 : Int)).set k 2)).set (k - 1) (-1)) = chainR n k := by
          unfold chainR
          simp only
          rw [if_neg (by omega), if_pos (by omega)]
        rw [e5] at O3
        (conv => whnf)
        refine HLit.row (O3.own (Nat.zero_le _)).one ?_
        (conv => whnf)
        refine ⟨rfl, rfl, HApp.snocM E O E3 (O3.own (by omega)) (by omega) (fun h6 y6 E6 O6 => ?_)⟩
        rw [← chainTo_succ] at O6
        (conv => whnf)
        refine HArith.fits (by omega) (by omega) ?_
        (conv => whnf)
        exact ⟨⟨k + 1, y6, rfl, by omega, E6, O6⟩, by show n - (k + 1) < n - k; omega⟩
    · (conv => whnf)
      refine HArith.fits (by omega) (by omega) ?_
      (conv => whnf)
      refine HIf.dec (fun h1 => ?_) (fun h1 => ?_)
      · (conv => whnf)
        refine HArith.fits (by omega) (by omega) ?_
        (conv => whnf)
        refine ⟨rfl, O2.idx (by omega) (by omega) ?_⟩
        (conv => whnf)
        refine ⟨rfl, O2.put (by omega) (fun h4 B4 n4 O4 => ?_)⟩
        have E4 := E2.but B4 (Nat.le_refl _)
        have e4 : ((k : Int) + 1).toNat = k + 1 := by omega
        have e5 : (((List.replicate n (0 : Int)).set k 2)).set ((k : Int) + 1).toNat (-1) = chainR n k := by
          rw [e4]
          unfold chainR
          simp only
          rw [if_pos (by omega), if_neg (by omega)]
        rw [e5] at O4
        (conv => whnf)
        refine HLit.row (O4.own (Nat.zero_le _)).one ?_
        (conv => whnf)
        refine ⟨rfl, rfl, HApp.snocM E O E4 (O4.own (by omega)) (by omega) (fun h6 y6 E6 O6 => ?_)⟩
        rw [← chainTo_succ] at O6
        (conv => whnf)
        refine HArith.fits (by omega) (by omega) ?_
        (conv => whnf)
        exact ⟨⟨k + 1, y6, rfl, by omega, E6, O6⟩, by show n - (k + 1) < n - k; omega⟩
      · have e5 : (((List.replicate n (0 : Int)).set k 2)) = chainR n k := by
          unfold chainR
          simp only
          rw [if_neg (by omega), if_neg (by omega)]
        rw [e5] at O2
        (conv => whnf)
        refine HLit.row (O2.own (Nat.zero_le _)).one ?_
        (conv => whnf)
        refine ⟨rfl, rfl, HApp.snocM E O E2 (O2.own (by omega)) (by omega) (fun h6 y6 E6 O6 => ?_)⟩
        rw [← chainTo_succ] at O6
        (conv => whnf)
        refine HArith.fits (by omega) (by omega) ?_
        (conv => whnf)
        exact ⟨⟨k + 1, y6, rfl, by omega, E6, O6⟩, by show n - (k + 1) < n - k; omega⟩
  · have e : k = n := by omega
    subst e
    (conv => whnf)
    exact ⟨_, rfl, E, O⟩

theorem spec_l2Set (h : Heap) (x : H0) (L : List (List Int)) (i j : Nat) (a b : Int) (hx : Rows h x L) (hL : L.length ≤ 1048576 ∧ tot L ≤ 1048576) (hi : i < L.length) (hj : j < L.length) (hij : j < (L.getD i []).length) (hji : i < (L.getD j []).length) :
    HCalls Try.prog 115 [.s x, I i, I j, I a, I b] h (fun r h' => ∃ y, r = .s y ∧ Ext h h' ∧ OwnM h.length h'.length h' y (setC L i j a b)) := by
  refine calls_of_hFun (m := 0) kd_ok mixed Try.func115 rfl (by kernel_rfl) rfl rfl (of_decide_eq_true rfl) ?_; unfold hFun; (conv => whnf)
  refine (spec_l2Copy _ _ _ hx hL).mono ?_
  rintro r h1 ⟨y, rfl, E1, O1⟩
  obtain ⟨r0, ρ, rfl, hb, he, hρ, m⟩ := O1
  (conv => whnf)
  refine ⟨rfl, m.idx hi (fun p hp => ?_)⟩
  (conv => whnf)
  refine ⟨rfl, hp.load ?_⟩
  (conv => whnf)
  refine ⟨rfl, (m.inner' hi).idx (by omega) (by omega) ?_⟩
  (conv => whnf)
  refine ⟨rfl, m.put hi hij (fun h2 n2 k2 m2 => ?_)⟩
  have E2 : Ext h h2 := k2.ext (fun q e => by have := hρ i hi; omega) E1
  have hj2 : j < (setM L i j a).length := by rw [setM_length]; exact hj
  have hl2 : (setM L i j a).length = L.length := setM_length _ _ _ _
  have hji2 : i < ((setM L i j a).getD j []).length := by rw [setM_row hi]; exact hji
  rw [← hl2]
  (conv => whnf)
  refine ⟨rfl, m2.idx hj2 (fun p hp => ?_)⟩
  (conv => whnf)
  refine ⟨rfl, hp.load ?_⟩
  (conv => whnf)
  refine ⟨rfl, (m2.inner' hj2).idx (by omega) (by omega) ?_⟩
  (conv => whnf)
  refine ⟨rfl, m2.put hj2 hji2 (fun h3 n3 k3 m3 => ?_)⟩
  have E3 : Ext h h3 := k3.ext (fun q e => by have := hρ j hj; omega) E2
  have hl3 : (setC L i j a b).length = L.length := by unfold setC; rw [setM_length, setM_length]
  (conv => whnf)
  exact ⟨_, rfl, E3, r0, ρ, by rw [hl3, hl2], hb, by omega, fun k hk => by rw [hl3] at hk; have := hρ k hk; omega, m3⟩

set_option maxRecDepth 20000 in
theorem spec_TypeCartan (h : Heap) (s : ByteArray) (hs : s ∈ namesT) : HCalls Try.prog 113 [St s] h (fun r h' => ∃ y L, r = TM y true ∧ Ext h h' ∧ OwnM h.length h'.length h' y L ∧ isCartan L = true) := by
  refine calls_of_hFun (m := 0) kd_ok mixed Try.func113 rfl (by kernel_rfl) rfl rfl (of_decide_eq_true rfl) ?_; unfold hFun; (conv => whnf)
  refine HStr.eql ?_
  (conv => whnf)
  refine HIf.str (fun e => ?_) (fun neA1 => ?_)
  · subst e
    (conv => whnf)
    refine HIf.strT rfl ?_
    (conv => whnf)
    refine ⟨_, .i64, 1, by decide, rfl, rfl, ?_⟩
    (conv => whnf)
    refine HArith.any ?_
    (conv => whnf)
    refine HConv.of ?_
    (conv => whnf)
    refine (show HCalls _ _ [I ((1 : Nat) : Int)] _ _ from (spec_l2Chain h 1 (by omega)).mono ?_)
    rintro r h1 ⟨y1, rfl, E1, O1⟩
    (conv => whnf)
    exact ⟨_, _, rfl, E1, O1, cartA1⟩
  (conv => whnf)
  refine HStr.eql ?_
  (conv => whnf)
  refine HIf.str (fun e => ?_) (fun neA2 => ?_)
  · subst e
    (conv => whnf)
    refine HIf.strT rfl ?_
    (conv => whnf)
    refine ⟨_, .i64, 1, by decide, rfl, rfl, ?_⟩
    (conv => whnf)
    refine HArith.any ?_
    (conv => whnf)
    refine HConv.of ?_
    (conv => whnf)
    refine (show HCalls _ _ [I ((2 : Nat) : Int)] _ _ from (spec_l2Chain h 2 (by omega)).mono ?_)
    rintro r h1 ⟨y1, rfl, E1, O1⟩
    (conv => whnf)
    exact ⟨_, _, rfl, E1, O1, cartA2⟩
  (conv => whnf)
  refine HStr.eql ?_
  (conv => whnf)
  refine HIf.str (fun e => ?_) (fun neA3 => ?_)
  · subst e
    (conv => whnf)
    refine HIf.strT rfl ?_
    (conv => whnf)
    refine ⟨_, .i64, 1, by decide, rfl, rfl, ?_⟩
    (conv => whnf)
    refine HArith.any ?_
    (conv => whnf)
    refine HConv.of ?_
    (conv => whnf)
    refine (show HCalls _ _ [I ((3 : Nat) : Int)] _ _ from (spec_l2Chain h 3 (by omega)).mono ?_)
    rintro r h1 ⟨y1, rfl, E1, O1⟩
    (conv => whnf)
    exact ⟨_, _, rfl, E1, O1, cartA3⟩
  (conv => whnf)
  refine HStr.eql ?_
  (conv => whnf)
  refine HIf.str (fun e => ?_) (fun neA4 => ?_)
  · subst e
    (conv => whnf)
    refine ⟨_, .i64, 1, by decide, rfl, rfl, ?_⟩
    (conv => whnf)
    refine HArith.any ?_
    (conv => whnf)
    refine HConv.of ?_
    (conv => whnf)
    refine (show HCalls _ _ [I ((4 : Nat) : Int)] _ _ from (spec_l2Chain h 4 (by omega)).mono ?_)
    rintro r h1 ⟨y1, rfl, E1, O1⟩
    (conv => whnf)
    exact ⟨_, _, rfl, E1, O1, cartA4⟩
  (conv => whnf)
  refine HStr.eql ?_
  (conv => whnf)
  refine HIf.str (fun e => ?_) (fun neB2 => ?_)
  · subst e
    (conv => whnf)
    refine (show HCalls _ _ [I ((2 : Nat) : Int)] _ _ from (spec_l2Chain h 2 (by omega)).mono ?_)
    rintro r h1 ⟨y1, rfl, E1, O1⟩
    (conv => whnf)
    refine (spec_l2Set h1 _ (chainC 2) 0 1 (-1) (-2) O1.rows (by decide +kernel) (by decide +kernel) (by decide +kernel) (by decide +kernel) (by decide +kernel)).mono ?_
    rintro r h2 ⟨y2, rfl, E2, O2⟩
    (conv => whnf)
    replace O2 := O2.lower E1.1
    replace E2 := E1.trans E2
    exact ⟨_, _, rfl, E2, O2, cartB2⟩
  (conv => whnf)
  refine HStr.eql ?_
  (conv => whnf)
  refine HIf.str (fun e => ?_) (fun neB3 => ?_)
  · subst e
    (conv => whnf)
    refine (show HCalls _ _ [I ((3 : Nat) : Int)] _ _ from (spec_l2Chain h 3 (by omega)).mono ?_)
    rintro r h1 ⟨y1, rfl, E1, O1⟩
    (conv => whnf)
    refine (spec_l2Set h1 _ (chainC 3) 1 2 (-1) (-2) O1.rows (by decide +kernel) (by decide +kernel) (by decide +kernel) (by decide +kernel) (by decide +kernel)).mono ?_
    rintro r h2 ⟨y2, rfl, E2, O2⟩
    (conv => whnf)
    replace O2 := O2.lower E1.1
    replace E2 := E1.trans E2
    exact ⟨_, _, rfl, E2, O2, cartB3⟩
  (conv => whnf)
  refine HStr.eql ?_
  (conv => whnf)
  refine HIf.str (fun e => ?_) (fun neB4 => ?_)
  · subst e
    (conv => whnf)
    refine (show HCalls _ _ [I ((4 : Nat) : Int)] _ _ from (spec_l2Chain h 4 (by omega)).mono ?_)
    rintro r h1 ⟨y1, rfl, E1, O1⟩
    (conv => whnf)
    refine (spec_l2Set h1 _ (chainC 4) 2 3 (-1) (-2) O1.rows (by decide +kernel) (by decide +kernel) (by decide +kernel) (by decide +kernel) (by decide +kernel)).mono ?_
    rintro r h2 ⟨y2, rfl, E2, O2⟩
    (conv => whnf)
    replace O2 := O2.lower E1.1
    replace E2 := E1.trans E2
    exact ⟨_, _, rfl, E2, O2, cartB4⟩
  (conv => whnf)
  refine HStr.eql ?_
  (conv => whnf)
  refine HIf.str (fun e => ?_) (fun neC3 => ?_)
  · subst e
    (conv => whnf)
    refine (show HCalls _ _ [I ((3 : Nat) : Int)] _ _ from (spec_l2Chain h 3 (by omega)).mono ?_)
    rintro r h1 ⟨y1, rfl, E1, O1⟩
    (conv => whnf)
    refine (spec_l2Set h1 _ (chainC 3) 1 2 (-2) (-1) O1.rows (by decide +kernel) (by decide +kernel) (by decide +kernel) (by decide +kernel) (by decide +kernel)).mono ?_
    rintro r h2 ⟨y2, rfl, E2, O2⟩
    (conv => whnf)
    replace O2 := O2.lower E1.1
    replace E2 := E1.trans E2
    exact ⟨_, _, rfl, E2, O2, cartC3⟩
  (conv => whnf)
  refine HStr.eql ?_
  (conv => whnf)
  refine HIf.str (fun e => ?_) (fun neC4 => ?_)
  · subst e
    (conv => whnf)
    refine (show HCalls _ _ [I ((4 : Nat) : Int)] _ _ from (spec_l2Chain h 4 (by omega)).mono ?_)
    rintro r h1 ⟨y1, rfl, E1, O1⟩
    (conv => whnf)
    refine (spec_l2Set h1 _ (chainC 4) 2 3 (-2) (-1) O1.rows (by decide +kernel) (by decide +kernel) (by decide +kernel) (by decide +kernel) (by decide +kernel)).mono ?_
    rintro r h2 ⟨y2, rfl, E2, O2⟩
    (conv => whnf)
    replace O2 := O2.lower E1.1
    replace E2 := E1.trans E2
    exact ⟨_, _, rfl, E2, O2, cartC4⟩
  (conv => whnf)
  refine HStr.eql ?_
  (conv => whnf)
  refine HIf.str (fun e => ?_) (fun neD4 => ?_)
  · subst e
    (conv => whnf)
    refine (show HCalls _ _ [I ((4 : Nat) : Int)] _ _ from (spec_l2Chain h 4 (by omega)).mono ?_)
    rintro r h1 ⟨y1, rfl, E1, O1⟩
    (conv => whnf)
    refine (spec_l2Set h1 _ (chainC 4) 2 3 0 0 O1.rows (by decide +kernel) (by decide +kernel) (by decide +kernel) (by decide +kernel) (by decide +kernel)).mono ?_
    rintro r h2 ⟨y2, rfl, E2, O2⟩
    (conv => whnf)
    replace O2 := O2.lower E1.1
    replace E2 := E1.trans E2
    refine (spec_l2Set h2 _ (setC (chainC 4) 2 3 0 0) 1 3 (-1) (-1) O2.rows (by decide +kernel) (by decide +kernel) (by decide +kernel) (by decide +kernel) (by decide +kernel)).mono ?_
    rintro r h3 ⟨y3, rfl, E3, O3⟩
    (conv => whnf)
    replace O3 := O3.lower E2.1
    replace E3 := E2.trans E3
    exact ⟨_, _, rfl, E3, O3, cartD4⟩
  (conv => whnf)
  refine HStr.eql ?_
  (conv => whnf)
  refine HIf.str (fun e => ?_) (fun neF4 => ?_)
  · subst e
    (conv => whnf)
    refine (show HCalls _ _ [I ((4 : Nat) : Int)] _ _ from (spec_l2Chain h 4 (by omega)).mono ?_)
    rintro r h1 ⟨y1, rfl, E1, O1⟩
    (conv => whnf)
    refine (spec_l2Set h1 _ (chainC 4) 1 2 (-1) (-2) O1.rows (by decide +kernel) (by decide +kernel) (by decide +kernel) (by decide +kernel) (by decide +kernel)).mono ?_
    rintro r h2 ⟨y2, rfl, E2, O2⟩
    (conv => whnf)
    replace O2 := O2.lower E1.1
    replace E2 := E1.trans E2
    exact ⟨_, _, rfl, E2, O2, cartF4⟩
  (conv => whnf)
  refine HStr.eql ?_
  (conv => whnf)
  refine HIf.str (fun e => ?_) (fun neG2 => ?_)
  · subst e
    (conv => whnf)
    refine (show HCalls _ _ [I ((2 : Nat) : Int)] _ _ from (spec_l2Chain h 2 (by omega)).mono ?_)
    rintro r h1 ⟨y1, rfl, E1, O1⟩
    (conv => whnf)
    refine (spec_l2Set h1 _ (chainC 2) 0 1 (-1) (-3) O1.rows (by decide +kernel) (by decide +kernel) (by decide +kernel) (by decide +kernel) (by decide +kernel)).mono ?_
    rintro r h2 ⟨y2, rfl, E2, O2⟩
    (conv => whnf)
    replace O2 := O2.lower E1.1
    replace E2 := E1.trans E2
    exact ⟨_, _, rfl, E2, O2, cartG2⟩
  (conv => whnf)
  refine HStr.eql ?_
  (conv => whnf)
  refine HIf.str (fun e => ?_) (fun neA1t => ?_)
  · subst e
    (conv => whnf)
    refine (show HCalls _ _ [I ((2 : Nat) : Int)] _ _ from (spec_l2Chain h 2 (by omega)).mono ?_)
    rintro r h1 ⟨y1, rfl, E1, O1⟩
    (conv => whnf)
    refine (spec_l2Set h1 _ (chainC 2) 0 1 (-2) (-2) O1.rows (by decide +kernel) (by decide +kernel) (by decide +kernel) (by decide +kernel) (by decide +kernel)).mono ?_
    rintro r h2 ⟨y2, rfl, E2, O2⟩
    (conv => whnf)
    replace O2 := O2.lower E1.1
    replace E2 := E1.trans E2
    exact ⟨_, _, rfl, E2, O2, cartA1t⟩
  (conv => whnf)
  refine HStr.eql ?_
  (conv => whnf)
  refine HIf.str (fun e => ?_) (fun neA2t => ?_)
  · subst e
    (conv => whnf)
    refine (show HCalls _ _ [I ((3 : Nat) : Int)] _ _ from (spec_l2Chain h 3 (by omega)).mono ?_)
    rintro r h1 ⟨y1, rfl, E1, O1⟩
    (conv => whnf)
    refine (spec_l2Set h1 _ (chainC 3) 0 2 (-1) (-1) O1.rows (by decide +kernel) (by decide +kernel) (by decide +kernel) (by decide +kernel) (by decide +kernel)).mono ?_
    rintro r h2 ⟨y2, rfl, E2, O2⟩
    (conv => whnf)
    replace O2 := O2.lower E1.1
    replace E2 := E1.trans E2
    exact ⟨_, _, rfl, E2, O2, cartA2t⟩
  (conv => whnf)
  refine HStr.eql ?_
  (conv => whnf)
  refine HIf.str (fun e => ?_) (fun neA3t => ?_)
  · subst e
    (conv => whnf)
    refine (show HCalls _ _ [I ((4 : Nat) : Int)] _ _ from (spec_l2Chain h 4 (by omega)).mono ?_)
    rintro r h1 ⟨y1, rfl, E1, O1⟩
    (conv => whnf)
    refine (spec_l2Set h1 _ (chainC 4) 0 3 (-1) (-1) O1.rows (by decide +kernel) (by decide +kernel) (by decide +kernel) (by decide +kernel) (by decide +kernel)).mono ?_
    rintro r h2 ⟨y2, rfl, E2, O2⟩
    (conv => whnf)
    replace O2 := O2.lower E1.1
    replace E2 := E1.trans E2
    exact ⟨_, _, rfl, E2, O2, cartA3t⟩
  (conv => whnf)
  refine HStr.eql ?_
  (conv => whnf)
  refine HIf.str (fun e => ?_) (fun neC2t => ?_)
  · subst e
    (conv => whnf)
    refine (show HCalls _ _ [I ((3 : Nat) : Int)] _ _ from (spec_l2Chain h 3 (by omega)).mono ?_)
    rintro r h1 ⟨y1, rfl, E1, O1⟩
    (conv => whnf)
    refine (spec_l2Set h1 _ (chainC 3) 0 1 (-1) (-2) O1.rows (by decide +kernel) (by decide +kernel) (by decide +kernel) (by decide +kernel) (by decide +kernel)).mono ?_
    rintro r h2 ⟨y2, rfl, E2, O2⟩
    (conv => whnf)
    replace O2 := O2.lower E1.1
    replace E2 := E1.trans E2
    refine (spec_l2Set h2 _ (setC (chainC 3) 0 1 (-1) (-2)) 1 2 (-2) (-1) O2.rows (by decide +kernel) (by decide +kernel) (by decide +kernel) (by decide +kernel) (by decide +kernel)).mono ?_
    rintro r h3 ⟨y3, rfl, E3, O3⟩
    (conv => whnf)
    replace O3 := O3.lower E2.1
    replace E3 := E2.trans E3
    exact ⟨_, _, rfl, E3, O3, cartC2t⟩
  (conv => whnf)
  refine HStr.eql ?_
  (conv => whnf)
  refine HIf.str (fun e => ?_) (fun neG2t => ?_)
  · subst e
    (conv => whnf)
    refine (show HCalls _ _ [I ((3 : Nat) : Int)] _ _ from (spec_l2Chain h 3 (by omega)).mono ?_)
    rintro r h1 ⟨y1, rfl, E1, O1⟩
    (conv => whnf)
    refine (spec_l2Set h1 _ (chainC 3) 1 2 (-1) (-3) O1.rows (by decide +kernel) (by decide +kernel) (by decide +kernel) (by decide +kernel) (by decide +kernel)).mono ?_
    rintro r h2 ⟨y2, rfl, E2, O2⟩
    (conv => whnf)
    replace O2 := O2.lower E1.1
    replace E2 := E1.trans E2
    exact ⟨_, _, rfl, E2, O2, cartG2t⟩
  (conv => whnf)
  exfalso
  simp only [namesT, List.mem_cons, List.not_mem_nil, or_false] at hs
  rcases hs with rfl | rfl | rfl | rfl | rfl | rfl | rfl | rfl | rfl | rfl | rfl | rfl | rfl | rfl | rfl | rfl | rfl <;> contradiction

end Go.Proofs.Ytdlnjplkkfdejaa.Hx
