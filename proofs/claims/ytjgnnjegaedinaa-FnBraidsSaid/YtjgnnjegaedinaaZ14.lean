/-
  Words as maps of all places: the exchange of a letter, the deletion of two letters, and that the image of rho tells the map. Plain theory.
  Contracts of small functions over one slice of ints: SignOf, HeightOf, SquareFree, RootSign, each as the program has it and as the reference has it.
  The order of roots (by height, then by the first number that differs, greater ones first), sorted lists of roots, and slices of slices that grow by rows that are there already. Plain, and over rows.
-/
import Derived.Test.YtjgnnjegaedinaaZ13
namespace Go.Proofs.Ytjgnnjegaedinaa.Hx
open Go.RowKit

/-- Two words do the same to every place. -/
def Lin (c : List (List Int)) (a b : List Int) : Prop := ∀ v : Pos, actS (ent c) a v = actS (ent c) b v

theorem Lin.refl (c : List (List Int)) (a : List Int) : Lin c a a := fun _ => rfl
theorem Lin.symm {c : List (List Int)} {a b : List Int} (h : Lin c a b) : Lin c b a := fun v => (h v).symm
theorem Lin.trans {c : List (List Int)} {a b d : List Int} (h : Lin c a b) (k : Lin c b d) : Lin c a d := fun v => (h v).trans (k v)
theorem Lin.app {c : List (List Int)} {a b a' b' : List Int} (h : Lin c a b) (k : Lin c a' b') : Lin c (a ++ a') (b ++ b') := fun v => by rw [actS_app, actS_app, k v, h]
theorem Lin.cons {c : List (List Int)} {a b : List Int} (i : Int) (h : Lin c a b) : Lin c (i :: a) (i :: b) := Lin.app (Lin.refl c [i]) h

theorem Br.lin {c : List (List Int)} {a b : List Int} (h : Br c a b) : Lin c a b := by
  cases h with
  | mk p i j m q hb h2 =>
    obtain ⟨hC, hi, hj, hij, e⟩ := bond_info hb h2
    have p1 := point_of hi
    have p2 := point_of hj
    refine Lin.app (Lin.refl c p) (Lin.app (fun v => ?_) (Lin.refl c q))
    rw [actS_alt, actS_alt, e, alt_rel (matOk hC) (i := i.toNat) (j := j.toNat) (by omega) (by omega) (by omega)]

theorem Conn.lin {c : List (List Int)} {a b : List Int} (h : Conn c a b) : Lin c a b := by
  induction h with
  | refl => exact Lin.refl c _
  | tail _ s ih => exact ih.trans s.lin
theorem Conn.letters {c : List (List Int)} {a b : List Int} (h : Conn c a b) (ha : lettersOk c a = true) : lettersOk c b = true := by
  induction h with
  | refl => exact ha
  | tail _ s ih => exact s.letters ih

theorem twice {c : List (List Int)} (hC : Cartan c) {i : Int} (hi : isPoint c i = true) (w : List Int) : Lin c (i :: i :: w) w := fun v => by
  have p1 := point_of hi
  exact sr_sr ((matOk hC).diag i.toNat (by omega)) _

theorem bondP_cases {p : Int} (h : 2 ≤ bondP p) : bondP p = 2 ∨ bondP p = 3 ∨ bondP p = 4 ∨ bondP p = 6 := by
  unfold bondP at h ⊢
  split
  · exact Or.inl rfl
  · split
    · exact Or.inr (Or.inl rfl)
    · split
      · exact Or.inr (Or.inr (Or.inl rfl))
      · split
        · exact Or.inr (Or.inr (Or.inr rfl))
        · rename_i h1 h2 h3 h4
          rw [if_neg h1, if_neg h2, if_neg h3, if_neg h4] at h
          omega

/-- A letter less of one row of turns is a letter less of the other. -/
theorem alt_erase {c : List (List Int)} (hC : Cartan c) {i j : Int} (hi : isPoint c i = true) (hj : isPoint c j = true) {m : Nat} (hm : m = 2 ∨ m = 3 ∨ m = 4 ∨ m = 6) {k : Nat} (hk : k < m) :
    Lin c ((altTo i j m).eraseIdx k) ((altTo j i m).eraseIdx (m - 1 - k)) := by
  have p1 := point_of hi
  have p2 := point_of hj
  have d1 : ∀ v, sr (ent c) i.toNat (sr (ent c) i.toNat v) = v := sr_sr ((matOk hC).diag i.toNat (by omega))
  have d2 : ∀ v, sr (ent c) j.toNat (sr (ent c) j.toNat v) = v := sr_sr ((matOk hC).diag j.toNat (by omega))
  intro v
  rcases hm with rfl | rfl | rfl | rfl
  · have e : k = 0 ∨ k = 1 := by omega
    rcases e with rfl | rfl <;> rfl
  · have e : k = 0 ∨ k = 1 ∨ k = 2 := by omega
    rcases e with rfl | rfl | rfl
    · rfl
    · show sr (ent c) i.toNat (sr (ent c) i.toNat v) = sr (ent c) j.toNat (sr (ent c) j.toNat v)
      rw [d1, d2]
    · rfl
  · have e : k = 0 ∨ k = 1 ∨ k = 2 ∨ k = 3 := by omega
    rcases e with rfl | rfl | rfl | rfl
    · rfl
    · show sr (ent c) i.toNat (sr (ent c) i.toNat (sr (ent c) j.toNat v)) = sr (ent c) j.toNat (sr (ent c) i.toNat (sr (ent c) i.toNat v))
      rw [d1, d1]
    · show sr (ent c) i.toNat (sr (ent c) j.toNat (sr (ent c) j.toNat v)) = sr (ent c) j.toNat (sr (ent c) j.toNat (sr (ent c) i.toNat v))
      rw [d2, d2]
    · rfl
  · have e : k = 0 ∨ k = 1 ∨ k = 2 ∨ k = 3 ∨ k = 4 ∨ k = 5 := by omega
    have u : ∀ (m : Nat) (x y : Int), altTo x y (m + 1) = x :: altTo y x m := fun m x y => altTo_cons x y m
    rcases e with rfl | rfl | rfl | rfl | rfl | rfl <;> simp only [u, altTo_none, List.eraseIdx, actS, d1, d2] <;> try rfl

/-- One letter of w can be left out for letter i put ahead. -/
def Exch (c : List (List Int)) (i : Int) (w : List Int) : Prop := ∃ k, k < w.length ∧ Lin c (w.eraseIdx k) (i :: w)

theorem Exch.br {c : List (List Int)} {a b : List Int} {i : Int} (h : Br c a b) (H : Exch c i a) : Exch c i b := by
  have hl := h.lin
  have hbr := h.length
  obtain ⟨k, hk, e⟩ := H
  cases h with
  | mk p s t m q hb h2 =>
    obtain ⟨hC, hs, ht, hst, em⟩ := bond_info hb h2
    have p1 := point_of hs
    have p2 := point_of ht
    have halt : Lin c (altTo s t m) (altTo t s m) := fun v => by
      rw [actS_alt, actS_alt, em, alt_rel (matOk hC) (i := s.toNat) (j := t.toNat) (by omega) (by omega) (by omega)]
    have l1 : (altTo s t m).length = m := altTo_len s t m
    have l2 : (altTo t s m).length = m := altTo_len t s m
    by_cases h1 : k < p.length
    · refine ⟨k, by rw [hbr]; exact hk, ?_⟩
      rw [List.eraseIdx_append_of_lt_length h1] at e ⊢
      exact (Lin.app (Lin.refl c _) (Lin.app halt.symm (Lin.refl c q))).trans (e.trans (hl.cons i))
    · rw [List.eraseIdx_append_of_length_le (by omega)] at e
      by_cases h3 : k - p.length < m
      · rw [List.eraseIdx_append_of_lt_length (by omega)] at e
        refine ⟨p.length + (m - 1 - (k - p.length)), by simp [l2]; omega, ?_⟩
        rw [List.eraseIdx_append_of_length_le (by omega), Nat.add_sub_cancel_left, List.eraseIdx_append_of_lt_length (by omega)]
        have hal := alt_erase hC hs ht (m := m) (k := k - p.length) (by rw [em]; exact bondP_cases (by omega)) h3
        exact (Lin.app (Lin.refl c p) (Lin.app hal.symm (Lin.refl c q))).trans (e.trans (hl.cons i))
      · rw [List.eraseIdx_append_of_length_le (by omega)] at e
        refine ⟨k, by rw [hbr]; exact hk, ?_⟩
        rw [List.eraseIdx_append_of_length_le (by omega), List.eraseIdx_append_of_length_le (by omega), l2]
        rw [l1] at e
        exact (Lin.app (Lin.refl c p) (Lin.app halt.symm (Lin.refl c _))).trans (e.trans (hl.cons i))

theorem Exch.conn {c : List (List Int)} {a b : List Int} {i : Int} (h : Conn c a b) (H : Exch c i a) : Exch c i b := by
  induction h with
  | refl => exact H
  | tail _ s ih => exact ih.br s

/-- The exchange of a letter. -/
theorem exchange {c : List (List Int)} (hC : Cartan c) {n : Nat} {v w : List Int} (P : PlayL c n v) (hn : n ≤ 29) (R : Red c n v w) {i : Int} (hi : isPoint c i = true) (h : v.getD i.toNat 0 < 0) : Exch c i w := by
  have p1 := point_of hi
  obtain ⟨m, rfl, Q⟩ := P.down hC (by omega) (i := i.toNat) (by omega) h
  have Rz : Red c m (reflW c i.toNat v) (nf c 30 (reflW c i.toNat v)) := ⟨nf_len hC m _ 30 Q (by omega) (by omega), nf_letters hC m _ 30 Q (by omega) (by omega), nf_image hC m _ 30 Q (by omega) (by omega)⟩
  have Ri := Red.cons hC P (by omega) hi h Rz
  refine Exch.conn (conn_all hC (m + 1) v P hn _ w Ri R) ⟨0, by simp, ?_⟩
  exact (twice hC hi _).symm

theorem lin_image {c : List (List Int)} (hC : Cartan c) {a b : List Int} (h : Lin c a b) (ha : lettersOk c a = true) (hb : lettersOk c b = true) (hla : a.length ≤ 31) (hlb : b.length ≤ 31) : imageOf c a = imageOf c b := by
  apply posOf_inj (by rw [imageOf_length, imageOf_length])
  rw [image_pos hC ha hla, image_pos hC hb hlb]
  exact h _

theorem letters_erase {c : List (List Int)} {w : List Int} (h : lettersOk c w = true) (k : Nat) : lettersOk c (w.eraseIdx k) = true :=
  List.all_eq_true.2 fun x hx => List.all_eq_true.1 h x (List.mem_of_mem_eraseIdx hx)

/-- The deletion of two letters. -/
theorem deletion {c : List (List Int)} (hC : Cartan c) : ∀ (w : List Int) (n : Nat), lettersOk c w = true → w.length ≤ 29 → PlayL c n (imageOf c w) → n < w.length →
    ∃ a b, a < b ∧ b < w.length ∧ Lin c ((w.eraseIdx b).eraseIdx a) w
  | [], _, _, _, _, h => by simp at h
  | s :: q, n, hw, hl, P, hn => by
    obtain ⟨hs, hq⟩ := letters_cons.1 hw
    have p1 := point_of hs
    simp only [List.length_cons] at hl hn
    obtain ⟨m, hm, Q⟩ := play_image hC hq (by omega)
    by_cases h : m < q.length
    · obtain ⟨a, b, h1, h2, h3⟩ := deletion hC q m hq (by omega) Q h
      exact ⟨a + 1, b + 1, by omega, by simp; omega, by simpa using h3.cons s⟩
    · have em : m = q.length := by omega
      have hneg : (imageOf c q).getD s.toNat 0 < 0 := by
        have hne := Q.ne hC (i := s.toNat) (by omega)
        by_cases hlt : (imageOf c q).getD s.toNat 0 < 0
        · exact hlt
        · exfalso
          have U : PlayL c (m + 1) (imageOf c (s :: q)) := by
            rw [imageW_cons]
            refine ⟨by rw [reflW_length]; exact Q.1, ?_⟩
            rw [pos_refl hC Q (by omega) (by omega)]
            exact Q.2.up (matOk hC) (by omega) (by show 0 < (imageOf c q).getD s.toNat 0; omega)
          have := play_unique hC P U (by omega) (by omega)
          omega
      obtain ⟨k, hk, e⟩ := exchange hC Q (by omega) (w := q) ⟨em.symm, hq, rfl⟩ hs hneg
      exact ⟨0, k + 1, by omega, by simp; omega, by simpa using e⟩

/-- Each word is as good as a reduced one. -/
theorem reduce_to {c : List (List Int)} (hC : Cartan c) : ∀ (l : Nat) (w : List Int) (n : Nat), w.length ≤ l → lettersOk c w = true → w.length ≤ 29 → n ≤ 30 → PlayL c n (imageOf c w) → ∃ r, Red c n (imageOf c w) r ∧ Lin c r w
  | l, w, n, hl, hw, h29, h30, P => by
    obtain ⟨m, hm, Q⟩ := play_image hC hw (by omega)
    have hn : n = m := play_unique hC P Q h30 (by omega)
    subst hn
    by_cases h : n < w.length
    · obtain ⟨a, b, h1, h2, h3⟩ := deletion hC w n hw h29 P h
      have hwl : ((w.eraseIdx b).eraseIdx a).length + 2 = w.length := by
        rw [List.length_eraseIdx_of_lt (by rw [List.length_eraseIdx_of_lt h2]; omega), List.length_eraseIdx_of_lt h2]
        omega
      have hlt := letters_erase (letters_erase hw b) a
      have him := lin_image hC h3 hlt hw (by omega) (by omega)
      obtain ⟨l', rfl⟩ : ∃ l', l = l' + 1 := ⟨l - 1, by omega⟩
      obtain ⟨r, Rr, hr⟩ := reduce_to hC l' ((w.eraseIdx b).eraseIdx a) n (by omega) hlt (by omega) h30 (by rw [him]; exact P)
      rw [him] at Rr
      exact ⟨r, Rr, hr.trans h3⟩
    · exact ⟨w, ⟨by omega, hw, rfl⟩, Lin.refl c w⟩

/-- The image of rho tells the map. -/
theorem faithful {c : List (List Int)} (hC : Cartan c) {a b : List Int} (ha : lettersOk c a = true) (hb : lettersOk c b = true) (hla : a.length ≤ 29) (hlb : b.length ≤ 29) (h : imageOf c a = imageOf c b) : Lin c a b := by
  obtain ⟨n, hn, P⟩ := play_image hC ha (by omega)
  obtain ⟨r, Rr, hr⟩ := reduce_to hC a.length a n (Nat.le_refl _) ha hla (by omega) P
  obtain ⟨s, Rs, hs⟩ := reduce_to hC b.length b n (Nat.le_refl _) hb hlb (by omega) (by rw [← h]; exact P)
  rw [← h] at Rs
  exact hr.symm.trans ((conn_all hC n _ P (by omega) r s Rr Rs).lin.trans hs)

theorem actS_rev {c : List (List Int)} (hC : Cartan c) : ∀ (w : List Int), lettersOk c w = true → ∀ v, actS (ent c) w (actS (ent c) w.reverse v) = v ∧ actS (ent c) w.reverse (actS (ent c) w v) = v
  | [], _, _ => ⟨rfl, rfl⟩
  | i :: w, h, v => by
    obtain ⟨h1, h2⟩ := letters_cons.1 h
    have p1 := point_of h1
    have d : ∀ v, sr (ent c) i.toNat (sr (ent c) i.toNat v) = v := sr_sr ((matOk hC).diag i.toNat (by omega))
    rw [List.reverse_cons, actS_app, actS_app]
    show sr (ent c) i.toNat (actS (ent c) w (actS (ent c) w.reverse (sr (ent c) i.toNat v))) = v ∧ actS (ent c) w.reverse (sr (ent c) i.toNat (sr (ent c) i.toNat (actS (ent c) w v))) = v
    rw [(actS_rev hC w h2 _).1, d, d, (actS_rev hC w h2 _).2]
    exact ⟨rfl, rfl⟩

theorem letters_rev {c : List (List Int)} {w : List Int} (h : lettersOk c w = true) : lettersOk c w.reverse = true :=
  List.all_eq_true.2 fun x hx => List.all_eq_true.1 h x (List.mem_reverse.1 hx)

theorem Lin.rev {c : List (List Int)} (hC : Cartan c) {a b : List Int} (ha : lettersOk c a = true) (hb : lettersOk c b = true) (h : Lin c a b) : Lin c a.reverse b.reverse := fun v => by
  have h1 := (actS_rev hC a ha v).1
  have h2 := (actS_rev hC b hb v).1
  have h3 := (actS_rev hC a ha (actS (ent c) b.reverse v)).2
  rw [h (actS (ent c) b.reverse v), h2] at h3
  exact h3

/-- A word from behind is as long as the word. -/
theorem play_rev {c : List (List Int)} (hC : Cartan c) {w : List Int} {n m : Nat} (hw : lettersOk c w = true) (hl : w.length ≤ 29) (P : PlayL c n (imageOf c w)) (Q : PlayL c m (imageOf c w.reverse)) (hm : m ≤ 30) (hn : n ≤ 30) : m = n := by
  have key : ∀ (w : List Int) (n m : Nat), lettersOk c w = true → w.length ≤ 29 → PlayL c n (imageOf c w) → PlayL c m (imageOf c w.reverse) → m ≤ 30 → n ≤ 30 → m ≤ n := by
    intro w n m hw hl P Q hm hn
    obtain ⟨r, Rr, hr⟩ := reduce_to hC w.length w n (Nat.le_refl _) hw hl hn P
    have him := lin_image hC (hr.rev hC Rr.2.1 hw) (letters_rev Rr.2.1) (letters_rev hw) (by rw [List.length_reverse, Rr.1]; omega) (by rw [List.length_reverse]; omega)
    obtain ⟨k, hk, K⟩ := play_image hC (letters_rev Rr.2.1) (by rw [List.length_reverse, Rr.1]; omega)
    rw [him] at K
    rw [List.length_reverse, Rr.1] at hk
    have := play_unique hC Q K hm (by omega)
    omega
  have h1 := key w n m hw hl P Q hm hn
  have h2 := key w.reverse m n (letters_rev hw) (by rw [List.length_reverse]; exact hl) Q (by rw [List.reverse_reverse]; exact P) hn hm
  omega

end Go.Proofs.Ytjgnnjegaedinaa.Hx

namespace Go.Proofs.Ytjgnnjegaedinaa.Hx
open Go.RowKit
variable {dm : Bool}

def signOf (a : List Int) : Int := if (a.length : Int).tmod 2 = 0 then 1 else -1

theorem spec_SignOf (h : Heap) (x : H0) (a : List Int) (hx : Ints h x a) : HCalls dm Try.prog 44 [.s x] h (fun r h' => r = I (signOf a) ∧ h' = h) := by
  refine calls_of_hFun (m := 0) kd_ok mixed Try.func44 rfl (by kernel_rfl) rfl rfl (of_decide_eq_true rfl) ?_; unfold hFun; (conv => whnf)
  (repeat (first | (refine ⟨rfl, Ints.len (by assumption) ?_⟩; conv => whnf) | (refine ⟨rfl, Rows.len (by assumption) ?_⟩; conv => whnf) | (refine ⟨rfl, HLen.sl ?_⟩; conv => whnf) | (refine ⟨rfl, At.load (by assumption) ?_⟩; conv => whnf) | (refine HIf.yes ?_; conv => whnf) | (refine HIf.no ?_; conv => whnf) | (refine HIf.isT (by assumption) ?_; conv => whnf) | (refine HIf.isF (by assumption) ?_; conv => whnf) | (refine HIf.decT (by assumption) ?_; conv => whnf) | (refine HIf.decF (by assumption) ?_; conv => whnf) | (refine HIf.beqT (by assumption) ?_; conv => whnf) | (refine HIf.beqF (by assumption) ?_; conv => whnf) | (refine HIf.bneT (by assumption) ?_; conv => whnf) | (refine HIf.bneF (by assumption) ?_; conv => whnf) | (refine ⟨rfl, Ints.idxN (by assumption) (by omega) (fun p hp => ?_)⟩; conv => whnf) | (refine ⟨rfl, Rows.idxN (by assumption) (by omega) (fun p y hp hy => ?_)⟩; conv => whnf) | (refine And.intro (show Kd.isBool _ = true from rfl) ?_; conv => whnf) | (refine ⟨rfl, Ints.idx (by assumption) (by omega) (by omega) (fun p hp => ?_)⟩; conv => whnf) | (refine ⟨rfl, Rows.idx (by assumption) (by omega) (by omega) (fun p y hp hy => ?_)⟩; conv => whnf) | (refine HArith.fits (by omega) (by omega) ?_; conv => whnf) | (refine Or.inl (And.intro (show Region.lexB _ _ = true by kernel_rfl) ?_); conv => whnf)))
  refine HRem.of (by decide) ?_
  (conv => whnf)
  refine HIf.beq (fun he => ?_) (fun he => ?_)
  · (conv => whnf)
    exact ⟨by rw [signOf, if_pos he]; rfl, rfl⟩
  · (conv => whnf)
    exact ⟨by rw [signOf, if_neg he]; rfl, rfl⟩

theorem impl_SignOf (h : Heap) (x : H0) (a : List Int) (hx : Ints h x a) : HCalls dm Try.prog 38 [.s x] h (fun r h' => r = I (signOf a) ∧ h' = h) := by
  refine calls_of_hFun (m := 0) kd_ok mixed Try.func38 rfl (by kernel_rfl) rfl rfl (of_decide_eq_true rfl) ?_; unfold hFun; (conv => whnf)
  (repeat (first | (refine ⟨rfl, Ints.len (by assumption) ?_⟩; conv => whnf) | (refine ⟨rfl, Rows.len (by assumption) ?_⟩; conv => whnf) | (refine ⟨rfl, HLen.sl ?_⟩; conv => whnf) | (refine ⟨rfl, At.load (by assumption) ?_⟩; conv => whnf) | (refine HIf.yes ?_; conv => whnf) | (refine HIf.no ?_; conv => whnf) | (refine HIf.isT (by assumption) ?_; conv => whnf) | (refine HIf.isF (by assumption) ?_; conv => whnf) | (refine HIf.decT (by assumption) ?_; conv => whnf) | (refine HIf.decF (by assumption) ?_; conv => whnf) | (refine HIf.beqT (by assumption) ?_; conv => whnf) | (refine HIf.beqF (by assumption) ?_; conv => whnf) | (refine HIf.bneT (by assumption) ?_; conv => whnf) | (refine HIf.bneF (by assumption) ?_; conv => whnf) | (refine ⟨rfl, Ints.idxN (by assumption) (by omega) (fun p hp => ?_)⟩; conv => whnf) | (refine ⟨rfl, Rows.idxN (by assumption) (by omega) (fun p y hp hy => ?_)⟩; conv => whnf) | (refine And.intro (show Kd.isBool _ = true from rfl) ?_; conv => whnf) | (refine ⟨rfl, Ints.idx (by assumption) (by omega) (by omega) (fun p hp => ?_)⟩; conv => whnf) | (refine ⟨rfl, Rows.idx (by assumption) (by omega) (by omega) (fun p y hp hy => ?_)⟩; conv => whnf) | (refine HArith.fits (by omega) (by omega) ?_; conv => whnf) | (refine Or.inl (And.intro (show Region.lexB _ _ = true by kernel_rfl) ?_); conv => whnf)))
  refine HRem.of (by decide) ?_
  (conv => whnf)
  refine HIf.beq (fun he => ?_) (fun he => ?_)
  · (conv => whnf)
    exact ⟨by rw [signOf, if_pos he]; rfl, rfl⟩
  · (conv => whnf)
    exact ⟨by rw [signOf, if_neg he]; rfl, rfl⟩

def heightOf (a : List Int) : Int := a.foldl (fun s x => IntKind.i64.wrap (s + x)) 0

theorem heightOf_snoc (a : List Int) (i : Nat) (hi : i < a.length) : heightOf (a.take (i + 1)) = IntKind.i64.wrap (heightOf (a.take i) + a.getD i 0) := by
  rw [List.take_succ_eq_append_getElem hi]
  unfold heightOf
  rw [List.foldl_append]
  simp [List.getD, hi]

/-- No two neighbours are equal. -/
def sqFree (a : List Int) : Bool := (List.range a.length).all fun j => decide (j = 0) || !(a.getD j 0 == a.getD (j - 1) 0)

theorem spec_SquareFree (h : Heap) (x : H0) (a : List Int) (hx : Ints h x a) (hal : a.length ≤ 2199023255552) : HCalls dm Try.prog 25 [.s x] h (fun r h' => r = B (sqFree a) ∧ h' = h) := by
  refine calls_of_hFun (m := 0) kd_ok mixed Try.func25 rfl (by kernel_rfl) rfl rfl (of_decide_eq_true rfl) ?_; unfold hFun; (conv => whnf)
  refine HLoop.intro [3] [4, 5, 6, 7, 10, 11, 12, 13, 14, 15, 16, 17, 18, 19, 2, 8, 9, 3] (by kernel_rfl) (by kernel_rfl) (fun vs h' => ∃ i : Nat, vs = [I i] ∧ 1 ≤ i ∧ (i ≤ a.length ∨ i = 1) ∧ h' = h ∧ ∀ j, j < i → j < a.length → j = 0 ∨ a.getD j 0 ≠ a.getD (j - 1) 0) (fun vs _ => a.length - natAt vs 0) ⟨1, rfl, by omega, by omega, rfl, fun j hj _ => Or.inl (by omega)⟩ ?_
  rintro vs h' ⟨i, rfl, h1, hi, rfl, hall⟩
  (conv => whnf)
  (repeat (first | (refine ⟨rfl, Ints.len (by assumption) ?_⟩; conv => whnf) | (refine ⟨rfl, Rows.len (by assumption) ?_⟩; conv => whnf) | (refine ⟨rfl, HLen.sl ?_⟩; conv => whnf) | (refine ⟨rfl, At.load (by assumption) ?_⟩; conv => whnf) | (refine HIf.yes ?_; conv => whnf) | (refine HIf.no ?_; conv => whnf) | (refine HIf.isT (by assumption) ?_; conv => whnf) | (refine HIf.isF (by assumption) ?_; conv => whnf) | (refine HIf.decT (by assumption) ?_; conv => whnf) | (refine HIf.decF (by assumption) ?_; conv => whnf) | (refine HIf.beqT (by assumption) ?_; conv => whnf) | (refine HIf.beqF (by assumption) ?_; conv => whnf) | (refine HIf.bneT (by assumption) ?_; conv => whnf) | (refine HIf.bneF (by assumption) ?_; conv => whnf) | (refine ⟨rfl, Ints.idxN (by assumption) (by omega) (fun p hp => ?_)⟩; conv => whnf) | (refine ⟨rfl, Rows.idxN (by assumption) (by omega) (fun p y hp hy => ?_)⟩; conv => whnf) | (refine And.intro (show Kd.isBool _ = true from rfl) ?_; conv => whnf) | (refine ⟨rfl, Ints.idx (by assumption) (by omega) (by omega) (fun p hp => ?_)⟩; conv => whnf) | (refine ⟨rfl, Rows.idx (by assumption) (by omega) (by omega) (fun p y hp hy => ?_)⟩; conv => whnf) | (refine HArith.fits (by omega) (by omega) ?_; conv => whnf) | (refine Or.inl (And.intro (show Region.lexB _ _ = true by kernel_rfl) ?_); conv => whnf)))
  refine HIf.dec (fun hlt => ?_) (fun hge => ?_)
  · (conv => whnf)
    (repeat (first | (refine ⟨rfl, Ints.len (by assumption) ?_⟩; conv => whnf) | (refine ⟨rfl, Rows.len (by assumption) ?_⟩; conv => whnf) | (refine ⟨rfl, HLen.sl ?_⟩; conv => whnf) | (refine ⟨rfl, At.load (by assumption) ?_⟩; conv => whnf) | (refine HIf.yes ?_; conv => whnf) | (refine HIf.no ?_; conv => whnf) | (refine HIf.isT (by assumption) ?_; conv => whnf) | (refine HIf.isF (by assumption) ?_; conv => whnf) | (refine HIf.decT (by assumption) ?_; conv => whnf) | (refine HIf.decF (by assumption) ?_; conv => whnf) | (refine HIf.beqT (by assumption) ?_; conv => whnf) | (refine HIf.beqF (by assumption) ?_; conv => whnf) | (refine HIf.bneT (by assumption) ?_; conv => whnf) | (refine HIf.bneF (by assumption) ?_; conv => whnf) | (refine ⟨rfl, Ints.idxN (by assumption) (by omega) (fun p hp => ?_)⟩; conv => whnf) | (refine ⟨rfl, Rows.idxN (by assumption) (by omega) (fun p y hp hy => ?_)⟩; conv => whnf) | (refine And.intro (show Kd.isBool _ = true from rfl) ?_; conv => whnf) | (refine ⟨rfl, Ints.idx (by assumption) (by omega) (by omega) (fun p hp => ?_)⟩; conv => whnf) | (refine ⟨rfl, Rows.idx (by assumption) (by omega) (by omega) (fun p y hp hy => ?_)⟩; conv => whnf) | (refine HArith.fits (by omega) (by omega) ?_; conv => whnf) | (refine Or.inl (And.intro (show Region.lexB _ _ = true by kernel_rfl) ?_); conv => whnf)))
    have e2 : ((i : Int) - 1).toNat = i - 1 := by omega
    rw [e2]
    refine HIf.beq (fun he => ?_) (fun hne => ?_)
    · (conv => whnf)
      have : sqFree a = false := by
        rw [Bool.eq_false_iff]
        intro ht
        have := List.all_eq_true.1 ht i (List.mem_range.2 (by omega))
        simp [show ¬ i = 0 by omega] at this
        exact this (by simpa [List.getD] using he)
      exact ⟨by rw [this]; rfl, rfl⟩
    · (conv => whnf)
      (repeat (first | (refine ⟨rfl, Ints.len (by assumption) ?_⟩; conv => whnf) | (refine ⟨rfl, Rows.len (by assumption) ?_⟩; conv => whnf) | (refine ⟨rfl, HLen.sl ?_⟩; conv => whnf) | (refine ⟨rfl, At.load (by assumption) ?_⟩; conv => whnf) | (refine HIf.yes ?_; conv => whnf) | (refine HIf.no ?_; conv => whnf) | (refine HIf.isT (by assumption) ?_; conv => whnf) | (refine HIf.isF (by assumption) ?_; conv => whnf) | (refine HIf.decT (by assumption) ?_; conv => whnf) | (refine HIf.decF (by assumption) ?_; conv => whnf) | (refine HIf.beqT (by assumption) ?_; conv => whnf) | (refine HIf.beqF (by assumption) ?_; conv => whnf) | (refine HIf.bneT (by assumption) ?_; conv => whnf) | (refine HIf.bneF (by assumption) ?_; conv => whnf) | (refine ⟨rfl, Ints.idxN (by assumption) (by omega) (fun p hp => ?_)⟩; conv => whnf) | (refine ⟨rfl, Rows.idxN (by assumption) (by omega) (fun p y hp hy => ?_)⟩; conv => whnf) | (refine And.intro (show Kd.isBool _ = true from rfl) ?_; conv => whnf) | (refine ⟨rfl, Ints.idx (by assumption) (by omega) (by omega) (fun p hp => ?_)⟩; conv => whnf) | (refine ⟨rfl, Rows.idx (by assumption) (by omega) (by omega) (fun p y hp hy => ?_)⟩; conv => whnf) | (refine HArith.fits (by omega) (by omega) ?_; conv => whnf) | (refine Or.inl (And.intro (show Region.lexB _ _ = true by kernel_rfl) ?_); conv => whnf)))
      refine ⟨⟨i + 1, rfl, by omega, by omega, rfl, fun j hj hja => ?_⟩, by show a.length - (i + 1) < a.length - i; omega⟩
      by_cases hji : j = i
      · subst hji; exact Or.inr hne
      · exact hall j (by omega) hja
  · (conv => whnf)
    have : sqFree a = true := by
      refine List.all_eq_true.2 (fun j hj => ?_)
      have hj := List.mem_range.1 hj
      rcases hall j (by omega) hj with h | h
      · simp [h]
      · simp only [Bool.or_eq_true, decide_eq_true_eq, Bool.not_eq_true', beq_eq_false_iff_ne]
        exact Or.inr h
    exact ⟨by rw [this]; rfl, rfl⟩

theorem impl_SquareFree (h : Heap) (x : H0) (a : List Int) (hx : Ints h x a) (hal : a.length ≤ 2199023255552) : HCalls dm Try.prog 24 [.s x] h (fun r h' => r = B (sqFree a) ∧ h' = h) := by
  refine calls_of_hFun (m := 0) kd_ok mixed Try.func24 rfl (by kernel_rfl) rfl rfl (of_decide_eq_true rfl) ?_; unfold hFun; (conv => whnf)
  refine HLoop.intro [3] [4, 5, 6, 7, 10, 11, 12, 13, 14, 15, 16, 17, 18, 19, 2, 8, 9, 3] (by kernel_rfl) (by kernel_rfl) (fun vs h' => ∃ i : Nat, vs = [I i] ∧ 1 ≤ i ∧ (i ≤ a.length ∨ i = 1) ∧ h' = h ∧ ∀ j, j < i → j < a.length → j = 0 ∨ a.getD j 0 ≠ a.getD (j - 1) 0) (fun vs _ => a.length - natAt vs 0) ⟨1, rfl, by omega, by omega, rfl, fun j hj _ => Or.inl (by omega)⟩ ?_
  rintro vs h' ⟨i, rfl, h1, hi, rfl, hall⟩
  (conv => whnf)
  (repeat (first | (refine ⟨rfl, Ints.len (by assumption) ?_⟩; conv => whnf) | (refine ⟨rfl, Rows.len (by assumption) ?_⟩; conv => whnf) | (refine ⟨rfl, HLen.sl ?_⟩; conv => whnf) | (refine ⟨rfl, At.load (by assumption) ?_⟩; conv => whnf) | (refine HIf.yes ?_; conv => whnf) | (refine HIf.no ?_; conv => whnf) | (refine HIf.isT (by assumption) ?_; conv => whnf) | (refine HIf.isF (by assumption) ?_; conv => whnf) | (refine HIf.decT (by assumption) ?_; conv => whnf) | (refine HIf.decF (by assumption) ?_; conv => whnf) | (refine HIf.beqT (by assumption) ?_; conv => whnf) | (refine HIf.beqF (by assumption) ?_; conv => whnf) | (refine HIf.bneT (by assumption) ?_; conv => whnf) | (refine HIf.bneF (by assumption) ?_; conv => whnf) | (refine ⟨rfl, Ints.idxN (by assumption) (by omega) (fun p hp => ?_)⟩; conv => whnf) | (refine ⟨rfl, Rows.idxN (by assumption) (by omega) (fun p y hp hy => ?_)⟩; conv => whnf) | (refine And.intro (show Kd.isBool _ = true from rfl) ?_; conv => whnf) | (refine ⟨rfl, Ints.idx (by assumption) (by omega) (by omega) (fun p hp => ?_)⟩; conv => whnf) | (refine ⟨rfl, Rows.idx (by assumption) (by omega) (by omega) (fun p y hp hy => ?_)⟩; conv => whnf) | (refine HArith.fits (by omega) (by omega) ?_; conv => whnf) | (refine Or.inl (And.intro (show Region.lexB _ _ = true by kernel_rfl) ?_); conv => whnf)))
  refine HIf.dec (fun hlt => ?_) (fun hge => ?_)
  · (conv => whnf)
    (repeat (first | (refine ⟨rfl, Ints.len (by assumption) ?_⟩; conv => whnf) | (refine ⟨rfl, Rows.len (by assumption) ?_⟩; conv => whnf) | (refine ⟨rfl, HLen.sl ?_⟩; conv => whnf) | (refine ⟨rfl, At.load (by assumption) ?_⟩; conv => whnf) | (refine HIf.yes ?_; conv => whnf) | (refine HIf.no ?_; conv => whnf) | (refine HIf.isT (by assumption) ?_; conv => whnf) | (refine HIf.isF (by assumption) ?_; conv => whnf) | (refine HIf.decT (by assumption) ?_; conv => whnf) | (refine HIf.decF (by assumption) ?_; conv => whnf) | (refine HIf.beqT (by assumption) ?_; conv => whnf) | (refine HIf.beqF (by assumption) ?_; conv => whnf) | (refine HIf.bneT (by assumption) ?_; conv => whnf) | (refine HIf.bneF (by assumption) ?_; conv => whnf) | (refine ⟨rfl, Ints.idxN (by assumption) (by omega) (fun p hp => ?_)⟩; conv => whnf) | (refine ⟨rfl, Rows.idxN (by assumption) (by omega) (fun p y hp hy => ?_)⟩; conv => whnf) | (refine And.intro (show Kd.isBool _ = true from rfl) ?_; conv => whnf) | (refine ⟨rfl, Ints.idx (by assumption) (by omega) (by omega) (fun p hp => ?_)⟩; conv => whnf) | (refine ⟨rfl, Rows.idx (by assumption) (by omega) (by omega) (fun p y hp hy => ?_)⟩; conv => whnf) | (refine HArith.fits (by omega) (by omega) ?_; conv => whnf) | (refine Or.inl (And.intro (show Region.lexB _ _ = true by kernel_rfl) ?_); conv => whnf)))
    have e2 : ((i : Int) - 1).toNat = i - 1 := by omega
    rw [e2]
    refine HIf.beq (fun he => ?_) (fun hne => ?_)
    · (conv => whnf)
      have : sqFree a = false := by
        rw [Bool.eq_false_iff]
        intro ht
        have := List.all_eq_true.1 ht i (List.mem_range.2 (by omega))
        simp [show ¬ i = 0 by omega] at this
        exact this (by simpa [List.getD] using he)
      exact ⟨by rw [this]; rfl, rfl⟩
    · (conv => whnf)
      (repeat (first | (refine ⟨rfl, Ints.len (by assumption) ?_⟩; conv => whnf) | (refine ⟨rfl, Rows.len (by assumption) ?_⟩; conv => whnf) | (refine ⟨rfl, HLen.sl ?_⟩; conv => whnf) | (refine ⟨rfl, At.load (by assumption) ?_⟩; conv => whnf) | (refine HIf.yes ?_; conv => whnf) | (refine HIf.no ?_; conv => whnf) | (refine HIf.isT (by assumption) ?_; conv => whnf) | (refine HIf.isF (by assumption) ?_; conv => whnf) | (refine HIf.decT (by assumption) ?_; conv => whnf) | (refine HIf.decF (by assumption) ?_; conv => whnf) | (refine HIf.beqT (by assumption) ?_; conv => whnf) | (refine HIf.beqF (by assumption) ?_; conv => whnf) | (refine HIf.bneT (by assumption) ?_; conv => whnf) | (refine HIf.bneF (by assumption) ?_; conv => whnf) | (refine ⟨rfl, Ints.idxN (by assumption) (by omega) (fun p hp => ?_)⟩; conv => whnf) | (refine ⟨rfl, Rows.idxN (by assumption) (by omega) (fun p y hp hy => ?_)⟩; conv => whnf) | (refine And.intro (show Kd.isBool _ = true from rfl) ?_; conv => whnf) | (refine ⟨rfl, Ints.idx (by assumption) (by omega) (by omega) (fun p hp => ?_)⟩; conv => whnf) | (refine ⟨rfl, Rows.idx (by assumption) (by omega) (by omega) (fun p y hp hy => ?_)⟩; conv => whnf) | (refine HArith.fits (by omega) (by omega) ?_; conv => whnf) | (refine Or.inl (And.intro (show Region.lexB _ _ = true by kernel_rfl) ?_); conv => whnf)))
      refine ⟨⟨i + 1, rfl, by omega, by omega, rfl, fun j hj hja => ?_⟩, by show a.length - (i + 1) < a.length - i; omega⟩
      by_cases hji : j = i
      · subst hji; exact Or.inr hne
      · exact hall j (by omega) hja
  · (conv => whnf)
    have : sqFree a = true := by
      refine List.all_eq_true.2 (fun j hj => ?_)
      have hj := List.mem_range.1 hj
      rcases hall j (by omega) hj with h | h
      · simp [h]
      · simp only [Bool.or_eq_true, decide_eq_true_eq, Bool.not_eq_true', beq_eq_false_iff_ne]
        exact Or.inr h
    exact ⟨by rw [this]; rfl, rfl⟩

def anyUp (a : List Int) : Bool := a.any fun n => decide (n > 0)
def anyDown (a : List Int) : Bool := a.any fun n => decide (n < 0)
def rootSign (a : List Int) : Int := if anyUp a == anyDown a then 0 else if anyUp a then 1 else -1

theorem anyUp_snoc (a : List Int) (i : Nat) (hi : i < a.length) : anyUp (a.take (i + 1)) = (anyUp (a.take i) || decide (a.getD i 0 > 0)) := by
  rw [List.take_succ_eq_append_getElem hi]
  unfold anyUp
  rw [List.any_append]
  simp [List.getD, hi]

theorem anyDown_snoc (a : List Int) (i : Nat) (hi : i < a.length) : anyDown (a.take (i + 1)) = (anyDown (a.take i) || decide (a.getD i 0 < 0)) := by
  rw [List.take_succ_eq_append_getElem hi]
  unfold anyDown
  rw [List.any_append]
  simp [List.getD, hi]

end Go.Proofs.Ytjgnnjegaedinaa.Hx

namespace Go.Proofs.Ytjgnnjegaedinaa.Hx
open Go.RowKit

/-! ### Plain -/

def lexC : List Int → List Int → Int
  | [], [] => 0
  | [], _ :: _ => -1
  | _ :: _, [] => 1
  | x :: a, y :: b => if x < y then -1 else if y < x then 1 else lexC a b

def lexGt : List Int → List Int → Bool
  | x :: a, y :: b => if x = y then lexGt a b else decide (y < x)
  | _, _ => false

def cmpR (a b : List Int) : Int := if heightOf a < heightOf b then -1 else if heightOf b < heightOf a then 1 else lexC b a

def beforeR (a b : List Int) : Bool := if heightOf a = heightOf b then lexGt a b else decide (heightOf a < heightOf b)

theorem lexC_neg : ∀ a b : List Int, lexC b a = - lexC a b
  | [], [] => rfl
  | [], _ :: _ => rfl
  | _ :: _, [] => rfl
  | x :: a, y :: b => by
    have := lexC_neg a b
    simp only [lexC]
    by_cases h1 : x < y
    · rw [if_neg (by omega), if_pos h1, if_pos h1]; rfl
    · by_cases h2 : y < x
      · rw [if_pos h2, if_neg h1, if_pos h2]
      · rw [if_neg h2, if_neg h1, if_neg h1, if_neg h2]; exact this

theorem lexC_trans : ∀ a b c : List Int, lexC a b < 0 → lexC b c < 0 → lexC a c < 0
  | [], [], c, h, _ => by simp [lexC] at h
  | [], _ :: _, [], _, h => by simp [lexC] at h
  | [], _ :: _, _ :: _, _, _ => by simp [lexC]
  | _ :: _, [], _, h, _ => by simp [lexC] at h
  | _ :: _, _ :: _, [], _, h => by simp [lexC] at h
  | x :: a, y :: b, z :: c, h, k => by
    have ih := lexC_trans a b c
    simp only [lexC] at h k ⊢
    by_cases h1 : x < y
    · by_cases k1 : y < z
      · rw [if_pos (by omega)]; decide
      · by_cases k2 : z < y
        · rw [if_neg k1, if_pos k2] at k; omega
        · rw [if_pos (by omega)]; decide
    · by_cases h2 : y < x
      · rw [if_neg h1, if_pos h2] at h; omega
      · rw [if_neg h1, if_neg h2] at h
        have e : x = y := by omega
        subst e
        by_cases k1 : x < z
        · rw [if_pos k1]; decide
        · by_cases k2 : z < x
          · rw [if_neg k1, if_pos k2] at k; omega
          · rw [if_neg k1, if_neg k2] at k ⊢
            exact ih h k

theorem lexC_eq : ∀ a b : List Int, lexC a b = 0 → a = b
  | [], [], _ => rfl
  | [], _ :: _, h => by simp [lexC] at h
  | _ :: _, [], h => by simp [lexC] at h
  | x :: a, y :: b, h => by
    simp only [lexC] at h
    by_cases h1 : x < y
    · rw [if_pos h1] at h; omega
    · by_cases h2 : y < x
      · rw [if_neg h1, if_pos h2] at h; omega
      · rw [if_neg h1, if_neg h2] at h
        rw [lexC_eq a b h, show x = y by omega]

theorem lexC_ntrans (a b c : List Int) (h : ¬ lexC a b < 0) (k : ¬ lexC b c < 0) : ¬ lexC a c < 0 := by
  intro hn
  have e1 := lexC_neg a b
  have e2 := lexC_neg b c
  have e3 := lexC_neg a c
  by_cases h0 : lexC a b = 0
  · rw [lexC_eq a b h0] at hn; omega
  · by_cases k0 : lexC b c = 0
    · rw [← lexC_eq b c k0] at hn; omega
    · have := lexC_trans c b a (by omega) (by omega)
      omega

theorem cmpR_neg (a b : List Int) : cmpR b a = - cmpR a b := by
  have := lexC_neg a b
  unfold cmpR
  by_cases h1 : heightOf a < heightOf b
  · rw [if_neg (by omega), if_pos h1, if_pos h1]; rfl
  · by_cases h2 : heightOf b < heightOf a
    · rw [if_pos h2, if_neg h1, if_pos h2]
    · rw [if_neg h2, if_neg h1, if_neg h1, if_neg h2]; omega

theorem cmpR_lt {a b : List Int} : cmpR a b < 0 ↔ heightOf a < heightOf b ∨ heightOf a = heightOf b ∧ lexC b a < 0 := by
  unfold cmpR
  by_cases h1 : heightOf a < heightOf b
  · rw [if_pos h1]; simp [h1]
  · by_cases h2 : heightOf b < heightOf a
    · rw [if_neg h1, if_pos h2]
      constructor
      · intro h; omega
      · rintro (h | h) <;> omega
    · rw [if_neg h1, if_neg h2]
      constructor
      · intro h; exact Or.inr ⟨by omega, h⟩
      · rintro (h | h)
        · omega
        · exact h.2

theorem cmpR_eq {a b : List Int} (h : cmpR a b = 0) : a = b := by
  unfold cmpR at h
  by_cases h1 : heightOf a < heightOf b
  · rw [if_pos h1] at h; omega
  · by_cases h2 : heightOf b < heightOf a
    · rw [if_neg h1, if_pos h2] at h; omega
    · rw [if_neg h1, if_neg h2] at h
      exact (lexC_eq b a h).symm

theorem cmpR_trans {a b c : List Int} (h : cmpR a b < 0) (k : cmpR b c < 0) : cmpR a c < 0 := by
  rw [cmpR_lt] at *
  rcases h with h | ⟨h, h2⟩ <;> rcases k with k | ⟨k, k2⟩
  · exact Or.inl (by omega)
  · exact Or.inl (by omega)
  · exact Or.inl (by omega)
  · exact Or.inr ⟨by omega, lexC_trans c b a k2 h2⟩

theorem cmpR_ntrans {a b c : List Int} (h : ¬ cmpR a b < 0) (k : ¬ cmpR b c < 0) : ¬ cmpR a c < 0 := by
  intro hn
  have e1 := cmpR_neg a b
  have e2 := cmpR_neg b c
  have e3 := cmpR_neg a c
  by_cases h0 : cmpR a b = 0
  · rw [cmpR_eq h0] at hn; omega
  · by_cases k0 : cmpR b c = 0
    · rw [← cmpR_eq k0] at hn; omega
    · have := cmpR_trans (a := c) (b := b) (c := a) (by omega) (by omega)
      omega

/-- Sorted. -/
def SortedR (L : List (List Int)) : Prop := L.Pairwise (fun a b => ¬ cmpR b a < 0)

theorem sortedR_one {A B : List (List Int)} (hA : SortedR A) (hB : SortedR B) (p : A.Perm B) : A = B :=
  List.Perm.eq_of_pairwise (le := fun a b => ¬ cmpR b a < 0) (fun a b _ _ h k => by
    have := cmpR_neg a b
    exact cmpR_eq (by omega)) hA hB p

theorem lexGt_lexC : ∀ a b : List Int, a.length = b.length → (lexGt a b = true ↔ lexC b a < 0)
  | [], [], _ => by simp [lexGt, lexC]
  | [], _ :: _, h => by simp at h
  | _ :: _, [], h => by simp at h
  | x :: a, y :: b, h => by
    have ih := lexGt_lexC a b (by simpa using h)
    simp only [lexGt, lexC]
    by_cases h1 : y < x
    · rw [if_neg (by omega), if_pos h1]; simp [h1]
    · by_cases h2 : x < y
      · rw [if_neg (by omega), if_neg h1, if_pos h2]; simp [h1]
      · rw [if_pos (by omega), if_neg h1, if_neg h2]; exact ih

theorem beforeR_cmpR {a b : List Int} (h : a.length = b.length) : beforeR a b = true ↔ cmpR a b < 0 := by
  rw [cmpR_lt]
  unfold beforeR
  by_cases e : heightOf a = heightOf b
  · rw [if_pos e, lexGt_lexC a b h]
    constructor
    · intro k; exact Or.inr ⟨e, k⟩
    · rintro (k | k)
      · omega
      · exact k.2
  · rw [if_neg e]
    simp [e]

/-- One root put in its place. -/
def putR (r : List Int) : List (List Int) → List (List Int)
  | [] => [r]
  | a :: t => if beforeR r a then r :: a :: t else a :: putR r t

theorem putR_perm (r : List Int) : ∀ L, (putR r L).Perm (r :: L)
  | [] => List.Perm.refl _
  | a :: t => by
    simp only [putR]
    split
    · exact List.Perm.refl _
    · exact ((putR_perm r t).cons a).trans (List.Perm.swap r a t)

theorem putR_sorted {n : Nat} {r : List Int} (hr : r.length = n) : ∀ {L : List (List Int)}, (∀ a ∈ L, a.length = n) → SortedR L → SortedR (putR r L)
  | [], _, _ => by simp [putR, SortedR]
  | a :: t, hn, hs => by
    have hs' := List.pairwise_cons.1 hs
    have hb := beforeR_cmpR (a := r) (b := a) (hr.trans (hn a (by simp)).symm)
    simp only [putR]
    split
    · rename_i h
      have hlt := hb.1 h
      refine List.pairwise_cons.2 ⟨fun b hb2 hlt2 => ?_, hs⟩
      have h3 := cmpR_neg r a
      rcases List.mem_cons.1 hb2 with rfl | hb2
      · omega
      · exact hs'.1 b hb2 (cmpR_trans hlt2 hlt)
    · rename_i h
      have hge : ¬ cmpR r a < 0 := fun k => h (hb.2 k)
      refine List.pairwise_cons.2 ⟨fun b hb2 => ?_, putR_sorted hr (fun x hx => hn x (by simp [hx])) hs'.2⟩
      rcases List.mem_cons.1 ((putR_perm r t).mem_iff.1 hb2) with rfl | hb2
      · exact hge
      · exact hs'.1 b hb2

def insR (L : List (List Int)) : List (List Int) := L.foldl (fun o r => putR r o) []

theorem insR_snoc (L : List (List Int)) (k : Nat) (hk : k < L.length) : insR (L.take (k + 1)) = putR (L.getD k []) (insR (L.take k)) := by
  rw [List.take_succ_eq_append_getElem hk]
  unfold insR
  rw [List.foldl_append]
  simp [List.getD, hk]

theorem insR_perm (L : List (List Int)) : (insR L).Perm L := by
  have main : ∀ (L o : List (List Int)), (L.foldl (fun o r => putR r o) o).Perm (o ++ L) := by
    intro L
    induction L with
    | nil => intro o; simp
    | cons r t ih =>
      intro o
      refine (ih _).trans ?_
      refine ((putR_perm r o).append_right t).trans ?_
      exact List.perm_middle.symm
  have := main L []
  rw [List.nil_append] at this
  exact this

theorem insR_sorted {n : Nat} (L : List (List Int)) (hn : ∀ a ∈ L, a.length = n) : SortedR (insR L) := by
  have main : ∀ (L o : List (List Int)), (∀ a ∈ L, a.length = n) → (∀ a ∈ o, a.length = n) → SortedR o → SortedR (L.foldl (fun o r => putR r o) o) := by
    intro L
    induction L with
    | nil => intro o _ _ h; exact h
    | cons r t ih =>
      intro o h1 h2 h3
      refine ih _ (fun a ha => h1 a (by simp [ha])) (fun a ha => ?_) (putR_sorted (h1 r (by simp)) h2 h3)
      rcases List.mem_cons.1 ((putR_perm r o).mem_iff.1 ha) with rfl | ha
      · exact h1 _ (by simp)
      · exact h2 a ha
  exact main L [] hn (by simp) List.Pairwise.nil

theorem insR_length (L : List (List Int)) : (insR L).length = L.length := (insR_perm L).length_eq

/-- What the sort leaves is what the insertions leave. -/
theorem sorted_insR {n : Nat} {L : List (List Int)} (hn : ∀ a ∈ L, a.length = n) {σ : List Nat} (hp : σ.Perm (List.range L.length)) (hs : σ.Pairwise (fun i j => ¬ cmpR (L.getD j []) (L.getD i []) < 0)) : σ.map (fun i => L.getD i []) = insR L := by
  refine sortedR_one (List.pairwise_map.2 hs) (insR_sorted L hn) ?_
  refine (hp.map _).trans (List.Perm.trans ?_ (insR_perm L).symm)
  have : (List.range L.length).map (fun i => L.getD i []) = L := by
    apply List.ext_getElem (by simp)
    intro i h1 h2
    simp [List.getD, h2]
  rw [this]

/-! ### Over rows -/

/-- A slice of slices: its own row is of number b or more, its parts lie in rows of which S holds. -/
def MatIn (b : Nat) (S : Nat → Prop) (h : Heap) (z : H0) (T : List (List Int)) : Prop := ∃ r ρ, z = .sl r 0 T.length ∧ b ≤ r ∧ (∀ i, i < T.length → S (ρ i)) ∧ MatAt h r ρ T

theorem MatIn.none (h : Heap) (S : Nat → Prop) : MatIn h.length S (h ++ [Row.own []]) (.sl h.length 0 0) [] :=
  ⟨h.length, fun _ => 0, rfl, Nat.le_refl _, fun i hi => by simp at hi, ⟨[], get_new _ _, Nat.le_refl _, fun i hi => by simp at hi⟩, fun i hi => by simp at hi, fun i hi => by simp at hi, fun i j _ hj => by simp at hj⟩

theorem MatAt.lt {h : Heap} {r : Nat} {ρ : Nat → Nat} {L : List (List Int)} (m : MatAt h r ρ L) : r < h.length ∧ ∀ i, i < L.length → ρ i < h.length :=
  ⟨by obtain ⟨cs, g, _⟩ := m.outer; exact get_lt g, fun i hi => by obtain ⟨t, g⟩ := m.inner i hi; exact get_lt g⟩

theorem MatAt.ext {h h' : Heap} {r : Nat} {ρ : Nat → Nat} {L : List (List Int)} (m : MatAt h r ρ L) (E : Ext h h') : MatAt h' r ρ L :=
  m.move (E.2 _ m.lt.1) (fun i hi => E.2 _ (m.lt.2 i hi))

theorem MatIn.ext {b : Nat} {S : Nat → Prop} {h h' : Heap} {z : H0} {T : List (List Int)} (M : MatIn b S h z T) (E : Ext h h') : MatIn b S h' z T := by
  obtain ⟨r, ρ, g1, g2, g3, m⟩ := M
  exact ⟨r, ρ, g1, g2, g3, m.ext E⟩

theorem MatIn.weaken {b : Nat} {S S' : Nat → Prop} {h : Heap} {z : H0} {T : List (List Int)} (M : MatIn b S h z T) (k : ∀ q, q < h.length → S q → S' q) : MatIn b S' h z T := by
  obtain ⟨r, ρ, g1, g2, g3, m⟩ := M
  exact ⟨r, ρ, g1, g2, fun i hi => k _ (m.lt.2 i hi) (g3 i hi), m⟩

theorem MatIn.own {b c : Nat} {S : Nat → Prop} {h : Heap} {z : H0} {T : List (List Int)} (M : MatIn b S h z T) (hc : c ≤ b) (k : ∀ q, q < h.length → S q → c ≤ q) : OwnM c h.length h z T := by
  obtain ⟨r, ρ, g1, g2, g3, m⟩ := M
  exact ⟨r, ρ, g1, by omega, m.lt.1, fun i hi => ⟨k _ (m.lt.2 i hi) (g3 i hi), m.lt.2 i hi⟩, m⟩

theorem MatIn.rows {b : Nat} {S : Nat → Prop} {h : Heap} {z : H0} {T : List (List Int)} (M : MatIn b S h z T) : Rows h z T := by
  obtain ⟨r, ρ, rfl, g2, g3, m⟩ := M
  exact m.rows

/-- A slice of ints that is there, in a row of which S does not hold, appended to a slice of such slices. -/
theorem HApp.snocS {hb h h2 : Heap} {S : Nat → Prop} {z y : H0} {L : List (List Int)} {l : List Int} {q : Nat} {K : HV → Heap → Prop} (E : Ext hb h) (M : MatIn hb.length S h z L) (E2 : Ext h h2) (F : OwnR q h2 y l) (hq : ¬ S q) (hqr : q < hb.length ∨ h.length ≤ q) (hl : L.length < 2199023255552)
    (hK : ∀ h' z', Ext hb h' → h2.length ≤ h'.length → MatIn hb.length (fun x => S x ∨ x = q) h' z' (L ++ [l]) → K (.s z') h') : HApp (h2 ++ [.own [y]]) (.s z) (.s (.sl h2.length 0 1)) K := by
  have l1 := E.1
  have l2 := E2.1
  obtain ⟨r, ρ, rfl, hr1, hS, m⟩ := M
  obtain ⟨hr2, hρ⟩ := m.lt
  have hq2 := F.lt
  obtain ⟨t, rfl, hqo⟩ := F
  obtain ⟨cs, ho, hcl, hoc⟩ := m.outer
  refine ⟨[.sl q 0 l.length], ?_, by simp [H0.one], cs, rfl, (Ext.push h2 _).row (E2.row ho), hcl, Or.inl ⟨by simp; omega, ?_⟩⟩
  · have := Shows.own h2.length 0 1 _ (get_new h2 (.own [.sl q 0 l.length])) (by simp)
    simpa using this
  have e1 : L.length + [H0.sl q 0 l.length].length = (L ++ [l]).length := by simp
  rw [e1]
  have old : ∀ p, p < h2.length → p ≠ r → ((h2 ++ [Row.own [.sl q 0 l.length]]).set r .gone ++ [Row.own (cs.take L.length ++ [.sl q 0 l.length])])[p]? = h2[p]? := fun p hp hn => by
    rw [List.getElem?_append_left (by simp; omega), List.getElem?_set_ne (Ne.symm hn), List.getElem?_append_left hp]
  have gd1 : ∀ i, i < L.length → (L ++ [l]).getD i [] = L.getD i [] := fun i hi => by
    simp only [List.getD]
    rw [List.getElem?_append_left hi]
  have gd2 : (L ++ [l]).getD L.length [] = l := by simp [List.getD]
  have hE : Ext hb ((h2 ++ [Row.own [.sl q 0 l.length]]).set r .gone ++ [Row.own (cs.take L.length ++ [.sl q 0 l.length])]) := ((((E.trans E2).pushed _).set hr1 _).pushed _)
  have hlen : ((h2 ++ [Row.own [.sl q 0 l.length]]).set r .gone ++ [Row.own (cs.take L.length ++ [.sl q 0 l.length])]).length = h2.length + 2 := by simp
  have hqr2 : q ≠ r := by omega
  refine hK _ _ hE (by rw [hlen]; omega) ⟨h2.length + 1, fun i => if i < L.length then ρ i else q, by simp, by omega, fun i hi => ?_, ⟨cs.take L.length ++ [.sl q 0 l.length], ?_, by simp; omega, fun i hi => ?_⟩, fun i hi => ?_, fun i hi => ?_, fun i j hij hj => ?_⟩
  · by_cases hi2 : i < L.length
    · simp only [hi2, if_true]
      exact Or.inl (hS i hi2)
    · show S (if i < L.length then ρ i else q) ∨ (if i < L.length then ρ i else q) = q
      rw [if_neg hi2]
      exact Or.inr rfl
  · rw [List.getElem?_append_right (by simp)]
    simp
  · by_cases hi2 : i < L.length
    · rw [List.getElem?_append_left (by simp; omega), List.getElem?_take_of_lt hi2, hoc i hi2, gd1 i hi2]
      simp [hi2]
    · have e : i = L.length := by simp at hi; omega
      subst e
      rw [gd2, List.getElem?_append_right (by simp; omega)]
      have : L.length - (cs.take L.length).length = 0 := by simp; omega
      rw [this]
      simp
  · by_cases hi2 : i < L.length
    · obtain ⟨t2, ht2⟩ := m.inner i hi2
      have hb2 := hρ i hi2
      have hne := m.ne i hi2
      refine ⟨t2, ?_⟩
      rw [gd1 i hi2, if_pos hi2, old _ (by omega) hne]
      exact E2.row ht2
    · have e : i = L.length := by simp at hi; omega
      subst e
      refine ⟨t, ?_⟩
      rw [gd2, if_neg (by omega), old _ (by omega) (by omega)]
      exact hqo
  · by_cases hi2 : i < L.length
    · have := hρ i hi2
      simp only [hi2, if_true]
      omega
    · simp only [hi2, if_false]
      omega
  · have hj' : j ≤ L.length := by simp at hj; omega
    have hi2 : i < L.length := by omega
    by_cases hj2 : j < L.length
    · simp only [hi2, hj2, if_true]
      exact m.inj i j hij hj2
    · simp only [hi2, hj2, if_true, if_false]
      intro e
      exact hq (by rw [← e]; exact hS i hi2)

theorem MatAt.idx {h : Heap} {r : Nat} {ρ : Nat → Nat} {L : List (List Int)} (m : MatAt h r ρ L) {n : Nat} (h1 : n < L.length) {k : IntKind} {K : HV → Prop} (hK : ∀ p, At h p (.sl (ρ n) 0 (L.getD n []).length) → K (.s p)) :
    HIdx h (.s (.sl r 0 L.length)) (.s (.pl (.int k (n : Int)))) K := by
  obtain ⟨cs, g1, g2, g3⟩ := m.outer
  refine HIdx.sl (by omega) (by omega) (hK _ ⟨r, _, _, cs, rfl, g1, rfl, ?_⟩)
  rw [Int.toNat_natCast, Nat.zero_add]
  exact g3 n h1

theorem MatAt.inner' {h : Heap} {r : Nat} {ρ : Nat → Nat} {L : List (List Int)} (m : MatAt h r ρ L) {n : Nat} (h1 : n < L.length) : OwnR (ρ n) h (.sl (ρ n) 0 (L.getD n []).length) (L.getD n []) := by
  obtain ⟨t, ht⟩ := m.inner n h1
  exact ⟨t, rfl, ht⟩

theorem iEq' {a b : Int} (h : a = b) : I a = I b := by rw [h]

end Go.Proofs.Ytjgnnjegaedinaa.Hx
