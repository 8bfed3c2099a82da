/-
  A search for a path of braid moves, and a word's text.
  Braid moves lead back; the search for a path of braid moves finds every reduced word.
  The contract of BraidPath of the reference.
  A word's text, and the program's memory while it searches a path of braid moves.
-/
import Derived.Test.YtjgnnjegaedinaaZ22
namespace Go.Proofs.Ytjgnnjegaedinaa.Hx
open Go.RowKit

/-! ### The search -/

abbrev Two := List (List Int) × List (List Int)

/-- One more move. -/
def bpStep (c : List (List Int)) (q p : List Int) (S : Two) (t : Int) : Two :=
  if braid c q t ∉ S.1 ∧ S.1.length < 120 then (S.1 ++ [braid c q t], S.2 ++ [p ++ [t]]) else S
def bpIn (c : List (List Int)) (q p : List Int) (S : Two) (l : List Int) : Two := l.foldl (bpStep c q p) S
def bpAll (c : List (List Int)) (S : Two) (k : Nat) : Two := bpIn c (S.1.getD k []) (S.2.getD k []) S (brTo c (S.1.getD k []) (S.1.getD k []).length)
def bpOut (c : List (List Int)) (b : List Int) : Nat → Nat → Two → Bool × List Int
  | 0, _, _ => (false, [])
  | f + 1, k, S => if k < S.1.length then (if S.1.getD k [] = b then (true, S.2.getD k []) else bpOut c b f (k + 1) (bpAll c S k)) else (false, [])

def bpOk (c : List (List Int)) (a b : List Int) : Bool := isReduced c a && isReduced c b && (bpOut c b 121 0 ([a], [[]])).1
def bpPath (c : List (List Int)) (a b : List Int) : List Int := if isReduced c a && isReduced c b then (bpOut c b 121 0 ([a], [[]])).2 else []

theorem bpOut_end {c : List (List Int)} {b : List Int} {f k : Nat} {S : Two} (h : ¬ k < S.1.length) : bpOut c b f k S = (false, []) := by
  cases f with
  | zero => rfl
  | succ f => rw [bpOut, if_neg h]
theorem bpOut_hit {c : List (List Int)} {b : List Int} {f k : Nat} {S : Two} (h : k < S.1.length) (h2 : S.1.getD k [] = b) : bpOut c b (f + 1) k S = (true, S.2.getD k []) := by rw [bpOut, if_pos h, if_pos h2]
theorem bpOut_next {c : List (List Int)} {b : List Int} {f k : Nat} {S : Two} (h : k < S.1.length) (h2 : S.1.getD k [] ≠ b) : bpOut c b (f + 1) k S = bpOut c b f (k + 1) (bpAll c S k) := by rw [bpOut, if_pos h, if_neg h2]

theorem bp_off {c : List (List Int)} {a b : List Int} (h : ¬ (isReduced c a = true ∧ isReduced c b = true)) : bpOk c a b = false ∧ bpPath c a b = [] := by
  have e : (isReduced c a && isReduced c b) = false := by
    rw [Bool.eq_false_iff]
    intro k
    exact h (by simpa using k)
  simp [bpOk, bpPath, e]
theorem bp_on {c : List (List Int)} {a b : List Int} (h1 : isReduced c a = true) (h2 : isReduced c b = true) {r : Bool × List Int} (h : bpOut c b 121 0 ([a], [[]]) = r) : bpOk c a b = r.1 ∧ bpPath c a b = r.2 := by
  simp [bpOk, bpPath, h1, h2, h]

/-- What is true of the two lists at every time. -/
structure BpS (c : List (List Int)) (n : Nat) (v : List Int) (Q P : List (List Int)) : Prop where
  len : P.length = Q.length
  few : Q.length ≤ 120
  red : ∀ q ∈ Q, Red c n v q
  path : ∀ i, i < P.length → (P.getD i []).length ≤ i

theorem getD_snoc {L : List (List Int)} {x : List Int} : (L ++ [x]).getD L.length [] = x := by simp [List.getD]
theorem getD_app {L T : List (List Int)} {i : Nat} (h : i < L.length) : (L ++ T).getD i [] = L.getD i [] := by
  simp only [List.getD]
  rw [List.getElem?_append_left h]

theorem BpS.start (c : List (List Int)) (a : List Int) (h : lettersOk c a = true) : BpS c a.length (imageOf c a) [a] [[]] :=
  ⟨rfl, by simp, fun q hq => by
    obtain rfl : q = a := by simpa using hq
    exact ⟨rfl, h, rfl⟩, fun i hi => by
    have : i = 0 := by simp at hi; omega
    subst this
    simp⟩

theorem BpS.step {c : List (List Int)} {n : Nat} {v : List Int} {Q P : List (List Int)} (B : BpS c n v Q P) (hn : n ≤ 31) {k : Nat} (hk : k < Q.length) {t : Nat} (ht : brOk c (Q.getD k []) t = true) (hQ : Q.length < 120) : BpS c n v (Q ++ [braid c (Q.getD k []) t]) (P ++ [P.getD k [] ++ [(t : Int)]]) := by
  refine ⟨by simp [B.len], by simp; omega, fun q hq => ?_, fun i hi => ?_⟩
  · rcases List.mem_append.1 hq with hq | hq
    · exact B.red q hq
    · have e : q = braid c (Q.getD k []) t := by simpa using hq
      rw [e]
      exact (br_of_braid ht).red hn (B.red _ (getD_mem hk))
  · by_cases e : i < P.length
    · rw [getD_app e]
      exact B.path i e
    · have ei : i = P.length := by simp at hi; omega
      subst ei
      rw [getD_snoc]
      have h1 := B.path k (by rw [B.len]; exact hk)
      have h2 := B.len
      rw [List.length_append, List.length_cons, List.length_nil]
      omega

theorem bpIn_nil (c : List (List Int)) (q p : List Int) (S : Two) : bpIn c q p S [] = S := rfl
theorem bpIn_snoc (c : List (List Int)) (q p : List Int) (S : Two) (l : List Int) (t : Int) : bpIn c q p S (l ++ [t]) = bpStep c q p (bpIn c q p S l) t := by
  rw [bpIn, List.foldl_append]
  rfl
theorem bpStep_old {c : List (List Int)} {q p : List Int} {S : Two} {t : Int} (h : ¬ (braid c q t ∉ S.1 ∧ S.1.length < 120)) : bpStep c q p S t = S := by rw [bpStep, if_neg h]
theorem bpStep_new {c : List (List Int)} {q p : List Int} {S : Two} {t : Int} (h : braid c q t ∉ S.1 ∧ S.1.length < 120) : bpStep c q p S t = (S.1 ++ [braid c q t], S.2 ++ [p ++ [t]]) := by rw [bpStep, if_pos h]

theorem take_snoc' {l : List Int} {k : Nat} (h : k < l.length) : l.take (k + 1) = l.take k ++ [l.getD k 0] := by
  rw [List.take_add_one, List.getD]
  simp [h]

/-- A path is not longer than its number. -/
theorem bpOut_len {c : List (List Int)} {b : List Int} : ∀ (f k : Nat) (S : Two), S.2.length = S.1.length → S.1.length ≤ 120 → (∀ i, i < S.2.length → (S.2.getD i []).length ≤ i) → (bpOut c b f k S).2.length ≤ 120
  | 0, _, _, _, _, _ => by simp [bpOut]
  | f + 1, k, S, h1, h2, h3 => by
    by_cases hk : k < S.1.length
    rotate_left
    · rw [bpOut_end hk]
      simp
    by_cases hb : S.1.getD k [] = b
    · rw [bpOut_hit hk hb]
      have := h3 k (by omega)
      show (S.2.getD k []).length ≤ 120
      omega
    · rw [bpOut_next hk hb]
      have hp := h3 k (by omega)
      have key : ∀ (l : List Int) (T : Two), k < T.1.length → T.2.length = T.1.length → T.1.length ≤ 120 → (∀ i, i < T.2.length → (T.2.getD i []).length ≤ i) →
          (bpIn c (S.1.getD k []) (S.2.getD k []) T l).2.length = (bpIn c (S.1.getD k []) (S.2.getD k []) T l).1.length ∧ (bpIn c (S.1.getD k []) (S.2.getD k []) T l).1.length ≤ 120 ∧ ∀ i, i < (bpIn c (S.1.getD k []) (S.2.getD k []) T l).2.length → ((bpIn c (S.1.getD k []) (S.2.getD k []) T l).2.getD i []).length ≤ i := by
        intro l
        induction l with
        | nil => intro T _ a b d; exact ⟨a, b, d⟩
        | cons t l ih =>
          intro T a0 a b d
          have e : bpIn c (S.1.getD k []) (S.2.getD k []) T (t :: l) = bpIn c (S.1.getD k []) (S.2.getD k []) (bpStep c (S.1.getD k []) (S.2.getD k []) T t) l := rfl
          rw [e]
          by_cases g : braid c (S.1.getD k []) t ∉ T.1 ∧ T.1.length < 120
          · rw [bpStep_new g]
            refine ih _ (by simp; omega) (by simp [a]) (by simp; omega) fun i hi => ?_
            by_cases ei : i < T.2.length
            · rw [getD_app ei]
              exact d i ei
            · have ei : i = T.2.length := by simp at hi; omega
              subst ei
              rw [getD_snoc, List.length_append, List.length_cons, List.length_nil]
              omega
          · rw [bpStep_old g]
            exact ih T a0 a b d
      obtain ⟨g1, g2, g3⟩ := key (brTo c (S.1.getD k []) (S.1.getD k []).length) S hk h1 h2 h3
      exact bpOut_len f (k + 1) _ g1 g2 g3

theorem bpPath_len (c : List (List Int)) (a b : List Int) : (bpPath c a b).length ≤ 120 := by
  unfold bpPath
  split
  · exact bpOut_len _ _ _ rfl (by simp) fun i hi => by
      have : i = 0 := by simp at hi; omega
      subst this
      simp
  · simp

/-! ### Two slices of slices that grow -/

def Half (F : Nat → Prop) (r : Nat) (Q : List (List Int)) (h : Heap) : Prop :=
  ∃ cs, h[r]? = some (.own cs) ∧ Q.length ≤ cs.length ∧ ∀ i, i < Q.length → ∃ y, cs[i]? = some y ∧ ∀ h', KeepN F h h' → Ints h' y (Q.getD i [])

theorem Half.rows {F : Nat → Prop} {r : Nat} {Q : List (List Int)} {h : Heap} (H : Half F r Q h) : Rows h (.sl r 0 Q.length) Q := by
  obtain ⟨cs, g1, g2, g3⟩ := H
  refine ⟨cs.take Q.length, ?_, by rw [List.length_take]; omega, fun i z l a b => ?_⟩
  · have := Shows.own (h := h) r 0 Q.length cs g1 (by omega)
    simpa using this
  · have hi : i < Q.length := by
      have := (List.getElem?_eq_some_iff.1 b).1
      exact this
    obtain ⟨y, e1, e2⟩ := g3 i hi
    rw [List.getElem?_take_of_lt hi, e1] at a
    obtain rfl := Option.some.inj a
    have := e2 h (KeepN.refl F h)
    simp only [List.getD, b, Option.getD_some] at this
    exact this

theorem Half.keep {F G : Nat → Prop} {r : Nat} {Q : List (List Int)} {h h' : Heap} (H : Half F r Q h) (k : KeepN G h h') (hr : ¬ G r) (hG : ∀ q, q < h.length → G q → F q) {F' : Nat → Prop} (hF : ∀ q, q < h.length → F' q → F q) : Half F' r Q h' := by
  obtain ⟨cs, g1, g2, g3⟩ := H
  have hlt : r < h.length := (List.getElem?_eq_some_iff.1 g1).1
  refine ⟨cs, by rw [k.2 r hlt hr]; exact g1, g2, fun i hi => ?_⟩
  obtain ⟨y, e1, e2⟩ := g3 i hi
  refine ⟨y, e1, fun h'' k2 => e2 h'' ⟨Nat.le_trans k.1 k2.1, fun q hq hn => ?_⟩⟩
  rw [k2.2 q (Nat.lt_of_lt_of_le hq k.1) (fun f => hn (hF q hq f)), k.2 q hq (fun g => hn (hG q hq g))]

/-- The two lists: one in row r, one in row r'. -/
structure Twin (b r r' : Nat) (Q P : List (List Int)) (h : Heap) : Prop where
  q : Half (fun z => z = r ∨ z = r') r Q h
  p : Half (fun z => z = r ∨ z = r') r' P h
  ne : r ≠ r'
  low : b ≤ r ∧ b ≤ r'

theorem Twin.swap {b r r' : Nat} {Q P : List (List Int)} {h : Heap} (T : Twin b r r' Q P h) : Twin b r' r P Q h :=
  ⟨T.p.keep (KeepN.refl (fun _ => False) h) (fun e => e) (fun _ _ e => e.elim) (fun _ _ e => e.elim Or.inr Or.inl), T.q.keep (KeepN.refl (fun _ => False) h) (fun e => e) (fun _ _ e => e.elim) (fun _ _ e => e.elim Or.inr Or.inl), T.ne.symm, T.low.2, T.low.1⟩
theorem Twin.ext {b r r' : Nat} {Q P : List (List Int)} {h h' : Heap} (T : Twin b r r' Q P h) (E : Ext h h') : Twin b r r' Q P h' :=
  ⟨T.q.keep (KeepN.ofExt (F := fun _ => False) E) (fun e => e) (fun _ _ e => e.elim) (fun _ _ e => e), T.p.keep (KeepN.ofExt (F := fun _ => False) E) (fun e => e) (fun _ _ e => e.elim) (fun _ _ e => e), T.ne, T.low⟩
theorem Twin.lt {b r r' : Nat} {Q P : List (List Int)} {h : Heap} (T : Twin b r r' Q P h) : r < h.length ∧ r' < h.length := by
  obtain ⟨_, g1, _⟩ := T.q
  obtain ⟨_, g2, _⟩ := T.p
  exact ⟨(List.getElem?_eq_some_iff.1 g1).1, (List.getElem?_eq_some_iff.1 g2).1⟩

/-- One more entry of the first list. -/
theorem HApp.twin {b r r' : Nat} {Q P : List (List Int)} {h : Heap} {y : H0} {l : List Int} (T : Twin b r r' Q P h) (hone : y.one = true) (hy : ∀ h', KeepN (fun z => z = r ∨ z = r') h h' → Ints h' y l) (hl : Q.length ≤ 1048576) {K : HV → Heap → Prop}
    (hK : ∀ h' r2, KeepN (fun z => z = r) h h' → h.length ≤ r2 → Twin b r2 r' (Q ++ [l]) P h' → K (.s (.sl r2 0 (Q ++ [l]).length)) h') : HApp (h ++ [.own [y]]) (.s (.sl r 0 Q.length)) (.s (.sl h.length 0 1)) K := by
  have hlt := T.lt
  have hlow := T.low
  have hne := T.ne
  obtain ⟨cs, g1, g2, g3⟩ := T.q
  refine ⟨[y], ?_, by simpa using hone, cs, rfl, by rw [List.getElem?_append_left hlt.1]; exact g1, g2, Or.inl ⟨by simp; omega, ?_⟩⟩
  · have := Shows.own h.length 0 1 _ (get_new h (.own [y])) (by simp)
    simpa using this
  have e1 : Q.length + [y].length = (Q ++ [l]).length := by simp
  rw [e1]
  have old : ∀ p, p < h.length → p ≠ r → ((h ++ [Row.own [y]]).set r .gone ++ [Row.own (cs.take Q.length ++ [y])])[p]? = h[p]? := fun p hp hn => by
    rw [List.getElem?_append_left (by simp; omega), List.getElem?_set_ne (Ne.symm hn), List.getElem?_append_left hp]
  have k : KeepN (fun z => z = r) h ((h ++ [Row.own [y]]).set r .gone ++ [Row.own (cs.take Q.length ++ [y])]) := ⟨by simp; omega, fun p hp hn => old p hp hn⟩
  have hnew : ((h ++ [Row.own [y]]).set r .gone ++ [Row.own (cs.take Q.length ++ [y])])[(h ++ [Row.own [y]]).length]? = some (.own (cs.take Q.length ++ [y])) := by
    rw [List.getElem?_append_right (by simp)]
    simp
  have hlen : (h ++ [Row.own [y]]).length = h.length + 1 := by simp
  have trans : ∀ h'', KeepN (fun z => z = (h ++ [Row.own [y]]).length ∨ z = r') ((h ++ [Row.own [y]]).set r .gone ++ [Row.own (cs.take Q.length ++ [y])]) h'' → KeepN (fun z => z = r ∨ z = r') h h'' := fun h'' k2 => ⟨Nat.le_trans k.1 k2.1, fun p hp hn => by
    rw [k2.2 p (Nat.lt_of_lt_of_le hp k.1) (fun e => by rcases e with e | e; omega; exact hn (Or.inr e)), old p hp (fun e => hn (Or.inl e))]⟩
  refine hK _ _ k (by omega) ⟨⟨cs.take Q.length ++ [y], hnew, by simp; omega, fun i hi => ?_⟩, T.p.keep k (fun e => hne e.symm) (fun q _ e => Or.inl e) (fun q hq e => ?_), by omega, by omega, hlow.2⟩
  · by_cases e : i < Q.length
    · obtain ⟨z, z1, z2⟩ := g3 i e
      refine ⟨z, by rw [List.getElem?_append_left (by rw [List.length_take]; omega), List.getElem?_take_of_lt e]; exact z1, fun h'' k2 => ?_⟩
      rw [getD_app e]
      exact z2 h'' (trans h'' k2)
    · have ei : i = Q.length := by simp at hi; omega
      subst ei
      refine ⟨y, ?_, fun h'' k2 => ?_⟩
      · have e3 : (cs.take Q.length).length = Q.length := by rw [List.length_take]; omega
        rw [List.getElem?_append_right (by omega), e3, Nat.sub_self]
        rfl
      · rw [getD_snoc]
        exact hy h'' (trans h'' k2)
  · rcases e with e | e
    · omega
    · exact Or.inr e

/-- A row of one's own stays what it is when others change. -/
theorem OwnR.stays {F : Nat → Prop} {r : Nat} {h : Heap} {x : H0} {l : List Int} (O : OwnR r h x l) (hr : ¬ F r) : ∀ h', KeepN F h h' → Ints h' x l := fun h' k => by
  obtain ⟨t, rfl, ht⟩ := O
  have hlt : r < h.length := (List.getElem?_eq_some_iff.1 ht).1
  exact Ints.ofOwn (t := t) (by rw [k.2 r hlt hr]; exact ht)

end Go.Proofs.Ytjgnnjegaedinaa.Hx

namespace Go.Proofs.Ytjgnnjegaedinaa.Hx
open Go.RowKit

theorem braid_mk {c : List (List Int)} {p q : List Int} {i j : Int} {m : Nat} (hw : isWord c (p ++ (altTo i j m ++ q)) = true) (hb : bond c i j = m) (h2 : 2 ≤ m) :
    brOk c (p ++ (altTo i j m ++ q)) p.length = true ∧ braid c (p ++ (altTo i j m ++ q)) p.length = p ++ (altTo j i m ++ q) := by
  obtain ⟨hC, hi, hj, hij, _⟩ := bond_info hb h2
  have hml := bond_le c i j
  obtain ⟨m', rfl⟩ : ∃ m', m = m' + 2 := ⟨m - 2, by omega⟩
  have g1 : (p ++ (altTo i j (m' + 2) ++ q)).getD p.length 0 = i := by simp [altTo_cons, List.getD]
  have g2 : (p ++ (altTo i j (m' + 2) ++ q)).getD (p.length + 1) 0 = j := by
    rw [altTo_cons, altTo_cons]
    simp only [List.getD]
    rw [List.getElem?_append_right (by omega)]
    simp
  have hM : brM c (p ++ (altTo i j (m' + 2) ++ q)) p.length = m' + 2 := by
    unfold brM
    rw [g1, g2, hb]
    omega
  have d1 : (p ++ (altTo i j (m' + 2) ++ q)).drop (p.length + (m' + 2)) = q := by
    rw [← List.append_assoc]
    exact List.drop_left' (by rw [List.length_append, altTo_len])
  have d2 : ((p ++ (altTo i j (m' + 2) ++ q)).take (p.length + (m' + 2))).drop p.length = altTo i j (m' + 2) := by
    rw [← List.append_assoc, List.take_left' (by rw [List.length_append, altTo_len])]
    exact List.drop_left
  have ha : alt i j (m' + 2 : Nat) = altTo i j (m' + 2) := alt_of (by omega)
  have ha2 : alt j i (m' + 2 : Nat) = altTo j i (m' + 2) := alt_of (by omega)
  have hok : brOk c (p ++ (altTo i j (m' + 2) ++ q)) p.length = true := by
    rw [brOk_at hw (by simp [altTo_len]; omega)]
    unfold brN
    rw [hM, g1, g2, d2, ha, hb]
    simp only [Bool.and_eq_true, decide_eq_true_eq]
    refine ⟨⟨⟨hij, by omega⟩, ?_⟩, trivial⟩
    simp [altTo_len]
  refine ⟨hok, ?_⟩
  rw [braid_on hok]
  unfold brW
  rw [hM, g1, g2, d1, ha2, List.take_left]

theorem braid_word {c : List (List Int)} {w : List Int} {k : Nat} (h : brOk c w k = true) : isWord c (braid c w k) = true := by
  have hw := brOk_word h
  have B := br_of_braid h
  obtain ⟨hC, hl, hle⟩ := word_cartan hw
  simp only [isWord, Bool.and_eq_true, decide_eq_true_eq]
  exact ⟨⟨(isCartan_iff c).2 hC, by rw [B.length]; exact hl⟩, B.letters hle⟩

/-- The same move leads back. -/
theorem braid_back {c : List (List Int)} {w : List Int} {k : Nat} (h : brOk c w k = true) : brOk c (braid c w k) k = true ∧ braid c (braid c w k) k = w := by
  have hwd := braid_word h
  have h0 := h
  simp only [brOk, brN, Bool.and_eq_true, decide_eq_true_eq, Int.toNat_natCast] at h0
  obtain ⟨⟨hw, _, hk⟩, ⟨⟨h1, h2⟩, h3⟩, h4⟩ := h0
  obtain ⟨_, hl, _⟩ := word_cartan hw
  have hb : bond c (w.getD k 0) (w.getD (k + 1) 0) = brM c w k := by unfold brM; omega
  have h2' : 2 ≤ brM c w k := by omega
  have hm : alt (w.getD k 0) (w.getD (k + 1) 0) (brM c w k) = altTo (w.getD k 0) (w.getD (k + 1) 0) (brM c w k) := alt_of (by omega)
  have hm2 : alt (w.getD (k + 1) 0) (w.getD k 0) (brM c w k) = altTo (w.getD (k + 1) 0) (w.getD k 0) (brM c w k) := alt_of (by omega)
  have e : w.take k ++ (altTo (w.getD k 0) (w.getD (k + 1) 0) (brM c w k) ++ w.drop (k + brM c w k)) = w := by
    rw [← hm, ← h4]
    have e1 : (w.take (k + brM c w k)).drop k ++ w.drop (k + brM c w k) = w.drop k := by
      have := List.take_append_drop (brM c w k) (w.drop k)
      rw [List.drop_drop] at this
      rw [List.drop_take]
      simpa using this
    rw [e1, List.take_append_drop]
  have e2 : braid c w k = w.take k ++ (altTo (w.getD (k + 1) 0) (w.getD k 0) (brM c w k) ++ w.drop (k + brM c w k)) := by
    rw [braid_on h]
    unfold brW
    rw [hm2]
  have hlk : (w.take k).length = k := by rw [List.length_take]; omega
  rw [e2] at hwd ⊢
  have := braid_mk hwd (by rw [bond_comm]; exact hb) h2'
  rw [hlk, e] at this
  exact this

theorem braid_areSame {c : List (List Int)} {w : List Int} {k : Nat} (h : brOk c w k = true) : areSame c w (braid c w k) = true := by
  have hw := brOk_word h
  obtain ⟨hC, hl, hle⟩ := word_cartan hw
  have B := br_of_braid h
  simp only [areSame, Bool.and_eq_true, decide_eq_true_eq]
  exact ⟨⟨hw, braid_word h⟩, (B.image hle (by omega)).symm⟩

theorem braids_snoc (c : List (List Int)) : ∀ (l x : List Int) (n : Int) {y : List Int}, braids c x l = some y → brOk c y n = true → braids c x (l ++ [n]) = some (braid c y n)
  | [], x, n, y, h, hn => by
    obtain rfl : x = y := by simpa [braids] using h
    simp [braids, hn]
  | t :: l, x, n, y, h, hn => by
    rw [List.cons_append, braids]
    rw [braids] at h
    by_cases ht : brOk c x t = true
    · rw [if_pos ht] at h ⊢
      exact braids_snoc c l _ n h hn
    · rw [if_neg ht] at h
      cases h

theorem bpIn_cons (c : List (List Int)) (q p : List Int) (S : Two) (t : Int) (l : List Int) : bpIn c q p S (t :: l) = bpIn c q p (bpStep c q p S t) l := rfl

/-- One word's moves, all of them. -/
theorem bpIn_found {c : List (List Int)} (hC : Cartan c) {n : Nat} {v a q p : List Int} (Pl : PlayL c n v) (hn : n ≤ 15) (hall : (spellW c n v).length ≤ 120) : ∀ (l : List Int) (Q P : List (List Int)), (∀ t ∈ l, ∃ k : Nat, t = k ∧ brOk c q k = true) → q ∈ Q → braids c a p = some q → Found c n v a Q → P.length = Q.length → (∀ i, i < Q.length → braids c a (P.getD i []) = some (Q.getD i [])) →
    ∃ X Y, bpIn c q p (Q, P) l = (Q ++ X, P ++ Y) ∧ Found c n v a (Q ++ X) ∧ (P ++ Y).length = (Q ++ X).length ∧ (∀ i, i < (Q ++ X).length → braids c a ((P ++ Y).getD i []) = some ((Q ++ X).getD i [])) ∧ ∀ t ∈ l, braid c q t ∈ Q ++ X
  | [], Q, P, _, _, _, F, h1, h2 => ⟨[], [], by simp [bpIn], by simpa using F, by simpa using h1, by simpa using h2, fun t ht => by cases ht⟩
  | t :: l, Q, P, hl, hq, hp, F, h1, h2 => by
    obtain ⟨k, rfl, hk⟩ := hl t (by simp)
    rw [bpIn_cons]
    by_cases hy : braid c q (k : Int) ∈ Q
    · rw [bpStep_old (fun e => e.1 hy)]
      obtain ⟨X, Y, g1, g2, g3, g4, g5⟩ := bpIn_found hC Pl hn hall l Q P (fun t ht => hl t (by simp [ht])) hq hp F h1 h2
      refine ⟨X, Y, g1, g2, g3, g4, fun t ht => ?_⟩
      rcases List.mem_cons.1 ht with rfl | ht
      · exact List.mem_append_left _ hy
      · exact g5 t ht
    · have F2 := F.step (by omega) hq hk hy
      have hle := F2.le hC Pl (by omega)
      rw [List.length_append, List.length_cons, List.length_nil] at hle
      rw [bpStep_new ⟨hy, by show Q.length < 120; omega⟩]
      obtain ⟨X, Y, g1, g2, g3, g4, g5⟩ := bpIn_found hC Pl hn hall l (Q ++ [braid c q (k : Int)]) (P ++ [p ++ [(k : Int)]]) (fun t ht => hl t (by simp [ht])) (List.mem_append_left _ hq) hp F2 (by simp [h1]) (fun i hi => by
        by_cases e : i < Q.length
        · rw [getD_app e, getD_app (by omega)]
          exact h2 i e
        · have ei : i = Q.length := by simp at hi; omega
          subst ei
          rw [getD_snoc, ← h1, getD_snoc]
          exact braids_snoc c p a k hp hk)
      rw [List.append_assoc, List.append_assoc] at g1
      rw [List.append_assoc] at g2 g5
      rw [List.append_assoc, List.append_assoc] at g3
      refine ⟨_, _, g1, g2, g3, fun i hi => ?_, fun t ht => ?_⟩
      · have := g4 i (by rw [List.append_assoc]; exact hi)
        rw [List.append_assoc, List.append_assoc] at this
        exact this
      · rcases List.mem_cons.1 ht with rfl | ht
        · exact List.mem_append_right _ (by simp)
        · exact g5 t ht

theorem bp_found {c : List (List Int)} (hC : Cartan c) {n : Nat} {v a b : List Int} (Pl : PlayL c n v) (hn : n ≤ 15) (ha : Red c n v a) (hb : Red c n v b) (hall : (spellW c n v).length ≤ 120) : ∀ (f k : Nat) (Q P : List (List Int)), k + f = 121 → k ≤ Q.length → Found c n v a Q → P.length = Q.length →
    (∀ i, i < Q.length → braids c a (P.getD i []) = some (Q.getD i [])) → (∀ j, j < k → ∀ t : Nat, brOk c (Q.getD j []) t = true → braid c (Q.getD j []) t ∈ Q) → (∀ j, j < k → Q.getD j [] ≠ b) → ∃ p, bpOut c b f k (Q, P) = (true, p) ∧ braids c a p = some b
  | 0, k, Q, P, hf, hk, F, _, _, _, _ => by
    have := F.le hC Pl (by omega)
    omega
  | f + 1, k, Q, P, hf, hk, F, h1, h2, hcl, hne => by
    by_cases hlt : k < Q.length
    rotate_left
    · exfalso
      have hin : b ∈ Q := conn_closed (fun q hq w hw => by
        obtain ⟨j, hj, rfl⟩ := mem_getD hq
        have R := F.red _ hq
        have hwd : isWord c (Q.getD j []) = true := by
          simp only [isWord, Bool.and_eq_true, decide_eq_true_eq]
          exact ⟨⟨(isCartan_iff c).2 hC, by rw [R.1]; exact hn⟩, R.2.1⟩
        obtain ⟨t, _, ht, e⟩ := braid_of_br hwd hw
        rw [← e]
        exact hcl j (by omega) t ht) F.head (conn_all hC n v Pl (by omega) a b ha hb)
      obtain ⟨j, hj, e⟩ := mem_getD hin
      exact hne j (by omega) e
    by_cases he : Q.getD k [] = b
    · refine ⟨P.getD k [], bpOut_hit (S := (Q, P)) hlt he, ?_⟩
      rw [← he]
      exact h2 k hlt
    · rw [bpOut_next (S := (Q, P)) hlt he]
      obtain ⟨X, Y, g1, g2, g3, g4, g5⟩ := bpIn_found hC Pl hn hall (q := Q.getD k []) (p := P.getD k []) (brTo c (Q.getD k []) (Q.getD k []).length) Q P (fun t ht => by
        obtain ⟨s, e, _, ok⟩ := mem_brTo.1 ht
        exact ⟨s, e, ok⟩) (getD_mem hlt) (h2 k hlt) F h1 h2
      have e : bpAll c (Q, P) k = (Q ++ X, P ++ Y) := g1
      rw [e]
      refine bp_found hC Pl hn ha hb hall f (k + 1) _ _ (by omega) (by rw [List.length_append]; omega) g2 g3 g4 (fun j hj t ht => ?_) (fun j hj => ?_)
      · rw [getD_app (by omega)] at ht ⊢
        by_cases ej : j = k
        · subst ej
          exact g5 t (mem_brTo.2 ⟨t, rfl, brOk_lt ht, ht⟩)
        · exact List.mem_append_left _ (hcl j (by omega) t ht)
      · rw [getD_app (by omega)]
        by_cases ej : j = k
        · subst ej; exact he
        · exact hne j (by omega)

end Go.Proofs.Ytjgnnjegaedinaa.Hx

namespace Go.Proofs.Ytjgnnjegaedinaa.Hx
open Go.RowKit
variable {dm : Bool}

theorem isRed_word {c : List (List Int)} {w : List Int} (h : isReduced c w = true) : isWord c w = true := by
  simp only [isReduced, Bool.and_eq_true] at h
  exact h.1

theorem At.ext' {h h' : Heap} {p c : H0} (H : At h p c) (E : Ext h h') : At h' p c := by
  obtain ⟨r, o, w, cs, e, hr, h1, h2⟩ := H
  exact ⟨r, o, w, cs, e, E.row hr, h1, h2⟩
theorem HLit.emptyF {z : Value} {h0 h : Heap} {K : HV → Heap → Prop} (F : Ext h0 h) (hK : ∀ h' y r, Ext h h' → Ext h0 h' → OwnR r h' y [] → h.length ≤ r → K (.s y) h') : HLit z 0 (some []) h K := HLit.empty (hK _ _ _ (Ext.push _ _) (F.pushed _) (OwnR.push h []) (Nat.le_refl _))
theorem HLit.oneF {z : Value} {v : Int} {h0 h : Heap} {K : HV → Heap → Prop} (F : Ext h0 h) (hK : ∀ h' y r, Ext h h' → Ext h0 h' → OwnR r h' y [v] → h.length ≤ r → K (.s y) h') : HLit z 1 (some [ci v]) h K := HLit.one (hK _ _ _ (Ext.push _ _) (F.pushed _) (OwnR.push h [v]) (Nat.le_refl _))

theorem Twin.start {h0 h : Heap} {x : H0} {a : List Int} (hx : Ints h x a) (E : Ext h0 h) : Twin h0.length h.length (h.length + 2) [a] [[]] (h ++ [.own [x]] ++ [.own []] ++ [.own [.sl (h ++ [Row.own [x]]).length 0 0]]) := by
  have hE := E.1
  have e1 : (h ++ [Row.own [x]] ++ [Row.own []] ++ [Row.own [.sl (h ++ [Row.own [x]]).length 0 0]])[h.length]? = some (.own [x]) := by
    rw [List.getElem?_append_left (by simp), List.getElem?_append_left (by simp)]
    exact get_new h _
  have e2 : (h ++ [Row.own [x]] ++ [Row.own []] ++ [Row.own [.sl (h ++ [Row.own [x]]).length 0 0]])[h.length + 2]? = some (.own [.sl (h ++ [Row.own [x]]).length 0 0]) := by
    rw [List.getElem?_append_right (by simp)]
    simp
  have e3 : OwnR (h ++ [Row.own [x]]).length (h ++ [Row.own [x]] ++ [Row.own []] ++ [Row.own [.sl (h ++ [Row.own [x]]).length 0 0]]) (.sl (h ++ [Row.own [x]]).length 0 0) [] := (OwnR.push (h ++ [Row.own [x]]) []).ext (Ext.push _ _)
  refine ⟨⟨[x], e1, by simp, fun i hi => ?_⟩, ⟨_, e2, by simp, fun i hi => ?_⟩, by omega, by omega, by omega⟩
  · have : i = 0 := by simp at hi; omega
    subst this
    refine ⟨x, rfl, fun h' k => ?_⟩
    have : Ext h h' := ⟨by have := k.1; simp at this; omega, fun q hq => by
      rw [k.2 q (by simp; omega) (by omega), List.getElem?_append_left (by simp; omega), List.getElem?_append_left (by simp; omega), List.getElem?_append_left hq]⟩
    exact hx.ext this
  · have : i = 0 := by simp at hi; omega
    subst this
    refine ⟨_, rfl, e3.stays ?_⟩
    simp


set_option maxHeartbeats 2000000 in
theorem spec_BraidPath (h : Heap) (x0 : H0) (a0 : List (List Int)) (x1 : H0) (a1 : List Int) (x2 : H0) (a2 : List Int) (hx0 : Rows h x0 a0) (hx1 : Ints h x1 a1) (hx2 : Ints h x2 a2) (s0 : a0.length ≤ 1048576 ∧ tot a0 ≤ 1048576) (s1 : a1.length ≤ 1048576) (s2 : a2.length ≤ 1048576) :
    HCalls dm Try.prog 19 [.s x0, .s x1, .s x2] h (fun r h' => ∃ y, r = T2 y (bpOk a0 a1 a2) ∧ Fresh h h' y (bpPath a0 a1 a2)) := by
  obtain ⟨V, hV⟩ : ∃ V, V = bpOk a0 a1 a2 := ⟨_, rfl⟩
  obtain ⟨W, hW⟩ : ∃ W, W = bpPath a0 a1 a2 := ⟨_, rfl⟩
  rw [← hV, ← hW]
  refine calls_of_hFun (m := 0) kd_ok mixed Try.func19 rfl (by kernel_rfl) rfl rfl (of_decide_eq_true rfl) ?_; unfold hFun; (conv => whnf)
  have bad : ∀ h2, Ext h h2 → bpOk a0 a1 a2 = false ∧ bpPath a0 a1 a2 = [] → V = false ∧ Fresh h (h2 ++ [Row.own []]) (.sl h2.length 0 0) W := fun h2 E hb => by
    rw [hV, hW, hb.1, hb.2]
    exact ⟨rfl, Fresh.of (E.trans (Ext.push _ _)) ((OwnR.push h2 []).own E.1)⟩
  refine (spec_IsReduced _ _ a0 _ a1 hx0 hx1 s0 s1).mono ?_
  rintro r h1 ⟨rfl, E1⟩
  cases hr1 : isReduced a0 a1
  · obtain ⟨g1, g2⟩ := bad h1 E1 (bp_off fun k => by rw [hr1] at k; cases k.1)
    subst g1
    (conv => whnf)
    (repeat (first | (refine HIf.yes ?_; conv => whnf) | (refine HIf.no ?_; conv => whnf)))
    refine HLit.empty ?_
    (conv => whnf)
    exact ⟨_, rfl, g2⟩
  (conv => whnf)
  (repeat (first | (refine HIf.yes ?_; conv => whnf) | (refine HIf.no ?_; conv => whnf)))
  refine (spec_IsReduced _ _ a0 _ a2 (hx0.ext E1) (hx2.ext E1) s0 s2).mono ?_
  rintro r h2 ⟨rfl, E2⟩
  replace E2 := E1.trans E2
  cases hr2 : isReduced a0 a2
  · obtain ⟨g1, g2⟩ := bad h2 E2 (bp_off fun k => by rw [hr2] at k; cases k.2)
    subst g1
    (conv => whnf)
    (repeat (first | (refine HIf.yes ?_; conv => whnf) | (refine HIf.no ?_; conv => whnf)))
    refine HLit.empty ?_
    (conv => whnf)
    exact ⟨_, rfl, g2⟩
  have hw1 := isRed_word hr1
  obtain ⟨hC, hl1, hle1⟩ := word_cartan hw1
  have hres : ∀ {r : Bool × List Int}, bpOut a0 a2 121 0 ([a1], [[]]) = r → V = r.1 ∧ W = r.2 := fun {r} e => by
    rw [hV, hW]
    exact bp_on hr1 hr2 e
  (conv => whnf)
  (repeat (first | (refine HIf.yes ?_; conv => whnf) | (refine HIf.no ?_; conv => whnf)))
  have hx12 := hx1.ext E2
  refine HLit.row hx12.one ?_
  (conv => whnf)
  refine HLit.empty ?_
  (conv => whnf)
  refine HLit.row rfl ?_
  (conv => whnf)
  have T0 := Twin.start hx12 E2
  have B0 := BpS.start a0 a1 hle1
  have elen : (h2 ++ [Row.own [x1]] ++ [Row.own []]).length = h2.length + 2 := by simp
  rw [elen]
  refine HLoop.intro [10, 8, 9] [30, 31, 32, 33, 36, 37, 38, 39, 40, 41, 42, 43, 44, 45, 46, 47, 6, 7, 48, 49, 50, 51, 52, 53, 11, 12, 54, 55, 56, 57, 61, 62, 63, 64, 65, 66, 67, 68, 69, 70, 60, 71, 72, 13, 14, 73, 74, 75, 76, 77, 78, 79, 80, 81, 82, 83, 84, 85, 8, 86, 87, 88, 89, 90, 91, 92, 93, 94, 95, 96, 97, 98, 99, 100, 9, 58, 59, 12, 34, 35, 10] (by kernel_rfl) (by kernel_rfl) (fun vs h' => ∃ (k r r' : Nat) (Q P : List (List Int)), vs = [I k, .s (.sl r 0 Q.length), .s (.sl r' 0 P.length)] ∧ k ≤ Q.length ∧ Ext h h' ∧ Twin h.length r r' Q P h' ∧ BpS a0 a1.length (imageOf a0 a1) Q P ∧ bpOut a0 a2 (121 - k) k (Q, P) = bpOut a0 a2 121 0 ([a1], [[]])) (fun vs _ => 121 - natAt vs 0) ⟨0, _, _, [a1], [[]], rfl, by omega, ((E2.pushed _).pushed _).pushed _, T0, B0, rfl⟩ ?_
  clear T0 B0 elen hx12 E2 E1
  rintro vs h' ⟨k, r, r', Q, P, rfl, hk, E, T, S, hout⟩
  have hfew := S.few
  have hPl := S.len
  (conv => whnf)
  refine ⟨rfl, T.q.rows.len ?_⟩
  (conv => whnf)
  refine HIf.dec (fun hlt => ?_) (fun hge => ?_)
  rotate_left
  · (conv => whnf)
    obtain ⟨g1, g2⟩ := hres (r := (false, [])) (by rw [← hout]; exact bpOut_end (by show ¬ k < Q.length; omega))
    subst g1 g2
    refine HLit.empty ?_
    (conv => whnf)
    exact ⟨_, rfl, Fresh.of (E.trans (Ext.push _ _)) ((OwnR.push h' []).own E.1)⟩
  have hkl : k < Q.length := by omega
  have hkp : k < P.length := by omega
  have hRq := S.red _ (getD_mem hkl)
  have hql : (Q.getD k []).length ≤ 15 := by rw [hRq.1]; exact hl1
  have hpl120 := S.path k hkp
  have efu : 121 - k = (121 - (k + 1)) + 1 := by omega
  rw [efu] at hout
  (conv => whnf)
  refine ⟨rfl, Rows.idxN T.q.rows hkl (fun p y hp hy => ?_)⟩
  (conv => whnf)
  refine ⟨rfl, hp.load ?_⟩
  (conv => whnf)
  refine (spec_EqualWords _ _ _ _ a2 hy (hx2.ext E) (by omega)).mono ?_
  rintro v h3 ⟨rfl, hh⟩
  subst h3
  (conv => whnf)
  refine HIf.dec (fun he => ?_) (fun hne => ?_)
  · (conv => whnf)
    obtain ⟨g1, g2⟩ := hres (r := (true, P.getD k [])) (by rw [← hout]; exact bpOut_hit hkl he)
    subst g1 g2
    refine HLit.empty ?_
    (conv => whnf)
    refine ⟨rfl, Rows.idxN (T.ext (Ext.push _ _)).p.rows hkp (fun p2 y2 hp2 hy2 => ?_)⟩
    (conv => whnf)
    refine ⟨rfl, hp2.load ?_⟩
    (conv => whnf)
    refine ⟨rfl, rfl, HApp.moreR (OwnR.push h' []) hy2 (by rw [List.length_nil]; omega) (fun h4 r4 y4 B4 hr4 O4 => ?_)⟩
    rw [List.nil_append] at O4
    have F4 : Ext h' h4 := (Ext.push h' [Row.own []]).but B4 (Nat.le_refl _)
    have u1 := E.1
    simp only [List.length_append, List.length_cons, List.length_nil] at hr4
    (conv => whnf)
    exact ⟨_, rfl, Fresh.of (E.trans F4) (O4.own (by omega))⟩
  (conv => whnf)
  refine ⟨rfl, Rows.idxN T.q.rows hkl (fun p2 y2 hp2 hy2 => ?_)⟩
  (conv => whnf)
  refine ⟨rfl, hp2.load ?_⟩
  (conv => whnf)
  refine (spec_BraidPlaces _ _ a0 _ _ (hx0.ext E) hy2 s0 (by omega)).mono ?_
  rintro rr h3 ⟨y3, rfl, f3⟩
  obtain ⟨rp, hrp, Op⟩ := f3.row
  have E3 := E.trans f3.1
  have T3 := T.ext f3.1
  have hlt3 := T.lt
  have hpl := brTo_le a0 (Q.getD k []) (Q.getD k []).length
  have hmem : ∀ i : Int, i ∈ brTo a0 (Q.getD k []) (Q.getD k []).length → ∃ t : Nat, i = t ∧ t < (Q.getD k []).length ∧ brOk a0 (Q.getD k []) t = true := fun i hi => mem_brTo.1 hi
  have hnext := bpOut_next (f := 121 - (k + 1)) (b := a2) (c := a0) (S := (Q, P)) hkl hne
  have hall : bpAll a0 (Q, P) k = bpIn a0 (Q.getD k []) (P.getD k []) (Q, P) (brTo a0 (Q.getD k []) (Q.getD k []).length) := rfl
  rw [hall] at hnext
  clear hall
  generalize brTo a0 (Q.getD k []) (Q.getD k []).length = pl at *
  generalize hq : Q.getD k [] = q at *
  generalize hpk : P.getD k [] = pk at *
  clear hy hy2 hp hp2
  (conv => whnf)
  refine HLoop.intro [12, 8, 9] [54, 55, 56, 57, 61, 62, 63, 64, 65, 66, 67, 68, 69, 70, 60, 71, 72, 13, 14, 73, 74, 75, 76, 77, 78, 79, 80, 81, 82, 83, 84, 85, 8, 86, 87, 88, 89, 90, 91, 92, 93, 94, 95, 96, 97, 98, 99, 100, 9, 58, 59, 12] (by kernel_rfl) (by kernel_rfl) (fun vs h'' => ∃ (n r r' : Nat) (Q' P' : List (List Int)), vs = [I n, .s (.sl r 0 Q'.length), .s (.sl r' 0 P'.length)] ∧ n ≤ pl.length ∧ Ext h h'' ∧ Twin h.length r r' Q' P' h'' ∧ BpS a0 a1.length (imageOf a0 a1) Q' P' ∧ OwnR rp h'' y3 pl ∧ rp ≠ r ∧ rp ≠ r' ∧ (Q', P') = bpIn a0 q pk (Q, P) (pl.take n) ∧ k < Q'.length ∧ Q'.getD k [] = q ∧ P'.getD k [] = pk) (fun vs _ => pl.length - natAt vs 0) ⟨0, r, r', Q, P, rfl, by omega, E3, T3, S, Op, by omega, by omega, rfl, hkl, hq, hpk⟩ ?_
  clear E3 T3 S Op hrp f3 T E hlt3 hkl hkp hq hpk
  rintro vs h4 ⟨n, r, r', Q', P', rfl, hn, E, T, S, Op, hrp1, hrp2, hstate, hkl, hq, hpk⟩
  have hfew' := S.few
  have hPl' := S.len
  (conv => whnf)
  refine ⟨rfl, Op.ints.len ?_⟩
  (conv => whnf)
  refine HIf.dec (fun hlt2 => ?_) (fun hge2 => ?_)
  rotate_left
  · have en : n = pl.length := by omega
    subst en
    rw [List.take_length] at hstate
    (conv => whnf)
    refine HArith.fits (by omega) (by omega) ?_
    (conv => whnf)
    exact ⟨⟨k + 1, r, r', Q', P', rfl, by omega, E, T, S, by rw [hstate, ← hnext]; exact hout⟩, by show 121 - (k + 1) < 121 - k; omega⟩
  have hnl : n < pl.length := by omega
  have hin : pl.getD n 0 ∈ pl := by
    have e : pl.getD n 0 = pl[n] := by simp [List.getD, hnl]
    rw [e]
    exact List.getElem_mem hnl
  obtain ⟨t, et, htq, htok⟩ := hmem _ hin
  have hbS : Q'.length ≤ 1048576 ∧ tot Q' ≤ 1048576 := by
    have u2 := tot_le 15 Q' fun l hl => by
      have u3 := (S.red l hl).1
      omega
    omega
  have htake : (Q', P').1.length = Q'.length := rfl
  have hsn := take_snoc' hnl
  rw [et] at hsn
  (conv => whnf)
  refine Or.inr (Or.inr (Or.inl (Exists.intro 15 (Exists.intro [0, 1, 2, 3, 4, 5, 6, 7, 8] (Exists.intro [9, 10, 11, 12, 13, 14] (And.intro (show heldOk _ _ _ _ = true by kernel_rfl) ?_)))))); (conv => whnf)
  refine ⟨rfl, Rows.idxN T.q.rows hkl (fun p2 y2 hp2 hy2 => ?_)⟩
  rw [hq] at hy2
  (conv => whnf)
  refine ⟨rfl, hp2.load ?_⟩
  (conv => whnf)
  refine ⟨rfl, Ints.idxN Op.ints hnl (fun p5 hp5 => ?_)⟩
  rw [et] at hp5
  (conv => whnf)
  refine ⟨rfl, hp5.load ?_⟩
  (conv => whnf)
  refine HCallF.tupF (spec_BraidAt0 _ _ a0 _ q (t : Int) (hx0.ext E).frz hy2.frz s0 (by omega)) (fun h5 y5 f5 => ?_)
  obtain ⟨r5, hr5, O5⟩ := f5.row
  have E5 := E.trans f5.1
  have hE5 := f5.1.1
  have hlt4 := T.lt
  have hoplt4 := Op.lt
  have T5 := T.ext f5.1
  have Op5 := Op.ext f5.1
  clear hy2 hp2 hp5
  (conv => whnf)
  refine (spec_l7In _ _ Q' _ _ T5.q.rows f5.ints hbS).mono ?_
  rintro rr h6 ⟨rfl, hh⟩
  subst h6
  have same : ¬ (braid a0 q (t : Int) ∉ Q' ∧ Q'.length < 120) → ∃ (n_1 r_1 r'_1 : Nat) (Q'_1 P'_1 : List (List Int)), [I ((n : Int) + 1), .s (.sl r 0 Q'.length), .s (.sl r' 0 P'.length)] = [I n_1, .s (.sl r_1 0 Q'_1.length), .s (.sl r'_1 0 P'_1.length)] ∧ n_1 ≤ pl.length ∧ Ext h h5 ∧ Twin h.length r_1 r'_1 Q'_1 P'_1 h5 ∧ BpS a0 a1.length (imageOf a0 a1) Q'_1 P'_1 ∧ OwnR rp h5 y3 pl ∧ rp ≠ r_1 ∧ rp ≠ r'_1 ∧ (Q'_1, P'_1) = bpIn a0 q pk (Q, P) (pl.take n_1) ∧ k < Q'_1.length ∧ Q'_1.getD k [] = q ∧ P'_1.getD k [] = pk := fun hno =>
    ⟨n + 1, r, r', Q', P', rfl, by omega, E5, T5, S, Op5, hrp1, hrp2, by rw [hsn, bpIn_snoc, ← hstate, bpStep_old hno], hkl, hq, hpk⟩
  by_cases hold : braid a0 q (t : Int) ∈ Q'
  · (conv => whnf)
    (repeat (first | (refine HIf.bnot (HIf.decT hold ?_); conv => whnf) | (refine HIf.no ?_; conv => whnf)))
    refine HArith.fits (by omega) (by omega) ?_
    (conv => whnf)
    exact ⟨same fun k => k.1 hold, by show pl.length - (n + 1) < pl.length - n; omega⟩
  (conv => whnf)
  (repeat (refine HIf.bnot (HIf.decF hold ?_); conv => whnf))
  refine ⟨rfl, T5.q.rows.len ?_⟩
  (conv => whnf)
  refine HIf.bnot (HIf.decF hold ?_)
  (conv => whnf)
  refine HIf.bnot (HIf.decF hold ?_)
  (conv => whnf)
  refine HIf.dec (fun hroom => ?_) (fun hfull => ?_)
  rotate_left
  · (conv => whnf)
    refine HArith.fits (by omega) (by omega) ?_
    (conv => whnf)
    exact ⟨same fun k => by omega, by show pl.length - (n + 1) < pl.length - n; omega⟩
  have hroom' : Q'.length < 120 := by omega
  have S2 := S.step (t := t) (by omega) hkl (by rw [hq]; exact htok) hroom'
  rw [hq, hpk] at S2
  (conv => whnf)
  refine HLit.row f5.own.one ?_
  (conv => whnf)
  refine ⟨rfl, rfl, HApp.twin T5 f5.own.one (O5.stays (by omega)) (by omega) (fun h7 r7 k7 hr7 T7 => ?_)⟩
  have E7 : Ext h h7 := k7.ext (fun q e => by have u4 := T.low; omega) E5
  have Op7 := Op5.keep k7 hrp1
  have hk7 := k7.1
  have hkp7 : k < P'.length := by omega
  have hpk120 : pk.length ≤ 1048576 := by omega
  (conv => whnf)
  have F := Ext.refl h7
  refine Or.inr (Or.inr (Or.inr (Exists.intro [0, 2, 3, 4, 7, 8, 9] (Exists.intro (Tr.three 1 (Tr.two 5 (Tr.two 6 (Tr.one 10 (Tr.one 11 (Tr.one 12 (Tr.one 13 (Tr.one 14 (Tr.one 15 Tr.done)))))) 10 (Tr.two 6 (Tr.one 11 (Tr.one 12 (Tr.one 13 (Tr.one 14 (Tr.one 15 Tr.done))))) 11 (Tr.one 6 (Tr.one 12 (Tr.one 13 (Tr.one 14 (Tr.one 15 Tr.done))))))) 10 (Tr.two 5 (Tr.two 6 (Tr.one 11 (Tr.one 12 (Tr.one 13 (Tr.one 14 (Tr.one 15 Tr.done))))) 11 (Tr.one 6 (Tr.one 12 (Tr.one 13 (Tr.one 14 (Tr.one 15 Tr.done)))))) 11 (Tr.one 5 (Tr.one 6 (Tr.one 12 (Tr.one 13 (Tr.one 14 (Tr.one 15 Tr.done)))))))) 5 (Tr.two 1 (Tr.two 6 (Tr.one 10 (Tr.one 11 (Tr.one 12 (Tr.one 13 (Tr.one 14 (Tr.one 15 Tr.done)))))) 10 (Tr.two 6 (Tr.one 11 (Tr.one 12 (Tr.one 13 (Tr.one 14 (Tr.one 15 Tr.done))))) 11 (Tr.one 6 (Tr.one 12 (Tr.one 13 (Tr.one 14 (Tr.one 15 Tr.done))))))) 10 (Tr.two 1 (Tr.two 6 (Tr.one 11 (Tr.one 12 (Tr.one 13 (Tr.one 14 (Tr.one 15 Tr.done))))) 11 (Tr.one 6 (Tr.one 12 (Tr.one 13 (Tr.one 14 (Tr.one 15 Tr.done)))))) 11 (Tr.one 1 (Tr.one 6 (Tr.one 12 (Tr.one 13 (Tr.one 14 (Tr.one 15 Tr.done)))))))) 10 (Tr.three 1 (Tr.two 5 (Tr.two 6 (Tr.one 11 (Tr.one 12 (Tr.one 13 (Tr.one 14 (Tr.one 15 Tr.done))))) 11 (Tr.one 6 (Tr.one 12 (Tr.one 13 (Tr.one 14 (Tr.one 15 Tr.done)))))) 11 (Tr.one 5 (Tr.one 6 (Tr.one 12 (Tr.one 13 (Tr.one 14 (Tr.one 15 Tr.done))))))) 5 (Tr.two 1 (Tr.two 6 (Tr.one 11 (Tr.one 12 (Tr.one 13 (Tr.one 14 (Tr.one 15 Tr.done))))) 11 (Tr.one 6 (Tr.one 12 (Tr.one 13 (Tr.one 14 (Tr.one 15 Tr.done)))))) 11 (Tr.one 1 (Tr.one 6 (Tr.one 12 (Tr.one 13 (Tr.one 14 (Tr.one 15 Tr.done))))))) 11 (Tr.two 1 (Tr.one 5 (Tr.one 6 (Tr.one 12 (Tr.one 13 (Tr.one 14 (Tr.one 15 Tr.done)))))) 5 (Tr.one 1 (Tr.one 6 (Tr.one 12 (Tr.one 13 (Tr.one 14 (Tr.one 15 Tr.done))))))))) (And.intro (show treeAll _ _ _ = true by kernel_rfl) ?_))))); (conv => whnf)
  refine ⟨rfl, Rows.idxN T7.p.rows hkp7 (fun p8 y8 hp8 hy8 => ?_)⟩
  rw [hpk] at hy8
  (conv => whnf)
  refine ⟨rfl, Ints.idxN Op7.ints hnl (fun p9 hp9 => ?_)⟩
  rw [et] at hp9
  (conv => whnf)
  (repeat' (first
    | (refine ⟨rfl, (hp8.ext' F).load ?_⟩; (conv => whnf))
    | (refine ⟨rfl, (hp9.ext' F).load ?_⟩; (conv => whnf))
    | (refine HLit.emptyF F (fun hc1 y1 r1 G1 F1 O1 g1 => ?_); (try (have n1 : r11 ≠ r1 := by have := O11.lt; omega)); (try replace O11 := O11.ext G1); replace g1 : h7.length ≤ r1 := Nat.le_trans F.1 g1; replace F := F1; (conv => whnf))
    | (refine HLit.oneF F (fun hc2 y11 r11 G11 F11 O11 g11 => ?_); (try (have n1 : r11 ≠ r1 := by have := O1.lt; omega)); (try replace O1 := O1.ext G11); (try replace O6 := O6.ext G11); replace F := F11; (conv => whnf))
    | (refine ⟨rfl, rfl, HApp.moreR O1 (hy8.ext F) (by rw [List.length_nil]; omega) (fun hc3 r6 y6 B6 g6 O6 => ?_)⟩; rw [List.nil_append] at O6; replace g6 : h7.length ≤ r6 := Nat.le_trans F.1 g6; (try replace O11 := O11.but B6 n1); replace F := F.but B6 g1; (conv => whnf))
    | (refine ⟨rfl, rfl, HApp.moreR O6 O11.ints (by rw [List.length_cons, List.length_nil]; omega) (fun h9 r9 y9 B9 g9 O9 => ?_)⟩; replace g9 : h7.length ≤ r9 := Nat.le_trans F.1 g9; have F9 := F.but B9 g6; (conv => whnf))
    | (refine And.intro ?_ ?_ <;> (conv => whnf))))
  all_goals
    have hl9 := F9.1
    have T9 := (T7.ext F9).swap
    have hlt9 := T7.lt
    (conv => whnf)
    refine HLit.row (O9.own (Nat.zero_le _)).one ?_
    (conv => whnf)
    refine ⟨rfl, rfl, HApp.twin T9 (O9.own (Nat.zero_le _)).one (O9.stays (by omega)) (by omega) (fun h10 r10 k10 hr10 T10 => ?_)⟩
    have E10 : Ext h h10 := k10.ext (fun q e => by have u5 := T.low; omega) (E7.trans F9)
    have Op10 := (Op7.ext F9).keep k10 hrp2
    have hoplt := Op7.lt
    (conv => whnf)
    refine HArith.fits (by omega) (by omega) ?_
    (conv => whnf)
    refine ⟨⟨n + 1, r7, r10, _, _, rfl, by omega, E10, T10.swap, S2, Op10, by omega, by omega, ?_, by rw [List.length_append]; omega, ?_, ?_⟩, by show pl.length - (n + 1) < pl.length - n; omega⟩
    · rw [hsn, bpIn_snoc, ← hstate, bpStep_new ⟨hold, hroom'⟩]
    · rw [getD_app hkl]
      exact hq
    · rw [getD_app hkp7]
      exact hpk

end Go.Proofs.Ytjgnnjegaedinaa.Hx

namespace Go.Proofs.Ytjgnnjegaedinaa.Hx
open Go.RowKit
variable {dm : Bool}

theorem HLitW.one' {k : Nat} {xs : List H0} {h : Heap} {K : HV → Heap → Prop} (hk : k ≤ 4096) (hl : xs.length = k) (h1 : ∀ c ∈ xs, c.one = true) (hK : K (.s (.sw k h.length 0 1)) (h ++ [.own xs])) : HLitW k 1 (some [xs]) h K :=
  ⟨hk, [xs], rfl, rfl, by omega, fun c hc => by
    obtain rfl : c = xs := by simpa using hc
    exact ⟨hl, h1⟩, by simpa using hK⟩
theorem HAppW.snoc' {k r len q : Nat} {cs xs : List H0} {h : Heap} {K : HV → Heap → Prop} (hr : h[r]? = some (.own cs)) (hcs : cs.length = k * len) (hq : h[q]? = some (.own xs)) (hx : xs.length = k) (hone : ∀ c ∈ xs, c.one = true) (hlen : len ≤ 1048576)
    (hK : K (.s (.sw k h.length 0 (len + 1))) (h.set r .gone ++ [.own (cs ++ xs)])) : HAppW k h (.s (.sw k r 0 len)) (.s (.sw k q 0 1)) K := by
  have hs : ShowsW k h (.s (.sw k q 0 1)) 1 xs := by
    have := ShowsW.own (k := k) q 0 1 xs hq (by omega)
    have e : (xs.drop 0).take (k * 1) = xs := by rw [List.drop_zero, Nat.mul_one, ← hx, List.take_length]
    rwa [e] at this
  refine ⟨1, xs, r, len, cs, hs, by omega, hone, rfl, hr, by omega, by omega, ?_⟩
  have e : cs.take (k * len) = cs := by rw [← hcs, List.take_length]
  rw [e]
  exact hK
theorem HIdxW.at' {n r off len : Nat} {j : Int} {k : IntKind} {K : HV → Prop} (h0 : 0 ≤ j) (h1 : j < len) (hK : K (.s (.ptr r (off + n * j.toNat)))) : HIdxW n (.s (.sw n r off len)) (.s (.pl (.int k j))) K := ⟨r, off, len, k, j, rfl, rfl, h0, h1, hK⟩
theorem HField.at2 {n r o f : Nat} {K : HV → Prop} (h : f < n) (hK : K (.s (.ptr r (o + f)))) : HField n (.s (.ptr r o)) f K := ⟨r, o, rfl, h, hK⟩
theorem HLenW.at' {k r off n : Nat} {K : HV → Prop} (hK : K (I n)) : HLenW (.s (.sw k r off n)) K := ⟨k, r, off, n, rfl, hK⟩

theorem HApp.rawS' {h : Heap} {r q n : Nat} {cs : List H0} {y : H0} {K : HV → Heap → Prop} (hr : h[r]? = some (.own cs)) (hq : h[q]? = some (.own [y])) (hn : cs.length = n) (h1 : y.one = true) (hl : n ≤ 1048576) (hK : K (.s (.sl h.length 0 (n + 1))) (h.set r .gone ++ [.own (cs ++ [y])])) : HApp h (.s (.sl r 0 n)) (.s (.sl q 0 1)) K := by
  have hs : Shows h (.s (.sl q 0 1)) [y] := Shows.own q 0 1 [y] hq (by simp)
  refine ⟨[y], hs, fun c hc => ?_, cs, rfl, hr, by omega, Or.inl ⟨by simp; omega, ?_⟩⟩
  · obtain rfl : c = y := by simpa using hc
    exact h1
  · have e : cs.take n = cs := by rw [← hn, List.take_length]
    rw [e]
    exact hK

/-! ### A word's text -/

def fb (i : Int) : UInt8 := if i = 0 then 49 else if i = 1 then 50 else if i = 2 then 51 else 52
def bc (b : UInt8) : H0 := .pl (.int .u8 (b.toNat : Int))
def fmtW (w : List Int) : ByteArray := if w.length = 0 then ⟨[(101 : UInt8)].toArray⟩ else ⟨(w.map fb).toArray⟩
def Small4 (w : List Int) : Prop := ∀ i ∈ w, 0 ≤ i ∧ i < 4

theorem fb_wrap {i : Int} (h : 0 ≤ i ∧ i < 4) : IntKind.u8.wrap (49 + i) = ((fb i).toNat : Int) := by
  have : i = 0 ∨ i = 1 ∨ i = 2 ∨ i = 3 := by omega
  rcases this with rfl | rfl | rfl | rfl <;> decide
theorem fb_inj {i j : Int} (h : 0 ≤ i ∧ i < 4) (h2 : 0 ≤ j ∧ j < 4) (e : fb i = fb j) : i = j := by
  have a : i = 0 ∨ i = 1 ∨ i = 2 ∨ i = 3 := by omega
  have b : j = 0 ∨ j = 1 ∨ j = 2 ∨ j = 3 := by omega
  rcases a with rfl | rfl | rfl | rfl <;> rcases b with rfl | rfl | rfl | rfl <;> first | rfl | (exact absurd e (by decide))
theorem fb_ne {i : Int} (h : 0 ≤ i ∧ i < 4) : fb i ≠ 101 := by
  have : i = 0 ∨ i = 1 ∨ i = 2 ∨ i = 3 := by omega
  rcases this with rfl | rfl | rfl | rfl <;> decide
theorem map_fb_inj : ∀ {a b : List Int}, Small4 a → Small4 b → a.map fb = b.map fb → a = b
  | [], [], _, _, _ => rfl
  | [], _ :: _, _, _, e => by simp at e
  | _ :: _, [], _, _, e => by simp at e
  | x :: a, y :: b, ha, hb, e => by
    simp only [List.map_cons, List.cons.injEq] at e
    rw [fb_inj (ha x (by simp)) (hb y (by simp)) e.1, map_fb_inj (fun i hi => ha i (by simp [hi])) (fun i hi => hb i (by simp [hi])) e.2]
theorem fmtW_inj {a b : List Int} (ha : Small4 a) (hb : Small4 b) (hl : a.length = b.length) (e : fmtW a = fmtW b) : a = b := by
  unfold fmtW at e
  by_cases h0 : a.length = 0
  · have h1 : b.length = 0 := by omega
    rw [List.length_eq_zero_iff.1 h0, List.length_eq_zero_iff.1 h1]
  · rw [if_neg h0, if_neg (by omega)] at e
    have e2 := congrArg ByteArray.data e
    have e3 := congrArg Array.toList e2
    simp only at e3
    exact map_fb_inj ha hb e3

theorem small4 {c : List (List Int)} {n : Nat} {v w : List Int} (hC : Cartan c) (h : Red c n v w) : Small4 w := fun i hi => by
  have h2 := h.2.1
  have h4 := hC.le
  simp only [lettersOk, List.all_eq_true] at h2
  have := point_of (h2 i hi)
  omega


theorem impl_FormatWord (h : Heap) (x : H0) (w : List Int) (hx : Ints h x w) (hw : Small4 w) (hl : w.length ≤ 1048576) :
    HCalls dm Try.prog 59 [.s x] h (fun r h' => r = .s (.pl (.string (fmtW w))) ∧ Ext h h') := by
  refine calls_of_hFun (m := 0) kd_ok mixed Try.func59 rfl (by kernel_rfl) rfl rfl (of_decide_eq_true rfl) ?_; unfold hFun; (conv => whnf)
  refine ⟨rfl, hx.len ?_⟩
  (conv => whnf)
  refine HIf.beq (fun h0 => ?_) (fun h0 => ?_)
  · (conv => whnf)
    exact ⟨by rw [fmtW, if_pos (by omega)]; rfl, Ext.refl _⟩
  (conv => whnf)
  refine HLit.empty ?_
  (conv => whnf)
  refine ⟨rfl, hx.len ?_⟩
  (conv => whnf)
  refine HLoop.intro [12, 3] [13, 14, 15, 5, 16, 17, 18, 19, 20, 21, 2, 22, 23, 24, 25, 26, 27, 3, 28, 12] (by kernel_rfl) (by kernel_rfl) (fun vs h' => ∃ (k r : Nat) (cs : List H0), vs = [I k, .s (.sl r 0 k)] ∧ k ≤ w.length ∧ Ext h h' ∧ h.length ≤ r ∧ h'[r]? = some (.own cs) ∧ cs = (w.take k).map fun i => bc (fb i)) (fun vs _ => w.length - natAt vs 0) ⟨0, _, _, rfl, by omega, Ext.push _ _, Nat.le_refl _, get_new _ _, by simp⟩ ?_
  rintro vs h' ⟨k, r, cs, rfl, hk, E, hr, hcs, hcl⟩
  have hx1 := hx.ext E
  (conv => whnf)
  refine HIf.dec (fun hlt => ?_) (fun hge => ?_)
  · have hkl : k < w.length := by omega
    have hin : w.getD k 0 ∈ w := by
      have e : w.getD k 0 = w[k] := by simp [List.getD, hkl]
      rw [e]
      exact List.getElem_mem hkl
    have hwi := hw _ hin
    have hwr := fb_wrap hwi
    have htk := take_snoc' hkl
    generalize hgi : w.getD k 0 = i at *
    (conv => whnf)
    refine ⟨rfl, hx1.idxN hkl (fun p hp => ?_)⟩
    rw [hgi] at hp
    (conv => whnf)
    refine ⟨rfl, hp.load ?_⟩
    (conv => whnf)
    have c1 : ¬ i < 0 := by omega
    have c2 : ¬ i ≥ 4 := by omega
    refine HIf.decF c1 ?_
    (conv => whnf)
    refine HIf.decF c1 ?_
    (conv => whnf)
    refine HIf.decF c1 ?_
    (conv => whnf)
    refine HIf.decF c2 ?_
    (conv => whnf)
    refine HArith.fits (by omega) (by omega) ?_
    (conv => whnf)
    refine ⟨.i64, _, rfl, ?_⟩
    rw [hwr]
    (conv => whnf)
    refine HLit.row (y := bc (fb i)) rfl ?_
    (conv => whnf)
    have hrl := get_lt hcs
    have hkcs : cs.length = k := by rw [hcl, List.length_map, List.length_take]; omega
    refine ⟨rfl, rfl, HApp.rawS' (y := bc (fb i)) (by rw [List.getElem?_append_left hrl]; exact hcs) (get_new _ _) hkcs rfl (by omega) ?_⟩
    have hE := E.1
    have E2 : Ext h ((h' ++ [Row.own [bc (fb i)]]).set r Row.gone ++ [Row.own (cs ++ [bc (fb i)])]) := ⟨by simp; omega, fun z hz => by
      rw [List.getElem?_append_left (by simp; omega), List.getElem?_set_ne (by omega), List.getElem?_append_left (by omega)]
      exact E.2 z hz⟩
    have hnew := get_new ((h' ++ [Row.own [bc (fb i)]]).set r Row.gone) (Row.own (cs ++ [bc (fb i)]))
    rw [List.length_set] at hnew
    have hnl : h.length ≤ (h' ++ [Row.own [bc (fb i)]]).length := by simp; omega
    generalize (h' ++ [Row.own [bc (fb i)]]).length = N at *
    generalize (h' ++ [Row.own [bc (fb i)]]).set r Row.gone ++ [Row.own (cs ++ [bc (fb i)])] = h2 at *
    (conv => whnf)
    refine HArith.fits (by omega) (by omega) ?_
    (conv => whnf)
    exact ⟨⟨k + 1, N, _, rfl, by omega, E2, hnl, hnew, by rw [htk, List.map_append, hcl]; rfl⟩, by show w.length - (k + 1) < w.length - k; omega⟩
  · have ek : k = w.length := by omega
    subst ek
    rw [List.take_length] at hcl
    (conv => whnf)
    refine ⟨5, w.map fb, by kernel_rfl, by kernel_rfl, by kernel_rfl, ?_, ?_⟩
    · have e : (w.map fb).map (fun b => H0.pl (.int .u8 (b.toNat : Int))) = cs := by rw [hcl, List.map_map]; rfl
      rw [e]
      have := Shows.own (h := h') r 0 w.length cs hcs (by rw [hcl, List.length_map]; omega)
      have e2 : (cs.drop 0).take w.length = cs := by rw [List.drop_zero, hcl, ← List.length_map (f := fun i => bc (fb i)), List.take_length]
      rwa [e2] at this
    · (conv => whnf)
      exact ⟨by rw [fmtW, if_neg (by omega)]; rfl, E⟩

end Go.Proofs.Ytjgnnjegaedinaa.Hx
