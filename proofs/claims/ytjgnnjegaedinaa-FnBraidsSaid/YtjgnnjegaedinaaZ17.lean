/-
  What the laws of exchanges, of elements and of lengths say of words. Plain theory.
  Contracts of ReducedWords, of the program: words are spelled one after the other into a slice of slices that moves.
-/
import Derived.Test.YtjgnnjegaedinaaZ16
namespace Go.Proofs.Ytjgnnjegaedinaa.Hx
open Go.RowKit

theorem word_iff {c : List (List Int)} {w : List Int} : isWord c w = true ↔ Cartan c ∧ w.length ≤ 15 ∧ lettersOk c w = true := by
  simp only [isWord, Bool.and_eq_true, decide_eq_true_eq, isCartan_iff, and_assoc]

theorem red_of {c : List (List Int)} {w : List Int} (h : isReduced c w = true) : Cartan c ∧ w.length ≤ 15 ∧ lettersOk c w = true ∧ PlayL c w.length (imageOf c w) := by
  have hw := isReduced_word h
  obtain ⟨P, _, _⟩ := normF_red hw
  simp only [isReduced, Bool.and_eq_true, decide_eq_true_eq] at h
  rw [h.2] at P
  obtain ⟨a, b, d⟩ := word_iff.1 hw
  exact ⟨a, b, d, P⟩

theorem normF_play {c : List (List Int)} {w : List Int} {n : Nat} (hC : Cartan c) (P : PlayL c n (imageOf c w)) (hn : n ≤ 30) : (normF c w).length = n := nf_len hC n _ 31 P hn (by omega)

theorem del_nat (w : List Int) (k : Nat) : del w (k : Int) = w.eraseIdx k := by simp [del]
theorem del_minus (w : List Int) : del w (-1) = w := by simp [del]

theorem mem_left {c : List (List Int)} {w : List Int} {i : Int} (hw : isWord c w = true) : i ∈ leftDescents c w ↔ isPoint c i = true ∧ (imageOf c w).getD i.toNat 0 < 0 := by
  rw [leftDescents_on hw, mem_descs, imageOf_length]
  constructor
  · rintro ⟨h1, h2, h3⟩
    exact ⟨by simp [isPoint, inRange]; omega, h3⟩
  · rintro ⟨h1, h2⟩
    have := point_of h1
    exact ⟨this.1, this.2, h2⟩

theorem exIdx_ge {c : List (List Int)} {w : List Int} {i : Int} : 0 ≤ exIdx c w i ↔ isReduced c w = true ∧ i ∈ leftDescents c w := by
  constructor
  · intro h
    unfold exIdx at h
    split at h
    · rename_i hc
      simpa using hc
    · omega
  · rintro ⟨h1, h2⟩
    obtain ⟨hC, h3, h4, P⟩ := red_of h1
    obtain ⟨hp, g3⟩ := (mem_left (isReduced_word h1)).1 h2
    obtain ⟨k, hk, e⟩ := exchange hC P (by omega) ⟨rfl, h4, rfl⟩ hp g3
    have hke : (w.eraseIdx k).length ≤ w.length := List.length_eraseIdx_le w k
    have he : exAt c w i k = true := by
      unfold exAt
      rw [decide_eq_true_eq, del_nat]
      exact lin_image hC e (letters_erase h4 k) (letters_cons.2 ⟨hp, h4⟩) (by omega) (by simp; omega)
    unfold exIdx
    rw [if_pos (by simp [h1, h2])]
    cases hf : (List.range w.length).find? (exAt c w i) with
    | some k => show (0 : Int) ≤ (k : Int); omega
    | none =>
      have := List.find?_eq_none.1 hf k (by simpa using hk)
      exact absurd he (by simpa using this)

theorem exIdx_same {c : List (List Int)} {w : List Int} {i : Int} (h : 0 ≤ exIdx c w i) (hl : w.length < 15) : areSame c (del w (exIdx c w i)) (i :: del w (-1)) = true := by
  obtain ⟨h1, h2⟩ := exIdx_ge.1 h
  obtain ⟨hC, h3, h4, P⟩ := red_of h1
  obtain ⟨hp, g3⟩ := (mem_left (isReduced_word h1)).1 h2
  have hk : ∃ k : Nat, exIdx c w i = k ∧ exAt c w i k = true := by
    unfold exIdx at h ⊢
    rw [if_pos (by simp [h1, h2])] at h ⊢
    cases hf : (List.range w.length).find? (exAt c w i) with
    | some k => exact ⟨k, rfl, List.find?_some hf⟩
    | none => rw [hf] at h; exact absurd h (by decide)
  obtain ⟨k, e1, e2⟩ := hk
  rw [e1, del_minus]
  have hke : (del w (k : Int)).length ≤ w.length := del_len _ _
  simp only [areSame, Bool.and_eq_true, decide_eq_true_eq]
  refine ⟨⟨word_iff.2 ⟨hC, by omega, lettersOk_del h4 _⟩, word_iff.2 ⟨hC, by simp; omega, letters_cons.2 ⟨hp, h4⟩⟩⟩, by simpa [exAt] using e2⟩

theorem delPair_hit {c : List (List Int)} {x : List Int} (h : (delPair c x).2.2 = true) : isWord c x = true ∧ ∃ i j : Nat, i < j ∧ j < x.length ∧ delPair c x = ((i : Int), (j : Int), true) ∧ hit c x i j = true := by
  cases hw : isWord c x
  · rw [delPair_off hw] at h; cases h
  refine ⟨rfl, ?_⟩
  unfold delPair at h ⊢
  rw [hw] at h ⊢
  simp only [if_true] at h ⊢
  split at h
  · rename_i i hi
    split at h
    · rename_i j hj
      have h1 := List.find?_some hj
      have h2 := List.mem_of_find?_eq_some hj
      simp only [Bool.and_eq_true, decide_eq_true_eq] at h1
      refine ⟨i, j, h1.1, by simpa using h2, ?_, h1.2⟩
      rfl
    · cases h
  · cases h

theorem delPair_iff {c : List (List Int)} {w : List Int} (hw : isWord c w = true) : (delPair c w).2.2 = !(isReduced c w) := by
  obtain ⟨hC, h15, hl⟩ := word_iff.1 hw
  obtain ⟨n, hn, P⟩ := play_image hC hl (by omega)
  have hnf := normF_play hC P (by omega)
  by_cases h : n < w.length
  · have hr : isReduced c w = false := by simp [isReduced, hw, hnf]; omega
    rw [hr]
    obtain ⟨a, b, h1, h2, h3⟩ := deletion hC w n hl (by omega) P h
    have l1 : (w.eraseIdx b).length ≤ w.length := List.length_eraseIdx_le w b
    have l2 : ((w.eraseIdx b).eraseIdx a).length ≤ (w.eraseIdx b).length := List.length_eraseIdx_le _ a
    have hh : hit c w a b = true := by
      unfold hit del2
      rw [decide_eq_true_eq, del_nat, del_nat]
      exact lin_image hC h3 (letters_erase (letters_erase hl b) a) hl (by omega) (by omega)
    cases hr : (delPair c w).2.2 with
    | true => rfl
    | false =>
      exfalso
      have hj : (firstJ c w a).isSome = true := by
        cases hf : firstJ c w a with
        | some j => rfl
        | none =>
          have := List.find?_eq_none.1 hf b (by simpa using h2)
          simp [h1, hh] at this
      have hi : (firstI c w).isSome = true := by
        cases hf : firstI c w with
        | some j => rfl
        | none =>
          have := List.find?_eq_none.1 hf a (by simp; omega)
          exact absurd hj this
      obtain ⟨i, ei⟩ := Option.isSome_iff_exists.1 hi
      have hj2 := List.find?_some ei
      obtain ⟨j, ej⟩ := Option.isSome_iff_exists.1 hj2
      unfold delPair at hr
      rw [if_pos hw, ei] at hr
      simp only [ej] at hr
      cases hr
  · have hr : isReduced c w = true := by simp [isReduced, hw, hnf]; omega
    rw [hr]
    cases hd : (delPair c w).2.2 with
    | false => rfl
    | true =>
      exfalso
      obtain ⟨_, i, j, h1, h2, _, hh⟩ := delPair_hit hd
      have hh' : imageOf c (del2 w i j) = imageOf c w := by simpa [hit] using hh
      unfold del2 at hh'
      rw [del_nat, del_nat] at hh'
      have e1 : ((w.eraseIdx j).eraseIdx i).length + 2 = w.length := by
        rw [List.length_eraseIdx_of_lt (by rw [List.length_eraseIdx_of_lt h2]; omega), List.length_eraseIdx_of_lt h2]
        omega
      obtain ⟨m, hm, Q⟩ := play_image hC (letters_erase (letters_erase hl j) i) (by omega)
      rw [hh'] at Q
      have := play_unique hC P Q (by omega) (by omega)
      omega

theorem delPair_same {c : List (List Int)} {w : List Int} (h : (delPair c w).2.2 = true) : areSame c (del (del w (delPair c w).2.1) (delPair c w).1) w = true := by
  obtain ⟨hw, i, j, h1, h2, e, hh⟩ := delPair_hit h
  obtain ⟨hC, h15, hl⟩ := word_iff.1 hw
  rw [e]
  have l1 : (del (del w (j : Int)) (i : Int)).length ≤ w.length := Nat.le_trans (del_len _ _) (del_len _ _)
  simp only [areSame, Bool.and_eq_true, decide_eq_true_eq]
  exact ⟨⟨word_iff.2 ⟨hC, by omega, lettersOk_del (lettersOk_del hl _) _⟩, hw⟩, of_decide_eq_true hh⟩

theorem areSame_trans {c : List (List Int)} {a b d : List Int} (h : areSame c a b = true) (k : areSame c b d = true) : areSame c a d = true := by
  simp only [areSame, Bool.and_eq_true, decide_eq_true_eq] at *
  exact ⟨⟨h.1.1, k.1.2⟩, h.2.trans k.2⟩
theorem areSame_symm {c : List (List Int)} {a b : List Int} (h : areSame c a b = true) : areSame c b a = true := by
  simp only [areSame, Bool.and_eq_true, decide_eq_true_eq] at *
  exact ⟨⟨h.1.2, h.1.1⟩, h.2.symm⟩
theorem areSame_self {c : List (List Int)} {a : List Int} (h : isWord c a = true) : areSame c a a = true := by
  simp [areSame, h]

theorem red_good {c : List (List Int)} : ∀ (f : Nat) (x o : List Int), isWord c x = true → x.length ≤ 2 * f + 1 → isReduced c (red c f x o).1 = true ∧ areSame c x (red c f x o).1 = true
  | f, x, o, hw, hl => by
    cases hd : (delPair c x).2.2 with
    | false =>
      rw [red_stop hd]
      have := delPair_iff hw
      rw [hd] at this
      exact ⟨by simpa using this, areSame_self hw⟩
    | true =>
      obtain ⟨_, i, j, h1, h2, e, hh⟩ := delPair_hit hd
      have hs := delPair_same hd
      obtain ⟨f', rfl⟩ : ∃ f', f = f' + 1 := ⟨f - 1, by omega⟩
      rw [red_step e]
      rw [e] at hs
      have hs' : areSame c (del (del x (j : Int)) (i : Int)) x = true := hs
      have hw' : isWord c (del (del x (j : Int)) (i : Int)) = true := by
        simp only [areSame, Bool.and_eq_true] at hs'
        exact hs'.1.1
      have e1 : (del (del x (j : Int)) (i : Int)).length + 2 = x.length := by
        rw [del_nat, del_nat, List.length_eraseIdx_of_lt (by rw [List.length_eraseIdx_of_lt h2]; omega), List.length_eraseIdx_of_lt h2]
        omega
      obtain ⟨g1, g2⟩ := red_good f' (del (del x (j : Int)) (i : Int)) (o ++ [(i : Int), (j : Int)]) hw' (by omega)
      exact ⟨g1, areSame_trans (areSame_symm hs') g2⟩

/-! ### Elements -/

theorem normF_of_image {c : List (List Int)} {a b : List Int} (h : imageOf c a = imageOf c b) : normF c a = normF c b := by
  unfold normF
  rw [h]

theorem normF_twice {c : List (List Int)} {w : List Int} (hC : Cartan c) (hw : lettersOk c w = true) (hl : w.length ≤ 30) : normF c (normF c w) = normF c w := normF_of_image (normF_image hC hw hl)

theorem mul_word {c : List (List Int)} {a b : List Int} (h : mulOk c a b = true) : isWord c a = true ∧ isWord c b = true ∧ Cartan c ∧ lettersOk c (a ++ b) = true ∧ (a ++ b).length ≤ 30 ∧ isWord c (mul c a b) = true := by
  have h' := h
  simp only [mulOk, Bool.and_eq_true, decide_eq_true_eq] at h
  obtain ⟨⟨h1, h2⟩, h3⟩ := h
  obtain ⟨hC, ha, la⟩ := word_iff.1 h1
  obtain ⟨_, hb, lb⟩ := word_iff.1 h2
  have hl : lettersOk c (a ++ b) = true := letters_app.2 ⟨la, lb⟩
  have hs : (a ++ b).length ≤ 30 := by simp; omega
  refine ⟨h1, h2, hC, hl, hs, ?_⟩
  rw [mul_on h']
  exact word_iff.2 ⟨hC, h3, normF_letters hC hl hs⟩

theorem mul_element {c : List (List Int)} {a b : List Int} (h : mulOk c a b = true) : isElement c (mul c a b) = true := by
  obtain ⟨_, _, hC, hl, hs, hw⟩ := mul_word h
  rw [isElement_on hw, decide_eq_true_eq, mul_on h]
  exact normF_twice hC hl hs

/-- A normal form is the word, as a map. -/
theorem normF_lin {c : List (List Int)} {w : List Int} (hC : Cartan c) (hw : lettersOk c w = true) (hl : w.length ≤ 29) : Lin c (normF c w) w :=
  faithful hC (normF_letters hC hw (by omega)) hw (Nat.le_trans (normF_len hC hw (by omega)) hl) hl (normF_image hC hw (by omega))

theorem mul_assoc {c : List (List Int)} {a b d : List Int} (hab : a.length + b.length ≤ 29) (hbd : b.length + d.length ≤ 29) (h1 : mulOk c a b = true) (h2 : mulOk c (mul c a b) d = true) (h3 : mulOk c b d = true) (h4 : mulOk c a (mul c b d) = true) :
    mul c (mul c a b) d = mul c a (mul c b d) := by
  obtain ⟨wa, wb, hC, lab, _, wab⟩ := mul_word h1
  obtain ⟨_, wd, _, l2, s2, _⟩ := mul_word h2
  obtain ⟨_, _, _, lbd, _, wbd⟩ := mul_word h3
  obtain ⟨_, _, _, l4, s4, _⟩ := mul_word h4
  rw [mul_on h2, mul_on h4]
  refine normF_of_image (lin_image hC ?_ l2 l4 (by omega) (by omega))
  have e1 : Lin c (mul c a b) (a ++ b) := by rw [mul_on h1]; exact normF_lin hC lab (by simp; omega)
  have e2 : Lin c (mul c b d) (b ++ d) := by rw [mul_on h3]; exact normF_lin hC lbd (by simp; omega)
  refine (e1.app (Lin.refl c d)).trans ?_
  rw [List.append_assoc]
  exact (Lin.app (Lin.refl c a) e2).symm

theorem rev_app_image {c : List (List Int)} {a b : List Int} (hC : Cartan c) (ha : lettersOk c a = true) (hb : lettersOk c b = true) (hla : a.length ≤ 15) (hlb : b.length ≤ 15) (h : Lin c b a.reverse) : imageOf c (a ++ b) = imageOf c [] :=
  lin_image hC (fun v => by
    rw [actS_app, h v]
    exact (actS_rev hC a ha v).1) (letters_app.2 ⟨ha, hb⟩) rfl (by simp; omega) (by simp)

theorem normF_nil {c : List (List Int)} (hC : Cartan c) : normF c [] = [] := List.eq_nil_of_length_eq_zero (normF_play (n := 0) hC (PlayL.ones c) (by omega))

theorem mul_inv {c : List (List Int)} {a : List Int} (h : isWord c a = true) : isWord c a.reverse = true ∧ mulOk c a (normalForm c a.reverse) = true ∧ mul c a (normalForm c a.reverse) = [] := by
  obtain ⟨hC, h15, hl⟩ := word_iff.1 h
  have hr : isWord c a.reverse = true := by rw [isWord_rev]; exact h
  obtain ⟨_, hrl, hlr⟩ := word_iff.1 hr
  have hn := (normF_word hr).2
  obtain ⟨_, hnl, hln⟩ := word_iff.1 hn
  have hi : imageOf c (a ++ normF c a.reverse) = imageOf c [] := rev_app_image hC hl hln h15 hnl (normF_lin hC hlr (by omega))
  have e : normF c (a ++ normF c a.reverse) = [] := (normF_of_image hi).trans (normF_nil hC)
  rw [normalForm_on hr]
  have hok : mulOk c a (normF c a.reverse) = true := by rw [mulOk_on h hn, e]; rfl
  exact ⟨hr, hok, by rw [mul_on hok, e]⟩

theorem commute_same {c : List (List Int)} {a b : List Int} (h : mulOk c a b = true) (hl : a.length + b.length ≤ 15) : commute c a b = areSame c (mul c a b) (b ++ a) := by
  obtain ⟨wa, wb, hC, lab, hs, wm⟩ := mul_word h
  obtain ⟨la, lb⟩ := letters_app.1 lab
  have wba : isWord c (b ++ a) = true := word_iff.2 ⟨hC, by simp; omega, letters_app.2 ⟨lb, la⟩⟩
  have e : imageOf c (mul c a b) = imageOf c (a ++ b) := by rw [mul_on h]; exact normF_image hC lab hs
  simp [commute, areSame, wa, wb, wm, wba, e]

theorem invol_order {c : List (List Int)} {w : List Int} (h : isInvol c w = true) : orderOf c w = 2 ∨ orderOf c w = 0 := by
  simp only [isInvol, Bool.and_eq_true, decide_eq_true_eq] at h
  obtain ⟨⟨hw, hpos⟩, hi⟩ := h
  obtain ⟨hC, h15, hl⟩ := word_iff.1 hw
  unfold orderOf
  split
  · left
    rw [ordF_succ, List.nil_append, ordG_next (by omega) (by have := (normF_word hw).1; omega), ordF_succ]
    have hr : isWord c w.reverse = true := by rw [isWord_rev]; exact hw
    obtain ⟨_, hrl, hlr⟩ := word_iff.1 hr
    have L1 : Lin c w w.reverse := faithful hC hl hlr (by omega) (by omega) hi
    obtain ⟨_, hnl, hln⟩ := word_iff.1 (normF_word hw).2
    have L2 : Lin c (normF c w) w.reverse := (normF_lin hC hl (by omega)).trans L1
    have hi2 : imageOf c (normF c w ++ w) = imageOf c [] := lin_image hC (fun v => by
      rw [actS_app, L2 _]
      exact (actS_rev hC w hl v).2) (letters_app.2 ⟨hln, hl⟩) rfl (by simp; omega) (by simp)
    rw [normF_of_image hi2, normF_nil hC, ordG_zero rfl]
    rfl
  · right; rfl

/-! ### Lengths -/

theorem length_step {c : List (List Int)} {w : List Int} {i : Int} (hw : isWord c w = true) (hl : w.length < 15) (hi : isPoint c i = true) :
    isWord c (i :: w) = true ∧ (i ∈ leftDescents c w → lengthI c (i :: w) = lengthI c w - 1) ∧ (i ∉ leftDescents c w → lengthI c (i :: w) = lengthI c w + 1) := by
  obtain ⟨hC, h15, hlw⟩ := word_iff.1 hw
  have p1 := point_of hi
  have hw2 : isWord c (i :: w) = true := word_iff.2 ⟨hC, by simp; omega, letters_cons.2 ⟨hi, hlw⟩⟩
  obtain ⟨n, hn, P⟩ := play_image hC hlw (by omega)
  have e1 := normF_play hC P (by omega)
  rw [lengthI_on hw, lengthI_on hw2, mem_left hw, e1]
  refine ⟨hw2, fun h => ?_, fun h => ?_⟩
  · obtain ⟨m, hm, Q⟩ := P.down hC (by omega) (i := i.toNat) (by omega) h.2
    have e2 : (normF c (i :: w)).length = m := normF_play hC (by rw [imageW_cons]; exact Q) (by omega)
    rw [e2]
    omega
  · have hne := P.ne hC (i := i.toNat) (by omega)
    have hpos : 0 < (imageOf c w).getD i.toNat 0 := by
      have : ¬ (imageOf c w).getD i.toNat 0 < 0 := fun k => h ⟨hi, k⟩
      omega
    have U : PlayL c (n + 1) (imageOf c (i :: w)) := by
      rw [imageW_cons]
      refine ⟨by rw [reflW_length]; exact P.1, ?_⟩
      rw [pos_refl hC P (by omega) (by omega)]
      exact P.2.up (matOk hC) (by omega) hpos
    have e2 := normF_play hC U (by omega)
    rw [e2]
    omega

theorem length_rev {c : List (List Int)} {w : List Int} (hw : isWord c w = true) : lengthI c w.reverse = lengthI c w := by
  obtain ⟨hC, h15, hl⟩ := word_iff.1 hw
  have hr : isWord c w.reverse = true := by rw [isWord_rev]; exact hw
  obtain ⟨n, hn, P⟩ := play_image hC hl (by omega)
  obtain ⟨m, hm, Q⟩ := play_image hC (letters_rev hl) (by simp; omega)
  have hm' : m ≤ w.length := by simpa using hm
  rw [lengthI_on hw, lengthI_on hr, normF_play hC P (by omega), normF_play hC Q (by omega), play_rev hC hl (by omega) P Q (by omega) (by omega)]

theorem length_right {c : List (List Int)} {w : List Int} {i : Int} (hw : isWord c w = true) (hl : w.length < 15) (hi : isPoint c i = true) :
    isWord c (w ++ [i]) = true ∧ (i ∈ leftDescents c w.reverse → lengthI c (w ++ [i]) = lengthI c w - 1) ∧ (i ∉ leftDescents c w.reverse → lengthI c (w ++ [i]) = lengthI c w + 1) := by
  have hr : isWord c w.reverse = true := by rw [isWord_rev]; exact hw
  obtain ⟨h1, h2, h3⟩ := length_step hr (by simpa using hl) hi
  have e : (w ++ [i]).reverse = i :: w.reverse := by simp
  have hw2 : isWord c (w ++ [i]) = true := by rw [← isWord_rev, e]; exact h1
  rw [← e, length_rev hw2, length_rev hw] at h2 h3
  exact ⟨hw2, h2, h3⟩

/-- Each letter turns the length's parity. -/
theorem play_parity {c : List (List Int)} (hC : Cartan c) : ∀ (w : List Int) (n : Nat), lettersOk c w = true → w.length ≤ 30 → n ≤ 30 → PlayL c n (imageOf c w) → n % 2 = w.length % 2
  | [], n, _, _, hn, P => by
    have := play_unique hC P (PlayL.ones c) hn (by omega)
    subst this
    rfl
  | i :: w, n, hw, hl, hn, P => by
    obtain ⟨hi, hlw⟩ := letters_cons.1 hw
    have p1 := point_of hi
    simp only [List.length_cons] at hl ⊢
    obtain ⟨m, hm, Q⟩ := play_image hC hlw (by omega)
    have ih := play_parity hC w m hlw (by omega) (by omega) Q
    have hne := Q.ne hC (i := i.toNat) (by omega)
    by_cases hlt : (imageOf c w).getD i.toNat 0 < 0
    · obtain ⟨k, hk, K⟩ := Q.down hC (by omega) (i := i.toNat) (by omega) hlt
      have := play_unique hC P (by rw [imageW_cons]; exact K) hn (by omega)
      omega
    · have U : PlayL c (m + 1) (imageOf c (i :: w)) := by
        rw [imageW_cons]
        refine ⟨by rw [reflW_length]; exact Q.1, ?_⟩
        rw [pos_refl hC Q (by omega) (by omega)]
        exact Q.2.up (matOk hC) (by omega) (by show 0 < (imageOf c w).getD i.toNat 0; omega)
      have := play_unique hC P U hn (by omega)
      omega

theorem sign_parity {a b : List Int} (h : a.length % 2 = b.length % 2) : signOf a = signOf b := by
  have e : ∀ n : Nat, (n : Int).tmod 2 = ((n % 2 : Nat) : Int) := fun n => by
    rw [Int.tmod_eq_emod_of_nonneg (by omega)]
    omega
  unfold signOf
  rw [e, e, h]

theorem form_facts {c : List (List Int)} {w : List Int} (hw : isWord c w = true) : areSame c w (normalForm c w) = true ∧ isReduced c (normalForm c w) = true ∧ signOf w = signOf (normalForm c w) := by
  obtain ⟨hC, h15, hl⟩ := word_iff.1 hw
  rw [normalForm_on hw]
  obtain ⟨hn1, hn⟩ := normF_word hw
  obtain ⟨P, _, R⟩ := normF_red hw
  refine ⟨by simp [areSame, hw, hn, normF_image hC hl (by omega)], ?_, ?_⟩
  · simp only [isReduced, hn, Bool.true_and, decide_eq_true_eq]
    rw [normF_twice hC hl (by omega)]
  · exact sign_parity (play_parity hC w _ hl (by omega) (by omega) P).symm

/-- The first of all reduced words is the normal form. -/
theorem spell_head {c : List (List Int)} (hC : Cartan c) : ∀ (n : Nat) (v : List Int) (f : Nat), PlayL c n v → n ≤ 29 → n ≤ f → ∃ t, spellW c n v = nf c f v :: t
  | 0, v, f, P, _, _ => by
    have hst := P.2.stop
    refine ⟨[], ?_⟩
    have e : nf c f v = [] := List.eq_nil_of_length_eq_zero (nf_len hC 0 v f P (by omega) (by omega))
    rw [e]
    rfl
  | n + 1, v, f, P, hn, hf => by
    obtain ⟨f', rfl⟩ : ∃ f', f = f' + 1 := ⟨f - 1, by omega⟩
    have hfd : fd v < v.length := by
      by_cases h : fd v < v.length
      · exact h
      · have := fd_end h
        have := P.2.stop (fun i hi => this i (by rw [P.1]; exact hi))
        omega
    have hneg := fd_lt hfd
    have hnf : nf c (f' + 1) v = (fd v : Int) :: nf c f' (reflW c (fd v) v) := by
      rw [nf, if_pos hfd]
    obtain ⟨m, hm, Q⟩ := P.down hC (by omega) (i := fd v) (by rw [← P.1]; exact hfd) hneg
    obtain rfl : m = n := by omega
    obtain ⟨t, ht⟩ := spell_head hC m (reflW c (fd v) v) f' Q (by omega) (by omega)
    have hd : ∃ t, descs v v.length = (fd v : Int) :: t := by
      have hmem : (fd v : Int) ∈ descs v v.length := mem_descs.2 ⟨by omega, by omega, by simpa using hneg⟩
      have hs := descs_sorted v v.length
      cases hds : descs v v.length with
      | nil => rw [hds] at hmem; cases hmem
      | cons x t =>
        rw [hds] at hs hmem
        have hx : x ∈ descs v v.length := by rw [hds]; simp
        obtain ⟨x1, x2, x3⟩ := mem_descs.1 hx
        rcases List.mem_cons.1 hmem with e | e
        · exact ⟨t, by rw [e]⟩
        · have := (List.pairwise_cons.1 hs).1 _ e
          have hle : fd v ≤ x.toNat := by
            unfold fd
            refine Nat.le_of_not_lt fun hlt => ?_
            have := List.not_of_lt_findIdx hlt
            have e2 : v.getD x.toNat 0 = v[x.toNat]'(by omega) := by simp [List.getD, show x.toNat < v.length by omega]
            rw [e2] at x3
            exact absurd x3 (of_decide_eq_false this)
          omega
    obtain ⟨t2, ht2⟩ := hd
    rw [spellW, ht2, List.flatMap_cons, hnf]
    simp only [Int.toNat_natCast]
    rw [ht]
    exact ⟨_, rfl⟩

theorem reduced_head {c : List (List Int)} {w : List Int} (h : redOk c w = true) : ∃ t, reducedWords c w = normalForm c w :: t := by
  have hw : isWord c w = true := by
    simp only [redOk, Bool.and_eq_true] at h
    exact h.1
  obtain ⟨hC, _, _⟩ := word_iff.1 hw
  obtain ⟨P, h1, _⟩ := normF_red hw
  rw [reducedWords_on h, normalForm_on hw]
  obtain ⟨t, ht⟩ := spell_head hC _ _ 31 P (by omega) (by omega)
  exact ⟨t, ht⟩

end Go.Proofs.Ytjgnnjegaedinaa.Hx

namespace Go.Proofs.Ytjgnnjegaedinaa.Hx
open Go.RowKit
variable {dm : Bool}

/-- All rows of which F does not hold are as they were. -/
def KeepN (F : Nat → Prop) (h h' : Heap) : Prop := h.length ≤ h'.length ∧ ∀ q, q < h.length → ¬ F q → h'[q]? = h[q]?

def IntsN (F : Nat → Prop) (h : Heap) (x : H0) (l : List Int) : Prop := Ints h x l ∧ ∀ r off n, x = .sl r off n → ¬ F r

def RowsN (F : Nat → Prop) (h : Heap) (x : H0) (L : List (List Int)) : Prop :=
  ∃ xs : List H0, Shows h (.s x) xs ∧ (∀ r off n, x = .sl r off n → ¬ F r) ∧ xs.length = L.length ∧ ∀ (i : Nat) (y : H0) (l : List Int), xs[i]? = some y → L[i]? = some l → IntsN F h y l

theorem KeepN.refl (F : Nat → Prop) (h : Heap) : KeepN F h h := ⟨Nat.le_refl _, fun _ _ _ => rfl⟩
theorem KeepN.ofExt {F : Nat → Prop} {h h' : Heap} (E : Ext h h') : KeepN F h h' := ⟨E.1, fun q hq _ => E.2 q hq⟩
theorem KeepN.trans {F G : Nat → Prop} {h h' h'' : Heap} (k : KeepN F h h') (m : KeepN G h' h'') (hg : ∀ q, q < h.length → G q → F q) : KeepN F h h'' :=
  ⟨Nat.le_trans k.1 m.1, fun q hq hn => by rw [m.2 q (Nat.lt_of_lt_of_le hq k.1) (fun g => hn (hg q hq g))]; exact k.2 q hq hn⟩

theorem Shows.keep {F : Nat → Prop} {h h' : Heap} {x : H0} {l : List H0} (H : Shows h (.s x) l) (hf : ∀ r off n, x = .sl r off n → ¬ F r) (k : KeepN F h h') : Shows h' (.s x) l := by
  cases H with
  | nils a c => exact .nils a c
  | ro r off len cs hr hl => exact .ro r off len cs (by rw [k.2 r (get_lt hr) (hf _ _ _ rfl)]; exact hr) hl
  | own r off len cs hr hl => exact .own r off len cs (by rw [k.2 r (get_lt hr) (hf _ _ _ rfl)]; exact hr) hl

theorem Shows.in_lt {h : Heap} {r off n : Nat} {l : List H0} (H : Shows h (.s (.sl r off n)) l) : r < h.length := by
  cases H with
  | ro _ _ _ cs hr hl => exact get_lt hr
  | own _ _ _ cs hr hl => exact get_lt hr

theorem IntsN.keep {F G : Nat → Prop} {h h' : Heap} {x : H0} {l : List Int} (H : IntsN F h x l) (k : KeepN F h h') (hg : ∀ q, q < h.length → G q → F q) : IntsN G h' x l :=
  ⟨Shows.keep H.1 H.2 k, fun r off n e g => H.2 r off n e (hg r (by
    have := H.1
    subst e
    exact Shows.in_lt this) g)⟩

theorem RowsN.rows {F : Nat → Prop} {h : Heap} {x : H0} {L : List (List Int)} (H : RowsN F h x L) : Rows h x L := by
  obtain ⟨xs, h1, _, h3, h4⟩ := H
  exact ⟨xs, h1, h3, fun i y l a b => (h4 i y l a b).1⟩

theorem RowsN.keep {F G : Nat → Prop} {h h' : Heap} {x : H0} {L : List (List Int)} (H : RowsN F h x L) (k : KeepN F h h') (hg : ∀ q, q < h.length → G q → F q) : RowsN G h' x L := by
  obtain ⟨xs, h1, h2, h3, h4⟩ := H
  refine ⟨xs, h1.keep h2 k, fun r off n e g => h2 r off n e (hg r (by subst e; exact Shows.in_lt h1) g), h3, fun i y l a b => (h4 i y l a b).keep k hg⟩

theorem Rows.noF {h : Heap} {x : H0} {L : List (List Int)} (H : Rows h x L) : RowsN (fun _ => False) h x L := by
  obtain ⟨xs, h1, h3, h4⟩ := H
  exact ⟨xs, h1, fun _ _ _ _ g => g, h3, fun i y l a b => ⟨h4 i y l a b, fun _ _ _ _ g => g⟩⟩

theorem OwnR.keep {F : Nat → Prop} {h h' : Heap} {r : Nat} {x : H0} {l : List Int} (H : OwnR r h x l) (k : KeepN F h h') (hf : ¬ F r) : OwnR r h' x l := by
  have hlt := H.lt
  obtain ⟨t, g1, g2⟩ := H
  exact ⟨t, g1, by rw [k.2 r hlt hf]; exact g2⟩
theorem KeepN.ext {F : Nat → Prop} {hb h h' : Heap} (k : KeepN F h h') (hf : ∀ q, F q → hb.length ≤ q) (E : Ext hb h) : Ext hb h' :=
  ⟨Nat.le_trans E.1 k.1, fun q hq => by rw [k.2 q (Nat.lt_of_lt_of_le hq E.1) (fun f => by have := hf q f; omega)]; exact E.2 q hq⟩

/-- Nothing yet, or a slice of slices whose rows are of F. -/
def OutM (F : Nat → Prop) (h : Heap) (x : H0) (L : List (List Int)) : Prop :=
  (x = .pl (.slice none 0 0) ∧ L = []) ∨ ∃ r ρ, x = .sl r 0 L.length ∧ F r ∧ (∀ i, i < L.length → F (ρ i)) ∧ MatAt h r ρ L

theorem OutM.ext {F : Nat → Prop} {h h' : Heap} {x : H0} {L : List (List Int)} (O : OutM F h x L) (E : Ext h h') : OutM F h' x L := by
  rcases O with O | ⟨r, ρ, g1, g2, g3, m⟩
  · exact Or.inl O
  · exact Or.inr ⟨r, ρ, g1, g2, g3, m.ext E⟩
theorem OutM.weaken {F G : Nat → Prop} {h : Heap} {x : H0} {L : List (List Int)} (O : OutM F h x L) (k : ∀ q, q < h.length → F q → G q) : OutM G h x L := by
  rcases O with O | ⟨r, ρ, g1, g2, g3, m⟩
  · exact Or.inl O
  · exact Or.inr ⟨r, ρ, g1, k _ m.lt.1 g2, fun i hi => k _ (m.lt.2 i hi) (g3 i hi), m⟩

theorem OutM.len {F : Nat → Prop} {h : Heap} {x : H0} {L : List (List Int)} (O : OutM F h x L) {K : HV → Prop} (hK : K (I L.length)) : HLen (.s x) K := by
  rcases O with ⟨rfl, rfl⟩ | ⟨r, ρ, rfl, g2, g3, m⟩
  · exact ⟨0, rfl, hK⟩
  · exact m.rows.len hK

/-- A slice of ints, appended to what is there. -/
theorem HApp.snocO {F : Nat → Prop} {h h2 : Heap} {z y : H0} {L : List (List Int)} {l : List Int} {q : Nat} {K : HV → Heap → Prop} (O : OutM F h z L) (E2 : Ext h h2) (R : OwnR q h2 y l) (hq : h.length ≤ q) (hl : L.length < 2199023255552)
    (hK : ∀ h' z', KeepN F h h' → OutM (fun x => F x ∨ h.length ≤ x) h' z' (L ++ [l]) → K (.s z') h') : HApp (h2 ++ [.own [y]]) (.s z) (.s (.sl h2.length 0 1)) K := by
  have l2 := E2.1
  have hq2 := R.lt
  obtain ⟨t, rfl, hqo⟩ := R
  have hshow : Shows (h2 ++ [.own [.sl q 0 l.length]]) (.s (.sl h2.length 0 1)) [.sl q 0 l.length] := by
    have := Shows.own h2.length 0 1 _ (get_new h2 (.own [.sl q 0 l.length])) (by simp)
    simpa using this
  rcases O with ⟨rfl, rfl⟩ | ⟨r, ρ, rfl, hFr, hFρ, m⟩
  · refine ⟨[.sl q 0 l.length], hshow, by simp [H0.one], by simp, ?_⟩
    rw [if_neg (by simp)]
    refine hK _ _ ⟨by simp; omega, fun p hp _ => ?_⟩ (Or.inr ⟨h2.length + 1, fun _ => q, by simp, Or.inr (by omega), fun i hi => Or.inr hq, ⟨[.sl q 0 l.length], ?_, by simp, fun i hi => ?_⟩, fun i hi => ⟨t, ?_⟩, fun i hi => by omega, fun i j hij hj => by simp at hj; omega⟩)
    · rw [List.getElem?_append_left (by simp; omega), List.getElem?_append_left (by omega)]
      exact E2.2 p hp
    · rw [List.getElem?_append_right (by simp)]
      simp
    · have e : i = 0 := by simp at hi; omega
      subst e
      simp
    · have e : i = 0 := by simp at hi; omega
      subst e
      rw [List.getElem?_append_left (by simp; omega), List.getElem?_append_left (by omega)]
      simpa using hqo
  · obtain ⟨hr2, hρ⟩ := m.lt
    obtain ⟨cs, ho, hcl, hoc⟩ := m.outer
    refine ⟨[.sl q 0 l.length], hshow, by simp [H0.one], cs, rfl, (Ext.push h2 _).row (E2.row ho), hcl, Or.inl ⟨by simp; omega, ?_⟩⟩
    have e1 : L.length + [H0.sl q 0 l.length].length = (L ++ [l]).length := by simp
    rw [e1]
    have old : ∀ p, p < h2.length → p ≠ r → ((h2 ++ [Row.own [.sl q 0 l.length]]).set r .gone ++ [Row.own (cs.take L.length ++ [.sl q 0 l.length])])[p]? = h2[p]? := fun p hp hn => by
      rw [List.getElem?_append_left (by simp; omega), List.getElem?_set_ne (Ne.symm hn), List.getElem?_append_left hp]
    have gd1 : ∀ i, i < L.length → (L ++ [l]).getD i [] = L.getD i [] := fun i hi => by
      simp only [List.getD]
      rw [List.getElem?_append_left hi]
    have gd2 : (L ++ [l]).getD L.length [] = l := by simp [List.getD]
    have hlen : ((h2 ++ [Row.own [.sl q 0 l.length]]).set r .gone ++ [Row.own (cs.take L.length ++ [.sl q 0 l.length])]).length = h2.length + 2 := by simp
    have hqr2 : q ≠ r := by omega
    refine hK _ _ ⟨by rw [hlen]; omega, fun p hp hn => ?_⟩ (Or.inr ⟨h2.length + 1, fun i => if i < L.length then ρ i else q, by simp, Or.inr (by omega), fun i hi => ?_, ⟨cs.take L.length ++ [.sl q 0 l.length], ?_, by simp; omega, fun i hi => ?_⟩, fun i hi => ?_, fun i hi => ?_, fun i j hij hj => ?_⟩)
    · rw [old p (by omega) (fun e => hn (by rw [e]; exact hFr))]
      exact E2.2 p hp
    · by_cases hi2 : i < L.length
      · simp only [hi2, if_true]
        exact Or.inl (hFρ i hi2)
      · show F (if i < L.length then ρ i else q) ∨ h.length ≤ (if i < L.length then ρ i else q)
        rw [if_neg hi2]
        exact Or.inr hq
    · rw [List.getElem?_append_right (by simp)]
      simp
    · by_cases hi2 : i < L.length
      · rw [List.getElem?_append_left (by simp; omega), List.getElem?_take_of_lt hi2, hoc i hi2, gd1 i hi2]
        simp [hi2]
      · have e : i = L.length := by simp at hi; omega
        subst e
        rw [gd2, List.getElem?_append_right (by simp; omega)]
        have : L.length - (cs.take L.length).length = 0 := by simp; omega
        rw [this]
        simp
    · by_cases hi2 : i < L.length
      · obtain ⟨t2, ht2⟩ := m.inner i hi2
        have hb2 := hρ i hi2
        have hne := m.ne i hi2
        refine ⟨t2, ?_⟩
        rw [gd1 i hi2, if_pos hi2, old _ (by omega) hne]
        exact E2.row ht2
      · have e : i = L.length := by simp at hi; omega
        subst e
        refine ⟨t, ?_⟩
        rw [gd2, if_neg (by omega), old _ (by omega) (by omega)]
        exact hqo
    · by_cases hi2 : i < L.length
      · have := hρ i hi2
        simp only [hi2, if_true]
        omega
      · simp only [hi2, if_false]
        omega
    · have hj' : j ≤ L.length := by simp at hj; omega
      have hi2 : i < L.length := by omega
      have := hρ i hi2
      by_cases hj2 : j < L.length
      · simp only [hi2, hj2, if_true]
        exact m.inj i j hij hj2
      · simp only [hi2, hj2, if_true, if_false]
        omega

theorem OwnM.lower {b c e : Nat} {h : Heap} {x : H0} {L : List (List Int)} (H : OwnM b e h x L) (k : c ≤ b) : OwnM c e h x L := by
  obtain ⟨r, ρ, g1, g2, g3, g4, m⟩ := H
  exact ⟨r, ρ, g1, by omega, g3, fun i hi => by have := g4 i hi; omega, m⟩

/-- What comes of the first k descents. -/
def spellTo (c : List (List Int)) (n : Nat) (v : List Int) (k : Nat) : List (List Int) := ((descs v v.length).take k).flatMap fun i => (spellW c n (reflW c i.toNat v)).map (i :: ·)

theorem spellTo_succ (c : List (List Int)) (n : Nat) (v : List Int) {k : Nat} (hk : k < (descs v v.length).length) :
    spellTo c n v (k + 1) = spellTo c n v k ++ (spellW c n (reflW c ((descs v v.length).getD k 0).toNat v)).map ((descs v v.length).getD k 0 :: ·) := by
  unfold spellTo
  rw [List.take_succ_eq_append_getElem hk, List.flatMap_append]
  simp [List.getD, hk]
theorem spellTo_all (c : List (List Int)) (n : Nat) (v : List Int) : spellTo c n v (descs v v.length).length = spellW c (n + 1) v := by
  unfold spellTo
  rw [List.take_length, spellW]
theorem spellTo_pre (c : List (List Int)) (n : Nat) (v : List Int) (k : Nat) : ∃ t, spellW c (n + 1) v = spellTo c n v k ++ t := by
  unfold spellTo
  refine ⟨((descs v v.length).drop k).flatMap fun i => (spellW c n (reflW c i.toNat v)).map (i :: ·), ?_⟩
  rw [spellW, ← List.flatMap_append, List.take_append_drop]

theorem take_full {α : Type} {A B : List α} {n : Nat} (h : (A.take n).length = n) : (A ++ B).take n = A.take n := by
  rw [List.length_take] at h
  exact List.take_append_of_le_length (by omega)
theorem take_part {α : Type} {A : List α} {n : Nat} (h : (A.take (n + 1)).length ≤ n) : A.take (n + 1) = A := by
  rw [List.length_take] at h
  exact List.take_of_length_le (by omega)

theorem no_descents {c : List (List Int)} {n : Nat} {v : List Int} (P : PlayL c n v) (h : (descs v v.length).length = 0) : n = 0 := by
  refine (P.2.stop fun i hi => ?_).1
  by_cases hlt : posOf v i < 0
  · have : (i : Int) ∈ descs v v.length := mem_descs.2 ⟨by omega, by have := P.1; omega, by simpa [posOf] using hlt⟩
    rw [List.eq_nil_of_length_eq_zero h] at this
    simp at this
  · omega
theorem no_descents' {c : List (List Int)} {v : List Int} (hC : Cartan c) (P : PlayL c 0 v) : descs v v.length = [] := by
  cases hd : descs v v.length with
  | nil => rfl
  | cons i t =>
    have hi : i ∈ descs v v.length := by rw [hd]; simp
    obtain ⟨h1, h2, h3⟩ := mem_descs.1 hi
    obtain ⟨m, e, _⟩ := P.down hC (by omega) (i := i.toNat) (by have := P.1; omega) h3
    omega


theorem lib_CloneR (h : Heap) (r : Nat) (x : H0) (l : List Int) (hx : OwnR r h x l) (hl : l.length ≤ 1048576) :
    HCalls dm Try.prog 86 [.s x] h (fun v h' => ∃ y, v = .s y ∧ Fresh h h' y l) := by
  have hi := hx.ints
  obtain ⟨t, rfl, hr⟩ := hx
  refine calls_of_hFun (m := 0) kd_ok mixed Try.func86 rfl (by kernel_rfl) rfl rfl (of_decide_eq_true rfl) ?_; unfold hFun; (conv => whnf)
  refine ⟨rfl, ?_⟩
  (conv => whnf)
  refine HIf.no ?_
  (conv => whnf)
  refine HLit.empty ?_
  (conv => whnf)
  refine ⟨rfl, rfl, HApp.copy hi (by omega) (fun h2 y2 E2 O2 => ?_)⟩
  (conv => whnf)
  exact ⟨_, rfl, Fresh.of E2 O2⟩

set_option maxHeartbeats 1000000 in
theorem impl_spelled {c : List (List Int)} (hC : Cartan c) : ∀ (n : Nat) (h : Heap) (F : Nat → Prop) (xc xv xh xo : H0) (v hd : List Int) (rh : Nat) (L : List (List Int)), (∀ q, F q → q < h.length) → RowsN F h xc c → IntsN F h xv v → OwnR rh h xh hd → ¬ F rh →
    PlayL c n v → n + hd.length ≤ 15 → OutM F h xo L → L.length ≤ 120 →
    HCalls dm Try.prog 55 [.s xc, .s xv, .s xh, .s xo, I 120] h (fun r h' => ∃ y, r = .s y ∧ KeepN F h h' ∧ OutM (fun q => F q ∨ h.length ≤ q) h' y ((L ++ (spellW c n v).map (hd ++ ·)).take 121)) := by
  intro n
  induction n using Nat.strongRecOn with
  | ind n ih =>
  intro h F xc xv xh xo v hd rh L hF hxc hxv hxh hrh P hn O hL
  have hc4 := hC.le
  have hvl := P.1
  have hdl := descs_le v v.length
  refine calls_of_hFun (m := 0) kd_ok mixed Try.func55 rfl (by kernel_rfl) rfl rfl (of_decide_eq_true rfl) ?_; unfold hFun; (conv => whnf)
  refine (impl_descents _ _ v hxv.1 (by omega)).mono ?_
  rintro r h1 ⟨y1, rfl, f1⟩
  obtain ⟨r1, hr1, O1⟩ := f1.row
  have E1 := f1.1
  have hE1 := E1.1
  (conv => whnf)
  refine ⟨rfl, O1.ints.len ?_⟩
  (conv => whnf)
  refine HIf.beq (fun h0 => ?_) (fun h0 => ?_)
  · have e0 := no_descents P (by omega)
    subst e0
    (conv => whnf)
    refine (lib_CloneR _ rh _ hd (hxh.ext E1) (by omega)).mono ?_
    rintro r h2 ⟨y2, rfl, f2⟩
    obtain ⟨r2, hr2, O2⟩ := f2.row
    have E2 := E1.trans f2.1
    (conv => whnf)
    refine HLit.row f2.own.one ?_
    (conv => whnf)
    refine ⟨rfl, rfl, HApp.snocO O E2 O2 (by omega) (by omega) (fun h3 z3 k3 O3 => ?_)⟩
    (conv => whnf)
    refine ⟨_, rfl, k3, ?_⟩
    have e : (L ++ (spellW c 0 v).map (hd ++ ·)).take 121 = L ++ [hd] := by
      rw [spellW, List.map_cons, List.map_nil, List.append_nil]
      exact List.take_of_length_le (by simp; omega)
    rw [e]
    exact O3
  · obtain ⟨m, rfl⟩ : ∃ m, n = m + 1 := by
      cases n with
      | zero => exact absurd (by rw [no_descents' hC P]; rfl) h0
      | succ m => exact ⟨m, rfl⟩
    (conv => whnf)
    refine ⟨rfl, O1.ints.len ?_⟩
    (conv => whnf)
    refine HLoop.intro [27, 3] [28, 29, 30, 13, 31, 32, 33, 34, 35, 36, 37, 14, 38, 39, 40, 41, 42, 43, 44, 45, 46, 47, 48, 49, 50, 51, 3, 52, 27] (by kernel_rfl) (by kernel_rfl) (fun vs h' => ∃ (k : Nat) (z : H0) (G : Nat → Prop), vs = [I k, .s z] ∧ k ≤ (descs v v.length).length ∧ KeepN F h1 h' ∧ (∀ q, G q → (F q ∨ h1.length ≤ q) ∧ q < h'.length) ∧ OutM G h' z ((L ++ (spellTo c m v k).map (hd ++ ·)).take 121)) (fun vs _ => (descs v v.length).length - natAt vs 0) ⟨0, _, F, rfl, by omega, KeepN.refl F h1, fun q hq => ⟨Or.inl hq, by have := hF q hq; omega⟩, by
      have e : (L ++ (spellTo c m v 0).map (hd ++ ·)).take 121 = L := by
        simp only [spellTo, List.take_zero, List.flatMap_nil, List.map_nil, List.append_nil]
        exact List.take_of_length_le (by omega)
      rw [e]
      exact O.ext E1⟩ ?_
    rintro vs h' ⟨k, z, G, rfl, hk, K, hG, OG⟩
    have fromF : ∀ q, q < h1.length → G q → F q := fun q hq g => by
      rcases (hG q g).1 with h | h
      · exact h
      · omega
    have fromF0 : ∀ q, q < h.length → G q → F q := fun q hq g => fromF q (by omega) g
    have hF1 : ∀ q, h.length ≤ q → q < h1.length → ¬ F q := fun q h2 _ g => by have := hF q g; omega
    have k0 : KeepN F h h' := (KeepN.ofExt E1).trans K (fun q _ g => g)
    have xc' := hxc.keep k0 fromF0
    have xv' := hxv.keep k0 fromF0
    have O1' : OwnR r1 h' y1 (descs v v.length) := by
      have hlt := O1.lt
      obtain ⟨t, g1, g2⟩ := O1
      exact ⟨t, g1, by rw [K.2 r1 hlt (hF1 r1 hr1 hlt)]; exact g2⟩
    have xh' : OwnR rh h' xh hd := by
      have hlt := hxh.lt
      obtain ⟨t, g1, g2⟩ := hxh
      exact ⟨t, g1, by rw [k0.2 rh hlt hrh]; exact g2⟩
    have hrhl := hxh.lt
    have hK1 := K.1
    obtain ⟨tt, hpre⟩ := spellTo_pre c m v k
    (conv => whnf)
    refine HIf.dec (fun hlt => ?_) (fun hge => ?_)
    · have hkd : k < (descs v v.length).length := by omega
      have hmem : (descs v v.length).getD k 0 ∈ descs v v.length := by
        have e : (descs v v.length).getD k 0 = (descs v v.length)[k] := by simp [List.getD, hkd]
        rw [e]
        exact List.getElem_mem hkd
      have hstep := spellTo_succ c m v hkd
      obtain ⟨d1, d2, d3⟩ := mem_descs.1 hmem
      obtain ⟨m', em, Pm⟩ := P.down hC (by omega) (i := ((descs v v.length).getD k 0).toNat) (by omega) d3
      have em2 : m' = m := by omega
      subst em2
      (conv => whnf)
      refine ⟨rfl, Ints.idxN O1'.ints hkd (fun p hp => ?_)⟩
      (conv => whnf)
      refine ⟨rfl, hp.load ?_⟩
      (conv => whnf)
      generalize (descs v v.length).getD k 0 = i at *
      refine ⟨rfl, OG.len ?_⟩
      (conv => whnf)
      refine HIf.dec (fun hover => ?_) (fun hfit => ?_)
      · (conv => whnf)
        refine ⟨_, rfl, k0, ?_⟩
        have hlen : ((L ++ (spellTo c m' v k).map (hd ++ ·)).take 121).length = 121 := by
          have := List.length_take_le 121 (L ++ (spellTo c m' v k).map (hd ++ ·))
          omega
        have e : (L ++ (spellW c (m' + 1) v).map (hd ++ ·)).take 121 = (L ++ (spellTo c m' v k).map (hd ++ ·)).take 121 := by
          rw [hpre, List.map_append, ← List.append_assoc]
          exact take_full hlen
        rw [e]
        refine OG.weaken fun q _ g => ?_
        rcases (hG q g).1 with h | h
        · exact Or.inl h
        · exact Or.inr (by omega)
      · have hlen : ((L ++ (spellTo c m' v k).map (hd ++ ·)).take 121).length ≤ 120 := by omega
        have hpart := take_part hlen
        have hi : isPoint c i = true := by simp [isPoint, inRange]; omega
        obtain ⟨ii, rfl⟩ : ∃ ii : Nat, i = ii := ⟨i.toNat, by omega⟩
        rw [hpart] at OG
        have hLl : (L ++ (spellTo c m' v k).map (hd ++ ·)).length ≤ 120 := by rw [← hpart]; exact hlen
        generalize hLk : L ++ (spellTo c m' v k).map (hd ++ ·) = Lk at OG hLl
        (conv => whnf)
        refine HLit.empty ?_
        (conv => whnf)
        refine ⟨rfl, rfl, HApp.moreR (OwnR.push h' []) ((xv'.1).ext (Ext.push _ _)) (by simp; omega) (fun h2 r2 y2 B2 hr2 O2 => ?_)⟩
        have E2 : Ext h' h2 := (Ext.push h' [Row.own []]).but B2 (Nat.le_refl _)
        have hl2 : h'.length ≤ r2 := by simp at hr2; omega
        rw [List.nil_append] at O2
        (conv => whnf)
        refine (impl_reflectedR h' h2 r2 _ _ c ii v xc'.rows E2 hl2 O2 hC (by simp [isPoint, inRange] at hi; omega) hvl).mono ?_
        rintro r h3 ⟨rfl, B3, O3⟩
        have E3 : Ext h' h3 := E2.but B3 hl2
        (conv => whnf)
        refine (lib_CloneR _ rh _ hd (xh'.ext E3) (by omega)).mono ?_
        rintro r h4 ⟨y4, rfl, f4⟩
        obtain ⟨r4, hr4, O4⟩ := f4.row
        have E4 := E3.trans f4.1
        have hE3 := E3.1
        have O3' := O3.ext f4.1
        have hr2l := O3.lt
        (conv => whnf)
        refine HLit.one ?_
        (conv => whnf)
        refine ⟨rfl, rfl, HApp.snocR O4 (by omega) (fun h5 r5 y5 B5 hr5 O5 => ?_)⟩
        have E5 : Ext h' h5 := E4.but B5 (by omega)
        have hE4 := E4.1
        have hE5 := E5.1
        have O3'' := O3'.but B5 (by omega)
        have hnG2 : ¬ G r2 := fun g => by have := (hG r2 g).2; omega
        have hnG5 : ¬ G r5 := fun g => by have := (hG r5 g).2; omega
        have i2 : IntsN G h5 y2 (reflW c ii v) := ⟨O3''.ints, fun r off n e => by
          obtain ⟨t, e2, _⟩ := O3''
          rw [e2] at e
          cases e
          exact hnG2⟩
        (conv => whnf)
        refine (ih m' (by omega) h5 G _ _ _ _ (reflW c ii v) (hd ++ [(ii : Int)]) r5 Lk (fun q g => by have := (hG q g).2; omega) (xc'.keep (KeepN.ofExt E5) (fun q _ g => g)) i2 O5 hnG5 (by simpa using Pm) (by simp; omega) (OG.ext E5) hLl).mono ?_
        rintro r h6 ⟨y6, rfl, k6, O6⟩
        have hk6 := k6.1
        have e : (L ++ (spellTo c m' v (k + 1)).map (hd ++ ·)).take 121 = (Lk ++ (spellW c m' (reflW c ii v)).map ((hd ++ [(ii : Int)]) ++ ·)).take 121 := by
          rw [hstep, List.map_append, ← List.append_assoc, hLk, List.map_map]
          refine congrArg (fun z => (Lk ++ z).take 121) ?_
          have ei : (ii : Int).toNat = ii := by omega
          rw [ei]
          refine List.map_congr_left fun a _ => ?_
          simp
        (conv => whnf)
        refine HArith.fits (by omega) (by omega) ?_
        (conv => whnf)
        refine ⟨⟨k + 1, y6, fun q => (G q ∨ h5.length ≤ q) ∧ q < h6.length, rfl, by omega, K.trans ((KeepN.ofExt E5).trans k6 (fun q _ g => g)) fromF, fun q g => ⟨?_, g.2⟩, ?_⟩, by show (descs v v.length).length - (k + 1) < (descs v v.length).length - k; omega⟩
        · rcases g.1 with g | g
          · exact (hG q g).1
          · exact Or.inr (by omega)
        · rw [e]
          exact O6.weaken fun q hq g => ⟨g, hq⟩
    · have ek : k = (descs v v.length).length := by omega
      subst ek
      rw [spellTo_all] at OG
      (conv => whnf)
      refine ⟨_, rfl, k0, OG.weaken fun q _ g => ?_⟩
      rcases (hG q g).1 with h | h
      · exact Or.inl h
      · exact Or.inr (by omega)

abbrev TM (y : H0) (b : Bool) : HV := .tup [y, .pl (.bool b)]

theorem impl_ReducedWords (h : Heap) (x0 : H0) (a0 : List (List Int)) (x1 : H0) (a1 : List Int) (hx0 : Rows h x0 a0) (hx1 : Ints h x1 a1) (s0 : a0.length ≤ 1048576 ∧ tot a0 ≤ 1048576) (s1 : a1.length ≤ 1048576) :
    HCalls dm Try.prog 12 [.s x0, .s x1] h (fun r h' => ∃ y, r = TM y (redOk a0 a1) ∧ Ext h h' ∧ OwnM h.length h'.length h' y (reducedWords a0 a1)) := by
  refine calls_of_hFun (m := 0) kd_ok mixed Try.func12 rfl (by kernel_rfl) rfl rfl (of_decide_eq_true rfl) ?_; unfold hFun; (conv => whnf)
  refine (impl_IsWord _ _ _ a0 a1 hx0 hx1 (by omega) (by omega)).mono ?_
  rintro r h1 ⟨rfl, hh⟩
  subst h1
  (conv => whnf)
  cases hic : isWord a0 a1
  · rw [redOk_off hic, reducedWords_off (redOk_off hic)]
    (repeat (first | (refine ⟨rfl, Ints.len (by assumption) ?_⟩; conv => whnf) | (refine ⟨rfl, Rows.len (by assumption) ?_⟩; conv => whnf) | (refine ⟨rfl, HLen.sl ?_⟩; conv => whnf) | (refine ⟨rfl, At.load (by assumption) ?_⟩; conv => whnf) | (refine HIf.yes ?_; conv => whnf) | (refine HIf.no ?_; conv => whnf) | (refine HIf.isT (by assumption) ?_; conv => whnf) | (refine HIf.isF (by assumption) ?_; conv => whnf) | (refine HIf.decT (by assumption) ?_; conv => whnf) | (refine HIf.decF (by assumption) ?_; conv => whnf) | (refine HIf.beqT (by assumption) ?_; conv => whnf) | (refine HIf.beqF (by assumption) ?_; conv => whnf) | (refine HIf.bneT (by assumption) ?_; conv => whnf) | (refine HIf.bneF (by assumption) ?_; conv => whnf) | (refine ⟨rfl, Ints.idxN (by assumption) (by omega) (fun p hp => ?_)⟩; conv => whnf) | (refine ⟨rfl, Rows.idxN (by assumption) (by omega) (fun p y hp hy => ?_)⟩; conv => whnf) | (refine And.intro (show Kd.isBool _ = true from rfl) ?_; conv => whnf) | (refine ⟨rfl, Ints.idx (by assumption) (by omega) (by omega) (fun p hp => ?_)⟩; conv => whnf) | (refine ⟨rfl, Rows.idx (by assumption) (by omega) (by omega) (fun p y hp hy => ?_)⟩; conv => whnf) | (refine HArith.fits (by omega) (by omega) ?_; conv => whnf) | (refine Or.inl (And.intro (show Region.lexB _ _ = true by kernel_rfl) ?_); conv => whnf)))
    refine HLit.empty ?_
    (conv => whnf)
    exact ⟨_, rfl, Ext.push _ _, OwnM.none _⟩
  obtain ⟨hC, hl, hw⟩ := word_cartan hic
  obtain ⟨P, hn15, R⟩ := normF_red hic
  (repeat (first | (refine ⟨rfl, Ints.len (by assumption) ?_⟩; conv => whnf) | (refine ⟨rfl, Rows.len (by assumption) ?_⟩; conv => whnf) | (refine ⟨rfl, HLen.sl ?_⟩; conv => whnf) | (refine ⟨rfl, At.load (by assumption) ?_⟩; conv => whnf) | (refine HIf.yes ?_; conv => whnf) | (refine HIf.no ?_; conv => whnf) | (refine HIf.isT (by assumption) ?_; conv => whnf) | (refine HIf.isF (by assumption) ?_; conv => whnf) | (refine HIf.decT (by assumption) ?_; conv => whnf) | (refine HIf.decF (by assumption) ?_; conv => whnf) | (refine HIf.beqT (by assumption) ?_; conv => whnf) | (refine HIf.beqF (by assumption) ?_; conv => whnf) | (refine HIf.bneT (by assumption) ?_; conv => whnf) | (refine HIf.bneF (by assumption) ?_; conv => whnf) | (refine ⟨rfl, Ints.idxN (by assumption) (by omega) (fun p hp => ?_)⟩; conv => whnf) | (refine ⟨rfl, Rows.idxN (by assumption) (by omega) (fun p y hp hy => ?_)⟩; conv => whnf) | (refine And.intro (show Kd.isBool _ = true from rfl) ?_; conv => whnf) | (refine ⟨rfl, Ints.idx (by assumption) (by omega) (by omega) (fun p hp => ?_)⟩; conv => whnf) | (refine ⟨rfl, Rows.idx (by assumption) (by omega) (by omega) (fun p y hp hy => ?_)⟩; conv => whnf) | (refine HArith.fits (by omega) (by omega) ?_; conv => whnf) | (refine Or.inl (And.intro (show Region.lexB _ _ = true by kernel_rfl) ?_); conv => whnf)))
  refine (impl_image _ _ a0 _ a1 hx0 hx1 hC hw s1).mono ?_
  rintro r h1 ⟨y1, rfl, f1⟩
  (conv => whnf)
  refine HLit.empty ?_
  (conv => whnf)
  have E1 := f1.1
  have E2 := E1.pushed [Row.own []]
  have hE1 := E1.1
  refine (impl_spelled hC _ _ (fun _ => False) _ _ _ _ (imageOf a0 a1) [] h1.length [] (fun q g => g.elim) (hx0.ext E2).noF ⟨f1.ints.ext (Ext.push _ _), fun _ _ _ _ g => g⟩ (OwnR.push h1 []) (fun g => g) P (by simpa using hn15) (Or.inl ⟨rfl, rfl⟩) (by simp)).mono ?_
  rintro r h3 ⟨y3, rfl, k3, O3⟩
  have e0 : ([] ++ (spellW a0 (normF a0 a1).length (imageOf a0 a1)).map ([] ++ ·)).take 121 = (redAll a0 a1).take 121 := by
    rw [List.nil_append]
    refine congrArg (List.take 121) ?_
    exact List.map_id _
  rw [e0] at O3
  have E3 : Ext h h3 := E2.trans ⟨k3.1, fun q hq => k3.2 q hq (fun g => g)⟩
  (conv => whnf)
  refine ⟨rfl, O3.len ?_⟩
  (conv => whnf)
  refine HIf.dec (fun hov => ?_) (fun hfit => ?_)
  · have hov2 : 120 < (redAll a0 a1).length := by
      have := List.length_take_le 121 (redAll a0 a1)
      rw [List.length_take] at hov
      omega
    rw [redOk_over hov2, reducedWords_off (redOk_over hov2)]
    (conv => whnf)
    refine HLit.empty ?_
    (conv => whnf)
    exact ⟨_, rfl, E3.pushed _, (OwnM.none h3).lower E3.1⟩
  · have hfit2 : (redAll a0 a1).length ≤ 120 := by
      rw [List.length_take] at hfit
      omega
    rw [redOk_on hic hfit2, reducedWords_on (redOk_on hic hfit2)]
    rw [List.take_of_length_le (by omega)] at O3
    have hne : redAll a0 a1 ≠ [] := fun e => by
      have := (spell_mem hC _ _ P (by omega) _).2 R
      rw [show spellW a0 (normF a0 a1).length (imageOf a0 a1) = [] from e] at this
      simp at this
    (conv => whnf)
    rcases O3 with ⟨_, e⟩ | ⟨r, ρ, rfl, g2, g3, m⟩
    · exact absurd e hne
    refine ⟨_, rfl, E3, r, ρ, rfl, ?_, m.lt.1, fun i hi => ⟨?_, m.lt.2 i hi⟩, m⟩
    · rcases g2 with g | g
      · exact g.elim
      · have := E2.1
        simp at g
        omega
    · rcases g3 i hi with g | g
      · exact g.elim
      · have := E2.1
        simp at g
        omega

end Go.Proofs.Ytjgnnjegaedinaa.Hx
