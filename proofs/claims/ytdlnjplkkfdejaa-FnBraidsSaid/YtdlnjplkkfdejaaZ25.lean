/-
  What the laws of exchanges, of elements and of lengths say of words. Plain theory.
  What the law of braid moves draws.
  What the law of braid moves says, in plain words; lists of words compared.
  A long function walked in parts: between two parts only some slots are handed on, and what is said of them.
  From the model's readings of arguments to rows: a slice of slices of ints that came in.
-/
import Derived.Test.YtdlnjplkkfdejaaZ24
namespace Go.Proofs.Ytdlnjplkkfdejaa.Hx
open Go.RowKit

theorem word_iff {c : List (List Int)} {w : List Int} : isWord c w = true ↔ Cartan c ∧ w.length ≤ 15 ∧ lettersOk c w = true := by
  simp only [isWord, Bool.and_eq_true, decide_eq_true_eq, isCartan_iff, and_assoc]

theorem red_of {c : List (List Int)} {w : List Int} (h : isReduced c w = true) : Cartan c ∧ w.length ≤ 15 ∧ lettersOk c w = true ∧ PlayL c w.length (imageOf c w) := by
  have hw := isReduced_word h
  obtain ⟨P, _, _⟩ := normF_red hw
  simp only [isReduced, Bool.and_eq_true, decide_eq_true_eq] at h
  rw [h.2] at P
  obtain ⟨a, b, d⟩ := word_iff.1 hw
  exact ⟨a, b, d, P⟩

theorem normF_play {c : List (List Int)} {w : List Int} {n : Nat} (hC : Cartan c) (P : PlayL c n (imageOf c w)) (hn : n ≤ 30) : (normF c w).length = n := nf_len hC n _ 31 P hn (by omega)

theorem del_nat (w : List Int) (k : Nat) : del w (k : Int) = w.eraseIdx k := by simp [del]
theorem del_minus (w : List Int) : del w (-1) = w := by simp [del]

theorem mem_left {c : List (List Int)} {w : List Int} {i : Int} (hw : isWord c w = true) : i ∈ leftDescents c w ↔ isPoint c i = true ∧ (imageOf c w).getD i.toNat 0 < 0 := by
  rw [leftDescents_on hw, mem_descs, imageOf_length]
  constructor
  · rintro ⟨h1, h2, h3⟩
    exact ⟨by simp [isPoint, inRange]; omega, h3⟩
  · rintro ⟨h1, h2⟩
    have := point_of h1
    exact ⟨this.1, this.2, h2⟩

theorem exIdx_ge {c : List (List Int)} {w : List Int} {i : Int} : 0 ≤ exIdx c w i ↔ isReduced c w = true ∧ i ∈ leftDescents c w := by
  constructor
  · intro h
    unfold exIdx at h
    split at h
    · rename_i hc
      simpa using hc
    · omega
  · rintro ⟨h1, h2⟩
    obtain ⟨hC, h3, h4, P⟩ := red_of h1
    obtain ⟨hp, g3⟩ := (mem_left (isReduced_word h1)).1 h2
    obtain ⟨k, hk, e⟩ := exchange hC P (by omega) ⟨rfl, h4, rfl⟩ hp g3
    have hke : (w.eraseIdx k).length ≤ w.length := List.length_eraseIdx_le w k
    have he : exAt c w i k = true := by
      unfold exAt
      rw [decide_eq_true_eq, del_nat]
      exact lin_image hC e (letters_erase h4 k) (letters_cons.2 ⟨hp, h4⟩) (by omega) (by simp; omega)
    unfold exIdx
    rw [if_pos (by simp [h1, h2])]
    cases hf : (List.range w.length).find? (exAt c w i) with
    | some k => show (0 : Int) ≤ (k : Int); omega
    | none =>
      have := List.find?_eq_none.1 hf k (by simpa using hk)
      exact absurd he (by simpa using this)

theorem exIdx_same {c : List (List Int)} {w : List Int} {i : Int} (h : 0 ≤ exIdx c w i) (hl : w.length < 15) : areSame c (del w (exIdx c w i)) (i :: del w (-1)) = true := by
  obtain ⟨h1, h2⟩ := exIdx_ge.1 h
  obtain ⟨hC, h3, h4, P⟩ := red_of h1
  obtain ⟨hp, g3⟩ := (mem_left (isReduced_word h1)).1 h2
  have hk : ∃ k : Nat, exIdx c w i = k ∧ exAt c w i k = true := by
    unfold exIdx at h ⊢
    rw [if_pos (by simp [h1, h2])] at h ⊢
    cases hf : (List.range w.length).find? (exAt c w i) with
    | some k => exact ⟨k, rfl, List.find?_some hf⟩
    | none => rw [hf] at h; exact absurd h (by decide)
  obtain ⟨k, e1, e2⟩ := hk
  rw [e1, del_minus]
  have hke : (del w (k : Int)).length ≤ w.length := del_len _ _
  simp only [areSame, Bool.and_eq_true, decide_eq_true_eq]
  refine ⟨⟨word_iff.2 ⟨hC, by omega, lettersOk_del h4 _⟩, word_iff.2 ⟨hC, by simp; omega, letters_cons.2 ⟨hp, h4⟩⟩⟩, by simpa [exAt] using e2⟩

theorem delPair_hit {c : List (List Int)} {x : List Int} (h : (delPair c x).2.2 = true) : isWord c x = true ∧ ∃ i j : Nat, i < j ∧ j < x.length ∧ delPair c x = ((i : Int), (j : Int), true) ∧ hit c x i j = true := by
  cases hw : isWord c x
  · rw [delPair_off hw] at h; cases h
  refine ⟨rfl, ?_⟩
  unfold delPair at h ⊢
  rw [hw] at h ⊢
  simp only [if_true] at h ⊢
  split at h
  · rename_i i hi
    split at h
    · rename_i j hj
      have h1 := List.find?_some hj
      have h2 := List.mem_of_find?_eq_some hj
      simp only [Bool.and_eq_true, decide_eq_true_eq] at h1
      refine ⟨i, j, h1.1, by simpa using h2, ?_, h1.2⟩
      rfl
    · cases h
  · cases h

theorem delPair_iff {c : List (List Int)} {w : List Int} (hw : isWord c w = true) : (delPair c w).2.2 = !(isReduced c w) := by
  obtain ⟨hC, h15, hl⟩ := word_iff.1 hw
  obtain ⟨n, hn, P⟩ := play_image hC hl (by omega)
  have hnf := normF_play hC P (by omega)
  by_cases h : n < w.length
  · have hr : isReduced c w = false := by simp [isReduced, hw, hnf]; omega
    rw [hr]
    obtain ⟨a, b, h1, h2, h3⟩ := deletion hC w n hl (by omega) P h
    have l1 : (w.eraseIdx b).length ≤ w.length := List.length_eraseIdx_le w b
    have l2 : ((w.eraseIdx b).eraseIdx a).length ≤ (w.eraseIdx b).length := List.length_eraseIdx_le _ a
    have hh : hit c w a b = true := by
      unfold hit del2
      rw [decide_eq_true_eq, del_nat, del_nat]
      exact lin_image hC h3 (letters_erase (letters_erase hl b) a) hl (by omega) (by omega)
    cases hr : (delPair c w).2.2 with
    | true => rfl
    | false =>
      exfalso
      have hj : (firstJ c w a).isSome = true := by
        cases hf : firstJ c w a with
        | some j => rfl
        | none =>
          have := List.find?_eq_none.1 hf b (by simpa using h2)
          simp [h1, hh] at this
      have hi : (firstI c w).isSome = true := by
        cases hf : firstI c w with
        | some j => rfl
        | none =>
          have := List.find?_eq_none.1 hf a (by simp; omega)
          exact absurd hj this
      obtain ⟨i, ei⟩ := Option.isSome_iff_exists.1 hi
      have hj2 := List.find?_some ei
      obtain ⟨j, ej⟩ := Option.isSome_iff_exists.1 hj2
      unfold delPair at hr
      rw [if_pos hw, ei] at hr
      simp only [ej] at hr
      cases hr
  · have hr : isReduced c w = true := by simp [isReduced, hw, hnf]; omega
    rw [hr]
    cases hd : (delPair c w).2.2 with
    | false => rfl
    | true =>
      exfalso
      obtain ⟨_, i, j, h1, h2, _, hh⟩ := delPair_hit hd
      have hh' : imageOf c (del2 w i j) = imageOf c w := by simpa [hit] using hh
      unfold del2 at hh'
      rw [del_nat, del_nat] at hh'
      have e1 : ((w.eraseIdx j).eraseIdx i).length + 2 = w.length := by
        rw [List.length_eraseIdx_of_lt (by rw [List.length_eraseIdx_of_lt h2]; omega), List.length_eraseIdx_of_lt h2]
        omega
      obtain ⟨m, hm, Q⟩ := play_image hC (letters_erase (letters_erase hl j) i) (by omega)
      rw [hh'] at Q
      have := play_unique hC P Q (by omega) (by omega)
      omega

theorem delPair_same {c : List (List Int)} {w : List Int} (h : (delPair c w).2.2 = true) : areSame c (del (del w (delPair c w).2.1) (delPair c w).1) w = true := by
  obtain ⟨hw, i, j, h1, h2, e, hh⟩ := delPair_hit h
  obtain ⟨hC, h15, hl⟩ := word_iff.1 hw
  rw [e]
  have l1 : (del (del w (j : Int)) (i : Int)).length ≤ w.length := Nat.le_trans (del_len _ _) (del_len _ _)
  simp only [areSame, Bool.and_eq_true, decide_eq_true_eq]
  exact ⟨⟨word_iff.2 ⟨hC, by omega, lettersOk_del (lettersOk_del hl _) _⟩, hw⟩, of_decide_eq_true hh⟩

theorem areSame_trans {c : List (List Int)} {a b d : List Int} (h : areSame c a b = true) (k : areSame c b d = true) : areSame c a d = true := by
  simp only [areSame, Bool.and_eq_true, decide_eq_true_eq] at *
  exact ⟨⟨h.1.1, k.1.2⟩, h.2.trans k.2⟩
theorem areSame_symm {c : List (List Int)} {a b : List Int} (h : areSame c a b = true) : areSame c b a = true := by
  simp only [areSame, Bool.and_eq_true, decide_eq_true_eq] at *
  exact ⟨⟨h.1.2, h.1.1⟩, h.2.symm⟩
theorem areSame_self {c : List (List Int)} {a : List Int} (h : isWord c a = true) : areSame c a a = true := by
  simp [areSame, h]

theorem red_good {c : List (List Int)} : ∀ (f : Nat) (x o : List Int), isWord c x = true → x.length ≤ 2 * f + 1 → isReduced c (red c f x o).1 = true ∧ areSame c x (red c f x o).1 = true
  | f, x, o, hw, hl => by
    cases hd : (delPair c x).2.2 with
    | false =>
      rw [red_stop hd]
      have := delPair_iff hw
      rw [hd] at this
      exact ⟨by simpa using this, areSame_self hw⟩
    | true =>
      obtain ⟨_, i, j, h1, h2, e, hh⟩ := delPair_hit hd
      have hs := delPair_same hd
      obtain ⟨f', rfl⟩ : ∃ f', f = f' + 1 := ⟨f - 1, by omega⟩
      rw [red_step e]
      rw [e] at hs
      have hs' : areSame c (del (del x (j : Int)) (i : Int)) x = true := hs
      have hw' : isWord c (del (del x (j : Int)) (i : Int)) = true := by
        simp only [areSame, Bool.and_eq_true] at hs'
        exact hs'.1.1
      have e1 : (del (del x (j : Int)) (i : Int)).length + 2 = x.length := by
        rw [del_nat, del_nat, List.length_eraseIdx_of_lt (by rw [List.length_eraseIdx_of_lt h2]; omega), List.length_eraseIdx_of_lt h2]
        omega
      obtain ⟨g1, g2⟩ := red_good f' (del (del x (j : Int)) (i : Int)) (o ++ [(i : Int), (j : Int)]) hw' (by omega)
      exact ⟨g1, areSame_trans (areSame_symm hs') g2⟩

/-! ### Elements -/

theorem normF_of_image {c : List (List Int)} {a b : List Int} (h : imageOf c a = imageOf c b) : normF c a = normF c b := by
  unfold normF
  rw [h]

theorem normF_twice {c : List (List Int)} {w : List Int} (hC : Cartan c) (hw : lettersOk c w = true) (hl : w.length ≤ 30) : normF c (normF c w) = normF c w := normF_of_image (normF_image hC hw hl)

theorem mul_word {c : List (List Int)} {a b : List Int} (h : mulOk c a b = true) : isWord c a = true ∧ isWord c b = true ∧ Cartan c ∧ lettersOk c (a ++ b) = true ∧ (a ++ b).length ≤ 30 ∧ isWord c (mul c a b) = true := by
  have h' := h
  simp only [mulOk, Bool.and_eq_true, decide_eq_true_eq] at h
  obtain ⟨⟨h1, h2⟩, h3⟩ := h
  obtain ⟨hC, ha, la⟩ := word_iff.1 h1
  obtain ⟨_, hb, lb⟩ := word_iff.1 h2
  have hl : lettersOk c (a ++ b) = true := letters_app.2 ⟨la, lb⟩
  have hs : (a ++ b).length ≤ 30 := by simp; omega
  refine ⟨h1, h2, hC, hl, hs, ?_⟩
  rw [mul_on h']
  exact word_iff.2 ⟨hC, h3, normF_letters hC hl hs⟩

theorem mul_element {c : List (List Int)} {a b : List Int} (h : mulOk c a b = true) : isElement c (mul c a b) = true := by
  obtain ⟨_, _, hC, hl, hs, hw⟩ := mul_word h
  rw [isElement_on hw, decide_eq_true_eq, mul_on h]
  exact normF_twice hC hl hs

/-- A normal form is the word, as a map. -/
theorem normF_lin {c : List (List Int)} {w : List Int} (hC : Cartan c) (hw : lettersOk c w = true) (hl : w.length ≤ 29) : Lin c (normF c w) w :=
  faithful hC (normF_letters hC hw (by omega)) hw (Nat.le_trans (normF_len hC hw (by omega)) hl) hl (normF_image hC hw (by omega))

theorem mul_assoc {c : List (List Int)} {a b d : List Int} (hab : a.length + b.length ≤ 29) (hbd : b.length + d.length ≤ 29) (h1 : mulOk c a b = true) (h2 : mulOk c (mul c a b) d = true) (h3 : mulOk c b d = true) (h4 : mulOk c a (mul c b d) = true) :
    mul c (mul c a b) d = mul c a (mul c b d) := by
  obtain ⟨wa, wb, hC, lab, _, wab⟩ := mul_word h1
  obtain ⟨_, wd, _, l2, s2, _⟩ := mul_word h2
  obtain ⟨_, _, _, lbd, _, wbd⟩ := mul_word h3
  obtain ⟨_, _, _, l4, s4, _⟩ := mul_word h4
  rw [mul_on h2, mul_on h4]
  refine normF_of_image (lin_image hC ?_ l2 l4 (by omega) (by omega))
  have e1 : Lin c (mul c a b) (a ++ b) := by rw [mul_on h1]; exact normF_lin hC lab (by simp; omega)
  have e2 : Lin c (mul c b d) (b ++ d) := by rw [mul_on h3]; exact normF_lin hC lbd (by simp; omega)
  refine (e1.app (Lin.refl c d)).trans ?_
  rw [List.append_assoc]
  exact (Lin.app (Lin.refl c a) e2).symm

theorem rev_app_image {c : List (List Int)} {a b : List Int} (hC : Cartan c) (ha : lettersOk c a = true) (hb : lettersOk c b = true) (hla : a.length ≤ 15) (hlb : b.length ≤ 15) (h : Lin c b a.reverse) : imageOf c (a ++ b) = imageOf c [] :=
  lin_image hC (fun v => by
    rw [actS_app, h v]
    exact (actS_rev hC a ha v).1) (letters_app.2 ⟨ha, hb⟩) rfl (by simp; omega) (by simp)

theorem normF_nil {c : List (List Int)} (hC : Cartan c) : normF c [] = [] := List.eq_nil_of_length_eq_zero (normF_play (n := 0) hC (PlayL.ones c) (by omega))

theorem mul_inv {c : List (List Int)} {a : List Int} (h : isWord c a = true) : isWord c a.reverse = true ∧ mulOk c a (normalForm c a.reverse) = true ∧ mul c a (normalForm c a.reverse) = [] := by
  obtain ⟨hC, h15, hl⟩ := word_iff.1 h
  have hr : isWord c a.reverse = true := by rw [isWord_rev]; exact h
  obtain ⟨_, hrl, hlr⟩ := word_iff.1 hr
  have hn := (normF_word hr).2
  obtain ⟨_, hnl, hln⟩ := word_iff.1 hn
  have hi : imageOf c (a ++ normF c a.reverse) = imageOf c [] := rev_app_image hC hl hln h15 hnl (normF_lin hC hlr (by omega))
  have e : normF c (a ++ normF c a.reverse) = [] := (normF_of_image hi).trans (normF_nil hC)
  rw [normalForm_on hr]
  have hok : mulOk c a (normF c a.reverse) = true := by rw [mulOk_on h hn, e]; rfl
  exact ⟨hr, hok, by rw [mul_on hok, e]⟩

theorem commute_same {c : List (List Int)} {a b : List Int} (h : mulOk c a b = true) (hl : a.length + b.length ≤ 15) : commute c a b = areSame c (mul c a b) (b ++ a) := by
  obtain ⟨wa, wb, hC, lab, hs, wm⟩ := mul_word h
  obtain ⟨la, lb⟩ := letters_app.1 lab
  have wba : isWord c (b ++ a) = true := word_iff.2 ⟨hC, by simp; omega, letters_app.2 ⟨lb, la⟩⟩
  have e : imageOf c (mul c a b) = imageOf c (a ++ b) := by rw [mul_on h]; exact normF_image hC lab hs
  simp [commute, areSame, wa, wb, wm, wba, e]

theorem invol_order {c : List (List Int)} {w : List Int} (h : isInvol c w = true) : orderOf c w = 2 ∨ orderOf c w = 0 := by
  simp only [isInvol, Bool.and_eq_true, decide_eq_true_eq] at h
  obtain ⟨⟨hw, hpos⟩, hi⟩ := h
  obtain ⟨hC, h15, hl⟩ := word_iff.1 hw
  unfold orderOf
  split
  · left
    rw [ordF_succ, List.nil_append, ordG_next (by omega) (by have := (normF_word hw).1; omega), ordF_succ]
    have hr : isWord c w.reverse = true := by rw [isWord_rev]; exact hw
    obtain ⟨_, hrl, hlr⟩ := word_iff.1 hr
    have L1 : Lin c w w.reverse := faithful hC hl hlr (by omega) (by omega) hi
    obtain ⟨_, hnl, hln⟩ := word_iff.1 (normF_word hw).2
    have L2 : Lin c (normF c w) w.reverse := (normF_lin hC hl (by omega)).trans L1
    have hi2 : imageOf c (normF c w ++ w) = imageOf c [] := lin_image hC (fun v => by
      rw [actS_app, L2 _]
      exact (actS_rev hC w hl v).2) (letters_app.2 ⟨hln, hl⟩) rfl (by simp; omega) (by simp)
    rw [normF_of_image hi2, normF_nil hC, ordG_zero rfl]
    rfl
  · right; rfl

/-! ### Lengths -/

theorem length_step {c : List (List Int)} {w : List Int} {i : Int} (hw : isWord c w = true) (hl : w.length < 15) (hi : isPoint c i = true) :
    isWord c (i :: w) = true ∧ (i ∈ leftDescents c w → lengthI c (i :: w) = lengthI c w - 1) ∧ (i ∉ leftDescents c w → lengthI c (i :: w) = lengthI c w + 1) := by
  obtain ⟨hC, h15, hlw⟩ := word_iff.1 hw
  have p1 := point_of hi
  have hw2 : isWord c (i :: w) = true := word_iff.2 ⟨hC, by simp; omega, letters_cons.2 ⟨hi, hlw⟩⟩
  obtain ⟨n, hn, P⟩ := play_image hC hlw (by omega)
  have e1 := normF_play hC P (by omega)
  rw [lengthI_on hw, lengthI_on hw2, mem_left hw, e1]
  refine ⟨hw2, fun h => ?_, fun h => ?_⟩
  · obtain ⟨m, hm, Q⟩ := P.down hC (by omega) (i := i.toNat) (by omega) h.2
    have e2 : (normF c (i :: w)).length = m := normF_play hC (by rw [imageW_cons]; exact Q) (by omega)
    rw [e2]
    omega
  · have hne := P.ne hC (i := i.toNat) (by omega)
    have hpos : 0 < (imageOf c w).getD i.toNat 0 := by
      have : ¬ (imageOf c w).getD i.toNat 0 < 0 := fun k => h ⟨hi, k⟩
      omega
    have U : PlayL c (n + 1) (imageOf c (i :: w)) := by
      rw [imageW_cons]
      refine ⟨by rw [reflW_length]; exact P.1, ?_⟩
      rw [pos_refl hC P (by omega) (by omega)]
      exact P.2.up (matOk hC) (by omega) hpos
    have e2 := normF_play hC U (by omega)
    rw [e2]
    omega

theorem length_rev {c : List (List Int)} {w : List Int} (hw : isWord c w = true) : lengthI c w.reverse = lengthI c w := by
  obtain ⟨hC, h15, hl⟩ := word_iff.1 hw
  have hr : isWord c w.reverse = true := by rw [isWord_rev]; exact hw
  obtain ⟨n, hn, P⟩ := play_image hC hl (by omega)
  obtain ⟨m, hm, Q⟩ := play_image hC (letters_rev hl) (by simp; omega)
  have hm' : m ≤ w.length := by simpa using hm
  rw [lengthI_on hw, lengthI_on hr, normF_play hC P (by omega), normF_play hC Q (by omega), play_rev hC hl (by omega) P Q (by omega) (by omega)]

theorem length_right {c : List (List Int)} {w : List Int} {i : Int} (hw : isWord c w = true) (hl : w.length < 15) (hi : isPoint c i = true) :
    isWord c (w ++ [i]) = true ∧ (i ∈ leftDescents c w.reverse → lengthI c (w ++ [i]) = lengthI c w - 1) ∧ (i ∉ leftDescents c w.reverse → lengthI c (w ++ [i]) = lengthI c w + 1) := by
  have hr : isWord c w.reverse = true := by rw [isWord_rev]; exact hw
  obtain ⟨h1, h2, h3⟩ := length_step hr (by simpa using hl) hi
  have e : (w ++ [i]).reverse = i :: w.reverse := by simp
  have hw2 : isWord c (w ++ [i]) = true := by rw [← isWord_rev, e]; exact h1
  rw [← e, length_rev hw2, length_rev hw] at h2 h3
  exact ⟨hw2, h2, h3⟩

/-- Each letter turns the length's parity. -/
theorem play_parity {c : List (List Int)} (hC : Cartan c) : ∀ (w : List Int) (n : Nat), lettersOk c w = true → w.length ≤ 30 → n ≤ 30 → PlayL c n (imageOf c w) → n % 2 = w.length % 2
  | [], n, _, _, hn, P => by
    have := play_unique hC P (PlayL.ones c) hn (by omega)
    subst this
    rfl
  | i :: w, n, hw, hl, hn, P => by
    obtain ⟨hi, hlw⟩ := letters_cons.1 hw
    have p1 := point_of hi
    simp only [List.length_cons] at hl ⊢
    obtain ⟨m, hm, Q⟩ := play_image hC hlw (by omega)
    have ih := play_parity hC w m hlw (by omega) (by omega) Q
    have hne := Q.ne hC (i := i.toNat) (by omega)
    by_cases hlt : (imageOf c w).getD i.toNat 0 < 0
    · obtain ⟨k, hk, K⟩ := Q.down hC (by omega) (i := i.toNat) (by omega) hlt
      have := play_unique hC P (by rw [imageW_cons]; exact K) hn (by omega)
      omega
    · have U : PlayL c (m + 1) (imageOf c (i :: w)) := by
        rw [imageW_cons]
        refine ⟨by rw [reflW_length]; exact Q.1, ?_⟩
        rw [pos_refl hC Q (by omega) (by omega)]
        exact Q.2.up (matOk hC) (by omega) (by show 0 < (imageOf c w).getD i.toNat 0; omega)
      have := play_unique hC P U hn (by omega)
      omega

theorem sign_parity {a b : List Int} (h : a.length % 2 = b.length % 2) : signOf a = signOf b := by
  have e : ∀ n : Nat, (n : Int).tmod 2 = ((n % 2 : Nat) : Int) := fun n => by
    rw [Int.tmod_eq_emod_of_nonneg (by omega)]
    omega
  unfold signOf
  rw [e, e, h]

theorem form_facts {c : List (List Int)} {w : List Int} (hw : isWord c w = true) : areSame c w (normalForm c w) = true ∧ isReduced c (normalForm c w) = true ∧ signOf w = signOf (normalForm c w) := by
  obtain ⟨hC, h15, hl⟩ := word_iff.1 hw
  rw [normalForm_on hw]
  obtain ⟨hn1, hn⟩ := normF_word hw
  obtain ⟨P, _, R⟩ := normF_red hw
  refine ⟨by simp [areSame, hw, hn, normF_image hC hl (by omega)], ?_, ?_⟩
  · simp only [isReduced, hn, Bool.true_and, decide_eq_true_eq]
    rw [normF_twice hC hl (by omega)]
  · exact sign_parity (play_parity hC w _ hl (by omega) (by omega) P).symm

/-- The first of all reduced words is the normal form. -/
theorem spell_head {c : List (List Int)} (hC : Cartan c) : ∀ (n : Nat) (v : List Int) (f : Nat), PlayL c n v → n ≤ 29 → n ≤ f → ∃ t, spellW c n v = nf c f v :: t
  | 0, v, f, P, _, _ => by
    have hst := P.2.stop
    refine ⟨[], ?_⟩
    have e : nf c f v = [] := List.eq_nil_of_length_eq_zero (nf_len hC 0 v f P (by omega) (by omega))
    rw [e]
    rfl
  | n + 1, v, f, P, hn, hf => by
    obtain ⟨f', rfl⟩ : ∃ f', f = f' + 1 := ⟨f - 1, by omega⟩
    have hfd : fd v < v.length := by
      by_cases h : fd v < v.length
      · exact h
      · have := fd_end h
        have := P.2.stop (fun i hi => this i (by rw [P.1]; exact hi))
        omega
    have hneg := fd_lt hfd
    have hnf : nf c (f' + 1) v = (fd v : Int) :: nf c f' (reflW c (fd v) v) := by
      rw [nf, if_pos hfd]
    obtain ⟨m, hm, Q⟩ := P.down hC (by omega) (i := fd v) (by rw [← P.1]; exact hfd) hneg
    obtain rfl : m = n := by omega
    obtain ⟨t, ht⟩ := spell_head hC m (reflW c (fd v) v) f' Q (by omega) (by omega)
    have hd : ∃ t, descs v v.length = (fd v : Int) :: t := by
      have hmem : (fd v : Int) ∈ descs v v.length := mem_descs.2 ⟨by omega, by omega, by simpa using hneg⟩
      have hs := descs_sorted v v.length
      cases hds : descs v v.length with
      | nil => rw [hds] at hmem; cases hmem
      | cons x t =>
        rw [hds] at hs hmem
        have hx : x ∈ descs v v.length := by rw [hds]; simp
        obtain ⟨x1, x2, x3⟩ := mem_descs.1 hx
        rcases List.mem_cons.1 hmem with e | e
        · exact ⟨t, by rw [e]⟩
        · have := (List.pairwise_cons.1 hs).1 _ e
          have hle : fd v ≤ x.toNat := by
            unfold fd
            refine Nat.le_of_not_lt fun hlt => ?_
            have := List.not_of_lt_findIdx hlt
            have e2 : v.getD x.toNat 0 = v[x.toNat]'(by omega) := by simp [List.getD, show x.toNat < v.length by omega]
            rw [e2] at x3
            exact absurd x3 (of_decide_eq_false this)
          omega
    obtain ⟨t2, ht2⟩ := hd
    rw [spellW, ht2, List.flatMap_cons, hnf]
    simp only [Int.toNat_natCast]
    rw [ht]
    exact ⟨_, rfl⟩

theorem reduced_head {c : List (List Int)} {w : List Int} (h : redOk c w = true) : ∃ t, reducedWords c w = normalForm c w :: t := by
  have hw : isWord c w = true := by
    simp only [redOk, Bool.and_eq_true] at h
    exact h.1
  obtain ⟨hC, _, _⟩ := word_iff.1 hw
  obtain ⟨P, h1, _⟩ := normF_red hw
  rw [reducedWords_on h, normalForm_on hw]
  obtain ⟨t, ht⟩ := spell_head hC _ _ 31 P (by omega) (by omega)
  exact ⟨t, ht⟩

end Go.Proofs.Ytdlnjplkkfdejaa.Hx

namespace Go.Proofs.Ytdlnjplkkfdejaa.Hx
open Go.RowKit

set_option smartUnfolding false

theorem spec_DrawBraidAt (h : Heap) (y : H0) (l : List Int) (hy : Bytes h y l) : HCalls Try.prog 29 [.s y] h (fun v h' => ∃ x L z w n, v = .tup [x, z, ci n] ∧ Ext h h' ∧ Rows h' x L ∧ Ints h' z w ∧ Small L ∧ w.length ≤ 7 ∧ -1 ≤ n ∧ n ≤ 5) := by
  refine calls_of_hFun (m := 0) kd_ok mixed Try.func29 rfl (by kernel_rfl) rfl rfl (of_decide_eq_true rfl) ?_; unfold hFun; (conv => whnf)
  refine (spec_l8Two _ _ _ hy).mono ?_
  rintro v h1 ⟨x, L, z, w, u, t, rfl, E, R, I1, I2, S, h2, h3⟩
  (conv => whnf)
  refine ⟨rfl, (hy.ext E).len ?_⟩
  (conv => whnf)
  refine HRem.of (by decide) ?_
  (conv => whnf)
  refine HIf.beq (fun h0 => ?_) (fun h0 => ?_)
  · (conv => whnf)
    refine ⟨rfl, (hy.ext E).len ?_⟩
    (conv => whnf)
    refine HRem.of (by decide) ?_
    have hm := tmod_pos (a := (l.length : Int)) (b := 5) (by omega) (by omega)
    (conv => whnf)
    refine HArith.fits (by omega) (by omega) ?_
    (conv => whnf)
    exact ⟨_, _, _, _, _, rfl, E, R, I1, S, h2, by omega, by omega⟩
  · (conv => whnf)
    refine ⟨rfl, (hy.ext E).len ?_⟩
    (conv => whnf)
    refine HRem.of (by decide) ?_
    have hm := tmod_pos (a := (l.length : Int)) (b := 4) (by omega) (by omega)
    (conv => whnf)
    exact ⟨_, _, _, _, _, rfl, E, R, I2, S, h3, by omega, by omega⟩

theorem spec_l11Small (h : Heap) (y : H0) (l : List Int) (hy : Bytes h y l) : HCalls Try.prog 68 [.s y] h (fun v h' => ∃ x L z w, v = .tup [x, z] ∧ Ext h h' ∧ RowsN (fun q => q < h.length) h' x L ∧ IntsN (fun q => q < h.length) h' z w ∧ Small L ∧ w.length ≤ 7) := by
  refine calls_of_hFun (m := 0) kd_ok mixed Try.func68 rfl (by kernel_rfl) rfl rfl (of_decide_eq_true rfl) ?_; unfold hFun; (conv => whnf)
  refine (spec_l1New _ _ _ hy).mono ?_
  rintro v h1 ⟨c, r, rfl, E1, hr, C1⟩
  have r1 := C1.lt
  (conv => whnf)
  refine (spec_l2Any _ r _ C1).mono ?_
  rintro v h2 ⟨x, L, rfl, K2, C2, R2, S⟩
  replace R2 : RowsN (fun p => p = r ∨ p < h.length) h2 x L := R2.more (fun p hp g => by have := E1.1; omega)
  have n2 := K2.1
  (conv => whnf)
  refine (spec_l5Word _ r _ _ L 7 C2 (R2.more (fun p hp g => Or.inl g)) S.sz.1 (by omega)).mono ?_
  rintro v h3 ⟨z, w, q, rfl, K3, C3, hq, O3, hw⟩
  replace R2 := R2.keep (G := fun p => p < h.length) (KeepN.weaken K3 (fun p e => Or.inl e)) (fun _ _ g => Or.inr g)
  have K3 := K2.then K3
  have hE := E1.1
  (conv => whnf)
  exact ⟨_, _, _, _, rfl, KeepN.ext K3 (fun p e => by omega) E1, R2, ⟨O3.ints, fun p o n e g => by obtain ⟨t, e2, _⟩ := O3; rw [e2] at e; cases e; omega⟩, S, hw⟩

theorem spec_DrawReducedWords (h : Heap) (y : H0) (l : List Int) (hy : Bytes h y l) : HCalls Try.prog 32 [.s y] h (fun v h' => ∃ x L z w, v = .tup [x, z] ∧ Ext h h' ∧ RowsN (fun q => q < h.length) h' x L ∧ IntsN (fun q => q < h.length) h' z w ∧ Small L ∧ w.length ≤ 7) := by
  refine calls_of_hFun (m := 0) kd_ok mixed Try.func32 rfl (by kernel_rfl) rfl rfl (of_decide_eq_true rfl) ?_; unfold hFun; (conv => whnf)
  refine (spec_l11Small _ _ _ hy).mono ?_
  rintro v h1 ⟨x, L, z, w, rfl, rest⟩
  (conv => whnf)
  exact ⟨_, _, _, _, rfl, rest⟩

theorem spec_DrawBraidPath (h : Heap) (y : H0) (l : List Int) (hy : Bytes h y l) : HCalls Try.prog 37 [.s y] h (fun v h' => ∃ x L z w u t, v = .tup [x, z, u] ∧ Ext h h' ∧ RowsN (fun q => q < h.length) h' x L ∧ IntsN (fun q => q < h.length) h' z w ∧ IntsN (fun q => q < h.length) h' u t ∧ Small L ∧ w.length ≤ 15 ∧ t.length ≤ 15) := by
  refine calls_of_hFun (m := 0) kd_ok mixed Try.func37 rfl (by kernel_rfl) rfl rfl (of_decide_eq_true rfl) ?_; unfold hFun; (conv => whnf)
  refine (spec_l1New _ _ _ hy).mono ?_
  rintro v h1 ⟨c, r, rfl, E1, hr, C1⟩
  have r1 := C1.lt
  (conv => whnf)
  refine (spec_l11Small _ _ _ (hy.ext E1)).mono ?_
  rintro v h2 ⟨x, L, z, w, rfl, E2, R2, I2, S, hw⟩
  have hE1 := E1.1
  replace R2 : RowsN (fun p => p = r ∨ p < h.length) h2 x L := R2.more (fun p hp g => by omega)
  replace I2 : IntsN (fun p => p = r ∨ p < h.length) h2 z w := ⟨I2.1, fun q o n e g => I2.2 q o n e (by have g : q = r ∨ q < h.length := g; show q < h1.length; omega)⟩
  have kp : ∀ {a b : Heap} {x : H0} {L : List (List Int)}, RowsN (fun p => p = r ∨ p < h.length) a x L → KeepR r a b → RowsN (fun p => p = r ∨ p < h.length) b x L := fun R k => R.keep (KeepN.weaken k (fun p e => Or.inl e)) (fun _ _ g => g)
  have ki : ∀ {a b : Heap} {x : H0} {l : List Int}, IntsN (fun p => p = r ∨ p < h.length) a x l → KeepR r a b → IntsN (fun p => p = r ∨ p < h.length) b x l := fun R k => R.keep (KeepN.weaken k (fun p e => Or.inl e)) (fun _ _ g => g)
  have fr : ∀ {a : Heap} {x : H0} {L : List (List Int)}, RowsN (fun p => p = r ∨ p < h.length) a x L → RowsN (fun p => p < h.length) a x L := fun R => R.more (fun _ _ g => Or.inr g)
  have fi : ∀ {a : Heap} {x : H0} {l : List Int}, IntsN (fun p => p = r ∨ p < h.length) a x l → IntsN (fun p => p < h.length) a x l := fun R => ⟨R.1, fun q o n e g => R.2 q o n e (Or.inr g)⟩
  have fo : ∀ {a : Heap} {q : Nat} {x : H0} {l : List Int}, h.length ≤ q → OwnR q a x l → IntsN (fun p => p < h.length) a x l := fun {_ q _ _} hq O => ⟨O.ints, fun p o n e g => by
    obtain ⟨t, e2, _⟩ := O
    rw [e2] at e
    cases e
    have g : q < h.length := g
    omega⟩
  have C2 := C1.ext E2
  have n2 := E2.1
  (conv => whnf)
  refine (spec_ReducedWords _ _ _ _ _ R2.rows I2.1 S.sz (by omega)).mono ?_
  rintro v h3 ⟨y3, rfl, E3, O3⟩
  have R3 := R2.keep (G := fun p => p = r ∨ p < h.length) (KeepN.ofExt E3) (fun _ _ g => g)
  have I3 := I2.keep (G := fun p => p = r ∨ p < h.length) (KeepN.ofExt E3) (fun _ _ g => g)
  have C3 := C2.ext E3
  have n3 := E3.1
  have E13 := (E1.trans E2).trans E3
  cases hok : redOk L w with
  | false =>
    (conv => whnf)
    (repeat (refine HIf.no ?_; (conv => whnf)))
    refine (spec_l5Word _ r _ _ L 5 C3 (R3.more (fun _ _ g => Or.inl g)) S.sz.1 (by omega)).mono ?_
    rintro v h4 ⟨u, t, q, rfl, K4, C4, hq, O4, ht⟩
    (conv => whnf)
    exact ⟨_, _, _, _, _, _, rfl, KeepN.ext K4 (fun p e => by omega) E13, fr (kp R3 K4), fi (ki I3 K4), fo (by omega) O4, S, by omega, by omega⟩
  | true =>
    obtain ⟨tl, htl⟩ := reduced_head hok
    have hsz := reducedWords_size L w
    have hin15 : ∀ i, i < (reducedWords L w).length → ((reducedWords L w).getD i []).length ≤ 15 := fun i hi => by
      have hm := getD_mem hi
      have h2 := hok
      simp only [redOk, Bool.and_eq_true, decide_eq_true_eq] at h2
      obtain ⟨P, hn, R⟩ := normF_red h2.1
      rw [reducedWords_on hok] at hm ⊢
      have := ((spell_mem (word_cartan h2.1).1 _ _ P (by omega) _).1 hm).1
      omega
    have hne : 0 < (reducedWords L w).length := by rw [htl]; simp
    generalize reducedWords L w = M at *
    obtain ⟨rm, ρ, rfl, g1, g2, g3, m⟩ := O3
    (conv => whnf)
    (repeat (refine HIf.yes ?_; (conv => whnf)))
    refine (spec_l1Once _ r _ 6 C3 (by omega)).mono ?_
    rintro v h4 ⟨b, rfl, K4, C4⟩
    have R4 := kp R3 K4
    have I4 := ki I3 K4
    have m4 := m.keep K4 (by omega) (fun k hk => by have := g3 k hk; omega)
    have n4 := K4.1
    cases b with
    | true =>
      (conv => whnf)
      (repeat (first | (refine HIf.yes ?_; (conv => whnf)) | (refine HIf.no ?_; (conv => whnf))))
      refine (spec_l5Word _ r _ _ L 5 C4 (R4.more (fun _ _ g => Or.inl g)) S.sz.1 (by omega)).mono ?_
      rintro v h5 ⟨u, t, q, rfl, K5, C5, hq, O5, ht⟩
      (conv => whnf)
      exact ⟨_, _, _, _, _, _, rfl, KeepN.ext (K4.then K5) (fun p e => by omega) E13, fr (kp R4 K5), fi (ki I4 K5), fo (by omega) O5, S, by omega, by omega⟩
    | false =>
      (conv => whnf)
      (repeat (first | (refine HIf.yes ?_; (conv => whnf)) | (refine HIf.no ?_; (conv => whnf))))
      refine ⟨rfl, m4.rows.len ?_⟩
      (conv => whnf)
      refine (spec_l1Below _ r _ _ C4 (by omega)).mono ?_
      rintro v h5 ⟨a, rfl, a0, a1, _, K5, C5⟩
      obtain ⟨a, rfl⟩ : ∃ k : Nat, a = k := ⟨a.toNat, by omega⟩
      have ha : a < M.length := by have := a1 (by omega); omega
      have R5 := kp R4 K5
      have m5 := m4.keep K5 (by omega) (fun k hk => by have := g3 k hk; omega)
      have n5 := K5.1
      (conv => whnf)
      refine ⟨rfl, m5.idx ha (fun p hp => ?_)⟩
      (conv => whnf)
      refine ⟨rfl, hp.load ?_⟩
      (conv => whnf)
      refine Or.inr (Or.inr (Or.inr (Exists.intro [0, 1, 2, 3, 4] (Exists.intro (Tr.one 5 (Tr.one 6 (Tr.two 7 (Tr.two 8 (Tr.one 9 (Tr.one 10 (Tr.one 11 Tr.done))) 9 (Tr.two 8 (Tr.one 10 (Tr.one 11 Tr.done)) 10 (Tr.one 8 (Tr.one 11 Tr.done)))) 9 (Tr.two 7 (Tr.two 8 (Tr.one 10 (Tr.one 11 Tr.done)) 10 (Tr.one 8 (Tr.one 11 Tr.done))) 10 (Tr.one 7 (Tr.one 8 (Tr.one 11 Tr.done))))))) (And.intro (show treeAll _ _ _ = true by kernel_rfl) ?_))))); (conv => whnf)
      refine ⟨rfl, m5.rows.len ?_⟩
      (conv => whnf)
      refine (spec_l1Below _ r _ _ C5 (by omega)).mono ?_
      rintro v h6 ⟨b, rfl, b0, b1, _, K6, C6⟩
      obtain ⟨b, rfl⟩ : ∃ k : Nat, b = k := ⟨b.toNat, by omega⟩
      have hb : b < M.length := by have := b1 (by omega); omega
      have R6 := kp R5 K6
      have m6 := m5.keep K6 (by omega) (fun k hk => by have := g3 k hk; omega)
      (conv => whnf)
      (repeat' (first
        | (refine ⟨rfl, m6.idx hb (fun p2 hp2 => ?_)⟩; (conv => whnf))
        | (refine ⟨rfl, hp2.load ?_⟩; (conv => whnf))
        | (refine And.intro ?_ ?_ <;> (conv => whnf))))
      all_goals exact ⟨_, _, _, _, _, _, rfl, KeepN.ext ((K4.then K5).then K6) (fun p e => by omega) E13, fr R6, fo (by have := g3 a ha; omega) (m6.inner' ha), fo (by have := g3 b hb; omega) (m6.inner' hb), S, hin15 a ha, hin15 b hb⟩

theorem spec_DrawApplyBraids (h : Heap) (y : H0) (l : List Int) (hy : Bytes h y l) : HCalls Try.prog 39 [.s y] h (fun v h' => ∃ x L z w u t, v = .tup [x, z, u] ∧ Ext h h' ∧ Rows h' x L ∧ Ints h' z w ∧ Ints h' u t ∧ Small L ∧ w.length ≤ 15 ∧ t.length ≤ 121) := by
  refine calls_of_hFun (m := 0) kd_ok mixed Try.func39 rfl (by kernel_rfl) rfl rfl (of_decide_eq_true rfl) ?_; unfold hFun; (conv => whnf)
  refine (spec_l1New _ _ _ hy).mono ?_
  rintro v h1 ⟨c, r, rfl, E1, hr, C1⟩
  have r1 := C1.lt
  (conv => whnf)
  refine (spec_DrawBraidPath _ _ _ (hy.ext E1)).mono ?_
  rintro v h2 ⟨x, L, z, w, u, t, rfl, E2, R2, I2, J2, S, hw, ht⟩
  replace R2 : RowsN (fun p => p = r) h2 x L := R2.more (fun p hp g => by omega)
  replace I2 : IntsN (fun p => p = r) h2 z w := ⟨I2.1, fun q o n e g => I2.2 q o n e (by have g : q = r := g; show q < h1.length; omega)⟩
  have C2 := C1.ext E2
  have n2 := E2.1
  (conv => whnf)
  refine (spec_BraidPath _ _ _ _ _ _ _ R2.rows I2.1 J2.1 S.sz (by omega) (by omega)).mono ?_
  rintro v h3 ⟨y3, rfl, f3⟩
  have hpl := bpPath_len L w t
  obtain ⟨q, hq, O3⟩ := f3.row
  generalize bpPath L w t = P at *
  generalize bpOk L w t = ok at *
  have E3 := f3.1
  have R3 := R2.keep (G := fun p => p = r) (KeepN.ofExt E3) (fun _ _ g => g)
  have I3 := I2.keep (G := fun p => p = r) (KeepN.ofExt E3) (fun _ _ g => g)
  have C3 := C2.ext E3
  have n3 := E3.1
  have E13 := (E1.trans E2).trans E3
  (conv => whnf)
  refine (spec_l1Once _ r _ 4 C3 (by omega)).mono ?_
  rintro v h4 ⟨b, rfl, K4, C4⟩
  have R4 := R3.keep K4 (fun _ _ g => g)
  have I4 := I3.keep K4 (fun _ _ g => g)
  have O4 := O3.keep K4 (by omega)
  have n4 := K4.1
  (conv => whnf)
  refine HIf.split (fun hb => ?_) (fun hb => ?_)
  · (conv => whnf)
    refine (spec_l1Below _ r _ 5 C4 (by omega)).mono ?_
    rintro v h5 ⟨m, rfl, m0, m1, _, K5, C5⟩
    have m1 := m1 (by omega)
    have R5 := R4.keep K5 (fun _ _ g => g)
    have I5 := I4.keep K5 (fun _ _ g => g)
    have O5 := O4.keep K5 (by omega)
    have n5 := K5.1
    have hIz : ∀ p o n, z = .sl p o n → p < h2.length := fun p o n e => by
      have := I2.1
      subst e
      exact Shows.in_lt this
    have RQ : RowsN (fun p => p = r ∨ p = q) h2 x L := R2.more (fun p hp g => by omega)
    have IQ : IntsN (fun p => p = r ∨ p = q) h2 z w := ⟨I2.1, fun p o n e g => by
      have g : p = r ∨ p = q := g
      have := hIz p o n e
      rcases g with g | g
      · exact I2.2 p o n e g
      · omega⟩
    have K35 : KeepN (fun p => p = r ∨ p = q) h2 h5 := ⟨by omega, fun p hp hn => by
      have e1 := E3.2 p hp
      have e2 := K4.2 p (by omega) (fun e => hn (Or.inl e))
      have e3 := K5.2 p (by omega) (fun e => hn (Or.inl e))
      rw [e3, e2, e1]⟩
    replace RQ := RQ.keep (G := fun p => p = r ∨ p = q) K35 (fun _ _ g => g)
    replace IQ := IQ.keep (G := fun p => p = r ∨ p = q) K35 (fun _ _ g => g)
    (conv => whnf)
    refine HArith.fits (by omega) (by omega) ?_
    (conv => whnf)
    refine HLit.one ?_
    (conv => whnf)
    refine ⟨rfl, rfl, HApp.snocR O5 (by omega) (fun h6 r6 y6 B6 hr6 O6 => ?_)⟩
    have B6' : KeepN (fun p => p = r ∨ p = q) h5 h6 := KeepN.weaken (F := fun p => p = q) B6 (fun p e => Or.inr e)
    (conv => whnf)
    exact ⟨_, _, _, _, _, _, rfl, KeepN.ext (F := fun p => p = q) B6 (fun p e => by omega) (KeepN.ext (K4.then K5) (fun p e => by omega) E13), (RQ.keep B6' (fun _ _ g => g)).rows, (IQ.keep B6' (fun _ _ g => g)).1, O6.ints, S, hw, by rw [List.length_append, List.length_cons, List.length_nil]; omega⟩
  · (conv => whnf)
    exact ⟨_, _, _, _, _, _, rfl, KeepN.ext K4 (fun p e => by omega) E13, R4.rows, I4.1, O4.ints, S, hw, by omega⟩

end Go.Proofs.Ytdlnjplkkfdejaa.Hx

namespace Go.Proofs.Ytdlnjplkkfdejaa.Hx
open Go.RowKit

theorem red_isReduced {c : List (List Int)} {n : Nat} {v x : List Int} (hC : Cartan c) (P : PlayL c n v) (hn : n ≤ 15) (R : Red c n v x) : isReduced c x = true := by
  have P2 : PlayL c n (imageOf c x) := by rw [R.2.2]; exact P
  have := normF_play hC P2 (by omega)
  simp only [isReduced, isWord, Bool.and_eq_true, decide_eq_true_eq]
  exact ⟨⟨⟨(isCartan_iff c).2 hC, by rw [R.1]; exact hn⟩, R.2.1⟩, by rw [this, R.1]⟩

/-- Every reduced word: it is one, it is the element's, and a path of braid moves leads to it. -/
theorem red_words {c : List (List Int)} {u : List Int} (h : redOk c u = true) {i : Nat} (hi : i < (reducedWords c u).length) :
    isReduced c ((reducedWords c u).getD i []) = true ∧ areSame c ((reducedWords c u).getD i []) u = true ∧
      bpOk c ((reducedWords c u).getD 0 []) ((reducedWords c u).getD i []) = true ∧ apOk c ((reducedWords c u).getD 0 []) (bpPath c ((reducedWords c u).getD 0 []) ((reducedWords c u).getD i [])) = true ∧
      apW c ((reducedWords c u).getD 0 []) (bpPath c ((reducedWords c u).getD 0 []) ((reducedWords c u).getD i [])) = (reducedWords c u).getD i [] ∧ ((reducedWords c u).getD i []).length ≤ 15 := by
  have h2 := h
  simp only [redOk, Bool.and_eq_true, decide_eq_true_eq] at h2
  obtain ⟨hu, hl⟩ := h2
  obtain ⟨P, hn, R⟩ := normF_red hu
  obtain ⟨hC, hul, hule⟩ := word_cartan hu
  have hmi := getD_mem hi
  have hm0 := getD_mem (show 0 < (reducedWords c u).length by omega)
  rw [reducedWords_on h] at hmi hm0 ⊢
  have Ri := (spell_mem hC _ _ P (by omega) _).1 hmi
  have R0 := (spell_mem hC _ _ P (by omega) _).1 hm0
  have hi1 := red_isReduced hC P hn Ri
  have h01 := red_isReduced hC P hn R0
  have hwi := isRed_word hi1
  have hw0 := isRed_word h01
  generalize (redAll c u).getD i [] = b at *
  generalize (redAll c u).getD 0 [] = a at *
  obtain ⟨p, hp1, hp2⟩ := bp_found hC P hn R0 Ri hl 121 0 [a] [[]] rfl (by simp) ⟨fun q hq => by
    obtain rfl : q = a := by simpa using hq
    exact R0, by simp, by simp⟩ rfl (fun i hi => by
    have : i = 0 := by simp at hi; omega
    subst this
    rfl) (fun j hj => by omega) (fun j hj => by omega)
  obtain ⟨g1, g2⟩ := bp_on h01 hi1 hp1
  refine ⟨hi1, ?_, g1, ?_, ?_, by rw [Ri.1]; exact hn⟩
  · simp only [areSame, Bool.and_eq_true, decide_eq_true_eq]
    exact ⟨⟨hwi, hu⟩, Ri.2.2⟩
  · rw [g2]
    simp [apOk, hw0, hp2]
  · rw [g2]
    simp [apW, hp2]

set_option smartUnfolding false

theorem laws_sameWords (h : Heap) (x y : H0) (L M : List (List Int)) (hx : Rows h x L) (hy : Rows h y M) (hL : L = M) (hs : L.length ≤ 1048576 ∧ tot L ≤ 1048576) : HCalls Try.prog 34 [.s x, .s y] h (fun r h' => r = B true ∧ h' = h) := by
  subst hL
  refine calls_of_hFun (m := 0) kd_ok mixed Try.func34 rfl (by kernel_rfl) rfl rfl (of_decide_eq_true rfl) ?_; unfold hFun; (conv => whnf)
  refine ⟨rfl, hx.len ?_⟩
  (conv => whnf)
  refine ⟨rfl, hy.len ?_⟩
  (conv => whnf)
  refine HIf.bneF rfl ?_
  (conv => whnf)
  refine HLoop.intro [5] [11, 12, 13, 14, 17, 18, 19, 20, 21, 22, 23, 24, 25, 26, 4, 15, 16, 5] (by kernel_rfl) (by kernel_rfl) (fun vs h' => ∃ i : Nat, vs = [I i] ∧ h' = h ∧ i ≤ L.length) (fun vs _ => L.length - natAt vs 0) ⟨0, rfl, rfl, by omega⟩ ?_
  rintro vs h' ⟨i, rfl, hh, hi⟩
  subst h'
  (conv => whnf)
  refine ⟨rfl, hx.len ?_⟩
  (conv => whnf)
  refine HIf.dec (fun hlt => ?_) (fun hge => ?_)
  · have hle := len_le_tot (L := L) (i := i) (by omega)
    (conv => whnf)
    refine Or.inl (And.intro (show Region.lexB _ _ = true by kernel_rfl) ?_); (conv => whnf)
    refine ⟨rfl, Rows.idxN hx (by omega) (fun p z hp hz => ?_)⟩
    (conv => whnf)
    refine ⟨rfl, hp.load ?_⟩
    (conv => whnf)
    refine ⟨rfl, Rows.idxN hy (by omega) (fun p2 z2 hp2 hz2 => ?_)⟩
    (conv => whnf)
    refine ⟨rfl, hp2.load ?_⟩
    (conv => whnf)
    refine HCallQ.of (.bool (decide (L.getD i [] = L.getD i []))) (laws_sameInts _ _ _ _ _ hz.frz hz2.frz (by omega)) (fun x h' r => r.1) ?_
    rw [decide_eq_true rfl]
    (conv => whnf)
    refine HIf.no ?_
    (conv => whnf)
    refine HArith.fits (by omega) (by omega) ?_
    (conv => whnf)
    exact ⟨⟨i + 1, rfl, rfl, by omega⟩, by show L.length - (i + 1) < L.length - i; omega⟩
  · (conv => whnf)
    exact ⟨rfl, rfl⟩

end Go.Proofs.Ytdlnjplkkfdejaa.Hx

namespace Go.Proofs.Ytdlnjplkkfdejaa.Hx
open Go.RowKit

section
variable {P : Program} {kd : TypeId → Kd} {n m : Nat}

/-- The first k parts of a row of parts; K speaks of what they leave. -/
def hcut (P : Program) (kd : TypeId → Kd) (n m : Nat) : Nat → Code → (Ex → Fr → Heap → Prop) → (Fr → Heap → Prop) → Fr → Heap → Prop
  | 0, _, _, K, fr, h => K fr h
  | k + 1, .seq a b, Q, K, fr, h => hwp P kd n m a (fun e fr' h' => match e with | .normal => hcut P kd n m k b Q K fr' h' | e => Q e fr' h') fr h
  | _ + 1, _, _, _, _, _ => False

/-- The rest. -/
def chop : Nat → Code → Code
  | 0, c => c
  | k + 1, .seq _ b => chop k b
  | _ + 1, c => c

/-- Parts: so many parts, the slots handed on, and what is said of them. -/
def hparts (P : Program) (kd : TypeId → Kd) (n m : Nat) : List (Nat × List Nat × (List HV → Heap → Prop)) → Code → (Ex → Fr → Heap → Prop) → Fr → Heap → Prop
  | [], c, Q, fr, h => hwp P kd n m c Q fr h
  | x :: rest, c, Q, fr, h => hcut P kd n m x.1 c Q (fun fr' h' => x.2.2 (x.2.1.map fr') h') fr h ∧ ∀ vs h', x.2.2 vs h' → hparts P kd n m rest (chop x.1 c) Q (place (fun _ => .dead) [] x.2.1 vs) h'

theorem hcut_sound (E : ∀ t, (kd t).ok P t) (hm : P.follows .mixedOrders = true) : ∀ (k : Nat) (c : Code) {Qh : Ex → Fr → Heap → Prop} {K : Fr → Heap → Prop} {fr : Fr} {a : Act} {h : Heap} {φ : Plan} {w : World} {B0 : Nat}, Rep B0 φ h w → FrRep φ n fr a → hcut P kd n m k c Qh K fr h →
    ∀ {Q : Exit → Act → World → Prop}, (∀ e fr' a' h' φ' w', Qh e fr' h' → Sub φ φ' → Rep B0 φ' h' w' → FrRep φ' n fr' a' → Lat B0 w w' → Q e.toExit a' w') →
    (∀ fr' a' h' φ' w', K fr' h' → Sub φ φ' → Rep B0 φ' h' w' → FrRep φ' n fr' a' → Lat B0 w w' → (chop k c).wp P Q a' w') → c.wp P Q a w
  | 0, c, Qh, K, fr, a, h, φ, w, B0, R, F, H, Q, _, hK => hK fr a h φ w H (Sub.refl φ) R F (Lat.refl B0 w)
  | k + 1, c, Qh, K, fr, a, h, φ, w, B0, R, F, H, Q, hQ, hK => by
    cases c with
    | seq x y =>
      refine wp_seq (hwp_sound E hm x R F H (fun e fr' a' h' φ' w' q s r f b u => ?_))
      cases e with
      | normal => exact hcut_sound E hm k y r f q (fun e2 fr2 a2 h2 φ2 w2 q2 s2 r2 f2 b2 => hQ e2 fr2 a2 h2 φ2 w2 q2 (s.trans s2) r2 f2 (b.trans b2)) (fun fr2 a2 h2 φ2 w2 q2 s2 r2 f2 b2 => hK fr2 a2 h2 φ2 w2 q2 (s.trans s2) r2 f2 (b.trans b2))
      | exit id => exact hQ (.exit id) fr' a' h' φ' w' q s r f b
      | ret => exact hQ .ret fr' a' h' φ' w' q s r f b
    | _ => exact H.elim

theorem only_rep {φ : Plan} {fr' : Fr} {a : Act} (F : FrRep φ n fr' a) (l : List Nat) : FrRep φ n (place (fun _ => .dead) [] l (l.map fr')) a := by
  have key : ∀ (l : List Nat) (t : Nat), place (fun _ => .dead) [] l (l.map fr') t = .dead ∨ place (fun _ => .dead) [] l (l.map fr') t = fr' t := by
    intro l
    induction l with
    | nil => intro t; exact Or.inl rfl
    | cons x l ih =>
      intro t
      simp only [place, List.map_cons]
      by_cases ht : t = x
      · subst ht
        simp
      · simp only [beq_ne ht, cond_false]
        exact ih t
  refine ⟨F.size, fun t ht => ?_, fun t ht => ?_, F.defers⟩
  · rcases key l t with e | e
    · rw [e]; trivial
    · rw [e]; exact F.has t ht
  · rcases key l t with e | e
    · exact e
    · rw [e]; exact F.out t ht

theorem hparts_sound (E : ∀ t, (kd t).ok P t) (hm : P.follows .mixedOrders = true) : ∀ (l : List (Nat × List Nat × (List HV → Heap → Prop))) (c : Code) {Qh : Ex → Fr → Heap → Prop} {fr : Fr} {a : Act} {h : Heap} {φ : Plan} {w : World} {B0 : Nat}, Rep B0 φ h w → FrRep φ n fr a → hparts P kd n m l c Qh fr h →
    ∀ {Q : Exit → Act → World → Prop}, (∀ e fr' a' h' φ' w', Qh e fr' h' → Sub φ φ' → Rep B0 φ' h' w' → FrRep φ' n fr' a' → Lat B0 w w' → Q e.toExit a' w') → c.wp P Q a w
  | [], c, Qh, fr, a, h, φ, w, B0, R, F, H, Q, hQ => hwp_sound E hm c R F H (fun e fr' a' h' φ' w' q s r f b _ => hQ e fr' a' h' φ' w' q s r f b)
  | x :: rest, c, Qh, fr, a, h, φ, w, B0, R, F, H, Q, hQ =>
    hcut_sound E hm x.1 c R F H.1 hQ (fun fr' a' h' φ' w' q s r f b =>
      hparts_sound E hm rest (chop x.1 c) r (only_rep f x.2.1) (H.2 _ _ q) (fun e2 fr2 a2 h2 φ2 w2 q2 s2 r2 f2 b2 => hQ e2 fr2 a2 h2 φ2 w2 q2 (s.trans s2) r2 f2 (b.trans b2)))

def hFunS (P : Program) (kd : TypeId → Kd) (n m : Nat) (rs : List ResultVar) (c : Code) (cuts : List (Nat × List Nat × (List HV → Heap → Prop))) (args : List HV) (h : Heap) (R : HV → Heap → Prop) : Prop :=
  hparts P kd n m cuts c (fun e fr h' => match e with
    | .exit _ => False
    | _ => hRet rs fr fun x => R x h') (frameOf args) h

theorem calls_of_hSeg (cuts : List (Nat × List Nat × (List HV → Heap → Prop))) (E : ∀ t, (kd t).ok P t) (hm : P.follows .mixedOrders = true) {k : FuncId} {fn : Func} {c : Code} (hf : P.funcs[k]? = some fn) (hb : fn.body = some c) (hname : (fn.name == "runtime.NumGoroutine") = false)
    (hn : fn.ntmps = n) {rs : List ResultVar} (hr : fn.results.toList = rs) {args : List HV} (hargs : args.length ≤ n) {h : Heap} {R : HV → Heap → Prop} (H : hFunS P kd n m rs c cuts args h R) : HCalls P k args h R := by
  refine ⟨fun as1 w => ?_, fun B0 φ w vargs r ha => ?_⟩
  · have hbn : fn.body.isNone = false := by simp [hb]
    simp only [callFunc, Sem.run_bind, run_program, Result.andThen_ok, hf, hname, hbn, Bool.false_eq_true, if_false, Sem.run_pure]
  · have hlen := ha.length
    have hvl : vargs.size = args.length := by simpa using hlen.symm
    refine calls_of_wp hf hb (hparts_sound (n := n) (m := m) E hm cuts c r (φ := φ) (fr := frameOf args) ?_ H (fun e fr' a' h' φ' w' q s r' f b => ?_))
    · refine ⟨by simp [hn, hvl]; omega, fun t ht => ?_, fun t ht => ?_, rfl⟩
      · rw [frameOf_get]
        by_cases htl : t < args.length
        · obtain ⟨v, e1, e2⟩ := ha.get t args[t] (List.getElem?_eq_getElem htl)
          have hv : vargs[t]? = some v := by simpa using e1
          have : (vargs ++ Array.replicate (fn.ntmps - vargs.size) undef).getD t undef = v := by
            rw [Array.getD_eq_getD_getElem?, Array.getElem?_append_left (by omega), hv]
            rfl
          show repV φ _ _
          rw [this]
          have h2 : args.getD t .dead = args[t] := by simp [List.getD, htl]
          rw [h2]
          exact e2
        · have h2 : args.getD t .dead = .dead := by simp [List.getD, Nat.le_of_not_lt htl]
          rw [h2]
          trivial
      · rw [frameOf_get]
        simp [List.getD, show args.length ≤ t by omega]
    · have fin : ∀ (hh : hRet rs fr' fun x => R x h'), a'.defers = [] ∧ ∃ v, (results fn a'.tmps).run P w' = .ok v w' ∧ ∃ v' x h'' φ'', Ending.returned v = .returned v' ∧ R x h'' ∧ Sub φ φ'' ∧ Rep B0 φ'' h'' w' ∧ repV φ'' x v' ∧ Lat B0 w w' := by
        intro hh
        obtain ⟨v, x, e1, e2, e3⟩ := hRet_sound (P := P) hh f hr w'
        exact ⟨f.defers, v, e1, v, x, h', φ', rfl, e3, s, r', e2, b⟩
      cases e with
      | normal => exact fin q
      | ret => exact fin q
      | exit j => exact q.elim

end

theorem HIf.same {b : Bool} {A C : Prop} (h : A) : HIf (b == b) A C := HIf.isT (by simp) h
theorem HIf.nsame {b : Bool} {A C : Prop} (h : C) : HIf (!(b == b)) A C := HIf.isF (by simp) h

end Go.Proofs.Ytdlnjplkkfdejaa.Hx

namespace Go.Proofs.Ytdlnjplkkfdejaa.Hx
open Go.RowKit Go.ChangeShapes Go.WideShapes Go.ChangeAt

/-- Many values opened, one after the other. -/
theorem open_many {w : World} : ∀ (vs : List Value) {φ : Plan} {h : Heap}, Rep w.heap.size φ h w →
    (∀ v ∈ vs, ∃ l : List Int, l.length ≤ maxLen ∧ ∀ (φ : Plan) (h : Heap), Rep w.heap.size φ h w → Opened φ h w v (fun h' x => Ints h' x l)) →
    ∃ (xs : List H0) (L : List (List Int)) (φ' : Plan) (h' : Heap), Sub φ φ' ∧ Ext h h' ∧ Rep w.heap.size φ' h' w ∧ xs.length = vs.length ∧ L.length = vs.length ∧
      (∀ (i : Nat) (x : H0) (v : Value), xs[i]? = some x → vs[i]? = some v → rep0 φ' x v) ∧ (∀ (i : Nat) (x : H0) (l : List Int), xs[i]? = some x → L[i]? = some l → Ints h' x l) ∧ ∀ l ∈ L, l.length ≤ maxLen
  | [], φ, h, R, _ => ⟨[], [], φ, h, Sub.refl _, Ext.refl _, R, rfl, rfl, fun i x v e => by simp at e, fun i x v e => by simp at e, fun l e => by simp at e⟩
  | v :: vs, φ, h, R, each => by
    obtain ⟨l, hl, hop⟩ := each v (by simp)
    obtain ⟨x, φ1, h1, s1, e1, R1, r1, t1⟩ := hop φ h R
    obtain ⟨xs, L, φ2, h2, s2, e2, R2, n1, n2, r2, t2, b2⟩ := open_many vs R1 (fun v hv => each v (by simp [hv]))
    refine ⟨x :: xs, l :: L, φ2, h2, s1.trans s2, e1.trans e2, R2, by simp [n1], by simp [n2], fun i y v' hy hv => ?_, fun i y l' hy hl' => ?_, fun l' hl' => ?_⟩
    · cases i with
      | zero => simp at hy hv; subst hy; subst hv; exact rep0.mono s2 r1
      | succ i => exact r2 i y v' (by simpa using hy) (by simpa using hv)
    · cases i with
      | zero => simp at hy hl'; subst hy; subst hl'; exact t1.ext e2
      | succ i => exact t2 i y l' (by simpa using hy) (by simpa using hl')
    · rcases List.mem_cons.1 hl' with rfl | hm
      · exact hl
      · exact b2 l' hm

def Sizes (L : List (List Int)) : Prop := L.length ≤ 9223372036854775807 ∧ ∀ i, (L.getD i []).length ≤ 9223372036854775807

/-- An argument that is a slice of slices of ints. -/
theorem open_arg_rows {H : Type} {enc : TypeId × Value → H} {P : Program} {w : World} {t u e : TypeId} {v : Value} {d : DataW H} {ps : List MemPlace} {base : Nat} (ht : P.underlying t = some (.slice u)) (hu : P.underlying u = some (.slice e)) (he : P.underlying e = some (.int .i64))
    (hcu : P.cellsOf u = 1) (hc : P.cellsOf e = 1) (hv : Value.okWide P w .any base t v) (h0 : DataW.Trod enc P w 0 (fun _ => true) true t v d ps) {φ : Plan} {h : Heap} (R : Rep w.heap.size φ h w) : ∃ L, Opened φ h w v (fun h' x => Rows h' x L ∧ Sizes L) := by
  obtain ⟨a0, len, cap, rfl⟩ := okWide_slice ht hv
  obtain ⟨fuel, hf⟩ := h0
  have none_ : ∀ (ao : Option Addr) (cap : Nat), Opened φ h w (.slice ao 0 cap) (fun h' x => Rows h' x [] ∧ Sizes []) := fun ao cap =>
    ⟨.pl (.slice ao 0 cap), φ, h, Sub.refl _, Ext.refl _, R, rfl, ⟨[], Shows.nils _ _, rfl, fun i y l e => by simp at e⟩, by simp, fun i => by simp⟩
  rcases DataW.trod_slice ht hf with ⟨hcs, hx⟩ | ⟨a, len', cap', elems, rest, n, rfl, hcs, _, _, hl, hm, hlen, hel, _⟩
  · simp [Value.cells] at hcs
    obtain ⟨rfl, rfl, rfl⟩ := hcs
    exact ⟨[], none_ none 0⟩
  · simp [Value.cells] at hcs
    obtain ⟨rfl, rfl, rfl⟩ := hcs
    by_cases hz : len = 0
    · subst hz
      exact ⟨[], none_ (some a) cap⟩
    have cell : ∀ i, i < len → ∃ c, w.cell? (a.add i) = some c ∧ ∃ l : List Int, l.length ≤ maxLen ∧ ∀ (φ : Plan) (h : Heap), Rep w.heap.size φ h w → Opened φ h w c (fun h' x => Ints h' x l) := by
      intro i hi
      have hE := hel i hi
      rw [hcu, Nat.mul_one, List.getElem?_eq_getElem (by omega), Option.bind_eq_some_iff] at hE
      obtain ⟨cs1, hc1, hy1⟩ := hE
      rcases open_ints hu he hc hy1 with ⟨rfl, _⟩ | ⟨b, l1, c1, zs, rfl, _, hl1, hm1, hz1, _, hcell, _⟩
      · exact ⟨_, cell_of_cells?_one hc1, [], by simp, fun φ h R => open_cells R none 0 0 [] (Nat.le_refl _) (by unfold maxLen; omega) rfl (fun _ => rfl) (fun a h => by cases h)⟩
      · simp only [if_true] at hz1
        exact ⟨_, cell_of_cells?_one hc1, zs.take l1, by simp; omega, fun φ h R => open_cells R (some b) l1 c1 zs hl1 hm1 hz1 (fun h => by cases h) (fun a' h => by cases h; exact fun i hi => hcell i (by omega))⟩
    let vs : List Value := (List.range len).map fun i => (w.cell? (a.add i)).getD undef
    have hvl : vs.length = len := by simp [vs]
    have hvi : ∀ (i : Nat) (v : Value), vs[i]? = some v → i < len ∧ w.cell? (a.add i) = some v := by
      intro i v hv
      have hi : i < len := by have := (List.getElem?_eq_some_iff.1 hv).1; omega
      obtain ⟨c, hc, _⟩ := cell i hi
      simp only [vs, List.getElem?_map, List.getElem?_range hi, Option.map_some, hc, Option.getD_some, Option.some.injEq] at hv
      subst hv
      exact ⟨hi, hc⟩
    obtain ⟨xs, L, φ2, h2, s2, e2, R2, n1, n2, r2, t2, b2⟩ := open_many vs R (fun v hv => by
      obtain ⟨i, hi⟩ := List.getElem?_of_mem hv
      obtain ⟨hil, hc⟩ := hvi i v hi
      obtain ⟨c, hc2, rest⟩ := cell i hil
      rw [hc] at hc2
      cases hc2
      exact rest)
    obtain ⟨b, off, spot⟩ := a
    obtain ⟨c0, hc0, _⟩ := cell 0 (by omega)
    have hspot : spot = none := by simpa [Addr.add] using World.cell?_spot hc0
    subst hspot
    have hb : b < w.heap.size := World.block_lt_of_cell? w ⟨b, off, none⟩ (by simpa [Addr.add] using hc0)
    refine ⟨L, .sl h2.length 0 len, φ2 ++ [⟨b, off, cap⟩], h2 ++ [.ro xs], s2.trans (Sub.push _ _), e2.trans (Ext.push _ _), R2.pushRo ⟨b, off, cap⟩ hb _ (fun k c hk => ?_), ⟨⟨b, off, cap⟩, _, _, ?_, rfl, hl, hm, by simp, fun _ => rfl⟩, ⟨xs, ?_, by omega, fun i y l hy hl => (t2 i y l hy hl).ext (Ext.push _ _)⟩, ?_⟩
    · have hk2 : k < vs.length := by have := (List.getElem?_eq_some_iff.1 hk).1; omega
      obtain ⟨_, hc⟩ := hvi k vs[k] (List.getElem?_eq_getElem hk2)
      exact ⟨vs[k], by rw [← addr_add]; exact hc, r2 k c _ hk (List.getElem?_eq_getElem hk2)⟩
    · rw [← R2.len, List.getElem?_append_right (Nat.le_refl _)]
      simp
    · have := Shows.ro h2.length 0 len _ (get_new h2 (.ro xs)) (by omega)
      simp only [List.drop_zero] at this
      rw [List.take_of_length_le (by omega)] at this
      exact this
    · have hml : maxLen ≤ 9223372036854775807 := by unfold maxLen; omega
      refine ⟨by omega, fun i => ?_⟩
      by_cases hi : i < L.length
      · have := b2 L[i] (List.getElem_mem hi)
        simp [List.getD, hi]
        omega
      · simp [List.getD, Nat.le_of_not_lt hi]

theorem i64_wf {n : Int} (h : (Lit.int .i64 n).wf = true) : -9223372036854775808 ≤ n ∧ n ≤ 9223372036854775807 := by
  simp only [Lit.wf, Bool.and_eq_true, decide_eq_true_eq] at h
  have h1 : IntKind.i64.min = -9223372036854775808 := by decide
  have h2 : IntKind.i64.max = 9223372036854775807 := by decide
  rw [h1, h2] at h
  exact h

end Go.Proofs.Ytdlnjplkkfdejaa.Hx
