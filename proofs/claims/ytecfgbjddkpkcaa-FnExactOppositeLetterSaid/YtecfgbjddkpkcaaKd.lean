
/-
  Contracts of the opposite letter, of the program and of the reference.
-/
import Derived.Test.YtecfgbjddkpkcaaKc
namespace Go.Proofs.Ytecfgbjddkpkcaa.Hx
open Go.RowKit
variable {dm : Bool}

def oppV (c : List (List Int)) (i : Nat) : List Int := actW c (longest c) (reflW c i (List.replicate c.length 1))
def oppLetter (c : List (List Int)) (n : Int) : Int :=
  if isFinite c && isPoint c n then
    match (List.range c.length).find? fun t => decide (0 < (oppV c n.toNat).getD t 0) with
    | some t => t
    | none => -1
  else -1
theorem oppV_len (c : List (List Int)) (i : Nat) : (oppV c i).length = c.length := by simp [oppV, actW_length, reflW_length]
theorem oppLetter_off {c : List (List Int)} {n : Int} (h : isFinite c = false ∨ isPoint c n = false) : oppLetter c n = -1 := by
  rcases h with h | h <;> simp [oppLetter, h]
theorem oppLetter_at {c : List (List Int)} {i k : Nat} (h : isFinite c = true) (h2 : isPoint c (i : Nat) = true) (hk : k < c.length) (h0 : 0 < (oppV c i).getD k 0) (hb : ∀ t, t < k → ¬ 0 < (oppV c i).getD t 0) : oppLetter c (i : Nat) = k := by
  have e : (i : Int).toNat = i := by omega
  have : (List.range c.length).find? (fun t => decide (0 < (oppV c i).getD t 0)) = some k := by
    rw [List.find?_range_eq_some]
    exact ⟨decide_eq_true h0, by simpa using hk, fun t ht => by rw [decide_eq_false (hb t ht)]; rfl⟩
  unfold oppLetter
  rw [h, h2, e, this]
  rfl
theorem oppLetter_none {c : List (List Int)} {i : Nat} (hb : ∀ t, t < c.length → ¬ 0 < (oppV c i).getD t 0) : oppLetter c (i : Nat) = -1 := by
  have e : (i : Int).toNat = i := by omega
  have : (List.range c.length).find? (fun t => decide (0 < (oppV c i).getD t 0)) = none := by
    rw [List.find?_range_eq_none]
    intro t ht
    rw [decide_eq_false (hb t ht)]
    rfl
  unfold oppLetter
  rw [e, this]
  split <;> rfl

theorem opp_coord {c : List (List Int)} (hC : Cartan c) {m : Nat} (P : PlayL c m (opp c)) (hm : m ≤ 30) {t k : Nat} (ht : t < c.length) (hk : k < c.length) : (reflW c t (opp c)).getD k 0 = if k = t then 1 else -1 + ent c k t := by
  have e := congrFun (pos_refl hC P hm ht) k
  have o : ∀ j, j < c.length → posOf (opp c) j = -1 := fun j hj => by simp [posOf, opp, List.getD, hj]
  have e2 : posOf (reflW c t (opp c)) k = -1 - -1 * ent c k t := by
    rw [e]
    unfold sr
    rw [o k hk, o t ht]
  have e3 : (reflW c t (opp c)).getD k 0 = -1 - -1 * ent c k t := e2
  rw [e3]
  split
  · rename_i h
    subst h
    rw [(matOk hC).diag k hk]
    rfl
  · omega

/-- The longest element takes a simple reflection of rho to one of its opposite. -/
theorem opp_fact {c : List (List Int)} (h : isFinite c = true) {i : Nat} (hi : i < c.length) : ∃ t, t < c.length ∧ oppV c i = reflW c t (opp c) := by
  obtain ⟨hC, hp⟩ := fin_parts h
  obtain ⟨w, h1, P, h3, h4, h5⟩ := fin_run hC hp
  obtain ⟨t, ht, he⟩ := last_hit h5 hC.le hi
  refine ⟨t, ht, ?_⟩
  obtain ⟨m0, hm0, P0⟩ := (PlayL.ones c).any hC (by omega) hi
  have key : ∀ w' : List Nat, w'.length ≤ 30 → (∀ j, j ∈ w' → j < c.length) → ∃ m, m ≤ w'.length + 1 ∧ PlayL c m (actW c (w'.map fun (j : Nat) => (j : Int)) (reflW c i (List.replicate c.length 1))) ∧ posOf (actW c (w'.map fun (j : Nat) => (j : Int)) (reflW c i (List.replicate c.length 1))) = cvt c.length (acts (m6 c) w' (stp (m6 c) i one4)) := by
    intro w'
    induction w' with
    | nil =>
      intro _ _
      refine ⟨m0, hm0, P0, ?_⟩
      show posOf (reflW c i (List.replicate c.length 1)) = cvt c.length (stp (m6 c) i one4)
      rw [pos_refl hC (PlayL.ones c) (by omega) hi, pos_one hC, cvt_step hC i hi]
    | cons j w' ih =>
      intro hl hj
      have hl' : w'.length + 1 ≤ 30 := by simpa using hl
      obtain ⟨m, hm, Pm, e⟩ := ih (by omega) (fun t ht => hj t (List.mem_cons_of_mem _ ht))
      have hjl := hj j (List.mem_cons_self ..)
      obtain ⟨m', hm', Pm'⟩ := Pm.any hC (by omega) hjl
      refine ⟨m', by simp; omega, Pm', ?_⟩
      show posOf (reflW c ((j : Int).toNat) (actW c (w'.map fun (j : Nat) => (j : Int)) (reflW c i (List.replicate c.length 1)))) = cvt c.length (stp (m6 c) j (acts (m6 c) w' (stp (m6 c) i one4)))
      have ej : (j : Int).toNat = j := by omega
      rw [ej, pos_refl hC Pm (by omega) hjl, e, cvt_step hC j hjl]
  obtain ⟨m, _, _, e⟩ := key w h1 h4
  have eo : oppV c i = actW c (w.map fun (j : Nat) => (j : Int)) (reflW c i (List.replicate c.length 1)) := by unfold oppV; rw [h3]
  apply posOf_inj (by rw [oppV_len, reflW_length, opp_len])
  rw [eo, e, he, pos_refl hC P h1 ht, pos_opp hC, cvt_step hC t ht]

theorem opp_iff {c : List (List Int)} (h : isFinite c = true) {i k : Nat} (hi : i < c.length) (hk : k < c.length) : 0 < (oppV c i).getD k 0 ↔ reflW c k (opp c) = oppV c i := by
  obtain ⟨hC, hp⟩ := fin_parts h
  obtain ⟨w, h1, P, _, _, _⟩ := fin_run hC hp
  obtain ⟨t, ht, e⟩ := opp_fact h hi
  rw [e, opp_coord hC P h1 ht hk]
  constructor
  · intro h0
    by_cases hkt : k = t
    · rw [hkt]
    · rw [if_neg hkt] at h0
      have := (matOk hC).off k t hk ht hkt
      omega
  · intro he
    have h2 := opp_coord hC P h1 hk hk
    rw [he, opp_coord hC P h1 ht hk, if_pos rfl] at h2
    rw [h2]
    omega

theorem longest_image {c : List (List Int)} (h : isFinite c = true) : imageOf c (longest c) = opp c ∧ lettersOk c (longest c) = true ∧ (longest c).length ≤ 31 := by
  obtain ⟨hC, hp⟩ := fin_parts h
  obtain ⟨w, h1, P, _, _, _⟩ := fin_run hC hp
  exact ⟨nf_image hC w.length (opp c) 31 P h1 (by omega), nf_letters hC w.length (opp c) 31 P h1 (by omega), nf_le c 31 _⟩
theorem image_want {c : List (List Int)} (i : Nat) : imageOf c (longest c ++ [(i : Int)]) = oppV c i := by
  rw [image_app]
  rfl
theorem image_cons {c : List (List Int)} (h : isFinite c = true) (k : Nat) : imageOf c ([(k : Int)] ++ longest c) = reflW c k (opp c) := by
  rw [image_app, (longest_image h).1]
  rfl
theorem letters_one {c : List (List Int)} {k : Nat} (h : k < c.length) : lettersOk c [(k : Int)] = true := by
  have hp : isPoint c (k : Int) = true := by simp only [isPoint, inRange, Bool.and_eq_true, decide_eq_true_eq]; omega
  simp only [lettersOk, List.all_cons, List.all_nil, Bool.and_true]
  exact hp


theorem lib_Clone (h : Heap) (r : Nat) (x : H0) (l : List Int) (hx : OwnR r h x l) (hl : l.length ≤ 1048576) :
    HCalls dm Try.prog 33 [.s x] h (fun v h' => ∃ y, v = .s y ∧ Fresh h h' y l) := by
  have hi := hx.ints
  obtain ⟨t, rfl, hr⟩ := hx
  refine calls_of_hFun (m := 0) kd_ok mixed Try.func33 rfl (by kernel_rfl) rfl rfl (of_decide_eq_true rfl) ?_; unfold hFun; (conv => whnf)
  refine ⟨rfl, ?_⟩
  (conv => whnf)
  refine HIf.no ?_
  (conv => whnf)
  refine HLit.empty ?_
  (conv => whnf)
  refine ⟨rfl, rfl, HApp.copy hi (by omega) (fun h2 y2 E2 O2 => ?_)⟩
  (conv => whnf)
  exact ⟨_, rfl, Fresh.of E2 O2⟩

theorem impl_OppositeLetter (h : Heap) (x0 : H0) (a0 : List (List Int)) (n1 : Int) (hx0 : Rows h x0 a0) (s0 : a0.length ≤ 1048576 ∧ tot a0 ≤ 1048576) (_s1 : -9223372036854775808 ≤ n1 ∧ n1 ≤ 9223372036854775807) :
    HCalls dm Try.prog 17 [.s x0, I n1] h (fun r h' => r = I (oppLetter a0 n1) ∧ Ext h h') := by
  refine calls_of_hFun (m := 0) kd_ok mixed Try.func17 rfl (by kernel_rfl) rfl rfl (of_decide_eq_true rfl) ?_; unfold hFun; (conv => whnf)
  refine (impl_IsFinite _ _ a0 hx0 (by omega)).mono ?_
  rintro r h1 ⟨rfl, E1⟩
  (conv => whnf)
  cases hf : isFinite a0
  · rw [oppLetter_off (Or.inl hf)]
    (repeat (first | (refine HIf.yes ?_; conv => whnf) | (refine HIf.no ?_; conv => whnf)))
    exact ⟨rfl, E1⟩
  obtain ⟨hC, hp⟩ := fin_parts hf
  have h4 := hC.le
  refine HIf.no ?_
  (conv => whnf)
  refine HIf.no ?_
  (conv => whnf)
  refine HIf.no ?_
  (conv => whnf)
  refine (impl_isPoint _ _ _ _ (hx0.ext E1)).mono ?_
  rintro r h2 ⟨rfl, hh⟩
  subst h2
  (conv => whnf)
  cases hpt : isPoint a0 n1
  · rw [oppLetter_off (Or.inr hpt)]
    (repeat (first | (refine HIf.yes ?_; conv => whnf) | (refine HIf.no ?_; conv => whnf)))
    exact ⟨rfl, E1⟩
  have hpo := point_of hpt
  obtain ⟨i, rfl⟩ : ∃ i : Nat, n1 = i := ⟨n1.toNat, by omega⟩
  obtain ⟨g1, g2, g3⟩ := longest_image hf
  have hw := image_want (c := a0) i
  have hil : i < a0.length := by omega
  have hlo : lettersOk a0 (longest a0 ++ [(i : Int)]) = true := by rw [lettersOk_app, g2, letters_one hil]; rfl
  (repeat (first | (refine HIf.yes ?_; conv => whnf) | (refine HIf.no ?_; conv => whnf)))
  refine (impl_longestElement _ _ a0 (hx0.ext E1) hf).mono ?_
  rintro r h3 ⟨y3, rfl, f3⟩
  obtain ⟨q3, hq3, O3⟩ := f3.row
  have E3 := E1.trans f3.1
  (conv => whnf)
  refine (lib_Clone _ q3 _ _ O3 (by omega)).mono ?_
  rintro r h5 ⟨y5, rfl, f5⟩
  obtain ⟨q5, hq5, O5⟩ := f5.row
  have E5 := E3.trans f5.1
  have hE5 := E5.1
  have hE3 := E3.1
  have hE35 := f5.1.1
  (conv => whnf)
  refine HLit.one ?_
  (conv => whnf)
  refine ⟨rfl, rfl, HApp.snocR O5 (by omega) (fun h6 q6 y6 B6 hq6 O6 => ?_)⟩
  have hq3l := O3.lt
  have E6 := E5.but B6 (by omega)
  have O36 := (O3.ext f5.1).but B6 (by omega)
  (conv => whnf)
  refine (impl_image _ _ a0 _ _ (hx0.ext E6) O6.ints hC hlo (by rw [List.length_append]; simp; omega)).mono ?_
  rintro r h7 ⟨y7, rfl, f7⟩
  rw [hw] at f7
  have E7 := E6.trans f7.1
  have O37 := O36.ext f7.1
  have hx07 := hx0.ext E7
  (conv => whnf)
  refine ⟨rfl, hx07.len ?_⟩
  (conv => whnf)
  refine HLoop.intro [28] [29, 30, 7, 31, 32, 33, 34, 35, 36, 37, 38, 39, 4, 40, 28] (by kernel_rfl) (by kernel_rfl) (fun vs h' => ∃ k : Nat, vs = [I k] ∧ k ≤ a0.length ∧ Ext h7 h' ∧ ∀ t, t < k → ¬ 0 < (oppV a0 i).getD t 0) (fun vs _ => a0.length - natAt vs 0) ⟨0, rfl, by omega, Ext.refl _, fun t ht => by omega⟩ ?_
  rintro vs h8 ⟨k, rfl, hk, E8, hb⟩
  have E78 := E7.trans E8
  (conv => whnf)
  refine HIf.dec (fun hlt => ?_) (fun hge => ?_)
  · have hkl : k < a0.length := by omega
    have hoi := opp_iff hf hil hkl
    have hic := image_cons hf k
    have hlk : lettersOk a0 ([(k : Int)] ++ longest a0) = true := by rw [lettersOk_app, g2, letters_one hkl]; rfl
    have Ep := Ext.push h8 [Row.own [ci (k : Int)]]
    have Ok := OwnR.push h8 [(k : Int)]
    (conv => whnf)
    refine HLit.one ?_
    (conv => whnf)
    refine ⟨rfl, rfl, HApp.moreR Ok ((O37.ext E8).ints.ext Ep) (by simp; omega) (fun h9 q9 y9 B9 hq9 O9 => ?_)⟩
    have E9 := Ep.but B9 (Nat.le_refl _)
    (conv => whnf)
    refine (impl_image _ _ a0 _ _ (hx0.ext (E78.trans E9)) O9.ints hC hlk (by rw [List.length_append]; simp; omega)).mono ?_
    rintro r h10 ⟨y10, rfl, f10⟩
    rw [hic] at f10
    have E10 := E9.trans f10.1
    (conv => whnf)
    refine (lib_Equal _ _ _ _ _ f10.ints (f7.ints.ext (E8.trans E10)) (by rw [reflW_length, opp_len]; omega)).mono ?_
    rintro r h11 ⟨rfl, hh⟩
    subst h11
    (conv => whnf)
    refine HIf.dec (fun he => ?_) (fun hne => ?_)
    · rw [oppLetter_at hf hpt hkl (hoi.2 he) hb]
      (conv => whnf)
      exact ⟨rfl, E78.trans E10⟩
    · (conv => whnf)
      refine HArith.fits (by omega) (by omega) ?_
      (conv => whnf)
      refine ⟨⟨k + 1, rfl, by omega, E8.trans E10, fun t ht => ?_⟩, by show a0.length - (k + 1) < a0.length - k; omega⟩
      by_cases e : t = k
      · subst e; exact fun h0 => hne (hoi.1 h0)
      · exact hb t (by omega)
  · rw [oppLetter_none (fun t ht => hb t (by omega))]
    (conv => whnf)
    exact ⟨rfl, E78⟩

theorem spec_OppositeLetter (h : Heap) (x0 : H0) (a0 : List (List Int)) (n1 : Int) (hx0 : Rows h x0 a0) (s0 : a0.length ≤ 1048576 ∧ tot a0 ≤ 1048576) (_s1 : -9223372036854775808 ≤ n1 ∧ n1 ≤ 9223372036854775807) :
    HCalls dm Try.prog 16 [.s x0, I n1] h (fun r h' => r = I (oppLetter a0 n1) ∧ Ext h h') := by
  refine calls_of_hFun (m := 0) kd_ok mixed Try.func16 rfl (by kernel_rfl) rfl rfl (of_decide_eq_true rfl) ?_; unfold hFun; (conv => whnf)
  refine (spec_LongestElement _ _ a0 hx0 s0).mono ?_
  rintro r h1 ⟨y1, rfl, f1⟩
  have E1 := f1.1
  have hx01 := hx0.ext E1
  (conv => whnf)
  cases hf : isFinite a0
  · rw [oppLetter_off (Or.inl hf)]
    (repeat (first | (refine HIf.yes ?_; conv => whnf) | (refine HIf.no ?_; conv => whnf)))
    exact ⟨rfl, E1⟩
  obtain ⟨hC, hp⟩ := fin_parts hf
  have h4 := hC.le
  have hic := (isCartan_iff a0).2 hC
  rw [longestE_on hf] at f1
  (repeat (first | (refine HIf.yes ?_; conv => whnf) | (refine HIf.no ?_; conv => whnf) | (refine ⟨rfl, hx01.len ?_⟩; conv => whnf) | (refine HArith.fits (by omega) (by omega) ?_; conv => whnf)))
  refine (spec_l1In _ _ _ _).mono ?_
  rintro r h2 ⟨rfl, hh⟩
  subst h2
  rw [isPoint_l1]
  (conv => whnf)
  cases hpt : isPoint a0 n1
  · rw [oppLetter_off (Or.inr hpt)]
    (repeat (first | (refine HIf.yes ?_; conv => whnf) | (refine HIf.no ?_; conv => whnf)))
    exact ⟨rfl, E1⟩
  have hpo := point_of hpt
  obtain ⟨i, rfl⟩ : ∃ i : Nat, n1 = i := ⟨n1.toNat, by omega⟩
  obtain ⟨g1, g2, g3⟩ := longest_image hf
  (repeat (first | (refine HIf.yes ?_; conv => whnf) | (refine HIf.no ?_; conv => whnf)))
  refine (spec_RhoOf _ _ a0 hx01 hic).mono ?_
  rintro r h3 ⟨y3, rfl, f3⟩
  have E3 := E1.trans f3.1
  (conv => whnf)
  refine (spec_l6Reflect _ _ _ a0 i _ (hx0.ext E3) f3.ints hC (by omega) (by simp)).mono ?_
  rintro r h5 ⟨y5, rfl, f5⟩
  have E5 := f3.1.trans f5.1
  have hy1 := f1.ints
  have hy15 := hy1.ext E5
  obtain ⟨q5, hq5, O5⟩ := f5.row
  have hE3 := f3.1.1
  (conv => whnf)
  refine ⟨rfl, hy15.len ?_⟩
  (conv => whnf)
  refine HArith.fits (by omega) (by omega) ?_
  (conv => whnf)
  refine HLoop.intro [8, 7] [34, 35, 38, 39, 40, 41, 42, 43, 44, 7, 36, 37, 8] (by kernel_rfl) (by kernel_rfl) (fun vs h' => ∃ (k : Nat) (y : H0), vs = [I ((k : Int) - 1), .s y] ∧ k ≤ (longest a0).length ∧ Ext h1 h' ∧ Own h1.length h'.length h' y (actW a0 ((longest a0).drop k) (reflW a0 i (List.replicate a0.length 1)))) (fun vs _ => (intAt vs 0 + 1).toNat) ⟨(longest a0).length, _, rfl, Nat.le_refl _, E5, by rw [actW_end]; exact O5.own (by omega)⟩ ?_
  rintro vs h' ⟨k, y, rfl, hk, E, O⟩
  have hx0' := hx0.ext (E1.trans E)
  have hy1' := hy1.ext E
  have hal := actW_length a0 ((longest a0).drop k) (reflW a0 i (List.replicate a0.length 1))
  rw [reflW_length, ones_len] at hal
  (conv => whnf)
  refine HIf.dec (fun hlt => ?_) (fun hge => ?_)
  · obtain ⟨m, rfl⟩ : ∃ m, k = m + 1 := ⟨k - 1, by omega⟩
    obtain ⟨j, hj, hjl⟩ := letter g2 (k := m) (by omega)
    have e1 : (((m + 1 : Nat) : Int) - 1).toNat = m := by omega
    have hd := actW_drop a0 (longest a0) (reflW a0 i (List.replicate a0.length 1)) (k := m) (by omega)
    have e2 : ((longest a0).getD m 0).toNat = j := by omega
    rw [e2] at hd
    (conv => whnf)
    refine ⟨rfl, Ints.idx hy1' (by omega) (by omega) (fun p hp => ?_)⟩
    rw [e1, hj] at hp
    (conv => whnf)
    refine ⟨rfl, hp.load ?_⟩
    (conv => whnf)
    refine (spec_l6Reflect _ _ _ a0 j _ hx0' O.ints hC hjl (by omega)).mono ?_
    rintro r h6 ⟨y6, rfl, f6⟩
    rw [← hd] at f6
    have hz := Fresh.inner E f6
    (conv => whnf)
    refine HArith.fits (by omega) (by omega) ?_
    (conv => whnf)
    have e3 : ((m + 1 : Nat) : Int) - 1 - 1 = (m : Int) - 1 := by omega
    exact ⟨⟨m, _, by rw [← e3]; rfl, by omega, hz.1, hz.2⟩, by show (((m + 1 : Nat) : Int) - 1 - 1 + 1).toNat < (((m + 1 : Nat) : Int) - 1 + 1).toNat; omega⟩
  have e : k = 0 := by omega
  subst e
  rw [actW_all] at O
  have O : Own h1.length h'.length h' y (oppV a0 i) := O
  have hol := oppV_len a0 i
  have hy := O.ints
  have EE := E1.trans E
  (conv => whnf)
  refine HLoop.intro [9] [45, 46, 47, 48, 51, 52, 53, 54, 55, 56, 4, 49, 50, 9] (by kernel_rfl) (by kernel_rfl) (fun vs h2 => ∃ k : Nat, vs = [I k] ∧ k ≤ a0.length ∧ h2 = h' ∧ ∀ t, t < k → ¬ 0 < (oppV a0 i).getD t 0) (fun vs _ => a0.length - natAt vs 0) ⟨0, rfl, by omega, rfl, fun t ht => by omega⟩ ?_
  rintro vs h2 ⟨k, rfl, hk, hh, hb⟩
  subst h2
  (conv => whnf)
  refine ⟨rfl, hx0'.len ?_⟩
  (conv => whnf)
  refine HIf.dec (fun hlt => ?_) (fun hge => ?_)
  · (conv => whnf)
    refine ⟨rfl, Ints.idxN hy (by omega) (fun p hp => ?_)⟩
    (conv => whnf)
    refine ⟨rfl, hp.load ?_⟩
    (conv => whnf)
    refine HIf.dec (fun h0 => ?_) (fun h0 => ?_)
    · rw [oppLetter_at hf hpt (by omega) h0 hb]
      (conv => whnf)
      exact ⟨rfl, EE⟩
    · (conv => whnf)
      refine HArith.fits (by omega) (by omega) ?_
      (conv => whnf)
      refine ⟨⟨k + 1, rfl, by omega, rfl, fun t ht => ?_⟩, by show a0.length - (k + 1) < a0.length - k; omega⟩
      by_cases e : t = k
      · subst e; exact h0
      · exact hb t (by omega)
  · rw [oppLetter_none (fun t ht => hb t (by omega))]
    (conv => whnf)
    exact ⟨rfl, EE⟩

end Go.Proofs.Ytecfgbjddkpkcaa.Hx
