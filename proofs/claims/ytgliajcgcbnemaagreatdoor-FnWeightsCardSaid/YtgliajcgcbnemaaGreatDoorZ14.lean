/-
  Strings cut at a sign: plain; strings.Split, l2Cut; the names of all types.
  Numbers and weights read back from their texts, plain.
  The reference's draws of matrices and words.
  The names of parts, of both sides.
  The names of parts, of the program; the names of matrices, of both sides.
  Contracts of orders of elements, of the program and of the reference.
  Finite types: from the opposite of rho the game of signs leads to rho within thirty steps, and the longest element takes each simple reflection of rho to one of its opposite. Found by looking at all matrices of at most four points; plain theory.
  Finite types: what the look at all matrices says of a valid matrix whose principal minors are positive.
  Contracts of the longest element, of the program and of the reference.
  Sizes by names, of both sides; the size of a matrix's group.
  The contracts of strconv.Itoa and strings.Join, led over to rows; FormatInt, FormatWeight of both sides.
-/
import Derived.Test.YtgliajcgcbnemaaGreatDoorZ13
import Derived.Shelf.Strings.Split
import Derived.Lib.Join
import Derived.Lib.AtoiAll
import Derived.Lib.LaidTab
namespace Go.Proofs.YtgliajcgcbnemaaGreatDoor.Hx
open Go.RowKit
variable {dm : Bool}

/-! ### Strings cut at a sign -/

def cutB (c : UInt8) : List UInt8 → List (List UInt8)
  | [] => [[]]
  | b :: t => if b = c then [] :: cutB c t else match cutB c t with
    | x :: r => (b :: x) :: r
    | [] => [[b]]
theorem cutB_at (c : UInt8) (t : List UInt8) : cutB c (c :: t) = [] :: cutB c t := by simp [cutB]
theorem cutB_ne (c : UInt8) : ∀ l, ∃ x r, cutB c l = x :: r
  | [] => ⟨[], [], rfl⟩
  | b :: t => by
    by_cases h : b = c
    · subst h
      exact ⟨_, _, cutB_at b t⟩
    · obtain ⟨x, r, e⟩ := cutB_ne c t
      exact ⟨b :: x, r, by rw [cutB, if_neg h, e]⟩
theorem cutB_off {c b : UInt8} (h : b ≠ c) {t x : List UInt8} {r : List (List UInt8)} (e : cutB c t = x :: r) : cutB c (b :: t) = (b :: x) :: r := by
  rw [cutB, if_neg h, e]
theorem cutB_pre {c : UInt8} : ∀ {p t x : List UInt8} {r : List (List UInt8)}, c ∉ p → cutB c t = x :: r → cutB c (p ++ t) = (p ++ x) :: r
  | [], _, _, _, _, e => e
  | b :: p, t, x, r, h, e => by
    simp only [List.mem_cons, not_or] at h
    exact cutB_off (Ne.symm h.1) (cutB_pre h.2 e)
theorem cutB_hit {c : UInt8} {p : List UInt8} (h : c ∉ p) (t : List UInt8) : cutB c (p ++ c :: t) = p :: cutB c t := by
  have := cutB_pre h (cutB_at c t)
  rwa [List.append_nil] at this
theorem cutB_one {c : UInt8} {p : List UInt8} (h : c ∉ p) : cutB c p = [p] := by
  have := cutB_pre (t := []) h (x := []) (r := []) rfl
  simpa only [List.append_nil] using this
theorem cut_join {c : UInt8} : ∀ {xs : List (List UInt8)}, xs ≠ [] → (∀ x ∈ xs, c ∉ x) → cutB c (Lib.join xs [c]) = xs
  | [], h, _ => absurd rfl h
  | [x], _, h => by
    rw [Lib.join_one]
    exact cutB_one (h x (by simp))
  | x :: y :: t, _, h => by
    have ih := cut_join (xs := y :: t) (by simp) (fun z hz => h z (List.mem_cons_of_mem _ hz))
    have e : Lib.join (x :: y :: t) [c] = x ++ c :: Lib.join (y :: t) [c] := by
      rw [Lib.join_cons, Lib.join_cons]
      simp [Lib.joinTail]
    rw [e, cutB_hit (h x (by simp)), ih]
theorem cutB_len (c : UInt8) : ∀ l, (cutB c l).length ≤ l.length + 1
  | [] => by simp [cutB]
  | b :: t => by
    have ih := cutB_len c t
    obtain ⟨x, r, e⟩ := cutB_ne c t
    rw [e] at ih
    by_cases h : b = c
    · subst h
      rw [cutB_at, e]
      simp only [List.length_cons] at *
      omega
    · rw [cutB_off h e]
      simp only [List.length_cons] at *
      omega
theorem cutB_mem (c : UInt8) : ∀ l, ∀ x ∈ cutB c l, c ∉ x ∧ x.length ≤ l.length
  | [], x, hx => by
    obtain rfl : x = [] := by simpa [cutB] using hx
    simp
  | b :: t, x, hx => by
    have ih := cutB_mem c t
    obtain ⟨y, r, e⟩ := cutB_ne c t
    by_cases h : b = c
    · subst h
      rw [cutB_at] at hx
      rcases List.mem_cons.1 hx with rfl | hx
      · simp
      · have := ih x hx
        exact ⟨this.1, by simp; omega⟩
    · rw [cutB_off h e] at hx
      rw [e] at ih
      rcases List.mem_cons.1 hx with rfl | hx
      · have := ih y (by simp)
        refine ⟨?_, by simp; omega⟩
        simp only [List.mem_cons, not_or]
        exact ⟨Ne.symm h, this.1⟩
      · have := ih x (List.mem_cons_of_mem _ hx)
        exact ⟨this.1, by simp; omega⟩

theorem index_at (c : UInt8) (t : List UInt8) : Lib.index (c :: t) [c] = 0 := by
  rw [Lib.index]
  simp [List.isPrefixOf]
theorem index_off {c b : UInt8} (h : b ≠ c) (t : List UInt8) : Lib.index (b :: t) [c] = if Lib.index t [c] == -1 then -1 else Lib.index t [c] + 1 := by
  have hp : ([c] : List UInt8).isPrefixOf (b :: t) = false := by simp [List.isPrefixOf, Ne.symm h]
  rw [Lib.index, hp]
  simp
theorem split_cut (c : UInt8) : ∀ l, Lib.split l [c] = cutB c l
  | [] => by
    have : Lib.count [] [c] = 0 := Lib.count_miss (by simp [Lib.index])
    rw [Lib.split, this]
    rfl
  | b :: t => by
    have ih := split_cut c t
    by_cases h : b = c
    · subst h
      rw [cutB_at, ← ih, Lib.split, Lib.count_cons_eq, Nat.add_comm 1, Lib.splitK, index_at]
      rfl
    · obtain ⟨x, r, e⟩ := cutB_ne c t
      rw [cutB_off h e]
      rw [e, Lib.split] at ih
      rw [Lib.split, Lib.count_cons_ne b c t h]
      cases hc : Lib.count t [c] with
      | zero =>
        rw [hc, Lib.splitK] at ih
        cases ih
        rfl
      | succ k =>
        rw [hc, Lib.splitK] at ih
        rw [Lib.splitK, index_off h]
        by_cases hm : Lib.index t [c] = -1
        · rw [hm] at ih ⊢
          simp only [beq_self_eq_true, if_true] at ih ⊢
          cases ih
          rfl
        · have hge := Lib.index_ge t [c]
          obtain ⟨j, hj⟩ : ∃ j : Nat, Lib.index t [c] = j := ⟨(Lib.index t [c]).toNat, by omega⟩
          rw [hj] at ih ⊢
          have h1 : ((j : Int) == -1) = false := by rw [beq_eq_false_iff_ne]; omega
          have h2 : ((j : Int) + 1 == -1) = false := by rw [beq_eq_false_iff_ne]; omega
          rw [h1] at ih ⊢
          simp only [Bool.false_eq_true, if_false] at ih ⊢
          rw [h2]
          simp only [Bool.false_eq_true, if_false]
          have e1 : ((j : Int) + 1).toNat = j + 1 := by omega
          have e2 : (j : Int).toNat = j := by omega
          rw [e2] at ih
          rw [e1]
          simp only [Nat.add_zero, List.length_singleton] at ih ⊢
          rw [List.take_succ_cons]
          injection ih with i1 i2
          rw [i1]
          congr 1

/-! ### strings.Split -/

theorem tx_size (l : List UInt8) : (⟨l.toArray⟩ : ByteArray).size = l.length := by simp [ByteArray.size]

theorem lib_Split (h : Heap) (s : List UInt8) (c : UInt8) (hs : s.length ≤ 1048576) :
    HCalls dm Tryz.prog 135 [Tx s, Tx [c]] h (fun z h' => z = .s (.sl h.length 0 (cutB c s).length) ∧ h' = h ++ [.own ((cutB c s).map stc)]) := by
  refine ⟨enters_of Tryz.func135 (by kernel_rfl) rfl, fun B0 φ w vargs R ha => ?_⟩
  have hv : vargs = #[.string ⟨s.toArray⟩, .string ⟨[c].toArray⟩] := by
    rcases vargs with ⟨vs⟩
    match vs, ha with
    | [u, v], hh =>
      have h1 : u = .string ⟨s.toArray⟩ := hh.1
      have h2 : v = .string ⟨[c].toArray⟩ := hh.2.1
      rw [h1, h2]
  subst hv
  obtain ⟨m, hm⟩ := (R.tab.2.1 _ (by unfold tabI; exact List.mem_singleton.2 rfl)).2
  have hmain := Any.strings_Split { Tryz.splitL with } Tryz.splitL.i9 ⟨s.toArray⟩ ⟨[c].toArray⟩ m w (by rw [tx_size]; omega) hm (by rw [tx_size]; simp)
  have hlen := Lib.splitB_all ⟨[c].toArray⟩ (by rw [tx_size]; simp) 0 _ ⟨s.toArray⟩ rfl
  have hdat := Lib.splitB_data ⟨[c].toArray⟩ 0 (Lib.countB ⟨s.toArray⟩ ⟨[c].toArray⟩) ⟨s.toArray⟩
  have hcut : (Lib.splitB ⟨[c].toArray⟩ 0 (Lib.countB ⟨s.toArray⟩ ⟨[c].toArray⟩) ⟨s.toArray⟩).map (·.data.toList) = cutB c s := by
    rw [hdat, ← split_cut]
    rfl
  refine hmain.mono ?_
  rintro e' w' ⟨rfl, rfl⟩
  generalize Lib.splitB ⟨[c].toArray⟩ 0 (Lib.countB ⟨s.toArray⟩ ⟨[c].toArray⟩) ⟨s.toArray⟩ = ps at hlen hcut
  generalize Lib.countB ⟨s.toArray⟩ ⟨[c].toArray⟩ = n at hlen
  have hcl := cutB_len c s
  have hpl : (cutB c s).length = n + 1 := by rw [← hcut, List.length_map, hlen]
  obtain ⟨x, h', φ', hK, h1, h2, h3, h4⟩ := new_row (dm := dm) (w := w) R (ps.map Value.string).toArray _ ((cutB c s).map stc) (by simp [hpl, hlen]) (fun k d hk => by
    rw [← hcut, List.map_map, List.getElem?_map, Option.map_eq_some_iff] at hk
    obtain ⟨p, hp, rfl⟩ := hk
    refine ⟨.string p, by simp [hp], ?_⟩
    show Value.string p = Value.string _
    simp) (n := n + 1) (by simp [hlen]) (by simp [hlen]; show n + 1 ≤ _; exact Nat.le_trans (by omega : n + 1 ≤ 1048577) (by decide)) (K := fun z h' => z = .s (.sl h.length 0 (cutB c s).length) ∧ h' = h ++ [.own ((cutB c s).map stc)]) ⟨by rw [hpl], rfl⟩
  have es : (ps.map Value.string).toArray.size = n + 1 := by simp [hlen]
  rw [es] at h3
  exact ⟨_, x, h', φ', rfl, hK, h1, h2, h3, h4⟩

end Go.Proofs.YtgliajcgcbnemaaGreatDoor.Hx

namespace Go.Proofs.YtgliajcgcbnemaaGreatDoor.Hx
open Go.RowKit

/-! ### Digits -/

def isDig (b : UInt8) : Bool := decide (48 ≤ b.toNat) && decide (b.toNat ≤ 57)
def dval (acc : Nat) : List UInt8 → Nat
  | [] => acc
  | b :: r => dval (acc * 10 + (b.toNat - 48)) r
theorem dval_app : ∀ (a b : List UInt8) (acc : Nat), dval acc (a ++ b) = dval (dval acc a) b
  | [], _, _ => rfl
  | x :: a, b, acc => dval_app a b _
theorem dig_nat {d : Nat} (h : d < 10) : (UInt8.ofNat (48 + d)).toNat = 48 + d := by
  have : d = 0 ∨ d = 1 ∨ d = 2 ∨ d = 3 ∨ d = 4 ∨ d = 5 ∨ d = 6 ∨ d = 7 ∨ d = 8 ∨ d = 9 := by omega
  rcases this with rfl | rfl | rfl | rfl | rfl | rfl | rfl | rfl | rfl | rfl <;> rfl
theorem dec_val (u : Nat) : dval 0 (Lib.decDigits u) = u := by
  induction u using Nat.strongRecOn with
  | _ u ih =>
    by_cases h : u < 10
    · rw [Lib.decDigits_one h]
      show 0 * 10 + ((UInt8.ofNat (48 + u)).toNat - 48) = u
      rw [dig_nat h]
      omega
    · have e : Lib.decDigits u = Lib.decDigits (u / 10) ++ [UInt8.ofNat (48 + u % 10)] := by
        conv => lhs; rw [Lib.decDigits]
        rw [dif_neg h]
      rw [e, dval_app, ih (u / 10) (by omega)]
      show u / 10 * 10 + ((UInt8.ofNat (48 + u % 10)).toNat - 48) = u
      rw [dig_nat (by omega)]
      omega
theorem dec_dig (u : Nat) : ∀ b ∈ Lib.decDigits u, 48 ≤ b.toNat ∧ b.toNat ≤ 57 := by
  induction u using Nat.strongRecOn with
  | _ u ih =>
    intro b hb
    rw [Lib.decDigits] at hb
    by_cases h : u < 10
    · rw [dif_pos h] at hb
      rw [List.mem_singleton.1 hb, dig_nat h]
      omega
    · rw [dif_neg h] at hb
      rcases List.mem_append.1 hb with hb | hb
      · exact ih (u / 10) (by omega) b hb
      · rw [List.mem_singleton.1 hb, dig_nat (by omega)]
        omega
theorem dec_ne (u : Nat) : Lib.decDigits u ≠ [] := by
  rw [Lib.decDigits]
  by_cases h : u < 10
  · rw [dif_pos h]
    simp
  · rw [dif_neg h]
    simp
theorem dec_len : ∀ (k u : Nat), 1 ≤ k → u < 10 ^ k → (Lib.decDigits u).length ≤ k
  | 0, _, h, _ => by omega
  | k + 1, u, _, h => by
    rw [Lib.decDigits]
    by_cases h10 : u < 10
    · rw [dif_pos h10]
      simp
    · rw [dif_neg h10, List.length_append]
      have hk : 1 ≤ k := by
        cases k with
        | zero => simp at h; omega
        | succ k => omega
      have := dec_len k (u / 10) hk (by rw [Nat.pow_succ] at h; omega)
      simp
      omega
theorem dval_lt : ∀ (l : List UInt8) (acc : Nat), (∀ b ∈ l, b.toNat ≤ 57) → dval acc l < (acc + 1) * 10 ^ l.length
  | [], acc, _ => by
    show acc < (acc + 1) * 1
    omega
  | b :: r, acc, h => by
    have h1 := h b List.mem_cons_self
    have ih := dval_lt r (acc * 10 + (b.toNat - 48)) (fun x hx => h x (List.mem_cons_of_mem _ hx))
    rw [List.length_cons, Nat.pow_succ]
    show dval (acc * 10 + (b.toNat - 48)) r < _
    refine Nat.lt_of_lt_of_le ih ?_
    have e : (acc + 1) * (10 ^ r.length * 10) = ((acc + 1) * 10) * 10 ^ r.length := by rw [Nat.mul_comm (10 ^ r.length) 10, Nat.mul_assoc]
    rw [e]
    exact Nat.mul_le_mul_right _ (by omega)

theorem itoa_cases (n : Int) : (n < 0 ∧ Lib.itoa n = 45 :: Lib.decDigits n.natAbs) ∨ (0 ≤ n ∧ Lib.itoa n = Lib.decDigits n.natAbs) := by
  unfold Lib.itoa
  by_cases h : n < 0
  · rw [if_pos h]
    exact Or.inl ⟨h, rfl⟩
  · rw [if_neg h]
    refine Or.inr ⟨by omega, ?_⟩
    rw [show n.toNat = n.natAbs by omega]
theorem dec_head {u : Nat} {r : List UInt8} : Lib.decDigits u ≠ 45 :: r := fun e => by
  have := dec_dig u 45 (by rw [e]; simp)
  simp at this
theorem itoa_inj {a b : Int} (h : Lib.itoa a = Lib.itoa b) : a = b := by
  rcases itoa_cases a with ⟨ha, e⟩ | ⟨ha, e⟩ <;> rcases itoa_cases b with ⟨hb, f⟩ | ⟨hb, f⟩ <;> rw [e, f] at h
  · injection h with _ h
    have := congrArg (dval 0) h
    rw [dec_val, dec_val] at this
    omega
  · exact (dec_head h.symm).elim
  · exact (dec_head h).elim
  · have := congrArg (dval 0) h
    rw [dec_val, dec_val] at this
    omega
theorem itoa_no {c : UInt8} (h1 : c ≠ 45) (h2 : isDig c = false) (n : Int) : c ∉ Lib.itoa n := by
  intro hc
  have no : c ∉ Lib.decDigits n.natAbs := fun hc => by
    have := dec_dig _ c hc
    simp [isDig, this.1, this.2] at h2
  rcases itoa_cases n with ⟨_, e⟩ | ⟨_, e⟩ <;> rw [e] at hc
  · rcases List.mem_cons.1 hc with hc | hc
    · exact h1 hc
    · exact no hc
  · exact no hc
theorem itoa_ne (n : Int) : Lib.itoa n ≠ [] := by
  rcases itoa_cases n with ⟨_, e⟩ | ⟨_, e⟩ <;> rw [e]
  · simp
  · exact dec_ne _
theorem itoa_short {n : Int} (h : -1000 ≤ n ∧ n ≤ 1000) : (Lib.itoa n).length ≤ 5 ∧ (Lib.decDigits n.natAbs).length ≤ 4 := by
  have := dec_len 4 n.natAbs (by omega) (by show n.natAbs < 10000; omega)
  rcases itoa_cases n with ⟨_, e⟩ | ⟨_, e⟩ <;> rw [e]
  · simp
    omega
  · omega

/-! ### The library's reading -/

theorem parse_dec : ∀ (l : List UInt8) (acc : Nat), (∀ b ∈ l, 48 ≤ b.toNat ∧ b.toNat ≤ 57) → (acc + 1) * 10 ^ l.length ≤ 1000000000000000 → Lib.parseUint10 acc l = .ok (dval acc l)
  | [], acc, _, _ => rfl
  | b :: r, acc, h, hb => by
    have h1 := h b List.mem_cons_self
    rw [List.length_cons, Nat.pow_succ] at hb
    have e : (acc + 1) * (10 ^ r.length * 10) = ((acc + 1) * 10) * 10 ^ r.length := by rw [Nat.mul_comm (10 ^ r.length) 10, Nat.mul_assoc]
    rw [e] at hb
    have hp : 1 ≤ 10 ^ r.length := Nat.one_le_pow _ _ (by omega)
    have h2 : (acc + 1) * 10 ≤ 1000000000000000 := Nat.le_trans (by
      have := Nat.mul_le_mul_left ((acc + 1) * 10) hp
      omega) hb
    have ih := parse_dec r (acc * 10 + (b.toNat - 48)) (fun x hx => h x (List.mem_cons_of_mem _ hx)) (Nat.le_trans (Nat.mul_le_mul_right _ (by omega)) hb)
    rw [Lib.parseUint10, if_pos h1, if_neg (by omega), if_neg (by omega), ih]
    rfl
theorem atoi_itoa {n : Int} (h : -1000 ≤ n ∧ n ≤ 1000) : Lib.atoiAll (Lib.itoa n) = .ok n := by
  obtain ⟨_, hl⟩ := itoa_short h
  have hd := dec_dig n.natAbs
  have hne := dec_ne n.natAbs
  have hp : 10 ^ (Lib.decDigits n.natAbs).length ≤ 10 ^ 4 := Nat.pow_le_pow_right (by omega) hl
  have pm : Lib.parseMag (Lib.decDigits n.natAbs) = .ok n.natAbs := by
    unfold Lib.parseMag
    rw [if_neg hne, parse_dec _ 0 hd (by omega), dec_val]
  rcases itoa_cases n with ⟨h0, e⟩ | ⟨h0, e⟩ <;> rw [e]
  · unfold Lib.atoiAll
    simp only [show (45 : UInt8).toNat = 45 from rfl, or_true, if_true, pm, not_true, false_and, if_false, true_and]
    rw [if_neg (by omega)]
    congr 1
    omega
  · cases hD : Lib.decDigits n.natAbs with
    | nil => exact absurd hD hne
    | cons b r =>
      have hb := hd b (by rw [hD]; simp)
      have c1 : ¬ (b.toNat = 43 ∨ b.toNat = 45) := by omega
      have c2 : ¬ b.toNat = 45 := by omega
      rw [hD] at pm
      have e1 : Lib.parseMag (if b.toNat = 43 ∨ b.toNat = 45 then r else b :: r) = .ok n.natAbs := by rw [if_neg c1, pm]
      unfold Lib.atoiAll
      simp only [e1]
      rw [if_neg (fun h => by omega), if_neg (fun h => c2 h.1), if_neg c2]
      congr 1
      omega

/-! ### Weights -/

/-- A text is a weight's. -/
def IsWText (c : List (List Int)) (s : List UInt8) : Prop := ∃ u, isWeight c u = true ∧ fmtV u = s

theorem weight_small {c : List (List Int)} {u : List Int} (h : isWeight c u = true) : u ≠ [] ∧ u.length = c.length ∧ c.length ≤ 4 ∧ ∀ n ∈ u, -1000 ≤ n ∧ n ≤ 1000 := by
  simp only [isWeight, Bool.and_eq_true, decide_eq_true_eq] at h
  obtain ⟨⟨h1, h2⟩, h3⟩ := h
  have hC := (isCartan_iff c).1 h1
  have p1 := hC.pos
  refine ⟨fun e => ?_, h2, hC.le, fun n hn => ?_⟩
  · rw [e] at h2
    simp at h2
    omega
  · have := List.all_eq_true.1 h3 n hn
    simpa only [Bool.and_eq_true, decide_eq_true_eq] using this

theorem cut_fmt {u : List Int} (h : u ≠ []) : cutB 44 (fmtV u) = u.map Lib.itoa := by
  unfold fmtV
  refine cut_join (by simpa using h) fun x hx => ?_
  obtain ⟨n, _, rfl⟩ := List.mem_map.1 hx
  exact itoa_no (by decide) (by decide) n
theorem fmt_inj {u v : List Int} (hu : u ≠ []) (hv : v ≠ []) (h : fmtV u = fmtV v) : u = v := by
  have := congrArg (cutB 44) h
  rw [cut_fmt hu, cut_fmt hv] at this
  exact (List.map_inj_right fun a b => itoa_inj).1 this
theorem isWText_iff {c : List (List Int)} {v : List Int} (hv : v ≠ []) : IsWText c (fmtV v) ↔ isWeight c v = true := by
  constructor
  · rintro ⟨u, h1, h2⟩
    rw [← fmt_inj (weight_small h1).1 hv h2]
    exact h1
  · exact fun h => ⟨v, h, rfl⟩

end Go.Proofs.YtgliajcgcbnemaaGreatDoor.Hx

namespace Go.Proofs.YtgliajcgcbnemaaGreatDoor.Hx
open Go.RowKit
variable {dm : Bool}

theorem joinC_length (a b : List (List Int)) : (joinC a b).length = a.length + b.length := joinTo2_length _ _ _
theorem joinC_row {a b : List (List Int)} (ha : ∀ k, k < a.length → (a.getD k []).length = a.length) (hb : ∀ k, k < b.length → (b.getD k []).length = b.length) : ∀ k, k < (joinC a b).length → ((joinC a b).getD k []).length = (joinC a b).length := by
  intro k hk
  rw [joinC_length] at hk ⊢
  by_cases h : k < a.length
  · have h1 := ha k h
    have e : (joinC a b).getD k [] = a.getD k [] ++ zerosL b.length := by
      unfold joinC joinTo2 joinTo1
      simp only [List.getD]
      rw [List.getElem?_append_left (by simpa using h)]
      simp [h]
    rw [e, List.length_append, h1]
    simp [zerosL]
  · have h2 : k - a.length < b.length := by omega
    have h1 := hb (k - a.length) h2
    have e : (joinC a b).getD k [] = zerosL a.length ++ b.getD (k - a.length) [] := by
      unfold joinC joinTo2 joinTo1
      simp only [List.getD]
      rw [List.getElem?_append_right (by simp; omega)]
      simp [h2]
    rw [e, List.length_append, h1]
    simp [zerosL]

theorem Shape.join {a b : List (List Int)} (ha : Shape a) (hb : Shape b) (hl : a.length + b.length ≤ 4) : Shape (joinC a b) :=
  ⟨by rw [joinC_length]; have := ha.pos; omega, by rw [joinC_length]; omega, joinC_row ha.row hb.row⟩

def finL : List ByteArray := [⟨#[65, 49]⟩, ⟨#[65, 50]⟩, ⟨#[65, 50]⟩, ⟨#[65, 51]⟩, ⟨#[65, 51]⟩, ⟨#[66, 50]⟩, ⟨#[66, 50]⟩, ⟨#[66, 51]⟩, ⟨#[67, 51]⟩, ⟨#[71, 50]⟩]
def infL : List ByteArray := [⟨#[65, 49, 126]⟩, ⟨#[65, 50, 126]⟩, ⟨#[67, 50, 126]⟩, ⟨#[71, 50, 126]⟩, ⟨#[65, 51, 126]⟩, ⟨#[68, 52]⟩, ⟨#[65, 52]⟩]
theorem finL_names : ∀ s ∈ finL, s ∈ namesT := by
  intro s hs
  simp only [finL, List.mem_cons, List.not_mem_nil, or_false] at hs
  rcases hs with rfl | rfl | rfl | rfl | rfl | rfl | rfl | rfl | rfl | rfl <;> simp [namesT]
theorem infL_names : ∀ s ∈ infL, s ∈ namesT := by
  intro s hs
  simp only [infL, List.mem_cons, List.not_mem_nil, or_false] at hs
  rcases hs with rfl | rfl | rfl | rfl | rfl | rfl | rfl <;> simp [namesT]
theorem cst_one (l : List ByteArray) : ∀ c ∈ l.map cst, c.one = true := by
  intro c hc
  obtain ⟨n, _, rfl⟩ := List.mem_map.1 hc
  rfl
theorem Strs.new (h : Heap) (l : List ByteArray) : Strs (h ++ [.own (l.map cst)]) (.sl h.length 0 l.length) l := by
  have := Shows.own h.length 0 l.length _ (get_new h (.own (l.map cst))) (by simp)
  simp only [List.drop_zero] at this
  rw [List.take_of_length_le (by simp)] at this
  exact this
theorem KeepR.then {r : Nat} {a b c : Heap} (h : KeepR r a b) (k : KeepR r b c) : KeepR r a c := h.trans k (fun _ _ g => g)
theorem KeepR.ext {r : Nat} {a b c : Heap} (h : KeepR r a b) (k : Ext b c) : KeepR r a c := h.trans (KeepN.ofExt (F := fun q => q = r) k) (fun _ _ g => g)
theorem MatAt.keep {F : Nat → Prop} {h h' : Heap} {r : Nat} {ρ : Nat → Nat} {L : List (List Int)} (m : MatAt h r ρ L) (k : KeepN F h h') (hr : ¬ F r) (hρ : ∀ i, i < L.length → ¬ F (ρ i)) : MatAt h' r ρ L :=
  m.move (k.2 r m.lt.1 hr) (fun i hi => k.2 _ (m.lt.2 i hi) (hρ i hi))
theorem MatAt.at {h : Heap} {r : Nat} {ρ : Nat → Nat} {L : List (List Int)} (m : MatAt h r ρ L) {n : Nat} (h1 : n < L.length) : At h (.ptr r n) (.sl (ρ n) 0 (L.getD n []).length) := by
  obtain ⟨cs, g1, g2, g3⟩ := m.outer
  exact ⟨r, n, _, cs, rfl, g1, rfl, g3 n h1⟩
theorem MatAt.ptr {h : Heap} {r : Nat} {ρ : Nat → Nat} {L : List (List Int)} (_m : MatAt h r ρ L) {n : Nat} (h1 : n < L.length) {k : IntKind} {K : HV → Prop} (hK : K (.s (.ptr r n))) : HIdx h (.s (.sl r 0 L.length)) (.s (.pl (.int k (n : Int)))) K :=
  HIdx.sl (by omega) (by omega) (by rw [Int.toNat_natCast, Nat.zero_add]; exact hK)
theorem MatAt.own {h : Heap} {r b : Nat} {ρ : Nat → Nat} {L : List (List Int)} (m : MatAt h r ρ L) (hr : b ≤ r) (hρ : ∀ i, i < L.length → b ≤ ρ i) : OwnM b h.length h (.sl r 0 L.length) L :=
  ⟨r, ρ, rfl, hr, m.lt.1, fun i hi => ⟨hρ i hi, m.lt.2 i hi⟩, m⟩

/-- Any slice of ints put into a slice of slices of one's own. -/
theorem MatAt.putAny {h : Heap} {r : Nat} {ρ : Nat → Nat} {L : List (List Int)} (m : MatAt h r ρ L) {i q off n : Nat} (hi : i < L.length) {l : List Int} (hc : Ints h (.sl q off n) l) (hq : q ≠ r) {F : Nat → Prop} (hF : ¬ F r) (hFq : ¬ F q) (hFρ : ∀ k, k < L.length → ¬ F (ρ k)) {K : HV → Heap → Prop}
    (hK : ∀ h', h'.length = h.length → KeepN (fun q => q = r) h h' → RowsN F h' (.sl r 0 L.length) (L.set i l) → K .dead h') : HStore h (.s (.ptr r i)) (.s (.sl q off n)) K := by
  obtain ⟨cs, g1, g2, g3⟩ := m.outer
  have hlt := get_lt g1
  have k0 : KeepN (fun q => q = r) h (h.set r (.own (cs.set i (.sl q off n)))) := ⟨by simp, fun q hq hn => by rw [List.getElem?_set_ne (Ne.symm hn)]⟩
  refine HStore.own g1 (by omega) rfl (hK _ (by simp) k0 ⟨((cs.set i (.sl q off n)).drop 0).take L.length, Shows.own r 0 L.length _ (List.getElem?_set_self hlt) (by simpa using g2), fun r' o n' e => by cases e; exact hF, by simp; omega, fun k y l' hy hl => ?_⟩)
  have hk : k < L.length := by have := (List.getElem?_eq_some_iff.1 hl).1; simpa using this
  rw [List.drop_zero, List.getElem?_take_of_lt hk] at hy
  by_cases hki : k = i
  · subst hki
    rw [List.getElem?_set_self (by omega)] at hy hl
    cases hy
    cases hl
    exact ⟨Shows.keep hc (fun r' o n' e => by cases e; exact hq) k0, fun r' o n' e => by cases e; exact hFq⟩
  · rw [List.getElem?_set_ne (Ne.symm hki)] at hy hl
    rw [g3 k hk] at hy
    cases hy
    obtain ⟨t, ht⟩ := m.inner k hk
    have e : L.getD k [] = l' := by simp [List.getD, hl]
    rw [e] at ht ⊢
    exact ⟨Shows.keep (Ints.ofOwn ht) (fun r' o n' e => by cases e; exact m.ne k hk) k0, fun r' o n' e => by cases e; exact hFρ k hk⟩


theorem spec_JoinCartans (h : Heap) (x0 x1 : H0) (a0 a1 : List (List Int)) (hx0 : Rows h x0 a0) (hx1 : Rows h x1 a1) (C0 : isCartan a0 = true) (C1 : isCartan a1 = true) (hl : a0.length + a1.length ≤ 4) :
    HCalls dm Tryz.prog 219 [.s x0, .s x1] h (fun r h' => ∃ y, r = TM y true ∧ Ext h h' ∧ OwnM h.length h'.length h' y (joinC a0 a1)) := by
  have S0 := Shape.of C0
  have S1 := Shape.of C1
  have p0 := S0.pos
  have p1 := S1.pos
  refine calls_of_hFun (m := 0) kd_ok mixed Tryz.func219 rfl (by kernel_rfl) rfl rfl (of_decide_eq_true rfl) ?_; unfold hFun; (conv => whnf)
  refine (spec_IsCartan _ _ _ hx0 (by omega)).mono ?_
  rintro r h' ⟨rfl, hh⟩
  subst h'
  rw [C0]
  (conv => whnf)
  (repeat (refine HIf.isF rfl ?_; (conv => whnf)))
  refine (spec_IsCartan _ _ _ hx1 (by omega)).mono ?_
  rintro r h' ⟨rfl, hh⟩
  subst h'
  rw [C1]
  (conv => whnf)
  (repeat (refine HIf.isF rfl ?_; (conv => whnf)))
  refine ⟨rfl, hx0.len ?_⟩
  (conv => whnf)
  (repeat (refine HIf.isF rfl ?_; (conv => whnf)))
  refine ⟨rfl, hx1.len ?_⟩
  (conv => whnf)
  (repeat (refine HIf.isF rfl ?_; (conv => whnf)))
  refine HArith.fits (by omega) (by omega) ?_
  (conv => whnf)
  (repeat (refine HIf.isF rfl ?_; (conv => whnf)))
  refine HIf.decF (by omega) ?_
  (conv => whnf)
  refine HLit.empty ?_
  (conv => whnf)
  refine HLoop.intro [7, 6] [27, 28, 29, 30, 33, 34, 35, 36, 37, 38, 39, 40, 41, 42, 43, 44, 6, 31, 32, 7] (by kernel_rfl) (by kernel_rfl) (fun vs h' => ∃ (k : Nat) (z : H0), vs = [I k, .s z] ∧ k ≤ a0.length ∧ Ext h h' ∧ OwnM h.length h'.length h' z (joinTo1 a0 a1 k)) (fun vs _ => a0.length - natAt vs 0) ⟨0, _, rfl, by omega, Ext.push _ _, OwnM.none h⟩ ?_
  rintro vs h' ⟨k, z, rfl, hk, E, O⟩
  have hx0' := hx0.ext E
  have hx1' := hx1.ext E
  have hjl := joinTo1_length a0 a1 k
  (conv => whnf)
  refine ⟨rfl, hx0'.len ?_⟩
  (conv => whnf)
  refine HIf.dec (fun hlt => ?_) (fun hge => ?_)
  · have hrow := S0.row k (by omega)
    have E1 := Ext.push h' [Row.own []]
    (conv => whnf)
    refine HLit.empty ?_
    (conv => whnf)
    refine ⟨rfl, Rows.idxN (hx0'.ext E1) (by omega) (fun p y hp hy => ?_)⟩
    (conv => whnf)
    refine ⟨rfl, hp.load ?_⟩
    (conv => whnf)
    refine ⟨rfl, rfl, HApp.moreR (OwnR.push h' []) hy (by rw [List.length_nil]; omega) (fun h2 r2 y2 B2 hr2 O2 => ?_)⟩
    have E2 := E1.but B2 (Nat.le_refl _)
    have hE1 := E1.1
    rw [List.nil_append] at O2
    obtain ⟨t2, rfl, ho2⟩ := O2
    have O2 : OwnR r2 h2 (.sl r2 0 (a0.getD k []).length) (a0.getD k []) := ⟨t2, rfl, ho2⟩
    (conv => whnf)
    refine ⟨rfl, (hx1'.ext E2).len ?_⟩
    (conv => whnf)
    refine HAppZ2.ints O2 (by omega) (by omega) (fun h3 r3 y3 B3 hr3 O3 => ?_)
    have E3 := E2.but B3 (by omega)
    have hB2 := B2.1
    rw [Int.toNat_natCast] at O3
    (conv => whnf)
    refine HLit.row (O3.own (Nat.zero_le _)).one ?_
    (conv => whnf)
    refine ⟨rfl, rfl, HApp.snocM E O E3 (O3.own (by omega)) (by omega) (fun h4 y4 E4 O4 => ?_)⟩
    rw [← joinTo1_succ] at O4
    (conv => whnf)
    refine HArith.fits (by omega) (by omega) ?_
    (conv => whnf)
    exact ⟨⟨k + 1, y4, rfl, by omega, E4, O4⟩, by show a0.length - (k + 1) < a0.length - k; omega⟩
  · have e : k = a0.length := by omega
    subst e
    rw [← joinTo2_none] at O
    (conv => whnf)
    refine HLoop.intro [8, 6] [45, 46, 47, 48, 51, 52, 53, 54, 55, 56, 57, 58, 59, 60, 61, 6, 49, 50, 8] (by kernel_rfl) (by kernel_rfl) (fun vs h' => ∃ (k : Nat) (z : H0), vs = [I k, .s z] ∧ k ≤ a1.length ∧ Ext h h' ∧ OwnM h.length h'.length h' z (joinTo2 a0 a1 k)) (fun vs _ => a1.length - natAt vs 0) ⟨0, _, rfl, by omega, E, O⟩ ?_
    rintro vs h' ⟨k, z, rfl, hk, E, O⟩
    have hx0' := hx0.ext E
    have hx1' := hx1.ext E
    have hjl := joinTo2_length a0 a1 k
    (conv => whnf)
    refine ⟨rfl, hx1'.len ?_⟩
    (conv => whnf)
    refine HIf.dec (fun hlt => ?_) (fun hge => ?_)
    · have hrow := S1.row k (by omega)
      (conv => whnf)
      refine Or.inr (Or.inr (Or.inl (Exists.intro 8 (Exists.intro [0, 1, 2, 4, 5, 6, 7] (Exists.intro [3, 8, 9, 10, 11] (And.intro (show heldOk _ _ _ _ = true by kernel_rfl) ?_)))))); (conv => whnf)
      refine ⟨rfl, hx0'.len ?_⟩
      (conv => whnf)
      refine ⟨rfl, Rows.idxN hx1' (by omega) (fun p y hp hy => ?_)⟩
      (conv => whnf)
      refine ⟨rfl, hp.load ?_⟩
      (conv => whnf)
      refine HMake.ints a0.length rfl (by omega) ?_
      have O1 : OwnR h'.length (h' ++ [.own (List.replicate a0.length (ci 0))]) (.sl h'.length 0 a0.length) (zerosL a0.length) := ⟨[], by simp [zerosL], by rw [get_new]; simp [zerosL]⟩
      have E1 := Ext.push h' [.own (List.replicate a0.length (ci 0))]
      generalize h' ++ [Row.own (List.replicate a0.length (ci 0))] = h1 at O1 E1 ⊢
      have hE1 := E1.1
      have hzl : (zerosL a0.length).length = a0.length := by simp [zerosL]
      (conv => whnf)
      refine ⟨rfl, rfl, HApp.moreR O1 (hy.ext E1) (by omega) (fun h2 r2 y2 B2 hr2 O2 => ?_)⟩
      have E2 := E1.but B2 (Nat.le_refl _)
      (conv => whnf)
      refine HLit.row (O2.own (Nat.zero_le _)).one ?_
      (conv => whnf)
      refine ⟨rfl, rfl, HApp.snocM E O E2 (O2.own (by omega)) (by omega) (fun h4 y4 E4 O4 => ?_)⟩
      rw [← joinTo2_succ] at O4
      (conv => whnf)
      refine HArith.fits (by omega) (by omega) ?_
      (conv => whnf)
      exact ⟨⟨k + 1, y4, rfl, by omega, E4, O4⟩, by show a1.length - (k + 1) < a1.length - k; omega⟩
    · have e : k = a1.length := by omega
      subst e
      (conv => whnf)
      exact ⟨_, rfl, E, O⟩

theorem spec_TypeCartanA1 (h : Heap) : HCalls dm Tryz.prog 182 [St ⟨#[65, 49]⟩] h (fun r h' => ∃ y, r = TM y true ∧ Ext h h' ∧ OwnM h.length h'.length h' y (chainC 1)) := by
  refine calls_of_hFun (m := 0) kd_ok mixed Tryz.func182 rfl (by kernel_rfl) rfl rfl (of_decide_eq_true rfl) ?_; unfold hFun; (conv => whnf)
  refine HStr.eql ?_
  (conv => whnf)
  refine HIf.strT rfl ?_
  (conv => whnf)
  refine HIf.strT rfl ?_
  (conv => whnf)
  refine ⟨_, .i64, 1, by decide, rfl, rfl, ?_⟩
  (conv => whnf)
  refine HArith.any ?_
  (conv => whnf)
  refine HConv.of ?_
  (conv => whnf)
  refine (show HCalls _ _ _ [I ((1 : Nat) : Int)] _ _ from (spec_l2Chain h 1 (by omega)).mono ?_)
  rintro r h1 ⟨y1, rfl, E1, O1⟩
  (conv => whnf)
  exact ⟨_, rfl, E1, O1⟩

theorem spec_l2Finite (h : Heap) (r : Nat) (x : H0) (C : Cur r h x) : HCalls dm Tryz.prog 176 [.s x] h (fun v h' => ∃ y L, v = .s y ∧ KeepR r h h' ∧ Cur r h' x ∧ OwnM h.length h'.length h' y L ∧ Shape L) := by
  have hr := C.lt
  refine calls_of_hFun (m := 0) kd_ok mixed Tryz.func176 rfl (by kernel_rfl) rfl rfl (of_decide_eq_true rfl) ?_; unfold hFun; (conv => whnf)
  refine HLit.of (xs := finL.map cst) rfl (cst_one _) (by decide) ?_
  have C0 := C.ext (Ext.push h [.own (finL.map cst)])
  have E0 := Ext.push h [Row.own (finL.map cst)]
  have S0 := Strs.new h finL
  have hn0 : (h ++ [Row.own (finL.map cst)]).length = h.length + 1 := by simp
  generalize h ++ [Row.own (finL.map cst)] = h0 at C0 E0 S0 hn0 ⊢
  (conv => whnf)
  refine (spec_l1Pick _ r _ _ finL C0 S0 (fun q o n e => by cases e; omega) (by decide) (by decide)).mono ?_
  rintro v h1 ⟨s, rfl, hs, K1, C1⟩
  have K1 : KeepR r h h1 := KeepR.then (KeepN.ofExt E0) K1
  have n1 := K1.1
  (conv => whnf)
  refine (spec_TypeCartan _ s (finL_names s hs)).mono ?_
  rintro v h2 ⟨y, L, rfl, E2, O2, hC⟩
  have K2 := K1.ext E2
  have C2 := C1.ext E2
  replace O2 := O2.lower n1
  have SL := Shape.of hC
  (conv => whnf)
  refine ⟨rfl, O2.rows.len ?_⟩
  (conv => whnf)
  refine HIf.dec (fun hlt => ?_) (fun hge => ?_)
  · (conv => whnf)
    refine HIf.decT hlt ?_
    (conv => whnf)
    refine (spec_l1Once _ r _ 4 C2 (by omega)).mono ?_
    rintro v h3 ⟨b, rfl, K3, C3⟩
    have O3 := O2.keep K3 (fun q g1 g2 e => by omega)
    replace O3 := O3.widen K3.1
    have K3 := K2.then K3
    (conv => whnf)
    refine HIf.decT hlt ?_
    (conv => whnf)
    refine HIf.split (fun hb => ?_) (fun hb => ?_)
    · (conv => whnf)
      refine (spec_TypeCartanA1 _).mono ?_
      rintro v h4 ⟨y4, rfl, E4, O4⟩
      have O3' := O3.ext E4
      (conv => whnf)
      refine (spec_JoinCartans _ _ _ _ _ O3'.rows O4.rows hC (by decide +kernel) (by rw [show (chainC 1).length = 1 from rfl]; omega)).mono ?_
      rintro v h5 ⟨y5, rfl, E5, O5⟩
      (conv => whnf)
      exact ⟨_, _, rfl, (K3.ext E4).ext E5, (C3.ext E4).ext E5, O5.lower (Nat.le_trans K3.1 E4.1), SL.join (Shape.of (by decide +kernel)) (by rw [show (chainC 1).length = 1 from rfl]; omega)⟩
    · (conv => whnf)
      exact ⟨_, _, rfl, K3, C3, O3, SL⟩
  · (conv => whnf)
    refine HIf.decF hge ?_
    (conv => whnf)
    refine HIf.decF hge ?_
    (conv => whnf)
    refine HIf.no ?_
    (conv => whnf)
    exact ⟨_, _, rfl, K2, C2, O2, SL⟩

theorem spec_l2Infinite (h : Heap) (r : Nat) (x : H0) (C : Cur r h x) : HCalls dm Tryz.prog 175 [.s x] h (fun v h' => ∃ y L, v = .s y ∧ KeepR r h h' ∧ Cur r h' x ∧ OwnM h.length h'.length h' y L ∧ Shape L) := by
  have hr := C.lt
  refine calls_of_hFun (m := 0) kd_ok mixed Tryz.func175 rfl (by kernel_rfl) rfl rfl (of_decide_eq_true rfl) ?_; unfold hFun; (conv => whnf)
  refine HLit.of (xs := infL.map cst) rfl (cst_one _) (by decide) ?_
  have C0 := C.ext (Ext.push h [.own (infL.map cst)])
  have E0 := Ext.push h [Row.own (infL.map cst)]
  have S0 := Strs.new h infL
  have hn0 : (h ++ [Row.own (infL.map cst)]).length = h.length + 1 := by simp
  generalize h ++ [Row.own (infL.map cst)] = h0 at C0 E0 S0 hn0 ⊢
  (conv => whnf)
  refine (spec_l1Pick _ r _ _ infL C0 S0 (fun q o n e => by cases e; omega) (by decide) (by decide)).mono ?_
  rintro v h1 ⟨s, rfl, hs, K1, C1⟩
  have K1 : KeepR r h h1 := KeepR.then (KeepN.ofExt E0) K1
  have n1 := K1.1
  (conv => whnf)
  refine (spec_TypeCartan _ s (infL_names s hs)).mono ?_
  rintro v h2 ⟨y, L, rfl, E2, O2, hC⟩
  have K2 := K1.ext E2
  have C2 := C1.ext E2
  replace O2 := O2.lower n1
  have SL := Shape.of hC
  have p1 := SL.pos
  have p2 := SL.le
  (conv => whnf)
  refine (spec_l1Once _ r _ 3 C2 (by omega)).mono ?_
  rintro v h3 ⟨b, rfl, K3, C3⟩
  have O3 := (O2.keep K3 (fun q g1 g2 e => by omega)).widen K3.1
  replace K3 := K2.then K3
  (conv => whnf)
  refine HIf.split (fun hb => ?_) (fun hb => ?_)
  · (conv => whnf)
    refine ⟨rfl, O3.rows.len ?_⟩
    (conv => whnf)
    refine (spec_l1Below _ r _ _ C3 (by omega)).mono ?_
    rintro v h4 ⟨m, rfl, m0, m1, _, K4, C4⟩
    obtain ⟨i, rfl⟩ : ∃ i : Nat, m = i := ⟨m.toNat, by omega⟩
    have O4 := (O3.keep K4 (fun q g1 g2 e => by omega)).widen K4.1
    replace K4 := K3.then K4
    (conv => whnf)
    refine ⟨rfl, O4.rows.len ?_⟩
    (conv => whnf)
    refine (spec_l1Below _ r _ _ C4 (by omega)).mono ?_
    rintro v h5 ⟨m, rfl, m0', m1', _, K5, C5⟩
    obtain ⟨j, rfl⟩ : ∃ j : Nat, m = j := ⟨m.toNat, by omega⟩
    have O5 := (O4.keep K5 (fun q g1 g2 e => by omega)).widen K5.1
    replace K5 := K4.then K5
    have hi := m1 (by omega)
    have hj := m1' (by omega)
    (conv => whnf)
    refine HIf.bne (fun hij => ?_) (fun hij => ?_)
    · (conv => whnf)
      refine (spec_l1Below _ r _ 3 C5 (by omega)).mono ?_
      rintro v h6 ⟨a, rfl, a0, a1, _, K6, C6⟩
      have O6 := (O5.keep K6 (fun q g1 g2 e => by omega)).widen K6.1
      replace K6 := K5.then K6
      have a2 := a1 (by omega)
      (conv => whnf)
      refine HArith.fits (by omega) (by omega) ?_
      (conv => whnf)
      refine (spec_l1Below _ r _ 3 C6 (by omega)).mono ?_
      rintro v h7 ⟨d, rfl, d0, d1, _, K7, C7⟩
      have O7 := (O6.keep K7 (fun q g1 g2 e => by omega)).widen K7.1
      replace K7 := K6.then K7
      have d2 := d1 (by omega)
      (conv => whnf)
      refine HArith.fits (by omega) (by omega) ?_
      (conv => whnf)
      have ht := SL.tot
      refine (spec_l2Set _ _ L i j _ _ O7.rows (by omega) (by omega) (by omega) (by rw [SL.row i (by omega)]; omega) (by rw [SL.row j (by omega)]; omega)).mono ?_
      rintro v h8 ⟨y8, rfl, E8, O8⟩
      (conv => whnf)
      exact ⟨_, _, rfl, K7.ext E8, C7.ext E8, O8.lower K7.1, SL.set (by omega) (by omega) _ _⟩
    · (conv => whnf)
      exact ⟨_, _, rfl, K5, C5, O5, SL⟩
  · (conv => whnf)
    exact ⟨_, _, rfl, K3, C3, O3, SL⟩

theorem spec_l2Drawn (h : Heap) (r : Nat) (x : H0) (C : Cur r h x) : HCalls dm Tryz.prog 125 [.s x] h (fun v h' => ∃ y L, v = .s y ∧ KeepR r h h' ∧ Cur r h' x ∧ OwnM h.length h'.length h' y L ∧ Shape L) := by
  have hr := C.lt
  refine calls_of_hFun (m := 0) kd_ok mixed Tryz.func125 rfl (by kernel_rfl) rfl rfl (of_decide_eq_true rfl) ?_; unfold hFun; (conv => whnf)
  refine (spec_l1Once _ r _ 3 C (by omega)).mono ?_
  rintro v h1 ⟨b, rfl, K1, C1⟩
  (conv => whnf)
  refine HIf.split (fun hb => ?_) (fun hb => ?_)
  · (conv => whnf)
    refine (spec_l2Infinite _ r _ C1).mono ?_
    rintro v h2 ⟨y, L, rfl, K2, C2, O2, S2⟩
    (conv => whnf)
    exact ⟨_, _, rfl, K1.then K2, C2, O2.lower K1.1, S2⟩
  · (conv => whnf)
    refine (spec_l2Finite _ r _ C1).mono ?_
    rintro v h2 ⟨y, L, rfl, K2, C2, O2, S2⟩
    (conv => whnf)
    exact ⟨_, _, rfl, K1.then K2, C2, O2.lower K1.1, S2⟩

end Go.Proofs.YtgliajcgcbnemaaGreatDoor.Hx

namespace Go.Proofs.YtgliajcgcbnemaaGreatDoor.Hx
open Go.RowKit
variable {dm : Bool}

def tyAt (k : Nat) : ByteArray × List (List Int) := typeL.getD k (⟨#[]⟩, [])
/-- The first name whose matrix is like this one. -/
def nameIn (f : List (List Int) → Bool) : List (ByteArray × List (List Int)) → List UInt8
  | [] => [63]
  | t :: r => if f t.2 = true then t.1.data.toList else nameIn f r
noncomputable def nameP (c : List (List Int)) : List UInt8 := nameIn (isoB c) typeL

def typeS : List UInt8 := [65, 49, 32, 65, 50, 32, 65, 51, 32, 65, 52, 32, 66, 50, 32, 66, 51, 32, 66, 52, 32, 67, 51, 32, 67, 52, 32, 68, 52, 32, 70, 52, 32, 71, 50, 32, 65, 49, 126, 32, 65, 50, 126, 32, 65, 51, 126, 32, 67, 50, 126, 32, 71, 50, 126]
end Go.Proofs.YtgliajcgcbnemaaGreatDoor.Hx

namespace Go.Proofs.YtgliajcgcbnemaaGreatDoor.Hx
open Go.RowKit
variable {dm : Bool}

/-! ### The parts of a matrix -/

structure PartOk (c : List (List Int)) (o : List Int) : Prop where
  rng : ∀ k, k < o.length → 0 ≤ o.getD k 0 ∧ o.getD k 0 < c.length
  asc : ∀ k, k < o.length → k = 0 ∨ o.getD (k - 1) 0 < o.getD k 0
  le : o.length ≤ 4
  ne : o.length ≠ 0
  cart : isCartan (subM c o) = true
  conn : isConn (subM c o) = true
/-- The name of a part. -/
noncomputable def nameQ (c : List (List Int)) (o : List Int) : List UInt8 := nameP (subM c o)
noncomputable def nameOf (c : List (List Int)) : List UInt8 := Lib.join ((partsC c).map (nameQ c)) [120]
end Go.Proofs.YtgliajcgcbnemaaGreatDoor.Hx

namespace Go.Proofs.YtgliajcgcbnemaaGreatDoor.Hx
open Go.RowKit
variable {dm : Bool}

def ordF (c : List (List Int)) (w : List Int) : Nat → List Int → Nat → Int
  | 0, _, _ => 0
  | f + 1, p, k => if (normF c (p ++ w)).length = 0 then (k : Int) else if 15 < (normF c (p ++ w)).length then 0 else ordF c w f (normF c (p ++ w)) (k + 1)
def ordG (c : List (List Int)) (w : List Int) (f : Nat) (y : List Int) (k : Nat) : Int := if y.length = 0 then (k : Int) else if 15 < y.length then 0 else ordF c w f y (k + 1)
def orderOf (c : List (List Int)) (w : List Int) : Int := if isWord c w && (isFinite c || decide ((normF c w).length ≤ 7)) then ordF c w 60 [] 1 else 0

end Go.Proofs.YtgliajcgcbnemaaGreatDoor.Hx

namespace Go.Proofs.YtgliajcgcbnemaaGreatDoor.Hx
open Go.RowKit

abbrev IP := Int × Int
def D3 (a b c d e f g h i : Int) : Int := a * (e * i - f * h) - b * (d * i - f * g) + c * (d * h - e * g)
def opts : List IP := [(0, 0), (-1, -1), (-1, -2), (-2, -1), (-1, -3), (-3, -1)]
def d3 (p q r : IP) : Int := D3 2 p.1 q.1 p.2 2 r.1 q.2 r.2 2
def d4 (p q r s t u : IP) : Int := 2 * D3 2 r.1 t.1 r.2 2 u.1 t.2 u.2 2 - p.1 * D3 p.2 r.1 t.1 q.2 2 u.1 s.2 u.2 2 + q.1 * D3 p.2 2 t.1 q.2 r.2 u.1 s.2 t.2 2 - s.1 * D3 p.2 2 r.1 q.2 r.2 2 s.2 t.2 u.2
structure V4 where
  a : Int
  b : Int
  c : Int
  d : Int
structure M6 where
  p : IP
  q : IP
  r : IP
  s : IP
  t : IP
  u : IP
def st1 (m : M6) (v : V4) : V4 := ⟨v.a - v.a * 2, v.b - v.a * m.p.2, v.c - v.a * m.q.2, v.d - v.a * m.s.2⟩
def st2 (m : M6) (v : V4) : V4 := ⟨v.a - v.b * m.p.1, v.b - v.b * 2, v.c - v.b * m.r.2, v.d - v.b * m.t.2⟩
def st3 (m : M6) (v : V4) : V4 := ⟨v.a - v.c * m.q.1, v.b - v.c * m.r.1, v.c - v.c * 2, v.d - v.c * m.u.2⟩
def st4 (m : M6) (v : V4) : V4 := ⟨v.a - v.d * m.s.1, v.b - v.d * m.t.1, v.c - v.d * m.u.1, v.d - v.d * 2⟩
def stp (m : M6) : Nat → V4 → V4
  | 0 => st1 m
  | 1 => st2 m
  | 2 => st3 m
  | _ => st4 m
def negB (x : Int) : Bool := match x with
  | .ofNat _ => false
  | .negSucc _ => true
def run (n : Nat) (m : M6) (K : (V4 → V4) → V4 → Bool) : Nat → V4 → (V4 → V4) → Bool
  | 0, v, k => K k v
  | f + 1, v, k => match Nat.blt 0 n && negB v.a with
    | true => run n m K f (st1 m v) (fun x => k (st1 m x))
    | false => match Nat.blt 1 n && negB v.b with
      | true => run n m K f (st2 m v) (fun x => k (st2 m x))
      | false => match Nat.blt 2 n && negB v.c with
        | true => run n m K f (st3 m v) (fun x => k (st3 m x))
        | false => match Nat.blt 3 n && negB v.d with
          | true => run n m K f (st4 m v) (fun x => k (st4 m x))
          | false => K k v
def eqV (x y : V4) : Bool := x.a == y.a && x.b == y.b && x.c == y.c && x.d == y.d
def one4 : V4 := ⟨1, 1, 1, 1⟩
def mone (n : Nat) : V4 := ⟨if 0 < n then -1 else 1, if 1 < n then -1 else 1, if 2 < n then -1 else 1, if 3 < n then -1 else 1⟩
def hitV (n : Nat) (m : M6) (x : V4) : Bool := (Nat.blt 0 n && eqV x (st1 m (mone n))) || (Nat.blt 1 n && eqV x (st2 m (mone n))) || (Nat.blt 2 n && eqV x (st3 m (mone n))) || (Nat.blt 3 n && eqV x (st4 m (mone n)))
def last (n : Nat) (m : M6) (k : V4 → V4) (v : V4) : Bool := eqV v one4 && (!Nat.blt 0 n || hitV n m (k (st1 m one4))) && (!Nat.blt 1 n || hitV n m (k (st2 m one4))) && (!Nat.blt 2 n || hitV n m (k (st3 m one4))) && (!Nat.blt 3 n || hitV n m (k (st4 m one4)))
def good (n : Nat) (m : M6) : Bool := run n m (last n m) 30 (mone n) id
def z0 : IP := (0, 0)
def chk1 : Bool := good 1 ⟨z0, z0, z0, z0, z0, z0⟩
def chk2 : Bool := opts.all fun p => good 2 ⟨p, z0, z0, z0, z0, z0⟩
def chk3 : Bool := opts.all fun p => opts.all fun q => opts.all fun r => !decide (0 < d3 p q r) || good 3 ⟨p, q, r, z0, z0, z0⟩
def chk4 : Bool := opts.all fun p => opts.all fun q => opts.all fun r => !decide (0 < d3 p q r) || opts.all fun s => opts.all fun t => !decide (0 < d3 p s t) || opts.all fun u => !decide (0 < d3 q s u) || !decide (0 < d3 r t u) || !decide (0 < d4 p q r s t u) || good 4 ⟨p, q, r, s, t, u⟩

/-! What the run means -/

def crd (v : V4) : Nat → Int
  | 0 => v.a
  | 1 => v.b
  | 2 => v.c
  | 3 => v.d
  | _ => 0
def cvt (n : Nat) (v : V4) : Pos := fun k => if k < n then crd v k else 0
def m6 (c : List (List Int)) : M6 := ⟨(ent c 0 1, ent c 1 0), (ent c 0 2, ent c 2 0), (ent c 1 2, ent c 2 1), (ent c 0 3, ent c 3 0), (ent c 1 3, ent c 3 1), (ent c 2 3, ent c 3 2)⟩

def acts (m : M6) : List Nat → V4 → V4
  | [], x => x
  | i :: w, x => stp m i (acts m w x)

end Go.Proofs.YtgliajcgcbnemaaGreatDoor.Hx

namespace Go.Proofs.YtgliajcgcbnemaaGreatDoor.Hx
open Go.RowKit

/-- The opposite of rho. -/
def opp (c : List (List Int)) : List Int := List.replicate c.length (-1)
def longest (c : List (List Int)) : List Int := nf c 31 (opp c)

end Go.Proofs.YtgliajcgcbnemaaGreatDoor.Hx

namespace Go.Proofs.YtgliajcgcbnemaaGreatDoor.Hx
open Go.RowKit
variable {dm : Bool}

def longestE (c : List (List Int)) : List Int := if isFinite c then longest c else []
def mixTo (n k : Nat) : List Int := (List.range n).map fun t => if t < k then (-1 : Int) else 1
end Go.Proofs.YtgliajcgcbnemaaGreatDoor.Hx

namespace Go.Proofs.YtgliajcgcbnemaaGreatDoor.Hx
open Go.RowKit
variable {dm : Bool}

/-- The size of a type, 0 where there is none. -/
def sizeT (l : List UInt8) : Int :=
  if l = [65, 49] then 2 else if l = [65, 50] then 6 else if l = [65, 51] then 24 else if l = [65, 52] then 120 else if l = [66, 50] then 8 else if l = [66, 51] then 48 else if l = [67, 51] then 48 else
  if l = [66, 52] then 384 else if l = [67, 52] then 384 else if l = [68, 52] then 192 else if l = [70, 52] then 1152 else if l = [71, 50] then 12 else 0
def sizeL (xs : List (List UInt8)) : Int := xs.foldl (fun n x => n * sizeT x) 1
/-- The size of a matrix's group. -/
noncomputable def namesL (c : List (List Int)) : List (List UInt8) := (partsC c).map (nameQ c)
noncomputable def sizeN (c : List (List Int)) : Int := if isFinite c then sizeL (namesL c) else 0
theorem HByte.tx {s : List UInt8} {k : Nat} {K : HV → Prop} (hk : k < s.length) (hK : K (.s (.pl (.int .u8 ((s.getD k 0).toNat : Int))))) : HByte (Tx s) (I k) K := by
  have e : (s.getD k 0) = s[k] := by simp [List.getD, hk]
  rw [e] at hK
  exact ⟨⟨s.toArray⟩, .i64, k, by rw [tx_size]; exact hk, rfl, rfl, hK⟩
theorem HSub.tx {s : List UInt8} {k : Nat} {K : HV → Prop} (hk : k < s.length) (hK : K (Tx [s.getD k 0])) : HSub (Tx s) (some (I k)) (some (I ((k + 1 : Nat) : Int))) K := by
  refine ⟨⟨s.toArray⟩, k, k + 1, rfl, Or.inr ⟨.i64, rfl⟩, Or.inr ⟨.i64, rfl⟩, by omega, by rw [tx_size]; omega, ?_⟩
  have e : (⟨s.toArray⟩ : ByteArray).extract k (k + 1) = ⟨[s.getD k 0].toArray⟩ := by
    apply ByteArray.ext
    apply Array.ext'
    simp only [ByteArray.data_extract, Array.toList_extract, List.extract_eq_take_drop]
    have e2 : s.getD k 0 = s[k] := by simp [List.getD, hk]
    rw [e2, show k + 1 - k = 1 by omega, List.drop_eq_getElem_cons hk]
    rfl
  rw [e]
  exact hK


set_option maxHeartbeats 1000000 in
theorem spec_l2Cut (h : Heap) (s : List UInt8) (c : UInt8) (hs : s.length ≤ 1048575) :
    HCalls dm Tryz.prog 123 [Tx s, .s (.pl (.int .u8 (c.toNat : Int)))] h (fun z h' => ∃ r, z = .s (.sl r 0 (cutB c s).length) ∧ Ext h h' ∧ h'[r]? = some (.own ((cutB c s).map stc))) := by
  have hsz := tx_size s
  obtain ⟨V, hV⟩ : ∃ V, V = cutB c s := ⟨_, rfl⟩
  rw [← hV]
  refine calls_of_hFun (m := 0) kd_ok mixed Tryz.func123 rfl (by kernel_rfl) rfl rfl (of_decide_eq_true rfl) ?_; unfold hFun; (conv => whnf)
  refine HLit.empty ?_
  (conv => whnf)
  refine HLoop.intro [7, 5, 6] [9, 10, 11, 12, 15, 16, 17, 18, 19, 20, 21, 22, 23, 5, 6, 24, 25, 26, 27, 28, 29, 30, 6, 13, 14, 7] (by kernel_rfl) (by kernel_rfl) (fun vs h' => ∃ (k r : Nat) (xs : List (List UInt8)) (p : List UInt8), vs = [I k, .s (.sl r 0 xs.length), Tx p] ∧ k ≤ s.length ∧ Ext h h' ∧ h.length ≤ r ∧ h'[r]? = some (.own (xs.map stc)) ∧ c ∉ p ∧ p.length ≤ k ∧ xs.length ≤ k ∧ V = xs ++ cutB c (p ++ s.drop k)) (fun vs _ => s.length - natAt vs 0) ⟨0, h.length, [], [], rfl, by omega, Ext.push _ _, Nat.le_refl _, get_new _ _, by simp, by simp, by simp, by simpa using hV⟩ ?_
  rintro vs h' ⟨k, r, xs, p, rfl, hk, E, hr, hcs, hcp, hpl, hxl, hv⟩
  have hE := E.1
  have hrl := get_lt hcs
  (conv => whnf)
  refine HLenS.mk ⟨_, rfl, ?_⟩
  rw [hsz]
  (conv => whnf)
  refine HIf.dec (fun hlt => ?_) (fun hge => ?_)
  · have hkl : k < s.length := by omega
    have hd : s.drop k = s.getD k 0 :: s.drop (k + 1) := by
      have e2 : s.getD k 0 = s[k] := by simp [List.getD, hkl]
      rw [List.drop_eq_getElem_cons hkl, e2]
    generalize hb : s.getD k 0 = b at *
    (conv => whnf)
    refine HByte.tx hkl ?_
    rw [hb]
    (conv => whnf)
    refine HIf.beq (fun he => ?_) (fun hne => ?_)
    · have hbc : b = c := by
        apply UInt8.toNat_inj.1
        omega
      subst hbc
      (conv => whnf)
      refine HLit.row (y := stc p) rfl ?_
      (conv => whnf)
      refine ⟨rfl, rfl, HApp.text (by rw [List.getElem?_append_left hrl]; exact hcs) (get_new _ _) rfl (by omega) ?_⟩
      have E4 : Ext h ((h' ++ [Row.own [stc p]]).set r Row.gone ++ [Row.own ((xs ++ [p]).map stc)]) := ((E.pushed _).set hr _).pushed _
      have hnew := get_new ((h' ++ [Row.own [stc p]]).set r Row.gone) (Row.own ((xs ++ [p]).map stc))
      rw [List.length_set] at hnew
      have hnl : h.length ≤ (h' ++ [Row.own [stc p]]).length := by simp; omega
      have hxl2 : xs.length + 1 = (xs ++ [p]).length := by simp
      rw [hxl2]
      generalize (h' ++ [Row.own [stc p]]).length = N at *
      generalize (h' ++ [Row.own [stc p]]).set r Row.gone ++ [Row.own ((xs ++ [p]).map stc)] = h4 at *
      (conv => whnf)
      refine HArith.fits (by omega) (by omega) ?_
      (conv => whnf)
      exact ⟨⟨k + 1, N, xs ++ [p], [], rfl, by omega, E4, hnl, hnew, by simp, by simp, by omega, by rw [hv, hd, cutB_hit hcp]; simp⟩, by show s.length - (k + 1) < s.length - k; omega⟩
    · have hbc : b ≠ c := fun e => hne (by rw [e])
      (conv => whnf)
      refine HArith.to (e' := ((k + 1 : Nat) : Int)) (by omega) (by omega) (by omega) ?_
      (conv => whnf)
      refine HSub.tx hkl ?_
      rw [hb]
      (conv => whnf)
      refine HStr.add (a := p) (b := [b]) (by rw [List.length_singleton]; omega) ?_
      (conv => whnf)
      refine HArith.fits (by omega) (by omega) ?_
      (conv => whnf)
      exact ⟨⟨k + 1, r, xs, p ++ [b], rfl, by omega, E, hr, hcs, by simp [hcp, Ne.symm hbc], by simp; omega, by omega, by rw [hv, hd]; simp⟩, by show s.length - (k + 1) < s.length - k; omega⟩
  · have ek : k = s.length := by omega
    have hd : s.drop k = [] := by rw [ek, List.drop_length]
    have hv2 : V = xs ++ [p] := by rw [hv, hd, List.append_nil, cutB_one hcp]
    have hxl2 : V.length = xs.length + 1 := by rw [hv2]; simp
    (conv => whnf)
    refine HLit.row (y := stc p) rfl ?_
    (conv => whnf)
    refine ⟨rfl, rfl, HApp.text (by rw [List.getElem?_append_left hrl]; exact hcs) (get_new _ _) rfl (by omega) ?_⟩
    rw [← hv2, ← hxl2]
    have E4 : Ext h ((h' ++ [Row.own [stc p]]).set r Row.gone ++ [Row.own (V.map stc)]) := ((E.pushed _).set hr _).pushed _
    have hnew := get_new ((h' ++ [Row.own [stc p]]).set r Row.gone) (Row.own (V.map stc))
    rw [List.length_set] at hnew
    generalize (h' ++ [Row.own [stc p]]).length = N at *
    generalize (h' ++ [Row.own [stc p]]).set r Row.gone ++ [Row.own (V.map stc)] = h4 at *
    (conv => whnf)
    exact ⟨N, rfl, E4, hnew⟩

/-- Texts in a row of one's own, read. -/
theorem txt_shows {h : Heap} {r : Nat} {xs : List (List UInt8)} (hr : h[r]? = some (.own (xs.map stc))) : Shows h (.s (.sl r 0 xs.length)) (xs.map stc) := by
  have := Shows.own r 0 xs.length _ hr (by simp)
  simp only [List.drop_zero] at this
  rw [List.take_of_length_le (by simp)] at this
  exact this
theorem txt_cell (xs : List (List UInt8)) {k : Nat} (hk : k < xs.length) : (xs.map stc).getD ((k : Int)).toNat (.pl (.int .i64 0)) = stc (xs.getD k []) := by
  rw [Int.toNat_natCast]
  simp [List.getD, hk]

end Go.Proofs.YtgliajcgcbnemaaGreatDoor.Hx

namespace Go.Proofs.YtgliajcgcbnemaaGreatDoor.Hx
open Go.RowKit
variable {dm : Bool}

theorem lib_Itoa (h : Heap) (n : Int) (hn : I64 n) : HCalls dm Tryz.prog 215 [I n] h (fun r h' => r = Tx (Lib.itoa n) ∧ h' = h) := by
  refine ⟨enters_of Tryz.func215 (by kernel_rfl) rfl, fun B0 φ w vargs R ha => ?_⟩
  have hv : vargs = #[.int .i64 n] := by
    rcases vargs with ⟨vs⟩
    match vs, ha with
    | [u], hh =>
      have : u = .int .i64 n := hh.1
      rw [this]
  subst hv
  have hmain := Any.strconv_Itoa Tryz.itoaL n hn.1 hn.2 w (by
    have h1 := (R.tab.1 _ (by unfold tabs; exact List.mem_singleton.2 rfl)).2
    unfold Lib.TabIs World.var?
    refine Eq.trans (congrArg (fun o => Option.bind o _) (show _ = some tabG by kernel_rfl)) ?_
    exact h1)
  refine hmain.mono ?_
  rintro e' w' ⟨rfl, k, os, rfl⟩
  exact ⟨_, _, h, φ, rfl, ⟨rfl, rfl⟩, Sub.refl _, R.below (lat_grow (dm := dm) (Nat.le_refl _) k os), rfl, lat_grow R.base k os⟩


theorem impl_FormatInt (h : Heap) (n : Int) (hn : I64 n) : HCalls dm Tryz.prog 170 [I n] h (fun r h' => r = Tx (Lib.itoa n) ∧ h' = h) := by
  refine calls_of_hFun (m := 0) kd_ok mixed Tryz.func170 rfl (by kernel_rfl) rfl rfl (of_decide_eq_true rfl) ?_; unfold hFun; (conv => whnf)
  refine (lib_Itoa _ _ hn).mono ?_
  rintro r h' ⟨rfl, rfl⟩
  (conv => whnf)
  exact ⟨rfl, rfl⟩

theorem impl_joinInts (h : Heap) (x : H0) (v : List Int) (sep : List UInt8) (hx : Ints h x v) (hv : ∀ n ∈ v, I64 n) (hl : v.length ≤ 1048576) (hlen : (Lib.join (v.map Lib.itoa) sep).length ≤ 140737488355328) :
    HCalls false Tryz.prog 119 [.s x, Tx sep] h (fun r h' => r = Tx (Lib.join (v.map Lib.itoa) sep) ∧ Ext h h') := by
  refine calls_of_hFun (m := 0) kd_ok mixed Tryz.func119 rfl (by kernel_rfl) rfl rfl (of_decide_eq_true rfl) ?_; unfold hFun; (conv => whnf)
  refine HLit.empty ?_
  (conv => whnf)
  have E0 := Ext.push h [Row.own []]
  refine ⟨rfl, (hx.ext E0).len ?_⟩
  (conv => whnf)
  refine HLoop.intro [11, 5] [12, 13, 14, 7, 15, 16, 17, 18, 19, 5, 20, 11] (by kernel_rfl) (by kernel_rfl) (fun vs h' => ∃ (k r : Nat), vs = [I k, .s (.sl r 0 k)] ∧ k ≤ v.length ∧ Ext h h' ∧ h.length ≤ r ∧ h'[r]? = some (.own (((v.take k).map Lib.itoa).map stc))) (fun vs _ => v.length - natAt vs 0) ⟨0, h.length, rfl, by omega, E0, Nat.le_refl _, get_new _ _⟩ ?_
  rintro vs h' ⟨k, r, rfl, hk, E, hr, hcs⟩
  (conv => whnf)
  refine HIf.dec (fun hlt => ?_) (fun hge => ?_)
  · have hkl : k < v.length := by omega
    have hin : v.getD k 0 ∈ v := by
      have e : v.getD k 0 = v[k] := by simp [List.getD, hkl]
      rw [e]
      exact List.getElem_mem hkl
    have htk : (v.take (k + 1)).map Lib.itoa = (v.take k).map Lib.itoa ++ [Lib.itoa (v.getD k 0)] := by
      rw [List.take_succ_eq_append_getElem hkl, List.map_append]
      have e : v.getD k 0 = v[k] := by simp [List.getD, hkl]
      rw [e]
      rfl
    have hkn : ((v.take k).map Lib.itoa).length = k := by simp; omega
    (conv => whnf)
    refine ⟨rfl, (hx.ext E).idxN hkl (fun p hp => ?_)⟩
    (conv => whnf)
    refine ⟨rfl, hp.load ?_⟩
    (conv => whnf)
    refine (impl_FormatInt _ _ (hv _ hin)).mono ?_
    rintro r2 h2 ⟨rfl, rfl⟩
    (conv => whnf)
    refine HLit.row (y := stc (Lib.itoa (v.getD k 0))) rfl ?_
    (conv => whnf)
    have hrl := get_lt hcs
    have hE := E.1
    refine ⟨rfl, rfl, HApp.text (by rw [List.getElem?_append_left hrl]; exact hcs) (get_new _ _) hkn (by omega) ?_⟩
    rw [← htk]
    have E2 : Ext h ((h2 ++ [Row.own [stc (Lib.itoa (v.getD k 0))]]).set r Row.gone ++ [Row.own (((v.take (k + 1)).map Lib.itoa).map stc)]) := ((E.pushed _).set hr _).pushed _
    have hnew := get_new ((h2 ++ [Row.own [stc (Lib.itoa (v.getD k 0))]]).set r Row.gone) (Row.own (((v.take (k + 1)).map Lib.itoa).map stc))
    rw [List.length_set] at hnew
    have hnl : h.length ≤ (h2 ++ [Row.own [stc (Lib.itoa (v.getD k 0))]]).length := by simp; omega
    generalize (h2 ++ [Row.own [stc (Lib.itoa (v.getD k 0))]]).length = N at *
    generalize (h2 ++ [Row.own [stc (Lib.itoa (v.getD k 0))]]).set r Row.gone ++ [Row.own (((v.take (k + 1)).map Lib.itoa).map stc)] = h3 at *
    (conv => whnf)
    refine HArith.fits (by omega) (by omega) ?_
    (conv => whnf)
    exact ⟨⟨k + 1, N, rfl, by omega, E2, hnl, hnew⟩, by show v.length - (k + 1) < v.length - k; omega⟩
  · have ek : k = v.length := by omega
    subst ek
    rw [List.take_length] at hcs
    have hj := lib_Join h' r (v.map Lib.itoa) sep [] (by rw [List.append_nil]; exact hcs) (by simpa using hl) hlen
    rw [List.length_map] at hj
    (conv => whnf)
    refine hj.mono ?_
    rintro r2 h2 ⟨rfl, rfl⟩
    (conv => whnf)
    exact ⟨rfl, E⟩

theorem impl_FormatWeight (h : Heap) (x : H0) (v : List Int) (hx : Ints h x v) (hv : ∀ n ∈ v, I64 n) (hl : v.length ≤ 1048576) :
    HCalls false Tryz.prog 58 [.s x] h (fun r h' => r = Tx (fmtV v) ∧ Ext h h') := by
  have hle := fmtV_le hv
  refine calls_of_hFun (m := 0) kd_ok mixed Tryz.func58 rfl (by kernel_rfl) rfl rfl (of_decide_eq_true rfl) ?_; unfold hFun; (conv => whnf)
  refine (impl_joinInts _ _ v [44] hx hv hl (by unfold fmtV at hle; omega)).mono ?_
  rintro r h' ⟨rfl, E⟩
  (conv => whnf)
  exact ⟨rfl, E⟩

set_option maxHeartbeats 1000000 in
theorem spec_FormatWeight (h : Heap) (x : H0) (v : List Int) (hx : Ints h x v) (hv : ∀ n ∈ v, I64 n) (hl : v.length ≤ 1048576) :
    HCalls dm Tryz.prog 65 [.s x] h (fun r h' => r = Tx (fmtV v) ∧ Ext h h') := by
  refine calls_of_hFun (m := 0) kd_ok mixed Tryz.func65 rfl (by kernel_rfl) rfl rfl (of_decide_eq_true rfl) ?_; unfold hFun; (conv => whnf)
  refine HLoop.intro [4, 3] [5, 6, 7, 8, 11, 12, 13, 14, 3, 15, 16, 17, 18, 19, 20, 21, 3, 9, 10, 4] (by kernel_rfl) (by kernel_rfl) (fun vs h' => ∃ (k : Nat) (s : List UInt8), vs = [I k, .s (stc s)] ∧ k ≤ v.length ∧ Ext h h' ∧ s = Lib.join ((v.take k).map Lib.itoa) [44]) (fun vs _ => v.length - natAt vs 0) ⟨0, [], rfl, by omega, Ext.refl h, by simp [Lib.join_nil]⟩ ?_
  rintro vs h' ⟨k, s, rfl, hk, E, hs⟩
  have hsl : s.length ≤ 22 * k := by
    have := fmtV_le (v := v.take k) (fun n hn => hv n (List.mem_of_mem_take hn))
    rw [hs]
    unfold fmtV at this
    simp only [List.length_take] at this
    omega
  (conv => whnf)
  refine ⟨rfl, (hx.ext E).len ?_⟩
  (conv => whnf)
  refine HIf.dec (fun hlt => ?_) (fun hge => ?_)
  · have hkl : k < v.length := by omega
    have ev : v.getD k 0 = v[k] := by simp [List.getD, hkl]
    have hin : I64 (v.getD k 0) := hv _ (by rw [ev]; exact List.getElem_mem hkl)
    have hil := itoa_le hin
    (conv => whnf)
    refine HIf.dec (fun h0 => ?_) (fun h0 => ?_)
    · have hst := join_take Lib.itoa [44] v hkl (by omega)
      rw [← hs, ← ev] at hst
      (conv => whnf)
      refine HStr.add (a := s) (b := [44]) (by simp; omega) ?_
      (conv => whnf)
      refine ⟨rfl, (hx.ext E).idxN hkl (fun p hp => ?_)⟩
      (conv => whnf)
      refine ⟨rfl, hp.load ?_⟩
      (conv => whnf)
      refine (spec_FormatInt _ _ hin).mono ?_
      rintro r h2 ⟨rfl, E2⟩
      (conv => whnf)
      refine HStr.add (a := s ++ [44]) (b := Lib.itoa (v.getD k 0)) (by rw [List.length_append, List.length_singleton]; omega) ?_
      (conv => whnf)
      refine HArith.fits (by omega) (by omega) ?_
      (conv => whnf)
      exact ⟨⟨k + 1, _, rfl, by omega, E.trans E2, hst.symm⟩, by show v.length - (k + 1) < v.length - k; omega⟩
    · have e0 : k = 0 := by omega
      subst e0
      have hst := join_first Lib.itoa [44] v hkl
      have hs0 : s = [] := by rw [hs]; simp [Lib.join_nil]
      subst hs0
      (conv => whnf)
      refine ⟨rfl, (hx.ext E).idxN hkl (fun p hp => ?_)⟩
      (conv => whnf)
      refine ⟨rfl, hp.load ?_⟩
      (conv => whnf)
      refine (spec_FormatInt _ _ hin).mono ?_
      rintro r h2 ⟨rfl, E2⟩
      (conv => whnf)
      refine HStr.add (a := []) (b := Lib.itoa (v.getD 0 0)) (by rw [List.length_nil]; omega) ?_
      rw [List.nil_append]
      (conv => whnf)
      refine HArith.fits (by omega) (by omega) ?_
      (conv => whnf)
      exact ⟨⟨1, _, rfl, by omega, E.trans E2, by rw [hst, ev]⟩, by show v.length - (0 + 1) < v.length - 0; omega⟩
  · have ek : k = v.length := by omega
    subst ek
    rw [List.take_length] at hs
    (conv => whnf)
    exact ⟨by rw [hs]; rfl, E⟩

end Go.Proofs.YtgliajcgcbnemaaGreatDoor.Hx
