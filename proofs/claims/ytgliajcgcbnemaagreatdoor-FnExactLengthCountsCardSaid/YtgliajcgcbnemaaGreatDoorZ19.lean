/-
  The contract of strings.Join, led over to rows.
  Strings cut at a sign: plain; strings.Split, l2Cut; the names of all types.
  The reference's draws of matrices and words.
  The names of parts, of both sides.
  The names of parts, of the program; the names of matrices, of both sides.
  Sizes by names, of both sides; the size of a matrix's group.
-/
import Derived.Test.YtgliajcgcbnemaaGreatDoorZ18
import Derived.Shelf.Strings.Split
import Derived.Lib.Join
namespace Go.Proofs.YtgliajcgcbnemaaGreatDoor.Hx
open Go.RowKit
variable {dm : Bool}

theorem strs_back (xs : List (List UInt8)) : (xs.map fun l => (⟨l.toArray⟩ : ByteArray)).map (·.data.toList) = xs := by
  rw [List.map_map]
  conv => rhs; rw [← List.map_id xs]
  refine List.map_congr_left fun l _ => ?_
  simp

theorem lib_Join (h : Heap) (r : Nat) (xs : List (List UInt8)) (sep : List UInt8) (t : List H0) (hr : h[r]? = some (.own (xs.map stc ++ t))) (hN : xs.length ≤ 1048576) (hlen : (Lib.join xs sep).length ≤ 140737488355328) :
    HCalls false Tryz.prog 111 [.s (.sl r 0 xs.length), Tx sep] h (fun z h' => z = Tx (Lib.join xs sep) ∧ h' = h) := by
  refine ⟨enters_of Tryz.func111 (by kernel_rfl) rfl, fun B0 φ w vargs R ha => ?_⟩
  obtain ⟨p, hp⟩ := R.place hr
  obtain ⟨q1, q2, q3, cur, e, q4, q5, q6⟩ := R.own r _ p hr hp
  have hvs : ∃ u, vargs = #[u, .string ⟨sep.toArray⟩] ∧ rep0 φ (.sl r 0 xs.length) u := by
    rcases vargs with ⟨vs⟩
    match vs, ha with
    | [u, v], hh =>
      have : v = .string ⟨sep.toArray⟩ := hh.2.1
      exact ⟨u, by rw [this], hh.1⟩
  obtain ⟨u, rfl, hu⟩ := hvs
  obtain ⟨p', a, cap, hp', rfl, hc1, hc2, hc3, hc4⟩ := hu
  obtain rfl : p' = p := Option.some.inj (hp'.symm.trans hp)
  have fin : ∀ w', Below w.heap.size w w' → ∃ v x h' φ', Ending.returned (.string ⟨(Lib.join xs sep).toArray⟩) = .returned v ∧ (x = Tx (Lib.join xs sep) ∧ h' = h) ∧ Sub φ φ' ∧ Rep B0 φ' h' w' ∧ repV φ' x v ∧ Lat false B0 w w' := fun w' hb =>
    ⟨_, _, h, φ, rfl, ⟨rfl, rfl⟩, Sub.refl _, R.below (dm := false) ⟨hb, fun e => by cases e⟩, rfl, ⟨hb.mono R.base, fun e => by cases e⟩⟩
  by_cases h0 : xs.length = 0
  · have e0 : xs = [] := List.length_eq_zero_iff.1 h0
    subst e0
    refine (Any.strings_Join_none Tryz.joinL Tryz.joinX (some a) cap ⟨sep.toArray⟩ w).mono ?_
    rintro e' w' ⟨rfl, rfl⟩
    exact fin _ (Below.refl _ _)
  · have ha : a = ⟨p'.b, 0, none⟩ := by rw [hc4 (by omega), q1]
    subst ha
    have hblk : p'.b < w.heap.size := (Array.getElem?_eq_some_iff.1 q4).1
    have hmain := Any.strings_Join Tryz.joinL Tryz.joinX p'.b 0 cap (xs.map fun l => (⟨l.toArray⟩ : ByteArray)) ⟨sep.toArray⟩ w (fun j x hx => by
      rw [List.getElem?_map, Option.map_eq_some_iff] at hx
      obtain ⟨l, hl, rfl⟩ := hx
      have hjl : j < xs.length := (List.getElem?_eq_some_iff.1 hl).1
      have hc : (xs.map stc ++ t)[j]? = some (stc l) := by
        rw [List.getElem?_append_left (by simpa using hjl), List.getElem?_map, hl]
        rfl
      obtain ⟨v, e1, e2⟩ := q6 _ _ hc
      have e3 : v = .string ⟨l.toArray⟩ := e2
      rw [Nat.zero_add, cell_of_row w p'.b j cur e (0, 0) q4, e1, e3]) hblk (by simp; omega) (by simpa using hc1) (by
      rw [strs_back]
      exact hlen)
    rw [strs_back, List.length_map] at hmain
    refine hmain.mono ?_
    rintro e' w' ⟨rfl, hb⟩
    exact fin _ hb

/-- A text, appended to a slice of texts of one's own. -/
theorem HApp.text {h : Heap} {r q n : Nat} {xs : List (List UInt8)} {x : List UInt8} {K : HV → Heap → Prop} (hr : h[r]? = some (.own (xs.map stc))) (hq : h[q]? = some (.own [stc x])) (hn : xs.length = n) (hl : n ≤ 1048576)
    (hK : K (.s (.sl h.length 0 (n + 1))) (h.set r .gone ++ [.own ((xs ++ [x]).map stc)])) : HApp h (.s (.sl r 0 n)) (.s (.sl q 0 1)) K := by
  have hs : Shows h (.s (.sl q 0 1)) [stc x] := Shows.own q 0 1 [stc x] hq (by simp)
  refine ⟨[stc x], hs, fun c hc => ?_, xs.map stc, rfl, hr, by simp; omega, Or.inl ⟨by simp; omega, ?_⟩⟩
  · obtain rfl : c = stc x := by simpa using hc
    rfl
  · have e : (xs.map stc).take n = xs.map stc := by rw [← hn, ← List.length_map (f := stc), List.take_length]
    rw [e, ← List.map_singleton (f := stc), ← List.map_append]
    exact hK

end Go.Proofs.YtgliajcgcbnemaaGreatDoor.Hx

namespace Go.Proofs.YtgliajcgcbnemaaGreatDoor.Hx
open Go.RowKit
variable {dm : Bool}

/-! ### Strings cut at a sign -/

def cutB (c : UInt8) : List UInt8 → List (List UInt8)
  | [] => [[]]
  | b :: t => if b = c then [] :: cutB c t else match cutB c t with
    | x :: r => (b :: x) :: r
    | [] => [[b]]
theorem cutB_at (c : UInt8) (t : List UInt8) : cutB c (c :: t) = [] :: cutB c t := by simp [cutB]
theorem cutB_ne (c : UInt8) : ∀ l, ∃ x r, cutB c l = x :: r
  | [] => ⟨[], [], rfl⟩
  | b :: t => by
    by_cases h : b = c
    · subst h
      exact ⟨_, _, cutB_at b t⟩
    · obtain ⟨x, r, e⟩ := cutB_ne c t
      exact ⟨b :: x, r, by rw [cutB, if_neg h, e]⟩
theorem cutB_off {c b : UInt8} (h : b ≠ c) {t x : List UInt8} {r : List (List UInt8)} (e : cutB c t = x :: r) : cutB c (b :: t) = (b :: x) :: r := by
  rw [cutB, if_neg h, e]
theorem cutB_pre {c : UInt8} : ∀ {p t x : List UInt8} {r : List (List UInt8)}, c ∉ p → cutB c t = x :: r → cutB c (p ++ t) = (p ++ x) :: r
  | [], _, _, _, _, e => e
  | b :: p, t, x, r, h, e => by
    simp only [List.mem_cons, not_or] at h
    exact cutB_off (Ne.symm h.1) (cutB_pre h.2 e)
theorem cutB_hit {c : UInt8} {p : List UInt8} (h : c ∉ p) (t : List UInt8) : cutB c (p ++ c :: t) = p :: cutB c t := by
  have := cutB_pre h (cutB_at c t)
  rwa [List.append_nil] at this
theorem cutB_one {c : UInt8} {p : List UInt8} (h : c ∉ p) : cutB c p = [p] := by
  have := cutB_pre (t := []) h (x := []) (r := []) rfl
  simpa only [List.append_nil] using this
theorem cut_join {c : UInt8} : ∀ {xs : List (List UInt8)}, xs ≠ [] → (∀ x ∈ xs, c ∉ x) → cutB c (Lib.join xs [c]) = xs
  | [], h, _ => absurd rfl h
  | [x], _, h => by
    rw [Lib.join_one]
    exact cutB_one (h x (by simp))
  | x :: y :: t, _, h => by
    have ih := cut_join (xs := y :: t) (by simp) (fun z hz => h z (List.mem_cons_of_mem _ hz))
    have e : Lib.join (x :: y :: t) [c] = x ++ c :: Lib.join (y :: t) [c] := by
      rw [Lib.join_cons, Lib.join_cons]
      simp [Lib.joinTail]
    rw [e, cutB_hit (h x (by simp)), ih]
theorem cutB_len (c : UInt8) : ∀ l, (cutB c l).length ≤ l.length + 1
  | [] => by simp [cutB]
  | b :: t => by
    have ih := cutB_len c t
    obtain ⟨x, r, e⟩ := cutB_ne c t
    rw [e] at ih
    by_cases h : b = c
    · subst h
      rw [cutB_at, e]
      simp only [List.length_cons] at *
      omega
    · rw [cutB_off h e]
      simp only [List.length_cons] at *
      omega
theorem index_at (c : UInt8) (t : List UInt8) : Lib.index (c :: t) [c] = 0 := by
  rw [Lib.index]
  simp [List.isPrefixOf]
theorem index_off {c b : UInt8} (h : b ≠ c) (t : List UInt8) : Lib.index (b :: t) [c] = if Lib.index t [c] == -1 then -1 else Lib.index t [c] + 1 := by
  have hp : ([c] : List UInt8).isPrefixOf (b :: t) = false := by simp [List.isPrefixOf, Ne.symm h]
  rw [Lib.index, hp]
  simp
theorem split_cut (c : UInt8) : ∀ l, Lib.split l [c] = cutB c l
  | [] => by
    have : Lib.count [] [c] = 0 := Lib.count_miss (by simp [Lib.index])
    rw [Lib.split, this]
    rfl
  | b :: t => by
    have ih := split_cut c t
    by_cases h : b = c
    · subst h
      rw [cutB_at, ← ih, Lib.split, Lib.count_cons_eq, Nat.add_comm 1, Lib.splitK, index_at]
      rfl
    · obtain ⟨x, r, e⟩ := cutB_ne c t
      rw [cutB_off h e]
      rw [e, Lib.split] at ih
      rw [Lib.split, Lib.count_cons_ne b c t h]
      cases hc : Lib.count t [c] with
      | zero =>
        rw [hc, Lib.splitK] at ih
        cases ih
        rfl
      | succ k =>
        rw [hc, Lib.splitK] at ih
        rw [Lib.splitK, index_off h]
        by_cases hm : Lib.index t [c] = -1
        · rw [hm] at ih ⊢
          simp only [beq_self_eq_true, if_true] at ih ⊢
          cases ih
          rfl
        · have hge := Lib.index_ge t [c]
          obtain ⟨j, hj⟩ : ∃ j : Nat, Lib.index t [c] = j := ⟨(Lib.index t [c]).toNat, by omega⟩
          rw [hj] at ih ⊢
          have h1 : ((j : Int) == -1) = false := by rw [beq_eq_false_iff_ne]; omega
          have h2 : ((j : Int) + 1 == -1) = false := by rw [beq_eq_false_iff_ne]; omega
          rw [h1] at ih ⊢
          simp only [Bool.false_eq_true, if_false] at ih ⊢
          rw [h2]
          simp only [Bool.false_eq_true, if_false]
          have e1 : ((j : Int) + 1).toNat = j + 1 := by omega
          have e2 : (j : Int).toNat = j := by omega
          rw [e2] at ih
          rw [e1]
          simp only [Nat.add_zero, List.length_singleton] at ih ⊢
          rw [List.take_succ_cons]
          injection ih with i1 i2
          rw [i1]
          congr 1

/-! ### strings.Split -/

theorem tx_size (l : List UInt8) : (⟨l.toArray⟩ : ByteArray).size = l.length := by simp [ByteArray.size]

theorem lib_Split (h : Heap) (s : List UInt8) (c : UInt8) (hs : s.length ≤ 1048576) :
    HCalls dm Tryz.prog 135 [Tx s, Tx [c]] h (fun z h' => z = .s (.sl h.length 0 (cutB c s).length) ∧ h' = h ++ [.own ((cutB c s).map stc)]) := by
  refine ⟨enters_of Tryz.func135 (by kernel_rfl) rfl, fun B0 φ w vargs R ha => ?_⟩
  have hv : vargs = #[.string ⟨s.toArray⟩, .string ⟨[c].toArray⟩] := by
    rcases vargs with ⟨vs⟩
    match vs, ha with
    | [u, v], hh =>
      have h1 : u = .string ⟨s.toArray⟩ := hh.1
      have h2 : v = .string ⟨[c].toArray⟩ := hh.2.1
      rw [h1, h2]
  subst hv
  obtain ⟨m, hm⟩ := (R.tab.2.1 _ (by unfold tabI; exact List.mem_singleton.2 rfl)).2
  have hmain := Any.strings_Split { Tryz.splitL with } Tryz.splitL.i9 ⟨s.toArray⟩ ⟨[c].toArray⟩ m w (by rw [tx_size]; omega) hm (by rw [tx_size]; simp)
  have hlen := Lib.splitB_all ⟨[c].toArray⟩ (by rw [tx_size]; simp) 0 _ ⟨s.toArray⟩ rfl
  have hdat := Lib.splitB_data ⟨[c].toArray⟩ 0 (Lib.countB ⟨s.toArray⟩ ⟨[c].toArray⟩) ⟨s.toArray⟩
  have hcut : (Lib.splitB ⟨[c].toArray⟩ 0 (Lib.countB ⟨s.toArray⟩ ⟨[c].toArray⟩) ⟨s.toArray⟩).map (·.data.toList) = cutB c s := by
    rw [hdat, ← split_cut]
    rfl
  refine hmain.mono ?_
  rintro e' w' ⟨rfl, rfl⟩
  generalize Lib.splitB ⟨[c].toArray⟩ 0 (Lib.countB ⟨s.toArray⟩ ⟨[c].toArray⟩) ⟨s.toArray⟩ = ps at hlen hcut
  generalize Lib.countB ⟨s.toArray⟩ ⟨[c].toArray⟩ = n at hlen
  have hcl := cutB_len c s
  have hpl : (cutB c s).length = n + 1 := by rw [← hcut, List.length_map, hlen]
  obtain ⟨x, h', φ', hK, h1, h2, h3, h4⟩ := new_row (dm := dm) (w := w) R (ps.map Value.string).toArray _ ((cutB c s).map stc) (by simp [hpl, hlen]) (fun k d hk => by
    rw [← hcut, List.map_map, List.getElem?_map, Option.map_eq_some_iff] at hk
    obtain ⟨p, hp, rfl⟩ := hk
    refine ⟨.string p, by simp [hp], ?_⟩
    show Value.string p = Value.string _
    simp) (n := n + 1) (by simp [hlen]) (by simp [hlen]; show n + 1 ≤ _; exact Nat.le_trans (by omega : n + 1 ≤ 1048577) (by decide)) (K := fun z h' => z = .s (.sl h.length 0 (cutB c s).length) ∧ h' = h ++ [.own ((cutB c s).map stc)]) ⟨by rw [hpl], rfl⟩
  have es : (ps.map Value.string).toArray.size = n + 1 := by simp [hlen]
  rw [es] at h3
  exact ⟨_, x, h', φ', rfl, hK, h1, h2, h3, h4⟩

end Go.Proofs.YtgliajcgcbnemaaGreatDoor.Hx

namespace Go.Proofs.YtgliajcgcbnemaaGreatDoor.Hx
open Go.RowKit
variable {dm : Bool}

def finL : List ByteArray := [⟨#[65, 49]⟩, ⟨#[65, 50]⟩, ⟨#[65, 50]⟩, ⟨#[65, 51]⟩, ⟨#[65, 51]⟩, ⟨#[66, 50]⟩, ⟨#[66, 50]⟩, ⟨#[66, 51]⟩, ⟨#[67, 51]⟩, ⟨#[71, 50]⟩]
def infL : List ByteArray := [⟨#[65, 49, 126]⟩, ⟨#[65, 50, 126]⟩, ⟨#[67, 50, 126]⟩, ⟨#[71, 50, 126]⟩, ⟨#[65, 51, 126]⟩, ⟨#[68, 52]⟩, ⟨#[65, 52]⟩]
theorem cst_one (l : List ByteArray) : ∀ c ∈ l.map cst, c.one = true := by
  intro c hc
  obtain ⟨n, _, rfl⟩ := List.mem_map.1 hc
  rfl
theorem Strs.new (h : Heap) (l : List ByteArray) : Strs (h ++ [.own (l.map cst)]) (.sl h.length 0 l.length) l := by
  have := Shows.own h.length 0 l.length _ (get_new h (.own (l.map cst))) (by simp)
  simp only [List.drop_zero] at this
  rw [List.take_of_length_le (by simp)] at this
  exact this
end Go.Proofs.YtgliajcgcbnemaaGreatDoor.Hx

namespace Go.Proofs.YtgliajcgcbnemaaGreatDoor.Hx
open Go.RowKit
variable {dm : Bool}

def tyAt (k : Nat) : ByteArray × List (List Int) := typeL.getD k (⟨#[]⟩, [])
theorem ty_len : typeL.length = 17 := rfl
theorem ty_get {k : Nat} (hk : k < 17) : tyAt k = typeL[k]'(by rw [ty_len]; exact hk) := by
  have : k < typeL.length := by rw [ty_len]; exact hk
  simp [tyAt, List.getD, this]
theorem ty_mem {k : Nat} (hk : k < 17) : tyAt k ∈ typeL := by
  rw [ty_get hk]
  exact List.getElem_mem _
theorem ty_one : ∀ p ∈ typeL, ∀ k, k < 17 → p.1 = (tyAt k).1 → p = tyAt k := by decide +kernel
theorem ty_cart : ∀ p ∈ typeL, isCartan p.2 = true := by decide +kernel
theorem ty_short : ∀ p ∈ typeL, p.1.data.toList.length ≤ 3 ∧ 120 ∉ p.1.data.toList := by decide +kernel
theorem ty_name : ∀ k, k < 17 → namesT.getD k ⟨#[]⟩ = (tyAt k).1 := by decide +kernel
theorem ty_text (s : ByteArray) : St s = Tx s.data.toList := by
  obtain ⟨d⟩ := s
  simp

/-- The first name whose matrix is like this one. -/
def nameIn (f : List (List Int) → Bool) : List (ByteArray × List (List Int)) → List UInt8
  | [] => [63]
  | t :: r => if f t.2 = true then t.1.data.toList else nameIn f r
noncomputable def nameP (c : List (List Int)) : List UInt8 := nameIn (isoB c) typeL

theorem nameIn_step (f : List (List Int) → Bool) {k : Nat} (hk : k < 17) : nameIn f (typeL.drop k) = if f (tyAt k).2 = true then (tyAt k).1.data.toList else nameIn f (typeL.drop (k + 1)) := by
  rw [List.drop_eq_getElem_cons (by rw [ty_len]; exact hk), nameIn, ← ty_get hk]
theorem nameIn_end (f : List (List Int) → Bool) : nameIn f (typeL.drop 17) = [63] := rfl
theorem nameIn_short (f : List (List Int) → Bool) : ∀ T : List (ByteArray × List (List Int)), (∀ p ∈ T, p.1.data.toList.length ≤ 3 ∧ 120 ∉ p.1.data.toList) → (nameIn f T).length ≤ 3 ∧ 120 ∉ nameIn f T
  | [], _ => by simp [nameIn]
  | t :: r, h => by
    rw [nameIn]
    split
    · exact h t (by simp)
    · exact nameIn_short f r fun p hp => h p (List.mem_cons_of_mem _ hp)
theorem nameP_short (c : List (List Int)) : (nameP c).length ≤ 3 ∧ 120 ∉ nameP c := nameIn_short _ _ ty_short

theorem ty_names : ∀ p ∈ typeL, p.1 ∈ namesT := fun p hp => by
  rw [show namesT = typeL.map (fun p => p.1) from rfl]
  exact List.mem_map.2 ⟨p, hp, rfl⟩
def typeS : List UInt8 := [65, 49, 32, 65, 50, 32, 65, 51, 32, 65, 52, 32, 66, 50, 32, 66, 51, 32, 66, 52, 32, 67, 51, 32, 67, 52, 32, 68, 52, 32, 70, 52, 32, 71, 50, 32, 65, 49, 126, 32, 65, 50, 126, 32, 65, 51, 126, 32, 67, 50, 126, 32, 71, 50, 126]
theorem typeS_cut : (cutB 32 typeS).map stc = namesT.map cst := rfl
theorem typeS_len : (cutB 32 typeS).length = namesT.length := rfl

theorem name_cell {k : Nat} (hk : k < 17) : (namesT.map cst).getD ((k : Int)).toNat (.pl (.int .i64 0)) = cst (tyAt k).1 := by
  have hl : k < namesT.length := hk
  rw [← ty_name k hk, Int.toNat_natCast]
  simp [List.getD, hl]


theorem spec_l4Names (h : Heap) : HCalls dm Tryz.prog 181 [] h (fun r h' => ∃ y, r = .s y ∧ Ext h h' ∧ Strs h' y namesT) := by
  refine calls_of_hFun (m := 0) kd_ok mixed Tryz.func181 rfl (by kernel_rfl) rfl rfl (of_decide_eq_true rfl) ?_; unfold hFun; (conv => whnf)
  refine HLit.of (xs := namesT.map cst) rfl (cst_one _) (by decide) ?_
  (conv => whnf)
  exact ⟨_, rfl, Ext.push _ _, Strs.new h namesT⟩

set_option maxHeartbeats 1000000 in
theorem spec_NameOfPart (h : Heap) (x : H0) (c : List (List Int)) (hx : Rows h x c) (hic : isCartan c = true) (hcn : isConn c = true) :
    HCalls dm Tryz.prog 133 [.s x] h (fun r h' => r = Tx (nameP c) ∧ Ext h h') := by
  have hC := (isCartan_iff c).1 hic
  have h4 := hC.le
  have hln : (namesT.map cst).length = 17 := rfl
  obtain ⟨V, hV⟩ : ∃ V, V = nameP c := ⟨_, rfl⟩
  rw [← hV]
  refine calls_of_hFun (m := 0) kd_ok mixed Tryz.func133 rfl (by kernel_rfl) rfl rfl (of_decide_eq_true rfl) ?_; unfold hFun; (conv => whnf)
  refine (spec_l4Names _).mono ?_
  rintro r h1 ⟨y, rfl, E1, S1⟩
  (conv => whnf)
  refine HLoop.intro [4] [10, 11, 12, 13, 17, 18, 19, 20, 21, 16, 22, 23, 5, 6, 25, 26, 27, 24, 28, 29, 7, 8, 30, 31, 32, 33, 34, 2, 14, 15, 4] (by kernel_rfl) (by kernel_rfl) (fun vs h' => ∃ k : Nat, vs = [I k] ∧ k ≤ 17 ∧ Ext h1 h' ∧ V = nameIn (isoB c) (typeL.drop k)) (fun vs _ => 17 - natAt vs 0) ⟨0, rfl, by omega, Ext.refl h1, hV⟩ ?_
  rintro vs h' ⟨k, rfl, hk, E, hnm⟩
  have S := Shows.ext S1 E
  have Eh := E1.trans E
  (conv => whnf)
  refine ⟨rfl, Shows.len S ?_⟩
  rw [hln]
  (conv => whnf)
  refine HIf.dec (fun hlt => ?_) (fun hge => ?_)
  · have hk17 : k < 17 := by omega
    have hst := nameIn_step (isoB c) hk17
    have ecell := name_cell hk17
    have hm := ty_mem hk17
    have hone := fun p hp => ty_one p hp k hk17
    have hcar := ty_cart _ hm
    rw [← hnm] at hst
    generalize namesT.map cst = NM at *
    generalize hr : nameIn (isoB c) (typeL.drop (k + 1)) = rest at *
    generalize tyAt k = t at *
    obtain ⟨s, M⟩ := t
    have hsn : s ∈ namesT := ty_names _ hm
    (conv => whnf)
    refine ⟨rfl, Shows.idx S (by omega) (by omega) (fun p hp => ?_)⟩
    rw [ecell] at hp
    (conv => whnf)
    refine ⟨rfl, hp.load ?_⟩
    (conv => whnf)
    refine (spec_TypeCartanN _ s hsn).mono ?_
    rintro r h2 ⟨y2, L, rfl, E2, O2, hL⟩
    obtain rfl : L = M := congrArg Prod.snd (hone _ hL rfl)
    (conv => whnf)
    refine (spec_AreIsomorphic _ _ _ _ _ (hx.ext (Eh.trans E2)) O2.rows hic hcar).mono ?_
    rintro r h3 ⟨y3, rfl, E3⟩
    have E23 := E2.trans E3
    (conv => whnf)
    cases hb : isoB c L
    · refine HIf.no ?_
      (conv => whnf)
      refine HArith.fits (by omega) (by omega) ?_
      (conv => whnf)
      exact ⟨⟨k + 1, rfl, by omega, E.trans E23, by rw [hst, hr]; simp only [hb, Bool.false_eq_true, if_false]⟩, by show 17 - (k + 1) < 17 - k; omega⟩
    · refine HIf.yes ?_
      (conv => whnf)
      refine ⟨rfl, Shows.idx (Shows.ext S E23) (by omega) (by omega) (fun p2 hp2 => ?_)⟩
      rw [ecell] at hp2
      (conv => whnf)
      refine ⟨rfl, hp2.load ?_⟩
      (conv => whnf)
      refine ⟨?_, Eh.trans E23⟩
      rw [hst]
      simp only [hb, if_true]
      exact ty_text s
  · have ek : k = 17 := by omega
    subst ek
    (conv => whnf)
    refine (spec_IsConnected _ _ c (hx.ext Eh) (by omega)).mono ?_
    rintro r h2 ⟨rfl, E2⟩
    rw [hcn]
    (conv => whnf)
    refine HIf.no ?_
    (conv => whnf)
    refine ⟨?_, Eh.trans E2⟩
    rw [hnm, nameIn_end]
    rfl

end Go.Proofs.YtgliajcgcbnemaaGreatDoor.Hx

namespace Go.Proofs.YtgliajcgcbnemaaGreatDoor.Hx
open Go.RowKit
variable {dm : Bool}

/-! ### The parts of a matrix -/

theorem partsC_mem {c : List (List Int)} (hic : isCartan c = true) {k : Nat} (hk : k < (partsC c).length) : ∃ i, i < c.length ∧ (partsC c).getD k [] = partL c i := by
  have e : (partsC c).getD k [] = (partsC c)[k] := by simp [List.getD, hk]
  have hm := List.getElem_mem hk
  rw [← e] at hm
  generalize (partsC c).getD k [] = p at *
  rw [partsC_on hic] at hm
  unfold partsTo at hm
  obtain ⟨i, hi, rfl⟩ := List.mem_map.1 hm
  exact ⟨i, List.mem_range.1 (List.mem_filter.1 hi).1, rfl⟩
theorem partsC_le (c : List (List Int)) : (partsC c).length ≤ c.length := by
  unfold partsC
  split
  · exact partsTo_len c _
  · simp
structure PartOk (c : List (List Int)) (o : List Int) : Prop where
  rng : ∀ k, k < o.length → 0 ≤ o.getD k 0 ∧ o.getD k 0 < c.length
  asc : ∀ k, k < o.length → k = 0 ∨ o.getD (k - 1) 0 < o.getD k 0
  le : o.length ≤ 4
  ne : o.length ≠ 0
  cart : isCartan (subM c o) = true
  conn : isConn (subM c o) = true
theorem part_ok {c : List (List Int)} (hic : isCartan c = true) {k : Nat} (hk : k < (partsC c).length) : PartOk c ((partsC c).getD k []) := by
  have hC := (isCartan_iff c).1 hic
  have h4 := hC.le
  obtain ⟨i, hi, e⟩ := partsC_mem hic hk
  rw [e]
  obtain ⟨h1, h2⟩ := part_conn hC hi
  have hl := partL_len c i
  have hp := partL_pos hi
  have hs : (partL c i).Pairwise (· < ·) := partTo_sorted c i c.length
  refine ⟨fun k hk => ?_, fun k hk => ?_, by omega, by omega, (isCartan_iff _).2 h1, h2⟩
  · obtain ⟨p, e2, hp⟩ := (partL_ok c i).at hk
    omega
  · by_cases h0 : k = 0
    · exact Or.inl h0
    · right
      have := List.pairwise_iff_getElem.1 hs (k - 1) k (by omega) hk (by omega)
      have e1 : (partL c i).getD (k - 1) 0 = (partL c i)[k - 1] := by simp [List.getD, show k - 1 < (partL c i).length by omega]
      have e2 : (partL c i).getD k 0 = (partL c i)[k] := by simp [List.getD, hk]
      rw [e1, e2]
      exact this

/-- The name of a part. -/
noncomputable def nameQ (c : List (List Int)) (o : List Int) : List UInt8 := nameP (subM c o)
noncomputable def nameOf (c : List (List Int)) : List UInt8 := Lib.join ((partsC c).map (nameQ c)) [120]
theorem nameTo_le {c : List (List Int)} (k : Nat) : (Lib.join (((partsC c).take k).map (nameQ c)) [120]).length ≤ 4 * k := by
  have := join_le (b := 3) [120] (by simp) (((partsC c).take k).map (nameQ c)) (fun x hx => by
    obtain ⟨o, _, rfl⟩ := List.mem_map.1 hx
    exact (nameP_short _).1)
  simp only [List.length_map, List.length_take] at this
  have h2 : min k (partsC c).length ≤ k := Nat.min_le_left _ _
  have h3 := Nat.mul_le_mul_left 4 h2
  omega


set_option maxHeartbeats 1000000 in
theorem impl_NameOfPart (h : Heap) (x : H0) (c : List (List Int)) (hx : Rows h x c) (hic : isCartan c = true) (hcn : isConn c = true) :
    HCalls dm Tryz.prog 138 [.s x] h (fun r h' => r = Tx (nameP c) ∧ Ext h h') := by
  have hC := (isCartan_iff c).1 hic
  have h4 := hC.le
  have hln : (namesT.map cst).length = 17 := rfl
  obtain ⟨V, hV⟩ : ∃ V, V = nameP c := ⟨_, rfl⟩
  rw [← hV]
  refine calls_of_hFun (m := 0) kd_ok mixed Tryz.func138 rfl (by kernel_rfl) rfl rfl (of_decide_eq_true rfl) ?_; unfold hFun; (conv => whnf)
  refine (impl_IsConnected _ _ c hx (by omega)).mono ?_
  rintro r h0 ⟨rfl, E0⟩
  rw [hcn]
  (conv => whnf)
  refine HIf.no ?_
  (conv => whnf)
  refine (show HCalls _ _ _ [Tx typeS, Tx [32]] _ _ from (lib_Split _ typeS 32 (by decide)).mono ?_)
  rintro r h1 ⟨rfl, rfl⟩
  rw [typeS_cut, typeS_len]
  have E1 : Ext h (h0 ++ [Row.own (namesT.map cst)]) := E0.pushed _
  have S1 := Strs.new h0 namesT
  have e17 : namesT.length = 17 := rfl
  rw [e17] at S1 ⊢
  generalize H0.sl h0.length 0 17 = y at *
  generalize h0 ++ [Row.own (namesT.map cst)] = h1 at *
  (conv => whnf)
  refine ⟨rfl, Shows.len S1 ?_⟩
  rw [hln]
  (conv => whnf)
  refine HLoop.intro [14] [15, 16, 17, 4, 19, 20, 18, 21, 22, 5, 6, 24, 25, 26, 23, 27, 28, 7, 8, 29, 30, 2, 31, 14] (by kernel_rfl) (by kernel_rfl) (fun vs h' => ∃ k : Nat, vs = [I k] ∧ k ≤ 17 ∧ Ext h1 h' ∧ V = nameIn (isoB c) (typeL.drop k)) (fun vs _ => 17 - natAt vs 0) ⟨0, rfl, by omega, Ext.refl h1, hV⟩ ?_
  rintro vs h' ⟨k, rfl, hk, E, hnm⟩
  have S := Shows.ext S1 E
  have Eh := E1.trans E
  (conv => whnf)
  refine HIf.dec (fun hlt => ?_) (fun hge => ?_)
  · have hk17 : k < 17 := by omega
    have hst := nameIn_step (isoB c) hk17
    have ecell := name_cell hk17
    have hm := ty_mem hk17
    have hone := fun p hp => ty_one p hp k hk17
    have hcar := ty_cart _ hm
    rw [← hnm] at hst
    generalize namesT.map cst = NM at *
    generalize hr : nameIn (isoB c) (typeL.drop (k + 1)) = rest at *
    generalize tyAt k = t at *
    obtain ⟨s, M⟩ := t
    have hsn : s ∈ namesT := ty_names _ hm
    (conv => whnf)
    refine ⟨rfl, Shows.idx S (by omega) (by omega) (fun p hp => ?_)⟩
    rw [ecell] at hp
    (conv => whnf)
    refine ⟨rfl, hp.load ?_⟩
    (conv => whnf)
    refine (impl_TypeCartan _ s hsn).mono ?_
    rintro r h2 ⟨y2, L, rfl, E2, O2, hL⟩
    obtain rfl : L = M := congrArg Prod.snd (hone _ hL rfl)
    (conv => whnf)
    refine (impl_AreIsomorphic _ _ _ _ _ (hx.ext (Eh.trans E2)) O2.rows hic hcar).mono ?_
    rintro r h3 ⟨y3, rfl, E3⟩
    have E23 := E2.trans E3
    (conv => whnf)
    cases hb : isoB c L
    · refine HIf.no ?_
      (conv => whnf)
      refine HArith.fits (by omega) (by omega) ?_
      (conv => whnf)
      exact ⟨⟨k + 1, rfl, by omega, E.trans E23, by rw [hst, hr]; simp only [hb, Bool.false_eq_true, if_false]⟩, by show 17 - (k + 1) < 17 - k; omega⟩
    · refine HIf.yes ?_
      (conv => whnf)
      refine ⟨?_, Eh.trans E23⟩
      rw [hst]
      simp only [hb, if_true]
      exact ty_text s
  · have ek : k = 17 := by omega
    subst ek
    (conv => whnf)
    refine ⟨?_, Eh⟩
    rw [hnm, nameIn_end]
    rfl

set_option maxHeartbeats 1000000 in
theorem spec_NameOf (h : Heap) (x : H0) (c : List (List Int)) (hx : Rows h x c) (hic : isCartan c = true) :
    HCalls dm Tryz.prog 75 [.s x] h (fun r h' => r = Tx (nameOf c) ∧ Ext h h') := by
  have hC := (isCartan_iff c).1 hic
  have h4 := hC.le
  have hpl := partsC_le c
  refine calls_of_hFun (m := 0) kd_ok mixed Tryz.func75 rfl (by kernel_rfl) rfl rfl (of_decide_eq_true rfl) ?_; unfold hFun; (conv => whnf)
  refine (spec_PartsOf _ _ c hx (by omega)).mono ?_
  rintro r h1 ⟨y, rfl, E1, O1⟩
  have hpk := fun k hk => part_ok hic (k := k) hk
  have hle := fun k => nameTo_le (c := c) k
  have hfirst := join_first (nameQ c) [120] (partsC c)
  have htake := fun k h h0 => join_take (nameQ c) [120] (partsC c) (k := k) h h0
  have hall : nameOf c = Lib.join (((partsC c).take (partsC c).length).map (nameQ c)) [120] := by rw [List.take_length]; rfl
  have hQ : ∀ o, nameQ c o = nameP (subM c o) := fun o => rfl
  have hget : ∀ k (hk : k < (partsC c).length), (partsC c)[k] = (partsC c).getD k [] := fun k hk => by simp [List.getD, hk]
  generalize nameOf c = V at *
  generalize partsC c = Ps at *
  (conv => whnf)
  refine HLoop.intro [5, 4] [10, 11, 12, 13, 16, 17, 18, 19, 4, 21, 22, 23, 24, 25, 26, 20, 27, 28, 6, 7, 29, 30, 31, 32, 4, 14, 15, 5] (by kernel_rfl) (by kernel_rfl) (fun vs h' => ∃ (k : Nat) (s : List UInt8), vs = [I k, Tx s] ∧ k ≤ Ps.length ∧ Ext h1 h' ∧ s = Lib.join ((Ps.take k).map (nameQ c)) [120]) (fun vs _ => Ps.length - natAt vs 0) ⟨0, [], rfl, by omega, Ext.refl h1, by simp [Lib.join_nil]⟩ ?_
  rintro vs h' ⟨k, s, rfl, hk, E, hs⟩
  have hsl : s.length ≤ 4 * k := by rw [hs]; exact hle k
  have O := O1.ext E
  have Eh := E1.trans E
  (conv => whnf)
  refine ⟨rfl, O.rows.len ?_⟩
  (conv => whnf)
  refine HIf.dec (fun hlt => ?_) (fun hge => ?_)
  · have hkl : k < Ps.length := by omega
    have ok := hpk k hkl
    have hg := hget k hkl
    have hsh := nameP_short (subM c (Ps.getD k []))
    have hQk := hQ (Ps.getD k [])
    have hnx : ∀ {K : HV → Prop}, K (Tx (Lib.join ((Ps.take (k + 1)).map (nameQ c)) [120])) → K (Tx (if 0 < k then s ++ [120] ++ nameP (subM c (Ps.getD k [])) else nameP (subM c (Ps.getD k [])))) := fun {K} hK => by
      by_cases h0 : 0 < k
      · rw [if_pos h0]
        rw [htake k hkl h0, ← hs, hg, hQk] at hK
        exact hK
      · have e0 : k = 0 := by omega
        subst e0
        rw [if_neg h0]
        rw [hfirst hkl, hg, hQk] at hK
        exact hK
    generalize hgo : Ps.getD k [] = o at *
    (conv => whnf)
    refine HIf.dec (fun h0 => ?_) (fun h0 => ?_)
    · (conv => whnf)
      refine HStr.add (a := s) (b := [120]) (by rw [List.length_singleton]; omega) ?_
      (conv => whnf)
      refine ⟨rfl, O.rows.idxN hkl (fun p z hp hz => ?_)⟩
      rw [hgo] at hz
      (conv => whnf)
      refine ⟨rfl, hp.load ?_⟩
      (conv => whnf)
      refine (spec_SubCartan _ _ c _ o (hx.ext Eh) hz hic ok.rng ok.asc ok.le ok.ne).mono ?_
      rintro r h2 ⟨y2, rfl, E2, O2⟩
      rw [pick_sub] at O2
      (conv => whnf)
      refine (spec_NameOfPart _ _ _ O2.rows ok.cart ok.conn).mono ?_
      rintro r h3 ⟨rfl, E3⟩
      (conv => whnf)
      refine HStr.add (a := s ++ [120]) (b := nameP (subM c o)) (by rw [List.length_append, List.length_singleton]; omega) ?_
      (conv => whnf)
      refine HArith.fits (by omega) (by omega) ?_
      (conv => whnf)
      exact ⟨⟨k + 1, _, rfl, by omega, E.trans (E2.trans E3), by
        have := @hnx (fun v => v = Tx (Lib.join ((Ps.take (k + 1)).map (nameQ c)) [120])) rfl
        rw [if_pos (by omega)] at this
        simpa using this⟩, by show Ps.length - (k + 1) < Ps.length - k; omega⟩
    · (conv => whnf)
      have e0 : k = 0 := by omega
      have es : s = [] := by rw [hs, e0]; simp [Lib.join_nil]
      refine ⟨rfl, O.rows.idxN hkl (fun p z hp hz => ?_)⟩
      rw [hgo] at hz
      (conv => whnf)
      refine ⟨rfl, hp.load ?_⟩
      (conv => whnf)
      refine (spec_SubCartan _ _ c _ o (hx.ext Eh) hz hic ok.rng ok.asc ok.le ok.ne).mono ?_
      rintro r h2 ⟨y2, rfl, E2, O2⟩
      rw [pick_sub] at O2
      (conv => whnf)
      refine (spec_NameOfPart _ _ _ O2.rows ok.cart ok.conn).mono ?_
      rintro r h3 ⟨rfl, E3⟩
      (conv => whnf)
      refine HStr.add (a := s) (b := nameP (subM c o)) (by omega) ?_
      (conv => whnf)
      refine HArith.fits (by omega) (by omega) ?_
      (conv => whnf)
      exact ⟨⟨k + 1, _, rfl, by omega, E.trans (E2.trans E3), by
        have := @hnx (fun v => v = Tx (Lib.join ((Ps.take (k + 1)).map (nameQ c)) [120])) rfl
        rw [if_neg (by omega)] at this
        rw [es, List.nil_append]
        simpa using this⟩, by show Ps.length - (k + 1) < Ps.length - k; omega⟩
  · have ek : k = Ps.length := by omega
    subst ek
    obtain rfl : V = s := by rw [hs, hall]
    (conv => whnf)
    exact ⟨rfl, Eh⟩

set_option maxHeartbeats 1000000 in
theorem impl_NameOf (h : Heap) (x : H0) (c : List (List Int)) (hx : Rows h x c) (hic : isCartan c = true) :
    HCalls false Tryz.prog 79 [.s x] h (fun r h' => r = Tx (nameOf c) ∧ Ext h h') := by
  have hC := (isCartan_iff c).1 hic
  have h4 := hC.le
  have hpl := partsC_le c
  have E0 := Ext.push h [Row.own []]
  refine calls_of_hFun (m := 0) kd_ok mixed Tryz.func79 rfl (by kernel_rfl) rfl rfl (of_decide_eq_true rfl) ?_; unfold hFun; (conv => whnf)
  refine HLit.empty ?_
  (conv => whnf)
  refine (impl_PartsOf _ _ c (hx.ext E0) (by omega)).mono ?_
  rintro r h1 ⟨y, rfl, E1, O1⟩
  have hpk := fun k hk => part_ok hic (k := k) hk
  have hle := nameTo_le (c := c) (partsC c).length
  have hall : nameOf c = Lib.join ((partsC c).map (nameQ c)) [120] := rfl
  have hQ : ∀ o, nameQ c o = nameP (subM c o) := fun o => rfl
  rw [List.take_length] at hle
  generalize nameOf c = V at *
  generalize partsC c = Ps at *
  have E01 := E0.trans E1
  have hrow := E1.row (get_new h (Row.own []))
  have M1 := O1.matP
  have hn0 : (h ++ [Row.own []]).length = h.length + 1 := by simp
  rw [hn0] at M1
  (conv => whnf)
  refine ⟨rfl, O1.rows.len ?_⟩
  (conv => whnf)
  refine HLoop.intro [10, 3] [11, 12, 13, 5, 14, 15, 16, 17, 18, 19, 20, 3, 21, 10] (by kernel_rfl) (by kernel_rfl) (fun vs h' => ∃ (k r : Nat), vs = [I k, .s (.sl r 0 k)] ∧ k ≤ Ps.length ∧ Ext h h' ∧ h1.length ≤ h'.length ∧ MatP (fun p => h.length + 1 ≤ p ∧ p < h1.length) h' y Ps ∧ (r = h.length ∨ h1.length ≤ r) ∧ h'[r]? = some (.own (((Ps.take k).map (nameQ c)).map stc))) (fun vs _ => Ps.length - natAt vs 0) ⟨0, h.length, rfl, by omega, E01, Nat.le_refl _, M1, Or.inl rfl, hrow⟩ ?_
  have hE01 := E01.1
  clear hrow E01 M1
  rintro vs h' ⟨k, r, rfl, hk, E, hl1, M, hr, hcs⟩
  (conv => whnf)
  refine HIf.dec (fun hlt => ?_) (fun hge => ?_)
  · have hkl : k < Ps.length := by omega
    have ok := hpk k hkl
    have htk : (Ps.take (k + 1)).map (nameQ c) = (Ps.take k).map (nameQ c) ++ [nameQ c (Ps.getD k [])] := by
      rw [List.take_succ_eq_append_getElem hkl, List.map_append]
      have e : Ps.getD k [] = Ps[k] := by simp [List.getD, hkl]
      rw [e]
      rfl
    have hkn : ((Ps.take k).map (nameQ c)).length = k := by simp; omega
    have hQk := hQ (Ps.getD k [])
    generalize hgo : Ps.getD k [] = o at *
    (conv => whnf)
    refine ⟨rfl, M.rows.idxN hkl (fun p z hp hz => ?_)⟩
    rw [hgo] at hz
    (conv => whnf)
    refine ⟨rfl, hp.load ?_⟩
    (conv => whnf)
    refine (impl_picked _ _ c _ o (hx.ext E) hz hC ok.rng ok.le).mono ?_
    rintro r2 h2 ⟨y2, rfl, E2, O2⟩
    rw [pick_sub] at O2
    (conv => whnf)
    refine (impl_NameOfPart _ _ _ O2.rows ok.cart ok.conn).mono ?_
    rintro r3 h3 ⟨rfl, E3⟩
    rw [← hQk]
    (conv => whnf)
    refine HLit.row (y := stc (nameQ c o)) rfl ?_
    (conv => whnf)
    have E23 := E2.trans E3
    have hE := E.1
    have hE23 := E23.1
    have M3 := M.ext E23
    replace hcs := E23.row hcs
    replace E := E.trans E23
    have hrl := get_lt hcs
    refine ⟨rfl, rfl, HApp.text (by rw [List.getElem?_append_left (by omega)]; exact hcs) (get_new _ _) hkn (by omega) ?_⟩
    rw [← htk]
    have E4 : Ext h ((h3 ++ [Row.own [stc (nameQ c o)]]).set r Row.gone ++ [Row.own (((Ps.take (k + 1)).map (nameQ c)).map stc)]) := ((E.pushed _).set (by omega) _).pushed _
    have hnew := get_new ((h3 ++ [Row.own [stc (nameQ c o)]]).set r Row.gone) (Row.own (((Ps.take (k + 1)).map (nameQ c)).map stc))
    rw [List.length_set] at hnew
    have M4 : MatP (fun p => h.length + 1 ≤ p ∧ p < h1.length) ((h3 ++ [Row.own [stc (nameQ c o)]]).set r Row.gone ++ [Row.own (((Ps.take (k + 1)).map (nameQ c)).map stc)]) y Ps := M3.keep fun p hp hs => by
      rw [List.getElem?_append_left (by simp; omega), List.getElem?_set_ne (by omega), List.getElem?_append_left hp]
    have hnl : h1.length ≤ (h3 ++ [Row.own [stc (nameQ c o)]]).length := by simp; omega
    have hnl2 : h1.length ≤ ((h3 ++ [Row.own [stc (nameQ c o)]]).set r Row.gone ++ [Row.own (((Ps.take (k + 1)).map (nameQ c)).map stc)]).length := by simp; omega
    generalize (h3 ++ [Row.own [stc (nameQ c o)]]).length = N at *
    generalize (h3 ++ [Row.own [stc (nameQ c o)]]).set r Row.gone ++ [Row.own (((Ps.take (k + 1)).map (nameQ c)).map stc)] = h4 at *
    (conv => whnf)
    refine HArith.fits (by omega) (by omega) ?_
    (conv => whnf)
    exact ⟨⟨k + 1, N, rfl, by omega, E4, hnl2, M4, Or.inr hnl, hnew⟩, by show Ps.length - (k + 1) < Ps.length - k; omega⟩
  · have ek : k = Ps.length := by omega
    subst ek
    rw [List.take_length] at hcs
    have hj := lib_Join h' r (Ps.map (nameQ c)) [120] [] (by rw [List.append_nil]; exact hcs) (by simp; omega) (by omega)
    rw [List.length_map] at hj
    (conv => whnf)
    refine hj.mono ?_
    rintro r2 h2 ⟨rfl, rfl⟩
    rw [hall]
    (conv => whnf)
    exact ⟨rfl, E⟩

end Go.Proofs.YtgliajcgcbnemaaGreatDoor.Hx

namespace Go.Proofs.YtgliajcgcbnemaaGreatDoor.Hx
open Go.RowKit
variable {dm : Bool}

/-- The size of a type, 0 where there is none. -/
def sizeT (l : List UInt8) : Int :=
  if l = [65, 49] then 2 else if l = [65, 50] then 6 else if l = [65, 51] then 24 else if l = [65, 52] then 120 else if l = [66, 50] then 8 else if l = [66, 51] then 48 else if l = [67, 51] then 48 else
  if l = [66, 52] then 384 else if l = [67, 52] then 384 else if l = [68, 52] then 192 else if l = [70, 52] then 1152 else if l = [71, 50] then 12 else 0
theorem sizeT_cases (l : List UInt8) : l = [65, 49] ∨ l = [65, 50] ∨ l = [65, 51] ∨ l = [65, 52] ∨ l = [66, 50] ∨ l = [66, 51] ∨ l = [67, 51] ∨ l = [66, 52] ∨ l = [67, 52] ∨ l = [68, 52] ∨ l = [70, 52] ∨ l = [71, 50] ∨
    (l ≠ [65, 49] ∧ l ≠ [65, 50] ∧ l ≠ [65, 51] ∧ l ≠ [65, 52] ∧ l ≠ [66, 50] ∧ l ≠ [66, 51] ∧ l ≠ [67, 51] ∧ l ≠ [66, 52] ∧ l ≠ [67, 52] ∧ l ≠ [68, 52] ∧ l ≠ [70, 52] ∧ l ≠ [71, 50]) := by
  by_cases h1 : l = [65, 49]
  · simp [h1]
  by_cases h2 : l = [65, 50]
  · simp [h2]
  by_cases h3 : l = [65, 51]
  · simp [h3]
  by_cases h4 : l = [65, 52]
  · simp [h4]
  by_cases h5 : l = [66, 50]
  · simp [h5]
  by_cases h6 : l = [66, 51]
  · simp [h6]
  by_cases h7 : l = [67, 51]
  · simp [h7]
  by_cases h8 : l = [66, 52]
  · simp [h8]
  by_cases h9 : l = [67, 52]
  · simp [h9]
  by_cases h10 : l = [68, 52]
  · simp [h10]
  by_cases h11 : l = [70, 52]
  · simp [h11]
  by_cases h12 : l = [71, 50]
  · simp [h12]
  simp [h1, h2, h3, h4, h5, h6, h7, h8, h9, h10, h11, h12]
theorem sizeT_rng (l : List UInt8) : 0 ≤ sizeT l ∧ sizeT l ≤ 1152 := by
  rcases sizeT_cases l with rfl | rfl | rfl | rfl | rfl | rfl | rfl | rfl | rfl | rfl | rfl | rfl | ⟨n1, n2, n3, n4, n5, n6, n7, n8, n9, n10, n11, n12⟩
  iterate 12
    · decide
  · have hv : sizeT l = 0 := by simp [sizeT, n1, n2, n3, n4, n5, n6, n7, n8, n9, n10, n11, n12]
    rw [hv]
    decide

def sizeL (xs : List (List UInt8)) : Int := xs.foldl (fun n x => n * sizeT x) 1
theorem sizeL_snoc (xs : List (List UInt8)) {k : Nat} (hk : k < xs.length) : sizeL (xs.take (k + 1)) = sizeL (xs.take k) * sizeT (xs.getD k []) := by
  rw [List.take_succ_eq_append_getElem hk]
  have e : xs.getD k [] = xs[k] := by simp [List.getD, hk]
  rw [e]
  unfold sizeL
  rw [List.foldl_append]
  rfl
theorem sizeL_rng (xs : List (List UInt8)) : ∀ k, k ≤ xs.length → 0 ≤ sizeL (xs.take k) ∧ sizeL (xs.take k) ≤ ((1152 ^ k : Nat) : Int)
  | 0, _ => by simp [sizeL]
  | k + 1, h => by
    obtain ⟨h1, h2⟩ := sizeL_rng xs k (by omega)
    obtain ⟨h3, h4⟩ := sizeT_rng (xs.getD k [])
    rw [sizeL_snoc xs (by omega)]
    refine ⟨Int.mul_nonneg h1 h3, ?_⟩
    have e : ((1152 ^ (k + 1) : Nat) : Int) = ((1152 ^ k : Nat) : Int) * 1152 := by
      rw [Nat.pow_succ, Int.natCast_mul]
      rfl
    rw [e]
    exact Int.mul_le_mul h2 h4 h3 (by omega)
theorem sizeL_small (xs : List (List UInt8)) {k : Nat} (h : k ≤ xs.length) (h4 : k ≤ 4) : 0 ≤ sizeL (xs.take k) ∧ sizeL (xs.take k) ≤ 1761205026816 := by
  obtain ⟨h1, h2⟩ := sizeL_rng xs k h
  have : 1152 ^ k ≤ 1152 ^ 4 := Nat.pow_le_pow_right (by omega) h4
  have e : (1152 : Nat) ^ 4 = 1761205026816 := rfl
  exact ⟨h1, by omega⟩

/-- The size of a matrix's group. -/
noncomputable def namesL (c : List (List Int)) : List (List UInt8) := (partsC c).map (nameQ c)
noncomputable def sizeN (c : List (List Int)) : Int := if isFinite c then sizeL (namesL c) else 0
theorem sizeN_off {c : List (List Int)} (h : isFinite c = false) : sizeN c = 0 := by simp [sizeN, h]
theorem sizeN_on {c : List (List Int)} (h : isFinite c = true) : sizeN c = sizeL (namesL c) := by simp [sizeN, h]

theorem partsC_ne {c : List (List Int)} (hic : isCartan c = true) : (partsC c).length ≠ 0 := by
  have hp := ((isCartan_iff c).1 hic).pos
  intro e
  rw [partsC_on hic] at e
  have h0 : isMin c 0 = true := isMin_iff.2 fun j hj => by omega
  have hm : partL c 0 ∈ partsTo c c.length := List.mem_map.2 ⟨0, List.mem_filter.2 ⟨List.mem_range.2 hp, h0⟩, rfl⟩
  rw [List.length_eq_zero_iff.1 e] at hm
  simp at hm
theorem nameOf_cut {c : List (List Int)} (hic : isCartan c = true) : cutB 120 (nameOf c) = namesL c := by
  refine cut_join (fun e => partsC_ne hic ?_) (fun x hx => ?_)
  · have := congrArg List.length e
    simpa using this
  · obtain ⟨o, _, rfl⟩ := List.mem_map.1 hx
    exact (nameP_short _).2
theorem namesL_le {c : List (List Int)} (hC : Cartan c) : (namesL c).length ≤ 4 := by
  have h1 := partsC_le c
  have h2 := hC.le
  simp only [namesL, List.length_map]
  omega
theorem nameOf_le {c : List (List Int)} (hC : Cartan c) : (nameOf c).length ≤ 16 := by
  have h1 := nameTo_le (c := c) (partsC c).length
  rw [List.take_length] at h1
  have h2 := partsC_le c
  have h3 := hC.le
  have e : nameOf c = Lib.join ((partsC c).map (nameQ c)) [120] := rfl
  rw [e]
  omega

theorem tx_ne {a b : List UInt8} (h : a ≠ b) : (⟨a.toArray⟩ : ByteArray) ≠ ⟨b.toArray⟩ := fun e => h (by
  have := congrArg (fun x : ByteArray => x.data.toList) e
  simpa using this)
theorem HByte.tx {s : List UInt8} {k : Nat} {K : HV → Prop} (hk : k < s.length) (hK : K (.s (.pl (.int .u8 ((s.getD k 0).toNat : Int))))) : HByte (Tx s) (I k) K := by
  have e : (s.getD k 0) = s[k] := by simp [List.getD, hk]
  rw [e] at hK
  exact ⟨⟨s.toArray⟩, .i64, k, by rw [tx_size]; exact hk, rfl, rfl, hK⟩
theorem HSub.tx {s : List UInt8} {k : Nat} {K : HV → Prop} (hk : k < s.length) (hK : K (Tx [s.getD k 0])) : HSub (Tx s) (some (I k)) (some (I ((k + 1 : Nat) : Int))) K := by
  refine ⟨⟨s.toArray⟩, k, k + 1, rfl, Or.inr ⟨.i64, rfl⟩, Or.inr ⟨.i64, rfl⟩, by omega, by rw [tx_size]; omega, ?_⟩
  have e : (⟨s.toArray⟩ : ByteArray).extract k (k + 1) = ⟨[s.getD k 0].toArray⟩ := by
    apply ByteArray.ext
    apply Array.ext'
    simp only [ByteArray.data_extract, Array.toList_extract, List.extract_eq_take_drop]
    have e2 : s.getD k 0 = s[k] := by simp [List.getD, hk]
    rw [e2, show k + 1 - k = 1 by omega, List.drop_eq_getElem_cons hk]
    rfl
  rw [e]
  exact hK


set_option maxHeartbeats 1000000 in
theorem spec_l2Cut (h : Heap) (s : List UInt8) (c : UInt8) (hs : s.length ≤ 1048575) :
    HCalls dm Tryz.prog 123 [Tx s, .s (.pl (.int .u8 (c.toNat : Int)))] h (fun z h' => ∃ r, z = .s (.sl r 0 (cutB c s).length) ∧ Ext h h' ∧ h'[r]? = some (.own ((cutB c s).map stc))) := by
  have hsz := tx_size s
  obtain ⟨V, hV⟩ : ∃ V, V = cutB c s := ⟨_, rfl⟩
  rw [← hV]
  refine calls_of_hFun (m := 0) kd_ok mixed Tryz.func123 rfl (by kernel_rfl) rfl rfl (of_decide_eq_true rfl) ?_; unfold hFun; (conv => whnf)
  refine HLit.empty ?_
  (conv => whnf)
  refine HLoop.intro [7, 5, 6] [9, 10, 11, 12, 15, 16, 17, 18, 19, 20, 21, 22, 23, 5, 6, 24, 25, 26, 27, 28, 29, 30, 6, 13, 14, 7] (by kernel_rfl) (by kernel_rfl) (fun vs h' => ∃ (k r : Nat) (xs : List (List UInt8)) (p : List UInt8), vs = [I k, .s (.sl r 0 xs.length), Tx p] ∧ k ≤ s.length ∧ Ext h h' ∧ h.length ≤ r ∧ h'[r]? = some (.own (xs.map stc)) ∧ c ∉ p ∧ p.length ≤ k ∧ xs.length ≤ k ∧ V = xs ++ cutB c (p ++ s.drop k)) (fun vs _ => s.length - natAt vs 0) ⟨0, h.length, [], [], rfl, by omega, Ext.push _ _, Nat.le_refl _, get_new _ _, by simp, by simp, by simp, by simpa using hV⟩ ?_
  rintro vs h' ⟨k, r, xs, p, rfl, hk, E, hr, hcs, hcp, hpl, hxl, hv⟩
  have hE := E.1
  have hrl := get_lt hcs
  (conv => whnf)
  refine HLenS.mk ⟨_, rfl, ?_⟩
  rw [hsz]
  (conv => whnf)
  refine HIf.dec (fun hlt => ?_) (fun hge => ?_)
  · have hkl : k < s.length := by omega
    have hd : s.drop k = s.getD k 0 :: s.drop (k + 1) := by
      have e2 : s.getD k 0 = s[k] := by simp [List.getD, hkl]
      rw [List.drop_eq_getElem_cons hkl, e2]
    generalize hb : s.getD k 0 = b at *
    (conv => whnf)
    refine HByte.tx hkl ?_
    rw [hb]
    (conv => whnf)
    refine HIf.beq (fun he => ?_) (fun hne => ?_)
    · have hbc : b = c := by
        apply UInt8.toNat_inj.1
        omega
      subst hbc
      (conv => whnf)
      refine HLit.row (y := stc p) rfl ?_
      (conv => whnf)
      refine ⟨rfl, rfl, HApp.text (by rw [List.getElem?_append_left hrl]; exact hcs) (get_new _ _) rfl (by omega) ?_⟩
      have E4 : Ext h ((h' ++ [Row.own [stc p]]).set r Row.gone ++ [Row.own ((xs ++ [p]).map stc)]) := ((E.pushed _).set hr _).pushed _
      have hnew := get_new ((h' ++ [Row.own [stc p]]).set r Row.gone) (Row.own ((xs ++ [p]).map stc))
      rw [List.length_set] at hnew
      have hnl : h.length ≤ (h' ++ [Row.own [stc p]]).length := by simp; omega
      have hxl2 : xs.length + 1 = (xs ++ [p]).length := by simp
      rw [hxl2]
      generalize (h' ++ [Row.own [stc p]]).length = N at *
      generalize (h' ++ [Row.own [stc p]]).set r Row.gone ++ [Row.own ((xs ++ [p]).map stc)] = h4 at *
      (conv => whnf)
      refine HArith.fits (by omega) (by omega) ?_
      (conv => whnf)
      exact ⟨⟨k + 1, N, xs ++ [p], [], rfl, by omega, E4, hnl, hnew, by simp, by simp, by omega, by rw [hv, hd, cutB_hit hcp]; simp⟩, by show s.length - (k + 1) < s.length - k; omega⟩
    · have hbc : b ≠ c := fun e => hne (by rw [e])
      (conv => whnf)
      refine HArith.to (e' := ((k + 1 : Nat) : Int)) (by omega) (by omega) (by omega) ?_
      (conv => whnf)
      refine HSub.tx hkl ?_
      rw [hb]
      (conv => whnf)
      refine HStr.add (a := p) (b := [b]) (by rw [List.length_singleton]; omega) ?_
      (conv => whnf)
      refine HArith.fits (by omega) (by omega) ?_
      (conv => whnf)
      exact ⟨⟨k + 1, r, xs, p ++ [b], rfl, by omega, E, hr, hcs, by simp [hcp, Ne.symm hbc], by simp; omega, by omega, by rw [hv, hd]; simp⟩, by show s.length - (k + 1) < s.length - k; omega⟩
  · have ek : k = s.length := by omega
    have hd : s.drop k = [] := by rw [ek, List.drop_length]
    have hv2 : V = xs ++ [p] := by rw [hv, hd, List.append_nil, cutB_one hcp]
    have hxl2 : V.length = xs.length + 1 := by rw [hv2]; simp
    (conv => whnf)
    refine HLit.row (y := stc p) rfl ?_
    (conv => whnf)
    refine ⟨rfl, rfl, HApp.text (by rw [List.getElem?_append_left hrl]; exact hcs) (get_new _ _) rfl (by omega) ?_⟩
    rw [← hv2, ← hxl2]
    have E4 : Ext h ((h' ++ [Row.own [stc p]]).set r Row.gone ++ [Row.own (V.map stc)]) := ((E.pushed _).set hr _).pushed _
    have hnew := get_new ((h' ++ [Row.own [stc p]]).set r Row.gone) (Row.own (V.map stc))
    rw [List.length_set] at hnew
    generalize (h' ++ [Row.own [stc p]]).length = N at *
    generalize (h' ++ [Row.own [stc p]]).set r Row.gone ++ [Row.own (V.map stc)] = h4 at *
    (conv => whnf)
    exact ⟨N, rfl, E4, hnew⟩

/-- Texts in a row of one's own, read. -/
theorem txt_shows {h : Heap} {r : Nat} {xs : List (List UInt8)} (hr : h[r]? = some (.own (xs.map stc))) : Shows h (.s (.sl r 0 xs.length)) (xs.map stc) := by
  have := Shows.own r 0 xs.length _ hr (by simp)
  simp only [List.drop_zero] at this
  rw [List.take_of_length_le (by simp)] at this
  exact this
theorem txt_cell (xs : List (List UInt8)) {k : Nat} (hk : k < xs.length) : (xs.map stc).getD ((k : Int)).toNat (.pl (.int .i64 0)) = stc (xs.getD k []) := by
  rw [Int.toNat_natCast]
  simp [List.getD, hk]

set_option maxHeartbeats 1000000 in
theorem impl_sizeOfType (h : Heap) (l : List UInt8) : HCalls dm Tryz.prog 136 [Tx l] h (fun r h' => r = I (sizeT l) ∧ h' = h) := by
  rcases sizeT_cases l with rfl | rfl | rfl | rfl | rfl | rfl | rfl | rfl | rfl | rfl | rfl | rfl | ⟨n1, n2, n3, n4, n5, n6, n7, n8, n9, n10, n11, n12⟩
  iterate 12
    · refine calls_of_hFun (m := 0) kd_ok mixed Tryz.func136 rfl (by kernel_rfl) rfl rfl (of_decide_eq_true rfl) ?_; unfold hFun; (conv => whnf)
      (repeat (first | (refine HStr.eql ?_; conv => whnf) | (refine HIf.strT rfl ?_; conv => whnf) | (refine HIf.strF (by decide) ?_; conv => whnf)))
      exact ⟨rfl, rfl⟩
  · have hv : sizeT l = 0 := by simp [sizeT, n1, n2, n3, n4, n5, n6, n7, n8, n9, n10, n11, n12]
    rw [hv]
    refine calls_of_hFun (m := 0) kd_ok mixed Tryz.func136 rfl (by kernel_rfl) rfl rfl (of_decide_eq_true rfl) ?_; unfold hFun; (conv => whnf)
    (repeat (first | (refine HStr.eql ?_; conv => whnf) | (refine HIf.strF (tx_ne (by assumption)) ?_; conv => whnf)))
    exact ⟨rfl, rfl⟩

set_option maxHeartbeats 1000000 in
theorem impl_SizeByName (h : Heap) (s : List UInt8) (xs : List (List UInt8)) (hx : cutB 120 s = xs) (hl : xs.length ≤ 4) (hs : s.length ≤ 1048575) :
    HCalls dm Tryz.prog 78 [Tx s] h (fun r h' => r = I (sizeL xs) ∧ Ext h h') := by
  have hsn := fun k hk => sizeL_snoc xs (k := k) hk
  have hsm := fun k h1 h2 => sizeL_small xs (k := k) h1 h2
  have h0 : sizeL (xs.take 0) = 1 := by simp [sizeL]
  have hall : sizeL (xs.take xs.length) = sizeL xs := by rw [List.take_length]
  have hrg := fun k => sizeT_rng (xs.getD k [])
  refine calls_of_hFun (m := 0) kd_ok mixed Tryz.func78 rfl (by kernel_rfl) rfl rfl (of_decide_eq_true rfl) ?_; unfold hFun; (conv => whnf)
  refine (lib_Split _ s 120 (by omega)).mono ?_
  rintro r h1 ⟨rfl, rfl⟩
  rw [hx]
  have S1 := txt_shows (get_new h (Row.own (xs.map stc)))
  have E1 := Ext.push h [Row.own (xs.map stc)]
  have hml : (xs.map stc).length = xs.length := by simp
  generalize H0.sl h.length 0 xs.length = y at *
  generalize h ++ [Row.own (xs.map stc)] = h1 at *
  (conv => whnf)
  refine ⟨rfl, Shows.len S1 ?_⟩
  rw [hml]
  (conv => whnf)
  refine HIf.decF (by omega) ?_
  (conv => whnf)
  refine ⟨rfl, Shows.len S1 ?_⟩
  rw [hml]
  (conv => whnf)
  refine HLoop.intro [14, 4] [15, 16, 17, 6, 18, 19, 20, 21, 4, 22, 14] (by kernel_rfl) (by kernel_rfl) (fun vs h' => ∃ k : Nat, vs = [I k, I (sizeL (xs.take k))] ∧ k ≤ xs.length ∧ h' = h1) (fun vs _ => xs.length - natAt vs 0) ⟨0, by rw [h0]; rfl, by omega, rfl⟩ ?_
  rintro vs h' ⟨k, rfl, hk, rfl⟩
  (conv => whnf)
  refine HIf.dec (fun hlt => ?_) (fun hge => ?_)
  · have hkl : k < xs.length := by omega
    have ec := txt_cell xs hkl
    have hst := hsn k hkl
    have h3 := hsm (k + 1) (by omega) (by omega)
    generalize hN1 : sizeL (xs.take (k + 1)) = N1 at *
    generalize sizeL (xs.take k) = N0 at *
    generalize xs.getD k [] = l at *
    (conv => whnf)
    refine ⟨rfl, Shows.idx S1 (by omega) (by omega) (fun p hp => ?_)⟩
    rw [ec] at hp
    (conv => whnf)
    refine ⟨rfl, hp.load ?_⟩
    (conv => whnf)
    refine (impl_sizeOfType _ l).mono ?_
    rintro r h2 ⟨rfl, rfl⟩
    (conv => whnf)
    refine HArith.to (e' := N1) hst.symm (by omega) (by omega) ?_
    (conv => whnf)
    refine HArith.fits (by omega) (by omega) ?_
    (conv => whnf)
    exact ⟨⟨k + 1, by rw [hN1]; rfl, by omega, rfl⟩, by show xs.length - (k + 1) < xs.length - k; omega⟩
  · have ek : k = xs.length := by omega
    subst ek
    rw [hall]
    (conv => whnf)
    exact ⟨rfl, E1⟩

set_option maxHeartbeats 4000000 in
theorem spec_SizeByName (h : Heap) (s : List UInt8) (xs : List (List UInt8)) (hx : cutB 120 s = xs) (hl : xs.length ≤ 4) (hs : s.length ≤ 1048575) :
    HCalls dm Tryz.prog 74 [Tx s] h (fun r h' => r = I (sizeL xs) ∧ Ext h h') := by
  have hsn := fun k hk => sizeL_snoc xs (k := k) hk
  have hsm := fun k h1 h2 => sizeL_small xs (k := k) h1 h2
  have h0 : sizeL (xs.take 0) = 1 := by simp [sizeL]
  have hall : sizeL (xs.take xs.length) = sizeL xs := by rw [List.take_length]
  refine calls_of_hFun (m := 0) kd_ok mixed Tryz.func74 rfl (by kernel_rfl) rfl rfl (of_decide_eq_true rfl) ?_; unfold hFun; (conv => whnf)
  refine (show HCalls _ _ _ [Tx s, .s (.pl (.int .u8 (((120 : UInt8).toNat : Nat) : Int)))] _ _ from (spec_l2Cut _ s 120 hs).mono ?_)
  rintro r h1 ⟨q, rfl, E1, hrow⟩
  rw [hx] at hrow ⊢
  have S1 := txt_shows hrow
  have hml : (xs.map stc).length = xs.length := by simp
  generalize H0.sl q 0 xs.length = y at *
  (conv => whnf)
  refine HLoop.intro [5, 4] [9, 10, 11, 12, 13, 14, 15, 16, 6, 19, 20, 21, 22, 24, 23, 6, 26, 25, 6, 28, 27, 6, 30, 29, 6, 32, 31, 6, 34, 33, 35, 33, 6, 37, 36, 38, 36, 6, 40, 39, 6, 42, 41, 6, 44, 43, 6, 45, 46, 47, 4, 17, 18, 5] (by kernel_rfl) (by kernel_rfl) (fun vs h' => ∃ k : Nat, vs = [I k, I (sizeL (xs.take k))] ∧ k ≤ xs.length ∧ h' = h1) (fun vs _ => xs.length - natAt vs 0) ⟨0, by rw [h0]; rfl, by omega, rfl⟩ ?_
  rintro vs h' ⟨k, rfl, hk, rfl⟩
  (conv => whnf)
  refine ⟨rfl, Shows.len S1 ?_⟩
  rw [hml]
  (conv => whnf)
  refine HIf.dec (fun hlt => ?_) (fun hge => ?_)
  · have hkl : k < xs.length := by omega
    have hk4 : (k : Int) < 4 := by omega
    have ec := txt_cell xs hkl
    have hst := hsn k hkl
    have h3 := hsm (k + 1) (by omega) (by omega)
    generalize hN1 : sizeL (xs.take (k + 1)) = N1 at *
    generalize sizeL (xs.take k) = N0 at *
    generalize xs.getD k [] = l at *
    (conv => whnf)
    refine HIf.decT hlt ?_
    (conv => whnf)
    refine HIf.decT hlt ?_
    (conv => whnf)
    refine HIf.decT hk4 ?_
    (conv => whnf)
    refine ⟨rfl, Shows.idx S1 (by omega) (by omega) (fun p hp => ?_)⟩
    rw [ec] at hp
    (conv => whnf)
    refine ⟨rfl, hp.load ?_⟩
    (conv => whnf)
    rcases sizeT_cases l with rfl | rfl | rfl | rfl | rfl | rfl | rfl | rfl | rfl | rfl | rfl | rfl | ⟨n1, n2, n3, n4, n5, n6, n7, n8, n9, n10, n11, n12⟩
    iterate 12
      · (repeat (first | (refine HStr.eql ?_; conv => whnf) | (refine HIf.strT rfl ?_; conv => whnf) | (refine HIf.strF (by decide) ?_; conv => whnf)))
        refine HArith.to (e' := N1) (by rw [hst]; rfl) (by omega) (by omega) ?_
        (conv => whnf)
        refine HArith.fits (by omega) (by omega) ?_
        (conv => whnf)
        exact ⟨⟨k + 1, by rw [hN1]; rfl, by omega, rfl⟩, by show xs.length - (k + 1) < xs.length - k; omega⟩
    · have hv : sizeT l = 0 := by simp [sizeT, n1, n2, n3, n4, n5, n6, n7, n8, n9, n10, n11, n12]
      rw [hv] at hst
      (repeat (first | (refine HStr.eql ?_; conv => whnf) | (refine HIf.strF (tx_ne (by assumption)) ?_; conv => whnf)))
      refine HArith.to (e' := N1) (by rw [hst]) (by omega) (by omega) ?_
      (conv => whnf)
      refine HArith.fits (by omega) (by omega) ?_
      (conv => whnf)
      exact ⟨⟨k + 1, by rw [hN1]; rfl, by omega, rfl⟩, by show xs.length - (k + 1) < xs.length - k; omega⟩
  · have ek : k = xs.length := by omega
    subst ek
    rw [hall]
    (conv => whnf)
    refine HIf.decF hge ?_
    (conv => whnf)
    refine HIf.decF hge ?_
    (conv => whnf)
    (repeat (refine HIf.no ?_; conv => whnf))
    refine ⟨rfl, Shows.len S1 ?_⟩
    rw [hml]
    (conv => whnf)
    refine HIf.decF (by omega) ?_
    (conv => whnf)
    exact ⟨rfl, E1⟩

theorem impl_SizeOf (h : Heap) (x0 : H0) (a0 : List (List Int)) (hx0 : Rows h x0 a0) (s0 : a0.length ≤ 1048576 ∧ tot a0 ≤ 1048576) :
    HCalls false Tryz.prog 11 [.s x0] h (fun r h' => r = I (sizeN a0) ∧ Ext h h') := by
  have hon := sizeN_on (c := a0)
  have hoff := sizeN_off (c := a0)
  have hfp := fin_parts (c := a0)
  generalize sizeN a0 = V at *
  refine calls_of_hFun (m := 0) kd_ok mixed Tryz.func11 rfl (by kernel_rfl) rfl rfl (of_decide_eq_true rfl) ?_; unfold hFun; (conv => whnf)
  refine (impl_IsFinite _ _ a0 hx0 (by omega)).mono ?_
  rintro r h1 ⟨rfl, E1⟩
  (conv => whnf)
  cases hf : isFinite a0
  · rw [hoff hf]
    refine HIf.yes ?_
    (conv => whnf)
    exact ⟨rfl, E1⟩
  · have hC := (hfp hf).1
    have hic := (isCartan_iff a0).2 hC
    have hcut := nameOf_cut hic
    have hle := namesL_le hC
    have hnl := nameOf_le hC
    rw [hon hf]
    refine HIf.no ?_
    (conv => whnf)
    refine (impl_NameOf _ _ a0 (hx0.ext E1) hic).mono ?_
    rintro r h2 ⟨rfl, E2⟩
    (conv => whnf)
    refine (impl_SizeByName _ _ _ hcut hle (by omega)).mono ?_
    rintro r h3 ⟨rfl, E3⟩
    (conv => whnf)
    exact ⟨rfl, E1.trans (E2.trans E3)⟩

theorem spec_SizeOf (h : Heap) (x0 : H0) (a0 : List (List Int)) (hx0 : Rows h x0 a0) (s0 : a0.length ≤ 1048576 ∧ tot a0 ≤ 1048576) :
    HCalls dm Tryz.prog 9 [.s x0] h (fun r h' => r = I (sizeN a0) ∧ Ext h h') := by
  have hon := sizeN_on (c := a0)
  have hoff := sizeN_off (c := a0)
  have hfp := fin_parts (c := a0)
  generalize sizeN a0 = V at *
  refine calls_of_hFun (m := 0) kd_ok mixed Tryz.func9 rfl (by kernel_rfl) rfl rfl (of_decide_eq_true rfl) ?_; unfold hFun; (conv => whnf)
  refine (spec_IsFinite _ _ a0 hx0 (by omega)).mono ?_
  rintro r h1 ⟨rfl, E1⟩
  (conv => whnf)
  cases hf : isFinite a0
  · rw [hoff hf]
    refine HIf.yes ?_
    (conv => whnf)
    exact ⟨rfl, E1⟩
  · have hC := (hfp hf).1
    have hic := (isCartan_iff a0).2 hC
    have hcut := nameOf_cut hic
    have hle := namesL_le hC
    have hnl := nameOf_le hC
    rw [hon hf]
    refine HIf.no ?_
    (conv => whnf)
    refine (spec_NameOf _ _ a0 (hx0.ext E1) hic).mono ?_
    rintro r h2 ⟨rfl, E2⟩
    (conv => whnf)
    refine (spec_SizeByName _ _ _ hcut hle (by omega)).mono ?_
    rintro r h3 ⟨rfl, E3⟩
    (conv => whnf)
    exact ⟨rfl, E1.trans (E2.trans E3)⟩

end Go.Proofs.YtgliajcgcbnemaaGreatDoor.Hx
