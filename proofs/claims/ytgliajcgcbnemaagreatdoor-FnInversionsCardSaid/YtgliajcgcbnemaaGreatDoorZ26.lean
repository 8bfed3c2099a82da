/-
  A slice of slices of one's own, its parts anywhere but in some rows; what the laws of inversions draw.
  What the law of braid moves says, in plain words; lists of words compared.
  A long function walked in parts: between two parts only some slots are handed on, and what is said of them.
  From the model's readings of arguments to rows: a slice of slices of ints that came in.
  A row whose walk wants the shape of the world in which it begins: the number of a library's own variable.
-/
import Derived.Test.YtgliajcgcbnemaaGreatDoorZ25
import Derived.LaidMore
import Derived.OpenShut
import Derived.Stop.Joined
namespace Go.Proofs.YtgliajcgcbnemaaGreatDoor.Hx
open Go.RowKit
variable {dm : Bool}

/-- A slice of slices of one's own in row r, its parts anywhere but in rows of F. -/
def Pile (r : Nat) (F : Nat → Prop) (h : Heap) (z : H0) (L : List (List Int)) : Prop :=
  ∃ (xs t : List H0), z = .sl r 0 L.length ∧ h[r]? = some (.own (xs ++ t)) ∧ xs.length = L.length ∧ ∀ (i : Nat) (y : H0) (l : List Int), xs[i]? = some y → L[i]? = some l → IntsN F h y l
/-- A slice of slices, its parts anywhere but in rows of F. -/
def Parts (F : Nat → Prop) (h : Heap) (x : H0) (T : List (List Int)) : Prop :=
  ∃ ys : List H0, Shows h (.s x) ys ∧ ys.length = T.length ∧ ∀ (i : Nat) (y : H0) (l : List Int), ys[i]? = some y → T[i]? = some l → IntsN F h y l

theorem IntsN.keepG {F G F' : Nat → Prop} {h h' : Heap} {x : H0} {l : List Int} (H : IntsN F h x l) (k : KeepN G h h') (hg : ∀ q, q < h.length → G q → F q) (hf : ∀ q, q < h.length → F' q → F q) : IntsN F' h' x l := by
  have lt : ∀ r o n, x = .sl r o n → r < h.length := fun r o n e => by
    have := H.1
    rw [e] at this
    exact Shows.in_lt this
  exact ⟨Shows.keep H.1 (fun r o n e g => H.2 r o n e (hg r (lt r o n e) g)) k, fun r o n e g => H.2 r o n e (hf r (lt r o n e) g)⟩

theorem Pile.lt {r : Nat} {F : Nat → Prop} {h : Heap} {z : H0} {L : List (List Int)} (P : Pile r F h z L) : r < h.length := by
  obtain ⟨xs, t, _, hr, _⟩ := P
  exact get_lt hr
theorem Pile.keep {r : Nat} {F G F' : Nat → Prop} {h h' : Heap} {z : H0} {L : List (List Int)} (P : Pile r F h z L) (k : KeepN G h h') (hr : ¬ G r) (hg : ∀ q, q < h.length → G q → F q) (hf : ∀ q, q < h.length → F' q → F q) : Pile r F' h' z L := by
  have hl := P.lt
  obtain ⟨xs, t, e, hr2, hx, hi⟩ := P
  exact ⟨xs, t, e, by rw [k.2 r hl hr]; exact hr2, hx, fun i y l a b => (hi i y l a b).keepG k hg hf⟩
theorem Parts.keep {F G F' : Nat → Prop} {h h' : Heap} {x : H0} {T : List (List Int)} (P : Parts F h x T) (k : KeepN G h h') (hx : ∀ r o n, x = .sl r o n → ¬ G r) (hg : ∀ q, q < h.length → G q → F q) (hf : ∀ q, q < h.length → F' q → F q) : Parts F' h' x T := by
  obtain ⟨ys, h1, h2, h3⟩ := P
  exact ⟨ys, Shows.keep h1 hx k, h2, fun i y l a b => (h3 i y l a b).keepG k hg hf⟩
theorem Pile.rows {r : Nat} {F : Nat → Prop} {h : Heap} {z : H0} {L : List (List Int)} (P : Pile r F h z L) : Rows h z L := by
  obtain ⟨xs, t, rfl, hr, hx, hi⟩ := P
  refine ⟨xs, ?_, hx, fun i y l a b => (hi i y l a b).1⟩
  have := Shows.own (h := h) r 0 L.length (xs ++ t) hr (by rw [List.length_append]; omega)
  rw [List.drop_zero, ← hx, List.take_left] at this
  rw [← hx]
  exact this
theorem OwnM.pile {b e : Nat} {h : Heap} {z : H0} {L : List (List Int)} (O : OwnM b e h z L) : ∃ r, b ≤ r ∧ r < e ∧ Pile r (fun q => q = r ∨ q < b) h z L := by
  obtain ⟨r, ρ, g1, g2, g3, g4, m⟩ := O
  obtain ⟨cs, ho, hcl, hoc⟩ := m.outer
  refine ⟨r, g2, g3, cs.take L.length, cs.drop L.length, g1, by rw [List.take_append_drop]; exact ho, by rw [List.length_take]; omega, fun i y l a b => ?_⟩
  have hi : i < L.length := (List.getElem?_eq_some_iff.1 b).1
  rw [List.getElem?_take_of_lt hi, hoc i hi] at a
  have hl : L.getD i [] = l := by simp [List.getD, b]
  rw [← Option.some.inj a, ← hl]
  refine ⟨(m.inner' hi).ints, fun p o n e g => ?_⟩
  cases e
  have := m.ne i hi
  have := g4 i hi
  rcases g with g | g <;> omega
theorem Pile.push (h : Heap) (F : Nat → Prop) : Pile h.length F (h ++ [.own []]) (.sl h.length 0 0) [] := ⟨[], [], rfl, get_new _ _, rfl, fun i y l a _ => by simp at a⟩
theorem Parts.one {F : Nat → Prop} {h : Heap} {y : H0} {l : List Int} (H : IntsN F h y l) : Parts F (h ++ [.own [y]]) (.sl h.length 0 1) [l] := by
  refine ⟨[y], ?_, rfl, fun i z m a b => ?_⟩
  · have := Shows.own h.length 0 1 _ (get_new h (.own [y])) (by simp)
    simpa using this
  · cases i with
    | zero =>
      have e1 : y = z := by simpa using a
      have e2 : l = m := by simpa using b
      rw [← e1, ← e2]
      exact H.keepG (G := fun _ => False) (KeepN.ofExt (Ext.push h _)) (fun _ _ g => g.elim) (fun _ _ g => g)
    | succ i => simp at a

/-- A part of a slice of slices. -/
theorem Pile.part {r : Nat} {F : Nat → Prop} {h : Heap} {z : H0} {L : List (List Int)} (P : Pile r F h z L) {lo hi : Option HV} {K : HV → Prop} (a u : Nat) (hlo : lo = none ∧ a = 0 ∨ lo = some (I a)) (hhi : hi = none ∧ u = L.length ∨ hi = some (I u)) (h1 : a ≤ u) (h2 : u ≤ L.length)
    (hK : Parts F h (.sl r a (u - a)) ((L.take u).drop a) → K (.s (.sl r a (u - a)))) : HSlice h (.s z) lo hi K := by
  obtain ⟨xs, t, rfl, hr, hx, hp⟩ := P
  refine ⟨L.length, a, u, rfl, hlo.imp id fun e => ⟨_, e⟩, hhi.imp id fun e => ⟨_, e⟩, h1, Or.inl h2, ?_⟩
  show K (.s (.sl r (0 + a) (u - a)))
  rw [Nat.zero_add]
  refine hK ⟨(xs.take u).drop a, ?_, by simp [hx], fun i y l e1 e2 => ?_⟩
  · have := Shows.own (h := h) r a (u - a) (xs ++ t) hr (by rw [List.length_append]; omega)
    have e : ((xs ++ t).drop a).take (u - a) = (xs.take u).drop a := by
      rw [List.drop_take, List.drop_append_of_le_length (by omega), List.take_append_of_le_length (by rw [List.length_drop]; omega)]
    rw [e] at this
    exact this
  · rw [List.getElem?_drop, List.getElem?_take] at e1 e2
    split at e1
    · rename_i hlt
      rw [if_pos hlt] at e2
      exact hp _ y l e1 e2
    · cases e1

/-- The parts of a slice of slices, appended to one of one's own. -/
theorem HApp.pileN {r : Nat} {F : Nat → Prop} {h : Heap} {z x : H0} {L T : List (List Int)} {K : HV → Heap → Prop} (P : Pile r F h z L) (hF : F r) (X : Parts F h x T) (hl : L.length + T.length ≤ 2199023255552)
    (hK : ∀ h', KeepN (fun p => p = r) h h' → h'.length = h.length + 1 → Pile h.length (fun p => F p ∨ h.length ≤ p) h' (.sl h.length 0 (L ++ T).length) (L ++ T) → K (.s (.sl h.length 0 (L ++ T).length)) h') : HApp h (.s z) (.s x) K := by
  have hlt := P.lt
  obtain ⟨xs, t, rfl, hr, hx, hp⟩ := P
  obtain ⟨ys, h1, h2, h3⟩ := X
  have hone : ∀ c ∈ ys, c.one = true := fun c hc => by
    obtain ⟨i, hi, e⟩ := List.getElem_of_mem hc
    have := (h3 i c (T.getD i []) (by rw [List.getElem?_eq_getElem hi, e]) (by rw [List.getD, List.getElem?_eq_getElem (by omega)]; rfl)).1
    exact this.one
  refine ⟨ys, h1, hone, xs ++ t, rfl, hr, by rw [List.length_append]; omega, Or.inl ⟨by omega, ?_⟩⟩
  have e1 : (xs ++ t).take L.length = xs := by rw [← hx, List.take_left]
  have e2 : L.length + ys.length = (L ++ T).length := by rw [List.length_append, h2]
  rw [e1, e2]
  have hlen : (h.set r .gone ++ [Row.own (xs ++ ys)]).length = h.length + 1 := by simp
  have k : KeepN F h (h.set r .gone ++ [Row.own (xs ++ ys)]) := ⟨by omega, fun q hq hn => by
    rw [List.getElem?_append_left (by simpa using hq), List.getElem?_set_ne (fun e => hn (by rw [← e]; exact hF))]⟩
  have k1 : KeepN (fun p => p = r) h (h.set r .gone ++ [Row.own (xs ++ ys)]) := ⟨by omega, fun q hq hn => by
    rw [List.getElem?_append_left (by simpa using hq), List.getElem?_set_ne (fun e => hn e.symm)]⟩
  refine hK _ k1 hlen ⟨xs ++ ys, [], rfl, ?_, by rw [List.length_append, List.length_append, hx, h2], fun i y l a b => ?_⟩
  · have := get_new (h.set r .gone) (Row.own (xs ++ ys))
    rw [List.length_set] at this
    rw [List.append_nil]
    exact this
  · by_cases hi : i < xs.length
    · rw [List.getElem?_append_left hi] at a
      rw [List.getElem?_append_left (by omega)] at b
      exact (hp i y l a b).keepG k (fun _ _ g => g) (fun p hp g => g.elim id (fun g => by omega))
    · rw [List.getElem?_append_right (by omega)] at a
      rw [List.getElem?_append_right (by omega)] at b
      rw [← hx] at b
      exact (h3 _ y l a b).keepG k (fun _ _ g => g) (fun p hp g => g.elim id (fun g => by omega))
theorem HApp.pile {r : Nat} {F : Nat → Prop} {h : Heap} {z x : H0} {L T : List (List Int)} {K : HV → Heap → Prop} (P : Pile r F h z L) (hF : F r) (X : Parts F h x T) (hl : L.length + T.length ≤ 2199023255552)
    (hK : ∀ h', KeepN (fun p => p = r) h h' → h'.length = h.length + 1 → Pile h.length F h' (.sl h.length 0 (L ++ T).length) (L ++ T) → K (.s (.sl h.length 0 (L ++ T).length)) h') : HApp h (.s z) (.s x) K :=
  HApp.pileN P hF X hl fun h' k e P' => hK h' k e (P'.keep (KeepN.refl (fun _ => False) h') (fun g => g) (fun _ _ g => g.elim) (fun _ _ g => Or.inl g))

theorem inversions_row (c : List (List Int)) (w : List Int) : ∀ l ∈ inversions c w, l.length = c.length := by
  unfold inversions
  split
  · intro l hl
    exact rootsTo_len c _ _ l ((insR_perm _).mem_iff.1 hl)
  · intro l hl
    cases hl

theorem inversions_i64 (c : List (List Int)) (w : List Int) : I64s (inversions c w) := by
  intro v hv n hn
  cases h : isWord c w with
  | false =>
    rw [inversions_off h] at hv
    cases hv
  | true =>
    obtain ⟨P, hl, R⟩ := normF_red h
    obtain ⟨_, ht, _⟩ := (invL_inversions h).1.tame (word_cartan h).1 R.2.1 hl hv
    obtain ⟨k, hk, e⟩ := List.getElem_of_mem hn
    have := ht k
    simp only [List.getD, List.getElem?_eq_getElem hk, Option.getD_some, e] at this
    exact ⟨by omega, by omega⟩

/-- What is drawn: a list of roots. -/
structure RSet (S : List (List Int)) : Prop where
  len : S.length ≤ 40
  row : ∀ l ∈ S, l.length ≤ 5
  i64 : I64s S
theorem RSet.sz {S : List (List Int)} (h : RSet S) : S.length ≤ 1048576 ∧ tot S ≤ 1048576 := by
  have h1 := tot_le 5 S h.row
  have h2 := h.len
  omega

theorem RSet.snoc {S : List (List Int)} (h : RSet S) {w : List Int} (hs : S.length ≤ 31) (hw : w.length ≤ 5) (hb : ∀ n ∈ w, I64 n) : RSet (S ++ [w]) := by
  refine ⟨by rw [List.length_append, List.length_singleton]; omega, fun l hl => ?_, fun l hl => ?_⟩
  · rcases List.mem_append.1 hl with hl | hl
    · exact h.row l hl
    · rw [List.mem_singleton.1 hl]
      exact hw
  · rcases List.mem_append.1 hl with hl | hl
    · exact h.i64 l hl
    · rw [List.mem_singleton.1 hl]
      exact hb
theorem RSet.less {S T : List (List Int)} (h : RSet S) (hl : T.length ≤ S.length) (hm : ∀ l ∈ T, l ∈ S) : RSet T := ⟨by have := h.len; omega, fun l hl => h.row l (hm l hl), fun l hl => h.i64 l (hm l hl)⟩

/-- Where the drawing of a set stands after the first choice. -/
structure DFin (r : Nat) (h : Heap) (L : List (List Int)) (hk : Heap) (c x z : H0) (T : List (List Int)) : Prop where
  ext : Ext h hk
  cur : Cur r hk c
  pile : ∃ q, h.length ≤ q ∧ q ≠ r ∧ RowsN (fun p => p = r ∨ p = q) hk x L ∧ Pile q (fun p => p = r ∨ p = q) hk z T
  set : RSet T
  len : T.length ≤ 31


set_option maxHeartbeats 1000000 in
theorem spec_l12Set (h : Heap) (y : H0) (l : List Int) (hy : Bytes h y l) : HCalls dm Tryz.prog 103 [.s y] h (fun v h' => ∃ x L z T, v = .tup [x, z] ∧ Ext h h' ∧ Rows h' x L ∧ Rows h' z T ∧ Small L ∧ RSet T) := by
  refine calls_of_hFun (m := 0) kd_ok mixed Tryz.func103 rfl (by kernel_rfl) rfl rfl (of_decide_eq_true rfl) ?_; unfold hFun; (conv => whnf)
  refine (spec_l1New _ _ _ hy).mono ?_
  rintro v h1 ⟨c, r, rfl, E1, hr, C1⟩
  have r1 := C1.lt
  have n1 := E1.1
  (conv => whnf)
  refine (spec_l11Small _ _ _ (hy.ext E1)).mono ?_
  rintro v h2 ⟨x, L, z, w, rfl, E2, R2, I2, S, hw⟩
  have n2 := E2.1
  replace R2 : RowsN (fun p => p = r ∨ h2.length ≤ p) h2 x L := R2.more (fun p hp g => by omega)
  have C2 := C1.ext E2
  (conv => whnf)
  refine (spec_InversionsOf _ _ _ _ _ R2.rows I2.1 S.sz (by omega)).mono ?_
  rintro v h3 ⟨y3, rfl, E3, O3⟩
  have n3 := E3.1
  have R3 := R2.keep (G := fun p => p = r ∨ h2.length ≤ p) (KeepN.ofExt E3) (fun _ _ g => g)
  have C3 := C2.ext E3
  have h31 := (inversions_size L w).1
  have hrow := inversions_row L w
  have hi64 := inversions_i64 L w
  have hL5 := S.le
  generalize inversions L w = T at O3 h31 hrow hi64
  have Q3 : RSet T := ⟨by omega, fun l hl => by rw [hrow l hl]; exact hL5, hi64⟩
  obtain ⟨q, hq1, hq2, P3⟩ := O3.pile
  replace P3 : Pile q (fun p => p = r ∨ p = q ∨ h3.length ≤ p) h3 y3 T := P3.keep (KeepN.refl (fun _ => False) h3) (fun g => g) (fun _ _ g => g.elim) (fun p hp g => by omega)
  have E13 : Ext h h3 := (E1.trans E2).trans E3
  clear O3 hrow hi64 I2 C1 C2 R2
  have hT0 := Q3.len
  have n3 : h2.length ≤ h3.length := n3
  have fin : ∀ (hk : Heap) (z' : H0) (T' : List (List Int)) (qk : Nat), Ext h hk → Cur r hk c → RowsN (fun p => p = r ∨ h2.length ≤ p) hk x L → h2.length ≤ qk → Pile qk (fun p => p = r ∨ p = q ∨ h3.length ≤ p) hk z' T' → (qk = q ∨ h3.length ≤ qk) → RSet T' → T'.length ≤ 31 →
      DFin r h L hk c x z' T' := fun hk z' T' qk a b d e f g i j => ⟨a, b, ⟨qk, by omega, by omega, d.more (fun p hp g => by omega), f.keep (KeepN.refl (fun _ => False) hk) (fun g => g) (fun _ _ g => g.elim) (fun p hp g => by omega)⟩, i, j⟩
  (conv => whnf)
  refine ⟨rfl, P3.rows.len ?_⟩
  (conv => whnf)
  by_cases hpos : (T.length : Int) > 0
  · (repeat (refine HIf.decT hpos ?_; (conv => whnf)))
    refine (spec_l1Once _ r _ 3 C3 (by omega)).mono ?_
    rintro v h4 ⟨b, rfl, K4, C4⟩
    have n4 := K4.1
    have E4 : Ext h h4 := KeepN.ext K4 (fun p e => by omega) E13
    have R4 := R3.keep (G := fun p => p = r ∨ h2.length ≤ p) (KeepN.weaken K4 (fun p e => Or.inl e)) (fun _ _ g => g)
    have P4 := P3.keep (F' := fun p => p = r ∨ p = q ∨ h3.length ≤ p) K4 (by omega) (fun _ _ g => Or.inl g) (fun _ _ g => g)
    clear P3 R3 C3
    cases b with
    | true =>
      (conv => whnf)
      (repeat (first | (refine HIf.decT hpos ?_; (conv => whnf)) | (refine HIf.yes ?_; (conv => whnf))))
      refine ⟨rfl, P4.rows.len ?_⟩
      (conv => whnf)
      refine (spec_l1Below _ r _ _ C4 (by omega)).mono ?_
      rintro v h5 ⟨m, rfl, m0, m1, _, K5, C5⟩
      have m1 := m1 (by omega)
      obtain ⟨m, rfl⟩ : ∃ k : Nat, m = k := ⟨m.toNat, by omega⟩
      have n5 := K5.1
      have E5 : Ext h h5 := KeepN.ext K5 (fun p e => by omega) E4
      have R5 := R4.keep (G := fun p => p = r ∨ h2.length ≤ p) (KeepN.weaken K5 (fun p e => Or.inl e)) (fun _ _ g => g)
      have P5 := P4.keep (F' := fun p => p = r ∨ p = q ∨ h3.length ≤ p) K5 (by omega) (fun _ _ g => Or.inl g) (fun _ _ g => g)
      clear P4 R4 C4
      (conv => whnf)
      refine Or.inr (Or.inr (Or.inl (Exists.intro 4 (Exists.intro [1, 2, 3, 5, 6, 7, 8] (Exists.intro [0, 4, 9, 10] (And.intro (show heldOk _ _ _ _ = true by kernel_rfl) ?_)))))); (conv => whnf)
      refine ⟨rfl, P5.part 0 m (Or.inl ⟨rfl, rfl⟩) (Or.inr rfl) (by omega) (by omega) (fun A => ?_)⟩
      (conv => whnf)
      refine HArith.to (e' := ((m + 1 : Nat) : Int)) (by omega) (by omega) (by omega) ?_
      (conv => whnf)
      refine ⟨rfl, P5.part (m + 1) T.length (Or.inr rfl) (Or.inl ⟨rfl, rfl⟩) (by omega) (by omega) (fun D => ?_)⟩
      rw [List.drop_zero] at A
      rw [List.take_length] at D
      (conv => whnf)
      refine HLit.empty ?_
      have E6 := Ext.push h5 [Row.own []]
      have P6 := Pile.push h5 (fun p => p = r ∨ p = q ∨ h3.length ≤ p)
      have A6 := A.keep (F' := fun p => p = r ∨ p = q ∨ h3.length ≤ p) (KeepN.ofExt (F := fun _ => False) E6) (fun _ _ _ _ g => g) (fun _ _ g => g.elim) (fun _ _ g => g)
      have D6 := D.keep (F' := fun p => p = r ∨ p = q ∨ h3.length ≤ p) (KeepN.ofExt (F := fun _ => False) E6) (fun _ _ _ _ g => g) (fun _ _ g => g.elim) (fun _ _ g => g)
      have R6 := R5.keep (G := fun p => p = r ∨ h2.length ≤ p) (KeepN.ofExt E6) (fun _ _ g => g)
      have C6 := C5.ext E6
      have X6 := E5.trans E6
      have e6 : (h5 ++ [Row.own []]).length = h5.length + 1 := by simp
      generalize h5 ++ [Row.own []] = h6 at *
      have hql := P5.lt
      clear A D P5 R5 C5
      (conv => whnf)
      refine ⟨rfl, rfl, HApp.pile P6 (by omega) A6 (by rw [List.length_nil, List.length_take]; omega) (fun h7 K7 n7 P7 => ?_)⟩
      rw [List.nil_append] at P7 ⊢
      have D7 := D6.keep (F' := fun p => p = r ∨ p = q ∨ h3.length ≤ p) K7 (fun _ _ _ e g => by cases e; omega) (fun _ _ g => by omega) (fun _ _ g => g)
      have R7 := R6.keep (G := fun p => p = r ∨ h2.length ≤ p) (KeepN.weaken (F := fun p => p = h5.length) K7 (fun p e => Or.inr (by omega))) (fun _ _ g => g)
      have C7 := C6.keep (F := fun p => p = h5.length) K7 (fun p e => by omega)
      have X7 : Ext h h7 := KeepN.ext (F := fun p => p = h5.length) K7 (fun p e => by omega) X6
      clear A6 P6 D6 R6 C6 X6
      generalize H0.sl h6.length 0 (T.take m).length = z7 at *
      (conv => whnf)
      refine ⟨rfl, rfl, HApp.pile P7 (by omega) D7 (by rw [List.length_drop, List.length_take]; omega) (fun h8 K8 n8 P8 => ?_)⟩
      have R8 := R7.keep (G := fun p => p = r ∨ h2.length ≤ p) (KeepN.weaken (F := fun p => p = h6.length) K8 (fun p e => Or.inr (by omega))) (fun _ _ g => g)
      have C8 := C7.keep (F := fun p => p = h6.length) K8 (fun p e => by omega)
      have X8 : Ext h h8 := KeepN.ext (F := fun p => p = h6.length) K8 (fun p e => by omega) X7
      have Q8 : RSet (T.take m ++ T.drop (m + 1)) := Q3.less (by rw [List.length_append, List.length_take, List.length_drop]; omega) (fun l hl => by
        rcases List.mem_append.1 hl with hl | hl
        · exact List.mem_of_mem_take hl
        · exact List.mem_of_mem_drop hl)
      have DD := fin h8 _ _ _ X8 C8 R8 (by omega) P8 (by omega) Q8 (by rw [List.length_append, List.length_take, List.length_drop]; omega)
      generalize H0.sl h7.length 0 (T.take m ++ T.drop (m + 1)).length = z' at *
      generalize T.take m ++ T.drop (m + 1) = T' at *
      clear P8 R8 C8 X8 K8 P7 D7 R7 C7 X7 K7
      obtain ⟨E, C, ⟨qk, q1, q2, R, P⟩, Q, hl⟩ := DD
      (conv => whnf)
      refine (spec_l1Once _ r _ 6 C (by omega)).mono ?_
      rintro v ha ⟨ba, rfl, Ka, Ca⟩
      have na := Ka.1
      have Ea : Ext h ha := KeepN.ext Ka (fun p e => by omega) E
      have Ra := R.keep (G := fun p => p = r ∨ p = qk) (KeepN.weaken Ka (fun p e => Or.inl e)) (fun _ _ g => g)
      have Pa := P.keep (F' := fun p => p = r ∨ p = qk) Ka q2 (fun _ _ g => Or.inl g) (fun _ _ g => g)
      have hqk := P.lt
      clear R P C
      cases ba with
      | false =>
        (conv => whnf)
        refine HIf.no ?_
        (conv => whnf)
        exact ⟨_, _, _, _, rfl, Ea, Ra.rows, Pa.rows, S, Q⟩
      | true =>
        (conv => whnf)
        refine HIf.yes ?_
        (conv => whnf)
        refine (spec_l6Weight _ r _ _ L 2 Ca (Ra.more (fun p hp g => Or.inl g)) S.sz.1 (by omega)).mono ?_
        rintro v hc ⟨zc, wc, qc, rfl, Kc, Cc, hqc, Oc, hwc, hbc⟩
        have nc := Kc.1
        have Ec : Ext h hc := KeepN.ext Kc (fun p e => by omega) Ea
        have Rc := Ra.keep (G := fun p => p = r ∨ p = qk) (KeepN.weaken Kc (fun p e => Or.inl e)) (fun _ _ g => g)
        have Pc := Pa.keep (F' := fun p => p = r ∨ p = qk) Kc q2 (fun _ _ g => Or.inl g) (fun _ _ g => g)
        (conv => whnf)
        refine HLit.row (y := zc) Oc.ints.one ?_
        have Ed := Ext.push hc [Row.own [zc]]
        have Nd : IntsN (fun p => p = qk) hc zc wc := ⟨Oc.ints, fun p o n e g => by
          obtain ⟨t, e2, _⟩ := Oc
          rw [e2] at e
          cases e
          omega⟩
        have Td := Parts.one Nd
        have Pd := Pc.keep (F' := fun p => p = qk) (KeepN.ofExt (F := fun _ => False) Ed) (fun g => g) (fun _ _ g => g.elim) (fun _ _ g => Or.inr g)
        have Rd := Rc.keep (G := fun p => p = r ∨ p = qk) (KeepN.ofExt Ed) (fun _ _ g => g)
        have Xd := Ec.trans Ed
        (conv => whnf)
        refine ⟨rfl, rfl, HApp.pile Pd rfl Td (by rw [List.length_singleton]; omega) (fun he Ke ne Pe => ?_)⟩
        have Xe : Ext h he := KeepN.ext (F := fun p => p = qk) Ke (fun p e => by omega) Xd
        have Re := (Rd.keep (G := fun p => p = r ∨ p = qk) (KeepN.weaken (F := fun p => p = qk) Ke (fun p e => Or.inr e)) (fun _ _ g => g)).rows
        have Qe := Q.snoc hl (by rw [hwc]; exact S.le) (fun n hn => by have := hbc n hn; exact ⟨by omega, by omega⟩)
        (conv => whnf)
        exact ⟨_, _, _, _, rfl, Xe, Re, Pe.rows, S, Qe⟩
    | false =>
      have DD := fin h4 _ _ _ E4 C4 R4 (by omega) P4 (by omega) Q3 h31
      clear P4 R4
      (conv => whnf)
      (repeat (first | (refine HIf.decT hpos ?_; (conv => whnf)) | (refine HIf.no ?_; (conv => whnf))))
      obtain ⟨E, C, ⟨qk, q1, q2, R, P⟩, Q, hl⟩ := DD
      (conv => whnf)
      refine (spec_l1Once _ r _ 6 C (by omega)).mono ?_
      rintro v ha ⟨ba, rfl, Ka, Ca⟩
      have na := Ka.1
      have Ea : Ext h ha := KeepN.ext Ka (fun p e => by omega) E
      have Ra := R.keep (G := fun p => p = r ∨ p = qk) (KeepN.weaken Ka (fun p e => Or.inl e)) (fun _ _ g => g)
      have Pa := P.keep (F' := fun p => p = r ∨ p = qk) Ka q2 (fun _ _ g => Or.inl g) (fun _ _ g => g)
      have hqk := P.lt
      clear R P C
      cases ba with
      | false =>
        (conv => whnf)
        refine HIf.no ?_
        (conv => whnf)
        exact ⟨_, _, _, _, rfl, Ea, Ra.rows, Pa.rows, S, Q⟩
      | true =>
        (conv => whnf)
        refine HIf.yes ?_
        (conv => whnf)
        refine (spec_l6Weight _ r _ _ L 2 Ca (Ra.more (fun p hp g => Or.inl g)) S.sz.1 (by omega)).mono ?_
        rintro v hc ⟨zc, wc, qc, rfl, Kc, Cc, hqc, Oc, hwc, hbc⟩
        have nc := Kc.1
        have Ec : Ext h hc := KeepN.ext Kc (fun p e => by omega) Ea
        have Rc := Ra.keep (G := fun p => p = r ∨ p = qk) (KeepN.weaken Kc (fun p e => Or.inl e)) (fun _ _ g => g)
        have Pc := Pa.keep (F' := fun p => p = r ∨ p = qk) Kc q2 (fun _ _ g => Or.inl g) (fun _ _ g => g)
        (conv => whnf)
        refine HLit.row (y := zc) Oc.ints.one ?_
        have Ed := Ext.push hc [Row.own [zc]]
        have Nd : IntsN (fun p => p = qk) hc zc wc := ⟨Oc.ints, fun p o n e g => by
          obtain ⟨t, e2, _⟩ := Oc
          rw [e2] at e
          cases e
          omega⟩
        have Td := Parts.one Nd
        have Pd := Pc.keep (F' := fun p => p = qk) (KeepN.ofExt (F := fun _ => False) Ed) (fun g => g) (fun _ _ g => g.elim) (fun _ _ g => Or.inr g)
        have Rd := Rc.keep (G := fun p => p = r ∨ p = qk) (KeepN.ofExt Ed) (fun _ _ g => g)
        have Xd := Ec.trans Ed
        (conv => whnf)
        refine ⟨rfl, rfl, HApp.pile Pd rfl Td (by rw [List.length_singleton]; omega) (fun he Ke ne Pe => ?_)⟩
        have Xe : Ext h he := KeepN.ext (F := fun p => p = qk) Ke (fun p e => by omega) Xd
        have Re := (Rd.keep (G := fun p => p = r ∨ p = qk) (KeepN.weaken (F := fun p => p = qk) Ke (fun p e => Or.inr e)) (fun _ _ g => g)).rows
        have Qe := Q.snoc hl (by rw [hwc]; exact S.le) (fun n hn => by have := hbc n hn; exact ⟨by omega, by omega⟩)
        (conv => whnf)
        exact ⟨_, _, _, _, rfl, Xe, Re, Pe.rows, S, Qe⟩
  · have DD := fin h3 _ _ _ E13 C3 R3 (by omega) P3 (by omega) Q3 h31
    clear P3 R3
    (repeat (first | (refine HIf.decF hpos ?_; (conv => whnf)) | (refine HIf.no ?_; (conv => whnf))))
    obtain ⟨E, C, ⟨qk, q1, q2, R, P⟩, Q, hl⟩ := DD
    (conv => whnf)
    refine (spec_l1Once _ r _ 6 C (by omega)).mono ?_
    rintro v ha ⟨ba, rfl, Ka, Ca⟩
    have na := Ka.1
    have Ea : Ext h ha := KeepN.ext Ka (fun p e => by omega) E
    have Ra := R.keep (G := fun p => p = r ∨ p = qk) (KeepN.weaken Ka (fun p e => Or.inl e)) (fun _ _ g => g)
    have Pa := P.keep (F' := fun p => p = r ∨ p = qk) Ka q2 (fun _ _ g => Or.inl g) (fun _ _ g => g)
    have hqk := P.lt
    clear R P C
    cases ba with
    | false =>
      (conv => whnf)
      refine HIf.no ?_
      (conv => whnf)
      exact ⟨_, _, _, _, rfl, Ea, Ra.rows, Pa.rows, S, Q⟩
    | true =>
      (conv => whnf)
      refine HIf.yes ?_
      (conv => whnf)
      refine (spec_l6Weight _ r _ _ L 2 Ca (Ra.more (fun p hp g => Or.inl g)) S.sz.1 (by omega)).mono ?_
      rintro v hc ⟨zc, wc, qc, rfl, Kc, Cc, hqc, Oc, hwc, hbc⟩
      have nc := Kc.1
      have Ec : Ext h hc := KeepN.ext Kc (fun p e => by omega) Ea
      have Rc := Ra.keep (G := fun p => p = r ∨ p = qk) (KeepN.weaken Kc (fun p e => Or.inl e)) (fun _ _ g => g)
      have Pc := Pa.keep (F' := fun p => p = r ∨ p = qk) Kc q2 (fun _ _ g => Or.inl g) (fun _ _ g => g)
      (conv => whnf)
      refine HLit.row (y := zc) Oc.ints.one ?_
      have Ed := Ext.push hc [Row.own [zc]]
      have Nd : IntsN (fun p => p = qk) hc zc wc := ⟨Oc.ints, fun p o n e g => by
        obtain ⟨t, e2, _⟩ := Oc
        rw [e2] at e
        cases e
        omega⟩
      have Td := Parts.one Nd
      have Pd := Pc.keep (F' := fun p => p = qk) (KeepN.ofExt (F := fun _ => False) Ed) (fun g => g) (fun _ _ g => g.elim) (fun _ _ g => Or.inr g)
      have Rd := Rc.keep (G := fun p => p = r ∨ p = qk) (KeepN.ofExt Ed) (fun _ _ g => g)
      have Xd := Ec.trans Ed
      (conv => whnf)
      refine ⟨rfl, rfl, HApp.pile Pd rfl Td (by rw [List.length_singleton]; omega) (fun he Ke ne Pe => ?_)⟩
      have Xe : Ext h he := KeepN.ext (F := fun p => p = qk) Ke (fun p e => by omega) Xd
      have Re := (Rd.keep (G := fun p => p = r ∨ p = qk) (KeepN.weaken (F := fun p => p = qk) Ke (fun p e => Or.inr e)) (fun _ _ g => g)).rows
      have Qe := Q.snoc hl (by rw [hwc]; exact S.le) (fun n hn => by have := hbc n hn; exact ⟨by omega, by omega⟩)
      (conv => whnf)
      exact ⟨_, _, _, _, rfl, Xe, Re, Pe.rows, S, Qe⟩

end Go.Proofs.YtgliajcgcbnemaaGreatDoor.Hx

namespace Go.Proofs.YtgliajcgcbnemaaGreatDoor.Hx
open Go.RowKit
variable {dm : Bool}

theorem laws_sameWords (h : Heap) (x y : H0) (L M : List (List Int)) (hx : Rows h x L) (hy : Rows h y M) (hL : L = M) (hs : L.length ≤ 1048576 ∧ tot L ≤ 1048576) : HCalls dm Tryz.prog 25 [.s x, .s y] h (fun r h' => r = B true ∧ h' = h) := by
  subst hL
  refine calls_of_hFun (m := 0) kd_ok mixed Tryz.func25 rfl (by kernel_rfl) rfl rfl (of_decide_eq_true rfl) ?_; unfold hFun; (conv => whnf)
  refine ⟨rfl, hx.len ?_⟩
  (conv => whnf)
  refine ⟨rfl, hy.len ?_⟩
  (conv => whnf)
  refine HIf.bneF rfl ?_
  (conv => whnf)
  refine HLoop.intro [5] [11, 12, 13, 14, 17, 18, 19, 20, 21, 22, 23, 24, 25, 26, 4, 15, 16, 5] (by kernel_rfl) (by kernel_rfl) (fun vs h' => ∃ i : Nat, vs = [I i] ∧ h' = h ∧ i ≤ L.length) (fun vs _ => L.length - natAt vs 0) ⟨0, rfl, rfl, by omega⟩ ?_
  rintro vs h' ⟨i, rfl, hh, hi⟩
  subst h'
  (conv => whnf)
  refine ⟨rfl, hx.len ?_⟩
  (conv => whnf)
  refine HIf.dec (fun hlt => ?_) (fun hge => ?_)
  · have hle := len_le_tot (L := L) (i := i) (by omega)
    (conv => whnf)
    refine Or.inl (And.intro (show Region.lexB _ _ = true by kernel_rfl) ?_); (conv => whnf)
    refine ⟨rfl, Rows.idxN hx (by omega) (fun p z hp hz => ?_)⟩
    (conv => whnf)
    refine ⟨rfl, hp.load ?_⟩
    (conv => whnf)
    refine ⟨rfl, Rows.idxN hy (by omega) (fun p2 z2 hp2 hz2 => ?_)⟩
    (conv => whnf)
    refine ⟨rfl, hp2.load ?_⟩
    (conv => whnf)
    refine HCallQ.of (.bool (decide (L.getD i [] = L.getD i []))) (laws_sameInts _ _ _ _ _ hz.frz hz2.frz (by omega)) (fun x h' r => r.1) ?_
    rw [decide_eq_true rfl]
    (conv => whnf)
    refine HIf.no ?_
    (conv => whnf)
    refine HArith.fits (by omega) (by omega) ?_
    (conv => whnf)
    exact ⟨⟨i + 1, rfl, rfl, by omega⟩, by show L.length - (i + 1) < L.length - i; omega⟩
  · (conv => whnf)
    exact ⟨rfl, rfl⟩

end Go.Proofs.YtgliajcgcbnemaaGreatDoor.Hx

namespace Go.Proofs.YtgliajcgcbnemaaGreatDoor.Hx
open Go.RowKit
variable {dm : Bool}

section
variable {P : Program} {kd : TypeId → Kd} {n m : Nat}

/-- The first k parts of a row of parts; K speaks of what they leave. -/
def hcut (dm : Bool) (P : Program) (kd : TypeId → Kd) (n m : Nat) (k : Nat) : Code → (Ex → Fr → Heap → Prop) → (Fr → Heap → Prop) → Fr → Heap → Prop :=
  Nat.rec (motive := fun _ => Code → (Ex → Fr → Heap → Prop) → (Fr → Heap → Prop) → Fr → Heap → Prop) (fun _ _ K fr h => K fr h) (fun _ ih c Q K fr h => match c with
    | .seq a b => hwp dm P kd n m a (fun e fr' h' => match e with | .normal => ih b Q K fr' h' | e => Q e fr' h') fr h
    | _ => False) k

/-- The rest. -/
noncomputable def chop (k : Nat) : Code → Code :=
  Nat.rec (motive := fun _ => Code → Code) (fun c => c) (fun _ ih c => match c with
    | .seq _ b => ih b
    | c => c) k

/-- Parts: so many parts, the slots handed on, and what is said of them. -/
def hparts (dm : Bool) (P : Program) (kd : TypeId → Kd) (n m : Nat) (l : List (Nat × List Nat × (List HV → Heap → Prop))) : Code → (Ex → Fr → Heap → Prop) → Fr → Heap → Prop :=
  List.rec (motive := fun _ => Code → (Ex → Fr → Heap → Prop) → Fr → Heap → Prop) (fun c Q fr h => hwp dm P kd n m c Q fr h) (fun x _ ih c Q fr h =>
    hcut dm P kd n m x.1 c Q (fun fr' h' => x.2.2 (x.2.1.map fr') h') fr h ∧ ∀ vs h', x.2.2 vs h' → ih (chop x.1 c) Q (place (fun _ => .dead) [] x.2.1 vs) h') l

theorem hcut_sound (E : ∀ t, (kd t).ok P t) (hm : P.follows .mixedOrders = true) : ∀ (k : Nat) (c : Code) {Qh : Ex → Fr → Heap → Prop} {K : Fr → Heap → Prop} {fr : Fr} {a : Act} {h : Heap} {φ : Plan} {w : World} {B0 : Nat}, Rep B0 φ h w → FrRep φ n fr a → hcut dm P kd n m k c Qh K fr h →
    ∀ {Q : Exit → Act → World → Prop}, (∀ e fr' a' h' φ' w', Qh e fr' h' → Sub φ φ' → Rep B0 φ' h' w' → FrRep φ' n fr' a' → Lat dm B0 w w' → Q e.toExit a' w') →
    (∀ fr' a' h' φ' w', K fr' h' → Sub φ φ' → Rep B0 φ' h' w' → FrRep φ' n fr' a' → Lat dm B0 w w' → (chop k c).wp P Q a' w') → c.wp P Q a w
  | 0, c, Qh, K, fr, a, h, φ, w, B0, R, F, H, Q, _, hK => hK fr a h φ w H (Sub.refl φ) R F (Lat.refl B0 w)
  | k + 1, c, Qh, K, fr, a, h, φ, w, B0, R, F, H, Q, hQ, hK => by
    cases c with
    | seq x y =>
      refine wp_seq (hwp_sound E hm x R F H (fun e fr' a' h' φ' w' q s r f b u => ?_))
      cases e with
      | normal => exact hcut_sound E hm k y r f q (fun e2 fr2 a2 h2 φ2 w2 q2 s2 r2 f2 b2 => hQ e2 fr2 a2 h2 φ2 w2 q2 (s.trans s2) r2 f2 (b.trans b2)) (fun fr2 a2 h2 φ2 w2 q2 s2 r2 f2 b2 => hK fr2 a2 h2 φ2 w2 q2 (s.trans s2) r2 f2 (b.trans b2))
      | exit id => exact hQ (.exit id) fr' a' h' φ' w' q s r f b
      | ret => exact hQ .ret fr' a' h' φ' w' q s r f b
    | _ => exact H.elim

theorem only_rep {φ : Plan} {fr' : Fr} {a : Act} (F : FrRep φ n fr' a) (l : List Nat) : FrRep φ n (place (fun _ => .dead) [] l (l.map fr')) a := by
  have key : ∀ (l : List Nat) (t : Nat), place (fun _ => .dead) [] l (l.map fr') t = .dead ∨ place (fun _ => .dead) [] l (l.map fr') t = fr' t := by
    intro l
    induction l with
    | nil => intro t; exact Or.inl rfl
    | cons x l ih =>
      intro t
      simp only [place_cons, List.map_cons]
      by_cases ht : t = x
      · subst ht
        simp
      · simp only [beq_ne ht, cond_false]
        exact ih t
  refine ⟨F.size, fun t ht => ?_, fun t ht => ?_, F.defers⟩
  · rcases key l t with e | e
    · rw [e]; trivial
    · rw [e]; exact F.has t ht
  · rcases key l t with e | e
    · exact e
    · rw [e]; exact F.out t ht

theorem hparts_sound (E : ∀ t, (kd t).ok P t) (hm : P.follows .mixedOrders = true) : ∀ (l : List (Nat × List Nat × (List HV → Heap → Prop))) (c : Code) {Qh : Ex → Fr → Heap → Prop} {fr : Fr} {a : Act} {h : Heap} {φ : Plan} {w : World} {B0 : Nat}, Rep B0 φ h w → FrRep φ n fr a → hparts dm P kd n m l c Qh fr h →
    ∀ {Q : Exit → Act → World → Prop}, (∀ e fr' a' h' φ' w', Qh e fr' h' → Sub φ φ' → Rep B0 φ' h' w' → FrRep φ' n fr' a' → Lat dm B0 w w' → Q e.toExit a' w') → c.wp P Q a w
  | [], c, Qh, fr, a, h, φ, w, B0, R, F, H, Q, hQ => hwp_sound E hm c R F H (fun e fr' a' h' φ' w' q s r f b _ => hQ e fr' a' h' φ' w' q s r f b)
  | x :: rest, c, Qh, fr, a, h, φ, w, B0, R, F, H, Q, hQ =>
    hcut_sound E hm x.1 c R F H.1 hQ (fun fr' a' h' φ' w' q s r f b =>
      hparts_sound E hm rest (chop x.1 c) r (only_rep f x.2.1) (H.2 _ _ q) (fun e2 fr2 a2 h2 φ2 w2 q2 s2 r2 f2 b2 => hQ e2 fr2 a2 h2 φ2 w2 q2 (s.trans s2) r2 f2 (b.trans b2)))

def hFunS (dm : Bool) (P : Program) (kd : TypeId → Kd) (n m : Nat) (rs : List ResultVar) (c : Code) (cuts : List (Nat × List Nat × (List HV → Heap → Prop))) (args : List HV) (h : Heap) (R : HV → Heap → Prop) : Prop :=
  hparts dm P kd n m cuts c (fun e fr h' => match e with
    | .exit _ => False
    | _ => hRet rs fr fun x => R x h') (frameOf args) h

theorem calls_of_hSeg (cuts : List (Nat × List Nat × (List HV → Heap → Prop))) (E : ∀ t, (kd t).ok P t) (hm : P.follows .mixedOrders = true) {k : FuncId} {fn : Func} {c : Code} (hf : P.funcs[k]? = some fn) (hb : fn.body = some c) (hname : (fn.name == "runtime.NumGoroutine") = false)
    (hn : fn.ntmps = n) {rs : List ResultVar} (hr : fn.results.toList = rs) {args : List HV} (hargs : args.length ≤ n) {h : Heap} {R : HV → Heap → Prop} (H : hFunS dm P kd n m rs c cuts args h R) : HCalls dm P k args h R := by
  refine ⟨fun as1 w => ?_, fun B0 φ w vargs r ha => ?_⟩
  · have hbn : fn.body.isNone = false := by simp [hb]
    simp only [callFunc, Sem.run_bind, run_program, Result.andThen_ok, hf, hname, hbn, Bool.false_eq_true, if_false, Sem.run_pure]
  · have hlen := ha.length
    have hvl : vargs.size = args.length := by simpa using hlen.symm
    refine calls_of_wp hf hb (hparts_sound (n := n) (m := m) E hm cuts c r (φ := φ) (fr := frameOf args) ?_ H (fun e fr' a' h' φ' w' q s r' f b => ?_))
    · refine ⟨by simp [hn, hvl]; omega, fun t ht => ?_, fun t ht => ?_, rfl⟩
      · rw [frameOf_get]
        by_cases htl : t < args.length
        · obtain ⟨v, e1, e2⟩ := ha.get t args[t] (List.getElem?_eq_getElem htl)
          have hv : vargs[t]? = some v := by simpa using e1
          have : (vargs ++ Array.replicate (fn.ntmps - vargs.size) undef).getD t undef = v := by
            rw [Array.getD_eq_getD_getElem?, Array.getElem?_append_left (by omega), hv]
            rfl
          show repV φ _ _
          rw [this]
          have h2 : args.getD t .dead = args[t] := by simp [List.getD, htl]
          rw [h2]
          exact e2
        · have h2 : args.getD t .dead = .dead := by simp [List.getD, Nat.le_of_not_lt htl]
          rw [h2]
          trivial
      · rw [frameOf_get]
        simp [List.getD, show args.length ≤ t by omega]
    · have fin : ∀ (hh : hRet rs fr' fun x => R x h'), a'.defers = [] ∧ ∃ v, (results fn a'.tmps).run P w' = .ok v w' ∧ ∃ v' x h'' φ'', Ending.returned v = .returned v' ∧ R x h'' ∧ Sub φ φ'' ∧ Rep B0 φ'' h'' w' ∧ repV φ'' x v' ∧ Lat dm B0 w w' := by
        intro hh
        obtain ⟨v, x, e1, e2, e3⟩ := hRet_sound (P := P) hh f hr w'
        exact ⟨f.defers, v, e1, v, x, h', φ', rfl, e3, s, r', e2, b⟩
      cases e with
      | normal => exact fin q
      | ret => exact fin q
      | exit j => exact q.elim

end

theorem HIf.same {b : Bool} {A C : Prop} (h : A) : HIf (b == b) A C := HIf.isT (by simp) h
theorem HIf.nsame {b : Bool} {A C : Prop} (h : C) : HIf (!(b == b)) A C := HIf.isF (by simp) h

end Go.Proofs.YtgliajcgcbnemaaGreatDoor.Hx

namespace Go.Proofs.YtgliajcgcbnemaaGreatDoor.Hx
open Go.RowKit Go.ChangeShapes Go.WideShapes Go.ChangeAt

def Wide (l : List Int) : Prop := ∀ n ∈ l, -9223372036854775808 ≤ n ∧ n ≤ 9223372036854775807

def Sizes (L : List (List Int)) : Prop := L.length ≤ 9223372036854775807 ∧ ∀ i, (L.getD i []).length ≤ 9223372036854775807

end Go.Proofs.YtgliajcgcbnemaaGreatDoor.Hx

namespace Go.Proofs.YtgliajcgcbnemaaGreatDoor.Hx
open Go.ChangeShapes Go.WideShapes Go.ChangeAt Go.RowKit

theorem row_shaped {H : Type} {enc : TypeId × Value → H} {C : Checked} {os : Os} {f : FuncId} {fn : Func} {s : ChangeSpec} {l : List (String × DataW Unit)} (own : ownKnob C.prog.godebug = none) (started : os.Started)
    (noInit : C.prog.inits.idxOf? f = none) (hfn : C.prog.funcs[f]? = some fn)
    (wit : ∃ (w : World) (tape : Tape) (i : Input), w.os = os ∧ (w.forCall tape i).Shaped C.prog ∧ i.vars = [] ∧ Input.okWide C.prog (w.forCall tape i) .any w.heap.size f i ∧
      ((s.pre enc C.prog fn [] false (w.forCall tape i).memory i.args ∧ laidMetH C.prog l (w.forCall tape i).memory) ∧ sizedMet enc C.prog fn (OpenSpec.ofChange s) false (w.forCall tape i).memory i.args) ∧ Assume.holds {} C.prog (lone (Frame.enter C.prog f i.args .normal) [] (w.forCall tape i)))
    (walk : ∀ (W : World) (base : Nat) (args : Array Value) (ds gs : List (DataW H)) (before : List MemPlace), (∀ (j : Nat) t v, fn.params[j]? = some t → args[j]? = some v → Value.okWide C.prog W .any base t v) →
      DataW.Whole enc C.prog fn.params.toList s.vars false W args.toList ds gs before → laidMetH C.prog l W → W.ShapedOpen C.prog →
      Calls C.prog f args W fun e W' => ∃ v, e = .returned v ∧ s.post enc C.prog fn false true false false W args v W') :
    ReturnsInHanded {} C os f .any (fun w args => (s.pre enc C.prog fn [] false w args ∧ laidMetH C.prog l w) ∧ sizedMet enc C.prog fn (OpenSpec.ofChange s) false w args) (s.post enc C.prog fn false true false false) :=
  returnsInHanded_of_calls own started noInit wit fun w tape i _ shape _ ok met _ => by
    obtain ⟨_, _, _, g, hg, _, _, _, _, vals⟩ := ok
    obtain rfl : fn = g := Option.some.inj (hfn.symm.trans hg)
    obtain ⟨⟨⟨ds, gs, before, whole, _⟩, laid⟩, _⟩ := met
    have whole' := DataW.Whole.of_heap (w' := w.forCall tape i) (by rfl) whole
    have laid' := laidMetH.of_heap (w' := w.forCall tape i) (by rfl) laid
    have run := walk (w.forCall tape i) w.heap.size i.args ds gs before vals whole' laid' shape
    exact run.mono fun e W' ⟨v, he, hp⟩ => by
      rw [he]
      exact ChangeSpec.post_blind hp

/-- The length that a library's own variable holds. -/
theorem tab_shaped {W : World} (h : W.ShapedOpen Tryz.prog) : ∀ g ∈ [0], g < W.heap.size ∧ ∃ m, W.cell? ⟨g, 0, none⟩ = some (.int .i64 m) := fun g hg => by
  obtain rfl := List.mem_singleton.1 hg
  obtain ⟨m, hm⟩ := Tryz.splitL.s1_3 W h
  exact ⟨World.block_lt_of_cell? _ _ hm, m, hm⟩

end Go.Proofs.YtgliajcgcbnemaaGreatDoor.Hx
