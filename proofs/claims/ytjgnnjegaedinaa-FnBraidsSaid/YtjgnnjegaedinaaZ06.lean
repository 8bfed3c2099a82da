/-
  Words for proofs over rows: slices of integers, slices of slices of integers, and what the operations do with them.
  Plain functions on lists that the contracts name: matrices, words, weights, roots. Nothing of a program is named here.
  The game of signs: from where a word takes the vector of ones, any row of steps at negative numbers leads back to it, always in the same number of steps, and no number is ever zero. Plain theory; nothing of a program is named here.
-/
import Derived.Test.YtjgnnjegaedinaaZ05
namespace Go.Proofs.Ytjgnnjegaedinaa.Hx
open Go.RowKit
variable {dm : Bool}

/-- A cell that holds an int. -/
abbrev ci (n : Int) : H0 := .pl (.int .i64 n)

theorem HIf.split {b : Bool} {A C : Prop} (h1 : b = true → A) (h2 : b = false → C) : HIf b A C := ⟨h1, h2⟩
theorem HIf.yes {A C : Prop} (h : A) : HIf true A C := ⟨fun _ => h, (fun h => by cases h)⟩
theorem HIf.no {A C : Prop} (h : C) : HIf false A C := ⟨(fun h => by cases h), fun _ => h⟩
theorem HIf.dec {p : Prop} [Decidable p] {A C : Prop} (h1 : p → A) (h2 : ¬ p → C) : HIf (decide p) A C := ⟨fun h => h1 (by simpa using h), fun h => h2 (by simpa using h)⟩
theorem HIf.beq {a b : Int} {A C : Prop} (h1 : a = b → A) (h2 : a ≠ b → C) : HIf (a == b) A C := ⟨fun h => h1 (by simpa using h), fun h => h2 (by simpa using h)⟩
theorem HIf.bne {a b : Int} {A C : Prop} (h1 : a ≠ b → A) (h2 : a = b → C) : HIf (a != b) A C := ⟨fun h => h1 (by simpa using h), fun h => h2 (by simpa using h)⟩
theorem HIf.bnot {b : Bool} {A C : Prop} (h : HIf b C A) : HIf (!b) A C := ⟨fun e => h.out.2 (by simpa using e), fun e => h.out.1 (by simpa using e)⟩

theorem HIf.isT {b : Bool} {A C : Prop} (h : b = true) (k : A) : HIf b A C := ⟨fun _ => k, (fun e => by rw [h] at e; cases e)⟩
theorem HIf.isF {b : Bool} {A C : Prop} (h : b = false) (k : C) : HIf b A C := ⟨(fun e => by rw [h] at e; cases e), fun _ => k⟩
theorem HIf.decT {p : Prop} [Decidable p] {A C : Prop} (h : p) (k : A) : HIf (decide p) A C := HIf.isT (decide_eq_true h) k
theorem HIf.decF {p : Prop} [Decidable p] {A C : Prop} (h : ¬ p) (k : C) : HIf (decide p) A C := HIf.isF (decide_eq_false h) k
theorem HIf.beqT {a b : Int} {A C : Prop} (h : a = b) (k : A) : HIf (a == b) A C := HIf.isT (by simpa using h) k
theorem HIf.beqF {a b : Int} {A C : Prop} (h : a ≠ b) (k : C) : HIf (a == b) A C := HIf.isF (by simpa using h) k
theorem HIf.bneT {a b : Int} {A C : Prop} (h : a ≠ b) (k : A) : HIf (a != b) A C := HIf.isT (by simpa using h) k
theorem HIf.bneF {a b : Int} {A C : Prop} (h : a = b) (k : C) : HIf (a != b) A C := HIf.isF (by simpa using h) k

theorem HArith.fits {e : Int} {K : HV → Prop} (h1 : -9223372036854775808 ≤ e) (h2 : e ≤ 9223372036854775807) (h : K (I e)) : HArith .i64 e K := ⟨by
  have : IntKind.i64.wrap e = e := IntWalk.i64_in e ⟨h1, h2⟩
  rw [this]
  exact h⟩
theorem HArith.any {k : IntKind} {e : Int} {K : HV → Prop} (h : K (.s (.pl (.int k (k.wrap e))))) : HArith k e K := ⟨h⟩
theorem HRem.of {k : IntKind} {a b : Int} {K : HV → Prop} (hb : b ≠ 0) (h : K (.s (.pl (.int k (a.tmod b))))) : HRem k a b K := ⟨hb, h⟩
theorem HQuo.of {k : IntKind} {a b : Int} {K : HV → Prop} (hb : b ≠ 0) (h : K (.s (.pl (.int k (k.wrap (a.tdiv b)))))) : HQuo k a b K := ⟨hb, h⟩

/-- p is the address of a cell that holds c. -/
def At (h : Heap) (p : H0) (c : H0) : Prop := ∃ (r o : Nat) (x : Row) (cs : List H0), p = .ptr r o ∧ h[r]? = some x ∧ x.cells? = some cs ∧ cs[o]? = some c

theorem At.load {h : Heap} {p c : H0} (H : At h p c) {K : HV → Prop} (hK : K (.s c)) : HLoad h (.s p) K := by
  obtain ⟨r, o, x, cs, rfl, h1, h2, h3⟩ := H
  exact ⟨r, o, x, cs, c, rfl, h1, h2, h3, hK⟩

theorem Shows.len {h : Heap} {x : H0} {l : List H0} (H : Shows h (.s x) l) {K : HV → Prop} (hK : K (I l.length)) : HLen (.s x) K := by
  cases H with
  | nils a c => exact ⟨0, rfl, hK⟩
  | ro r off len cs hr hl =>
    have : ((cs.drop off).take len).length = len := by simp; omega
    rw [this] at hK
    exact ⟨len, rfl, hK⟩
  | own r off len cs hr hl =>
    have : ((cs.drop off).take len).length = len := by simp; omega
    rw [this] at hK
    exact ⟨len, rfl, hK⟩

theorem Shows.idx {h : Heap} {x : H0} {l : List H0} (H : Shows h (.s x) l) {j : Int} (h0 : 0 ≤ j) (h1 : j < l.length) {k : IntKind} {K : HV → Prop} (hK : ∀ p, At h p (l.getD j.toNat (.pl (.int .i64 0))) → K (.s p)) : HIdx h (.s x) (.s (.pl (.int k j))) K := by
  have main : ∀ (r off len : Nat) (y : Row) (cs : List H0), h[r]? = some y → y.cells? = some cs → off + len ≤ cs.length → l = (cs.drop off).take len → HIdx h (.s (.sl r off len)) (.s (.pl (.int k j))) K := by
    intro r off len y cs hr hc hl e
    have hlen : l.length = len := by rw [e]; simp; omega
    refine ⟨r, off, len, k, j, rfl, rfl, h0, by omega, hK _ ⟨r, _, y, cs, rfl, hr, hc, ?_⟩⟩
    have hj : j.toNat < len := by omega
    rw [e]
    simp only [List.getD, List.getElem?_take_of_lt hj, List.getElem?_drop]
    rw [List.getElem?_eq_getElem (by omega)]
    rfl
  cases H with
  | nils a c => simp at h1; omega
  | ro r off len cs hr hl => exact main r off len _ cs hr rfl hl rfl
  | own r off len cs hr hl => exact main r off len _ cs hr rfl hl rfl

/-- A slice of ints. -/
def Ints (h : Heap) (x : H0) (l : List Int) : Prop := Shows h (.s x) (l.map ci)

theorem Ints.len {h : Heap} {x : H0} {l : List Int} (H : Ints h x l) {K : HV → Prop} (hK : K (I l.length)) : HLen (.s x) K := by
  have := Shows.len H (K := K)
  simp only [List.length_map] at this
  exact this hK

theorem getD_map_ci (l : List Int) (n : Nat) : (l.map ci).getD n (.pl (.int .i64 0)) = ci (l.getD n 0) := by
  simp only [List.getD, List.getElem?_map]
  cases l[n]? <;> rfl

theorem Ints.idx {h : Heap} {x : H0} {l : List Int} (H : Ints h x l) {j : Int} (h0 : 0 ≤ j) (h1 : j < l.length) {k : IntKind} {K : HV → Prop} (hK : ∀ p, At h p (ci (l.getD j.toNat 0)) → K (.s p)) : HIdx h (.s x) (.s (.pl (.int k j))) K := by
  refine Shows.idx H h0 (by simpa using h1) (fun p hp => hK p ?_)
  rw [getD_map_ci] at hp
  exact hp

/-- The second heap goes on from the first: what was there is as it was. -/
def Ext (h h' : Heap) : Prop := h.length ≤ h'.length ∧ ∀ r, r < h.length → h'[r]? = h[r]?

theorem Ext.refl (h : Heap) : Ext h h := ⟨Nat.le_refl _, fun _ _ => rfl⟩
theorem Ext.trans {a b c : Heap} (h : Ext a b) (k : Ext b c) : Ext a c := ⟨Nat.le_trans h.1 k.1, fun r hr => (k.2 r (Nat.lt_of_lt_of_le hr h.1)).trans (h.2 r hr)⟩
theorem Ext.push (h : Heap) (t : Heap) : Ext h (h ++ t) := ⟨by simp, fun r hr => by rw [List.getElem?_append_left hr]⟩
theorem Ext.set {h h' : Heap} (e : Ext h h') {r : Nat} (hr : h.length ≤ r) (x : Row) : Ext h (h'.set r x) := ⟨by simpa using e.1, fun q hq => by rw [List.getElem?_set_ne (by omega)]; exact e.2 q hq⟩
theorem Ext.pushed {h h' : Heap} (e : Ext h h') (t : Heap) : Ext h (h' ++ t) := e.trans (Ext.push h' t)

theorem get_lt {h : Heap} {r : Nat} {x : Row} (e : h[r]? = some x) : r < h.length := (List.getElem?_eq_some_iff.1 e).1

theorem Ext.row {h h' : Heap} (e : Ext h h') {r : Nat} {x : Row} (k : h[r]? = some x) : h'[r]? = some x := by rw [e.2 r (get_lt k)]; exact k

theorem Shows.ext {h h' : Heap} {x : HV} {l : List H0} (H : Shows h x l) (e : Ext h h') : Shows h' x l := by
  cases H with
  | nils a c => exact .nils a c
  | ro r off len cs hr hl => exact .ro r off len cs (e.row hr) hl
  | own r off len cs hr hl => exact .own r off len cs (e.row hr) hl

theorem Ints.ext {h h' : Heap} {x : H0} {l : List Int} (H : Ints h x l) (e : Ext h h') : Ints h' x l := Shows.ext H e

theorem get_new (h : Heap) (x : Row) : (h ++ [x])[h.length]? = some x := by rw [List.getElem?_append_right (Nat.le_refl _)]; simp

theorem set_new (h : Heap) (x y : Row) : (h ++ [x]).set h.length y = h ++ [y] := by
  rw [List.set_append_right _ _ (Nat.le_refl _)]
  simp

/-- The ints of a whole row of one's own. -/
theorem Ints.ofOwn {h : Heap} {r : Nat} {l : List Int} {t : List H0} (hr : h[r]? = some (.own (l.map ci ++ t))) : Ints h (.sl r 0 l.length) l := by
  have := Shows.own r 0 l.length _ hr (by simp)
  simp only [List.drop_zero] at this
  rw [List.take_append_of_le_length (by simp), List.take_of_length_le (by simp)] at this
  exact this

theorem HIdx.sl {h : Heap} {r off len : Nat} {j : Int} (h0 : 0 ≤ j) (h1 : j < len) {k : IntKind} {K : HV → Prop} (hK : K (.s (.ptr r (off + j.toNat)))) : HIdx h (.s (.sl r off len)) (.s (.pl (.int k j))) K :=
  ⟨r, off, len, k, j, rfl, rfl, h0, h1, hK⟩

theorem HStore.own {h : Heap} {r o : Nat} {cs : List H0} {c : H0} {K : HV → Heap → Prop} (hr : h[r]? = some (.own cs)) (ho : o < cs.length) (hc : c.one = true) (hK : K .dead (h.set r (.own (cs.set o c)))) : HStore h (.s (.ptr r o)) (.s c) K :=
  ⟨r, o, cs, c, rfl, rfl, hc, hr, ho, hK⟩

theorem HLen.sl {r off n : Nat} {K : HV → Prop} (hK : K (I n)) : HLen (.s (.sl r off n)) K := ⟨n, rfl, hK⟩

theorem HMake.ints {l : Int} {h : Heap} {K : HV → Heap → Prop} (n : Nat) (hl : l = n) (hn : n ≤ 2 ^ 41) (hK : K (.s (.sl h.length 0 n)) (h ++ [.own (List.replicate n (ci 0))])) : HMake (.int .i64 0) (I l) (I l) h K := by
  subst hl
  exact ⟨.i64, .i64, n, n, rfl, rfl, Nat.le_refl _, hn, hK⟩

/-- An empty literal. -/
theorem HLit.empty {z : Value} {h : Heap} {K : HV → Heap → Prop} (hK : K (.s (.sl h.length 0 0)) (h ++ [.own []])) : HLit z 0 (some []) h K := ⟨[], rfl, rfl, by omega, by simp, hK⟩

theorem HLit.of {z : Value} {n : Nat} {xs : List H0} {h : Heap} {K : HV → Heap → Prop} (hn : xs.length = n) (h1 : ∀ c ∈ xs, c.one = true) (h2 : n ≤ 4096) (hK : K (.s (.sl h.length 0 n)) (h ++ [.own xs])) : HLit z n (some xs) h K := ⟨xs, rfl, hn, h2, h1, hK⟩

/-- What was made anew: a slice of ints in a row of its own. -/
def Fresh (h h' : Heap) (x : H0) (l : List Int) : Prop := Ext h h' ∧ ∃ r t, x = .sl r 0 l.length ∧ h.length ≤ r ∧ h'[r]? = some (.own (l.map ci ++ t))

theorem Fresh.new (h : Heap) (l : List Int) : Fresh h (h ++ [.own (l.map ci)]) (.sl h.length 0 l.length) l := ⟨Ext.push _ _, h.length, [], rfl, Nat.le_refl _, by rw [List.append_nil]; exact get_new _ _⟩

theorem Fresh.ints {h h' : Heap} {x : H0} {l : List Int} (H : Fresh h h' x l) : Ints h' x l := by
  obtain ⟨_, r, t, rfl, _, hr⟩ := H
  exact Ints.ofOwn hr

theorem ci_one (l : List Int) : ∀ c ∈ l.map ci, c.one = true := by
  intro c hc
  obtain ⟨n, _, rfl⟩ := List.mem_map.1 hc
  rfl

theorem set_mid {α : Type} {A B : List α} {x y : α} {n : Nat} (h : A.length = n) : (A ++ x :: B).set n y = A ++ y :: B := by
  subst h
  simp

theorem set_same {h : Heap} {r : Nat} {x : Row} (e : h[r]? = some x) : h.set r x = h := by
  apply List.ext_getElem?
  intro q
  by_cases hq : r = q
  · subst hq
    rw [List.getElem?_set_self (get_lt e)]
    exact e.symm
  · rw [List.getElem?_set_ne hq]

theorem take_snoc_map {α β : Type} (f : α → β) (l : List α) (i : Nat) (hi : i < l.length) : (l.take (i + 1)).map f = (l.take i).map f ++ [f l[i]] := by
  rw [List.take_succ_eq_append_getElem hi, List.map_append]
  rfl

def natAt (vs : List HV) (k : Nat) : Nat := match vs[k]? with
  | some (.s (.pl (.int _ i))) => i.toNat
  | _ => 0

/-- A slice of slices of ints. -/
def Rows (h : Heap) (x : H0) (L : List (List Int)) : Prop := ∃ xs : List H0, Shows h (.s x) xs ∧ xs.length = L.length ∧ ∀ (i : Nat) (y : H0) (l : List Int), xs[i]? = some y → L[i]? = some l → Ints h y l

theorem Rows.ext {h h' : Heap} {x : H0} {L : List (List Int)} (H : Rows h x L) (e : Ext h h') : Rows h' x L := by
  obtain ⟨xs, h1, h2, h3⟩ := H
  exact ⟨xs, h1.ext e, h2, fun i y l a b => (h3 i y l a b).ext e⟩

theorem Rows.len {h : Heap} {x : H0} {L : List (List Int)} (H : Rows h x L) {K : HV → Prop} (hK : K (I L.length)) : HLen (.s x) K := by
  obtain ⟨xs, h1, h2, _⟩ := H
  exact h1.len (by rw [h2]; exact hK)

theorem Rows.idx {h : Heap} {x : H0} {L : List (List Int)} (H : Rows h x L) {j : Int} (h0 : 0 ≤ j) (h1 : j < L.length) {k : IntKind} {K : HV → Prop} (hK : ∀ p y, At h p y → Ints h y (L.getD j.toNat []) → K (.s p)) : HIdx h (.s x) (.s (.pl (.int k j))) K := by
  obtain ⟨xs, g1, g2, g3⟩ := H
  refine g1.idx h0 (by omega) (fun p hp => ?_)
  have hx : j.toNat < xs.length := by omega
  have hl : j.toNat < L.length := by omega
  have e1 : xs.getD j.toNat (.pl (.int .i64 0)) = xs[j.toNat] := by simp [List.getD, hx]
  have e2 : L.getD j.toNat [] = L[j.toNat] := by simp [List.getD, hl]
  rw [e1] at hp
  exact hK p _ hp (by rw [e2]; exact g3 _ _ _ (List.getElem?_eq_getElem hx) (List.getElem?_eq_getElem hl))

theorem freeze_length (h : Heap) : (freeze h).length = h.length := by simp [freeze]

theorem Shows.frz {h : Heap} {x : HV} {l : List H0} (H : Shows h x l) : Shows (freeze h) x l := by
  cases H with
  | nils a c => exact .nils a c
  | ro r off len cs hr hl => exact .ro r off len cs (freeze_get (Or.inl hr)) hl
  | own r off len cs hr hl => exact .ro r off len cs (freeze_get (Or.inr hr)) hl

theorem Ints.frz {h : Heap} {x : H0} {l : List Int} (H : Ints h x l) : Ints (freeze h) x l := Shows.frz H

theorem Rows.frz {h : Heap} {x : H0} {L : List (List Int)} (H : Rows h x L) : Rows (freeze h) x L := by
  obtain ⟨xs, h1, h2, h3⟩ := H
  exact ⟨xs, h1.frz, h2, fun i y l a b => (h3 i y l a b).frz⟩

/-- A call in a quiet region whose contract leaves the heap alone and tells the value. -/
theorem HCallQ.of {P : Program} {k : FuncId} {args : List HV} {h : Heap} {K : HV → Prop} {R : HV → Heap → Prop} (v : Value) (hc : HCalls dm P k args (freeze h) R) (hr : ∀ x h', R x h' → x = .s (.pl v)) (hK : K (.s (.pl v))) : HCallQ dm P k args h K :=
  ⟨v, hc.mono (fun x h' r => hr x h' r), hK⟩

theorem Ints.idxN {h : Heap} {x : H0} {l : List Int} (H : Ints h x l) {n : Nat} (h1 : n < l.length) {k : IntKind} {K : HV → Prop} (hK : ∀ p, At h p (ci (l.getD n 0)) → K (.s p)) : HIdx h (.s x) (.s (.pl (.int k (n : Int)))) K :=
  H.idx (by omega) (by omega) (fun p hp => hK p (by simpa using hp))

theorem Rows.idxN {h : Heap} {x : H0} {L : List (List Int)} (H : Rows h x L) {n : Nat} (h1 : n < L.length) {k : IntKind} {K : HV → Prop} (hK : ∀ p y, At h p y → Ints h y (L.getD n []) → K (.s p)) : HIdx h (.s x) (.s (.pl (.int k (n : Int)))) K :=
  H.idx (by omega) (by omega) (fun p y hp hy => hK p y hp (by simpa using hy))

end Go.Proofs.Ytjgnnjegaedinaa.Hx

namespace Go.Proofs.Ytjgnnjegaedinaa.Hx
open Go.RowKit

abbrev w64 (n : Int) : Int := IntKind.i64.wrap n

/-- An entry of a matrix. -/
def ent (c : List (List Int)) (i j : Nat) : Int := (c.getD i []).getD j 0

def cartBad (c : List (List Int)) (i j : Nat) : Bool :=
  (decide (i = j) && !(ent c i j == 2)) || (!decide (i = j) && (decide (ent c i j < -3) || decide (ent c i j > 0) || !((ent c i j == 0) == (ent c j i == 0))))

def square (c : List (List Int)) : Bool := c.all fun r => decide (r.length = c.length)
def cartIn (c : List (List Int)) : Bool := (List.range c.length).all fun i => (List.range c.length).all fun j => !cartBad c i j
def isCartan (c : List (List Int)) : Bool := decide (1 ≤ c.length) && decide (c.length ≤ 4) && square c && cartIn c

theorem square_row {c : List (List Int)} (h : square c = true) {i : Nat} (hi : i < c.length) : (c.getD i []).length = c.length := by
  have := List.all_eq_true.1 h c[i] (List.getElem_mem hi)
  simpa [List.getD, hi] using this

theorem not_square {c : List (List Int)} {i : Nat} (hi : i < c.length) (h : (c.getD i []).length ≠ c.length) : square c = false := by
  rw [Bool.eq_false_iff]
  exact fun hs => h (square_row hs hi)

theorem square_of {c : List (List Int)} (h : ∀ i, i < c.length → (c.getD i []).length = c.length) : square c = true := by
  refine List.all_eq_true.2 (fun r hr => ?_)
  obtain ⟨i, hi, rfl⟩ := List.getElem_of_mem hr
  have := h i hi
  simpa [List.getD, hi] using this

theorem cartIn_of {c : List (List Int)} (h : ∀ i, i < c.length → ∀ j, j < c.length → cartBad c i j = false) : cartIn c = true := by
  refine List.all_eq_true.2 (fun i hi => List.all_eq_true.2 (fun j hj => ?_))
  rw [h i (List.mem_range.1 hi) j (List.mem_range.1 hj)]
  rfl

theorem cartIn_get {c : List (List Int)} (h : cartIn c = true) {i j : Nat} (hi : i < c.length) (hj : j < c.length) : cartBad c i j = false := by
  have := List.all_eq_true.1 (List.all_eq_true.1 h i (List.mem_range.2 hi)) j (List.mem_range.2 hj)
  simpa using this

theorem not_cartIn {c : List (List Int)} {i j : Nat} (hi : i < c.length) (hj : j < c.length) (h : cartBad c i j = true) : cartIn c = false := by
  rw [Bool.eq_false_iff]
  intro hc
  rw [cartIn_get hc hi hj] at h
  cases h

structure Cartan (c : List (List Int)) : Prop where
  pos : 1 ≤ c.length
  le : c.length ≤ 4
  row : ∀ i, i < c.length → (c.getD i []).length = c.length
  ok : ∀ i, i < c.length → ∀ j, j < c.length → cartBad c i j = false

theorem isCartan_iff (c : List (List Int)) : isCartan c = true ↔ Cartan c := by
  unfold isCartan
  simp only [Bool.and_eq_true, decide_eq_true_eq]
  constructor
  · rintro ⟨⟨⟨h1, h2⟩, h3⟩, h4⟩
    exact ⟨h1, h2, fun i hi => square_row h3 hi, fun i hi j hj => cartIn_get h4 hi hj⟩
  · rintro ⟨h1, h2, h3, h4⟩
    exact ⟨⟨⟨h1, h2⟩, square_of h3⟩, cartIn_of h4⟩

def inRange (n : Int) (x : Int) : Bool := decide (0 ≤ x) && decide (x < n)
def isPoint (c : List (List Int)) (i : Int) : Bool := inRange c.length i
def lettersOk (c : List (List Int)) (w : List Int) : Bool := w.all (isPoint c)
def isWord (c : List (List Int)) (w : List Int) : Bool := isCartan c && decide (w.length ≤ 15) && lettersOk c w

theorem letters_get {c : List (List Int)} {w : List Int} (h : lettersOk c w = true) {i : Nat} (hi : i < w.length) : 0 ≤ w.getD i 0 ∧ w.getD i 0 < c.length := by
  have := List.all_eq_true.1 h w[i] (List.getElem_mem hi)
  simp only [isPoint, inRange, Bool.and_eq_true, decide_eq_true_eq] at this
  simpa [List.getD, hi] using this

theorem letters_of {c : List (List Int)} {w : List Int} (h : ∀ i, i < w.length → 0 ≤ w.getD i 0 ∧ w.getD i 0 < c.length) : lettersOk c w = true := by
  refine List.all_eq_true.2 (fun x hx => ?_)
  obtain ⟨i, hi, rfl⟩ := List.getElem_of_mem hx
  have := h i hi
  simp only [isPoint, inRange, Bool.and_eq_true, decide_eq_true_eq]
  simpa [List.getD, hi] using this

theorem not_letters {c : List (List Int)} {w : List Int} {i : Nat} (hi : i < w.length) (h : ¬ (0 ≤ w.getD i 0 ∧ w.getD i 0 < c.length)) : lettersOk c w = false := by
  rw [Bool.eq_false_iff]
  exact fun hs => h (letters_get hs hi)

def weightOk (v : List Int) : Bool := v.all fun x => decide (-1000 ≤ x) && decide (x ≤ 1000)
def isWeight (c : List (List Int)) (v : List Int) : Bool := isCartan c && decide (v.length = c.length) && weightOk v

theorem weight_of {v : List Int} (h : ∀ i, i < v.length → -1000 ≤ v.getD i 0 ∧ v.getD i 0 ≤ 1000) : weightOk v = true := by
  refine List.all_eq_true.2 (fun x hx => ?_)
  obtain ⟨i, hi, rfl⟩ := List.getElem_of_mem hx
  have := h i hi
  simp only [Bool.and_eq_true, decide_eq_true_eq]
  simpa [List.getD, hi] using this

theorem not_weight {v : List Int} {i : Nat} (hi : i < v.length) (h : ¬ (-1000 ≤ v.getD i 0 ∧ v.getD i 0 ≤ 1000)) : weightOk v = false := by
  rw [Bool.eq_false_iff]
  intro hs
  have := List.all_eq_true.1 hs v[i] (List.getElem_mem hi)
  simp only [Bool.and_eq_true, decide_eq_true_eq] at this
  exact h (by simpa [List.getD, hi] using this)

end Go.Proofs.Ytjgnnjegaedinaa.Hx

namespace Go.Proofs.Ytjgnnjegaedinaa.Hx

abbrev Pos := Nat → Int

/-- The step at i. -/
def sr (c : Nat → Nat → Int) (i : Nat) (v : Pos) : Pos := fun k => v k - v i * c k i

/-- n steps, each at a negative number, lead from v to ones. -/
inductive Play (N : Nat) (c : Nat → Nat → Int) : Nat → Pos → Prop where
  | done {v : Pos} (h : ∀ i, i < N → v i = 1) : Play N c 0 v
  | step {n : Nat} {v : Pos} (i : Nat) (hi : i < N) (h : v i < 0) (p : Play N c n (sr c i v)) : Play N c (n + 1) v

structure MatOk (N : Nat) (c : Nat → Nat → Int) : Prop where
  diag : ∀ i, i < N → c i i = 2
  off : ∀ i j, i < N → j < N → i ≠ j → -3 ≤ c i j ∧ c i j ≤ 0
  zero : ∀ i j, i < N → j < N → c i j = 0 → c j i = 0

theorem sr_at {c : Nat → Nat → Int} {i : Nat} (d : c i i = 2) (v : Pos) : sr c i v i = - v i := by
  unfold sr
  rw [d]
  omega

theorem sr_sr {c : Nat → Nat → Int} {i : Nat} (d : c i i = 2) (v : Pos) : sr c i (sr c i v) = v := by
  funext k
  show sr c i v k - sr c i v i * c k i = v k
  rw [sr_at d]
  unfold sr
  rw [Int.neg_mul]
  omega

theorem Play.up {N : Nat} {c : Nat → Nat → Int} (M : MatOk N c) {n i : Nat} {v : Pos} (p : Play N c n v) (hi : i < N) (h : 0 < v i) : Play N c (n + 1) (sr c i v) :=
  .step i hi (by rw [sr_at (M.diag i hi)]; omega) (by rw [sr_sr (M.diag i hi)]; exact p)

/-- Where steps at i and j alone lead. -/
def cb (c : Nat → Nat → Int) (i j : Nat) (v : Pos) (a b : Int) : Pos := fun k => v k - a * c k i - b * c k j

theorem cb_none (c : Nat → Nat → Int) (i j : Nat) (v : Pos) : cb c i j v 0 0 = v := by
  funext k
  simp [cb]
theorem cb_i (c : Nat → Nat → Int) (i j : Nat) (v : Pos) (a b a' : Int) (h : a' = a + cb c i j v a b i) : sr c i (cb c i j v a b) = cb c i j v a' b := by
  funext k
  show cb c i j v a b k - cb c i j v a b i * c k i = cb c i j v a' b k
  have : cb c i j v a b i = a' - a := by omega
  rw [this]
  simp only [cb, Int.sub_mul]
  omega
theorem cb_j (c : Nat → Nat → Int) (i j : Nat) (v : Pos) (a b b' : Int) (h : b' = b + cb c i j v a b j) : sr c j (cb c i j v a b) = cb c i j v a b' := by
  funext k
  show cb c i j v a b k - cb c i j v a b j * c k j = cb c i j v a b' k
  have : cb c i j v a b j = b' - b := by omega
  rw [this]
  simp only [cb, Int.sub_mul]
  omega

def Good (N : Nat) (c : Nat → Nat → Int) (n : Nat) (v : Pos) : Prop := ∀ i, i < N → v i ≠ 0 ∧ (v i < 0 → ∃ m, n = m + 1 ∧ Play N c m (sr c i v))

theorem play_inf {N : Nat} {c : Nat → Nat → Int} (M : MatOk N c) (n : Nat) (IH : ∀ m, m ≤ n → ∀ v, Play N c m v → Good N c m v) :
    ∀ k, k ≤ n → ∀ (v : Pos) (i j : Nat), Play N c k v → i < N → j < N → (c i j ≤ -2 ∧ c j i ≤ -2) → -3 ≤ c i j → -3 ≤ c j i → v i < 0 → 0 < v j → - c i j * v j ≤ 2 * (- v i) → False := by
  intro k
  induction k with
  | zero =>
    intro _ v i j p hi _ _ _ _ h1 _ _
    obtain ⟨m, hm, _⟩ := (IH 0 (by omega) v p i hi).2 h1
    omega
  | succ k ih =>
    intro hk v i j p hi hj hc h3 h4 h1 h2 hb
    obtain ⟨m, hm, q⟩ := (IH (k + 1) hk v p i hi).2 h1
    have : m = k := by omega
    subst this
    refine ih (by omega) (sr c i v) j i q hj hi ⟨hc.2, hc.1⟩ h4 h3 ?_ ?_ ?_
    · show v j - v i * c j i < 0
      have e1 : c i j = -2 ∨ c i j = -3 := by omega
      have e2 : c j i = -2 ∨ c j i = -3 := by omega
      rcases e1 with e1 | e1 <;> rcases e2 with e2 | e2 <;> rw [e1] at hb <;> rw [e2] <;> omega
    · rw [sr_at (M.diag i hi)]
      omega
    · rw [sr_at (M.diag i hi)]
      show - c j i * - v i ≤ 2 * -(v j - v i * c j i)
      have e1 : c i j = -2 ∨ c i j = -3 := by omega
      have e2 : c j i = -2 ∨ c j i = -3 := by omega
      rcases e1 with e1 | e1 <;> rcases e2 with e2 | e2 <;> rw [e1] at hb <;> rw [e2] <;> omega

section
variable {N : Nat} {c : Nat → Nat → Int} {n i j : Nat} {v : Pos}

theorem down_i (M : MatOk N c) (IH : ∀ m, m ≤ n → ∀ v, Play N c m v → Good N c m v) (hi : i < N) (a b a' : Int) {m : Nat} (hm : m ≤ n) (p : Play N c m (cb c i j v a b)) (h : a' - a = v i - 2 * a - b * c i j) (hl : a' ≤ a) :
    a' < a ∧ ∃ k, m = k + 1 ∧ Play N c k (cb c i j v a' b) := by
  have e : cb c i j v a b i = a' - a := by
    show v i - a * c i i - b * c i j = a' - a
    rw [M.diag i hi]
    omega
  have g := IH m hm _ p i hi
  rw [e] at g
  refine ⟨by omega, ?_⟩
  obtain ⟨k, hk, q⟩ := g.2 (by omega)
  rw [cb_i c i j v a b a' (by omega)] at q
  exact ⟨k, hk, q⟩
theorem down_j (M : MatOk N c) (IH : ∀ m, m ≤ n → ∀ v, Play N c m v → Good N c m v) (hj : j < N) (a b b' : Int) {m : Nat} (hm : m ≤ n) (p : Play N c m (cb c i j v a b)) (h : b' - b = v j - a * c j i - 2 * b) (hl : b' ≤ b) :
    b' < b ∧ ∃ k, m = k + 1 ∧ Play N c k (cb c i j v a b') := by
  have e : cb c i j v a b j = b' - b := by
    show v j - a * c j i - b * c j j = b' - b
    rw [M.diag j hj]
    omega
  have g := IH m hm _ p j hj
  rw [e] at g
  refine ⟨by omega, ?_⟩
  obtain ⟨k, hk, q⟩ := g.2 (by omega)
  rw [cb_j c i j v a b b' (by omega)] at q
  exact ⟨k, hk, q⟩
theorem up_i (M : MatOk N c) (hi : i < N) (a b a' : Int) {m : Nat} (p : Play N c m (cb c i j v a b)) (h : a' - a = v i - 2 * a - b * c i j) (hl : a < a') : Play N c (m + 1) (cb c i j v a' b) := by
  have e : cb c i j v a b i = a' - a := by
    show v i - a * c i i - b * c i j = a' - a
    rw [M.diag i hi]
    omega
  have := p.up M hi (by rw [e]; omega)
  rwa [cb_i c i j v a b a' (by omega)] at this
theorem up_j (M : MatOk N c) (hj : j < N) (a b b' : Int) {m : Nat} (p : Play N c m (cb c i j v a b)) (h : b' - b = v j - a * c j i - 2 * b) (hl : b < b') : Play N c (m + 1) (cb c i j v a b') := by
  have e : cb c i j v a b j = b' - b := by
    show v j - a * c j i - b * c j j = b' - b
    rw [M.diag j hj]
    omega
  have := p.up M hj (by rw [e]; omega)
  rwa [cb_j c i j v a b b' (by omega)] at this

theorem sr_cb (c : Nat → Nat → Int) (i j : Nat) (v : Pos) : sr c i v = cb c i j v (v i) 0 := by
  funext k
  simp [cb, sr]
theorem sr_cb' (c : Nat → Nat → Int) (i j : Nat) (v : Pos) : sr c j v = cb c i j v 0 (v j) := by
  funext k
  simp [cb, sr]

theorem play_pair (M : MatOk N c) (IH : ∀ m, m ≤ n → ∀ v, Play N c m v → Good N c m v) (hi : i < N) (hj : j < N) (hij : i ≠ j) (hb : v j < 0) (p : Play N c n (sr c j v)) (ha : v i ≤ 0) :
    v i < 0 ∧ Play N c n (sr c i v) := by
  have o1 := M.off i j hi hj hij
  have o2 := M.off j i hj hi (Ne.symm hij)
  have z1 := M.zero i j hi hj
  have z2 := M.zero j i hj hi
  by_cases inf : c i j ≤ -2 ∧ c j i ≤ -2
  · exfalso
    refine play_inf M n IH n (Nat.le_refl _) (sr c j v) i j p hi hj inf o1.1 o2.1 ?_ ?_ ?_
    · show v i - v j * c i j < 0
      have e1 : c i j = -2 ∨ c i j = -3 := by omega
      rcases e1 with e1 | e1 <;> rw [e1] <;> omega
    · rw [sr_at (M.diag j hj)]
      omega
    · rw [sr_at (M.diag j hj)]
      show - c i j * - v j ≤ 2 * - (v i - v j * c i j)
      have e1 : c i j = -2 ∨ c i j = -3 := by omega
      rcases e1 with e1 | e1 <;> rw [e1] <;> omega
  rw [sr_cb' c i j v] at p
  rw [sr_cb c i j v]
  generalize hA : v i = a at *
  generalize hB : v j = b at *
  have fin : (c i j = 0 ∧ c j i = 0) ∨ (c i j = -1 ∧ c j i = -1) ∨ (c i j = -2 ∧ c j i = -1) ∨ (c i j = -1 ∧ c j i = -2) ∨ (c i j = -3 ∧ c j i = -1) ∨ (c i j = -1 ∧ c j i = -3) := by omega
  rcases fin with ⟨e1, e2⟩ | ⟨e1, e2⟩ | ⟨e1, e2⟩ | ⟨e1, e2⟩ | ⟨e1, e2⟩ | ⟨e1, e2⟩
  · obtain ⟨d1, k1, m1, p⟩ := down_i M IH hi 0 b a (by omega) p (by rw [e1, hA]; omega) (by omega)
    refine ⟨by omega, ?_⟩
    have p := up_j M hj a b 0 p (by rw [e2, hB]; omega) (by omega)
    rw [m1]
    exact p
  · obtain ⟨d1, k1, m1, p⟩ := down_i M IH hi 0 b (a + b) (by omega) p (by rw [e1, hA]; omega) (by omega)
    obtain ⟨d2, k2, m2, p⟩ := down_j M IH hj (a + b) b (a + b) (by omega) p (by rw [e2, hB]; omega) (by omega)
    refine ⟨by omega, ?_⟩
    have p := up_i M hi (a + b) (a + b) a p (by rw [e1, hA]; omega) (by omega)
    have p := up_j M hj a (a + b) 0 p (by rw [e2, hB]; omega) (by omega)
    rw [m1, m2]
    exact p
  · obtain ⟨d1, k1, m1, p⟩ := down_i M IH hi 0 b (a + 2 * b) (by omega) p (by rw [e1, hA]; omega) (by omega)
    obtain ⟨d2, k2, m2, p⟩ := down_j M IH hj (a + 2 * b) b (a + 2 * b) (by omega) p (by rw [e2, hB]; omega) (by omega)
    obtain ⟨d3, k3, m3, p⟩ := down_i M IH hi (a + 2 * b) (a + 2 * b) (2 * a + 2 * b) (by omega) p (by rw [e1, hA]; omega) (by omega)
    refine ⟨by omega, ?_⟩
    have p := up_j M hj (2 * a + 2 * b) (a + 2 * b) (a + b) p (by rw [e2, hB]; omega) (by omega)
    have p := up_i M hi (2 * a + 2 * b) (a + b) a p (by rw [e1, hA]; omega) (by omega)
    have p := up_j M hj a (a + b) 0 p (by rw [e2, hB]; omega) (by omega)
    rw [m1, m2, m3]
    exact p
  · obtain ⟨d1, k1, m1, p⟩ := down_i M IH hi 0 b (a + b) (by omega) p (by rw [e1, hA]; omega) (by omega)
    obtain ⟨d2, k2, m2, p⟩ := down_j M IH hj (a + b) b (2 * a + 2 * b) (by omega) p (by rw [e2, hB]; omega) (by omega)
    obtain ⟨d3, k3, m3, p⟩ := down_i M IH hi (a + b) (2 * a + 2 * b) (2 * a + b) (by omega) p (by rw [e1, hA]; omega) (by omega)
    refine ⟨by omega, ?_⟩
    have p := up_j M hj (2 * a + b) (2 * a + 2 * b) (2 * a + b) p (by rw [e2, hB]; omega) (by omega)
    have p := up_i M hi (2 * a + b) (2 * a + b) a p (by rw [e1, hA]; omega) (by omega)
    have p := up_j M hj a (2 * a + b) 0 p (by rw [e2, hB]; omega) (by omega)
    rw [m1, m2, m3]
    exact p
  · obtain ⟨d1, k1, m1, p⟩ := down_i M IH hi 0 b (a + 3 * b) (by omega) p (by rw [e1, hA]; omega) (by omega)
    obtain ⟨d2, k2, m2, p⟩ := down_j M IH hj (a + 3 * b) b (a + 3 * b) (by omega) p (by rw [e2, hB]; omega) (by omega)
    obtain ⟨d3, k3, m3, p⟩ := down_i M IH hi (a + 3 * b) (a + 3 * b) (3 * a + 6 * b) (by omega) p (by rw [e1, hA]; omega) (by omega)
    obtain ⟨d4, k4, m4, p⟩ := down_j M IH hj (3 * a + 6 * b) (a + 3 * b) (2 * a + 4 * b) (by omega) p (by rw [e2, hB]; omega) (by omega)
    obtain ⟨d5, k5, m5, p⟩ := down_i M IH hi (3 * a + 6 * b) (2 * a + 4 * b) (4 * a + 6 * b) (by omega) p (by rw [e1, hA]; omega) (by omega)
    refine ⟨by omega, ?_⟩
    have p := up_j M hj (4 * a + 6 * b) (2 * a + 4 * b) (2 * a + 3 * b) p (by rw [e2, hB]; omega) (by omega)
    have p := up_i M hi (4 * a + 6 * b) (2 * a + 3 * b) (3 * a + 3 * b) p (by rw [e1, hA]; omega) (by omega)
    have p := up_j M hj (3 * a + 3 * b) (2 * a + 3 * b) (a + b) p (by rw [e2, hB]; omega) (by omega)
    have p := up_i M hi (3 * a + 3 * b) (a + b) a p (by rw [e1, hA]; omega) (by omega)
    have p := up_j M hj a (a + b) 0 p (by rw [e2, hB]; omega) (by omega)
    rw [m1, m2, m3, m4, m5]
    exact p
  · obtain ⟨d1, k1, m1, p⟩ := down_i M IH hi 0 b (a + b) (by omega) p (by rw [e1, hA]; omega) (by omega)
    obtain ⟨d2, k2, m2, p⟩ := down_j M IH hj (a + b) b (3 * a + 3 * b) (by omega) p (by rw [e2, hB]; omega) (by omega)
    obtain ⟨d3, k3, m3, p⟩ := down_i M IH hi (a + b) (3 * a + 3 * b) (3 * a + 2 * b) (by omega) p (by rw [e1, hA]; omega) (by omega)
    obtain ⟨d4, k4, m4, p⟩ := down_j M IH hj (3 * a + 2 * b) (3 * a + 3 * b) (6 * a + 4 * b) (by omega) p (by rw [e2, hB]; omega) (by omega)
    obtain ⟨d5, k5, m5, p⟩ := down_i M IH hi (3 * a + 2 * b) (6 * a + 4 * b) (4 * a + 2 * b) (by omega) p (by rw [e1, hA]; omega) (by omega)
    refine ⟨by omega, ?_⟩
    have p := up_j M hj (4 * a + 2 * b) (6 * a + 4 * b) (6 * a + 3 * b) p (by rw [e2, hB]; omega) (by omega)
    have p := up_i M hi (4 * a + 2 * b) (6 * a + 3 * b) (3 * a + b) p (by rw [e1, hA]; omega) (by omega)
    have p := up_j M hj (3 * a + b) (6 * a + 3 * b) (3 * a + b) p (by rw [e2, hB]; omega) (by omega)
    have p := up_i M hi (3 * a + b) (3 * a + b) a p (by rw [e1, hA]; omega) (by omega)
    have p := up_j M hj a (3 * a + b) 0 p (by rw [e2, hB]; omega) (by omega)
    rw [m1, m2, m3, m4, m5]
    exact p
end

theorem play_good {N : Nat} {c : Nat → Nat → Int} (M : MatOk N c) : ∀ (n : Nat) (v : Pos), Play N c n v → Good N c n v := by
  intro n
  induction n using Nat.strongRecOn with
  | ind n ih =>
    intro v p i hi
    cases p with
    | done h =>
      rw [h i hi]
      exact ⟨by decide, fun h => absurd h (by decide)⟩
    | step j hj hb p =>
      rename_i n
      by_cases e : i = j
      · subst e
        exact ⟨by omega, fun _ => ⟨n, rfl, p⟩⟩
      · by_cases ha : v i ≤ 0
        · obtain ⟨h1, h2⟩ := play_pair M (fun m hm => ih m (by omega)) hi hj e hb p ha
          exact ⟨by omega, fun _ => ⟨n, rfl, h2⟩⟩
        · exact ⟨by omega, fun h => absurd h (by omega)⟩

theorem Play.down {N : Nat} {c : Nat → Nat → Int} (M : MatOk N c) {n i : Nat} {v : Pos} (p : Play N c n v) (hi : i < N) (h : v i < 0) : ∃ m, n = m + 1 ∧ Play N c m (sr c i v) := (play_good M n v p i hi).2 h
theorem Play.ne {N : Nat} {c : Nat → Nat → Int} (M : MatOk N c) {n i : Nat} {v : Pos} (p : Play N c n v) (hi : i < N) : v i ≠ 0 := (play_good M n v p i hi).1

/-- Whatever step: at most one more. -/
theorem Play.any {N : Nat} {c : Nat → Nat → Int} (M : MatOk N c) {n i : Nat} {v : Pos} (p : Play N c n v) (hi : i < N) : ∃ m, m ≤ n + 1 ∧ Play N c m (sr c i v) := by
  by_cases h : v i < 0
  · obtain ⟨m, hm, q⟩ := p.down M hi h
    exact ⟨m, by omega, q⟩
  · have := p.ne M hi
    exact ⟨n + 1, Nat.le_refl _, p.up M hi (by omega)⟩

theorem Play.stop {N : Nat} {c : Nat → Nat → Int} {n : Nat} {v : Pos} (p : Play N c n v) (h : ∀ i, i < N → 0 ≤ v i) : n = 0 ∧ ∀ i, i < N → v i = 1 := by
  cases p with
  | done h => exact ⟨rfl, h⟩
  | step i hi hl _ => exact absurd (h i hi) (by omega)

theorem Play.size {N : Nat} {c : Nat → Nat → Int} (M : MatOk N c) {n : Nat} {v : Pos} (p : Play N c n v) : ∀ k, k < N → - (4 ^ n : Nat) ≤ v k ∧ v k ≤ (4 ^ n : Nat) := by
  induction p with
  | done h =>
    intro k hk
    rw [h k hk]
    decide
  | @step n v i hi hl p ih =>
    intro k hk
    have h1 := ih k hk
    have h2 := ih i hi
    rw [sr_at (M.diag i hi)] at h2
    have e : (4 ^ (n + 1) : Nat) = 4 * 4 ^ n := by rw [Nat.pow_succ, Nat.mul_comm]
    rw [e]
    generalize (4 ^ n : Nat) = b at *
    by_cases e : k = i
    · subst e
      omega
    · have o := M.off k i hk hi e
      have h3 : - (b : Int) ≤ v k - v i * c k i ∧ v k - v i * c k i ≤ b := h1
      have f : c k i = 0 ∨ c k i = -1 ∨ c k i = -2 ∨ c k i = -3 := by omega
      rcases f with f | f | f | f <;> rw [f] at h3 <;> omega

end Go.Proofs.Ytjgnnjegaedinaa.Hx
