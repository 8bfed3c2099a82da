
/-
  Words for proofs over rows: slices of integers, slices of slices of integers, and what the operations do with them.
-/
import Derived.Test.YtecfgbjddkpkcaaHg
namespace Go.Proofs.Ytecfgbjddkpkcaa.Hx
open Go.RowKit
variable {dm : Bool}

/-- A cell that holds an int. -/
abbrev ci (n : Int) : H0 := .pl (.int .i64 n)

theorem HIf.split {b : Bool} {A C : Prop} (h1 : b = true → A) (h2 : b = false → C) : HIf b A C := ⟨h1, h2⟩
theorem HIf.yes {A C : Prop} (h : A) : HIf true A C := ⟨fun _ => h, (fun h => by cases h)⟩
theorem HIf.no {A C : Prop} (h : C) : HIf false A C := ⟨(fun h => by cases h), fun _ => h⟩
theorem HIf.dec {p : Prop} [Decidable p] {A C : Prop} (h1 : p → A) (h2 : ¬ p → C) : HIf (decide p) A C := ⟨fun h => h1 (by simpa using h), fun h => h2 (by simpa using h)⟩
theorem HIf.beq {a b : Int} {A C : Prop} (h1 : a = b → A) (h2 : a ≠ b → C) : HIf (a == b) A C := ⟨fun h => h1 (by simpa using h), fun h => h2 (by simpa using h)⟩
theorem HIf.bne {a b : Int} {A C : Prop} (h1 : a ≠ b → A) (h2 : a = b → C) : HIf (a != b) A C := ⟨fun h => h1 (by simpa using h), fun h => h2 (by simpa using h)⟩
theorem HIf.bnot {b : Bool} {A C : Prop} (h : HIf b C A) : HIf (!b) A C := ⟨fun e => h.out.2 (by simpa using e), fun e => h.out.1 (by simpa using e)⟩

theorem HIf.isT {b : Bool} {A C : Prop} (h : b = true) (k : A) : HIf b A C := ⟨fun _ => k, (fun e => by rw [h] at e; cases e)⟩
theorem HIf.isF {b : Bool} {A C : Prop} (h : b = false) (k : C) : HIf b A C := ⟨(fun e => by rw [h] at e; cases e), fun _ => k⟩
theorem HIf.decT {p : Prop} [Decidable p] {A C : Prop} (h : p) (k : A) : HIf (decide p) A C := HIf.isT (decide_eq_true h) k
theorem HIf.decF {p : Prop} [Decidable p] {A C : Prop} (h : ¬ p) (k : C) : HIf (decide p) A C := HIf.isF (decide_eq_false h) k
theorem HIf.beqT {a b : Int} {A C : Prop} (h : a = b) (k : A) : HIf (a == b) A C := HIf.isT (by simpa using h) k
theorem HIf.beqF {a b : Int} {A C : Prop} (h : a ≠ b) (k : C) : HIf (a == b) A C := HIf.isF (by simpa using h) k
theorem HIf.bneT {a b : Int} {A C : Prop} (h : a ≠ b) (k : A) : HIf (a != b) A C := HIf.isT (by simpa using h) k
theorem HIf.bneF {a b : Int} {A C : Prop} (h : a = b) (k : C) : HIf (a != b) A C := HIf.isF (by simpa using h) k

theorem HArith.fits {e : Int} {K : HV → Prop} (h1 : -9223372036854775808 ≤ e) (h2 : e ≤ 9223372036854775807) (h : K (I e)) : HArith .i64 e K := ⟨by
  have : IntKind.i64.wrap e = e := IntWalk.i64_in e ⟨h1, h2⟩
  rw [this]
  exact h⟩
theorem HArith.any {k : IntKind} {e : Int} {K : HV → Prop} (h : K (.s (.pl (.int k (k.wrap e))))) : HArith k e K := ⟨h⟩
theorem HRem.of {k : IntKind} {a b : Int} {K : HV → Prop} (hb : b ≠ 0) (h : K (.s (.pl (.int k (a.tmod b))))) : HRem k a b K := ⟨hb, h⟩
theorem HQuo.of {k : IntKind} {a b : Int} {K : HV → Prop} (hb : b ≠ 0) (h : K (.s (.pl (.int k (k.wrap (a.tdiv b)))))) : HQuo k a b K := ⟨hb, h⟩

/-- p is the address of a cell that holds c. -/
def At (h : Heap) (p : H0) (c : H0) : Prop := ∃ (r o : Nat) (x : Row) (cs : List H0), p = .ptr r o ∧ h[r]? = some x ∧ x.cells? = some cs ∧ cs[o]? = some c

theorem At.load {h : Heap} {p c : H0} (H : At h p c) {K : HV → Prop} (hK : K (.s c)) : HLoad h (.s p) K := by
  obtain ⟨r, o, x, cs, rfl, h1, h2, h3⟩ := H
  exact ⟨r, o, x, cs, c, rfl, h1, h2, h3, hK⟩

theorem Shows.len {h : Heap} {x : H0} {l : List H0} (H : Shows h (.s x) l) {K : HV → Prop} (hK : K (I l.length)) : HLen (.s x) K := by
  cases H with
  | nils a c => exact ⟨0, rfl, hK⟩
  | ro r off len cs hr hl =>
    have : ((cs.drop off).take len).length = len := by simp; omega
    rw [this] at hK
    exact ⟨len, rfl, hK⟩
  | own r off len cs hr hl =>
    have : ((cs.drop off).take len).length = len := by simp; omega
    rw [this] at hK
    exact ⟨len, rfl, hK⟩

theorem Shows.idx {h : Heap} {x : H0} {l : List H0} (H : Shows h (.s x) l) {j : Int} (h0 : 0 ≤ j) (h1 : j < l.length) {k : IntKind} {K : HV → Prop} (hK : ∀ p, At h p (l.getD j.toNat (.pl (.int .i64 0))) → K (.s p)) : HIdx h (.s x) (.s (.pl (.int k j))) K := by
  have main : ∀ (r off len : Nat) (y : Row) (cs : List H0), h[r]? = some y → y.cells? = some cs → off + len ≤ cs.length → l = (cs.drop off).take len → HIdx h (.s (.sl r off len)) (.s (.pl (.int k j))) K := by
    intro r off len y cs hr hc hl e
    have hlen : l.length = len := by rw [e]; simp; omega
    refine ⟨r, off, len, k, j, rfl, rfl, h0, by omega, hK _ ⟨r, _, y, cs, rfl, hr, hc, ?_⟩⟩
    have hj : j.toNat < len := by omega
    rw [e]
    simp only [List.getD, List.getElem?_take_of_lt hj, List.getElem?_drop]
    rw [List.getElem?_eq_getElem (by omega)]
    rfl
  cases H with
  | nils a c => simp at h1; omega
  | ro r off len cs hr hl => exact main r off len _ cs hr rfl hl rfl
  | own r off len cs hr hl => exact main r off len _ cs hr rfl hl rfl

/-- A slice of ints. -/
def Ints (h : Heap) (x : H0) (l : List Int) : Prop := Shows h (.s x) (l.map ci)

theorem Ints.len {h : Heap} {x : H0} {l : List Int} (H : Ints h x l) {K : HV → Prop} (hK : K (I l.length)) : HLen (.s x) K := by
  have := Shows.len H (K := K)
  simp only [List.length_map] at this
  exact this hK

theorem getD_map_ci (l : List Int) (n : Nat) : (l.map ci).getD n (.pl (.int .i64 0)) = ci (l.getD n 0) := by
  simp only [List.getD, List.getElem?_map]
  cases l[n]? <;> rfl

theorem Ints.idx {h : Heap} {x : H0} {l : List Int} (H : Ints h x l) {j : Int} (h0 : 0 ≤ j) (h1 : j < l.length) {k : IntKind} {K : HV → Prop} (hK : ∀ p, At h p (ci (l.getD j.toNat 0)) → K (.s p)) : HIdx h (.s x) (.s (.pl (.int k j))) K := by
  refine Shows.idx H h0 (by simpa using h1) (fun p hp => hK p ?_)
  rw [getD_map_ci] at hp
  exact hp

/-- The second heap goes on from the first: what was there is as it was. -/
def Ext (h h' : Heap) : Prop := h.length ≤ h'.length ∧ ∀ r, r < h.length → h'[r]? = h[r]?

theorem Ext.refl (h : Heap) : Ext h h := ⟨Nat.le_refl _, fun _ _ => rfl⟩
theorem Ext.trans {a b c : Heap} (h : Ext a b) (k : Ext b c) : Ext a c := ⟨Nat.le_trans h.1 k.1, fun r hr => (k.2 r (Nat.lt_of_lt_of_le hr h.1)).trans (h.2 r hr)⟩
theorem Ext.push (h : Heap) (t : Heap) : Ext h (h ++ t) := ⟨by simp, fun r hr => by rw [List.getElem?_append_left hr]⟩
theorem Ext.set {h h' : Heap} (e : Ext h h') {r : Nat} (hr : h.length ≤ r) (x : Row) : Ext h (h'.set r x) := ⟨by simpa using e.1, fun q hq => by rw [List.getElem?_set_ne (by omega)]; exact e.2 q hq⟩
theorem Ext.pushed {h h' : Heap} (e : Ext h h') (t : Heap) : Ext h (h' ++ t) := e.trans (Ext.push h' t)

theorem get_lt {h : Heap} {r : Nat} {x : Row} (e : h[r]? = some x) : r < h.length := (List.getElem?_eq_some_iff.1 e).1

theorem Ext.row {h h' : Heap} (e : Ext h h') {r : Nat} {x : Row} (k : h[r]? = some x) : h'[r]? = some x := by rw [e.2 r (get_lt k)]; exact k

theorem Shows.ext {h h' : Heap} {x : HV} {l : List H0} (H : Shows h x l) (e : Ext h h') : Shows h' x l := by
  cases H with
  | nils a c => exact .nils a c
  | ro r off len cs hr hl => exact .ro r off len cs (e.row hr) hl
  | own r off len cs hr hl => exact .own r off len cs (e.row hr) hl

theorem Ints.ext {h h' : Heap} {x : H0} {l : List Int} (H : Ints h x l) (e : Ext h h') : Ints h' x l := Shows.ext H e

theorem get_new (h : Heap) (x : Row) : (h ++ [x])[h.length]? = some x := by rw [List.getElem?_append_right (Nat.le_refl _)]; simp

theorem set_new (h : Heap) (x y : Row) : (h ++ [x]).set h.length y = h ++ [y] := by
  rw [List.set_append_right _ _ (Nat.le_refl _)]
  simp

/-- The ints of a whole row of one's own. -/
theorem Ints.ofOwn {h : Heap} {r : Nat} {l : List Int} {t : List H0} (hr : h[r]? = some (.own (l.map ci ++ t))) : Ints h (.sl r 0 l.length) l := by
  have := Shows.own r 0 l.length _ hr (by simp)
  simp only [List.drop_zero] at this
  rw [List.take_append_of_le_length (by simp), List.take_of_length_le (by simp)] at this
  exact this

theorem HIdx.sl {h : Heap} {r off len : Nat} {j : Int} (h0 : 0 ≤ j) (h1 : j < len) {k : IntKind} {K : HV → Prop} (hK : K (.s (.ptr r (off + j.toNat)))) : HIdx h (.s (.sl r off len)) (.s (.pl (.int k j))) K :=
  ⟨r, off, len, k, j, rfl, rfl, h0, h1, hK⟩

theorem HStore.own {h : Heap} {r o : Nat} {cs : List H0} {c : H0} {K : HV → Heap → Prop} (hr : h[r]? = some (.own cs)) (ho : o < cs.length) (hc : c.one = true) (hK : K .dead (h.set r (.own (cs.set o c)))) : HStore h (.s (.ptr r o)) (.s c) K :=
  ⟨r, o, cs, c, rfl, rfl, hc, hr, ho, hK⟩

theorem HLen.sl {r off n : Nat} {K : HV → Prop} (hK : K (I n)) : HLen (.s (.sl r off n)) K := ⟨n, rfl, hK⟩

theorem HMake.ints {l : Int} {h : Heap} {K : HV → Heap → Prop} (n : Nat) (hl : l = n) (hn : n ≤ 2 ^ 41) (hK : K (.s (.sl h.length 0 n)) (h ++ [.own (List.replicate n (ci 0))])) : HMake (.int .i64 0) (I l) (I l) h K := by
  subst hl
  exact ⟨.i64, .i64, n, n, rfl, rfl, Nat.le_refl _, hn, hK⟩

/-- An empty literal. -/
theorem HLit.empty {z : Value} {h : Heap} {K : HV → Heap → Prop} (hK : K (.s (.sl h.length 0 0)) (h ++ [.own []])) : HLit z 0 (some []) h K := ⟨[], rfl, rfl, by omega, by simp, hK⟩

theorem HLit.of {z : Value} {n : Nat} {xs : List H0} {h : Heap} {K : HV → Heap → Prop} (hn : xs.length = n) (h1 : ∀ c ∈ xs, c.one = true) (h2 : n ≤ 4096) (hK : K (.s (.sl h.length 0 n)) (h ++ [.own xs])) : HLit z n (some xs) h K := ⟨xs, rfl, hn, h2, h1, hK⟩

/-- What was made anew: a slice of ints in a row of its own. -/
def Fresh (h h' : Heap) (x : H0) (l : List Int) : Prop := Ext h h' ∧ ∃ r t, x = .sl r 0 l.length ∧ h.length ≤ r ∧ h'[r]? = some (.own (l.map ci ++ t))

theorem Fresh.new (h : Heap) (l : List Int) : Fresh h (h ++ [.own (l.map ci)]) (.sl h.length 0 l.length) l := ⟨Ext.push _ _, h.length, [], rfl, Nat.le_refl _, by rw [List.append_nil]; exact get_new _ _⟩

theorem Fresh.ints {h h' : Heap} {x : H0} {l : List Int} (H : Fresh h h' x l) : Ints h' x l := by
  obtain ⟨_, r, t, rfl, _, hr⟩ := H
  exact Ints.ofOwn hr

theorem ci_one (l : List Int) : ∀ c ∈ l.map ci, c.one = true := by
  intro c hc
  obtain ⟨n, _, rfl⟩ := List.mem_map.1 hc
  rfl

theorem set_mid {α : Type} {A B : List α} {x y : α} {n : Nat} (h : A.length = n) : (A ++ x :: B).set n y = A ++ y :: B := by
  subst h
  simp

theorem set_same {h : Heap} {r : Nat} {x : Row} (e : h[r]? = some x) : h.set r x = h := by
  apply List.ext_getElem?
  intro q
  by_cases hq : r = q
  · subst hq
    rw [List.getElem?_set_self (get_lt e)]
    exact e.symm
  · rw [List.getElem?_set_ne hq]

theorem take_snoc_map {α β : Type} (f : α → β) (l : List α) (i : Nat) (hi : i < l.length) : (l.take (i + 1)).map f = (l.take i).map f ++ [f l[i]] := by
  rw [List.take_succ_eq_append_getElem hi, List.map_append]
  rfl

def natAt (vs : List HV) (k : Nat) : Nat := match vs[k]? with
  | some (.s (.pl (.int _ i))) => i.toNat
  | _ => 0

/-- A slice of slices of ints. -/
def Rows (h : Heap) (x : H0) (L : List (List Int)) : Prop := ∃ xs : List H0, Shows h (.s x) xs ∧ xs.length = L.length ∧ ∀ (i : Nat) (y : H0) (l : List Int), xs[i]? = some y → L[i]? = some l → Ints h y l

theorem Rows.ext {h h' : Heap} {x : H0} {L : List (List Int)} (H : Rows h x L) (e : Ext h h') : Rows h' x L := by
  obtain ⟨xs, h1, h2, h3⟩ := H
  exact ⟨xs, h1.ext e, h2, fun i y l a b => (h3 i y l a b).ext e⟩

theorem Rows.len {h : Heap} {x : H0} {L : List (List Int)} (H : Rows h x L) {K : HV → Prop} (hK : K (I L.length)) : HLen (.s x) K := by
  obtain ⟨xs, h1, h2, _⟩ := H
  exact h1.len (by rw [h2]; exact hK)

theorem Rows.idx {h : Heap} {x : H0} {L : List (List Int)} (H : Rows h x L) {j : Int} (h0 : 0 ≤ j) (h1 : j < L.length) {k : IntKind} {K : HV → Prop} (hK : ∀ p y, At h p y → Ints h y (L.getD j.toNat []) → K (.s p)) : HIdx h (.s x) (.s (.pl (.int k j))) K := by
  obtain ⟨xs, g1, g2, g3⟩ := H
  refine g1.idx h0 (by omega) (fun p hp => ?_)
  have hx : j.toNat < xs.length := by omega
  have hl : j.toNat < L.length := by omega
  have e1 : xs.getD j.toNat (.pl (.int .i64 0)) = xs[j.toNat] := by simp [List.getD, hx]
  have e2 : L.getD j.toNat [] = L[j.toNat] := by simp [List.getD, hl]
  rw [e1] at hp
  exact hK p _ hp (by rw [e2]; exact g3 _ _ _ (List.getElem?_eq_getElem hx) (List.getElem?_eq_getElem hl))

theorem freeze_length (h : Heap) : (freeze h).length = h.length := by simp [freeze]

theorem Shows.frz {h : Heap} {x : HV} {l : List H0} (H : Shows h x l) : Shows (freeze h) x l := by
  cases H with
  | nils a c => exact .nils a c
  | ro r off len cs hr hl => exact .ro r off len cs (freeze_get (Or.inl hr)) hl
  | own r off len cs hr hl => exact .ro r off len cs (freeze_get (Or.inr hr)) hl

theorem Ints.frz {h : Heap} {x : H0} {l : List Int} (H : Ints h x l) : Ints (freeze h) x l := Shows.frz H

theorem Rows.frz {h : Heap} {x : H0} {L : List (List Int)} (H : Rows h x L) : Rows (freeze h) x L := by
  obtain ⟨xs, h1, h2, h3⟩ := H
  exact ⟨xs, h1.frz, h2, fun i y l a b => (h3 i y l a b).frz⟩

/-- A call in a quiet region whose contract leaves the heap alone and tells the value. -/
theorem HCallQ.of {P : Program} {k : FuncId} {args : List HV} {h : Heap} {K : HV → Prop} {R : HV → Heap → Prop} (v : Value) (hc : HCalls dm P k args (freeze h) R) (hr : ∀ x h', R x h' → x = .s (.pl v)) (hK : K (.s (.pl v))) : HCallQ dm P k args h K :=
  ⟨v, hc.mono (fun x h' r => hr x h' r), hK⟩

theorem Ints.idxN {h : Heap} {x : H0} {l : List Int} (H : Ints h x l) {n : Nat} (h1 : n < l.length) {k : IntKind} {K : HV → Prop} (hK : ∀ p, At h p (ci (l.getD n 0)) → K (.s p)) : HIdx h (.s x) (.s (.pl (.int k (n : Int)))) K :=
  H.idx (by omega) (by omega) (fun p hp => hK p (by simpa using hp))

theorem Rows.idxN {h : Heap} {x : H0} {L : List (List Int)} (H : Rows h x L) {n : Nat} (h1 : n < L.length) {k : IntKind} {K : HV → Prop} (hK : ∀ p y, At h p y → Ints h y (L.getD n []) → K (.s p)) : HIdx h (.s x) (.s (.pl (.int k (n : Int)))) K :=
  H.idx (by omega) (by omega) (fun p y hp hy => hK p y hp (by simpa using hy))

end Go.Proofs.Ytecfgbjddkpkcaa.Hx
