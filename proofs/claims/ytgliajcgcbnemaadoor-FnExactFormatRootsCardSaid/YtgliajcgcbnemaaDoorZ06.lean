/-
  Words for proofs over rows: slices of integers, slices of slices of integers, and what the operations do with them.
  What is known of the types of this seat: their kinds, each a closed fact over the translation. Printed by gen_ty.py.
  The contracts of the laws' own helpers over slices of ints: copies, comparisons, marks.
  Plain functions on lists that the contracts name: matrices, words, weights, roots. Nothing of a program is named here.
  Contracts over matrices and words: IsCartan, points, words, weights, of the program and of the reference.
-/
import Derived.Test.YtgliajcgcbnemaaDoorZ05
import Derived.Test.YtgliajcgcbnemaaDoorRows
namespace Go.Proofs.YtgliajcgcbnemaaDoor.Hx
open Go.RowKit
variable {dm : Bool}

/-- A cell that holds an int. -/
abbrev ci (n : Int) : H0 := .pl (.int .i64 n)

theorem HIf.split {b : Bool} {A C : Prop} (h1 : b = true → A) (h2 : b = false → C) : HIf b A C := ⟨h1, h2⟩
theorem HIf.yes {A C : Prop} (h : A) : HIf true A C := ⟨fun _ => h, (fun h => by cases h)⟩
theorem HIf.no {A C : Prop} (h : C) : HIf false A C := ⟨(fun h => by cases h), fun _ => h⟩
theorem HIf.dec {p : Prop} [Decidable p] {A C : Prop} (h1 : p → A) (h2 : ¬ p → C) : HIf (decide p) A C := ⟨fun h => h1 (by simpa using h), fun h => h2 (by simpa using h)⟩
theorem HIf.beq {a b : Int} {A C : Prop} (h1 : a = b → A) (h2 : a ≠ b → C) : HIf (a == b) A C := ⟨fun h => h1 (by simpa using h), fun h => h2 (by simpa using h)⟩
theorem HIf.bne {a b : Int} {A C : Prop} (h1 : a ≠ b → A) (h2 : a = b → C) : HIf (a != b) A C := ⟨fun h => h1 (by simpa using h), fun h => h2 (by simpa using h)⟩
theorem HIf.bnot {b : Bool} {A C : Prop} (h : HIf b C A) : HIf (!b) A C := ⟨fun e => h.out.2 (by simpa using e), fun e => h.out.1 (by simpa using e)⟩

theorem HIf.isT {b : Bool} {A C : Prop} (h : b = true) (k : A) : HIf b A C := ⟨fun _ => k, (fun e => by rw [h] at e; cases e)⟩
theorem HIf.isF {b : Bool} {A C : Prop} (h : b = false) (k : C) : HIf b A C := ⟨(fun e => by rw [h] at e; cases e), fun _ => k⟩
theorem HIf.decT {p : Prop} [Decidable p] {A C : Prop} (h : p) (k : A) : HIf (decide p) A C := HIf.isT (decide_eq_true h) k
theorem HIf.decF {p : Prop} [Decidable p] {A C : Prop} (h : ¬ p) (k : C) : HIf (decide p) A C := HIf.isF (decide_eq_false h) k
theorem HIf.beqT {a b : Int} {A C : Prop} (h : a = b) (k : A) : HIf (a == b) A C := HIf.isT (by simpa using h) k
theorem HIf.beqF {a b : Int} {A C : Prop} (h : a ≠ b) (k : C) : HIf (a == b) A C := HIf.isF (by simpa using h) k
theorem HIf.bneT {a b : Int} {A C : Prop} (h : a ≠ b) (k : A) : HIf (a != b) A C := HIf.isT (by simpa using h) k
theorem HIf.bneF {a b : Int} {A C : Prop} (h : a = b) (k : C) : HIf (a != b) A C := HIf.isF (by simpa using h) k

theorem HArith.fits {e : Int} {K : HV → Prop} (h1 : -9223372036854775808 ≤ e) (h2 : e ≤ 9223372036854775807) (h : K (I e)) : HArith .i64 e K := ⟨by
  have : IntKind.i64.wrap e = e := IntWalk.i64_in e ⟨h1, h2⟩
  rw [this]
  exact h⟩
theorem HArith.any {k : IntKind} {e : Int} {K : HV → Prop} (h : K (.s (.pl (.int k (k.wrap e))))) : HArith k e K := ⟨h⟩
theorem HRem.of {k : IntKind} {a b : Int} {K : HV → Prop} (hb : b ≠ 0) (h : K (.s (.pl (.int k (a.tmod b))))) : HRem k a b K := ⟨hb, h⟩
theorem HQuo.of {k : IntKind} {a b : Int} {K : HV → Prop} (hb : b ≠ 0) (h : K (.s (.pl (.int k (k.wrap (a.tdiv b)))))) : HQuo k a b K := ⟨hb, h⟩

/-- p is the address of a cell that holds c. -/
def At (h : Heap) (p : H0) (c : H0) : Prop := ∃ (r o : Nat) (x : Row) (cs : List H0), p = .ptr r o ∧ h[r]? = some x ∧ x.cells? = some cs ∧ cs[o]? = some c

theorem At.load {h : Heap} {p c : H0} (H : At h p c) {K : HV → Prop} (hK : K (.s c)) : HLoad h (.s p) K := by
  obtain ⟨r, o, x, cs, rfl, h1, h2, h3⟩ := H
  exact ⟨r, o, x, cs, c, rfl, h1, h2, h3, hK⟩

theorem Shows.len {h : Heap} {x : H0} {l : List H0} (H : Shows h (.s x) l) {K : HV → Prop} (hK : K (I l.length)) : HLen (.s x) K := by
  cases H with
  | nils a c => exact ⟨0, rfl, hK⟩
  | ro r off len cs hr hl =>
    have : ((cs.drop off).take len).length = len := by simp; omega
    rw [this] at hK
    exact ⟨len, rfl, hK⟩
  | own r off len cs hr hl =>
    have : ((cs.drop off).take len).length = len := by simp; omega
    rw [this] at hK
    exact ⟨len, rfl, hK⟩

theorem Shows.idx {h : Heap} {x : H0} {l : List H0} (H : Shows h (.s x) l) {j : Int} (h0 : 0 ≤ j) (h1 : j < l.length) {k : IntKind} {K : HV → Prop} (hK : ∀ p, At h p (l.getD j.toNat (.pl (.int .i64 0))) → K (.s p)) : HIdx h (.s x) (.s (.pl (.int k j))) K := by
  have main : ∀ (r off len : Nat) (y : Row) (cs : List H0), h[r]? = some y → y.cells? = some cs → off + len ≤ cs.length → l = (cs.drop off).take len → HIdx h (.s (.sl r off len)) (.s (.pl (.int k j))) K := by
    intro r off len y cs hr hc hl e
    have hlen : l.length = len := by rw [e]; simp; omega
    refine ⟨r, off, len, k, j, rfl, rfl, h0, by omega, hK _ ⟨r, _, y, cs, rfl, hr, hc, ?_⟩⟩
    have hj : j.toNat < len := by omega
    rw [e]
    simp only [List.getD, List.getElem?_take_of_lt hj, List.getElem?_drop]
    rw [List.getElem?_eq_getElem (by omega)]
    rfl
  cases H with
  | nils a c => simp at h1; omega
  | ro r off len cs hr hl => exact main r off len _ cs hr rfl hl rfl
  | own r off len cs hr hl => exact main r off len _ cs hr rfl hl rfl

/-- A slice of ints. -/
def Ints (h : Heap) (x : H0) (l : List Int) : Prop := Shows h (.s x) (l.map ci)

theorem Ints.len {h : Heap} {x : H0} {l : List Int} (H : Ints h x l) {K : HV → Prop} (hK : K (I l.length)) : HLen (.s x) K := by
  have := Shows.len H (K := K)
  simp only [List.length_map] at this
  exact this hK

theorem getD_map_ci (l : List Int) (n : Nat) : (l.map ci).getD n (.pl (.int .i64 0)) = ci (l.getD n 0) := by
  simp only [List.getD, List.getElem?_map]
  cases l[n]? <;> rfl

theorem Ints.idx {h : Heap} {x : H0} {l : List Int} (H : Ints h x l) {j : Int} (h0 : 0 ≤ j) (h1 : j < l.length) {k : IntKind} {K : HV → Prop} (hK : ∀ p, At h p (ci (l.getD j.toNat 0)) → K (.s p)) : HIdx h (.s x) (.s (.pl (.int k j))) K := by
  refine Shows.idx H h0 (by simpa using h1) (fun p hp => hK p ?_)
  rw [getD_map_ci] at hp
  exact hp

/-- The second heap goes on from the first: what was there is as it was. -/
def Ext (h h' : Heap) : Prop := h.length ≤ h'.length ∧ ∀ r, r < h.length → h'[r]? = h[r]?

theorem Ext.refl (h : Heap) : Ext h h := ⟨Nat.le_refl _, fun _ _ => rfl⟩
theorem Ext.trans {a b c : Heap} (h : Ext a b) (k : Ext b c) : Ext a c := ⟨Nat.le_trans h.1 k.1, fun r hr => (k.2 r (Nat.lt_of_lt_of_le hr h.1)).trans (h.2 r hr)⟩
theorem Ext.push (h : Heap) (t : Heap) : Ext h (h ++ t) := ⟨by simp, fun r hr => by rw [List.getElem?_append_left hr]⟩
theorem Ext.set {h h' : Heap} (e : Ext h h') {r : Nat} (hr : h.length ≤ r) (x : Row) : Ext h (h'.set r x) := ⟨by simpa using e.1, fun q hq => by rw [List.getElem?_set_ne (by omega)]; exact e.2 q hq⟩
theorem Ext.pushed {h h' : Heap} (e : Ext h h') (t : Heap) : Ext h (h' ++ t) := e.trans (Ext.push h' t)

theorem get_lt {h : Heap} {r : Nat} {x : Row} (e : h[r]? = some x) : r < h.length := (List.getElem?_eq_some_iff.1 e).1

theorem Ext.row {h h' : Heap} (e : Ext h h') {r : Nat} {x : Row} (k : h[r]? = some x) : h'[r]? = some x := by rw [e.2 r (get_lt k)]; exact k

theorem Shows.ext {h h' : Heap} {x : HV} {l : List H0} (H : Shows h x l) (e : Ext h h') : Shows h' x l := by
  cases H with
  | nils a c => exact .nils a c
  | ro r off len cs hr hl => exact .ro r off len cs (e.row hr) hl
  | own r off len cs hr hl => exact .own r off len cs (e.row hr) hl

theorem Ints.ext {h h' : Heap} {x : H0} {l : List Int} (H : Ints h x l) (e : Ext h h') : Ints h' x l := Shows.ext H e

theorem get_new (h : Heap) (x : Row) : (h ++ [x])[h.length]? = some x := by rw [List.getElem?_append_right (Nat.le_refl _)]; simp

theorem set_new (h : Heap) (x y : Row) : (h ++ [x]).set h.length y = h ++ [y] := by
  rw [List.set_append_right _ _ (Nat.le_refl _)]
  simp

/-- The ints of a whole row of one's own. -/
theorem Ints.ofOwn {h : Heap} {r : Nat} {l : List Int} {t : List H0} (hr : h[r]? = some (.own (l.map ci ++ t))) : Ints h (.sl r 0 l.length) l := by
  have := Shows.own r 0 l.length _ hr (by simp)
  simp only [List.drop_zero] at this
  rw [List.take_append_of_le_length (by simp), List.take_of_length_le (by simp)] at this
  exact this

theorem HIdx.sl {h : Heap} {r off len : Nat} {j : Int} (h0 : 0 ≤ j) (h1 : j < len) {k : IntKind} {K : HV → Prop} (hK : K (.s (.ptr r (off + j.toNat)))) : HIdx h (.s (.sl r off len)) (.s (.pl (.int k j))) K :=
  ⟨r, off, len, k, j, rfl, rfl, h0, h1, hK⟩

theorem HStore.own {h : Heap} {r o : Nat} {cs : List H0} {c : H0} {K : HV → Heap → Prop} (hr : h[r]? = some (.own cs)) (ho : o < cs.length) (hc : c.one = true) (hK : K .dead (h.set r (.own (cs.set o c)))) : HStore h (.s (.ptr r o)) (.s c) K :=
  ⟨r, o, cs, c, rfl, rfl, hc, hr, ho, hK⟩

theorem HLen.sl {r off n : Nat} {K : HV → Prop} (hK : K (I n)) : HLen (.s (.sl r off n)) K := ⟨n, rfl, hK⟩

theorem HMake.ints {l : Int} {h : Heap} {K : HV → Heap → Prop} (n : Nat) (hl : l = n) (hn : n ≤ 2 ^ 41) (hK : K (.s (.sl h.length 0 n)) (h ++ [.own (List.replicate n (ci 0))])) : HMake (.int .i64 0) (I l) (I l) h K := by
  subst hl
  exact ⟨.i64, .i64, n, n, rfl, rfl, Nat.le_refl _, hn, hK⟩

/-- An empty literal. -/
theorem HLit.empty {z : Value} {h : Heap} {K : HV → Heap → Prop} (hK : K (.s (.sl h.length 0 0)) (h ++ [.own []])) : HLit z 0 (some []) h K := ⟨[], rfl, rfl, by omega, by simp, hK⟩

theorem HLit.of {z : Value} {n : Nat} {xs : List H0} {h : Heap} {K : HV → Heap → Prop} (hn : xs.length = n) (h1 : ∀ c ∈ xs, c.one = true) (h2 : n ≤ 4096) (hK : K (.s (.sl h.length 0 n)) (h ++ [.own xs])) : HLit z n (some xs) h K := ⟨xs, rfl, hn, h2, h1, hK⟩

/-- What was made anew: a slice of ints in a row of its own. -/
def Fresh (h h' : Heap) (x : H0) (l : List Int) : Prop := Ext h h' ∧ ∃ r t, x = .sl r 0 l.length ∧ h.length ≤ r ∧ h'[r]? = some (.own (l.map ci ++ t))

theorem Fresh.new (h : Heap) (l : List Int) : Fresh h (h ++ [.own (l.map ci)]) (.sl h.length 0 l.length) l := ⟨Ext.push _ _, h.length, [], rfl, Nat.le_refl _, by rw [List.append_nil]; exact get_new _ _⟩

theorem Fresh.ints {h h' : Heap} {x : H0} {l : List Int} (H : Fresh h h' x l) : Ints h' x l := by
  obtain ⟨_, r, t, rfl, _, hr⟩ := H
  exact Ints.ofOwn hr

theorem ci_one (l : List Int) : ∀ c ∈ l.map ci, c.one = true := by
  intro c hc
  obtain ⟨n, _, rfl⟩ := List.mem_map.1 hc
  rfl

theorem set_mid {α : Type} {A B : List α} {x y : α} {n : Nat} (h : A.length = n) : (A ++ x :: B).set n y = A ++ y :: B := by
  subst h
  simp

theorem set_same {h : Heap} {r : Nat} {x : Row} (e : h[r]? = some x) : h.set r x = h := by
  apply List.ext_getElem?
  intro q
  by_cases hq : r = q
  · subst hq
    rw [List.getElem?_set_self (get_lt e)]
    exact e.symm
  · rw [List.getElem?_set_ne hq]

theorem take_snoc_map {α β : Type} (f : α → β) (l : List α) (i : Nat) (hi : i < l.length) : (l.take (i + 1)).map f = (l.take i).map f ++ [f l[i]] := by
  rw [List.take_succ_eq_append_getElem hi, List.map_append]
  rfl

def natAt (vs : List HV) (k : Nat) : Nat := match vs[k]? with
  | some (.s (.pl (.int _ i))) => i.toNat
  | _ => 0

/-- A slice of slices of ints. -/
def Rows (h : Heap) (x : H0) (L : List (List Int)) : Prop := ∃ xs : List H0, Shows h (.s x) xs ∧ xs.length = L.length ∧ ∀ (i : Nat) (y : H0) (l : List Int), xs[i]? = some y → L[i]? = some l → Ints h y l

theorem Rows.ext {h h' : Heap} {x : H0} {L : List (List Int)} (H : Rows h x L) (e : Ext h h') : Rows h' x L := by
  obtain ⟨xs, h1, h2, h3⟩ := H
  exact ⟨xs, h1.ext e, h2, fun i y l a b => (h3 i y l a b).ext e⟩

theorem Rows.len {h : Heap} {x : H0} {L : List (List Int)} (H : Rows h x L) {K : HV → Prop} (hK : K (I L.length)) : HLen (.s x) K := by
  obtain ⟨xs, h1, h2, _⟩ := H
  exact h1.len (by rw [h2]; exact hK)

theorem Rows.idx {h : Heap} {x : H0} {L : List (List Int)} (H : Rows h x L) {j : Int} (h0 : 0 ≤ j) (h1 : j < L.length) {k : IntKind} {K : HV → Prop} (hK : ∀ p y, At h p y → Ints h y (L.getD j.toNat []) → K (.s p)) : HIdx h (.s x) (.s (.pl (.int k j))) K := by
  obtain ⟨xs, g1, g2, g3⟩ := H
  refine g1.idx h0 (by omega) (fun p hp => ?_)
  have hx : j.toNat < xs.length := by omega
  have hl : j.toNat < L.length := by omega
  have e1 : xs.getD j.toNat (.pl (.int .i64 0)) = xs[j.toNat] := by simp [List.getD, hx]
  have e2 : L.getD j.toNat [] = L[j.toNat] := by simp [List.getD, hl]
  rw [e1] at hp
  exact hK p _ hp (by rw [e2]; exact g3 _ _ _ (List.getElem?_eq_getElem hx) (List.getElem?_eq_getElem hl))

theorem freeze_length (h : Heap) : (freeze h).length = h.length := by simp [freeze]

theorem Shows.frz {h : Heap} {x : HV} {l : List H0} (H : Shows h x l) : Shows (freeze h) x l := by
  cases H with
  | nils a c => exact .nils a c
  | ro r off len cs hr hl => exact .ro r off len cs (freeze_get (Or.inl hr)) hl
  | own r off len cs hr hl => exact .ro r off len cs (freeze_get (Or.inr hr)) hl

theorem Ints.frz {h : Heap} {x : H0} {l : List Int} (H : Ints h x l) : Ints (freeze h) x l := Shows.frz H

theorem Rows.frz {h : Heap} {x : H0} {L : List (List Int)} (H : Rows h x L) : Rows (freeze h) x L := by
  obtain ⟨xs, h1, h2, h3⟩ := H
  exact ⟨xs, h1.frz, h2, fun i y l a b => (h3 i y l a b).frz⟩

/-- A call in a quiet region whose contract leaves the heap alone and tells the value. -/
theorem HCallQ.of {P : Program} {k : FuncId} {args : List HV} {h : Heap} {K : HV → Prop} {R : HV → Heap → Prop} (v : Value) (hc : HCalls dm P k args (freeze h) R) (hr : ∀ x h', R x h' → x = .s (.pl v)) (hK : K (.s (.pl v))) : HCallQ dm P k args h K :=
  ⟨v, hc.mono (fun x h' r => hr x h' r), hK⟩

theorem Ints.idxN {h : Heap} {x : H0} {l : List Int} (H : Ints h x l) {n : Nat} (h1 : n < l.length) {k : IntKind} {K : HV → Prop} (hK : ∀ p, At h p (ci (l.getD n 0)) → K (.s p)) : HIdx h (.s x) (.s (.pl (.int k (n : Int)))) K :=
  H.idx (by omega) (by omega) (fun p hp => hK p (by simpa using hp))

theorem Rows.idxN {h : Heap} {x : H0} {L : List (List Int)} (H : Rows h x L) {n : Nat} (h1 : n < L.length) {k : IntKind} {K : HV → Prop} (hK : ∀ p y, At h p y → Ints h y (L.getD n []) → K (.s p)) : HIdx h (.s x) (.s (.pl (.int k (n : Int)))) K :=
  H.idx (by omega) (by omega) (fun p y hp hy => hK p y hp (by simpa using hy))

end Go.Proofs.YtgliajcgcbnemaaDoor.Hx

namespace Go.Proofs.YtgliajcgcbnemaaDoor.Hx
open Go.RowKit

theorem inf1 : (Tryd.prog.info? 1).map (fun i => i.size) = some 1 := by kernel_rfl
theorem und1 : (Tryd.prog.underlying 1).map flat = some true := by kernel_rfl
theorem k1 : Kd.ok Tryd.prog 1 .oth := one_of_map inf1 und1
theorem inf2 : (Tryd.prog.info? 2).map (fun i => i.size) = some 1 := by kernel_rfl
theorem und2 : Tryd.prog.underlying 2 = some (.int .i64) := by kernel_rfl
theorem k2 : Kd.ok Tryd.prog 2 (.int .i64) := ⟨und2, one_of inf2 und2⟩
theorem inf3 : (Tryd.prog.info? 3).map (fun i => i.size) = some 1 := by kernel_rfl
theorem und3 : Tryd.prog.underlying 3 = some (.int .i64) := by kernel_rfl
theorem k3 : Kd.ok Tryd.prog 3 (.int .i64) := ⟨und3, one_of inf3 und3⟩
theorem inf4 : (Tryd.prog.info? 4).map (fun i => i.size) = some 1 := by kernel_rfl
theorem und4 : Tryd.prog.underlying 4 = some (.bool) := by kernel_rfl
theorem k4 : Kd.ok Tryd.prog 4 (.bool) := ⟨und4, one_of inf4 und4⟩
theorem inf5 : (Tryd.prog.info? 5).map (fun i => i.size) = some 1 := by kernel_rfl
theorem und5 : Tryd.prog.underlying 5 = some (.int .u8) := by kernel_rfl
theorem k5 : Kd.ok Tryd.prog 5 (.int .u8) := ⟨und5, one_of inf5 und5⟩
theorem inf6 : (Tryd.prog.info? 6).map (fun i => i.size) = some 1 := by kernel_rfl
theorem und6 : Tryd.prog.underlying 6 = some (.int .u8) := by kernel_rfl
theorem k6 : Kd.ok Tryd.prog 6 (.int .u8) := ⟨und6, one_of inf6 und6⟩
theorem inf9 : (Tryd.prog.info? 9).map (fun i => i.size) = some 1 := by kernel_rfl
theorem und9 : Tryd.prog.underlying 9 = some (.string) := by kernel_rfl
theorem k9 : Kd.ok Tryd.prog 9 (.str) := ⟨und9, one_of inf9 und9⟩
theorem inf10 : (Tryd.prog.info? 10).map (fun i => i.size) = some 1 := by kernel_rfl
theorem und10 : Tryd.prog.underlying 10 = some (.string) := by kernel_rfl
theorem k10 : Kd.ok Tryd.prog 10 (.str) := ⟨und10, one_of inf10 und10⟩
theorem inf11 : (Tryd.prog.info? 11).map (fun i => i.size) = some 1 := by kernel_rfl
theorem und11 : Tryd.prog.underlying 11 = some (.string) := by kernel_rfl
theorem k11 : Kd.ok Tryd.prog 11 (.str) := ⟨und11, one_of inf11 und11⟩
theorem inf12 : (Tryd.prog.info? 12).map (fun i => i.size) = some 1 := by kernel_rfl
theorem und12 : Tryd.prog.underlying 12 = some (.int .u64) := by kernel_rfl
theorem k12 : Kd.ok Tryd.prog 12 (.int .u64) := ⟨und12, one_of inf12 und12⟩
theorem inf15 : (Tryd.prog.info? 15).map (fun i => i.size) = some 1 := by kernel_rfl
theorem und15 : (Tryd.prog.underlying 15).map flat = some true := by kernel_rfl
theorem k15 : Kd.ok Tryd.prog 15 .oth := one_of_map inf15 und15
theorem inf16 : (Tryd.prog.info? 16).map (fun i => i.size) = some 1 := by kernel_rfl
theorem und16 : (Tryd.prog.underlying 16).map flat = some true := by kernel_rfl
theorem k16 : Kd.ok Tryd.prog 16 .oth := one_of_map inf16 und16
theorem inf17 : (Tryd.prog.info? 17).map (fun i => i.size) = some 1 := by kernel_rfl
theorem und17 : (Tryd.prog.underlying 17).map flat = some true := by kernel_rfl
theorem k17 : Kd.ok Tryd.prog 17 .oth := one_of_map inf17 und17
theorem inf20 : (Tryd.prog.info? 20).map (fun i => i.size) = some 1 := by kernel_rfl
theorem und20 : Tryd.prog.underlying 20 = some (.interface (Tryd.prog.methodsAt 20)) := by kernel_rfl
theorem k20 : Kd.ok Tryd.prog 20 (.ifc) := ⟨und20, one_of inf20 und20⟩
theorem inf21 : (Tryd.prog.info? 21).map (fun i => i.size) = some 1 := by kernel_rfl
theorem und21 : Tryd.prog.underlying 21 = some (.int .i32) := by kernel_rfl
theorem k21 : Kd.ok Tryd.prog 21 (.int .i32) := ⟨und21, one_of inf21 und21⟩
theorem inf22 : (Tryd.prog.info? 22).map (fun i => i.size) = some 1 := by kernel_rfl
theorem und22 : Tryd.prog.underlying 22 = some (.slice 29) := by kernel_rfl
theorem elt22 : (Tryd.prog.info? 29).map (fun i => (i.zero, i.size, i.bytes)) = some (some (.slice none 0 0), 1, 24) := by kernel_rfl
theorem k22 : Kd.ok Tryd.prog 22 (.sl (.slice none 0 0)) := sl_of inf22 und22 elt22 (by decide) rfl rfl
theorem inf23 : (Tryd.prog.info? 23).map (fun i => i.size) = some 1 := by kernel_rfl
theorem und23 : (Tryd.prog.underlying 23).map flat = some true := by kernel_rfl
theorem k23 : Kd.ok Tryd.prog 23 .oth := one_of_map inf23 und23
theorem inf24 : (Tryd.prog.info? 24).map (fun i => i.size) = some 1 := by kernel_rfl
theorem und24 : (Tryd.prog.underlying 24).map flat = some true := by kernel_rfl
theorem k24 : Kd.ok Tryd.prog 24 .oth := one_of_map inf24 und24
theorem inf25 : (Tryd.prog.info? 25).map (fun i => i.size) = some 1 := by kernel_rfl
theorem und25 : (Tryd.prog.underlying 25).map flat = some true := by kernel_rfl
theorem k25 : Kd.ok Tryd.prog 25 .oth := one_of_map inf25 und25
theorem inf26 : (Tryd.prog.info? 26).map (fun i => i.size) = some 1 := by kernel_rfl
theorem und26 : (Tryd.prog.underlying 26).map flat = some true := by kernel_rfl
theorem k26 : Kd.ok Tryd.prog 26 .oth := one_of_map inf26 und26
theorem inf27 : (Tryd.prog.info? 27).map (fun i => i.size) = some 1 := by kernel_rfl
theorem und27 : (Tryd.prog.underlying 27).map flat = some true := by kernel_rfl
theorem k27 : Kd.ok Tryd.prog 27 .oth := one_of_map inf27 und27
theorem inf28 : (Tryd.prog.info? 28).map (fun i => i.size) = some 1 := by kernel_rfl
theorem und28 : (Tryd.prog.underlying 28).map flat = some true := by kernel_rfl
theorem k28 : Kd.ok Tryd.prog 28 .oth := one_of_map inf28 und28
theorem inf29 : (Tryd.prog.info? 29).map (fun i => i.size) = some 1 := by kernel_rfl
theorem und29 : Tryd.prog.underlying 29 = some (.slice 3) := by kernel_rfl
theorem elt29 : (Tryd.prog.info? 3).map (fun i => (i.zero, i.size, i.bytes)) = some (some (.int .i64 0), 1, 8) := by kernel_rfl
theorem k29 : Kd.ok Tryd.prog 29 (.sl (.int .i64 0)) := sl_of inf29 und29 elt29 (by decide) rfl rfl
theorem inf30 : (Tryd.prog.info? 30).map (fun i => i.size) = some 1 := by kernel_rfl
theorem und30 : (Tryd.prog.underlying 30).map flat = some true := by kernel_rfl
theorem k30 : Kd.ok Tryd.prog 30 .oth := one_of_map inf30 und30
theorem inf31 : (Tryd.prog.info? 31).map (fun i => i.size) = some 1 := by kernel_rfl
theorem und31 : (Tryd.prog.underlying 31).map flat = some true := by kernel_rfl
theorem k31 : Kd.ok Tryd.prog 31 .oth := one_of_map inf31 und31
theorem inf32 : (Tryd.prog.info? 32).map (fun i => i.size) = some 1 := by kernel_rfl
theorem und32 : Tryd.prog.underlying 32 = some (.slice 9) := by kernel_rfl
theorem elt32 : (Tryd.prog.info? 9).map (fun i => (i.zero, i.size, i.bytes)) = some (some (.string ByteArray.empty), 1, 16) := by kernel_rfl
theorem k32 : Kd.ok Tryd.prog 32 (.sl (.string ByteArray.empty)) := sl_of inf32 und32 elt32 (by decide) rfl rfl
theorem inf33 : (Tryd.prog.info? 33).map (fun i => i.size) = some 1 := by kernel_rfl
theorem und33 : (Tryd.prog.underlying 33).map flat = some true := by kernel_rfl
theorem k33 : Kd.ok Tryd.prog 33 .oth := one_of_map inf33 und33
theorem inf34 : (Tryd.prog.info? 34).map (fun i => i.size) = some 1 := by kernel_rfl
theorem und34 : (Tryd.prog.underlying 34).map flat = some true := by kernel_rfl
theorem k34 : Kd.ok Tryd.prog 34 .oth := one_of_map inf34 und34
theorem inf35 : (Tryd.prog.info? 35).map (fun i => i.size) = some 1 := by kernel_rfl
theorem und35 : (Tryd.prog.underlying 35).map flat = some true := by kernel_rfl
theorem k35 : Kd.ok Tryd.prog 35 .oth := one_of_map inf35 und35
theorem inf36 : (Tryd.prog.info? 36).map (fun i => i.size) = some 1 := by kernel_rfl
theorem und36 : (Tryd.prog.underlying 36).map flat = some true := by kernel_rfl
theorem k36 : Kd.ok Tryd.prog 36 .oth := one_of_map inf36 und36
theorem inf37 : (Tryd.prog.info? 37).map (fun i => i.size) = some 1 := by kernel_rfl
theorem und37 : (Tryd.prog.underlying 37).map flat = some true := by kernel_rfl
theorem k37 : Kd.ok Tryd.prog 37 .oth := one_of_map inf37 und37
theorem inf38 : (Tryd.prog.info? 38).map (fun i => i.size) = some 1 := by kernel_rfl
theorem und38 : Tryd.prog.underlying 38 = some (.slice 5) := by kernel_rfl
theorem elt38 : (Tryd.prog.info? 5).map (fun i => (i.zero, i.size, i.bytes)) = some (some (.int .u8 0), 1, 1) := by kernel_rfl
theorem k38 : Kd.ok Tryd.prog 38 (.sl (.int .u8 0)) := sl_of inf38 und38 elt38 (by decide) rfl rfl
theorem inf41 : (Tryd.prog.info? 41).map (fun i => i.size) = some 1 := by kernel_rfl
theorem und41 : (Tryd.prog.underlying 41).map flat = some true := by kernel_rfl
theorem k41 : Kd.ok Tryd.prog 41 .oth := one_of_map inf41 und41
theorem inf42 : (Tryd.prog.info? 42).map (fun i => i.size) = some 1 := by kernel_rfl
theorem und42 : Tryd.prog.underlying 42 = some (.interface (Tryd.prog.methodsAt 42)) := by kernel_rfl
theorem k42 : Kd.ok Tryd.prog 42 (.ifc) := ⟨und42, one_of inf42 und42⟩
theorem inf43 : (Tryd.prog.info? 43).map (fun i => i.size) = some 1 := by kernel_rfl
theorem und43 : Tryd.prog.underlying 43 = some (.interface (Tryd.prog.methodsAt 43)) := by kernel_rfl
theorem k43 : Kd.ok Tryd.prog 43 (.ifc) := ⟨und43, one_of inf43 und43⟩
theorem inf45 : (Tryd.prog.info? 45).map (fun i => i.size) = some 1 := by kernel_rfl
theorem und45 : (Tryd.prog.underlying 45).map flat = some true := by kernel_rfl
theorem k45 : Kd.ok Tryd.prog 45 .oth := one_of_map inf45 und45
theorem inf46 : (Tryd.prog.info? 46).map (fun i => i.size) = some 1 := by kernel_rfl
theorem und46 : (Tryd.prog.underlying 46).map flat = some true := by kernel_rfl
theorem k46 : Kd.ok Tryd.prog 46 .oth := one_of_map inf46 und46
theorem inf47 : (Tryd.prog.info? 47).map (fun i => i.size) = some 1 := by kernel_rfl
theorem und47 : (Tryd.prog.underlying 47).map flat = some true := by kernel_rfl
theorem k47 : Kd.ok Tryd.prog 47 .oth := one_of_map inf47 und47
theorem inf49 : (Tryd.prog.info? 49).map (fun i => i.size) = some 1 := by kernel_rfl
theorem und49 : (Tryd.prog.underlying 49).map flat = some true := by kernel_rfl
theorem k49 : Kd.ok Tryd.prog 49 .oth := one_of_map inf49 und49
theorem inf50 : (Tryd.prog.info? 50).map (fun i => i.size) = some 1 := by kernel_rfl
theorem und50 : (Tryd.prog.underlying 50).map flat = some true := by kernel_rfl
theorem k50 : Kd.ok Tryd.prog 50 .oth := one_of_map inf50 und50
theorem inf51 : (Tryd.prog.info? 51).map (fun i => i.size) = some 1 := by kernel_rfl
theorem und51 : (Tryd.prog.underlying 51).map flat = some true := by kernel_rfl
theorem k51 : Kd.ok Tryd.prog 51 .oth := one_of_map inf51 und51
theorem inf53 : (Tryd.prog.info? 53).map (fun i => i.size) = some 1 := by kernel_rfl
theorem und53 : Tryd.prog.underlying 53 = some (.int .u64) := by kernel_rfl
theorem k53 : Kd.ok Tryd.prog 53 (.int .u64) := ⟨und53, one_of inf53 und53⟩
theorem inf54 : (Tryd.prog.info? 54).map (fun i => i.size) = some 1 := by kernel_rfl
theorem und54 : (Tryd.prog.underlying 54).map flat = some true := by kernel_rfl
theorem k54 : Kd.ok Tryd.prog 54 .oth := one_of_map inf54 und54
theorem inf55 : (Tryd.prog.info? 55).map (fun i => i.size) = some 1 := by kernel_rfl
theorem und55 : (Tryd.prog.underlying 55).map flat = some true := by kernel_rfl
theorem k55 : Kd.ok Tryd.prog 55 .oth := one_of_map inf55 und55
theorem inf57 : (Tryd.prog.info? 57).map (fun i => i.size) = some 1 := by kernel_rfl
theorem und57 : (Tryd.prog.underlying 57).map flat = some true := by kernel_rfl
theorem k57 : Kd.ok Tryd.prog 57 .oth := one_of_map inf57 und57
theorem inf58 : (Tryd.prog.info? 58).map (fun i => i.size) = some 1 := by kernel_rfl
theorem und58 : (Tryd.prog.underlying 58).map flat = some true := by kernel_rfl
theorem k58 : Kd.ok Tryd.prog 58 .oth := one_of_map inf58 und58
theorem inf59 : (Tryd.prog.info? 59).map (fun i => i.size) = some 1 := by kernel_rfl
theorem und59 : (Tryd.prog.underlying 59).map flat = some true := by kernel_rfl
theorem k59 : Kd.ok Tryd.prog 59 .oth := one_of_map inf59 und59
theorem inf61 : (Tryd.prog.info? 61).map (fun i => i.size) = some 1 := by kernel_rfl
theorem und61 : Tryd.prog.underlying 61 = some (.int .u32) := by kernel_rfl
theorem k61 : Kd.ok Tryd.prog 61 (.int .u32) := ⟨und61, one_of inf61 und61⟩
theorem inf63 : (Tryd.prog.info? 63).map (fun i => i.size) = some 1 := by kernel_rfl
theorem und63 : (Tryd.prog.underlying 63).map flat = some true := by kernel_rfl
theorem k63 : Kd.ok Tryd.prog 63 .oth := one_of_map inf63 und63
theorem inf64 : (Tryd.prog.info? 64).map (fun i => i.size) = some 1 := by kernel_rfl
theorem und64 : Tryd.prog.underlying 64 = some (.int .u64) := by kernel_rfl
theorem k64 : Kd.ok Tryd.prog 64 (.int .u64) := ⟨und64, one_of inf64 und64⟩
theorem inf65 : (Tryd.prog.info? 65).map (fun i => i.size) = some 1 := by kernel_rfl
theorem und65 : (Tryd.prog.underlying 65).map flat = some true := by kernel_rfl
theorem k65 : Kd.ok Tryd.prog 65 .oth := one_of_map inf65 und65
theorem inf66 : (Tryd.prog.info? 66).map (fun i => i.size) = some 1 := by kernel_rfl
theorem und66 : (Tryd.prog.underlying 66).map flat = some true := by kernel_rfl
theorem k66 : Kd.ok Tryd.prog 66 .oth := one_of_map inf66 und66
theorem inf74 : (Tryd.prog.info? 74).map (fun i => i.size) = some 1 := by kernel_rfl
theorem und74 : (Tryd.prog.underlying 74).map flat = some true := by kernel_rfl
theorem k74 : Kd.ok Tryd.prog 74 .oth := one_of_map inf74 und74
theorem inf75 : (Tryd.prog.info? 75).map (fun i => i.size) = some 1 := by kernel_rfl
theorem und75 : Tryd.prog.underlying 75 = some (.int .u8) := by kernel_rfl
theorem k75 : Kd.ok Tryd.prog 75 (.int .u8) := ⟨und75, one_of inf75 und75⟩
theorem inf76 : (Tryd.prog.info? 76).map (fun i => i.size) = some 1 := by kernel_rfl
theorem und76 : Tryd.prog.underlying 76 = some (.int .u8) := by kernel_rfl
theorem k76 : Kd.ok Tryd.prog 76 (.int .u8) := ⟨und76, one_of inf76 und76⟩
theorem inf77 : (Tryd.prog.info? 77).map (fun i => i.size) = some 1 := by kernel_rfl
theorem und77 : (Tryd.prog.underlying 77).map flat = some true := by kernel_rfl
theorem k77 : Kd.ok Tryd.prog 77 .oth := one_of_map inf77 und77
theorem inf78 : (Tryd.prog.info? 78).map (fun i => i.size) = some 1 := by kernel_rfl
theorem und78 : Tryd.prog.underlying 78 = some (.int .i32) := by kernel_rfl
theorem k78 : Kd.ok Tryd.prog 78 (.int .i32) := ⟨und78, one_of inf78 und78⟩
theorem inf79 : (Tryd.prog.info? 79).map (fun i => i.size) = some 1 := by kernel_rfl
theorem und79 : Tryd.prog.underlying 79 = some (.int .i32) := by kernel_rfl
theorem k79 : Kd.ok Tryd.prog 79 (.int .i32) := ⟨und79, one_of inf79 und79⟩
theorem und52 : Tryd.prog.underlying 52 = some (.array 24 5) := by kernel_rfl
theorem inf52 : (Tryd.prog.info? 52).map (fun i => (i.zero, i.size)) = some (some (.agg (Array.replicate 24 (Value.int .u8 0))), 24) := by kernel_rfl
theorem elt52 : (Tryd.prog.info? 5).map (fun i => i.size) = some 1 := by kernel_rfl
theorem k52 : Kd.ok Tryd.prog 52 (.arr 24 (Value.int .u8 0)) := arr_of und52 inf52 elt52 k5 rfl rfl
theorem und60 : Tryd.prog.underlying 60 = some (.array 20 53) := by kernel_rfl
theorem inf60 : (Tryd.prog.info? 60).map (fun i => (i.zero, i.size)) = some (some (.agg (Array.replicate 20 (Value.int .u64 0))), 20) := by kernel_rfl
theorem elt60 : (Tryd.prog.info? 53).map (fun i => i.size) = some 1 := by kernel_rfl
theorem k60 : Kd.ok Tryd.prog 60 (.arr 20 (Value.int .u64 0)) := arr_of und60 inf60 elt60 k53 rfl rfl
theorem und67 : Tryd.prog.underlying 67 = some (.array 32 5) := by kernel_rfl
theorem inf67 : (Tryd.prog.info? 67).map (fun i => (i.zero, i.size)) = some (some (.agg (Array.replicate 32 (Value.int .u8 0))), 32) := by kernel_rfl
theorem elt67 : (Tryd.prog.info? 5).map (fun i => i.size) = some 1 := by kernel_rfl
theorem k67 : Kd.ok Tryd.prog 67 (.arr 32 (Value.int .u8 0)) := arr_of und67 inf67 elt67 k5 rfl rfl
theorem und68 : Tryd.prog.underlying 68 = some (.array 64 5) := by kernel_rfl
theorem inf68 : (Tryd.prog.info? 68).map (fun i => (i.zero, i.size)) = some (some (.agg (Array.replicate 64 (Value.int .u8 0))), 64) := by kernel_rfl
theorem elt68 : (Tryd.prog.info? 5).map (fun i => i.size) = some 1 := by kernel_rfl
theorem k68 : Kd.ok Tryd.prog 68 (.arr 64 (Value.int .u8 0)) := arr_of und68 inf68 elt68 k5 rfl rfl

/-- The kinds of the types, by their numbers. -/
def kd (t : TypeId) : Kd :=
  bif Nat.beq t 1 then .oth else bif Nat.beq t 2 then .int .i64 else bif Nat.beq t 3 then .int .i64 else bif Nat.beq t 4 then .bool else bif Nat.beq t 5 then .int .u8 else bif Nat.beq t 6 then .int .u8 else bif Nat.beq t 9 then .str else bif Nat.beq t 10 then .str else bif Nat.beq t 11 then .str else bif Nat.beq t 12 then .int .u64 else bif Nat.beq t 15 then .oth else bif Nat.beq t 16 then .oth else bif Nat.beq t 17 then .oth else bif Nat.beq t 20 then .ifc else bif Nat.beq t 21 then .int .i32 else bif Nat.beq t 22 then .sl (.slice none 0 0) else bif Nat.beq t 23 then .oth else bif Nat.beq t 24 then .oth else bif Nat.beq t 25 then .oth else bif Nat.beq t 26 then .oth else bif Nat.beq t 27 then .oth else bif Nat.beq t 28 then .oth else bif Nat.beq t 29 then .sl (.int .i64 0) else bif Nat.beq t 30 then .oth else bif Nat.beq t 31 then .oth else bif Nat.beq t 32 then .sl (.string ByteArray.empty) else bif Nat.beq t 33 then .oth else bif Nat.beq t 34 then .oth else bif Nat.beq t 35 then .oth else bif Nat.beq t 36 then .oth else bif Nat.beq t 37 then .oth else bif Nat.beq t 38 then .sl (.int .u8 0) else bif Nat.beq t 41 then .oth else bif Nat.beq t 42 then .ifc else bif Nat.beq t 43 then .ifc else bif Nat.beq t 45 then .oth else bif Nat.beq t 46 then .oth else bif Nat.beq t 47 then .oth else bif Nat.beq t 49 then .oth else bif Nat.beq t 50 then .oth else bif Nat.beq t 51 then .oth else bif Nat.beq t 53 then .int .u64 else bif Nat.beq t 54 then .oth else bif Nat.beq t 55 then .oth else bif Nat.beq t 57 then .oth else bif Nat.beq t 58 then .oth else bif Nat.beq t 59 then .oth else bif Nat.beq t 61 then .int .u32 else bif Nat.beq t 63 then .oth else bif Nat.beq t 64 then .int .u64 else bif Nat.beq t 65 then .oth else bif Nat.beq t 66 then .oth else bif Nat.beq t 74 then .oth else bif Nat.beq t 75 then .int .u8 else bif Nat.beq t 76 then .int .u8 else bif Nat.beq t 77 then .oth else bif Nat.beq t 78 then .int .i32 else bif Nat.beq t 79 then .int .i32 else bif Nat.beq t 52 then .arr 24 (Value.int .u8 0) else bif Nat.beq t 60 then .arr 20 (Value.int .u64 0) else bif Nat.beq t 67 then .arr 32 (Value.int .u8 0) else bif Nat.beq t 68 then .arr 64 (Value.int .u8 0) else .no

theorem kd_ok (t : TypeId) : Kd.ok Tryd.prog t (kd t) := by
  unfold kd
  by_cases h1 : t = 1
  · subst h1; exact k1
  rw [beq_ne h1, cond_false]
  by_cases h2 : t = 2
  · subst h2; exact k2
  rw [beq_ne h2, cond_false]
  by_cases h3 : t = 3
  · subst h3; exact k3
  rw [beq_ne h3, cond_false]
  by_cases h4 : t = 4
  · subst h4; exact k4
  rw [beq_ne h4, cond_false]
  by_cases h5 : t = 5
  · subst h5; exact k5
  rw [beq_ne h5, cond_false]
  by_cases h6 : t = 6
  · subst h6; exact k6
  rw [beq_ne h6, cond_false]
  by_cases h9 : t = 9
  · subst h9; exact k9
  rw [beq_ne h9, cond_false]
  by_cases h10 : t = 10
  · subst h10; exact k10
  rw [beq_ne h10, cond_false]
  by_cases h11 : t = 11
  · subst h11; exact k11
  rw [beq_ne h11, cond_false]
  by_cases h12 : t = 12
  · subst h12; exact k12
  rw [beq_ne h12, cond_false]
  by_cases h15 : t = 15
  · subst h15; exact k15
  rw [beq_ne h15, cond_false]
  by_cases h16 : t = 16
  · subst h16; exact k16
  rw [beq_ne h16, cond_false]
  by_cases h17 : t = 17
  · subst h17; exact k17
  rw [beq_ne h17, cond_false]
  by_cases h20 : t = 20
  · subst h20; exact k20
  rw [beq_ne h20, cond_false]
  by_cases h21 : t = 21
  · subst h21; exact k21
  rw [beq_ne h21, cond_false]
  by_cases h22 : t = 22
  · subst h22; exact k22
  rw [beq_ne h22, cond_false]
  by_cases h23 : t = 23
  · subst h23; exact k23
  rw [beq_ne h23, cond_false]
  by_cases h24 : t = 24
  · subst h24; exact k24
  rw [beq_ne h24, cond_false]
  by_cases h25 : t = 25
  · subst h25; exact k25
  rw [beq_ne h25, cond_false]
  by_cases h26 : t = 26
  · subst h26; exact k26
  rw [beq_ne h26, cond_false]
  by_cases h27 : t = 27
  · subst h27; exact k27
  rw [beq_ne h27, cond_false]
  by_cases h28 : t = 28
  · subst h28; exact k28
  rw [beq_ne h28, cond_false]
  by_cases h29 : t = 29
  · subst h29; exact k29
  rw [beq_ne h29, cond_false]
  by_cases h30 : t = 30
  · subst h30; exact k30
  rw [beq_ne h30, cond_false]
  by_cases h31 : t = 31
  · subst h31; exact k31
  rw [beq_ne h31, cond_false]
  by_cases h32 : t = 32
  · subst h32; exact k32
  rw [beq_ne h32, cond_false]
  by_cases h33 : t = 33
  · subst h33; exact k33
  rw [beq_ne h33, cond_false]
  by_cases h34 : t = 34
  · subst h34; exact k34
  rw [beq_ne h34, cond_false]
  by_cases h35 : t = 35
  · subst h35; exact k35
  rw [beq_ne h35, cond_false]
  by_cases h36 : t = 36
  · subst h36; exact k36
  rw [beq_ne h36, cond_false]
  by_cases h37 : t = 37
  · subst h37; exact k37
  rw [beq_ne h37, cond_false]
  by_cases h38 : t = 38
  · subst h38; exact k38
  rw [beq_ne h38, cond_false]
  by_cases h41 : t = 41
  · subst h41; exact k41
  rw [beq_ne h41, cond_false]
  by_cases h42 : t = 42
  · subst h42; exact k42
  rw [beq_ne h42, cond_false]
  by_cases h43 : t = 43
  · subst h43; exact k43
  rw [beq_ne h43, cond_false]
  by_cases h45 : t = 45
  · subst h45; exact k45
  rw [beq_ne h45, cond_false]
  by_cases h46 : t = 46
  · subst h46; exact k46
  rw [beq_ne h46, cond_false]
  by_cases h47 : t = 47
  · subst h47; exact k47
  rw [beq_ne h47, cond_false]
  by_cases h49 : t = 49
  · subst h49; exact k49
  rw [beq_ne h49, cond_false]
  by_cases h50 : t = 50
  · subst h50; exact k50
  rw [beq_ne h50, cond_false]
  by_cases h51 : t = 51
  · subst h51; exact k51
  rw [beq_ne h51, cond_false]
  by_cases h53 : t = 53
  · subst h53; exact k53
  rw [beq_ne h53, cond_false]
  by_cases h54 : t = 54
  · subst h54; exact k54
  rw [beq_ne h54, cond_false]
  by_cases h55 : t = 55
  · subst h55; exact k55
  rw [beq_ne h55, cond_false]
  by_cases h57 : t = 57
  · subst h57; exact k57
  rw [beq_ne h57, cond_false]
  by_cases h58 : t = 58
  · subst h58; exact k58
  rw [beq_ne h58, cond_false]
  by_cases h59 : t = 59
  · subst h59; exact k59
  rw [beq_ne h59, cond_false]
  by_cases h61 : t = 61
  · subst h61; exact k61
  rw [beq_ne h61, cond_false]
  by_cases h63 : t = 63
  · subst h63; exact k63
  rw [beq_ne h63, cond_false]
  by_cases h64 : t = 64
  · subst h64; exact k64
  rw [beq_ne h64, cond_false]
  by_cases h65 : t = 65
  · subst h65; exact k65
  rw [beq_ne h65, cond_false]
  by_cases h66 : t = 66
  · subst h66; exact k66
  rw [beq_ne h66, cond_false]
  by_cases h74 : t = 74
  · subst h74; exact k74
  rw [beq_ne h74, cond_false]
  by_cases h75 : t = 75
  · subst h75; exact k75
  rw [beq_ne h75, cond_false]
  by_cases h76 : t = 76
  · subst h76; exact k76
  rw [beq_ne h76, cond_false]
  by_cases h77 : t = 77
  · subst h77; exact k77
  rw [beq_ne h77, cond_false]
  by_cases h78 : t = 78
  · subst h78; exact k78
  rw [beq_ne h78, cond_false]
  by_cases h79 : t = 79
  · subst h79; exact k79
  rw [beq_ne h79, cond_false]
  by_cases h52 : t = 52
  · subst h52; exact k52
  rw [beq_ne h52, cond_false]
  by_cases h60 : t = 60
  · subst h60; exact k60
  rw [beq_ne h60, cond_false]
  by_cases h67 : t = 67
  · subst h67; exact k67
  rw [beq_ne h67, cond_false]
  by_cases h68 : t = 68
  · subst h68; exact k68
  rw [beq_ne h68, cond_false]
  exact trivial

theorem mixed : Tryd.prog.follows .mixedOrders = true := by kernel_rfl

end Go.Proofs.YtgliajcgcbnemaaDoor.Hx

namespace Go.Proofs.YtgliajcgcbnemaaDoor.Hx
open Go.RowKit
variable {dm : Bool}

theorem eqIntS_any (h : Heap) (x y : H0) (a b : List Int) (hx : Ints h x a) (hy : Ints h y b) (hal : a.length ≤ 2199023255552) :
    HCalls dm Tryd.prog 14 [.s x, .s y] h (fun r h' => r = B (decide (a = b)) ∧ h' = h) := by
  refine calls_of_hFun (m := 0) kd_ok mixed Tryd.func14 rfl (by kernel_rfl) rfl rfl (of_decide_eq_true rfl) ?_; unfold hFun; (conv => whnf)
  (repeat (first | (refine ⟨rfl, Ints.len (by assumption) ?_⟩; conv => whnf) | (refine ⟨rfl, Rows.len (by assumption) ?_⟩; conv => whnf) | (refine ⟨rfl, HLen.sl ?_⟩; conv => whnf) | (refine ⟨rfl, At.load (by assumption) ?_⟩; conv => whnf) | (refine HIf.yes ?_; conv => whnf) | (refine HIf.no ?_; conv => whnf) | (refine HIf.isT (by assumption) ?_; conv => whnf) | (refine HIf.isF (by assumption) ?_; conv => whnf) | (refine HIf.decT (by assumption) ?_; conv => whnf) | (refine HIf.decF (by assumption) ?_; conv => whnf) | (refine HIf.beqT (by assumption) ?_; conv => whnf) | (refine HIf.beqF (by assumption) ?_; conv => whnf) | (refine HIf.bneT (by assumption) ?_; conv => whnf) | (refine HIf.bneF (by assumption) ?_; conv => whnf) | (refine ⟨rfl, Ints.idxN (by assumption) (by omega) (fun p hp => ?_)⟩; conv => whnf) | (refine ⟨rfl, Rows.idxN (by assumption) (by omega) (fun p y hp hy => ?_)⟩; conv => whnf) | (refine And.intro (show Kd.isBool _ = true from rfl) ?_; conv => whnf) | (refine ⟨rfl, Ints.idx (by assumption) (by omega) (by omega) (fun p hp => ?_)⟩; conv => whnf) | (refine ⟨rfl, Rows.idx (by assumption) (by omega) (by omega) (fun p y hp hy => ?_)⟩; conv => whnf) | (refine HArith.fits (by omega) (by omega) ?_; conv => whnf) | (refine Or.inl (And.intro (show Region.lexB _ _ = true by kernel_rfl) ?_); conv => whnf)))
  refine HIf.bne (fun hne => ?_) (fun heq => ?_)
  · (conv => whnf)
    have : ¬ a = b := fun e => hne (by rw [e])
    rw [decide_eq_false this]
    exact ⟨rfl, rfl⟩
  · (conv => whnf)
    refine HLoop.intro [5] [11, 12, 13, 14, 17, 18, 19, 20, 21, 22, 23, 24, 25, 4, 15, 16, 5] (by kernel_rfl) (by kernel_rfl) (fun vs h' => ∃ i : Nat, vs = [I i] ∧ h' = h ∧ i ≤ a.length ∧ a.take i = b.take i) (fun vs _ => a.length - natAt vs 0) ⟨0, rfl, rfl, by omega, by simp⟩ ?_
    rintro vs h' ⟨i, rfl, rfl, hi, hab⟩
    (conv => whnf)
    (repeat (first | (refine ⟨rfl, Ints.len (by assumption) ?_⟩; conv => whnf) | (refine ⟨rfl, Rows.len (by assumption) ?_⟩; conv => whnf) | (refine ⟨rfl, HLen.sl ?_⟩; conv => whnf) | (refine ⟨rfl, At.load (by assumption) ?_⟩; conv => whnf) | (refine HIf.yes ?_; conv => whnf) | (refine HIf.no ?_; conv => whnf) | (refine HIf.isT (by assumption) ?_; conv => whnf) | (refine HIf.isF (by assumption) ?_; conv => whnf) | (refine HIf.decT (by assumption) ?_; conv => whnf) | (refine HIf.decF (by assumption) ?_; conv => whnf) | (refine HIf.beqT (by assumption) ?_; conv => whnf) | (refine HIf.beqF (by assumption) ?_; conv => whnf) | (refine HIf.bneT (by assumption) ?_; conv => whnf) | (refine HIf.bneF (by assumption) ?_; conv => whnf) | (refine ⟨rfl, Ints.idxN (by assumption) (by omega) (fun p hp => ?_)⟩; conv => whnf) | (refine ⟨rfl, Rows.idxN (by assumption) (by omega) (fun p y hp hy => ?_)⟩; conv => whnf) | (refine And.intro (show Kd.isBool _ = true from rfl) ?_; conv => whnf) | (refine ⟨rfl, Ints.idx (by assumption) (by omega) (by omega) (fun p hp => ?_)⟩; conv => whnf) | (refine ⟨rfl, Rows.idx (by assumption) (by omega) (by omega) (fun p y hp hy => ?_)⟩; conv => whnf) | (refine HArith.fits (by omega) (by omega) ?_; conv => whnf) | (refine Or.inl (And.intro (show Region.lexB _ _ = true by kernel_rfl) ?_); conv => whnf)))
    refine HIf.dec (fun hlt => ?_) (fun hge => ?_)
    · (conv => whnf)
      have hlt' : (i : Int) < b.length := by omega
      (repeat (first | (refine ⟨rfl, Ints.len (by assumption) ?_⟩; conv => whnf) | (refine ⟨rfl, Rows.len (by assumption) ?_⟩; conv => whnf) | (refine ⟨rfl, HLen.sl ?_⟩; conv => whnf) | (refine ⟨rfl, At.load (by assumption) ?_⟩; conv => whnf) | (refine HIf.yes ?_; conv => whnf) | (refine HIf.no ?_; conv => whnf) | (refine HIf.isT (by assumption) ?_; conv => whnf) | (refine HIf.isF (by assumption) ?_; conv => whnf) | (refine HIf.decT (by assumption) ?_; conv => whnf) | (refine HIf.decF (by assumption) ?_; conv => whnf) | (refine HIf.beqT (by assumption) ?_; conv => whnf) | (refine HIf.beqF (by assumption) ?_; conv => whnf) | (refine HIf.bneT (by assumption) ?_; conv => whnf) | (refine HIf.bneF (by assumption) ?_; conv => whnf) | (refine ⟨rfl, Ints.idxN (by assumption) (by omega) (fun p hp => ?_)⟩; conv => whnf) | (refine ⟨rfl, Rows.idxN (by assumption) (by omega) (fun p y hp hy => ?_)⟩; conv => whnf) | (refine And.intro (show Kd.isBool _ = true from rfl) ?_; conv => whnf) | (refine ⟨rfl, Ints.idx (by assumption) (by omega) (by omega) (fun p hp => ?_)⟩; conv => whnf) | (refine ⟨rfl, Rows.idx (by assumption) (by omega) (by omega) (fun p y hp hy => ?_)⟩; conv => whnf) | (refine HArith.fits (by omega) (by omega) ?_; conv => whnf) | (refine Or.inl (And.intro (show Region.lexB _ _ = true by kernel_rfl) ?_); conv => whnf)))
      have ga : a.getD i 0 = a[i]'(by omega) := by simp [List.getD, show i < a.length by omega]
      have gb : b.getD i 0 = b[i]'(by omega) := by simp [List.getD, show i < b.length by omega]
      refine HIf.bne (fun hne => ?_) (fun he => ?_)
      · (conv => whnf)
        have : ¬ a = b := fun e => hne (by rw [e])
        rw [decide_eq_false this]
        exact ⟨rfl, rfl⟩
      · rw [ga, gb] at he
        (conv => whnf)
        (repeat (first | (refine ⟨rfl, Ints.len (by assumption) ?_⟩; conv => whnf) | (refine ⟨rfl, Rows.len (by assumption) ?_⟩; conv => whnf) | (refine ⟨rfl, HLen.sl ?_⟩; conv => whnf) | (refine ⟨rfl, At.load (by assumption) ?_⟩; conv => whnf) | (refine HIf.yes ?_; conv => whnf) | (refine HIf.no ?_; conv => whnf) | (refine HIf.isT (by assumption) ?_; conv => whnf) | (refine HIf.isF (by assumption) ?_; conv => whnf) | (refine HIf.decT (by assumption) ?_; conv => whnf) | (refine HIf.decF (by assumption) ?_; conv => whnf) | (refine HIf.beqT (by assumption) ?_; conv => whnf) | (refine HIf.beqF (by assumption) ?_; conv => whnf) | (refine HIf.bneT (by assumption) ?_; conv => whnf) | (refine HIf.bneF (by assumption) ?_; conv => whnf) | (refine ⟨rfl, Ints.idxN (by assumption) (by omega) (fun p hp => ?_)⟩; conv => whnf) | (refine ⟨rfl, Rows.idxN (by assumption) (by omega) (fun p y hp hy => ?_)⟩; conv => whnf) | (refine And.intro (show Kd.isBool _ = true from rfl) ?_; conv => whnf) | (refine ⟨rfl, Ints.idx (by assumption) (by omega) (by omega) (fun p hp => ?_)⟩; conv => whnf) | (refine ⟨rfl, Rows.idx (by assumption) (by omega) (by omega) (fun p y hp hy => ?_)⟩; conv => whnf) | (refine HArith.fits (by omega) (by omega) ?_; conv => whnf) | (refine Or.inl (And.intro (show Region.lexB _ _ = true by kernel_rfl) ?_); conv => whnf)))
        refine ⟨⟨i + 1, rfl, rfl, by omega, ?_⟩, by show a.length - (i + 1) < a.length - i; omega⟩
        rw [List.take_succ_eq_append_getElem (by omega), List.take_succ_eq_append_getElem (by omega), hab, he]
    · (conv => whnf)
      have : a = b := by
        have e : i = a.length := by omega
        rw [List.take_of_length_le (by omega), List.take_of_length_le (by omega)] at hab
        exact hab
      rw [decide_eq_true this]
      exact ⟨rfl, rfl⟩

theorem toIntS_any (h : Heap) (x : H0) (a : List Int) (hx : Ints h x a) (hal : a.length ≤ 2199023255552) :
    HCalls dm Tryd.prog 11 [.s x] h (fun r h' => r = .s (.sl h.length 0 a.length) ∧ h' = h ++ [.own (a.map ci)]) := by
  refine calls_of_hFun (m := 0) kd_ok mixed Tryd.func11 rfl (by kernel_rfl) rfl rfl (of_decide_eq_true rfl) ?_; unfold hFun; (conv => whnf)
  (repeat (first | (refine ⟨rfl, Ints.len (by assumption) ?_⟩; conv => whnf) | (refine ⟨rfl, Rows.len (by assumption) ?_⟩; conv => whnf) | (refine ⟨rfl, HLen.sl ?_⟩; conv => whnf) | (refine ⟨rfl, At.load (by assumption) ?_⟩; conv => whnf) | (refine HIf.yes ?_; conv => whnf) | (refine HIf.no ?_; conv => whnf) | (refine HIf.isT (by assumption) ?_; conv => whnf) | (refine HIf.isF (by assumption) ?_; conv => whnf) | (refine HIf.decT (by assumption) ?_; conv => whnf) | (refine HIf.decF (by assumption) ?_; conv => whnf) | (refine HIf.beqT (by assumption) ?_; conv => whnf) | (refine HIf.beqF (by assumption) ?_; conv => whnf) | (refine HIf.bneT (by assumption) ?_; conv => whnf) | (refine HIf.bneF (by assumption) ?_; conv => whnf) | (refine ⟨rfl, Ints.idxN (by assumption) (by omega) (fun p hp => ?_)⟩; conv => whnf) | (refine ⟨rfl, Rows.idxN (by assumption) (by omega) (fun p y hp hy => ?_)⟩; conv => whnf) | (refine And.intro (show Kd.isBool _ = true from rfl) ?_; conv => whnf) | (refine ⟨rfl, Ints.idx (by assumption) (by omega) (by omega) (fun p hp => ?_)⟩; conv => whnf) | (refine ⟨rfl, Rows.idx (by assumption) (by omega) (by omega) (fun p y hp hy => ?_)⟩; conv => whnf) | (refine HArith.fits (by omega) (by omega) ?_; conv => whnf) | (refine Or.inl (And.intro (show Region.lexB _ _ = true by kernel_rfl) ?_); conv => whnf)))
  refine HMake.ints a.length rfl hal ?_
  (conv => whnf)
  refine HLoop.intro [4] [8, 9, 10, 11, 14, 15, 16, 17, 18, 19, 20, 12, 13, 4] (by kernel_rfl) (by kernel_rfl) (fun vs h' => ∃ i : Nat, vs = [I i] ∧ i ≤ a.length ∧ h' = h ++ [.own ((a.take i).map ci ++ List.replicate (a.length - i) (ci 0))]) (fun vs _ => a.length - natAt vs 0) ⟨0, rfl, by omega, by simp⟩ ?_
  rintro vs h' ⟨i, rfl, hi, rfl⟩
  have hx' := hx.ext (Ext.push h [.own ((a.take i).map ci ++ List.replicate (a.length - i) (ci 0))])
  (conv => whnf)
  (repeat (first | (refine ⟨rfl, Ints.len (by assumption) ?_⟩; conv => whnf) | (refine ⟨rfl, Rows.len (by assumption) ?_⟩; conv => whnf) | (refine ⟨rfl, HLen.sl ?_⟩; conv => whnf) | (refine ⟨rfl, At.load (by assumption) ?_⟩; conv => whnf) | (refine HIf.yes ?_; conv => whnf) | (refine HIf.no ?_; conv => whnf) | (refine HIf.isT (by assumption) ?_; conv => whnf) | (refine HIf.isF (by assumption) ?_; conv => whnf) | (refine HIf.decT (by assumption) ?_; conv => whnf) | (refine HIf.decF (by assumption) ?_; conv => whnf) | (refine HIf.beqT (by assumption) ?_; conv => whnf) | (refine HIf.beqF (by assumption) ?_; conv => whnf) | (refine HIf.bneT (by assumption) ?_; conv => whnf) | (refine HIf.bneF (by assumption) ?_; conv => whnf) | (refine ⟨rfl, Ints.idxN (by assumption) (by omega) (fun p hp => ?_)⟩; conv => whnf) | (refine ⟨rfl, Rows.idxN (by assumption) (by omega) (fun p y hp hy => ?_)⟩; conv => whnf) | (refine And.intro (show Kd.isBool _ = true from rfl) ?_; conv => whnf) | (refine ⟨rfl, Ints.idx (by assumption) (by omega) (by omega) (fun p hp => ?_)⟩; conv => whnf) | (refine ⟨rfl, Rows.idx (by assumption) (by omega) (by omega) (fun p y hp hy => ?_)⟩; conv => whnf) | (refine HArith.fits (by omega) (by omega) ?_; conv => whnf) | (refine Or.inl (And.intro (show Region.lexB _ _ = true by kernel_rfl) ?_); conv => whnf)))
  refine HIf.dec (fun hlt => ?_) (fun hge => ?_)
  · (conv => whnf)
    (repeat (first | (refine ⟨rfl, Ints.len (by assumption) ?_⟩; conv => whnf) | (refine ⟨rfl, Rows.len (by assumption) ?_⟩; conv => whnf) | (refine ⟨rfl, HLen.sl ?_⟩; conv => whnf) | (refine ⟨rfl, At.load (by assumption) ?_⟩; conv => whnf) | (refine HIf.yes ?_; conv => whnf) | (refine HIf.no ?_; conv => whnf) | (refine HIf.isT (by assumption) ?_; conv => whnf) | (refine HIf.isF (by assumption) ?_; conv => whnf) | (refine HIf.decT (by assumption) ?_; conv => whnf) | (refine HIf.decF (by assumption) ?_; conv => whnf) | (refine HIf.beqT (by assumption) ?_; conv => whnf) | (refine HIf.beqF (by assumption) ?_; conv => whnf) | (refine HIf.bneT (by assumption) ?_; conv => whnf) | (refine HIf.bneF (by assumption) ?_; conv => whnf) | (refine ⟨rfl, Ints.idxN (by assumption) (by omega) (fun p hp => ?_)⟩; conv => whnf) | (refine ⟨rfl, Rows.idxN (by assumption) (by omega) (fun p y hp hy => ?_)⟩; conv => whnf) | (refine And.intro (show Kd.isBool _ = true from rfl) ?_; conv => whnf) | (refine ⟨rfl, Ints.idx (by assumption) (by omega) (by omega) (fun p hp => ?_)⟩; conv => whnf) | (refine ⟨rfl, Rows.idx (by assumption) (by omega) (by omega) (fun p y hp hy => ?_)⟩; conv => whnf) | (refine HArith.fits (by omega) (by omega) ?_; conv => whnf) | (refine Or.inl (And.intro (show Region.lexB _ _ = true by kernel_rfl) ?_); conv => whnf)))
    refine ⟨rfl, HIdx.sl (by omega) (by omega) ?_⟩
    (conv => whnf)
    refine ⟨rfl, HStore.own (get_new _ _) (by simp; omega) rfl ?_⟩
    rw [set_new]
    (conv => whnf)
    (repeat (first | (refine ⟨rfl, Ints.len (by assumption) ?_⟩; conv => whnf) | (refine ⟨rfl, Rows.len (by assumption) ?_⟩; conv => whnf) | (refine ⟨rfl, HLen.sl ?_⟩; conv => whnf) | (refine ⟨rfl, At.load (by assumption) ?_⟩; conv => whnf) | (refine HIf.yes ?_; conv => whnf) | (refine HIf.no ?_; conv => whnf) | (refine HIf.isT (by assumption) ?_; conv => whnf) | (refine HIf.isF (by assumption) ?_; conv => whnf) | (refine HIf.decT (by assumption) ?_; conv => whnf) | (refine HIf.decF (by assumption) ?_; conv => whnf) | (refine HIf.beqT (by assumption) ?_; conv => whnf) | (refine HIf.beqF (by assumption) ?_; conv => whnf) | (refine HIf.bneT (by assumption) ?_; conv => whnf) | (refine HIf.bneF (by assumption) ?_; conv => whnf) | (refine ⟨rfl, Ints.idxN (by assumption) (by omega) (fun p hp => ?_)⟩; conv => whnf) | (refine ⟨rfl, Rows.idxN (by assumption) (by omega) (fun p y hp hy => ?_)⟩; conv => whnf) | (refine And.intro (show Kd.isBool _ = true from rfl) ?_; conv => whnf) | (refine ⟨rfl, Ints.idx (by assumption) (by omega) (by omega) (fun p hp => ?_)⟩; conv => whnf) | (refine ⟨rfl, Rows.idx (by assumption) (by omega) (by omega) (fun p y hp hy => ?_)⟩; conv => whnf) | (refine HArith.fits (by omega) (by omega) ?_; conv => whnf) | (refine Or.inl (And.intro (show Region.lexB _ _ = true by kernel_rfl) ?_); conv => whnf)))
    refine ⟨⟨i + 1, rfl, by omega, ?_⟩, by show a.length - (i + 1) < a.length - i; omega⟩
    have ga : a.getD i 0 = a[i]'(by omega) := by simp [List.getD, show i < a.length by omega]
    rw [ga]
    have hr : a.length - i = (a.length - (i + 1)) + 1 := by omega
    rw [hr, List.replicate_succ, set_mid (by simp; omega), take_snoc_map ci a i (by omega), List.append_assoc]
    rfl
  · (conv => whnf)
    refine ⟨rfl, ?_⟩
    have e : i = a.length := by omega
    subst e
    simp

theorem toIntS_fresh (h : Heap) (x : H0) (a : List Int) (hx : Ints h x a) (hal : a.length ≤ 2199023255552) :
    HCalls dm Tryd.prog 11 [.s x] h (fun r h' => ∃ y, r = .s y ∧ Fresh h h' y a) :=
  (toIntS_any h x a hx hal).mono (by rintro r h' ⟨rfl, rfl⟩; exact ⟨_, rfl, Fresh.new h a⟩)

def marks (k : Int) (n : Nat) : List Int := (List.range n).map fun (j : Nat) => k + (j : Int)

theorem marks_length (k : Int) (n : Nat) : (marks k n).length = n := by simp [marks]

theorem marks_succ (k : Int) (n : Nat) : marks k (n + 1) = marks k n ++ [k + n] := by simp [marks, List.range_succ]

end Go.Proofs.YtgliajcgcbnemaaDoor.Hx

namespace Go.Proofs.YtgliajcgcbnemaaDoor.Hx
open Go.RowKit

abbrev w64 (n : Int) : Int := IntKind.i64.wrap n

/-- An entry of a matrix. -/
def ent (c : List (List Int)) (i j : Nat) : Int := (c.getD i []).getD j 0

def cartBad (c : List (List Int)) (i j : Nat) : Bool :=
  (decide (i = j) && !(ent c i j == 2)) || (!decide (i = j) && (decide (ent c i j < -3) || decide (ent c i j > 0) || !((ent c i j == 0) == (ent c j i == 0))))

def square (c : List (List Int)) : Bool := c.all fun r => decide (r.length = c.length)
def cartIn (c : List (List Int)) : Bool := (List.range c.length).all fun i => (List.range c.length).all fun j => !cartBad c i j
def isCartan (c : List (List Int)) : Bool := decide (1 ≤ c.length) && decide (c.length ≤ 4) && square c && cartIn c

theorem square_row {c : List (List Int)} (h : square c = true) {i : Nat} (hi : i < c.length) : (c.getD i []).length = c.length := by
  have := List.all_eq_true.1 h c[i] (List.getElem_mem hi)
  simpa [List.getD, hi] using this

theorem not_square {c : List (List Int)} {i : Nat} (hi : i < c.length) (h : (c.getD i []).length ≠ c.length) : square c = false := by
  rw [Bool.eq_false_iff]
  exact fun hs => h (square_row hs hi)

theorem square_of {c : List (List Int)} (h : ∀ i, i < c.length → (c.getD i []).length = c.length) : square c = true := by
  refine List.all_eq_true.2 (fun r hr => ?_)
  obtain ⟨i, hi, rfl⟩ := List.getElem_of_mem hr
  have := h i hi
  simpa [List.getD, hi] using this

theorem cartIn_of {c : List (List Int)} (h : ∀ i, i < c.length → ∀ j, j < c.length → cartBad c i j = false) : cartIn c = true := by
  refine List.all_eq_true.2 (fun i hi => List.all_eq_true.2 (fun j hj => ?_))
  rw [h i (List.mem_range.1 hi) j (List.mem_range.1 hj)]
  rfl

theorem cartIn_get {c : List (List Int)} (h : cartIn c = true) {i j : Nat} (hi : i < c.length) (hj : j < c.length) : cartBad c i j = false := by
  have := List.all_eq_true.1 (List.all_eq_true.1 h i (List.mem_range.2 hi)) j (List.mem_range.2 hj)
  simpa using this

theorem not_cartIn {c : List (List Int)} {i j : Nat} (hi : i < c.length) (hj : j < c.length) (h : cartBad c i j = true) : cartIn c = false := by
  rw [Bool.eq_false_iff]
  intro hc
  rw [cartIn_get hc hi hj] at h
  cases h

structure Cartan (c : List (List Int)) : Prop where
  pos : 1 ≤ c.length
  le : c.length ≤ 4
  row : ∀ i, i < c.length → (c.getD i []).length = c.length
  ok : ∀ i, i < c.length → ∀ j, j < c.length → cartBad c i j = false

theorem isCartan_iff (c : List (List Int)) : isCartan c = true ↔ Cartan c := by
  unfold isCartan
  simp only [Bool.and_eq_true, decide_eq_true_eq]
  constructor
  · rintro ⟨⟨⟨h1, h2⟩, h3⟩, h4⟩
    exact ⟨h1, h2, fun i hi => square_row h3 hi, fun i hi j hj => cartIn_get h4 hi hj⟩
  · rintro ⟨h1, h2, h3, h4⟩
    exact ⟨⟨⟨h1, h2⟩, square_of h3⟩, cartIn_of h4⟩

def inRange (n : Int) (x : Int) : Bool := decide (0 ≤ x) && decide (x < n)
def isPoint (c : List (List Int)) (i : Int) : Bool := inRange c.length i
def lettersOk (c : List (List Int)) (w : List Int) : Bool := w.all (isPoint c)
def isWord (c : List (List Int)) (w : List Int) : Bool := isCartan c && decide (w.length ≤ 15) && lettersOk c w

theorem letters_get {c : List (List Int)} {w : List Int} (h : lettersOk c w = true) {i : Nat} (hi : i < w.length) : 0 ≤ w.getD i 0 ∧ w.getD i 0 < c.length := by
  have := List.all_eq_true.1 h w[i] (List.getElem_mem hi)
  simp only [isPoint, inRange, Bool.and_eq_true, decide_eq_true_eq] at this
  simpa [List.getD, hi] using this

theorem letters_of {c : List (List Int)} {w : List Int} (h : ∀ i, i < w.length → 0 ≤ w.getD i 0 ∧ w.getD i 0 < c.length) : lettersOk c w = true := by
  refine List.all_eq_true.2 (fun x hx => ?_)
  obtain ⟨i, hi, rfl⟩ := List.getElem_of_mem hx
  have := h i hi
  simp only [isPoint, inRange, Bool.and_eq_true, decide_eq_true_eq]
  simpa [List.getD, hi] using this

theorem not_letters {c : List (List Int)} {w : List Int} {i : Nat} (hi : i < w.length) (h : ¬ (0 ≤ w.getD i 0 ∧ w.getD i 0 < c.length)) : lettersOk c w = false := by
  rw [Bool.eq_false_iff]
  exact fun hs => h (letters_get hs hi)

def weightOk (v : List Int) : Bool := v.all fun x => decide (-1000 ≤ x) && decide (x ≤ 1000)
def isWeight (c : List (List Int)) (v : List Int) : Bool := isCartan c && decide (v.length = c.length) && weightOk v

theorem weight_of {v : List Int} (h : ∀ i, i < v.length → -1000 ≤ v.getD i 0 ∧ v.getD i 0 ≤ 1000) : weightOk v = true := by
  refine List.all_eq_true.2 (fun x hx => ?_)
  obtain ⟨i, hi, rfl⟩ := List.getElem_of_mem hx
  have := h i hi
  simp only [Bool.and_eq_true, decide_eq_true_eq]
  simpa [List.getD, hi] using this

theorem not_weight {v : List Int} {i : Nat} (hi : i < v.length) (h : ¬ (-1000 ≤ v.getD i 0 ∧ v.getD i 0 ≤ 1000)) : weightOk v = false := by
  rw [Bool.eq_false_iff]
  intro hs
  have := List.all_eq_true.1 hs v[i] (List.getElem_mem hi)
  simp only [Bool.and_eq_true, decide_eq_true_eq] at this
  exact h (by simpa [List.getD, hi] using this)

end Go.Proofs.YtgliajcgcbnemaaDoor.Hx

namespace Go.Proofs.YtgliajcgcbnemaaDoor.Hx
open Go.RowKit
variable {dm : Bool}

end Go.Proofs.YtgliajcgcbnemaaDoor.Hx
