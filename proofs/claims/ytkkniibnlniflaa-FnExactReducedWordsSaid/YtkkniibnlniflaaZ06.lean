/-
  Words for proofs over rows: slices of integers, slices of slices of integers, and what the operations do with them.
  What is known of the types of this seat: their kinds, each a closed fact over the translation. Printed by gen_ty.py.
-/
import Derived.Test.YtkkniibnlniflaaZ05
import Derived.Test.YtkkniibnlniflaaRows
namespace Go.Proofs.Ytkkniibnlniflaa.Hx
open Go.RowKit
variable {dm : Bool}

/-- A cell that holds an int. -/
abbrev ci (n : Int) : H0 := .pl (.int .i64 n)

theorem HIf.split {b : Bool} {A C : Prop} (h1 : b = true → A) (h2 : b = false → C) : HIf b A C := ⟨h1, h2⟩
theorem HIf.yes {A C : Prop} (h : A) : HIf true A C := ⟨fun _ => h, (fun h => by cases h)⟩
theorem HIf.no {A C : Prop} (h : C) : HIf false A C := ⟨(fun h => by cases h), fun _ => h⟩
theorem HIf.dec {p : Prop} [Decidable p] {A C : Prop} (h1 : p → A) (h2 : ¬ p → C) : HIf (decide p) A C := ⟨fun h => h1 (by simpa using h), fun h => h2 (by simpa using h)⟩
theorem HIf.beq {a b : Int} {A C : Prop} (h1 : a = b → A) (h2 : a ≠ b → C) : HIf (a == b) A C := ⟨fun h => h1 (by simpa using h), fun h => h2 (by simpa using h)⟩
theorem HIf.bne {a b : Int} {A C : Prop} (h1 : a ≠ b → A) (h2 : a = b → C) : HIf (a != b) A C := ⟨fun h => h1 (by simpa using h), fun h => h2 (by simpa using h)⟩
theorem HIf.bnot {b : Bool} {A C : Prop} (h : HIf b C A) : HIf (!b) A C := ⟨fun e => h.out.2 (by simpa using e), fun e => h.out.1 (by simpa using e)⟩

theorem HIf.isT {b : Bool} {A C : Prop} (h : b = true) (k : A) : HIf b A C := ⟨fun _ => k, (fun e => by rw [h] at e; cases e)⟩
theorem HIf.isF {b : Bool} {A C : Prop} (h : b = false) (k : C) : HIf b A C := ⟨(fun e => by rw [h] at e; cases e), fun _ => k⟩
theorem HIf.decT {p : Prop} [Decidable p] {A C : Prop} (h : p) (k : A) : HIf (decide p) A C := HIf.isT (decide_eq_true h) k
theorem HIf.decF {p : Prop} [Decidable p] {A C : Prop} (h : ¬ p) (k : C) : HIf (decide p) A C := HIf.isF (decide_eq_false h) k
theorem HIf.beqT {a b : Int} {A C : Prop} (h : a = b) (k : A) : HIf (a == b) A C := HIf.isT (by simpa using h) k
theorem HIf.beqF {a b : Int} {A C : Prop} (h : a ≠ b) (k : C) : HIf (a == b) A C := HIf.isF (by simpa using h) k
theorem HIf.bneT {a b : Int} {A C : Prop} (h : a ≠ b) (k : A) : HIf (a != b) A C := HIf.isT (by simpa using h) k
theorem HIf.bneF {a b : Int} {A C : Prop} (h : a = b) (k : C) : HIf (a != b) A C := HIf.isF (by simpa using h) k

theorem HArith.fits {e : Int} {K : HV → Prop} (h1 : -9223372036854775808 ≤ e) (h2 : e ≤ 9223372036854775807) (h : K (I e)) : HArith .i64 e K := ⟨by
  have : IntKind.i64.wrap e = e := IntWalk.i64_in e ⟨h1, h2⟩
  rw [this]
  exact h⟩
theorem HArith.any {k : IntKind} {e : Int} {K : HV → Prop} (h : K (.s (.pl (.int k (k.wrap e))))) : HArith k e K := ⟨h⟩
theorem HRem.of {k : IntKind} {a b : Int} {K : HV → Prop} (hb : b ≠ 0) (h : K (.s (.pl (.int k (a.tmod b))))) : HRem k a b K := ⟨hb, h⟩
theorem HQuo.of {k : IntKind} {a b : Int} {K : HV → Prop} (hb : b ≠ 0) (h : K (.s (.pl (.int k (k.wrap (a.tdiv b)))))) : HQuo k a b K := ⟨hb, h⟩

/-- p is the address of a cell that holds c. -/
def At (h : Heap) (p : H0) (c : H0) : Prop := ∃ (r o : Nat) (x : Row) (cs : List H0), p = .ptr r o ∧ h[r]? = some x ∧ x.cells? = some cs ∧ cs[o]? = some c

theorem At.load {h : Heap} {p c : H0} (H : At h p c) {K : HV → Prop} (hK : K (.s c)) : HLoad h (.s p) K := by
  obtain ⟨r, o, x, cs, rfl, h1, h2, h3⟩ := H
  exact ⟨r, o, x, cs, c, rfl, h1, h2, h3, hK⟩

theorem Shows.len {h : Heap} {x : H0} {l : List H0} (H : Shows h (.s x) l) {K : HV → Prop} (hK : K (I l.length)) : HLen (.s x) K := by
  cases H with
  | nils a c => exact ⟨0, rfl, hK⟩
  | ro r off len cs hr hl =>
    have : ((cs.drop off).take len).length = len := by simp; omega
    rw [this] at hK
    exact ⟨len, rfl, hK⟩
  | own r off len cs hr hl =>
    have : ((cs.drop off).take len).length = len := by simp; omega
    rw [this] at hK
    exact ⟨len, rfl, hK⟩

theorem Shows.idx {h : Heap} {x : H0} {l : List H0} (H : Shows h (.s x) l) {j : Int} (h0 : 0 ≤ j) (h1 : j < l.length) {k : IntKind} {K : HV → Prop} (hK : ∀ p, At h p (l.getD j.toNat (.pl (.int .i64 0))) → K (.s p)) : HIdx h (.s x) (.s (.pl (.int k j))) K := by
  have main : ∀ (r off len : Nat) (y : Row) (cs : List H0), h[r]? = some y → y.cells? = some cs → off + len ≤ cs.length → l = (cs.drop off).take len → HIdx h (.s (.sl r off len)) (.s (.pl (.int k j))) K := by
    intro r off len y cs hr hc hl e
    have hlen : l.length = len := by rw [e]; simp; omega
    refine ⟨r, off, len, k, j, rfl, rfl, h0, by omega, hK _ ⟨r, _, y, cs, rfl, hr, hc, ?_⟩⟩
    have hj : j.toNat < len := by omega
    rw [e]
    simp only [List.getD, List.getElem?_take_of_lt hj, List.getElem?_drop]
    rw [List.getElem?_eq_getElem (by omega)]
    rfl
  cases H with
  | nils a c => simp at h1; omega
  | ro r off len cs hr hl => exact main r off len _ cs hr rfl hl rfl
  | own r off len cs hr hl => exact main r off len _ cs hr rfl hl rfl

/-- A slice of ints. -/
def Ints (h : Heap) (x : H0) (l : List Int) : Prop := Shows h (.s x) (l.map ci)

theorem Ints.len {h : Heap} {x : H0} {l : List Int} (H : Ints h x l) {K : HV → Prop} (hK : K (I l.length)) : HLen (.s x) K := by
  have := Shows.len H (K := K)
  simp only [List.length_map] at this
  exact this hK

theorem getD_map_ci (l : List Int) (n : Nat) : (l.map ci).getD n (.pl (.int .i64 0)) = ci (l.getD n 0) := by
  simp only [List.getD, List.getElem?_map]
  cases l[n]? <;> rfl

theorem Ints.idx {h : Heap} {x : H0} {l : List Int} (H : Ints h x l) {j : Int} (h0 : 0 ≤ j) (h1 : j < l.length) {k : IntKind} {K : HV → Prop} (hK : ∀ p, At h p (ci (l.getD j.toNat 0)) → K (.s p)) : HIdx h (.s x) (.s (.pl (.int k j))) K := by
  refine Shows.idx H h0 (by simpa using h1) (fun p hp => hK p ?_)
  rw [getD_map_ci] at hp
  exact hp

/-- The second heap goes on from the first: what was there is as it was. -/
def Ext (h h' : Heap) : Prop := h.length ≤ h'.length ∧ ∀ r, r < h.length → h'[r]? = h[r]?

theorem Ext.refl (h : Heap) : Ext h h := ⟨Nat.le_refl _, fun _ _ => rfl⟩
theorem Ext.trans {a b c : Heap} (h : Ext a b) (k : Ext b c) : Ext a c := ⟨Nat.le_trans h.1 k.1, fun r hr => (k.2 r (Nat.lt_of_lt_of_le hr h.1)).trans (h.2 r hr)⟩
theorem Ext.push (h : Heap) (t : Heap) : Ext h (h ++ t) := ⟨by simp, fun r hr => by rw [List.getElem?_append_left hr]⟩
theorem Ext.set {h h' : Heap} (e : Ext h h') {r : Nat} (hr : h.length ≤ r) (x : Row) : Ext h (h'.set r x) := ⟨by simpa using e.1, fun q hq => by rw [List.getElem?_set_ne (by omega)]; exact e.2 q hq⟩
theorem Ext.pushed {h h' : Heap} (e : Ext h h') (t : Heap) : Ext h (h' ++ t) := e.trans (Ext.push h' t)

theorem get_lt {h : Heap} {r : Nat} {x : Row} (e : h[r]? = some x) : r < h.length := (List.getElem?_eq_some_iff.1 e).1

theorem Ext.row {h h' : Heap} (e : Ext h h') {r : Nat} {x : Row} (k : h[r]? = some x) : h'[r]? = some x := by rw [e.2 r (get_lt k)]; exact k

theorem Shows.ext {h h' : Heap} {x : HV} {l : List H0} (H : Shows h x l) (e : Ext h h') : Shows h' x l := by
  cases H with
  | nils a c => exact .nils a c
  | ro r off len cs hr hl => exact .ro r off len cs (e.row hr) hl
  | own r off len cs hr hl => exact .own r off len cs (e.row hr) hl

theorem Ints.ext {h h' : Heap} {x : H0} {l : List Int} (H : Ints h x l) (e : Ext h h') : Ints h' x l := Shows.ext H e

theorem get_new (h : Heap) (x : Row) : (h ++ [x])[h.length]? = some x := by rw [List.getElem?_append_right (Nat.le_refl _)]; simp

theorem set_new (h : Heap) (x y : Row) : (h ++ [x]).set h.length y = h ++ [y] := by
  rw [List.set_append_right _ _ (Nat.le_refl _)]
  simp

/-- The ints of a whole row of one's own. -/
theorem Ints.ofOwn {h : Heap} {r : Nat} {l : List Int} {t : List H0} (hr : h[r]? = some (.own (l.map ci ++ t))) : Ints h (.sl r 0 l.length) l := by
  have := Shows.own r 0 l.length _ hr (by simp)
  simp only [List.drop_zero] at this
  rw [List.take_append_of_le_length (by simp), List.take_of_length_le (by simp)] at this
  exact this

theorem HIdx.sl {h : Heap} {r off len : Nat} {j : Int} (h0 : 0 ≤ j) (h1 : j < len) {k : IntKind} {K : HV → Prop} (hK : K (.s (.ptr r (off + j.toNat)))) : HIdx h (.s (.sl r off len)) (.s (.pl (.int k j))) K :=
  ⟨r, off, len, k, j, rfl, rfl, h0, h1, hK⟩

theorem HStore.own {h : Heap} {r o : Nat} {cs : List H0} {c : H0} {K : HV → Heap → Prop} (hr : h[r]? = some (.own cs)) (ho : o < cs.length) (hc : c.one = true) (hK : K .dead (h.set r (.own (cs.set o c)))) : HStore h (.s (.ptr r o)) (.s c) K :=
  ⟨r, o, cs, c, rfl, rfl, hc, hr, ho, hK⟩

theorem HLen.sl {r off n : Nat} {K : HV → Prop} (hK : K (I n)) : HLen (.s (.sl r off n)) K := ⟨n, rfl, hK⟩

theorem HMake.ints {l : Int} {h : Heap} {K : HV → Heap → Prop} (n : Nat) (hl : l = n) (hn : n ≤ 2 ^ 41) (hK : K (.s (.sl h.length 0 n)) (h ++ [.own (List.replicate n (ci 0))])) : HMake (.int .i64 0) (I l) (I l) h K := by
  subst hl
  exact ⟨.i64, .i64, n, n, rfl, rfl, Nat.le_refl _, hn, hK⟩

/-- An empty literal. -/
theorem HLit.empty {z : Value} {h : Heap} {K : HV → Heap → Prop} (hK : K (.s (.sl h.length 0 0)) (h ++ [.own []])) : HLit z 0 (some []) h K := ⟨[], rfl, rfl, by omega, by simp, hK⟩

theorem HLit.of {z : Value} {n : Nat} {xs : List H0} {h : Heap} {K : HV → Heap → Prop} (hn : xs.length = n) (h1 : ∀ c ∈ xs, c.one = true) (h2 : n ≤ 4096) (hK : K (.s (.sl h.length 0 n)) (h ++ [.own xs])) : HLit z n (some xs) h K := ⟨xs, rfl, hn, h2, h1, hK⟩

/-- What was made anew: a slice of ints in a row of its own. -/
def Fresh (h h' : Heap) (x : H0) (l : List Int) : Prop := Ext h h' ∧ ∃ r t, x = .sl r 0 l.length ∧ h.length ≤ r ∧ h'[r]? = some (.own (l.map ci ++ t))

theorem Fresh.new (h : Heap) (l : List Int) : Fresh h (h ++ [.own (l.map ci)]) (.sl h.length 0 l.length) l := ⟨Ext.push _ _, h.length, [], rfl, Nat.le_refl _, by rw [List.append_nil]; exact get_new _ _⟩

theorem Fresh.ints {h h' : Heap} {x : H0} {l : List Int} (H : Fresh h h' x l) : Ints h' x l := by
  obtain ⟨_, r, t, rfl, _, hr⟩ := H
  exact Ints.ofOwn hr

theorem ci_one (l : List Int) : ∀ c ∈ l.map ci, c.one = true := by
  intro c hc
  obtain ⟨n, _, rfl⟩ := List.mem_map.1 hc
  rfl

theorem set_mid {α : Type} {A B : List α} {x y : α} {n : Nat} (h : A.length = n) : (A ++ x :: B).set n y = A ++ y :: B := by
  subst h
  simp

theorem set_same {h : Heap} {r : Nat} {x : Row} (e : h[r]? = some x) : h.set r x = h := by
  apply List.ext_getElem?
  intro q
  by_cases hq : r = q
  · subst hq
    rw [List.getElem?_set_self (get_lt e)]
    exact e.symm
  · rw [List.getElem?_set_ne hq]

theorem take_snoc_map {α β : Type} (f : α → β) (l : List α) (i : Nat) (hi : i < l.length) : (l.take (i + 1)).map f = (l.take i).map f ++ [f l[i]] := by
  rw [List.take_succ_eq_append_getElem hi, List.map_append]
  rfl

def natAt (vs : List HV) (k : Nat) : Nat := match vs[k]? with
  | some (.s (.pl (.int _ i))) => i.toNat
  | _ => 0

/-- A slice of slices of ints. -/
def Rows (h : Heap) (x : H0) (L : List (List Int)) : Prop := ∃ xs : List H0, Shows h (.s x) xs ∧ xs.length = L.length ∧ ∀ (i : Nat) (y : H0) (l : List Int), xs[i]? = some y → L[i]? = some l → Ints h y l

theorem Rows.ext {h h' : Heap} {x : H0} {L : List (List Int)} (H : Rows h x L) (e : Ext h h') : Rows h' x L := by
  obtain ⟨xs, h1, h2, h3⟩ := H
  exact ⟨xs, h1.ext e, h2, fun i y l a b => (h3 i y l a b).ext e⟩

theorem Rows.len {h : Heap} {x : H0} {L : List (List Int)} (H : Rows h x L) {K : HV → Prop} (hK : K (I L.length)) : HLen (.s x) K := by
  obtain ⟨xs, h1, h2, _⟩ := H
  exact h1.len (by rw [h2]; exact hK)

theorem Rows.idx {h : Heap} {x : H0} {L : List (List Int)} (H : Rows h x L) {j : Int} (h0 : 0 ≤ j) (h1 : j < L.length) {k : IntKind} {K : HV → Prop} (hK : ∀ p y, At h p y → Ints h y (L.getD j.toNat []) → K (.s p)) : HIdx h (.s x) (.s (.pl (.int k j))) K := by
  obtain ⟨xs, g1, g2, g3⟩ := H
  refine g1.idx h0 (by omega) (fun p hp => ?_)
  have hx : j.toNat < xs.length := by omega
  have hl : j.toNat < L.length := by omega
  have e1 : xs.getD j.toNat (.pl (.int .i64 0)) = xs[j.toNat] := by simp [List.getD, hx]
  have e2 : L.getD j.toNat [] = L[j.toNat] := by simp [List.getD, hl]
  rw [e1] at hp
  exact hK p _ hp (by rw [e2]; exact g3 _ _ _ (List.getElem?_eq_getElem hx) (List.getElem?_eq_getElem hl))

theorem freeze_length (h : Heap) : (freeze h).length = h.length := by simp [freeze]

theorem Shows.frz {h : Heap} {x : HV} {l : List H0} (H : Shows h x l) : Shows (freeze h) x l := by
  cases H with
  | nils a c => exact .nils a c
  | ro r off len cs hr hl => exact .ro r off len cs (freeze_get (Or.inl hr)) hl
  | own r off len cs hr hl => exact .ro r off len cs (freeze_get (Or.inr hr)) hl

theorem Ints.frz {h : Heap} {x : H0} {l : List Int} (H : Ints h x l) : Ints (freeze h) x l := Shows.frz H

theorem Rows.frz {h : Heap} {x : H0} {L : List (List Int)} (H : Rows h x L) : Rows (freeze h) x L := by
  obtain ⟨xs, h1, h2, h3⟩ := H
  exact ⟨xs, h1.frz, h2, fun i y l a b => (h3 i y l a b).frz⟩

/-- A call in a quiet region whose contract leaves the heap alone and tells the value. -/
theorem HCallQ.of {P : Program} {k : FuncId} {args : List HV} {h : Heap} {K : HV → Prop} {R : HV → Heap → Prop} (v : Value) (hc : HCalls dm P k args (freeze h) R) (hr : ∀ x h', R x h' → x = .s (.pl v)) (hK : K (.s (.pl v))) : HCallQ dm P k args h K :=
  ⟨v, hc.mono (fun x h' r => hr x h' r), hK⟩

theorem Ints.idxN {h : Heap} {x : H0} {l : List Int} (H : Ints h x l) {n : Nat} (h1 : n < l.length) {k : IntKind} {K : HV → Prop} (hK : ∀ p, At h p (ci (l.getD n 0)) → K (.s p)) : HIdx h (.s x) (.s (.pl (.int k (n : Int)))) K :=
  H.idx (by omega) (by omega) (fun p hp => hK p (by simpa using hp))

theorem Rows.idxN {h : Heap} {x : H0} {L : List (List Int)} (H : Rows h x L) {n : Nat} (h1 : n < L.length) {k : IntKind} {K : HV → Prop} (hK : ∀ p y, At h p y → Ints h y (L.getD n []) → K (.s p)) : HIdx h (.s x) (.s (.pl (.int k (n : Int)))) K :=
  H.idx (by omega) (by omega) (fun p y hp hy => hK p y hp (by simpa using hy))

end Go.Proofs.Ytkkniibnlniflaa.Hx

namespace Go.Proofs.Ytkkniibnlniflaa.Hx
open Go.RowKit

theorem inf1 : (Try.prog.info? 1).map (fun i => i.size) = some 1 := by kernel_rfl
theorem und1 : (Try.prog.underlying 1).map flat = some true := by kernel_rfl
theorem k1 : Kd.ok Try.prog 1 .oth := one_of_map inf1 und1
theorem inf2 : (Try.prog.info? 2).map (fun i => i.size) = some 1 := by kernel_rfl
theorem und2 : Try.prog.underlying 2 = some (.int .i64) := by kernel_rfl
theorem k2 : Kd.ok Try.prog 2 (.int .i64) := ⟨und2, one_of inf2 und2⟩
theorem inf3 : (Try.prog.info? 3).map (fun i => i.size) = some 1 := by kernel_rfl
theorem und3 : Try.prog.underlying 3 = some (.int .i64) := by kernel_rfl
theorem k3 : Kd.ok Try.prog 3 (.int .i64) := ⟨und3, one_of inf3 und3⟩
theorem inf4 : (Try.prog.info? 4).map (fun i => i.size) = some 1 := by kernel_rfl
theorem und4 : Try.prog.underlying 4 = some (.bool) := by kernel_rfl
theorem k4 : Kd.ok Try.prog 4 (.bool) := ⟨und4, one_of inf4 und4⟩
theorem inf5 : (Try.prog.info? 5).map (fun i => i.size) = some 1 := by kernel_rfl
theorem und5 : Try.prog.underlying 5 = some (.int .u8) := by kernel_rfl
theorem k5 : Kd.ok Try.prog 5 (.int .u8) := ⟨und5, one_of inf5 und5⟩
theorem inf6 : (Try.prog.info? 6).map (fun i => i.size) = some 1 := by kernel_rfl
theorem und6 : Try.prog.underlying 6 = some (.int .u8) := by kernel_rfl
theorem k6 : Kd.ok Try.prog 6 (.int .u8) := ⟨und6, one_of inf6 und6⟩
theorem inf9 : (Try.prog.info? 9).map (fun i => i.size) = some 1 := by kernel_rfl
theorem und9 : Try.prog.underlying 9 = some (.string) := by kernel_rfl
theorem k9 : Kd.ok Try.prog 9 (.str) := ⟨und9, one_of inf9 und9⟩
theorem inf10 : (Try.prog.info? 10).map (fun i => i.size) = some 1 := by kernel_rfl
theorem und10 : Try.prog.underlying 10 = some (.string) := by kernel_rfl
theorem k10 : Kd.ok Try.prog 10 (.str) := ⟨und10, one_of inf10 und10⟩
theorem inf11 : (Try.prog.info? 11).map (fun i => i.size) = some 1 := by kernel_rfl
theorem und11 : Try.prog.underlying 11 = some (.string) := by kernel_rfl
theorem k11 : Kd.ok Try.prog 11 (.str) := ⟨und11, one_of inf11 und11⟩
theorem inf12 : (Try.prog.info? 12).map (fun i => i.size) = some 1 := by kernel_rfl
theorem und12 : Try.prog.underlying 12 = some (.int .u64) := by kernel_rfl
theorem k12 : Kd.ok Try.prog 12 (.int .u64) := ⟨und12, one_of inf12 und12⟩
theorem inf15 : (Try.prog.info? 15).map (fun i => i.size) = some 1 := by kernel_rfl
theorem und15 : (Try.prog.underlying 15).map flat = some true := by kernel_rfl
theorem k15 : Kd.ok Try.prog 15 .oth := one_of_map inf15 und15
theorem inf16 : (Try.prog.info? 16).map (fun i => i.size) = some 1 := by kernel_rfl
theorem und16 : (Try.prog.underlying 16).map flat = some true := by kernel_rfl
theorem k16 : Kd.ok Try.prog 16 .oth := one_of_map inf16 und16
theorem inf17 : (Try.prog.info? 17).map (fun i => i.size) = some 1 := by kernel_rfl
theorem und17 : (Try.prog.underlying 17).map flat = some true := by kernel_rfl
theorem k17 : Kd.ok Try.prog 17 .oth := one_of_map inf17 und17
theorem inf20 : (Try.prog.info? 20).map (fun i => i.size) = some 1 := by kernel_rfl
theorem und20 : Try.prog.underlying 20 = some (.interface (Try.prog.methodsAt 20)) := by kernel_rfl
theorem k20 : Kd.ok Try.prog 20 (.ifc) := ⟨und20, one_of inf20 und20⟩
theorem inf21 : (Try.prog.info? 21).map (fun i => i.size) = some 1 := by kernel_rfl
theorem und21 : Try.prog.underlying 21 = some (.int .i32) := by kernel_rfl
theorem k21 : Kd.ok Try.prog 21 (.int .i32) := ⟨und21, one_of inf21 und21⟩
theorem inf22 : (Try.prog.info? 22).map (fun i => i.size) = some 1 := by kernel_rfl
theorem und22 : Try.prog.underlying 22 = some (.slice 23) := by kernel_rfl
theorem elt22 : (Try.prog.info? 23).map (fun i => (i.zero, i.size, i.bytes)) = some (some (.slice none 0 0), 1, 24) := by kernel_rfl
theorem k22 : Kd.ok Try.prog 22 (.sl (.slice none 0 0)) := sl_of inf22 und22 elt22 (by decide) rfl rfl
theorem inf23 : (Try.prog.info? 23).map (fun i => i.size) = some 1 := by kernel_rfl
theorem und23 : Try.prog.underlying 23 = some (.slice 3) := by kernel_rfl
theorem elt23 : (Try.prog.info? 3).map (fun i => (i.zero, i.size, i.bytes)) = some (some (.int .i64 0), 1, 8) := by kernel_rfl
theorem k23 : Kd.ok Try.prog 23 (.sl (.int .i64 0)) := sl_of inf23 und23 elt23 (by decide) rfl rfl
theorem inf24 : (Try.prog.info? 24).map (fun i => i.size) = some 1 := by kernel_rfl
theorem und24 : (Try.prog.underlying 24).map flat = some true := by kernel_rfl
theorem k24 : Kd.ok Try.prog 24 .oth := one_of_map inf24 und24
theorem inf25 : (Try.prog.info? 25).map (fun i => i.size) = some 1 := by kernel_rfl
theorem und25 : (Try.prog.underlying 25).map flat = some true := by kernel_rfl
theorem k25 : Kd.ok Try.prog 25 .oth := one_of_map inf25 und25
theorem inf26 : (Try.prog.info? 26).map (fun i => i.size) = some 1 := by kernel_rfl
theorem und26 : (Try.prog.underlying 26).map flat = some true := by kernel_rfl
theorem k26 : Kd.ok Try.prog 26 .oth := one_of_map inf26 und26
theorem inf27 : (Try.prog.info? 27).map (fun i => i.size) = some 1 := by kernel_rfl
theorem und27 : (Try.prog.underlying 27).map flat = some true := by kernel_rfl
theorem k27 : Kd.ok Try.prog 27 .oth := one_of_map inf27 und27
theorem inf28 : (Try.prog.info? 28).map (fun i => i.size) = some 1 := by kernel_rfl
theorem und28 : (Try.prog.underlying 28).map flat = some true := by kernel_rfl
theorem k28 : Kd.ok Try.prog 28 .oth := one_of_map inf28 und28
theorem inf29 : (Try.prog.info? 29).map (fun i => i.size) = some 1 := by kernel_rfl
theorem und29 : (Try.prog.underlying 29).map flat = some true := by kernel_rfl
theorem k29 : Kd.ok Try.prog 29 .oth := one_of_map inf29 und29
theorem inf30 : (Try.prog.info? 30).map (fun i => i.size) = some 1 := by kernel_rfl
theorem und30 : (Try.prog.underlying 30).map flat = some true := by kernel_rfl
theorem k30 : Kd.ok Try.prog 30 .oth := one_of_map inf30 und30
theorem inf31 : (Try.prog.info? 31).map (fun i => i.size) = some 1 := by kernel_rfl
theorem und31 : (Try.prog.underlying 31).map flat = some true := by kernel_rfl
theorem k31 : Kd.ok Try.prog 31 .oth := one_of_map inf31 und31
theorem inf32 : (Try.prog.info? 32).map (fun i => i.size) = some 1 := by kernel_rfl
theorem und32 : (Try.prog.underlying 32).map flat = some true := by kernel_rfl
theorem k32 : Kd.ok Try.prog 32 .oth := one_of_map inf32 und32
theorem inf33 : (Try.prog.info? 33).map (fun i => i.size) = some 1 := by kernel_rfl
theorem und33 : (Try.prog.underlying 33).map flat = some true := by kernel_rfl
theorem k33 : Kd.ok Try.prog 33 .oth := one_of_map inf33 und33
theorem inf35 : (Try.prog.info? 35).map (fun i => i.size) = some 1 := by kernel_rfl
theorem und35 : (Try.prog.underlying 35).map flat = some true := by kernel_rfl
theorem k35 : Kd.ok Try.prog 35 .oth := one_of_map inf35 und35
theorem inf36 : (Try.prog.info? 36).map (fun i => i.size) = some 1 := by kernel_rfl
theorem und36 : Try.prog.underlying 36 = some (.slice 5) := by kernel_rfl
theorem elt36 : (Try.prog.info? 5).map (fun i => (i.zero, i.size, i.bytes)) = some (some (.int .u8 0), 1, 1) := by kernel_rfl
theorem k36 : Kd.ok Try.prog 36 (.sl (.int .u8 0)) := sl_of inf36 und36 elt36 (by decide) rfl rfl
theorem inf37 : (Try.prog.info? 37).map (fun i => i.size) = some 1 := by kernel_rfl
theorem und37 : (Try.prog.underlying 37).map flat = some true := by kernel_rfl
theorem k37 : Kd.ok Try.prog 37 .oth := one_of_map inf37 und37
theorem inf39 : (Try.prog.info? 39).map (fun i => i.size) = some 1 := by kernel_rfl
theorem und39 : (Try.prog.underlying 39).map flat = some true := by kernel_rfl
theorem k39 : Kd.ok Try.prog 39 .oth := one_of_map inf39 und39
theorem inf40 : (Try.prog.info? 40).map (fun i => i.size) = some 1 := by kernel_rfl
theorem und40 : (Try.prog.underlying 40).map flat = some true := by kernel_rfl
theorem k40 : Kd.ok Try.prog 40 .oth := one_of_map inf40 und40
theorem inf41 : (Try.prog.info? 41).map (fun i => i.size) = some 1 := by kernel_rfl
theorem und41 : (Try.prog.underlying 41).map flat = some true := by kernel_rfl
theorem k41 : Kd.ok Try.prog 41 .oth := one_of_map inf41 und41
theorem inf42 : (Try.prog.info? 42).map (fun i => i.size) = some 1 := by kernel_rfl
theorem und42 : (Try.prog.underlying 42).map flat = some true := by kernel_rfl
theorem k42 : Kd.ok Try.prog 42 .oth := one_of_map inf42 und42
theorem inf43 : (Try.prog.info? 43).map (fun i => i.size) = some 1 := by kernel_rfl
theorem und43 : (Try.prog.underlying 43).map flat = some true := by kernel_rfl
theorem k43 : Kd.ok Try.prog 43 .oth := one_of_map inf43 und43
theorem inf44 : (Try.prog.info? 44).map (fun i => i.size) = some 1 := by kernel_rfl
theorem und44 : (Try.prog.underlying 44).map flat = some true := by kernel_rfl
theorem k44 : Kd.ok Try.prog 44 .oth := one_of_map inf44 und44
theorem inf46 : (Try.prog.info? 46).map (fun i => i.size) = some 1 := by kernel_rfl
theorem und46 : (Try.prog.underlying 46).map flat = some true := by kernel_rfl
theorem k46 : Kd.ok Try.prog 46 .oth := one_of_map inf46 und46
theorem inf48 : (Try.prog.info? 48).map (fun i => i.size) = some 1 := by kernel_rfl
theorem und48 : (Try.prog.underlying 48).map flat = some true := by kernel_rfl
theorem k48 : Kd.ok Try.prog 48 .oth := one_of_map inf48 und48
theorem inf50 : (Try.prog.info? 50).map (fun i => i.size) = some 1 := by kernel_rfl
theorem und50 : (Try.prog.underlying 50).map flat = some true := by kernel_rfl
theorem k50 : Kd.ok Try.prog 50 .oth := one_of_map inf50 und50
theorem inf51 : (Try.prog.info? 51).map (fun i => i.size) = some 1 := by kernel_rfl
theorem und51 : (Try.prog.underlying 51).map flat = some true := by kernel_rfl
theorem k51 : Kd.ok Try.prog 51 .oth := one_of_map inf51 und51
theorem inf53 : (Try.prog.info? 53).map (fun i => i.size) = some 1 := by kernel_rfl
theorem und53 : (Try.prog.underlying 53).map flat = some true := by kernel_rfl
theorem k53 : Kd.ok Try.prog 53 .oth := one_of_map inf53 und53
theorem inf55 : (Try.prog.info? 55).map (fun i => i.size) = some 1 := by kernel_rfl
theorem und55 : (Try.prog.underlying 55).map flat = some true := by kernel_rfl
theorem k55 : Kd.ok Try.prog 55 .oth := one_of_map inf55 und55
theorem inf57 : (Try.prog.info? 57).map (fun i => i.size) = some 1 := by kernel_rfl
theorem und57 : (Try.prog.underlying 57).map flat = some true := by kernel_rfl
theorem k57 : Kd.ok Try.prog 57 .oth := one_of_map inf57 und57
theorem inf58 : (Try.prog.info? 58).map (fun i => i.size) = some 1 := by kernel_rfl
theorem und58 : (Try.prog.underlying 58).map flat = some true := by kernel_rfl
theorem k58 : Kd.ok Try.prog 58 .oth := one_of_map inf58 und58
theorem inf59 : (Try.prog.info? 59).map (fun i => i.size) = some 1 := by kernel_rfl
theorem und59 : (Try.prog.underlying 59).map flat = some true := by kernel_rfl
theorem k59 : Kd.ok Try.prog 59 .oth := one_of_map inf59 und59
theorem inf60 : (Try.prog.info? 60).map (fun i => i.size) = some 1 := by kernel_rfl
theorem und60 : (Try.prog.underlying 60).map flat = some true := by kernel_rfl
theorem k60 : Kd.ok Try.prog 60 .oth := one_of_map inf60 und60
theorem inf61 : (Try.prog.info? 61).map (fun i => i.size) = some 1 := by kernel_rfl
theorem und61 : (Try.prog.underlying 61).map flat = some true := by kernel_rfl
theorem k61 : Kd.ok Try.prog 61 .oth := one_of_map inf61 und61
theorem inf62 : (Try.prog.info? 62).map (fun i => i.size) = some 1 := by kernel_rfl
theorem und62 : (Try.prog.underlying 62).map flat = some true := by kernel_rfl
theorem k62 : Kd.ok Try.prog 62 .oth := one_of_map inf62 und62
theorem inf63 : (Try.prog.info? 63).map (fun i => i.size) = some 1 := by kernel_rfl
theorem und63 : (Try.prog.underlying 63).map flat = some true := by kernel_rfl
theorem k63 : Kd.ok Try.prog 63 .oth := one_of_map inf63 und63
theorem inf64 : (Try.prog.info? 64).map (fun i => i.size) = some 1 := by kernel_rfl
theorem und64 : (Try.prog.underlying 64).map flat = some true := by kernel_rfl
theorem k64 : Kd.ok Try.prog 64 .oth := one_of_map inf64 und64
theorem inf65 : (Try.prog.info? 65).map (fun i => i.size) = some 1 := by kernel_rfl
theorem und65 : (Try.prog.underlying 65).map flat = some true := by kernel_rfl
theorem k65 : Kd.ok Try.prog 65 .oth := one_of_map inf65 und65
theorem inf66 : (Try.prog.info? 66).map (fun i => i.size) = some 1 := by kernel_rfl
theorem und66 : (Try.prog.underlying 66).map flat = some true := by kernel_rfl
theorem k66 : Kd.ok Try.prog 66 .oth := one_of_map inf66 und66
theorem inf67 : (Try.prog.info? 67).map (fun i => i.size) = some 1 := by kernel_rfl
theorem und67 : (Try.prog.underlying 67).map flat = some true := by kernel_rfl
theorem k67 : Kd.ok Try.prog 67 .oth := one_of_map inf67 und67
theorem inf68 : (Try.prog.info? 68).map (fun i => i.size) = some 1 := by kernel_rfl
theorem und68 : (Try.prog.underlying 68).map flat = some true := by kernel_rfl
theorem k68 : Kd.ok Try.prog 68 .oth := one_of_map inf68 und68
theorem inf69 : (Try.prog.info? 69).map (fun i => i.size) = some 1 := by kernel_rfl
theorem und69 : (Try.prog.underlying 69).map flat = some true := by kernel_rfl
theorem k69 : Kd.ok Try.prog 69 .oth := one_of_map inf69 und69
theorem inf70 : (Try.prog.info? 70).map (fun i => i.size) = some 1 := by kernel_rfl
theorem und70 : (Try.prog.underlying 70).map flat = some true := by kernel_rfl
theorem k70 : Kd.ok Try.prog 70 .oth := one_of_map inf70 und70
theorem inf71 : (Try.prog.info? 71).map (fun i => i.size) = some 1 := by kernel_rfl
theorem und71 : (Try.prog.underlying 71).map flat = some true := by kernel_rfl
theorem k71 : Kd.ok Try.prog 71 .oth := one_of_map inf71 und71
theorem inf72 : (Try.prog.info? 72).map (fun i => i.size) = some 1 := by kernel_rfl
theorem und72 : (Try.prog.underlying 72).map flat = some true := by kernel_rfl
theorem k72 : Kd.ok Try.prog 72 .oth := one_of_map inf72 und72
theorem inf73 : (Try.prog.info? 73).map (fun i => i.size) = some 1 := by kernel_rfl
theorem und73 : (Try.prog.underlying 73).map flat = some true := by kernel_rfl
theorem k73 : Kd.ok Try.prog 73 .oth := one_of_map inf73 und73
theorem inf74 : (Try.prog.info? 74).map (fun i => i.size) = some 1 := by kernel_rfl
theorem und74 : (Try.prog.underlying 74).map flat = some true := by kernel_rfl
theorem k74 : Kd.ok Try.prog 74 .oth := one_of_map inf74 und74
theorem inf75 : (Try.prog.info? 75).map (fun i => i.size) = some 1 := by kernel_rfl
theorem und75 : (Try.prog.underlying 75).map flat = some true := by kernel_rfl
theorem k75 : Kd.ok Try.prog 75 .oth := one_of_map inf75 und75
theorem inf76 : (Try.prog.info? 76).map (fun i => i.size) = some 1 := by kernel_rfl
theorem und76 : (Try.prog.underlying 76).map flat = some true := by kernel_rfl
theorem k76 : Kd.ok Try.prog 76 .oth := one_of_map inf76 und76
theorem inf77 : (Try.prog.info? 77).map (fun i => i.size) = some 1 := by kernel_rfl
theorem und77 : (Try.prog.underlying 77).map flat = some true := by kernel_rfl
theorem k77 : Kd.ok Try.prog 77 .oth := one_of_map inf77 und77
theorem inf78 : (Try.prog.info? 78).map (fun i => i.size) = some 1 := by kernel_rfl
theorem und78 : (Try.prog.underlying 78).map flat = some true := by kernel_rfl
theorem k78 : Kd.ok Try.prog 78 .oth := one_of_map inf78 und78
theorem inf79 : (Try.prog.info? 79).map (fun i => i.size) = some 1 := by kernel_rfl
theorem und79 : (Try.prog.underlying 79).map flat = some true := by kernel_rfl
theorem k79 : Kd.ok Try.prog 79 .oth := one_of_map inf79 und79
theorem inf80 : (Try.prog.info? 80).map (fun i => i.size) = some 1 := by kernel_rfl
theorem und80 : (Try.prog.underlying 80).map flat = some true := by kernel_rfl
theorem k80 : Kd.ok Try.prog 80 .oth := one_of_map inf80 und80
theorem inf81 : (Try.prog.info? 81).map (fun i => i.size) = some 1 := by kernel_rfl
theorem und81 : (Try.prog.underlying 81).map flat = some true := by kernel_rfl
theorem k81 : Kd.ok Try.prog 81 .oth := one_of_map inf81 und81
theorem inf82 : (Try.prog.info? 82).map (fun i => i.size) = some 1 := by kernel_rfl
theorem und82 : Try.prog.underlying 82 = some (.int .u64) := by kernel_rfl
theorem k82 : Kd.ok Try.prog 82 (.int .u64) := ⟨und82, one_of inf82 und82⟩
theorem inf83 : (Try.prog.info? 83).map (fun i => i.size) = some 1 := by kernel_rfl
theorem und83 : (Try.prog.underlying 83).map flat = some true := by kernel_rfl
theorem k83 : Kd.ok Try.prog 83 .oth := one_of_map inf83 und83
theorem inf84 : (Try.prog.info? 84).map (fun i => i.size) = some 1 := by kernel_rfl
theorem und84 : (Try.prog.underlying 84).map flat = some true := by kernel_rfl
theorem k84 : Kd.ok Try.prog 84 .oth := one_of_map inf84 und84
theorem inf85 : (Try.prog.info? 85).map (fun i => i.size) = some 1 := by kernel_rfl
theorem und85 : (Try.prog.underlying 85).map flat = some true := by kernel_rfl
theorem k85 : Kd.ok Try.prog 85 .oth := one_of_map inf85 und85
theorem inf86 : (Try.prog.info? 86).map (fun i => i.size) = some 1 := by kernel_rfl
theorem und86 : (Try.prog.underlying 86).map flat = some true := by kernel_rfl
theorem k86 : Kd.ok Try.prog 86 .oth := one_of_map inf86 und86
theorem inf87 : (Try.prog.info? 87).map (fun i => i.size) = some 1 := by kernel_rfl
theorem und87 : (Try.prog.underlying 87).map flat = some true := by kernel_rfl
theorem k87 : Kd.ok Try.prog 87 .oth := one_of_map inf87 und87
theorem inf88 : (Try.prog.info? 88).map (fun i => i.size) = some 1 := by kernel_rfl
theorem und88 : (Try.prog.underlying 88).map flat = some true := by kernel_rfl
theorem k88 : Kd.ok Try.prog 88 .oth := one_of_map inf88 und88
theorem inf89 : (Try.prog.info? 89).map (fun i => i.size) = some 1 := by kernel_rfl
theorem und89 : (Try.prog.underlying 89).map flat = some true := by kernel_rfl
theorem k89 : Kd.ok Try.prog 89 .oth := one_of_map inf89 und89
theorem inf90 : (Try.prog.info? 90).map (fun i => i.size) = some 1 := by kernel_rfl
theorem und90 : (Try.prog.underlying 90).map flat = some true := by kernel_rfl
theorem k90 : Kd.ok Try.prog 90 .oth := one_of_map inf90 und90
theorem inf91 : (Try.prog.info? 91).map (fun i => i.size) = some 1 := by kernel_rfl
theorem und91 : (Try.prog.underlying 91).map flat = some true := by kernel_rfl
theorem k91 : Kd.ok Try.prog 91 .oth := one_of_map inf91 und91
theorem inf92 : (Try.prog.info? 92).map (fun i => i.size) = some 1 := by kernel_rfl
theorem und92 : (Try.prog.underlying 92).map flat = some true := by kernel_rfl
theorem k92 : Kd.ok Try.prog 92 .oth := one_of_map inf92 und92
theorem inf93 : (Try.prog.info? 93).map (fun i => i.size) = some 1 := by kernel_rfl
theorem und93 : (Try.prog.underlying 93).map flat = some true := by kernel_rfl
theorem k93 : Kd.ok Try.prog 93 .oth := one_of_map inf93 und93
theorem inf96 : (Try.prog.info? 96).map (fun i => i.size) = some 1 := by kernel_rfl
theorem und96 : (Try.prog.underlying 96).map flat = some true := by kernel_rfl
theorem k96 : Kd.ok Try.prog 96 .oth := one_of_map inf96 und96
theorem inf97 : (Try.prog.info? 97).map (fun i => i.size) = some 1 := by kernel_rfl
theorem und97 : (Try.prog.underlying 97).map flat = some true := by kernel_rfl
theorem k97 : Kd.ok Try.prog 97 .oth := one_of_map inf97 und97
theorem inf98 : (Try.prog.info? 98).map (fun i => i.size) = some 1 := by kernel_rfl
theorem und98 : (Try.prog.underlying 98).map flat = some true := by kernel_rfl
theorem k98 : Kd.ok Try.prog 98 .oth := one_of_map inf98 und98
theorem inf99 : (Try.prog.info? 99).map (fun i => i.size) = some 1 := by kernel_rfl
theorem und99 : (Try.prog.underlying 99).map flat = some true := by kernel_rfl
theorem k99 : Kd.ok Try.prog 99 .oth := one_of_map inf99 und99
theorem inf100 : (Try.prog.info? 100).map (fun i => i.size) = some 1 := by kernel_rfl
theorem und100 : (Try.prog.underlying 100).map flat = some true := by kernel_rfl
theorem k100 : Kd.ok Try.prog 100 .oth := one_of_map inf100 und100
theorem inf101 : (Try.prog.info? 101).map (fun i => i.size) = some 1 := by kernel_rfl
theorem und101 : Try.prog.underlying 101 = some (.int .i64) := by kernel_rfl
theorem k101 : Kd.ok Try.prog 101 (.int .i64) := ⟨und101, one_of inf101 und101⟩
theorem inf103 : (Try.prog.info? 103).map (fun i => i.size) = some 1 := by kernel_rfl
theorem und103 : (Try.prog.underlying 103).map flat = some true := by kernel_rfl
theorem k103 : Kd.ok Try.prog 103 .oth := one_of_map inf103 und103
theorem inf104 : (Try.prog.info? 104).map (fun i => i.size) = some 1 := by kernel_rfl
theorem und104 : (Try.prog.underlying 104).map flat = some true := by kernel_rfl
theorem k104 : Kd.ok Try.prog 104 .oth := one_of_map inf104 und104
theorem inf105 : (Try.prog.info? 105).map (fun i => i.size) = some 1 := by kernel_rfl
theorem und105 : (Try.prog.underlying 105).map flat = some true := by kernel_rfl
theorem k105 : Kd.ok Try.prog 105 .oth := one_of_map inf105 und105
theorem inf107 : (Try.prog.info? 107).map (fun i => i.size) = some 1 := by kernel_rfl
theorem und107 : (Try.prog.underlying 107).map flat = some true := by kernel_rfl
theorem k107 : Kd.ok Try.prog 107 .oth := one_of_map inf107 und107
theorem inf108 : (Try.prog.info? 108).map (fun i => i.size) = some 1 := by kernel_rfl
theorem und108 : (Try.prog.underlying 108).map flat = some true := by kernel_rfl
theorem k108 : Kd.ok Try.prog 108 .oth := one_of_map inf108 und108
theorem inf109 : (Try.prog.info? 109).map (fun i => i.size) = some 1 := by kernel_rfl
theorem und109 : Try.prog.underlying 109 = some (.int .u32) := by kernel_rfl
theorem k109 : Kd.ok Try.prog 109 (.int .u32) := ⟨und109, one_of inf109 und109⟩
theorem inf110 : (Try.prog.info? 110).map (fun i => i.size) = some 1 := by kernel_rfl
theorem und110 : (Try.prog.underlying 110).map flat = some true := by kernel_rfl
theorem k110 : Kd.ok Try.prog 110 .oth := one_of_map inf110 und110
theorem inf111 : (Try.prog.info? 111).map (fun i => i.size) = some 1 := by kernel_rfl
theorem und111 : Try.prog.underlying 111 = some (.int .u64) := by kernel_rfl
theorem k111 : Kd.ok Try.prog 111 (.int .u64) := ⟨und111, one_of inf111 und111⟩
theorem inf112 : (Try.prog.info? 112).map (fun i => i.size) = some 1 := by kernel_rfl
theorem und112 : (Try.prog.underlying 112).map flat = some true := by kernel_rfl
theorem k112 : Kd.ok Try.prog 112 .oth := one_of_map inf112 und112
theorem inf113 : (Try.prog.info? 113).map (fun i => i.size) = some 1 := by kernel_rfl
theorem und113 : (Try.prog.underlying 113).map flat = some true := by kernel_rfl
theorem k113 : Kd.ok Try.prog 113 .oth := one_of_map inf113 und113
theorem inf114 : (Try.prog.info? 114).map (fun i => i.size) = some 1 := by kernel_rfl
theorem und114 : Try.prog.underlying 114 = some (.int .u64) := by kernel_rfl
theorem k114 : Kd.ok Try.prog 114 (.int .u64) := ⟨und114, one_of inf114 und114⟩
theorem inf115 : (Try.prog.info? 115).map (fun i => i.size) = some 1 := by kernel_rfl
theorem und115 : (Try.prog.underlying 115).map flat = some true := by kernel_rfl
theorem k115 : Kd.ok Try.prog 115 .oth := one_of_map inf115 und115
theorem inf116 : (Try.prog.info? 116).map (fun i => i.size) = some 1 := by kernel_rfl
theorem und116 : (Try.prog.underlying 116).map flat = some true := by kernel_rfl
theorem k116 : Kd.ok Try.prog 116 .oth := one_of_map inf116 und116
theorem inf117 : (Try.prog.info? 117).map (fun i => i.size) = some 1 := by kernel_rfl
theorem und117 : (Try.prog.underlying 117).map flat = some true := by kernel_rfl
theorem k117 : Kd.ok Try.prog 117 .oth := one_of_map inf117 und117
theorem inf118 : (Try.prog.info? 118).map (fun i => i.size) = some 1 := by kernel_rfl
theorem und118 : (Try.prog.underlying 118).map flat = some true := by kernel_rfl
theorem k118 : Kd.ok Try.prog 118 .oth := one_of_map inf118 und118
theorem inf119 : (Try.prog.info? 119).map (fun i => i.size) = some 1 := by kernel_rfl
theorem und119 : (Try.prog.underlying 119).map flat = some true := by kernel_rfl
theorem k119 : Kd.ok Try.prog 119 .oth := one_of_map inf119 und119
theorem inf120 : (Try.prog.info? 120).map (fun i => i.size) = some 1 := by kernel_rfl
theorem und120 : (Try.prog.underlying 120).map flat = some true := by kernel_rfl
theorem k120 : Kd.ok Try.prog 120 .oth := one_of_map inf120 und120
theorem inf121 : (Try.prog.info? 121).map (fun i => i.size) = some 1 := by kernel_rfl
theorem und121 : (Try.prog.underlying 121).map flat = some true := by kernel_rfl
theorem k121 : Kd.ok Try.prog 121 .oth := one_of_map inf121 und121
theorem inf122 : (Try.prog.info? 122).map (fun i => i.size) = some 1 := by kernel_rfl
theorem und122 : Try.prog.underlying 122 = some (.slice 9) := by kernel_rfl
theorem elt122 : (Try.prog.info? 9).map (fun i => (i.zero, i.size, i.bytes)) = some (some (.string ByteArray.empty), 1, 16) := by kernel_rfl
theorem k122 : Kd.ok Try.prog 122 (.sl (.string ByteArray.empty)) := sl_of inf122 und122 elt122 (by decide) rfl rfl
theorem inf123 : (Try.prog.info? 123).map (fun i => i.size) = some 1 := by kernel_rfl
theorem und123 : (Try.prog.underlying 123).map flat = some true := by kernel_rfl
theorem k123 : Kd.ok Try.prog 123 .oth := one_of_map inf123 und123
theorem inf124 : (Try.prog.info? 124).map (fun i => i.size) = some 1 := by kernel_rfl
theorem und124 : (Try.prog.underlying 124).map flat = some true := by kernel_rfl
theorem k124 : Kd.ok Try.prog 124 .oth := one_of_map inf124 und124
theorem inf125 : (Try.prog.info? 125).map (fun i => i.size) = some 1 := by kernel_rfl
theorem und125 : (Try.prog.underlying 125).map flat = some true := by kernel_rfl
theorem k125 : Kd.ok Try.prog 125 .oth := one_of_map inf125 und125
theorem inf126 : (Try.prog.info? 126).map (fun i => i.size) = some 1 := by kernel_rfl
theorem und126 : (Try.prog.underlying 126).map flat = some true := by kernel_rfl
theorem k126 : Kd.ok Try.prog 126 .oth := one_of_map inf126 und126
theorem inf128 : (Try.prog.info? 128).map (fun i => i.size) = some 1 := by kernel_rfl
theorem und128 : (Try.prog.underlying 128).map flat = some true := by kernel_rfl
theorem k128 : Kd.ok Try.prog 128 .oth := one_of_map inf128 und128
theorem inf129 : (Try.prog.info? 129).map (fun i => i.size) = some 1 := by kernel_rfl
theorem und129 : (Try.prog.underlying 129).map flat = some true := by kernel_rfl
theorem k129 : Kd.ok Try.prog 129 .oth := one_of_map inf129 und129
theorem inf130 : (Try.prog.info? 130).map (fun i => i.size) = some 1 := by kernel_rfl
theorem und130 : (Try.prog.underlying 130).map flat = some true := by kernel_rfl
theorem k130 : Kd.ok Try.prog 130 .oth := one_of_map inf130 und130
theorem inf136 : (Try.prog.info? 136).map (fun i => i.size) = some 1 := by kernel_rfl
theorem und136 : (Try.prog.underlying 136).map flat = some true := by kernel_rfl
theorem k136 : Kd.ok Try.prog 136 .oth := one_of_map inf136 und136
theorem inf137 : (Try.prog.info? 137).map (fun i => i.size) = some 1 := by kernel_rfl
theorem und137 : Try.prog.underlying 137 = some (.int .u8) := by kernel_rfl
theorem k137 : Kd.ok Try.prog 137 (.int .u8) := ⟨und137, one_of inf137 und137⟩
theorem inf138 : (Try.prog.info? 138).map (fun i => i.size) = some 1 := by kernel_rfl
theorem und138 : Try.prog.underlying 138 = some (.int .u8) := by kernel_rfl
theorem k138 : Kd.ok Try.prog 138 (.int .u8) := ⟨und138, one_of inf138 und138⟩
theorem inf139 : (Try.prog.info? 139).map (fun i => i.size) = some 1 := by kernel_rfl
theorem und139 : (Try.prog.underlying 139).map flat = some true := by kernel_rfl
theorem k139 : Kd.ok Try.prog 139 .oth := one_of_map inf139 und139
theorem inf140 : (Try.prog.info? 140).map (fun i => i.size) = some 1 := by kernel_rfl
theorem und140 : (Try.prog.underlying 140).map flat = some true := by kernel_rfl
theorem k140 : Kd.ok Try.prog 140 .oth := one_of_map inf140 und140
theorem inf141 : (Try.prog.info? 141).map (fun i => i.size) = some 1 := by kernel_rfl
theorem und141 : Try.prog.underlying 141 = some (.int .i32) := by kernel_rfl
theorem k141 : Kd.ok Try.prog 141 (.int .i32) := ⟨und141, one_of inf141 und141⟩
theorem inf142 : (Try.prog.info? 142).map (fun i => i.size) = some 1 := by kernel_rfl
theorem und142 : Try.prog.underlying 142 = some (.int .i32) := by kernel_rfl
theorem k142 : Kd.ok Try.prog 142 (.int .i32) := ⟨und142, one_of inf142 und142⟩
theorem und94 : (Try.prog.underlying 94).map fieldsOf = some (some [(0, 36), (1, 3), (2, 3)]) := by kernel_rfl
theorem inf94 : (Try.prog.info? 94).map (fun i => (i.zero, i.size)) = some (some (.agg ([Value.slice none 0 0, Value.int .i64 0, Value.int .i64 0] : List Value).toArray), 3) := by kernel_rfl
theorem k94 : Kd.ok Try.prog 94 (.rcd [Value.slice none 0 0, Value.int .i64 0, Value.int .i64 0]) := rcd_of und94 inf94 rfl (⟨rfl, Kd.ok_one k36 rfl, ⟨rfl, Kd.ok_one k3 rfl, ⟨rfl, Kd.ok_one k3 rfl, trivial⟩⟩⟩) (by intro z hz; simp only [List.mem_cons, List.not_mem_nil, or_false] at hz; rcases hz with rfl | rfl | rfl <;> rfl)
theorem und95 : (Try.prog.underlying 95).map fieldsOf = some (some [(0, 36), (1, 3), (2, 3)]) := by kernel_rfl
theorem inf95 : (Try.prog.info? 95).map (fun i => (i.zero, i.size)) = some (some (.agg ([Value.slice none 0 0, Value.int .i64 0, Value.int .i64 0] : List Value).toArray), 3) := by kernel_rfl
theorem k95 : Kd.ok Try.prog 95 (.rcd [Value.slice none 0 0, Value.int .i64 0, Value.int .i64 0]) := rcd_of und95 inf95 rfl (⟨rfl, Kd.ok_one k36 rfl, ⟨rfl, Kd.ok_one k3 rfl, ⟨rfl, Kd.ok_one k3 rfl, trivial⟩⟩⟩) (by intro z hz; simp only [List.mem_cons, List.not_mem_nil, or_false] at hz; rcases hz with rfl | rfl | rfl <;> rfl)

/-- The kinds of the types, by their numbers. -/
def kd (t : TypeId) : Kd :=
  bif Nat.beq t 1 then .oth else bif Nat.beq t 2 then .int .i64 else bif Nat.beq t 3 then .int .i64 else bif Nat.beq t 4 then .bool else bif Nat.beq t 5 then .int .u8 else bif Nat.beq t 6 then .int .u8 else bif Nat.beq t 9 then .str else bif Nat.beq t 10 then .str else bif Nat.beq t 11 then .str else bif Nat.beq t 12 then .int .u64 else bif Nat.beq t 15 then .oth else bif Nat.beq t 16 then .oth else bif Nat.beq t 17 then .oth else bif Nat.beq t 20 then .ifc else bif Nat.beq t 21 then .int .i32 else bif Nat.beq t 22 then .sl (.slice none 0 0) else bif Nat.beq t 23 then .sl (.int .i64 0) else bif Nat.beq t 24 then .oth else bif Nat.beq t 25 then .oth else bif Nat.beq t 26 then .oth else bif Nat.beq t 27 then .oth else bif Nat.beq t 28 then .oth else bif Nat.beq t 29 then .oth else bif Nat.beq t 30 then .oth else bif Nat.beq t 31 then .oth else bif Nat.beq t 32 then .oth else bif Nat.beq t 33 then .oth else bif Nat.beq t 35 then .oth else bif Nat.beq t 36 then .sl (.int .u8 0) else bif Nat.beq t 37 then .oth else bif Nat.beq t 39 then .oth else bif Nat.beq t 40 then .oth else bif Nat.beq t 41 then .oth else bif Nat.beq t 42 then .oth else bif Nat.beq t 43 then .oth else bif Nat.beq t 44 then .oth else bif Nat.beq t 46 then .oth else bif Nat.beq t 48 then .oth else bif Nat.beq t 50 then .oth else bif Nat.beq t 51 then .oth else bif Nat.beq t 53 then .oth else bif Nat.beq t 55 then .oth else bif Nat.beq t 57 then .oth else bif Nat.beq t 58 then .oth else bif Nat.beq t 59 then .oth else bif Nat.beq t 60 then .oth else bif Nat.beq t 61 then .oth else bif Nat.beq t 62 then .oth else bif Nat.beq t 63 then .oth else bif Nat.beq t 64 then .oth else bif Nat.beq t 65 then .oth else bif Nat.beq t 66 then .oth else bif Nat.beq t 67 then .oth else bif Nat.beq t 68 then .oth else bif Nat.beq t 69 then .oth else bif Nat.beq t 70 then .oth else bif Nat.beq t 71 then .oth else bif Nat.beq t 72 then .oth else bif Nat.beq t 73 then .oth else bif Nat.beq t 74 then .oth else bif Nat.beq t 75 then .oth else bif Nat.beq t 76 then .oth else bif Nat.beq t 77 then .oth else bif Nat.beq t 78 then .oth else bif Nat.beq t 79 then .oth else bif Nat.beq t 80 then .oth else bif Nat.beq t 81 then .oth else bif Nat.beq t 82 then .int .u64 else bif Nat.beq t 83 then .oth else bif Nat.beq t 84 then .oth else bif Nat.beq t 85 then .oth else bif Nat.beq t 86 then .oth else bif Nat.beq t 87 then .oth else bif Nat.beq t 88 then .oth else bif Nat.beq t 89 then .oth else bif Nat.beq t 90 then .oth else bif Nat.beq t 91 then .oth else bif Nat.beq t 92 then .oth else bif Nat.beq t 93 then .oth else bif Nat.beq t 96 then .oth else bif Nat.beq t 97 then .oth else bif Nat.beq t 98 then .oth else bif Nat.beq t 99 then .oth else bif Nat.beq t 100 then .oth else bif Nat.beq t 101 then .int .i64 else bif Nat.beq t 103 then .oth else bif Nat.beq t 104 then .oth else bif Nat.beq t 105 then .oth else bif Nat.beq t 107 then .oth else bif Nat.beq t 108 then .oth else bif Nat.beq t 109 then .int .u32 else bif Nat.beq t 110 then .oth else bif Nat.beq t 111 then .int .u64 else bif Nat.beq t 112 then .oth else bif Nat.beq t 113 then .oth else bif Nat.beq t 114 then .int .u64 else bif Nat.beq t 115 then .oth else bif Nat.beq t 116 then .oth else bif Nat.beq t 117 then .oth else bif Nat.beq t 118 then .oth else bif Nat.beq t 119 then .oth else bif Nat.beq t 120 then .oth else bif Nat.beq t 121 then .oth else bif Nat.beq t 122 then .sl (.string ByteArray.empty) else bif Nat.beq t 123 then .oth else bif Nat.beq t 124 then .oth else bif Nat.beq t 125 then .oth else bif Nat.beq t 126 then .oth else bif Nat.beq t 128 then .oth else bif Nat.beq t 129 then .oth else bif Nat.beq t 130 then .oth else bif Nat.beq t 136 then .oth else bif Nat.beq t 137 then .int .u8 else bif Nat.beq t 138 then .int .u8 else bif Nat.beq t 139 then .oth else bif Nat.beq t 140 then .oth else bif Nat.beq t 141 then .int .i32 else bif Nat.beq t 142 then .int .i32 else bif Nat.beq t 94 then .rcd [Value.slice none 0 0, Value.int .i64 0, Value.int .i64 0] else bif Nat.beq t 95 then .rcd [Value.slice none 0 0, Value.int .i64 0, Value.int .i64 0] else .no

theorem kd_ok (t : TypeId) : Kd.ok Try.prog t (kd t) := by
  unfold kd
  by_cases h1 : t = 1
  · subst h1; exact k1
  rw [beq_ne h1, cond_false]
  by_cases h2 : t = 2
  · subst h2; exact k2
  rw [beq_ne h2, cond_false]
  by_cases h3 : t = 3
  · subst h3; exact k3
  rw [beq_ne h3, cond_false]
  by_cases h4 : t = 4
  · subst h4; exact k4
  rw [beq_ne h4, cond_false]
  by_cases h5 : t = 5
  · subst h5; exact k5
  rw [beq_ne h5, cond_false]
  by_cases h6 : t = 6
  · subst h6; exact k6
  rw [beq_ne h6, cond_false]
  by_cases h9 : t = 9
  · subst h9; exact k9
  rw [beq_ne h9, cond_false]
  by_cases h10 : t = 10
  · subst h10; exact k10
  rw [beq_ne h10, cond_false]
  by_cases h11 : t = 11
  · subst h11; exact k11
  rw [beq_ne h11, cond_false]
  by_cases h12 : t = 12
  · subst h12; exact k12
  rw [beq_ne h12, cond_false]
  by_cases h15 : t = 15
  · subst h15; exact k15
  rw [beq_ne h15, cond_false]
  by_cases h16 : t = 16
  · subst h16; exact k16
  rw [beq_ne h16, cond_false]
  by_cases h17 : t = 17
  · subst h17; exact k17
  rw [beq_ne h17, cond_false]
  by_cases h20 : t = 20
  · subst h20; exact k20
  rw [beq_ne h20, cond_false]
  by_cases h21 : t = 21
  · subst h21; exact k21
  rw [beq_ne h21, cond_false]
  by_cases h22 : t = 22
  · subst h22; exact k22
  rw [beq_ne h22, cond_false]
  by_cases h23 : t = 23
  · subst h23; exact k23
  rw [beq_ne h23, cond_false]
  by_cases h24 : t = 24
  · subst h24; exact k24
  rw [beq_ne h24, cond_false]
  by_cases h25 : t = 25
  · subst h25; exact k25
  rw [beq_ne h25, cond_false]
  by_cases h26 : t = 26
  · subst h26; exact k26
  rw [beq_ne h26, cond_false]
  by_cases h27 : t = 27
  · subst h27; exact k27
  rw [beq_ne h27, cond_false]
  by_cases h28 : t = 28
  · subst h28; exact k28
  rw [beq_ne h28, cond_false]
  by_cases h29 : t = 29
  · subst h29; exact k29
  rw [beq_ne h29, cond_false]
  by_cases h30 : t = 30
  · subst h30; exact k30
  rw [beq_ne h30, cond_false]
  by_cases h31 : t = 31
  · subst h31; exact k31
  rw [beq_ne h31, cond_false]
  by_cases h32 : t = 32
  · subst h32; exact k32
  rw [beq_ne h32, cond_false]
  by_cases h33 : t = 33
  · subst h33; exact k33
  rw [beq_ne h33, cond_false]
  by_cases h35 : t = 35
  · subst h35; exact k35
  rw [beq_ne h35, cond_false]
  by_cases h36 : t = 36
  · subst h36; exact k36
  rw [beq_ne h36, cond_false]
  by_cases h37 : t = 37
  · subst h37; exact k37
  rw [beq_ne h37, cond_false]
  by_cases h39 : t = 39
  · subst h39; exact k39
  rw [beq_ne h39, cond_false]
  by_cases h40 : t = 40
  · subst h40; exact k40
  rw [beq_ne h40, cond_false]
  by_cases h41 : t = 41
  · subst h41; exact k41
  rw [beq_ne h41, cond_false]
  by_cases h42 : t = 42
  · subst h42; exact k42
  rw [beq_ne h42, cond_false]
  by_cases h43 : t = 43
  · subst h43; exact k43
  rw [beq_ne h43, cond_false]
  by_cases h44 : t = 44
  · subst h44; exact k44
  rw [beq_ne h44, cond_false]
  by_cases h46 : t = 46
  · subst h46; exact k46
  rw [beq_ne h46, cond_false]
  by_cases h48 : t = 48
  · subst h48; exact k48
  rw [beq_ne h48, cond_false]
  by_cases h50 : t = 50
  · subst h50; exact k50
  rw [beq_ne h50, cond_false]
  by_cases h51 : t = 51
  · subst h51; exact k51
  rw [beq_ne h51, cond_false]
  by_cases h53 : t = 53
  · subst h53; exact k53
  rw [beq_ne h53, cond_false]
  by_cases h55 : t = 55
  · subst h55; exact k55
  rw [beq_ne h55, cond_false]
  by_cases h57 : t = 57
  · subst h57; exact k57
  rw [beq_ne h57, cond_false]
  by_cases h58 : t = 58
  · subst h58; exact k58
  rw [beq_ne h58, cond_false]
  by_cases h59 : t = 59
  · subst h59; exact k59
  rw [beq_ne h59, cond_false]
  by_cases h60 : t = 60
  · subst h60; exact k60
  rw [beq_ne h60, cond_false]
  by_cases h61 : t = 61
  · subst h61; exact k61
  rw [beq_ne h61, cond_false]
  by_cases h62 : t = 62
  · subst h62; exact k62
  rw [beq_ne h62, cond_false]
  by_cases h63 : t = 63
  · subst h63; exact k63
  rw [beq_ne h63, cond_false]
  by_cases h64 : t = 64
  · subst h64; exact k64
  rw [beq_ne h64, cond_false]
  by_cases h65 : t = 65
  · subst h65; exact k65
  rw [beq_ne h65, cond_false]
  by_cases h66 : t = 66
  · subst h66; exact k66
  rw [beq_ne h66, cond_false]
  by_cases h67 : t = 67
  · subst h67; exact k67
  rw [beq_ne h67, cond_false]
  by_cases h68 : t = 68
  · subst h68; exact k68
  rw [beq_ne h68, cond_false]
  by_cases h69 : t = 69
  · subst h69; exact k69
  rw [beq_ne h69, cond_false]
  by_cases h70 : t = 70
  · subst h70; exact k70
  rw [beq_ne h70, cond_false]
  by_cases h71 : t = 71
  · subst h71; exact k71
  rw [beq_ne h71, cond_false]
  by_cases h72 : t = 72
  · subst h72; exact k72
  rw [beq_ne h72, cond_false]
  by_cases h73 : t = 73
  · subst h73; exact k73
  rw [beq_ne h73, cond_false]
  by_cases h74 : t = 74
  · subst h74; exact k74
  rw [beq_ne h74, cond_false]
  by_cases h75 : t = 75
  · subst h75; exact k75
  rw [beq_ne h75, cond_false]
  by_cases h76 : t = 76
  · subst h76; exact k76
  rw [beq_ne h76, cond_false]
  by_cases h77 : t = 77
  · subst h77; exact k77
  rw [beq_ne h77, cond_false]
  by_cases h78 : t = 78
  · subst h78; exact k78
  rw [beq_ne h78, cond_false]
  by_cases h79 : t = 79
  · subst h79; exact k79
  rw [beq_ne h79, cond_false]
  by_cases h80 : t = 80
  · subst h80; exact k80
  rw [beq_ne h80, cond_false]
  by_cases h81 : t = 81
  · subst h81; exact k81
  rw [beq_ne h81, cond_false]
  by_cases h82 : t = 82
  · subst h82; exact k82
  rw [beq_ne h82, cond_false]
  by_cases h83 : t = 83
  · subst h83; exact k83
  rw [beq_ne h83, cond_false]
  by_cases h84 : t = 84
  · subst h84; exact k84
  rw [beq_ne h84, cond_false]
  by_cases h85 : t = 85
  · subst h85; exact k85
  rw [beq_ne h85, cond_false]
  by_cases h86 : t = 86
  · subst h86; exact k86
  rw [beq_ne h86, cond_false]
  by_cases h87 : t = 87
  · subst h87; exact k87
  rw [beq_ne h87, cond_false]
  by_cases h88 : t = 88
  · subst h88; exact k88
  rw [beq_ne h88, cond_false]
  by_cases h89 : t = 89
  · subst h89; exact k89
  rw [beq_ne h89, cond_false]
  by_cases h90 : t = 90
  · subst h90; exact k90
  rw [beq_ne h90, cond_false]
  by_cases h91 : t = 91
  · subst h91; exact k91
  rw [beq_ne h91, cond_false]
  by_cases h92 : t = 92
  · subst h92; exact k92
  rw [beq_ne h92, cond_false]
  by_cases h93 : t = 93
  · subst h93; exact k93
  rw [beq_ne h93, cond_false]
  by_cases h96 : t = 96
  · subst h96; exact k96
  rw [beq_ne h96, cond_false]
  by_cases h97 : t = 97
  · subst h97; exact k97
  rw [beq_ne h97, cond_false]
  by_cases h98 : t = 98
  · subst h98; exact k98
  rw [beq_ne h98, cond_false]
  by_cases h99 : t = 99
  · subst h99; exact k99
  rw [beq_ne h99, cond_false]
  by_cases h100 : t = 100
  · subst h100; exact k100
  rw [beq_ne h100, cond_false]
  by_cases h101 : t = 101
  · subst h101; exact k101
  rw [beq_ne h101, cond_false]
  by_cases h103 : t = 103
  · subst h103; exact k103
  rw [beq_ne h103, cond_false]
  by_cases h104 : t = 104
  · subst h104; exact k104
  rw [beq_ne h104, cond_false]
  by_cases h105 : t = 105
  · subst h105; exact k105
  rw [beq_ne h105, cond_false]
  by_cases h107 : t = 107
  · subst h107; exact k107
  rw [beq_ne h107, cond_false]
  by_cases h108 : t = 108
  · subst h108; exact k108
  rw [beq_ne h108, cond_false]
  by_cases h109 : t = 109
  · subst h109; exact k109
  rw [beq_ne h109, cond_false]
  by_cases h110 : t = 110
  · subst h110; exact k110
  rw [beq_ne h110, cond_false]
  by_cases h111 : t = 111
  · subst h111; exact k111
  rw [beq_ne h111, cond_false]
  by_cases h112 : t = 112
  · subst h112; exact k112
  rw [beq_ne h112, cond_false]
  by_cases h113 : t = 113
  · subst h113; exact k113
  rw [beq_ne h113, cond_false]
  by_cases h114 : t = 114
  · subst h114; exact k114
  rw [beq_ne h114, cond_false]
  by_cases h115 : t = 115
  · subst h115; exact k115
  rw [beq_ne h115, cond_false]
  by_cases h116 : t = 116
  · subst h116; exact k116
  rw [beq_ne h116, cond_false]
  by_cases h117 : t = 117
  · subst h117; exact k117
  rw [beq_ne h117, cond_false]
  by_cases h118 : t = 118
  · subst h118; exact k118
  rw [beq_ne h118, cond_false]
  by_cases h119 : t = 119
  · subst h119; exact k119
  rw [beq_ne h119, cond_false]
  by_cases h120 : t = 120
  · subst h120; exact k120
  rw [beq_ne h120, cond_false]
  by_cases h121 : t = 121
  · subst h121; exact k121
  rw [beq_ne h121, cond_false]
  by_cases h122 : t = 122
  · subst h122; exact k122
  rw [beq_ne h122, cond_false]
  by_cases h123 : t = 123
  · subst h123; exact k123
  rw [beq_ne h123, cond_false]
  by_cases h124 : t = 124
  · subst h124; exact k124
  rw [beq_ne h124, cond_false]
  by_cases h125 : t = 125
  · subst h125; exact k125
  rw [beq_ne h125, cond_false]
  by_cases h126 : t = 126
  · subst h126; exact k126
  rw [beq_ne h126, cond_false]
  by_cases h128 : t = 128
  · subst h128; exact k128
  rw [beq_ne h128, cond_false]
  by_cases h129 : t = 129
  · subst h129; exact k129
  rw [beq_ne h129, cond_false]
  by_cases h130 : t = 130
  · subst h130; exact k130
  rw [beq_ne h130, cond_false]
  by_cases h136 : t = 136
  · subst h136; exact k136
  rw [beq_ne h136, cond_false]
  by_cases h137 : t = 137
  · subst h137; exact k137
  rw [beq_ne h137, cond_false]
  by_cases h138 : t = 138
  · subst h138; exact k138
  rw [beq_ne h138, cond_false]
  by_cases h139 : t = 139
  · subst h139; exact k139
  rw [beq_ne h139, cond_false]
  by_cases h140 : t = 140
  · subst h140; exact k140
  rw [beq_ne h140, cond_false]
  by_cases h141 : t = 141
  · subst h141; exact k141
  rw [beq_ne h141, cond_false]
  by_cases h142 : t = 142
  · subst h142; exact k142
  rw [beq_ne h142, cond_false]
  by_cases h94 : t = 94
  · subst h94; exact k94
  rw [beq_ne h94, cond_false]
  by_cases h95 : t = 95
  · subst h95; exact k95
  rw [beq_ne h95, cond_false]
  exact trivial

theorem mixed : Try.prog.follows .mixedOrders = true := by kernel_rfl

end Go.Proofs.Ytkkniibnlniflaa.Hx
