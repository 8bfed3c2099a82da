/-
  The neighbours of a point, of the program and of the reference.
  Parts of a diagram, in plain words: what is reached from a point along bonds.
  A search along bonds, in plain words: what is seen, what stands in the queue.
  Bools in a row of one's own; the parts of a diagram as lists, in plain words.
  Slices of slices whose rows lie in any set; a row that is there, appended to such a slice; slices.Sort at ints, led over to rows.
  The parts of a diagram, of the reference.
  DERIVED: THE SHELF's CONTRACTS AT THIS DUMP, IN PLAIN WORDS (tools/lay-plain.mjs out of 'YtgliajcgcbnemaaGreatDoorSs.lean', which tools/lay-shelf.mjs wrote): THE SAME DECLARATIONS UNDER THE SAME NAMES: 'import', 'namespace', 'open', 'def', 'theorem' AND NOTHING ELSE: no command of the shelf's: FOR A HAND-IN. Each laying: the table of numbers ('.._ren') and one theorem, a field a fact of the dump's own or the kernel's comparison; each contract: ONE APPLICATION.
  The parts of a diagram, of the program; HighestRoot of both sides.
  The reference's draws: a cursor over bytes (a struct behind a pointer), and what it draws: numbers, one of some numbers, one of some texts.
  Contracts of membership in lists of roots and of copies of matrices; a word read off its inversions, as plain functions.
  Words as maps of all places: the exchange of a letter, the deletion of two letters, and that the image of rho tells the map. Plain theory.
-/
import Derived.Test.YtgliajcgcbnemaaGreatDoorZ11
import Derived.Shelf.Sort.Plain
import Derived.Ground.NamesProg
import Derived.Test.YtgliajcgcbnemaaGreatDoorProg
import Derived.Laws.Strings
namespace Go.Proofs.YtgliajcgcbnemaaGreatDoor.Hx
open Go.RowKit
variable {dm : Bool}

/-- The neighbours of point i below k. -/
def nbrTo (c : List (List Int)) (i k : Nat) : List Int := ((List.range k).filter fun j => decide (j ≠ i) && decide ((c.getD i []).getD j 0 ≠ 0)).map fun (j : Nat) => (j : Int)
end Go.Proofs.YtgliajcgcbnemaaGreatDoor.Hx

namespace Go.Proofs.YtgliajcgcbnemaaGreatDoor.Hx
open Go.RowKit

def Adj (c : List (List Int)) (i j : Nat) : Prop := j < c.length ∧ j ≠ i ∧ (c.getD i []).getD j 0 ≠ 0

inductive Rch (c : List (List Int)) (a : Nat) : Nat → Prop
  | here : Rch c a a
  | step {j k : Nat} (h : Rch c a j) (s : Adj c j k) : Rch c a k

open Classical in
/-- The first point of its part. -/
noncomputable def isMin (c : List (List Int)) (i : Nat) : Bool := decide (∀ j, j < i → ¬ Rch c j i)
noncomputable def partsN (c : List (List Int)) : Nat := ((List.range c.length).filter (isMin c)).length
noncomputable def isConn (c : List (List Int)) : Bool := isCartan c && decide (partsN c = 1)

end Go.Proofs.YtgliajcgcbnemaaGreatDoor.Hx

namespace Go.Proofs.YtgliajcgcbnemaaGreatDoor.Hx
open Go.RowKit

structure Srch (c : List (List Int)) (a : Nat) (S0 : Nat → Prop) (S : List Bool) (Q : List Int) (k : Nat) : Prop where
  len : S.length = c.length
  seen : ∀ j, j < c.length → (S.getD j false = true ↔ S0 j ∨ (j : Int) ∈ Q)
  rch : ∀ x ∈ Q, ∃ j : Nat, x = j ∧ j < c.length ∧ Rch c a j ∧ ¬ S0 j
  nodup : Q.Nodup
  head : (a : Int) ∈ Q
  done : ∀ t, t < k → ∀ j, Adj c (Q.getD t 0).toNat j → S.getD j false = true

end Go.Proofs.YtgliajcgcbnemaaGreatDoor.Hx

namespace Go.Proofs.YtgliajcgcbnemaaGreatDoor.Hx
open Go.RowKit

abbrev cbo (b : Bool) : H0 := .pl (.bool b)

/-- A slice of bools in row q, one's own. -/
def BitR (q : Nat) (h : Heap) (x : H0) (S : List Bool) : Prop := x = .sl q 0 S.length ∧ h[q]? = some (.own (S.map cbo))

open Classical in
/-- The points that are reached from i, below k, ascending. -/
noncomputable def partTo (c : List (List Int)) (i k : Nat) : List Int := ((List.range k).filter fun j => decide (Rch c i j)).map fun (j : Nat) => (j : Int)
noncomputable def partL (c : List (List Int)) (i : Nat) : List Int := partTo c i c.length
noncomputable def partsTo (c : List (List Int)) (k : Nat) : List (List Int) := ((List.range k).filter (isMin c)).map (partL c)
noncomputable def partsC (c : List (List Int)) : List (List Int) := if isCartan c then partsTo c c.length else []

end Go.Proofs.YtgliajcgcbnemaaGreatDoor.Hx

namespace Go.Proofs.YtgliajcgcbnemaaGreatDoor.Hx
open Go.RowKit
variable {dm : Bool}

/-- A slice of slices of ints, all its rows in a set. -/
def MatP (S : Nat → Prop) (h : Heap) (z : H0) (L : List (List Int)) : Prop := ∃ r ρ, z = .sl r 0 L.length ∧ S r ∧ (∀ i, i < L.length → S (ρ i)) ∧ MatAt h r ρ L

end Go.Proofs.YtgliajcgcbnemaaGreatDoor.Hx

namespace Go.Proofs.YtgliajcgcbnemaaGreatDoor.Hx
open Go.RowKit
variable {dm : Bool}

end Go.Proofs.YtgliajcgcbnemaaGreatDoor.Hx

namespace Go.Proofs
open Go.Shelf
def Tryz.sortI_ren : Go.Shelf.Ren := ⟨fun | 189 => 189 | 125 => 151 | 257 => 230 | 128 => 207 | 129 => 208 | 294 => 253 | 295 => 254 | 296 => 255 | 297 => 256 | 298 => 257 | 299 => 258 | 216 => 259 | 300 => 260 | 301 => 261 | 328 => 277 | 329 => 235 | 330 => 236 | 331 => 278 | 332 => 279 | 215 => 209 | 343 => 298 | n => n, fun | 28 => 30 | 3 => 3 | 46 => 99 | 0 => 0 | 51 => 139 | 53 => 141 | 4 => 4 | 183 => 133 | 182 => 132 | 131 => 116 | 5 => 5 | 9 => 9 | 218 => 154 | 222 => 158 | 228 => 181 | 229 => 182 | n => n, fun | n => n⟩
theorem Tryz.sortI : Go.Proofs.Lays.n189 Tryz.prog Tryz.sortI_ren := {
  mixed := by kernel_rfl
  f125 := Tryz.func151.trans (congrArg some (by kernel_rfl))
  f128 := Tryz.func207.trans (congrArg some (by kernel_rfl))
  f129 := Tryz.func208.trans (congrArg some (by kernel_rfl))
  f189 := Tryz.func189.trans (congrArg some (by kernel_rfl))
  f215 := Tryz.func209.trans (congrArg some (by kernel_rfl))
  f216 := Tryz.func259.trans (congrArg some (by kernel_rfl))
  f257 := Tryz.func230.trans (congrArg some (by kernel_rfl))
  f294 := Tryz.func253.trans (congrArg some (by kernel_rfl))
  f295 := Tryz.func254.trans (congrArg some (by kernel_rfl))
  f296 := Tryz.func255.trans (congrArg some (by kernel_rfl))
  f297 := Tryz.func256.trans (congrArg some (by kernel_rfl))
  f298 := Tryz.func257.trans (congrArg some (by kernel_rfl))
  f299 := Tryz.func258.trans (congrArg some (by kernel_rfl))
  f300 := Tryz.func260.trans (congrArg some (by kernel_rfl))
  f301 := Tryz.func261.trans (congrArg some (by kernel_rfl))
  f328 := Tryz.func277.trans (congrArg some (by kernel_rfl))
  f329 := Tryz.func235.trans (congrArg some (by kernel_rfl))
  f330 := Tryz.func236.trans (congrArg some (by kernel_rfl))
  f331 := Tryz.func278.trans (congrArg some (by kernel_rfl))
  f332 := Tryz.func279.trans (congrArg some (by kernel_rfl))
  f343 := Tryz.func298.trans (congrArg some (by kernel_rfl))
  t0 := Tryz.underlying0
  a0 := Tryz.isAgg0
  z0 := Tryz.sizeOf0
  v0 := Tryz.zeroValue0
  t3 := Tryz.underlying3
  a3 := Tryz.isAgg3
  z3 := Tryz.sizeOf3
  v3 := Tryz.zeroValue3
  t4 := Tryz.underlying4
  a4 := Tryz.isAgg4
  z4 := Tryz.sizeOf4
  v4 := Tryz.zeroValue4
  t5 := Tryz.underlying5
  a5 := Tryz.isAgg5
  z5 := Tryz.sizeOf5
  v5 := Tryz.zeroValue5
  t9 := Tryz.underlying9
  a9 := Tryz.isAgg9
  z9 := Tryz.sizeOf9
  v9 := Tryz.zeroValue9
  t28 := Tryz.underlying30
  a28 := Tryz.isAgg30
  z28 := Tryz.sizeOf30
  v28 := Tryz.zeroValue30
  t46 := Tryz.underlying99
  a46 := Tryz.isAgg99
  z46 := Tryz.sizeOf99
  v46 := Tryz.zeroValue99
  t51 := Tryz.underlying139
  a51 := Tryz.isAgg139
  z51 := Tryz.sizeOf139
  v51 := Tryz.zeroValue139
  t53 := Tryz.underlying141
  a53 := Tryz.isAgg141
  z53 := Tryz.sizeOf141
  v53 := Tryz.zeroValue141
  t131 := Tryz.underlying116
  a131 := Tryz.isAgg116
  z131 := Tryz.sizeOf116
  v131 := Tryz.zeroValue116
  t182 := Tryz.underlying132
  a182 := Tryz.isAgg132
  z182 := Tryz.sizeOf132
  v182 := Tryz.zeroValue132
  t183 := Tryz.underlying133
  a183 := Tryz.isAgg133
  z183 := Tryz.sizeOf133
  v183 := Tryz.zeroValue133
  t218 := Tryz.underlying154
  a218 := Tryz.isAgg154
  z218 := Tryz.sizeOf154
  v218 := Tryz.zeroValue154
  t222 := Tryz.underlying158
  a222 := Tryz.isAgg158
  z222 := Tryz.sizeOf158
  v222 := Tryz.zeroValue158
  t228 := Tryz.underlying181
  a228 := Tryz.isAgg181
  z228 := Tryz.sizeOf181
  v228 := Tryz.zeroValue181
  t229 := Tryz.underlying182
  a229 := Tryz.isAgg182
  z229 := Tryz.sizeOf182
  v229 := Tryz.zeroValue182 }
end Go.Proofs

namespace Go.Proofs.YtgliajcgcbnemaaGreatDoor.Hx
open Go.RowKit
variable {dm : Bool}

/-- What was seen before a point: what some earlier point reaches. -/
def Before (c : List (List Int)) (k j : Nat) : Prop := ∃ m, m < k ∧ Rch c m j

end Go.Proofs.YtgliajcgcbnemaaGreatDoor.Hx

namespace Go.Proofs.YtgliajcgcbnemaaGreatDoor.Hx
open Go.RowKit
variable {dm : Bool}

/-- A cell that holds a byte; a cell that holds a text. -/
abbrev cby (n : Int) : H0 := .pl (.int .u8 n)
abbrev cst (s : ByteArray) : H0 := .pl (.string s)
abbrev St (s : ByteArray) : HV := .s (.pl (.string s))

def Bytes (h : Heap) (x : H0) (l : List Int) : Prop := Shows h (.s x) (l.map cby) ∧ l.length ≤ 1048576 ∧ ∀ y ∈ l, 0 ≤ y ∧ y < 256

/-- The cursor: a struct of a slice of bytes and two numbers, in row r. -/
def Cur (r : Nat) (h : Heap) (x : H0) : Prop := x = .ptr r 0 ∧ ∃ (b : H0) (l : List Int) (i hh : Int), h[r]? = some (.own [b, ci i, ci hh]) ∧ Bytes h b l ∧ (∀ q o n, b = .sl q o n → q < r) ∧ 0 ≤ i ∧ i ≤ 1048576

theorem HField.at {n r o f : Nat} {K : HV → Prop} (h : f < n) (hK : K (.s (.ptr r (o + f)))) : HField n (.s (.ptr r o)) f K := ⟨r, o, rfl, h, hK⟩
theorem At.here {h : Heap} {r o : Nat} {cs : List H0} {c : H0} (hr : h[r]? = some (.own cs)) (hc : cs[o]? = some c) : At h (.ptr r o) c := ⟨r, o, _, cs, rfl, hr, rfl, hc⟩
theorem HConv.of {k k' : IntKind} {n : Int} {K : HV → Prop} (hK : K (.s (.pl (.int k (k.wrap n))))) : HConv k (.s (.pl (.int k' n))) K := ⟨k', n, rfl, hK⟩
theorem HMax.of {k : IntKind} {a b : Int} {K : HV → Prop} (hK : K (.s (.pl (.int k (if b > a then b else a))))) : HMax (.s (.pl (.int k a))) (.s (.pl (.int k b))) K := ⟨k, a, b, rfl, rfl, hK⟩

theorem two_ok {a b : H0} (ha : a.one = true) (hb : b.one = true) : ∀ c ∈ [a, b], c.one = true := by
  intro c hc
  simp only [List.mem_cons, List.not_mem_nil, or_false] at hc
  rcases hc with rfl | rfl
  · exact ha
  · exact hb
theorem three_ok {a b d : H0} (ha : a.one = true) (hb : b.one = true) (hd : d.one = true) : ∀ c ∈ [a, b, d], c.one = true := by
  intro c hc
  simp only [List.mem_cons, List.not_mem_nil, or_false] at hc
  rcases hc with rfl | rfl | rfl
  · exact ha
  · exact hb
  · exact hd

theorem wrap_byte {n : Int} (h : 0 ≤ n ∧ n < 256) : IntKind.i64.wrap n = n := IntWalk.i64_in n ⟨by omega, by omega⟩

/-- And with 255 leaves a byte. -/
theorem and_byte (a : Int) : ∃ n : Int, 0 ≤ n ∧ n ≤ 255 ∧ IntKind.i64.wrap ((BitVec.ofInt IntKind.i64.bits a &&& BitVec.ofInt IntKind.i64.bits 255).toNat : Int) = n := by
  have e : (BitVec.ofInt IntKind.i64.bits a &&& BitVec.ofInt IntKind.i64.bits 255).toNat ≤ 255 := by
    rw [BitVec.toNat_and]
    have : (BitVec.ofInt IntKind.i64.bits 255).toNat = 255 := by decide
    rw [this]
    exact Nat.and_le_right
  refine ⟨_, ?_, ?_, rfl⟩
  · rw [wrap_byte (by omega)]; omega
  · rw [wrap_byte (by omega)]; omega

theorem HAnd.byte {a : Int} {K : HV → Prop} (hK : ∀ n : Int, 0 ≤ n → n ≤ 255 → K (I n)) : HAnd .i64 a 255 K := by
  obtain ⟨n, h1, h2, e⟩ := and_byte a
  refine ⟨?_⟩
  rw [e]
  exact hK n h1 h2
theorem HAnd.any {k : IntKind} {a b : Int} {K : HV → Prop} (hK : ∀ n : Int, K (.s (.pl (.int k n)))) : HAnd k a b K := ⟨hK _⟩
theorem HShr.any {k : IntKind} {a b : Int} {K : HV → Prop} (h : 0 ≤ b) (hK : ∀ n : Int, K (.s (.pl (.int k n)))) : HShr k a b K := ⟨h, hK _⟩
theorem HXor.any {k : IntKind} {a b : Int} {K : HV → Prop} (hK : ∀ n : Int, K (.s (.pl (.int k n)))) : HXor k a b K := ⟨hK _⟩
theorem HArith.some {k : IntKind} {e : Int} {K : HV → Prop} (hK : ∀ n : Int, K (.s (.pl (.int k n)))) : HArith k e K := ⟨hK _⟩

theorem Bytes.len {h : Heap} {x : H0} {l : List Int} (H : Bytes h x l) {K : HV → Prop} (hK : K (I l.length)) : HLen (.s x) K := by
  have := Shows.len H.1 (K := K)
  simp only [List.length_map] at this
  exact this hK

theorem getD_map_cby {l : List Int} {n : Nat} (h : n < l.length) (d : H0) : (l.map cby).getD n d = cby (l.getD n 0) := by
  simp [List.getD, h]

theorem Bytes.idx {h : Heap} {x : H0} {l : List Int} (H : Bytes h x l) {j : Int} (h0 : 0 ≤ j) (h1 : j < l.length) {k : IntKind} {K : HV → Prop} (hK : ∀ p n, 0 ≤ n → n < 256 → At h p (cby n) → K (.s p)) : HIdx h (.s x) (.s (.pl (.int k j))) K := by
  refine Shows.idx H.1 h0 (by simpa using h1) (fun p hp => ?_)
  rw [getD_map_cby (by omega)] at hp
  have hm : l.getD j.toNat 0 ∈ l := by
    have e : l.getD j.toNat 0 = l[j.toNat]'(by omega) := by simp [List.getD, show j.toNat < l.length by omega]
    rw [e]
    exact List.getElem_mem _
  exact hK p _ (H.2.2 _ hm).1 (H.2.2 _ hm).2 hp

theorem Bytes.keep {F : Nat → Prop} {h h' : Heap} {x : H0} {l : List Int} (H : Bytes h x l) (hf : ∀ q o n, x = .sl q o n → ¬ F q) (k : KeepN F h h') : Bytes h' x l := ⟨H.1.keep hf k, H.2⟩
theorem Bytes.ext {h h' : Heap} {x : H0} {l : List Int} (H : Bytes h x l) (E : Ext h h') : Bytes h' x l := ⟨H.1.ext E, H.2⟩

theorem Cur.lt {r : Nat} {h : Heap} {x : H0} (C : Cur r h x) : r < h.length := by
  obtain ⟨_, b, l, i, hh, hr, _⟩ := C
  exact get_lt hr
theorem Cur.ext {r : Nat} {h h' : Heap} {x : H0} (C : Cur r h x) (E : Ext h h') : Cur r h' x := by
  obtain ⟨e, b, l, i, hh, hr, B, hb, hi⟩ := C
  exact ⟨e, b, l, i, hh, E.row hr, B.ext E, hb, hi⟩

theorem Cur.low {r : Nat} {h h' : Heap} {x : H0} (C : Cur r h x) (hl : ∀ q, q ≤ r → h'[q]? = h[q]?) : Cur r h' x := by
  obtain ⟨e, b, l, i, hh, hr, B, hb, hi⟩ := C
  refine ⟨e, b, l, i, hh, by rw [hl r (Nat.le_refl _)]; exact hr, ⟨?_, B.2⟩, hb, hi⟩
  have B1 := B.1
  generalize l.map cby = L at B1
  cases B1 with
  | nils a c => exact .nils a c
  | ro q off len cs hq hlen => exact .ro q off len cs (by rw [hl q (Nat.le_of_lt (hb _ _ _ rfl))]; exact hq) hlen
  | own q off len cs hq hlen => exact .own q off len cs (by rw [hl q (Nat.le_of_lt (hb _ _ _ rfl))]; exact hq) hlen
theorem Cur.keep {F : Nat → Prop} {r : Nat} {h h' : Heap} {x : H0} (C : Cur r h x) (k : KeepN F h h') (hf : ∀ q, F q → r < q) : Cur r h' x :=
  C.low (fun q hq => k.2 q (Nat.lt_of_le_of_lt hq C.lt) (fun f => by have := hf q f; omega))

/-- Only row r has changed. -/
abbrev KeepR (r : Nat) : Heap → Heap → Prop := KeepN (fun q => q = r)

theorem KeepR.set {r : Nat} {h : Heap} (x : Row) : KeepR r h (h.set r x) := ⟨by simp, fun q hq hn => by rw [List.getElem?_set_ne (fun e => hn e.symm)]⟩

theorem HStore.cur {h : Heap} {r o : Nat} {cs : List H0} {c : H0} {K : HV → Heap → Prop} (hr : h[r]? = some (.own cs)) (ho : o < cs.length) (hc : c.one = true) (hK : K .dead (h.set r (.own (cs.set o c)))) : HStore h (.s (.ptr r o)) (.s c) K := HStore.own hr ho hc hK


set_option maxHeartbeats 1000000 in
theorem spec_l1Byte (h : Heap) (r : Nat) (x : H0) (C : Cur r h x) : HCalls dm Tryz.prog 173 [.s x] h (fun v h' => ∃ n : Int, v = I n ∧ 0 ≤ n ∧ n ≤ 255 ∧ KeepR r h h' ∧ Cur r h' x) := by
  obtain ⟨rfl, b, l, i, hh, hr, B, hb, hi, hi2⟩ := C
  have hrl := get_lt hr
  refine calls_of_hFun (m := 0) kd_ok mixed Tryz.func173 rfl (by kernel_rfl) rfl rfl (of_decide_eq_true rfl) ?_; unfold hFun; (conv => whnf)
  refine HField.at (by decide) ?_
  (conv => whnf)
  refine ⟨rfl, (At.here hr rfl).load ?_⟩
  (conv => whnf)
  refine HArith.some (fun n1 => ?_)
  (conv => whnf)
  refine HArith.some (fun n2 => ?_)
  (conv => whnf)
  refine HField.at (by decide) ?_
  (conv => whnf)
  refine ⟨rfl, HStore.cur hr (by simp) rfl ?_⟩
  have hr1 : (h.set r (.own ([b, ci i, ci hh].set (0 + 2) (ci n2))))[r]? = some (.own [b, ci i, ci n2]) := List.getElem?_set_self hrl
  have K1 : KeepR r h (h.set r (.own ([b, ci i, ci hh].set (0 + 2) (ci n2)))) := KeepR.set _
  generalize h.set r (.own ([b, ci i, ci hh].set (0 + 2) (ci n2))) = h1 at hr1 K1 ⊢
  have B1 := B.keep (fun q o n e g => by have := hb q o n e; omega) K1
  have hrl1 := get_lt hr1
  (conv => whnf)
  refine Or.inl (And.intro (show Region.lexB _ _ = true by kernel_rfl) ?_); (conv => whnf)
  refine HField.at (by decide) ?_
  (conv => whnf)
  refine ⟨rfl, (At.here hr1 rfl).load ?_⟩
  (conv => whnf)
  refine HShr.any (by decide) (fun n3 => ?_)
  (conv => whnf)
  refine HField.at (by decide) ?_
  (conv => whnf)
  refine ⟨rfl, (At.here hr1 rfl).load ?_⟩
  (conv => whnf)
  refine HShr.any (by decide) (fun n4 => ?_)
  (conv => whnf)
  refine HXor.any (fun n5 => ?_)
  (conv => whnf)
  refine HAnd.byte (fun n6 h6 h6' => ?_)
  (conv => whnf)
  refine Or.inl (And.intro (show Region.lexB _ _ = true by kernel_rfl) ?_); (conv => whnf)
  refine HField.at (by decide) ?_
  (conv => whnf)
  refine ⟨rfl, (At.here hr1 rfl).load ?_⟩
  (conv => whnf)
  refine HField.at (by decide) ?_
  (conv => whnf)
  refine ⟨rfl, (At.here hr1 rfl).load ?_⟩
  (conv => whnf)
  refine ⟨rfl, B1.len ?_⟩
  (conv => whnf)
  refine HIf.dec (fun hlt => ?_) (fun hge => ?_)
  · (conv => whnf)
    refine Or.inl (And.intro (show Region.lexB _ _ = true by kernel_rfl) ?_); (conv => whnf)
    refine HField.at (by decide) ?_
    (conv => whnf)
    refine ⟨rfl, (At.here hr1 rfl).load ?_⟩
    (conv => whnf)
    refine HField.at (by decide) ?_
    (conv => whnf)
    refine ⟨rfl, (At.here hr1 rfl).load ?_⟩
    (conv => whnf)
    refine ⟨rfl, B1.idx hi hlt (fun p n7 h7 h7' hp => ?_)⟩
    (conv => whnf)
    refine ⟨rfl, hp.load ?_⟩
    (conv => whnf)
    refine HConv.of ?_
    (conv => whnf)
    refine HArith.some (fun n8 => ?_)
    (conv => whnf)
    refine HAnd.byte (fun n9 h9 h9' => ?_)
    (conv => whnf)
    refine HField.at (by decide) ?_
    (conv => whnf)
    refine ⟨rfl, (At.here hr1 rfl).load ?_⟩
    (conv => whnf)
    refine HArith.fits (by omega) (by omega) ?_
    (conv => whnf)
    refine HField.at (by decide) ?_
    (conv => whnf)
    refine ⟨rfl, HStore.cur hr1 (by simp) rfl ?_⟩
    have hr2 : (h1.set r (.own ([b, ci i, ci n2].set (0 + 1) (ci (i + 1)))))[r]? = some (.own [b, ci (i + 1), ci n2]) := List.getElem?_set_self hrl1
    have K2 : KeepR r h1 (h1.set r (.own ([b, ci i, ci n2].set (0 + 1) (ci (i + 1))))) := KeepR.set _
    generalize h1.set r (.own ([b, ci i, ci n2].set (0 + 1) (ci (i + 1)))) = h2 at hr2 K2 ⊢
    have hBl := B.2.1
    (conv => whnf)
    exact ⟨n9, rfl, h9, h9', K1.trans K2 (fun q _ g => g), rfl, b, l, i + 1, n2, hr2, B1.keep (fun q o n e g => by have := hb q o n e; omega) K2, hb, by omega, by omega⟩
  · (conv => whnf)
    exact ⟨n6, rfl, h6, h6', K1, rfl, b, l, i, n2, hr1, B1, hb, hi, hi2⟩

theorem tmod_pos {a b : Int} (ha : 0 ≤ a) (hb : 0 < b) : 0 ≤ a.tmod b ∧ a.tmod b < b := ⟨Int.tmod_nonneg _ ha, Int.tmod_lt_of_pos _ hb⟩

theorem spec_l1Below (h : Heap) (r : Nat) (x : H0) (n : Int) (C : Cur r h x) (hn : n ≤ 9223372036854775807) : HCalls dm Tryz.prog 165 [.s x, I n] h (fun v h' => ∃ m : Int, v = I m ∧ 0 ≤ m ∧ (0 < n → m < n) ∧ m ≤ 9223372036854775807 ∧ KeepR r h h' ∧ Cur r h' x) := by
  refine calls_of_hFun (m := 0) kd_ok mixed Tryz.func165 rfl (by kernel_rfl) rfl rfl (of_decide_eq_true rfl) ?_; unfold hFun; (conv => whnf)
  refine HIf.dec (fun h0 => ?_) (fun h0 => ?_)
  · (conv => whnf)
    exact ⟨0, rfl, by omega, fun h => by omega, by omega, KeepN.refl _ _, C⟩
  · (conv => whnf)
    refine HIf.dec (fun h256 => ?_) (fun h256 => ?_)
    · (conv => whnf)
      refine (spec_l1Byte _ r _ C).mono ?_
      rintro v h1 ⟨b, rfl, b1, b2, K1, C1⟩
      have ht := tmod_pos b1 (show 0 < n by omega)
      (conv => whnf)
      refine HRem.of (by omega) ?_
      (conv => whnf)
      exact ⟨_, rfl, ht.1, fun _ => ht.2, by omega, K1, C1⟩
    · (conv => whnf)
      refine (spec_l1Byte _ r _ C).mono ?_
      rintro v h1 ⟨b, rfl, b1, b2, K1, C1⟩
      (conv => whnf)
      refine (spec_l1Byte _ r _ C1).mono ?_
      rintro v h2 ⟨d, rfl, d1, d2, K2, C2⟩
      (conv => whnf)
      refine (spec_l1Byte _ r _ C2).mono ?_
      rintro v h3 ⟨e, rfl, e1, e2, K3, C3⟩
      (conv => whnf)
      refine (spec_l1Byte _ r _ C3).mono ?_
      rintro v h4 ⟨f, rfl, f1, f2, K4, C4⟩
      (conv => whnf)
      refine HArith.fits (by omega) (by omega) ?_
      (conv => whnf)
      refine HArith.fits (by omega) (by omega) ?_
      (conv => whnf)
      refine HArith.fits (by omega) (by omega) ?_
      (conv => whnf)
      refine HArith.fits (by omega) (by omega) ?_
      (conv => whnf)
      refine HArith.fits (by omega) (by omega) ?_
      (conv => whnf)
      refine HArith.fits (by omega) (by omega) ?_
      have ht := tmod_pos (a := b * 16777216 + d * 65536 + e * 256 + f) (b := n) (by omega) (by omega)
      (conv => whnf)
      refine HRem.of (by omega) ?_
      (conv => whnf)
      exact ⟨_, rfl, ht.1, fun _ => ht.2, by omega, ((K1.trans K2 (fun q _ g => g)).trans K3 (fun q _ g => g)).trans K4 (fun q _ g => g), C4⟩

theorem spec_l1Once (h : Heap) (r : Nat) (x : H0) (n : Int) (C : Cur r h x) (hn : n ≤ 9223372036854775807) : HCalls dm Tryz.prog 121 [.s x, I n] h (fun v h' => ∃ b : Bool, v = B b ∧ KeepR r h h' ∧ Cur r h' x) := by
  refine calls_of_hFun (m := 0) kd_ok mixed Tryz.func121 rfl (by kernel_rfl) rfl rfl (of_decide_eq_true rfl) ?_; unfold hFun; (conv => whnf)
  refine (spec_l1Below _ r _ n C hn).mono ?_
  rintro v h1 ⟨m, rfl, m1, m2, m3, K1, C1⟩
  (conv => whnf)
  exact ⟨_, rfl, K1, C1⟩

theorem spec_l1PickInt (h : Heap) (r : Nat) (x y : H0) (l : List Int) (C : Cur r h x) (hy : IntsN (fun q => q = r) h y l) (h0 : 0 < l.length) (hl : l.length ≤ 1048576) :
    HCalls dm Tryz.prog 145 [.s x, .s y] h (fun v h' => ∃ n : Int, v = I n ∧ n ∈ l ∧ KeepR r h h' ∧ Cur r h' x) := by
  refine calls_of_hFun (m := 0) kd_ok mixed Tryz.func145 rfl (by kernel_rfl) rfl rfl (of_decide_eq_true rfl) ?_; unfold hFun; (conv => whnf)
  refine ⟨rfl, hy.1.len ?_⟩
  (conv => whnf)
  refine (spec_l1Below _ r _ _ C (by omega)).mono ?_
  rintro v h1 ⟨m, rfl, m1, m2, m3, K1, C1⟩
  have hm := m2 (by omega)
  have hy1 := (hy.keep K1 (fun q _ g => g)).1
  (conv => whnf)
  refine ⟨rfl, hy1.idx m1 hm (fun p hp => ?_)⟩
  (conv => whnf)
  refine ⟨rfl, hp.load ?_⟩
  (conv => whnf)
  refine ⟨_, rfl, ?_, K1, C1⟩
  have e : l.getD m.toNat 0 = l[m.toNat]'(by omega) := by simp [List.getD, show m.toNat < l.length by omega]
  rw [e]
  exact List.getElem_mem _

/-- A slice of texts. -/
def Strs (h : Heap) (x : H0) (l : List ByteArray) : Prop := Shows h (.s x) (l.map cst)

theorem spec_l1Pick (h : Heap) (r : Nat) (x y : H0) (l : List ByteArray) (C : Cur r h x) (hy : Strs h y l) (hn : ∀ q o n, y = .sl q o n → q ≠ r) (h0 : 0 < l.length) (hl : l.length ≤ 1048576) :
    HCalls dm Tryz.prog 217 [.s x, .s y] h (fun v h' => ∃ s, v = St s ∧ s ∈ l ∧ KeepR r h h' ∧ Cur r h' x) := by
  have hlm : (l.map cst).length = l.length := by simp
  refine calls_of_hFun (m := 0) kd_ok mixed Tryz.func217 rfl (by kernel_rfl) rfl rfl (of_decide_eq_true rfl) ?_; unfold hFun; (conv => whnf)
  refine ⟨rfl, Shows.len hy ?_⟩
  rw [hlm]
  (conv => whnf)
  refine (spec_l1Below _ r _ _ C (by omega)).mono ?_
  rintro v h1 ⟨m, rfl, m1, m2, m3, K1, C1⟩
  have hm := m2 (by omega)
  have hy1 : Shows h1 (.s y) (l.map cst) := Shows.keep hy hn K1
  (conv => whnf)
  refine ⟨rfl, Shows.idx hy1 m1 (by rw [hlm]; exact hm) (fun p hp => ?_)⟩
  have hml : m.toNat < l.length := by omega
  have e : (l.map cst).getD m.toNat (.pl (.int .i64 0)) = cst l[m.toNat] := by simp [List.getD, hml]
  rw [e] at hp
  (conv => whnf)
  refine ⟨rfl, hp.load ?_⟩
  (conv => whnf)
  exact ⟨_, rfl, List.getElem_mem _, K1, C1⟩

theorem spec_l1New (h : Heap) (y : H0) (l : List Int) (hy : Bytes h y l) : HCalls dm Tryz.prog 117 [.s y] h (fun v h' => ∃ x r, v = .s x ∧ Ext h h' ∧ h.length ≤ r ∧ Cur r h' x) := by
  have hl := hy.2.1
  refine calls_of_hFun (m := 0) kd_ok mixed Tryz.func117 rfl (by kernel_rfl) rfl rfl (of_decide_eq_true rfl) ?_; unfold hFun; (conv => whnf)
  refine ⟨rfl, hy.len ?_⟩
  (conv => whnf)
  refine HArith.fits (by omega) (by omega) ?_
  (conv => whnf)
  refine HLoop.intro [4, 3] [8, 9, 10, 11, 12, 13, 14, 15, 18, 19, 20, 21, 22, 23, 24, 25, 26, 27, 3, 16, 17, 4] (by kernel_rfl) (by kernel_rfl) (fun vs h' => ∃ (i : Nat) (n : Int), vs = [I i, I n] ∧ i ≤ l.length ∧ h' = h) (fun vs _ => l.length - natAt vs 0) ⟨0, _, rfl, by omega, rfl⟩ ?_
  rintro vs h' ⟨i, n, rfl, hi, hh⟩
  subst h'
  have fin : ∀ n : Int, Cur h.length (h ++ [.own [y, ci 0, ci n]]) (.ptr h.length 0) := fun n =>
    ⟨rfl, y, l, 0, n, get_new _ _, hy.ext (Ext.push _ _), fun q o m e => by
      have := hy.1
      rw [e] at this
      exact Shows.in_lt this, by omega, by omega⟩
  have hyone : y.one = true := by
    have := hy.1
    cases y with
    | pl v =>
      generalize l.map cby = L at this
      cases this
      rfl
    | sl r o n => rfl
    | ptr r o => cases this
    | sw k r o n => cases this
    | mp r => cases this
    | pa r n => cases this
  (conv => whnf)
  refine ⟨rfl, hy.len ?_⟩
  (conv => whnf)
  refine HIf.dec (fun hlt => ?_) (fun hge => ?_)
  · (conv => whnf)
    refine HIf.decT hlt ?_
    (conv => whnf)
    refine HIf.decT hlt ?_
    (conv => whnf)
    refine HIf.dec (fun h4 => ?_) (fun h4 => ?_)
    · (conv => whnf)
      refine HArith.some (fun n1 => ?_)
      (conv => whnf)
      refine ⟨rfl, hy.idx (by omega) hlt (fun p n7 h7 h7' hp => ?_)⟩
      (conv => whnf)
      refine ⟨rfl, hp.load ?_⟩
      (conv => whnf)
      refine HConv.of ?_
      (conv => whnf)
      refine HArith.some (fun n2 => ?_)
      (conv => whnf)
      refine HArith.some (fun n3 => ?_)
      (conv => whnf)
      refine HAnd.any (fun n4 => ?_)
      (conv => whnf)
      refine HArith.fits (by omega) (by omega) ?_
      (conv => whnf)
      exact ⟨⟨i + 1, n4, rfl, by omega, rfl⟩, by show l.length - (i + 1) < l.length - i; omega⟩
    · (conv => whnf)
      refine HRec.of (two_ok hyone rfl) ?_
      (conv => whnf)
      refine ⟨three_ok hyone rfl rfl, ?_⟩
      (conv => whnf)
      exact ⟨_, _, rfl, Ext.push _ _, Nat.le_refl _, fin n⟩
  · (conv => whnf)
    refine HIf.decF hge ?_
    (conv => whnf)
    refine HIf.decF hge ?_
    (conv => whnf)
    refine HIf.no ?_
    (conv => whnf)
    refine HRec.of (two_ok hyone rfl) ?_
    (conv => whnf)
    refine ⟨three_ok hyone rfl rfl, ?_⟩
    (conv => whnf)
    exact ⟨_, _, rfl, Ext.push _ _, Nat.le_refl _, fin n⟩

end Go.Proofs.YtgliajcgcbnemaaGreatDoor.Hx

namespace Go.Proofs.YtgliajcgcbnemaaGreatDoor.Hx
open Go.RowKit
variable {dm : Bool}

theorem takeL_snoc (L : List (List Int)) {k : Nat} (h : k < L.length) : L.take (k + 1) = L.take k ++ [L.getD k []] := by
  rw [List.take_succ_eq_append_getElem h]
  simp [List.getD, h]
/-- The first simple root in a list. -/
def firstS (c : List (List Int)) (L : List (List Int)) : Option Nat := (List.range c.length).find? fun i => decide (simpleRoot c (i : Nat) ∈ L)
/-- The first k roots reflected, the simple one left out; nothing if one of them is not positive or comes twice. -/
def nextTo (c : List (List Int)) (i : Nat) (L : List (List Int)) : Nat → Option (List (List Int))
  | 0 => some []
  | k + 1 => match nextTo c i L k with
    | none => none
    | some R => if L.getD k [] = simpleRoot c (i : Nat) then some R else if rootSign (reflectRoot c (i : Nat) (L.getD k [])) = 1 ∧ reflectRoot c (i : Nat) (L.getD k []) ∉ R then some (R ++ [reflectRoot c (i : Nat) (L.getD k [])]) else none
def woi (c : List (List Int)) : Nat → List (List Int) → List Int → Option (List Int)
  | 0, _, _ => none
  | f + 1, L, o => if L.length = 0 then some o else match firstS c L with
    | none => none
    | some i => match nextTo c i L L.length with
      | none => none
      | some R => woi c f R (o ++ [(i : Int)])
def woiOk (c : List (List Int)) (L : List (List Int)) : Bool := isCartan c && (woi c 16 L []).isSome
def woiW (c : List (List Int)) (L : List (List Int)) : List Int := if isCartan c then (woi c 16 L []).getD [] else []

/-- A slice of slices that is only read: it lay there before, or lies in rows of its own, not row r. -/
def RdM (h0 : Heap) (r : Nat) (h : Heap) (y : H0) (L : List (List Int)) : Prop := Rows h0 y L ∨ ∃ b e, e ≤ h.length ∧ (r < b ∨ e ≤ r) ∧ OwnM b e h y L
theorem spec_l2Copy (h : Heap) (x0 : H0) (L : List (List Int)) (hx0 : Rows h x0 L) (hL : L.length ≤ 1048576 ∧ tot L ≤ 1048576) :
    HCalls dm Tryz.prog 104 [.s x0] h (fun r h' => ∃ y, r = .s y ∧ Ext h h' ∧ OwnM h.length h'.length h' y L) := by
  refine calls_of_hFun (m := 0) kd_ok mixed Tryz.func104 rfl (by kernel_rfl) rfl rfl (of_decide_eq_true rfl) ?_; unfold hFun; (conv => whnf)
  refine HLit.empty ?_
  (conv => whnf)
  refine HLoop.intro [4, 3] [6, 7, 8, 9, 12, 13, 14, 15, 16, 17, 18, 19, 20, 3, 10, 11, 4] (by kernel_rfl) (by kernel_rfl) (fun vs h' => ∃ (k : Nat) (z : H0), vs = [I k, .s z] ∧ k ≤ L.length ∧ Ext h h' ∧ OwnM h.length h'.length h' z (L.take k)) (fun vs _ => L.length - natAt vs 0) ⟨0, _, rfl, by omega, Ext.push _ _, OwnM.none h⟩ ?_
  rintro vs h' ⟨k, z, rfl, hk, E, O⟩
  have hx0 := hx0.ext E
  (conv => whnf)
  refine ⟨rfl, hx0.len ?_⟩
  (conv => whnf)
  refine HIf.dec (fun hlt => ?_) (fun hge => ?_)
  · have hle := len_le_tot (L := L) (i := k) (by omega)
    have E1 := Ext.push h' [Row.own []]
    (conv => whnf)
    refine HLit.empty ?_
    (conv => whnf)
    refine ⟨rfl, Rows.idxN (hx0.ext E1) (by omega) (fun p y hp hy => ?_)⟩
    (conv => whnf)
    refine ⟨rfl, hp.load ?_⟩
    (conv => whnf)
    refine ⟨rfl, rfl, HApp.moreR (OwnR.push h' []) hy (by rw [List.length_nil]; omega) (fun h2 r2 y2 B2 hr2 O2 => ?_)⟩
    have E2 := E1.but B2 (Nat.le_refl _)
    have hE1 := E1.1
    rw [List.nil_append] at O2
    (conv => whnf)
    refine HLit.row (O2.own (Nat.zero_le _)).one ?_
    (conv => whnf)
    refine ⟨rfl, rfl, HApp.snocM E O E2 (O2.own (by omega)) (by simp; omega) (fun h4 y4 E4 O4 => ?_)⟩
    rw [← takeL_snoc L (by omega)] at O4
    (conv => whnf)
    refine HArith.fits (by omega) (by omega) ?_
    (conv => whnf)
    exact ⟨⟨k + 1, y4, rfl, by omega, E4, O4⟩, by show L.length - (k + 1) < L.length - k; omega⟩
  · have e : k = L.length := by omega
    subst e
    rw [List.take_length] at O
    (conv => whnf)
    exact ⟨_, rfl, E, O⟩

end Go.Proofs.YtgliajcgcbnemaaGreatDoor.Hx

namespace Go.Proofs.YtgliajcgcbnemaaGreatDoor.Hx
open Go.RowKit

/-- Two words do the same to every place. -/
def Lin (c : List (List Int)) (a b : List Int) : Prop := ∀ v : Pos, actS (ent c) a v = actS (ent c) b v

theorem Lin.refl (c : List (List Int)) (a : List Int) : Lin c a a := fun _ => rfl
theorem Lin.symm {c : List (List Int)} {a b : List Int} (h : Lin c a b) : Lin c b a := fun v => (h v).symm
theorem Lin.trans {c : List (List Int)} {a b d : List Int} (h : Lin c a b) (k : Lin c b d) : Lin c a d := fun v => (h v).trans (k v)
theorem Lin.app {c : List (List Int)} {a b a' b' : List Int} (h : Lin c a b) (k : Lin c a' b') : Lin c (a ++ a') (b ++ b') := fun v => by rw [actS_app, actS_app, k v, h]
theorem Lin.cons {c : List (List Int)} {a b : List Int} (i : Int) (h : Lin c a b) : Lin c (i :: a) (i :: b) := Lin.app (Lin.refl c [i]) h

theorem Br.lin {c : List (List Int)} {a b : List Int} (h : Br c a b) : Lin c a b := by
  cases h with
  | mk p i j m q hb h2 =>
    obtain ⟨hC, hi, hj, hij, e⟩ := bond_info hb h2
    have p1 := point_of hi
    have p2 := point_of hj
    refine Lin.app (Lin.refl c p) (Lin.app (fun v => ?_) (Lin.refl c q))
    rw [actS_alt, actS_alt, e, alt_rel (matOk hC) (i := i.toNat) (j := j.toNat) (by omega) (by omega) (by omega)]

theorem twice {c : List (List Int)} (hC : Cartan c) {i : Int} (hi : isPoint c i = true) (w : List Int) : Lin c (i :: i :: w) w := fun v => by
  have p1 := point_of hi
  exact sr_sr ((matOk hC).diag i.toNat (by omega)) _

theorem bondP_cases {p : Int} (h : 2 ≤ bondP p) : bondP p = 2 ∨ bondP p = 3 ∨ bondP p = 4 ∨ bondP p = 6 := by
  unfold bondP at h ⊢
  split
  · exact Or.inl rfl
  · split
    · exact Or.inr (Or.inl rfl)
    · split
      · exact Or.inr (Or.inr (Or.inl rfl))
      · split
        · exact Or.inr (Or.inr (Or.inr rfl))
        · rename_i h1 h2 h3 h4
          rw [if_neg h1, if_neg h2, if_neg h3, if_neg h4] at h
          omega

/-- A letter less of one row of turns is a letter less of the other. -/
theorem alt_erase {c : List (List Int)} (hC : Cartan c) {i j : Int} (hi : isPoint c i = true) (hj : isPoint c j = true) {m : Nat} (hm : m = 2 ∨ m = 3 ∨ m = 4 ∨ m = 6) {k : Nat} (hk : k < m) :
    Lin c ((altTo i j m).eraseIdx k) ((altTo j i m).eraseIdx (m - 1 - k)) := by
  have p1 := point_of hi
  have p2 := point_of hj
  have d1 : ∀ v, sr (ent c) i.toNat (sr (ent c) i.toNat v) = v := sr_sr ((matOk hC).diag i.toNat (by omega))
  have d2 : ∀ v, sr (ent c) j.toNat (sr (ent c) j.toNat v) = v := sr_sr ((matOk hC).diag j.toNat (by omega))
  intro v
  rcases hm with rfl | rfl | rfl | rfl
  · have e : k = 0 ∨ k = 1 := by omega
    rcases e with rfl | rfl <;> rfl
  · have e : k = 0 ∨ k = 1 ∨ k = 2 := by omega
    rcases e with rfl | rfl | rfl
    · rfl
    · show sr (ent c) i.toNat (sr (ent c) i.toNat v) = sr (ent c) j.toNat (sr (ent c) j.toNat v)
      rw [d1, d2]
    · rfl
  · have e : k = 0 ∨ k = 1 ∨ k = 2 ∨ k = 3 := by omega
    rcases e with rfl | rfl | rfl | rfl
    · rfl
    · show sr (ent c) i.toNat (sr (ent c) i.toNat (sr (ent c) j.toNat v)) = sr (ent c) j.toNat (sr (ent c) i.toNat (sr (ent c) i.toNat v))
      rw [d1, d1]
    · show sr (ent c) i.toNat (sr (ent c) j.toNat (sr (ent c) j.toNat v)) = sr (ent c) j.toNat (sr (ent c) j.toNat (sr (ent c) i.toNat v))
      rw [d2, d2]
    · rfl
  · have e : k = 0 ∨ k = 1 ∨ k = 2 ∨ k = 3 ∨ k = 4 ∨ k = 5 := by omega
    have u : ∀ (m : Nat) (x y : Int), altTo x y (m + 1) = x :: altTo y x m := fun m x y => altTo_cons x y m
    rcases e with rfl | rfl | rfl | rfl | rfl | rfl <;> simp only [u, altTo_none, List.eraseIdx, actS, d1, d2] <;> try rfl

/-- One letter of w can be left out for letter i put ahead. -/
def Exch (c : List (List Int)) (i : Int) (w : List Int) : Prop := ∃ k, k < w.length ∧ Lin c (w.eraseIdx k) (i :: w)

theorem Exch.br {c : List (List Int)} {a b : List Int} {i : Int} (h : Br c a b) (H : Exch c i a) : Exch c i b := by
  have hl := h.lin
  have hbr := h.length
  obtain ⟨k, hk, e⟩ := H
  cases h with
  | mk p s t m q hb h2 =>
    obtain ⟨hC, hs, ht, hst, em⟩ := bond_info hb h2
    have p1 := point_of hs
    have p2 := point_of ht
    have halt : Lin c (altTo s t m) (altTo t s m) := fun v => by
      rw [actS_alt, actS_alt, em, alt_rel (matOk hC) (i := s.toNat) (j := t.toNat) (by omega) (by omega) (by omega)]
    have l1 : (altTo s t m).length = m := altTo_len s t m
    have l2 : (altTo t s m).length = m := altTo_len t s m
    by_cases h1 : k < p.length
    · refine ⟨k, by rw [hbr]; exact hk, ?_⟩
      rw [List.eraseIdx_append_of_lt_length h1] at e ⊢
      exact (Lin.app (Lin.refl c _) (Lin.app halt.symm (Lin.refl c q))).trans (e.trans (hl.cons i))
    · rw [List.eraseIdx_append_of_length_le (by omega)] at e
      by_cases h3 : k - p.length < m
      · rw [List.eraseIdx_append_of_lt_length (by omega)] at e
        refine ⟨p.length + (m - 1 - (k - p.length)), by simp [l2]; omega, ?_⟩
        rw [List.eraseIdx_append_of_length_le (by omega), Nat.add_sub_cancel_left, List.eraseIdx_append_of_lt_length (by omega)]
        have hal := alt_erase hC hs ht (m := m) (k := k - p.length) (by rw [em]; exact bondP_cases (by omega)) h3
        exact (Lin.app (Lin.refl c p) (Lin.app hal.symm (Lin.refl c q))).trans (e.trans (hl.cons i))
      · rw [List.eraseIdx_append_of_length_le (by omega)] at e
        refine ⟨k, by rw [hbr]; exact hk, ?_⟩
        rw [List.eraseIdx_append_of_length_le (by omega), List.eraseIdx_append_of_length_le (by omega), l2]
        rw [l1] at e
        exact (Lin.app (Lin.refl c p) (Lin.app halt.symm (Lin.refl c _))).trans (e.trans (hl.cons i))

theorem Exch.conn {c : List (List Int)} {a b : List Int} {i : Int} (h : Conn c a b) (H : Exch c i a) : Exch c i b := by
  induction h with
  | refl => exact H
  | tail _ s ih => exact ih.br s

/-- The exchange of a letter. -/
theorem exchange {c : List (List Int)} (hC : Cartan c) {n : Nat} {v w : List Int} (P : PlayL c n v) (hn : n ≤ 29) (R : Red c n v w) {i : Int} (hi : isPoint c i = true) (h : v.getD i.toNat 0 < 0) : Exch c i w := by
  have p1 := point_of hi
  obtain ⟨m, rfl, Q⟩ := P.down hC (by omega) (i := i.toNat) (by omega) h
  have Rz : Red c m (reflW c i.toNat v) (nf c 30 (reflW c i.toNat v)) := ⟨nf_len hC m _ 30 Q (by omega) (by omega), nf_letters hC m _ 30 Q (by omega) (by omega), nf_image hC m _ 30 Q (by omega) (by omega)⟩
  have Ri := Red.cons hC P (by omega) hi h Rz
  refine Exch.conn (conn_all hC (m + 1) v P hn _ w Ri R) ⟨0, by simp, ?_⟩
  exact (twice hC hi _).symm

/-- The deletion of two letters. -/
theorem deletion {c : List (List Int)} (hC : Cartan c) : ∀ (w : List Int) (n : Nat), lettersOk c w = true → w.length ≤ 29 → PlayL c n (imageOf c w) → n < w.length →
    ∃ a b, a < b ∧ b < w.length ∧ Lin c ((w.eraseIdx b).eraseIdx a) w
  | [], _, _, _, _, h => by simp at h
  | s :: q, n, hw, hl, P, hn => by
    obtain ⟨hs, hq⟩ := letters_cons.1 hw
    have p1 := point_of hs
    simp only [List.length_cons] at hl hn
    obtain ⟨m, hm, Q⟩ := play_image hC hq (by omega)
    by_cases h : m < q.length
    · obtain ⟨a, b, h1, h2, h3⟩ := deletion hC q m hq (by omega) Q h
      exact ⟨a + 1, b + 1, by omega, by simp; omega, by simpa using h3.cons s⟩
    · have em : m = q.length := by omega
      have hneg : (imageOf c q).getD s.toNat 0 < 0 := by
        have hne := Q.ne hC (i := s.toNat) (by omega)
        by_cases hlt : (imageOf c q).getD s.toNat 0 < 0
        · exact hlt
        · exfalso
          have U : PlayL c (m + 1) (imageOf c (s :: q)) := by
            rw [imageW_cons]
            refine ⟨by rw [reflW_length]; exact Q.1, ?_⟩
            rw [pos_refl hC Q (by omega) (by omega)]
            exact Q.2.up (matOk hC) (by omega) (by show 0 < (imageOf c q).getD s.toNat 0; omega)
          have := play_unique hC P U (by omega) (by omega)
          omega
      obtain ⟨k, hk, e⟩ := exchange hC Q (by omega) (w := q) ⟨em.symm, hq, rfl⟩ hs hneg
      exact ⟨0, k + 1, by omega, by simp; omega, by simpa using e⟩

end Go.Proofs.YtgliajcgcbnemaaGreatDoor.Hx
