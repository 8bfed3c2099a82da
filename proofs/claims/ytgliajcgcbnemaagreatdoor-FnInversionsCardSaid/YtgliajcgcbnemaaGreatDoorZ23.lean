/-
  A search for a path of braid moves, and a word's text.
  Braid moves lead back; the search for a path of braid moves finds every reduced word.
  The contract of BraidPath of the reference.
  A word's text, and the program's memory while it searches a path of braid moves.
  The contract of BraidPath of the program.
  The reference's draws: a cursor over bytes (a struct behind a pointer), and what it draws: numbers, one of some numbers, one of some texts.
  The reference's named matrices: chains, entries set anew, two matrices side by side.
-/
import Derived.Test.YtgliajcgcbnemaaGreatDoorZ22
import Derived.Laws.Strings
namespace Go.Proofs.YtgliajcgcbnemaaGreatDoor.Hx
open Go.RowKit

/-! ### The search -/

abbrev Two := List (List Int) × List (List Int)

/-- One more move. -/
def bpStep (c : List (List Int)) (q p : List Int) (S : Two) (t : Int) : Two :=
  if braid c q t ∉ S.1 ∧ S.1.length < 120 then (S.1 ++ [braid c q t], S.2 ++ [p ++ [t]]) else S
def bpIn (c : List (List Int)) (q p : List Int) (S : Two) (l : List Int) : Two := l.foldl (bpStep c q p) S
def bpAll (c : List (List Int)) (S : Two) (k : Nat) : Two := bpIn c (S.1.getD k []) (S.2.getD k []) S (brTo c (S.1.getD k []) (S.1.getD k []).length)
def bpOut (c : List (List Int)) (b : List Int) : Nat → Nat → Two → Bool × List Int
  | 0, _, _ => (false, [])
  | f + 1, k, S => if k < S.1.length then (if S.1.getD k [] = b then (true, S.2.getD k []) else bpOut c b f (k + 1) (bpAll c S k)) else (false, [])

def bpOk (c : List (List Int)) (a b : List Int) : Bool := isReduced c a && isReduced c b && (bpOut c b 121 0 ([a], [[]])).1
def bpPath (c : List (List Int)) (a b : List Int) : List Int := if isReduced c a && isReduced c b then (bpOut c b 121 0 ([a], [[]])).2 else []

/-- What is true of the two lists at every time. -/
structure BpS (c : List (List Int)) (n : Nat) (v : List Int) (Q P : List (List Int)) : Prop where
  len : P.length = Q.length
  few : Q.length ≤ 120
  red : ∀ q ∈ Q, Red c n v q
  path : ∀ i, i < P.length → (P.getD i []).length ≤ i

/-! ### Two slices of slices that grow -/

def Half (F : Nat → Prop) (r : Nat) (Q : List (List Int)) (h : Heap) : Prop :=
  ∃ cs, h[r]? = some (.own cs) ∧ Q.length ≤ cs.length ∧ ∀ i, i < Q.length → ∃ y, cs[i]? = some y ∧ ∀ h', KeepN F h h' → Ints h' y (Q.getD i [])

/-- The two lists: one in row r, one in row r'. -/
structure Twin (b r r' : Nat) (Q P : List (List Int)) (h : Heap) : Prop where
  q : Half (fun z => z = r ∨ z = r') r Q h
  p : Half (fun z => z = r ∨ z = r') r' P h
  ne : r ≠ r'
  low : b ≤ r ∧ b ≤ r'

end Go.Proofs.YtgliajcgcbnemaaGreatDoor.Hx

namespace Go.Proofs.YtgliajcgcbnemaaGreatDoor.Hx
open Go.RowKit

end Go.Proofs.YtgliajcgcbnemaaGreatDoor.Hx

namespace Go.Proofs.YtgliajcgcbnemaaGreatDoor.Hx
open Go.RowKit
variable {dm : Bool}

end Go.Proofs.YtgliajcgcbnemaaGreatDoor.Hx

namespace Go.Proofs.YtgliajcgcbnemaaGreatDoor.Hx
open Go.RowKit
variable {dm : Bool}

/-! ### A word's text -/

def fb (i : Int) : UInt8 := if i = 0 then 49 else if i = 1 then 50 else if i = 2 then 51 else 52
def bc (b : UInt8) : H0 := .pl (.int .u8 (b.toNat : Int))
def fmtW (w : List Int) : ByteArray := if w.length = 0 then ⟨[(101 : UInt8)].toArray⟩ else ⟨(w.map fb).toArray⟩
def Small4 (w : List Int) : Prop := ∀ i ∈ w, 0 ≤ i ∧ i < 4

end Go.Proofs.YtgliajcgcbnemaaGreatDoor.Hx

namespace Go.Proofs.YtgliajcgcbnemaaGreatDoor.Hx
open Go.RowKit
variable {dm : Bool}

def bpCells (N : Nat) (ρ : Nat → Nat) (f : Nat → Int × Int) (n : Nat) : List H0 := (List.range n).flatMap fun i => [.sl (ρ i) 0 N, ci (f i).1, ci (f i).2]
/-- The program's memory while it searches: the map of the words' texts in row m, the list of steps in row q. -/
structure Bps (b m q N : Nat) (ρ : Nat → Nat) (f : Nat → Int × Int) (Q P : List (List Int)) (h : Heap) : Prop where
  mp : ∃ ks, h[m]? = some (.keys true ks) ∧ ∀ k, k ∈ ks ↔ ∃ l ∈ Q, k = .str (fmtW l)
  ls : h[q]? = some (.own (bpCells N ρ f Q.length))
  rt : ∀ i, i < Q.length → (Q.getD i []).length = N ∧ ∃ t, h[ρ i]? = some (.own ((Q.getD i []).map ci ++ t))
  nq : ∀ i, i < Q.length → ρ i ≠ q ∧ ρ i ≠ m
  qm : q ≠ m
  low : b ≤ m ∧ b ≤ q
  lk : ∀ i, i < Q.length → ((f i).1 = -1 ∧ P.getD i [] = []) ∨ ∃ j : Nat, j < i ∧ (f i).1 = j ∧ P.getD i [] = P.getD j [] ++ [(f i).2]

end Go.Proofs.YtgliajcgcbnemaaGreatDoor.Hx

namespace Go.Proofs.YtgliajcgcbnemaaGreatDoor.Hx
open Go.RowKit
variable {dm : Bool}

/-- A cell that holds a byte; a cell that holds a text. -/
abbrev cby (n : Int) : H0 := .pl (.int .u8 n)
abbrev cst (s : ByteArray) : H0 := .pl (.string s)
abbrev St (s : ByteArray) : HV := .s (.pl (.string s))

def Bytes (h : Heap) (x : H0) (l : List Int) : Prop := Shows h (.s x) (l.map cby) ∧ l.length ≤ 1048576 ∧ ∀ y ∈ l, 0 ≤ y ∧ y < 256

/-- The cursor: a struct of a slice of bytes and two numbers, in row r. -/
def Cur (r : Nat) (h : Heap) (x : H0) : Prop := x = .ptr r 0 ∧ ∃ (b : H0) (l : List Int) (i hh : Int), h[r]? = some (.own [b, ci i, ci hh]) ∧ Bytes h b l ∧ (∀ q o n, b = .sl q o n → q < r) ∧ 0 ≤ i ∧ i ≤ 1048576

theorem HField.at {n r o f : Nat} {K : HV → Prop} (h : f < n) (hK : K (.s (.ptr r (o + f)))) : HField n (.s (.ptr r o)) f K := ⟨r, o, rfl, h, hK⟩
theorem At.here {h : Heap} {r o : Nat} {cs : List H0} {c : H0} (hr : h[r]? = some (.own cs)) (hc : cs[o]? = some c) : At h (.ptr r o) c := ⟨r, o, _, cs, rfl, hr, rfl, hc⟩
theorem HConv.of {k k' : IntKind} {n : Int} {K : HV → Prop} (hK : K (.s (.pl (.int k (k.wrap n))))) : HConv k (.s (.pl (.int k' n))) K := ⟨k', n, rfl, hK⟩
theorem HMax.of {k : IntKind} {a b : Int} {K : HV → Prop} (hK : K (.s (.pl (.int k (if b > a then b else a))))) : HMax (.s (.pl (.int k a))) (.s (.pl (.int k b))) K := ⟨k, a, b, rfl, rfl, hK⟩

theorem two_ok {a b : H0} (ha : a.one = true) (hb : b.one = true) : ∀ c ∈ [a, b], c.one = true := by
  intro c hc
  simp only [List.mem_cons, List.not_mem_nil, or_false] at hc
  rcases hc with rfl | rfl
  · exact ha
  · exact hb
theorem three_ok {a b d : H0} (ha : a.one = true) (hb : b.one = true) (hd : d.one = true) : ∀ c ∈ [a, b, d], c.one = true := by
  intro c hc
  simp only [List.mem_cons, List.not_mem_nil, or_false] at hc
  rcases hc with rfl | rfl | rfl
  · exact ha
  · exact hb
  · exact hd

theorem wrap_byte {n : Int} (h : 0 ≤ n ∧ n < 256) : IntKind.i64.wrap n = n := IntWalk.i64_in n ⟨by omega, by omega⟩

/-- And with 255 leaves a byte. -/
theorem and_byte (a : Int) : ∃ n : Int, 0 ≤ n ∧ n ≤ 255 ∧ IntKind.i64.wrap ((BitVec.ofInt IntKind.i64.bits a &&& BitVec.ofInt IntKind.i64.bits 255).toNat : Int) = n := by
  have e : (BitVec.ofInt IntKind.i64.bits a &&& BitVec.ofInt IntKind.i64.bits 255).toNat ≤ 255 := by
    rw [BitVec.toNat_and]
    have : (BitVec.ofInt IntKind.i64.bits 255).toNat = 255 := by decide
    rw [this]
    exact Nat.and_le_right
  refine ⟨_, ?_, ?_, rfl⟩
  · rw [wrap_byte (by omega)]; omega
  · rw [wrap_byte (by omega)]; omega

theorem HAnd.byte {a : Int} {K : HV → Prop} (hK : ∀ n : Int, 0 ≤ n → n ≤ 255 → K (I n)) : HAnd .i64 a 255 K := by
  obtain ⟨n, h1, h2, e⟩ := and_byte a
  refine ⟨?_⟩
  rw [e]
  exact hK n h1 h2
theorem HAnd.any {k : IntKind} {a b : Int} {K : HV → Prop} (hK : ∀ n : Int, K (.s (.pl (.int k n)))) : HAnd k a b K := ⟨hK _⟩
theorem HShr.any {k : IntKind} {a b : Int} {K : HV → Prop} (h : 0 ≤ b) (hK : ∀ n : Int, K (.s (.pl (.int k n)))) : HShr k a b K := ⟨h, hK _⟩
theorem HXor.any {k : IntKind} {a b : Int} {K : HV → Prop} (hK : ∀ n : Int, K (.s (.pl (.int k n)))) : HXor k a b K := ⟨hK _⟩
theorem HArith.some {k : IntKind} {e : Int} {K : HV → Prop} (hK : ∀ n : Int, K (.s (.pl (.int k n)))) : HArith k e K := ⟨hK _⟩

theorem Bytes.len {h : Heap} {x : H0} {l : List Int} (H : Bytes h x l) {K : HV → Prop} (hK : K (I l.length)) : HLen (.s x) K := by
  have := Shows.len H.1 (K := K)
  simp only [List.length_map] at this
  exact this hK

theorem getD_map_cby {l : List Int} {n : Nat} (h : n < l.length) (d : H0) : (l.map cby).getD n d = cby (l.getD n 0) := by
  simp [List.getD, h]

theorem Bytes.idx {h : Heap} {x : H0} {l : List Int} (H : Bytes h x l) {j : Int} (h0 : 0 ≤ j) (h1 : j < l.length) {k : IntKind} {K : HV → Prop} (hK : ∀ p n, 0 ≤ n → n < 256 → At h p (cby n) → K (.s p)) : HIdx h (.s x) (.s (.pl (.int k j))) K := by
  refine Shows.idx H.1 h0 (by simpa using h1) (fun p hp => ?_)
  rw [getD_map_cby (by omega)] at hp
  have hm : l.getD j.toNat 0 ∈ l := by
    have e : l.getD j.toNat 0 = l[j.toNat]'(by omega) := by simp [List.getD, show j.toNat < l.length by omega]
    rw [e]
    exact List.getElem_mem _
  exact hK p _ (H.2.2 _ hm).1 (H.2.2 _ hm).2 hp

theorem Bytes.keep {F : Nat → Prop} {h h' : Heap} {x : H0} {l : List Int} (H : Bytes h x l) (hf : ∀ q o n, x = .sl q o n → ¬ F q) (k : KeepN F h h') : Bytes h' x l := ⟨H.1.keep hf k, H.2⟩
theorem Bytes.ext {h h' : Heap} {x : H0} {l : List Int} (H : Bytes h x l) (E : Ext h h') : Bytes h' x l := ⟨H.1.ext E, H.2⟩

theorem Cur.lt {r : Nat} {h : Heap} {x : H0} (C : Cur r h x) : r < h.length := by
  obtain ⟨_, b, l, i, hh, hr, _⟩ := C
  exact get_lt hr
theorem Cur.ext {r : Nat} {h h' : Heap} {x : H0} (C : Cur r h x) (E : Ext h h') : Cur r h' x := by
  obtain ⟨e, b, l, i, hh, hr, B, hb, hi⟩ := C
  exact ⟨e, b, l, i, hh, E.row hr, B.ext E, hb, hi⟩

theorem Cur.low {r : Nat} {h h' : Heap} {x : H0} (C : Cur r h x) (hl : ∀ q, q ≤ r → h'[q]? = h[q]?) : Cur r h' x := by
  obtain ⟨e, b, l, i, hh, hr, B, hb, hi⟩ := C
  refine ⟨e, b, l, i, hh, by rw [hl r (Nat.le_refl _)]; exact hr, ⟨?_, B.2⟩, hb, hi⟩
  have B1 := B.1
  generalize l.map cby = L at B1
  cases B1 with
  | nils a c => exact .nils a c
  | ro q off len cs hq hlen => exact .ro q off len cs (by rw [hl q (Nat.le_of_lt (hb _ _ _ rfl))]; exact hq) hlen
  | own q off len cs hq hlen => exact .own q off len cs (by rw [hl q (Nat.le_of_lt (hb _ _ _ rfl))]; exact hq) hlen
theorem Cur.keep {F : Nat → Prop} {r : Nat} {h h' : Heap} {x : H0} (C : Cur r h x) (k : KeepN F h h') (hf : ∀ q, F q → r < q) : Cur r h' x :=
  C.low (fun q hq => k.2 q (Nat.lt_of_le_of_lt hq C.lt) (fun f => by have := hf q f; omega))

/-- Only row r has changed. -/
abbrev KeepR (r : Nat) : Heap → Heap → Prop := KeepN (fun q => q = r)

theorem KeepR.set {r : Nat} {h : Heap} (x : Row) : KeepR r h (h.set r x) := ⟨by simp, fun q hq hn => by rw [List.getElem?_set_ne (fun e => hn e.symm)]⟩

theorem HStore.cur {h : Heap} {r o : Nat} {cs : List H0} {c : H0} {K : HV → Heap → Prop} (hr : h[r]? = some (.own cs)) (ho : o < cs.length) (hc : c.one = true) (hK : K .dead (h.set r (.own (cs.set o c)))) : HStore h (.s (.ptr r o)) (.s c) K := HStore.own hr ho hc hK


set_option maxHeartbeats 1000000 in
theorem spec_l1Byte (h : Heap) (r : Nat) (x : H0) (C : Cur r h x) : HCalls dm Tryz.prog 173 [.s x] h (fun v h' => ∃ n : Int, v = I n ∧ 0 ≤ n ∧ n ≤ 255 ∧ KeepR r h h' ∧ Cur r h' x) := by
  obtain ⟨rfl, b, l, i, hh, hr, B, hb, hi, hi2⟩ := C
  have hrl := get_lt hr
  refine calls_of_hFun (m := 0) kd_ok mixed Tryz.func173 rfl (by kernel_rfl) rfl rfl (of_decide_eq_true rfl) ?_; unfold hFun; (conv => whnf)
  refine HField.at (by decide) ?_
  (conv => whnf)
  refine ⟨rfl, (At.here hr rfl).load ?_⟩
  (conv => whnf)
  refine HArith.some (fun n1 => ?_)
  (conv => whnf)
  refine HArith.some (fun n2 => ?_)
  (conv => whnf)
  refine HField.at (by decide) ?_
  (conv => whnf)
  refine ⟨rfl, HStore.cur hr (by simp) rfl ?_⟩
  have hr1 : (h.set r (.own ([b, ci i, ci hh].set (0 + 2) (ci n2))))[r]? = some (.own [b, ci i, ci n2]) := List.getElem?_set_self hrl
  have K1 : KeepR r h (h.set r (.own ([b, ci i, ci hh].set (0 + 2) (ci n2)))) := KeepR.set _
  generalize h.set r (.own ([b, ci i, ci hh].set (0 + 2) (ci n2))) = h1 at hr1 K1 ⊢
  have B1 := B.keep (fun q o n e g => by have := hb q o n e; omega) K1
  have hrl1 := get_lt hr1
  (conv => whnf)
  refine Or.inl (And.intro (show Region.lexB _ _ = true by kernel_rfl) ?_); (conv => whnf)
  refine HField.at (by decide) ?_
  (conv => whnf)
  refine ⟨rfl, (At.here hr1 rfl).load ?_⟩
  (conv => whnf)
  refine HShr.any (by decide) (fun n3 => ?_)
  (conv => whnf)
  refine HField.at (by decide) ?_
  (conv => whnf)
  refine ⟨rfl, (At.here hr1 rfl).load ?_⟩
  (conv => whnf)
  refine HShr.any (by decide) (fun n4 => ?_)
  (conv => whnf)
  refine HXor.any (fun n5 => ?_)
  (conv => whnf)
  refine HAnd.byte (fun n6 h6 h6' => ?_)
  (conv => whnf)
  refine Or.inl (And.intro (show Region.lexB _ _ = true by kernel_rfl) ?_); (conv => whnf)
  refine HField.at (by decide) ?_
  (conv => whnf)
  refine ⟨rfl, (At.here hr1 rfl).load ?_⟩
  (conv => whnf)
  refine HField.at (by decide) ?_
  (conv => whnf)
  refine ⟨rfl, (At.here hr1 rfl).load ?_⟩
  (conv => whnf)
  refine ⟨rfl, B1.len ?_⟩
  (conv => whnf)
  refine HIf.dec (fun hlt => ?_) (fun hge => ?_)
  · (conv => whnf)
    refine Or.inl (And.intro (show Region.lexB _ _ = true by kernel_rfl) ?_); (conv => whnf)
    refine HField.at (by decide) ?_
    (conv => whnf)
    refine ⟨rfl, (At.here hr1 rfl).load ?_⟩
    (conv => whnf)
    refine HField.at (by decide) ?_
    (conv => whnf)
    refine ⟨rfl, (At.here hr1 rfl).load ?_⟩
    (conv => whnf)
    refine ⟨rfl, B1.idx hi hlt (fun p n7 h7 h7' hp => ?_)⟩
    (conv => whnf)
    refine ⟨rfl, hp.load ?_⟩
    (conv => whnf)
    refine HConv.of ?_
    (conv => whnf)
    refine HArith.some (fun n8 => ?_)
    (conv => whnf)
    refine HAnd.byte (fun n9 h9 h9' => ?_)
    (conv => whnf)
    refine HField.at (by decide) ?_
    (conv => whnf)
    refine ⟨rfl, (At.here hr1 rfl).load ?_⟩
    (conv => whnf)
    refine HArith.fits (by omega) (by omega) ?_
    (conv => whnf)
    refine HField.at (by decide) ?_
    (conv => whnf)
    refine ⟨rfl, HStore.cur hr1 (by simp) rfl ?_⟩
    have hr2 : (h1.set r (.own ([b, ci i, ci n2].set (0 + 1) (ci (i + 1)))))[r]? = some (.own [b, ci (i + 1), ci n2]) := List.getElem?_set_self hrl1
    have K2 : KeepR r h1 (h1.set r (.own ([b, ci i, ci n2].set (0 + 1) (ci (i + 1))))) := KeepR.set _
    generalize h1.set r (.own ([b, ci i, ci n2].set (0 + 1) (ci (i + 1)))) = h2 at hr2 K2 ⊢
    have hBl := B.2.1
    (conv => whnf)
    exact ⟨n9, rfl, h9, h9', K1.trans K2 (fun q _ g => g), rfl, b, l, i + 1, n2, hr2, B1.keep (fun q o n e g => by have := hb q o n e; omega) K2, hb, by omega, by omega⟩
  · (conv => whnf)
    exact ⟨n6, rfl, h6, h6', K1, rfl, b, l, i, n2, hr1, B1, hb, hi, hi2⟩

theorem tmod_pos {a b : Int} (ha : 0 ≤ a) (hb : 0 < b) : 0 ≤ a.tmod b ∧ a.tmod b < b := ⟨Int.tmod_nonneg _ ha, Int.tmod_lt_of_pos _ hb⟩

theorem spec_l1Below (h : Heap) (r : Nat) (x : H0) (n : Int) (C : Cur r h x) (hn : n ≤ 9223372036854775807) : HCalls dm Tryz.prog 165 [.s x, I n] h (fun v h' => ∃ m : Int, v = I m ∧ 0 ≤ m ∧ (0 < n → m < n) ∧ m ≤ 9223372036854775807 ∧ KeepR r h h' ∧ Cur r h' x) := by
  refine calls_of_hFun (m := 0) kd_ok mixed Tryz.func165 rfl (by kernel_rfl) rfl rfl (of_decide_eq_true rfl) ?_; unfold hFun; (conv => whnf)
  refine HIf.dec (fun h0 => ?_) (fun h0 => ?_)
  · (conv => whnf)
    exact ⟨0, rfl, by omega, fun h => by omega, by omega, KeepN.refl _ _, C⟩
  · (conv => whnf)
    refine HIf.dec (fun h256 => ?_) (fun h256 => ?_)
    · (conv => whnf)
      refine (spec_l1Byte _ r _ C).mono ?_
      rintro v h1 ⟨b, rfl, b1, b2, K1, C1⟩
      have ht := tmod_pos b1 (show 0 < n by omega)
      (conv => whnf)
      refine HRem.of (by omega) ?_
      (conv => whnf)
      exact ⟨_, rfl, ht.1, fun _ => ht.2, by omega, K1, C1⟩
    · (conv => whnf)
      refine (spec_l1Byte _ r _ C).mono ?_
      rintro v h1 ⟨b, rfl, b1, b2, K1, C1⟩
      (conv => whnf)
      refine (spec_l1Byte _ r _ C1).mono ?_
      rintro v h2 ⟨d, rfl, d1, d2, K2, C2⟩
      (conv => whnf)
      refine (spec_l1Byte _ r _ C2).mono ?_
      rintro v h3 ⟨e, rfl, e1, e2, K3, C3⟩
      (conv => whnf)
      refine (spec_l1Byte _ r _ C3).mono ?_
      rintro v h4 ⟨f, rfl, f1, f2, K4, C4⟩
      (conv => whnf)
      refine HArith.fits (by omega) (by omega) ?_
      (conv => whnf)
      refine HArith.fits (by omega) (by omega) ?_
      (conv => whnf)
      refine HArith.fits (by omega) (by omega) ?_
      (conv => whnf)
      refine HArith.fits (by omega) (by omega) ?_
      (conv => whnf)
      refine HArith.fits (by omega) (by omega) ?_
      (conv => whnf)
      refine HArith.fits (by omega) (by omega) ?_
      have ht := tmod_pos (a := b * 16777216 + d * 65536 + e * 256 + f) (b := n) (by omega) (by omega)
      (conv => whnf)
      refine HRem.of (by omega) ?_
      (conv => whnf)
      exact ⟨_, rfl, ht.1, fun _ => ht.2, by omega, ((K1.trans K2 (fun q _ g => g)).trans K3 (fun q _ g => g)).trans K4 (fun q _ g => g), C4⟩

theorem spec_l1Once (h : Heap) (r : Nat) (x : H0) (n : Int) (C : Cur r h x) (hn : n ≤ 9223372036854775807) : HCalls dm Tryz.prog 121 [.s x, I n] h (fun v h' => ∃ b : Bool, v = B b ∧ KeepR r h h' ∧ Cur r h' x) := by
  refine calls_of_hFun (m := 0) kd_ok mixed Tryz.func121 rfl (by kernel_rfl) rfl rfl (of_decide_eq_true rfl) ?_; unfold hFun; (conv => whnf)
  refine (spec_l1Below _ r _ n C hn).mono ?_
  rintro v h1 ⟨m, rfl, m1, m2, m3, K1, C1⟩
  (conv => whnf)
  exact ⟨_, rfl, K1, C1⟩

theorem spec_l1PickInt (h : Heap) (r : Nat) (x y : H0) (l : List Int) (C : Cur r h x) (hy : IntsN (fun q => q = r) h y l) (h0 : 0 < l.length) (hl : l.length ≤ 1048576) :
    HCalls dm Tryz.prog 145 [.s x, .s y] h (fun v h' => ∃ n : Int, v = I n ∧ n ∈ l ∧ KeepR r h h' ∧ Cur r h' x) := by
  refine calls_of_hFun (m := 0) kd_ok mixed Tryz.func145 rfl (by kernel_rfl) rfl rfl (of_decide_eq_true rfl) ?_; unfold hFun; (conv => whnf)
  refine ⟨rfl, hy.1.len ?_⟩
  (conv => whnf)
  refine (spec_l1Below _ r _ _ C (by omega)).mono ?_
  rintro v h1 ⟨m, rfl, m1, m2, m3, K1, C1⟩
  have hm := m2 (by omega)
  have hy1 := (hy.keep K1 (fun q _ g => g)).1
  (conv => whnf)
  refine ⟨rfl, hy1.idx m1 hm (fun p hp => ?_)⟩
  (conv => whnf)
  refine ⟨rfl, hp.load ?_⟩
  (conv => whnf)
  refine ⟨_, rfl, ?_, K1, C1⟩
  have e : l.getD m.toNat 0 = l[m.toNat]'(by omega) := by simp [List.getD, show m.toNat < l.length by omega]
  rw [e]
  exact List.getElem_mem _

/-- A slice of texts. -/
def Strs (h : Heap) (x : H0) (l : List ByteArray) : Prop := Shows h (.s x) (l.map cst)

theorem spec_l1Pick (h : Heap) (r : Nat) (x y : H0) (l : List ByteArray) (C : Cur r h x) (hy : Strs h y l) (hn : ∀ q o n, y = .sl q o n → q ≠ r) (h0 : 0 < l.length) (hl : l.length ≤ 1048576) :
    HCalls dm Tryz.prog 217 [.s x, .s y] h (fun v h' => ∃ s, v = St s ∧ s ∈ l ∧ KeepR r h h' ∧ Cur r h' x) := by
  have hlm : (l.map cst).length = l.length := by simp
  refine calls_of_hFun (m := 0) kd_ok mixed Tryz.func217 rfl (by kernel_rfl) rfl rfl (of_decide_eq_true rfl) ?_; unfold hFun; (conv => whnf)
  refine ⟨rfl, Shows.len hy ?_⟩
  rw [hlm]
  (conv => whnf)
  refine (spec_l1Below _ r _ _ C (by omega)).mono ?_
  rintro v h1 ⟨m, rfl, m1, m2, m3, K1, C1⟩
  have hm := m2 (by omega)
  have hy1 : Shows h1 (.s y) (l.map cst) := Shows.keep hy hn K1
  (conv => whnf)
  refine ⟨rfl, Shows.idx hy1 m1 (by rw [hlm]; exact hm) (fun p hp => ?_)⟩
  have hml : m.toNat < l.length := by omega
  have e : (l.map cst).getD m.toNat (.pl (.int .i64 0)) = cst l[m.toNat] := by simp [List.getD, hml]
  rw [e] at hp
  (conv => whnf)
  refine ⟨rfl, hp.load ?_⟩
  (conv => whnf)
  exact ⟨_, rfl, List.getElem_mem _, K1, C1⟩

theorem spec_l1New (h : Heap) (y : H0) (l : List Int) (hy : Bytes h y l) : HCalls dm Tryz.prog 117 [.s y] h (fun v h' => ∃ x r, v = .s x ∧ Ext h h' ∧ h.length ≤ r ∧ Cur r h' x) := by
  have hl := hy.2.1
  refine calls_of_hFun (m := 0) kd_ok mixed Tryz.func117 rfl (by kernel_rfl) rfl rfl (of_decide_eq_true rfl) ?_; unfold hFun; (conv => whnf)
  refine ⟨rfl, hy.len ?_⟩
  (conv => whnf)
  refine HArith.fits (by omega) (by omega) ?_
  (conv => whnf)
  refine HLoop.intro [4, 3] [8, 9, 10, 11, 12, 13, 14, 15, 18, 19, 20, 21, 22, 23, 24, 25, 26, 27, 3, 16, 17, 4] (by kernel_rfl) (by kernel_rfl) (fun vs h' => ∃ (i : Nat) (n : Int), vs = [I i, I n] ∧ i ≤ l.length ∧ h' = h) (fun vs _ => l.length - natAt vs 0) ⟨0, _, rfl, by omega, rfl⟩ ?_
  rintro vs h' ⟨i, n, rfl, hi, hh⟩
  subst h'
  have fin : ∀ n : Int, Cur h.length (h ++ [.own [y, ci 0, ci n]]) (.ptr h.length 0) := fun n =>
    ⟨rfl, y, l, 0, n, get_new _ _, hy.ext (Ext.push _ _), fun q o m e => by
      have := hy.1
      rw [e] at this
      exact Shows.in_lt this, by omega, by omega⟩
  have hyone : y.one = true := by
    have := hy.1
    cases y with
    | pl v =>
      generalize l.map cby = L at this
      cases this
      rfl
    | sl r o n => rfl
    | ptr r o => cases this
    | sw k r o n => cases this
    | mp r => cases this
    | pa r n => cases this
  (conv => whnf)
  refine ⟨rfl, hy.len ?_⟩
  (conv => whnf)
  refine HIf.dec (fun hlt => ?_) (fun hge => ?_)
  · (conv => whnf)
    refine HIf.decT hlt ?_
    (conv => whnf)
    refine HIf.decT hlt ?_
    (conv => whnf)
    refine HIf.dec (fun h4 => ?_) (fun h4 => ?_)
    · (conv => whnf)
      refine HArith.some (fun n1 => ?_)
      (conv => whnf)
      refine ⟨rfl, hy.idx (by omega) hlt (fun p n7 h7 h7' hp => ?_)⟩
      (conv => whnf)
      refine ⟨rfl, hp.load ?_⟩
      (conv => whnf)
      refine HConv.of ?_
      (conv => whnf)
      refine HArith.some (fun n2 => ?_)
      (conv => whnf)
      refine HArith.some (fun n3 => ?_)
      (conv => whnf)
      refine HAnd.any (fun n4 => ?_)
      (conv => whnf)
      refine HArith.fits (by omega) (by omega) ?_
      (conv => whnf)
      exact ⟨⟨i + 1, n4, rfl, by omega, rfl⟩, by show l.length - (i + 1) < l.length - i; omega⟩
    · (conv => whnf)
      refine HRec.of (two_ok hyone rfl) ?_
      (conv => whnf)
      refine ⟨three_ok hyone rfl rfl, ?_⟩
      (conv => whnf)
      exact ⟨_, _, rfl, Ext.push _ _, Nat.le_refl _, fin n⟩
  · (conv => whnf)
    refine HIf.decF hge ?_
    (conv => whnf)
    refine HIf.decF hge ?_
    (conv => whnf)
    refine HIf.no ?_
    (conv => whnf)
    refine HRec.of (two_ok hyone rfl) ?_
    (conv => whnf)
    refine ⟨three_ok hyone rfl rfl, ?_⟩
    (conv => whnf)
    exact ⟨_, _, rfl, Ext.push _ _, Nat.le_refl _, fin n⟩

end Go.Proofs.YtgliajcgcbnemaaGreatDoor.Hx

namespace Go.Proofs.YtgliajcgcbnemaaGreatDoor.Hx
open Go.RowKit
variable {dm : Bool}

def chainR (n i : Nat) : List Int :=
  let r1 := (List.replicate n (0 : Int)).set i 2
  let r2 := if 0 < i then r1.set (i - 1) (-1) else r1
  if i + 1 < n then r2.set (i + 1) (-1) else r2
def chainTo (n k : Nat) : List (List Int) := (List.range k).map (chainR n)
def chainC (n : Nat) : List (List Int) := chainTo n n
def setM (L : List (List Int)) (i j : Nat) (a : Int) : List (List Int) := L.set i ((L.getD i []).set j a)
def setC (L : List (List Int)) (i j : Nat) (a b : Int) : List (List Int) := setM (setM L i j a) j i b
def zerosL (n : Nat) : List Int := List.replicate n 0
def joinTo1 (a b : List (List Int)) (k : Nat) : List (List Int) := (List.range k).map fun i => a.getD i [] ++ zerosL b.length
def joinTo2 (a b : List (List Int)) (k : Nat) : List (List Int) := joinTo1 a b a.length ++ (List.range k).map fun i => zerosL a.length ++ b.getD i []
def joinC (a b : List (List Int)) : List (List Int) := joinTo2 a b b.length

theorem chainTo_length (n k : Nat) : (chainTo n k).length = k := by simp [chainTo]
theorem chainTo_succ (n k : Nat) : chainTo n (k + 1) = chainTo n k ++ [chainR n k] := by simp [chainTo, List.range_succ]
theorem setM_length (L : List (List Int)) (i j : Nat) (a : Int) : (setM L i j a).length = L.length := by simp [setM]
theorem setM_get {L : List (List Int)} {i : Nat} (hi : i < L.length) (j : Nat) (a : Int) (k : Nat) : (setM L i j a).getD k [] = if k = i then (L.getD i []).set j a else L.getD k [] := by
  unfold setM
  by_cases hk : k = i
  · subst hk
    simp [List.getD, hi]
  · rw [if_neg hk]
    simp [List.getD, List.getElem?_set_ne (Ne.symm hk)]
theorem setM_row {L : List (List Int)} {i : Nat} (hi : i < L.length) (j : Nat) (a : Int) (k : Nat) : ((setM L i j a).getD k []).length = (L.getD k []).length := by
  rw [setM_get hi]
  split
  · rename_i h
    subst h
    simp
  · rfl
theorem joinTo1_length (a b : List (List Int)) (k : Nat) : (joinTo1 a b k).length = k := by simp [joinTo1]
theorem joinTo1_succ (a b : List (List Int)) (k : Nat) : joinTo1 a b (k + 1) = joinTo1 a b k ++ [a.getD k [] ++ zerosL b.length] := by simp [joinTo1, List.range_succ]
theorem joinTo2_succ (a b : List (List Int)) (k : Nat) : joinTo2 a b (k + 1) = joinTo2 a b k ++ [zerosL a.length ++ b.getD k []] := by simp [joinTo2, List.range_succ]
theorem joinTo2_none (a b : List (List Int)) : joinTo2 a b 0 = joinTo1 a b a.length := by simp [joinTo2]
theorem joinTo2_length (a b : List (List Int)) (k : Nat) : (joinTo2 a b k).length = a.length + k := by simp [joinTo2, joinTo1]

/-- One cell of one's own slice written anew. -/
theorem OwnR.put {r : Nat} {h : Heap} {x : H0} {l : List Int} (O : OwnR r h x l) {o : Nat} (ho : o < l.length) {v : Int} {K : HV → Heap → Prop} (hK : ∀ h', But r h h' → h'.length = h.length → OwnR r h' x (l.set o v) → K .dead h') : HStore h (.s (.ptr r o)) (I v) K := by
  have hlt := O.lt
  obtain ⟨t, rfl, hr⟩ := O
  refine HStore.own hr (by simp; omega) rfl (hK _ ⟨by simp, fun q hq hn => by rw [List.getElem?_set_ne (Ne.symm hn)]⟩ (by simp) ⟨t, by simp, ?_⟩)
  rw [List.getElem?_set_self hlt, List.set_append_left _ _ (by simpa using ho), List.map_set]

theorem OwnR.idx {r : Nat} {h : Heap} {x : H0} {l : List Int} (O : OwnR r h x l) {j : Int} (h0 : 0 ≤ j) (h1 : j < l.length) {k : IntKind} {K : HV → Prop} (hK : K (.s (.ptr r j.toNat))) : HIdx h (.s x) (.s (.pl (.int k j))) K := by
  obtain ⟨t, rfl, hr⟩ := O
  exact HIdx.sl h0 h1 (by rw [Nat.zero_add]; exact hK)

/-- One cell of a slice of slices of one's own written anew. -/
theorem MatAt.put {h : Heap} {r : Nat} {ρ : Nat → Nat} {L : List (List Int)} (m : MatAt h r ρ L) {i o : Nat} (hi : i < L.length) (ho : o < (L.getD i []).length) {v : Int} {K : HV → Heap → Prop}
    (hK : ∀ h', h'.length = h.length → KeepN (fun q => q = ρ i) h h' → MatAt h' r ρ (setM L i o v) → K .dead h') : HStore h (.s (.ptr (ρ i) o)) (I v) K := by
  obtain ⟨t, ht⟩ := m.inner i hi
  have hlt := get_lt ht
  refine HStore.own ht (by simp only [List.length_append, List.length_map]; omega) rfl (hK _ (by simp) ⟨by simp, fun q hq hn => by rw [List.getElem?_set_ne (Ne.symm hn)]⟩ ⟨?_, fun k hk => ?_, fun k hk => ?_, fun k j hkj hj => ?_⟩)
  · obtain ⟨cs, g1, g2, g3⟩ := m.outer
    refine ⟨cs, by rw [List.getElem?_set_ne (m.ne i hi)]; exact g1, by rw [setM_length]; exact g2, fun k hk => ?_⟩
    rw [setM_length] at hk
    rw [setM_row hi]
    exact g3 k hk
  · rw [setM_length] at hk
    rw [setM_get hi]
    by_cases hki : k = i
    · subst hki
      refine ⟨t, ?_⟩
      rw [if_pos rfl, List.getElem?_set_self hlt, List.set_append_left _ _ (by simpa using ho), List.map_set]
    · obtain ⟨t2, ht2⟩ := m.inner k hk
      refine ⟨t2, ?_⟩
      have hne : ρ i ≠ ρ k := by
        rcases Nat.lt_or_gt_of_ne hki with h | h
        · exact fun e => m.inj k i h hi e.symm
        · exact m.inj i k h hk
      rw [if_neg hki, List.getElem?_set_ne hne]
      exact ht2
  · exact m.ne k (by simpa [setM_length] using hk)
  · exact m.inj k j hkj (by simpa [setM_length] using hj)

/-- One slice of a slice of slices of one's own put in anew. -/
theorem MatAt.putRow {h : Heap} {r : Nat} {ρ : Nat → Nat} {L : List (List Int)} (m : MatAt h r ρ L) {i q : Nat} (hi : i < L.length) {y : H0} {l : List Int} (O : OwnR q h y l) (hq : q ≠ r) (hqs : ∀ k, k < L.length → q ≠ ρ k) {K : HV → Heap → Prop}
    (hK : ∀ h', h'.length = h.length → KeepN (fun q => q = r) h h' → MatAt h' r (fun k => if k = i then q else ρ k) (L.set i l) → K .dead h') : HStore h (.s (.ptr r i)) (.s y) K := by
  obtain ⟨cs, g1, g2, g3⟩ := m.outer
  obtain ⟨t, rfl, hr⟩ := O
  have hlt := get_lt g1
  have gd : ∀ k, (L.set i l).getD k [] = if k = i then l else L.getD k [] := fun k => by
    by_cases hk : k = i
    · subst hk
      simp [List.getD, hi]
    · rw [if_neg hk]
      simp [List.getD, List.getElem?_set_ne (Ne.symm hk)]
  refine HStore.own g1 (by omega) rfl (hK _ (by simp) ⟨by simp, fun q hq hn => by rw [List.getElem?_set_ne (Ne.symm hn)]⟩ ⟨⟨_, List.getElem?_set_self hlt, by simpa using g2, fun k hk => ?_⟩, fun k hk => ?_, fun k hk => ?_, fun k j hkj hj => ?_⟩)
  · rw [gd]
    simp only [List.length_set] at hk
    by_cases hki : k = i
    · subst hki
      rw [List.getElem?_set_self (by omega), if_pos rfl, if_pos rfl]
    · rw [List.getElem?_set_ne (Ne.symm hki), if_neg hki, if_neg hki]
      exact g3 k hk
  · rw [gd]
    simp only [List.length_set] at hk
    by_cases hki : k = i
    · subst hki
      rw [if_pos rfl, if_pos rfl]
      exact ⟨t, by rw [List.getElem?_set_ne (Ne.symm hq)]; exact hr⟩
    · obtain ⟨t2, ht2⟩ := m.inner k hk
      rw [if_neg hki, if_neg hki]
      exact ⟨t2, by rw [List.getElem?_set_ne (Ne.symm (m.ne k hk))]; exact ht2⟩
  · simp only [List.length_set] at hk
    show (if k = i then q else ρ k) ≠ r
    by_cases hki : k = i
    · rw [if_pos hki]; exact hq
    · rw [if_neg hki]; exact m.ne k hk
  · simp only [List.length_set] at hj
    show (if k = i then q else ρ k) ≠ (if j = i then q else ρ j)
    by_cases hki : k = i
    · rw [if_pos hki, if_neg (by omega)]
      exact hqs j hj
    · by_cases hji : j = i
      · rw [if_neg hki, if_pos hji]
        exact fun e => hqs k (by omega) e.symm
      · rw [if_neg hki, if_neg hji]
        exact m.inj k j hkj hj

/-- Zeros, appended to one's own slice. -/
theorem HAppZ2.ints {r : Nat} {h : Heap} {y : H0} {l : List Int} {n : Int} {K : HV → Heap → Prop} (H : OwnR r h y l) (h0 : 0 < n) (hn : (l.length : Int) + n ≤ 1048576)
    (hK : ∀ h' r' y', But r h h' → h.length ≤ r' → OwnR r' h' y' (l ++ zerosL n.toNat) → K (.s y') h') : HAppZ2 (.int .i64 0) h (.s y) (I n) K := by
  obtain ⟨t, rfl, hr⟩ := H
  refine ⟨.i64, n.toNat, r, l.length, _, rfl, by rw [Int.toNat_of_nonneg (by omega)], by omega, by omega, hr, by simp, ?_⟩
  have e1 : l.length + n.toNat = (l ++ zerosL n.toNat).length := by simp [zerosL]
  have e2 : (l.map ci ++ t).take l.length ++ List.replicate n.toNat (H0.pl (.int .i64 0)) = (l ++ zerosL n.toNat).map ci := by
    rw [List.take_append_of_le_length (by simp), List.take_of_length_le (by simp)]
    simp [zerosL]
  rw [e1, e2]
  refine hK _ h.length _ ⟨by simp, fun q hq hn => ?_⟩ (Nat.le_refl _) ⟨[], rfl, ?_⟩
  · rw [List.getElem?_append_left (by simpa using hq), List.getElem?_set_ne (Ne.symm hn)]
  · rw [List.getElem?_append_right (by simp)]
    simp

theorem OwnM.keep {F : Nat → Prop} {b e : Nat} {h h' : Heap} {x : H0} {L : List (List Int)} (H : OwnM b e h x L) (k : KeepN F h h') (hf : ∀ q, b ≤ q → q < e → ¬ F q) : OwnM b e h' x L := by
  obtain ⟨r, ρ, g1, g2, g3, g4, m⟩ := H
  exact ⟨r, ρ, g1, g2, g3, g4, m.move (k.2 r m.lt.1 (hf r g2 g3)) (fun i hi => k.2 _ (m.lt.2 i hi) (hf _ (g4 i hi).1 (g4 i hi).2))⟩

theorem OwnM.rowsN {F : Nat → Prop} {b e : Nat} {h : Heap} {x : H0} {L : List (List Int)} (H : OwnM b e h x L) (hf : ∀ q, b ≤ q → q < e → ¬ F q) : RowsN F h x L := by
  obtain ⟨r, ρ, rfl, g2, g3, g4, m⟩ := H
  obtain ⟨cs, h1, h2, h3⟩ := m.outer
  refine ⟨(cs.drop 0).take L.length, Shows.own r 0 L.length cs h1 (by omega), fun r' o n e => by cases e; exact hf _ g2 g3, by simp; omega, fun i y l hy hl => ?_⟩
  have hi : i < L.length := (List.getElem?_eq_some_iff.1 hl).1
  rw [List.drop_zero, List.getElem?_take_of_lt hi, h3 i hi] at hy
  cases hy
  obtain ⟨t, ht⟩ := m.inner i hi
  have e : L.getD i [] = l := by simp [List.getD, hl]
  rw [e] at ht ⊢
  exact ⟨Ints.ofOwn ht, fun r' o n e => by cases e; exact hf _ (g4 i hi).1 (g4 i hi).2⟩

/-- Two texts compared. -/
theorem HStr.eql {a b : ByteArray} {K : HV → Prop} (hK : K (B (a.toList == b.toList))) : HStr .eql a b K := ⟨_, fun _ _ => rfl, hK⟩
theorem HIf.str {a b : ByteArray} {A C : Prop} (h1 : a = b → A) (h2 : a ≠ b → C) : HIf (a.toList == b.toList) A C := by
  refine HIf.split (fun h => h1 ?_) (fun h => h2 (fun e => ?_))
  · rw [ByteArray.toList_eq, ByteArray.toList_eq] at h
    exact Go.WideShapes.bytes_inj (by simpa using h)
  · subst e
    simp at h
theorem HIf.strT {a b : ByteArray} {A C : Prop} (e : a = b) (h : A) : HIf (a.toList == b.toList) A C := HIf.str (fun _ => h) (fun k => absurd e k)
/-- The names of which the reference draws. -/
def namesT : List ByteArray := [⟨#[65, 49]⟩, ⟨#[65, 50]⟩, ⟨#[65, 51]⟩, ⟨#[65, 52]⟩, ⟨#[66, 50]⟩, ⟨#[66, 51]⟩, ⟨#[66, 52]⟩, ⟨#[67, 51]⟩, ⟨#[67, 52]⟩, ⟨#[68, 52]⟩, ⟨#[70, 52]⟩, ⟨#[71, 50]⟩, ⟨#[65, 49, 126]⟩, ⟨#[65, 50, 126]⟩, ⟨#[65, 51, 126]⟩, ⟨#[67, 50, 126]⟩, ⟨#[71, 50, 126]⟩]
theorem cartA1 : isCartan (chainC 1) = true := by decide +kernel
theorem cartA2 : isCartan (chainC 2) = true := by decide +kernel
theorem cartA3 : isCartan (chainC 3) = true := by decide +kernel
theorem cartA4 : isCartan (chainC 4) = true := by decide +kernel
theorem cartB2 : isCartan (setC (chainC 2) 0 1 (-1) (-2)) = true := by decide +kernel
theorem cartB3 : isCartan (setC (chainC 3) 1 2 (-1) (-2)) = true := by decide +kernel
theorem cartB4 : isCartan (setC (chainC 4) 2 3 (-1) (-2)) = true := by decide +kernel
theorem cartC3 : isCartan (setC (chainC 3) 1 2 (-2) (-1)) = true := by decide +kernel
theorem cartC4 : isCartan (setC (chainC 4) 2 3 (-2) (-1)) = true := by decide +kernel
theorem cartD4 : isCartan (setC (setC (chainC 4) 2 3 0 0) 1 3 (-1) (-1)) = true := by decide +kernel
theorem cartF4 : isCartan (setC (chainC 4) 1 2 (-1) (-2)) = true := by decide +kernel
theorem cartG2 : isCartan (setC (chainC 2) 0 1 (-1) (-3)) = true := by decide +kernel
theorem cartA1t : isCartan (setC (chainC 2) 0 1 (-2) (-2)) = true := by decide +kernel
theorem cartA2t : isCartan (setC (chainC 3) 0 2 (-1) (-1)) = true := by decide +kernel
theorem cartA3t : isCartan (setC (chainC 4) 0 3 (-1) (-1)) = true := by decide +kernel
theorem cartC2t : isCartan (setC (setC (chainC 3) 0 1 (-1) (-2)) 1 2 (-2) (-1)) = true := by decide +kernel
theorem cartG2t : isCartan (setC (chainC 3) 1 2 (-1) (-3)) = true := by decide +kernel

/-- A matrix as the draws make them: square, of one to four points. -/
structure Shape (L : List (List Int)) : Prop where
  pos : 1 ≤ L.length
  le : L.length ≤ 4
  row : ∀ k, k < L.length → (L.getD k []).length = L.length

theorem Shape.of {L : List (List Int)} (h : isCartan L = true) : Shape L := by
  have := (isCartan_iff L).1 h
  exact ⟨this.pos, this.le, this.row⟩
theorem tot_rows {n : Nat} {L : List (List Int)} (h : ∀ k, k < L.length → (L.getD k []).length ≤ n) : tot L ≤ n * L.length :=
  tot_le n L (fun l hl => by
    obtain ⟨i, hi, e⟩ := List.getElem_of_mem hl
    have := h i hi
    have e2 : L.getD i [] = l := by simp [List.getD, hi, e]
    rw [e2] at this
    exact this)
theorem Shape.tot {L : List (List Int)} (h : Shape L) : tot L ≤ 16 := by
  have h1 := tot_rows (n := 4) (L := L) (fun k hk => by rw [h.row k hk]; exact h.le)
  have := h.le
  omega
theorem Shape.set {L : List (List Int)} (h : Shape L) {i j : Nat} (hi : i < L.length) (hj : j < L.length) (a b : Int) : Shape (setC L i j a b) := by
  unfold setC
  refine ⟨?_, ?_, fun k hk => ?_⟩
  · rw [setM_length, setM_length]; exact h.pos
  · rw [setM_length, setM_length]; exact h.le
  · rw [setM_length, setM_length] at hk
    rw [setM_length, setM_length, setM_row (by rw [setM_length]; exact hj), setM_row hi]
    exact h.row k hk


theorem spec_l2Chain (h : Heap) (n : Nat) (hn : n ≤ 4) : HCalls dm Tryz.prog 222 [I n] h (fun r h' => ∃ y, r = .s y ∧ Ext h h' ∧ OwnM h.length h'.length h' y (chainC n)) := by
  refine calls_of_hFun (m := 0) kd_ok mixed Tryz.func222 rfl (by kernel_rfl) rfl rfl (of_decide_eq_true rfl) ?_; unfold hFun; (conv => whnf)
  refine HLit.empty ?_
  (conv => whnf)
  refine HLoop.intro [4, 3] [7, 8, 9, 12, 13, 5, 14, 15, 16, 17, 18, 19, 20, 21, 22, 23, 24, 25, 26, 27, 28, 29, 30, 31, 32, 33, 34, 3, 10, 11, 4] (by kernel_rfl) (by kernel_rfl) (fun vs h' => ∃ (k : Nat) (z : H0), vs = [I k, .s z] ∧ k ≤ n ∧ Ext h h' ∧ OwnM h.length h'.length h' z (chainTo n k)) (fun vs _ => n - natAt vs 0) ⟨0, _, rfl, by omega, Ext.push _ _, OwnM.none h⟩ ?_
  rintro vs h' ⟨k, z, rfl, hk, E, O⟩
  have hcl := chainTo_length n k
  (conv => whnf)
  refine HIf.dec (fun hlt => ?_) (fun hge => ?_)
  · (conv => whnf)
    refine HMake.ints n rfl (by omega) ?_
    have O1 : OwnR h'.length (h' ++ [.own (List.replicate n (ci 0))]) (.sl h'.length 0 n) (List.replicate n (0 : Int)) := ⟨[], by simp, by rw [get_new]; simp⟩
    have E1 := Ext.push h' [.own (List.replicate n (ci 0))]
    generalize h' ++ [Row.own (List.replicate n (ci 0))] = h1 at O1 E1 ⊢
    have hE1 := E1.1
    have hrl : (List.replicate n (0 : Int)).length = n := by simp
    (conv => whnf)
    refine ⟨rfl, O1.idx (by omega) (by omega) ?_⟩
    (conv => whnf)
    refine ⟨rfl, O1.put (o := k) (by omega) (fun h2 B2 n2 O2 => ?_)⟩
    have E2 := E1.but B2 (Nat.le_refl _)
    have l2 : (((List.replicate n (0 : Int)).set k 2)).length = n := by simp
    (conv => whnf)
    refine HIf.dec (fun h0 => ?_) (fun h0 => ?_)
    · (conv => whnf)
      refine HArith.fits (by omega) (by omega) ?_
      (conv => whnf)
      refine ⟨rfl, O2.idx (by omega) (by omega) ?_⟩
      (conv => whnf)
      refine ⟨rfl, O2.put (by omega) (fun h3 B3 n3 O3 => ?_)⟩
      have E3 := E2.but B3 (Nat.le_refl _)
      have e3 : ((k : Int) - 1).toNat = k - 1 := by omega
      rw [e3] at O3
      have l3 : ((((List.replicate n (0 : Int)).set k 2)).set (k - 1) (-1)).length = n := by simp
      (conv => whnf)
      refine HArith.fits (by omega) (by omega) ?_
      (conv => whnf)
      refine HIf.dec (fun h1 => ?_) (fun h1 => ?_)
      · (conv => whnf)
        refine HArith.fits (by omega) (by omega) ?_
        (conv => whnf)
        refine ⟨rfl, O3.idx (by omega) (by omega) ?_⟩
        (conv => whnf)
        refine ⟨rfl, O3.put (by omega) (fun h4 B4 n4 O4 => ?_)⟩
        have E4 := E3.but B4 (Nat.le_refl _)
        have e4 : ((k : Int) + 1).toNat = k + 1 := by omega
        have e5 : (((((List.replicate n (0 : Int)).set k 2)).set (k - 1) (-1)).set ((k : Int) + 1).toNat (-1)) = chainR n k := by
          rw [e4]
          unfold chainR
          simp only
          rw [if_pos (by omega), if_pos (by omega)]
        rw [e5] at O4
        (conv => whnf)
        refine HLit.row (O4.own (Nat.zero_le _)).one ?_
        (conv => whnf)
        refine ⟨rfl, rfl, HApp.snocM E O E4 (O4.own (by omega)) (by omega) (fun h6 y6 E6 O6 => ?_)⟩
        rw [← chainTo_succ] at O6
        (conv => whnf)
        refine HArith.fits (by omega) (by omega) ?_
        (conv => whnf)
        exact ⟨⟨k + 1, y6, rfl, by omega, E6, O6⟩, by show n - (k + 1) < n - k; omega⟩
      · have e5 : ((((List.replicate n (0 : Int)).set k 2)).set (k - 1) (-1)) = chainR n k := by
          unfold chainR
          simp only
          rw [if_neg (by omega), if_pos (by omega)]
        rw [e5] at O3
        (conv => whnf)
        refine HLit.row (O3.own (Nat.zero_le _)).one ?_
        (conv => whnf)
        refine ⟨rfl, rfl, HApp.snocM E O E3 (O3.own (by omega)) (by omega) (fun h6 y6 E6 O6 => ?_)⟩
        rw [← chainTo_succ] at O6
        (conv => whnf)
        refine HArith.fits (by omega) (by omega) ?_
        (conv => whnf)
        exact ⟨⟨k + 1, y6, rfl, by omega, E6, O6⟩, by show n - (k + 1) < n - k; omega⟩
    · (conv => whnf)
      refine HArith.fits (by omega) (by omega) ?_
      (conv => whnf)
      refine HIf.dec (fun h1 => ?_) (fun h1 => ?_)
      · (conv => whnf)
        refine HArith.fits (by omega) (by omega) ?_
        (conv => whnf)
        refine ⟨rfl, O2.idx (by omega) (by omega) ?_⟩
        (conv => whnf)
        refine ⟨rfl, O2.put (by omega) (fun h4 B4 n4 O4 => ?_)⟩
        have E4 := E2.but B4 (Nat.le_refl _)
        have e4 : ((k : Int) + 1).toNat = k + 1 := by omega
        have e5 : (((List.replicate n (0 : Int)).set k 2)).set ((k : Int) + 1).toNat (-1) = chainR n k := by
          rw [e4]
          unfold chainR
          simp only
          rw [if_pos (by omega), if_neg (by omega)]
        rw [e5] at O4
        (conv => whnf)
        refine HLit.row (O4.own (Nat.zero_le _)).one ?_
        (conv => whnf)
        refine ⟨rfl, rfl, HApp.snocM E O E4 (O4.own (by omega)) (by omega) (fun h6 y6 E6 O6 => ?_)⟩
        rw [← chainTo_succ] at O6
        (conv => whnf)
        refine HArith.fits (by omega) (by omega) ?_
        (conv => whnf)
        exact ⟨⟨k + 1, y6, rfl, by omega, E6, O6⟩, by show n - (k + 1) < n - k; omega⟩
      · have e5 : (((List.replicate n (0 : Int)).set k 2)) = chainR n k := by
          unfold chainR
          simp only
          rw [if_neg (by omega), if_neg (by omega)]
        rw [e5] at O2
        (conv => whnf)
        refine HLit.row (O2.own (Nat.zero_le _)).one ?_
        (conv => whnf)
        refine ⟨rfl, rfl, HApp.snocM E O E2 (O2.own (by omega)) (by omega) (fun h6 y6 E6 O6 => ?_)⟩
        rw [← chainTo_succ] at O6
        (conv => whnf)
        refine HArith.fits (by omega) (by omega) ?_
        (conv => whnf)
        exact ⟨⟨k + 1, y6, rfl, by omega, E6, O6⟩, by show n - (k + 1) < n - k; omega⟩
  · have e : k = n := by omega
    subst e
    (conv => whnf)
    exact ⟨_, rfl, E, O⟩

theorem spec_l2Set (h : Heap) (x : H0) (L : List (List Int)) (i j : Nat) (a b : Int) (hx : Rows h x L) (hL : L.length ≤ 1048576 ∧ tot L ≤ 1048576) (hi : i < L.length) (hj : j < L.length) (hij : j < (L.getD i []).length) (hji : i < (L.getD j []).length) :
    HCalls dm Tryz.prog 218 [.s x, I i, I j, I a, I b] h (fun r h' => ∃ y, r = .s y ∧ Ext h h' ∧ OwnM h.length h'.length h' y (setC L i j a b)) := by
  refine calls_of_hFun (m := 0) kd_ok mixed Tryz.func218 rfl (by kernel_rfl) rfl rfl (of_decide_eq_true rfl) ?_; unfold hFun; (conv => whnf)
  refine (spec_l2Copy _ _ _ hx hL).mono ?_
  rintro r h1 ⟨y, rfl, E1, O1⟩
  obtain ⟨r0, ρ, rfl, hb, he, hρ, m⟩ := O1
  (conv => whnf)
  refine ⟨rfl, m.idx hi (fun p hp => ?_)⟩
  (conv => whnf)
  refine ⟨rfl, hp.load ?_⟩
  (conv => whnf)
  refine ⟨rfl, (m.inner' hi).idx (by omega) (by omega) ?_⟩
  (conv => whnf)
  refine ⟨rfl, m.put hi hij (fun h2 n2 k2 m2 => ?_)⟩
  have E2 : Ext h h2 := k2.ext (fun q e => by have := hρ i hi; omega) E1
  have hj2 : j < (setM L i j a).length := by rw [setM_length]; exact hj
  have hl2 : (setM L i j a).length = L.length := setM_length _ _ _ _
  have hji2 : i < ((setM L i j a).getD j []).length := by rw [setM_row hi]; exact hji
  rw [← hl2]
  (conv => whnf)
  refine ⟨rfl, m2.idx hj2 (fun p hp => ?_)⟩
  (conv => whnf)
  refine ⟨rfl, hp.load ?_⟩
  (conv => whnf)
  refine ⟨rfl, (m2.inner' hj2).idx (by omega) (by omega) ?_⟩
  (conv => whnf)
  refine ⟨rfl, m2.put hj2 hji2 (fun h3 n3 k3 m3 => ?_)⟩
  have E3 : Ext h h3 := k3.ext (fun q e => by have := hρ j hj; omega) E2
  have hl3 : (setC L i j a b).length = L.length := by unfold setC; rw [setM_length, setM_length]
  (conv => whnf)
  exact ⟨_, rfl, E3, r0, ρ, by rw [hl3, hl2], hb, by omega, fun k hk => by rw [hl3] at hk; have := hρ k hk; omega, m3⟩

set_option maxRecDepth 20000 in
theorem spec_TypeCartan (h : Heap) (s : ByteArray) (hs : s ∈ namesT) : HCalls dm Tryz.prog 182 [St s] h (fun r h' => ∃ y L, r = TM y true ∧ Ext h h' ∧ OwnM h.length h'.length h' y L ∧ isCartan L = true) := by
  refine calls_of_hFun (m := 0) kd_ok mixed Tryz.func182 rfl (by kernel_rfl) rfl rfl (of_decide_eq_true rfl) ?_; unfold hFun; (conv => whnf)
  refine HStr.eql ?_
  (conv => whnf)
  refine HIf.str (fun e => ?_) (fun neA1 => ?_)
  · subst e
    (conv => whnf)
    refine HIf.strT rfl ?_
    (conv => whnf)
    refine ⟨_, .i64, 1, by decide, rfl, rfl, ?_⟩
    (conv => whnf)
    refine HArith.any ?_
    (conv => whnf)
    refine HConv.of ?_
    (conv => whnf)
    refine (show HCalls _ _ _ [I ((1 : Nat) : Int)] _ _ from (spec_l2Chain h 1 (by omega)).mono ?_)
    rintro r h1 ⟨y1, rfl, E1, O1⟩
    (conv => whnf)
    exact ⟨_, _, rfl, E1, O1, cartA1⟩
  (conv => whnf)
  refine HStr.eql ?_
  (conv => whnf)
  refine HIf.str (fun e => ?_) (fun neA2 => ?_)
  · subst e
    (conv => whnf)
    refine HIf.strT rfl ?_
    (conv => whnf)
    refine ⟨_, .i64, 1, by decide, rfl, rfl, ?_⟩
    (conv => whnf)
    refine HArith.any ?_
    (conv => whnf)
    refine HConv.of ?_
    (conv => whnf)
    refine (show HCalls _ _ _ [I ((2 : Nat) : Int)] _ _ from (spec_l2Chain h 2 (by omega)).mono ?_)
    rintro r h1 ⟨y1, rfl, E1, O1⟩
    (conv => whnf)
    exact ⟨_, _, rfl, E1, O1, cartA2⟩
  (conv => whnf)
  refine HStr.eql ?_
  (conv => whnf)
  refine HIf.str (fun e => ?_) (fun neA3 => ?_)
  · subst e
    (conv => whnf)
    refine HIf.strT rfl ?_
    (conv => whnf)
    refine ⟨_, .i64, 1, by decide, rfl, rfl, ?_⟩
    (conv => whnf)
    refine HArith.any ?_
    (conv => whnf)
    refine HConv.of ?_
    (conv => whnf)
    refine (show HCalls _ _ _ [I ((3 : Nat) : Int)] _ _ from (spec_l2Chain h 3 (by omega)).mono ?_)
    rintro r h1 ⟨y1, rfl, E1, O1⟩
    (conv => whnf)
    exact ⟨_, _, rfl, E1, O1, cartA3⟩
  (conv => whnf)
  refine HStr.eql ?_
  (conv => whnf)
  refine HIf.str (fun e => ?_) (fun neA4 => ?_)
  · subst e
    (conv => whnf)
    refine ⟨_, .i64, 1, by decide, rfl, rfl, ?_⟩
    (conv => whnf)
    refine HArith.any ?_
    (conv => whnf)
    refine HConv.of ?_
    (conv => whnf)
    refine (show HCalls _ _ _ [I ((4 : Nat) : Int)] _ _ from (spec_l2Chain h 4 (by omega)).mono ?_)
    rintro r h1 ⟨y1, rfl, E1, O1⟩
    (conv => whnf)
    exact ⟨_, _, rfl, E1, O1, cartA4⟩
  (conv => whnf)
  refine HStr.eql ?_
  (conv => whnf)
  refine HIf.str (fun e => ?_) (fun neB2 => ?_)
  · subst e
    (conv => whnf)
    refine (show HCalls _ _ _ [I ((2 : Nat) : Int)] _ _ from (spec_l2Chain h 2 (by omega)).mono ?_)
    rintro r h1 ⟨y1, rfl, E1, O1⟩
    (conv => whnf)
    refine (spec_l2Set h1 _ (chainC 2) 0 1 (-1) (-2) O1.rows (by decide +kernel) (by decide +kernel) (by decide +kernel) (by decide +kernel) (by decide +kernel)).mono ?_
    rintro r h2 ⟨y2, rfl, E2, O2⟩
    (conv => whnf)
    replace O2 := O2.lower E1.1
    replace E2 := E1.trans E2
    exact ⟨_, _, rfl, E2, O2, cartB2⟩
  (conv => whnf)
  refine HStr.eql ?_
  (conv => whnf)
  refine HIf.str (fun e => ?_) (fun neB3 => ?_)
  · subst e
    (conv => whnf)
    refine (show HCalls _ _ _ [I ((3 : Nat) : Int)] _ _ from (spec_l2Chain h 3 (by omega)).mono ?_)
    rintro r h1 ⟨y1, rfl, E1, O1⟩
    (conv => whnf)
    refine (spec_l2Set h1 _ (chainC 3) 1 2 (-1) (-2) O1.rows (by decide +kernel) (by decide +kernel) (by decide +kernel) (by decide +kernel) (by decide +kernel)).mono ?_
    rintro r h2 ⟨y2, rfl, E2, O2⟩
    (conv => whnf)
    replace O2 := O2.lower E1.1
    replace E2 := E1.trans E2
    exact ⟨_, _, rfl, E2, O2, cartB3⟩
  (conv => whnf)
  refine HStr.eql ?_
  (conv => whnf)
  refine HIf.str (fun e => ?_) (fun neB4 => ?_)
  · subst e
    (conv => whnf)
    refine (show HCalls _ _ _ [I ((4 : Nat) : Int)] _ _ from (spec_l2Chain h 4 (by omega)).mono ?_)
    rintro r h1 ⟨y1, rfl, E1, O1⟩
    (conv => whnf)
    refine (spec_l2Set h1 _ (chainC 4) 2 3 (-1) (-2) O1.rows (by decide +kernel) (by decide +kernel) (by decide +kernel) (by decide +kernel) (by decide +kernel)).mono ?_
    rintro r h2 ⟨y2, rfl, E2, O2⟩
    (conv => whnf)
    replace O2 := O2.lower E1.1
    replace E2 := E1.trans E2
    exact ⟨_, _, rfl, E2, O2, cartB4⟩
  (conv => whnf)
  refine HStr.eql ?_
  (conv => whnf)
  refine HIf.str (fun e => ?_) (fun neC3 => ?_)
  · subst e
    (conv => whnf)
    refine (show HCalls _ _ _ [I ((3 : Nat) : Int)] _ _ from (spec_l2Chain h 3 (by omega)).mono ?_)
    rintro r h1 ⟨y1, rfl, E1, O1⟩
    (conv => whnf)
    refine (spec_l2Set h1 _ (chainC 3) 1 2 (-2) (-1) O1.rows (by decide +kernel) (by decide +kernel) (by decide +kernel) (by decide +kernel) (by decide +kernel)).mono ?_
    rintro r h2 ⟨y2, rfl, E2, O2⟩
    (conv => whnf)
    replace O2 := O2.lower E1.1
    replace E2 := E1.trans E2
    exact ⟨_, _, rfl, E2, O2, cartC3⟩
  (conv => whnf)
  refine HStr.eql ?_
  (conv => whnf)
  refine HIf.str (fun e => ?_) (fun neC4 => ?_)
  · subst e
    (conv => whnf)
    refine (show HCalls _ _ _ [I ((4 : Nat) : Int)] _ _ from (spec_l2Chain h 4 (by omega)).mono ?_)
    rintro r h1 ⟨y1, rfl, E1, O1⟩
    (conv => whnf)
    refine (spec_l2Set h1 _ (chainC 4) 2 3 (-2) (-1) O1.rows (by decide +kernel) (by decide +kernel) (by decide +kernel) (by decide +kernel) (by decide +kernel)).mono ?_
    rintro r h2 ⟨y2, rfl, E2, O2⟩
    (conv => whnf)
    replace O2 := O2.lower E1.1
    replace E2 := E1.trans E2
    exact ⟨_, _, rfl, E2, O2, cartC4⟩
  (conv => whnf)
  refine HStr.eql ?_
  (conv => whnf)
  refine HIf.str (fun e => ?_) (fun neD4 => ?_)
  · subst e
    (conv => whnf)
    refine (show HCalls _ _ _ [I ((4 : Nat) : Int)] _ _ from (spec_l2Chain h 4 (by omega)).mono ?_)
    rintro r h1 ⟨y1, rfl, E1, O1⟩
    (conv => whnf)
    refine (spec_l2Set h1 _ (chainC 4) 2 3 0 0 O1.rows (by decide +kernel) (by decide +kernel) (by decide +kernel) (by decide +kernel) (by decide +kernel)).mono ?_
    rintro r h2 ⟨y2, rfl, E2, O2⟩
    (conv => whnf)
    replace O2 := O2.lower E1.1
    replace E2 := E1.trans E2
    refine (spec_l2Set h2 _ (setC (chainC 4) 2 3 0 0) 1 3 (-1) (-1) O2.rows (by decide +kernel) (by decide +kernel) (by decide +kernel) (by decide +kernel) (by decide +kernel)).mono ?_
    rintro r h3 ⟨y3, rfl, E3, O3⟩
    (conv => whnf)
    replace O3 := O3.lower E2.1
    replace E3 := E2.trans E3
    exact ⟨_, _, rfl, E3, O3, cartD4⟩
  (conv => whnf)
  refine HStr.eql ?_
  (conv => whnf)
  refine HIf.str (fun e => ?_) (fun neF4 => ?_)
  · subst e
    (conv => whnf)
    refine (show HCalls _ _ _ [I ((4 : Nat) : Int)] _ _ from (spec_l2Chain h 4 (by omega)).mono ?_)
    rintro r h1 ⟨y1, rfl, E1, O1⟩
    (conv => whnf)
    refine (spec_l2Set h1 _ (chainC 4) 1 2 (-1) (-2) O1.rows (by decide +kernel) (by decide +kernel) (by decide +kernel) (by decide +kernel) (by decide +kernel)).mono ?_
    rintro r h2 ⟨y2, rfl, E2, O2⟩
    (conv => whnf)
    replace O2 := O2.lower E1.1
    replace E2 := E1.trans E2
    exact ⟨_, _, rfl, E2, O2, cartF4⟩
  (conv => whnf)
  refine HStr.eql ?_
  (conv => whnf)
  refine HIf.str (fun e => ?_) (fun neG2 => ?_)
  · subst e
    (conv => whnf)
    refine (show HCalls _ _ _ [I ((2 : Nat) : Int)] _ _ from (spec_l2Chain h 2 (by omega)).mono ?_)
    rintro r h1 ⟨y1, rfl, E1, O1⟩
    (conv => whnf)
    refine (spec_l2Set h1 _ (chainC 2) 0 1 (-1) (-3) O1.rows (by decide +kernel) (by decide +kernel) (by decide +kernel) (by decide +kernel) (by decide +kernel)).mono ?_
    rintro r h2 ⟨y2, rfl, E2, O2⟩
    (conv => whnf)
    replace O2 := O2.lower E1.1
    replace E2 := E1.trans E2
    exact ⟨_, _, rfl, E2, O2, cartG2⟩
  (conv => whnf)
  refine HStr.eql ?_
  (conv => whnf)
  refine HIf.str (fun e => ?_) (fun neA1t => ?_)
  · subst e
    (conv => whnf)
    refine (show HCalls _ _ _ [I ((2 : Nat) : Int)] _ _ from (spec_l2Chain h 2 (by omega)).mono ?_)
    rintro r h1 ⟨y1, rfl, E1, O1⟩
    (conv => whnf)
    refine (spec_l2Set h1 _ (chainC 2) 0 1 (-2) (-2) O1.rows (by decide +kernel) (by decide +kernel) (by decide +kernel) (by decide +kernel) (by decide +kernel)).mono ?_
    rintro r h2 ⟨y2, rfl, E2, O2⟩
    (conv => whnf)
    replace O2 := O2.lower E1.1
    replace E2 := E1.trans E2
    exact ⟨_, _, rfl, E2, O2, cartA1t⟩
  (conv => whnf)
  refine HStr.eql ?_
  (conv => whnf)
  refine HIf.str (fun e => ?_) (fun neA2t => ?_)
  · subst e
    (conv => whnf)
    refine (show HCalls _ _ _ [I ((3 : Nat) : Int)] _ _ from (spec_l2Chain h 3 (by omega)).mono ?_)
    rintro r h1 ⟨y1, rfl, E1, O1⟩
    (conv => whnf)
    refine (spec_l2Set h1 _ (chainC 3) 0 2 (-1) (-1) O1.rows (by decide +kernel) (by decide +kernel) (by decide +kernel) (by decide +kernel) (by decide +kernel)).mono ?_
    rintro r h2 ⟨y2, rfl, E2, O2⟩
    (conv => whnf)
    replace O2 := O2.lower E1.1
    replace E2 := E1.trans E2
    exact ⟨_, _, rfl, E2, O2, cartA2t⟩
  (conv => whnf)
  refine HStr.eql ?_
  (conv => whnf)
  refine HIf.str (fun e => ?_) (fun neA3t => ?_)
  · subst e
    (conv => whnf)
    refine (show HCalls _ _ _ [I ((4 : Nat) : Int)] _ _ from (spec_l2Chain h 4 (by omega)).mono ?_)
    rintro r h1 ⟨y1, rfl, E1, O1⟩
    (conv => whnf)
    refine (spec_l2Set h1 _ (chainC 4) 0 3 (-1) (-1) O1.rows (by decide +kernel) (by decide +kernel) (by decide +kernel) (by decide +kernel) (by decide +kernel)).mono ?_
    rintro r h2 ⟨y2, rfl, E2, O2⟩
    (conv => whnf)
    replace O2 := O2.lower E1.1
    replace E2 := E1.trans E2
    exact ⟨_, _, rfl, E2, O2, cartA3t⟩
  (conv => whnf)
  refine HStr.eql ?_
  (conv => whnf)
  refine HIf.str (fun e => ?_) (fun neC2t => ?_)
  · subst e
    (conv => whnf)
    refine (show HCalls _ _ _ [I ((3 : Nat) : Int)] _ _ from (spec_l2Chain h 3 (by omega)).mono ?_)
    rintro r h1 ⟨y1, rfl, E1, O1⟩
    (conv => whnf)
    refine (spec_l2Set h1 _ (chainC 3) 0 1 (-1) (-2) O1.rows (by decide +kernel) (by decide +kernel) (by decide +kernel) (by decide +kernel) (by decide +kernel)).mono ?_
    rintro r h2 ⟨y2, rfl, E2, O2⟩
    (conv => whnf)
    replace O2 := O2.lower E1.1
    replace E2 := E1.trans E2
    refine (spec_l2Set h2 _ (setC (chainC 3) 0 1 (-1) (-2)) 1 2 (-2) (-1) O2.rows (by decide +kernel) (by decide +kernel) (by decide +kernel) (by decide +kernel) (by decide +kernel)).mono ?_
    rintro r h3 ⟨y3, rfl, E3, O3⟩
    (conv => whnf)
    replace O3 := O3.lower E2.1
    replace E3 := E2.trans E3
    exact ⟨_, _, rfl, E3, O3, cartC2t⟩
  (conv => whnf)
  refine HStr.eql ?_
  (conv => whnf)
  refine HIf.str (fun e => ?_) (fun neG2t => ?_)
  · subst e
    (conv => whnf)
    refine (show HCalls _ _ _ [I ((3 : Nat) : Int)] _ _ from (spec_l2Chain h 3 (by omega)).mono ?_)
    rintro r h1 ⟨y1, rfl, E1, O1⟩
    (conv => whnf)
    refine (spec_l2Set h1 _ (chainC 3) 1 2 (-1) (-3) O1.rows (by decide +kernel) (by decide +kernel) (by decide +kernel) (by decide +kernel) (by decide +kernel)).mono ?_
    rintro r h2 ⟨y2, rfl, E2, O2⟩
    (conv => whnf)
    replace O2 := O2.lower E1.1
    replace E2 := E1.trans E2
    exact ⟨_, _, rfl, E2, O2, cartG2t⟩
  (conv => whnf)
  exfalso
  simp only [namesT, List.mem_cons, List.not_mem_nil, or_false] at hs
  rcases hs with rfl | rfl | rfl | rfl | rfl | rfl | rfl | rfl | rfl | rfl | rfl | rfl | rfl | rfl | rfl | rfl | rfl <;> contradiction

end Go.Proofs.YtgliajcgcbnemaaGreatDoor.Hx
