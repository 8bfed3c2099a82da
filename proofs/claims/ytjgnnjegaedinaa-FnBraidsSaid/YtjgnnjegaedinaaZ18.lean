/-
  The reference's draws: a cursor over bytes (a struct behind a pointer), and what it draws: numbers, one of some numbers, one of some texts.
  Contracts of membership in lists of roots and of copies of matrices; a word read off its inversions, as plain functions.
-/
import Derived.Test.YtjgnnjegaedinaaZ17
import Derived.Laws.Strings
namespace Go.Proofs.Ytjgnnjegaedinaa.Hx
open Go.RowKit
variable {dm : Bool}

/-- A cell that holds a byte; a cell that holds a text. -/
abbrev cby (n : Int) : H0 := .pl (.int .u8 n)
abbrev cst (s : ByteArray) : H0 := .pl (.string s)
abbrev St (s : ByteArray) : HV := .s (.pl (.string s))

def Bytes (h : Heap) (x : H0) (l : List Int) : Prop := Shows h (.s x) (l.map cby) ∧ l.length ≤ 1048576 ∧ ∀ y ∈ l, 0 ≤ y ∧ y < 256

/-- The cursor: a struct of a slice of bytes and two numbers, in row r. -/
def Cur (r : Nat) (h : Heap) (x : H0) : Prop := x = .ptr r 0 ∧ ∃ (b : H0) (l : List Int) (i hh : Int), h[r]? = some (.own [b, ci i, ci hh]) ∧ Bytes h b l ∧ (∀ q o n, b = .sl q o n → q < r) ∧ 0 ≤ i ∧ i ≤ 1048576

theorem HField.at {n r o f : Nat} {K : HV → Prop} (h : f < n) (hK : K (.s (.ptr r (o + f)))) : HField n (.s (.ptr r o)) f K := ⟨r, o, rfl, h, hK⟩
theorem At.here {h : Heap} {r o : Nat} {cs : List H0} {c : H0} (hr : h[r]? = some (.own cs)) (hc : cs[o]? = some c) : At h (.ptr r o) c := ⟨r, o, _, cs, rfl, hr, rfl, hc⟩
theorem HConv.of {k k' : IntKind} {n : Int} {K : HV → Prop} (hK : K (.s (.pl (.int k (k.wrap n))))) : HConv k (.s (.pl (.int k' n))) K := ⟨k', n, rfl, hK⟩
theorem HMax.of {k : IntKind} {a b : Int} {K : HV → Prop} (hK : K (.s (.pl (.int k (if b > a then b else a))))) : HMax (.s (.pl (.int k a))) (.s (.pl (.int k b))) K := ⟨k, a, b, rfl, rfl, hK⟩

theorem two_ok {a b : H0} (ha : a.one = true) (hb : b.one = true) : ∀ c ∈ [a, b], c.one = true := by
  intro c hc
  simp only [List.mem_cons, List.not_mem_nil, or_false] at hc
  rcases hc with rfl | rfl
  · exact ha
  · exact hb
theorem three_ok {a b d : H0} (ha : a.one = true) (hb : b.one = true) (hd : d.one = true) : ∀ c ∈ [a, b, d], c.one = true := by
  intro c hc
  simp only [List.mem_cons, List.not_mem_nil, or_false] at hc
  rcases hc with rfl | rfl | rfl
  · exact ha
  · exact hb
  · exact hd

theorem wrap_byte {n : Int} (h : 0 ≤ n ∧ n < 256) : IntKind.i64.wrap n = n := IntWalk.i64_in n ⟨by omega, by omega⟩

/-- And with 255 leaves a byte. -/
theorem and_byte (a : Int) : ∃ n : Int, 0 ≤ n ∧ n ≤ 255 ∧ IntKind.i64.wrap ((BitVec.ofInt IntKind.i64.bits a &&& BitVec.ofInt IntKind.i64.bits 255).toNat : Int) = n := by
  have e : (BitVec.ofInt IntKind.i64.bits a &&& BitVec.ofInt IntKind.i64.bits 255).toNat ≤ 255 := by
    rw [BitVec.toNat_and]
    have : (BitVec.ofInt IntKind.i64.bits 255).toNat = 255 := by decide
    rw [this]
    exact Nat.and_le_right
  refine ⟨_, ?_, ?_, rfl⟩
  · rw [wrap_byte (by omega)]; omega
  · rw [wrap_byte (by omega)]; omega

theorem HAnd.byte {a : Int} {K : HV → Prop} (hK : ∀ n : Int, 0 ≤ n → n ≤ 255 → K (I n)) : HAnd .i64 a 255 K := by
  obtain ⟨n, h1, h2, e⟩ := and_byte a
  refine ⟨?_⟩
  rw [e]
  exact hK n h1 h2
theorem HAnd.any {k : IntKind} {a b : Int} {K : HV → Prop} (hK : ∀ n : Int, K (.s (.pl (.int k n)))) : HAnd k a b K := ⟨hK _⟩
theorem HShr.any {k : IntKind} {a b : Int} {K : HV → Prop} (h : 0 ≤ b) (hK : ∀ n : Int, K (.s (.pl (.int k n)))) : HShr k a b K := ⟨h, hK _⟩
theorem HXor.any {k : IntKind} {a b : Int} {K : HV → Prop} (hK : ∀ n : Int, K (.s (.pl (.int k n)))) : HXor k a b K := ⟨hK _⟩
theorem HArith.some {k : IntKind} {e : Int} {K : HV → Prop} (hK : ∀ n : Int, K (.s (.pl (.int k n)))) : HArith k e K := ⟨hK _⟩

theorem Bytes.len {h : Heap} {x : H0} {l : List Int} (H : Bytes h x l) {K : HV → Prop} (hK : K (I l.length)) : HLen (.s x) K := by
  have := Shows.len H.1 (K := K)
  simp only [List.length_map] at this
  exact this hK

theorem getD_map_cby {l : List Int} {n : Nat} (h : n < l.length) (d : H0) : (l.map cby).getD n d = cby (l.getD n 0) := by
  simp [List.getD, h]

theorem Bytes.idx {h : Heap} {x : H0} {l : List Int} (H : Bytes h x l) {j : Int} (h0 : 0 ≤ j) (h1 : j < l.length) {k : IntKind} {K : HV → Prop} (hK : ∀ p n, 0 ≤ n → n < 256 → At h p (cby n) → K (.s p)) : HIdx h (.s x) (.s (.pl (.int k j))) K := by
  refine Shows.idx H.1 h0 (by simpa using h1) (fun p hp => ?_)
  rw [getD_map_cby (by omega)] at hp
  have hm : l.getD j.toNat 0 ∈ l := by
    have e : l.getD j.toNat 0 = l[j.toNat]'(by omega) := by simp [List.getD, show j.toNat < l.length by omega]
    rw [e]
    exact List.getElem_mem _
  exact hK p _ (H.2.2 _ hm).1 (H.2.2 _ hm).2 hp

theorem Bytes.keep {F : Nat → Prop} {h h' : Heap} {x : H0} {l : List Int} (H : Bytes h x l) (hf : ∀ q o n, x = .sl q o n → ¬ F q) (k : KeepN F h h') : Bytes h' x l := ⟨H.1.keep hf k, H.2⟩
theorem Bytes.ext {h h' : Heap} {x : H0} {l : List Int} (H : Bytes h x l) (E : Ext h h') : Bytes h' x l := ⟨H.1.ext E, H.2⟩

theorem Cur.lt {r : Nat} {h : Heap} {x : H0} (C : Cur r h x) : r < h.length := by
  obtain ⟨_, b, l, i, hh, hr, _⟩ := C
  exact get_lt hr
theorem Cur.ext {r : Nat} {h h' : Heap} {x : H0} (C : Cur r h x) (E : Ext h h') : Cur r h' x := by
  obtain ⟨e, b, l, i, hh, hr, B, hb, hi⟩ := C
  exact ⟨e, b, l, i, hh, E.row hr, B.ext E, hb, hi⟩

theorem Cur.low {r : Nat} {h h' : Heap} {x : H0} (C : Cur r h x) (hl : ∀ q, q ≤ r → h'[q]? = h[q]?) : Cur r h' x := by
  obtain ⟨e, b, l, i, hh, hr, B, hb, hi⟩ := C
  refine ⟨e, b, l, i, hh, by rw [hl r (Nat.le_refl _)]; exact hr, ⟨?_, B.2⟩, hb, hi⟩
  have B1 := B.1
  generalize l.map cby = L at B1
  cases B1 with
  | nils a c => exact .nils a c
  | ro q off len cs hq hlen => exact .ro q off len cs (by rw [hl q (Nat.le_of_lt (hb _ _ _ rfl))]; exact hq) hlen
  | own q off len cs hq hlen => exact .own q off len cs (by rw [hl q (Nat.le_of_lt (hb _ _ _ rfl))]; exact hq) hlen
theorem Cur.keep {F : Nat → Prop} {r : Nat} {h h' : Heap} {x : H0} (C : Cur r h x) (k : KeepN F h h') (hf : ∀ q, F q → r < q) : Cur r h' x :=
  C.low (fun q hq => k.2 q (Nat.lt_of_le_of_lt hq C.lt) (fun f => by have := hf q f; omega))

/-- Only row r has changed. -/
abbrev KeepR (r : Nat) : Heap → Heap → Prop := KeepN (fun q => q = r)

theorem KeepR.set {r : Nat} {h : Heap} (x : Row) : KeepR r h (h.set r x) := ⟨by simp, fun q hq hn => by rw [List.getElem?_set_ne (fun e => hn e.symm)]⟩

theorem HStore.cur {h : Heap} {r o : Nat} {cs : List H0} {c : H0} {K : HV → Heap → Prop} (hr : h[r]? = some (.own cs)) (ho : o < cs.length) (hc : c.one = true) (hK : K .dead (h.set r (.own (cs.set o c)))) : HStore h (.s (.ptr r o)) (.s c) K := HStore.own hr ho hc hK


set_option maxHeartbeats 1000000 in
theorem spec_l1Byte (h : Heap) (r : Nat) (x : H0) (C : Cur r h x) : HCalls dm Try.prog 90 [.s x] h (fun v h' => ∃ n : Int, v = I n ∧ 0 ≤ n ∧ n ≤ 255 ∧ KeepR r h h' ∧ Cur r h' x) := by
  obtain ⟨rfl, b, l, i, hh, hr, B, hb, hi, hi2⟩ := C
  have hrl := get_lt hr
  refine calls_of_hFun (m := 0) kd_ok mixed Try.func90 rfl (by kernel_rfl) rfl rfl (of_decide_eq_true rfl) ?_; unfold hFun; (conv => whnf)
  refine HField.at (by decide) ?_
  (conv => whnf)
  refine ⟨rfl, (At.here hr rfl).load ?_⟩
  (conv => whnf)
  refine HArith.some (fun n1 => ?_)
  (conv => whnf)
  refine HArith.some (fun n2 => ?_)
  (conv => whnf)
  refine HField.at (by decide) ?_
  (conv => whnf)
  refine ⟨rfl, HStore.cur hr (by simp) rfl ?_⟩
  have hr1 : (h.set r (.own ([b, ci i, ci hh].set (0 + 2) (ci n2))))[r]? = some (.own [b, ci i, ci n2]) := List.getElem?_set_self hrl
  have K1 : KeepR r h (h.set r (.own ([b, ci i, ci hh].set (0 + 2) (ci n2)))) := KeepR.set _
  generalize h.set r (.own ([b, ci i, ci hh].set (0 + 2) (ci n2))) = h1 at hr1 K1 ⊢
  have B1 := B.keep (fun q o n e g => by have := hb q o n e; omega) K1
  have hrl1 := get_lt hr1
  (conv => whnf)
  refine Or.inl (And.intro (show Region.lexB _ _ = true by kernel_rfl) ?_); (conv => whnf)
  refine HField.at (by decide) ?_
  (conv => whnf)
  refine ⟨rfl, (At.here hr1 rfl).load ?_⟩
  (conv => whnf)
  refine HShr.any (by decide) (fun n3 => ?_)
  (conv => whnf)
  refine HField.at (by decide) ?_
  (conv => whnf)
  refine ⟨rfl, (At.here hr1 rfl).load ?_⟩
  (conv => whnf)
  refine HShr.any (by decide) (fun n4 => ?_)
  (conv => whnf)
  refine HXor.any (fun n5 => ?_)
  (conv => whnf)
  refine HAnd.byte (fun n6 h6 h6' => ?_)
  (conv => whnf)
  refine Or.inl (And.intro (show Region.lexB _ _ = true by kernel_rfl) ?_); (conv => whnf)
  refine HField.at (by decide) ?_
  (conv => whnf)
  refine ⟨rfl, (At.here hr1 rfl).load ?_⟩
  (conv => whnf)
  refine HField.at (by decide) ?_
  (conv => whnf)
  refine ⟨rfl, (At.here hr1 rfl).load ?_⟩
  (conv => whnf)
  refine ⟨rfl, B1.len ?_⟩
  (conv => whnf)
  refine HIf.dec (fun hlt => ?_) (fun hge => ?_)
  · (conv => whnf)
    refine Or.inl (And.intro (show Region.lexB _ _ = true by kernel_rfl) ?_); (conv => whnf)
    refine HField.at (by decide) ?_
    (conv => whnf)
    refine ⟨rfl, (At.here hr1 rfl).load ?_⟩
    (conv => whnf)
    refine HField.at (by decide) ?_
    (conv => whnf)
    refine ⟨rfl, (At.here hr1 rfl).load ?_⟩
    (conv => whnf)
    refine ⟨rfl, B1.idx hi hlt (fun p n7 h7 h7' hp => ?_)⟩
    (conv => whnf)
    refine ⟨rfl, hp.load ?_⟩
    (conv => whnf)
    refine HConv.of ?_
    (conv => whnf)
    refine HArith.some (fun n8 => ?_)
    (conv => whnf)
    refine HAnd.byte (fun n9 h9 h9' => ?_)
    (conv => whnf)
    refine HField.at (by decide) ?_
    (conv => whnf)
    refine ⟨rfl, (At.here hr1 rfl).load ?_⟩
    (conv => whnf)
    refine HArith.fits (by omega) (by omega) ?_
    (conv => whnf)
    refine HField.at (by decide) ?_
    (conv => whnf)
    refine ⟨rfl, HStore.cur hr1 (by simp) rfl ?_⟩
    have hr2 : (h1.set r (.own ([b, ci i, ci n2].set (0 + 1) (ci (i + 1)))))[r]? = some (.own [b, ci (i + 1), ci n2]) := List.getElem?_set_self hrl1
    have K2 : KeepR r h1 (h1.set r (.own ([b, ci i, ci n2].set (0 + 1) (ci (i + 1))))) := KeepR.set _
    generalize h1.set r (.own ([b, ci i, ci n2].set (0 + 1) (ci (i + 1)))) = h2 at hr2 K2 ⊢
    have hBl := B.2.1
    (conv => whnf)
    exact ⟨n9, rfl, h9, h9', K1.trans K2 (fun q _ g => g), rfl, b, l, i + 1, n2, hr2, B1.keep (fun q o n e g => by have := hb q o n e; omega) K2, hb, by omega, by omega⟩
  · (conv => whnf)
    exact ⟨n6, rfl, h6, h6', K1, rfl, b, l, i, n2, hr1, B1, hb, hi, hi2⟩

theorem tmod_pos {a b : Int} (ha : 0 ≤ a) (hb : 0 < b) : 0 ≤ a.tmod b ∧ a.tmod b < b := ⟨Int.tmod_nonneg _ ha, Int.tmod_lt_of_pos _ hb⟩

theorem spec_l1Below (h : Heap) (r : Nat) (x : H0) (n : Int) (C : Cur r h x) (hn : n ≤ 9223372036854775807) : HCalls dm Try.prog 65 [.s x, I n] h (fun v h' => ∃ m : Int, v = I m ∧ 0 ≤ m ∧ (0 < n → m < n) ∧ m ≤ 9223372036854775807 ∧ KeepR r h h' ∧ Cur r h' x) := by
  refine calls_of_hFun (m := 0) kd_ok mixed Try.func65 rfl (by kernel_rfl) rfl rfl (of_decide_eq_true rfl) ?_; unfold hFun; (conv => whnf)
  refine HIf.dec (fun h0 => ?_) (fun h0 => ?_)
  · (conv => whnf)
    exact ⟨0, rfl, by omega, fun h => by omega, by omega, KeepN.refl _ _, C⟩
  · (conv => whnf)
    refine HIf.dec (fun h256 => ?_) (fun h256 => ?_)
    · (conv => whnf)
      refine (spec_l1Byte _ r _ C).mono ?_
      rintro v h1 ⟨b, rfl, b1, b2, K1, C1⟩
      have ht := tmod_pos b1 (show 0 < n by omega)
      (conv => whnf)
      refine HRem.of (by omega) ?_
      (conv => whnf)
      exact ⟨_, rfl, ht.1, fun _ => ht.2, by omega, K1, C1⟩
    · (conv => whnf)
      refine (spec_l1Byte _ r _ C).mono ?_
      rintro v h1 ⟨b, rfl, b1, b2, K1, C1⟩
      (conv => whnf)
      refine (spec_l1Byte _ r _ C1).mono ?_
      rintro v h2 ⟨d, rfl, d1, d2, K2, C2⟩
      (conv => whnf)
      refine (spec_l1Byte _ r _ C2).mono ?_
      rintro v h3 ⟨e, rfl, e1, e2, K3, C3⟩
      (conv => whnf)
      refine (spec_l1Byte _ r _ C3).mono ?_
      rintro v h4 ⟨f, rfl, f1, f2, K4, C4⟩
      (conv => whnf)
      refine HArith.fits (by omega) (by omega) ?_
      (conv => whnf)
      refine HArith.fits (by omega) (by omega) ?_
      (conv => whnf)
      refine HArith.fits (by omega) (by omega) ?_
      (conv => whnf)
      refine HArith.fits (by omega) (by omega) ?_
      (conv => whnf)
      refine HArith.fits (by omega) (by omega) ?_
      (conv => whnf)
      refine HArith.fits (by omega) (by omega) ?_
      have ht := tmod_pos (a := b * 16777216 + d * 65536 + e * 256 + f) (b := n) (by omega) (by omega)
      (conv => whnf)
      refine HRem.of (by omega) ?_
      (conv => whnf)
      exact ⟨_, rfl, ht.1, fun _ => ht.2, by omega, ((K1.trans K2 (fun q _ g => g)).trans K3 (fun q _ g => g)).trans K4 (fun q _ g => g), C4⟩

theorem spec_l1Once (h : Heap) (r : Nat) (x : H0) (n : Int) (C : Cur r h x) (hn : n ≤ 9223372036854775807) : HCalls dm Try.prog 64 [.s x, I n] h (fun v h' => ∃ b : Bool, v = B b ∧ KeepR r h h' ∧ Cur r h' x) := by
  refine calls_of_hFun (m := 0) kd_ok mixed Try.func64 rfl (by kernel_rfl) rfl rfl (of_decide_eq_true rfl) ?_; unfold hFun; (conv => whnf)
  refine (spec_l1Below _ r _ n C hn).mono ?_
  rintro v h1 ⟨m, rfl, m1, m2, m3, K1, C1⟩
  (conv => whnf)
  exact ⟨_, rfl, K1, C1⟩

theorem spec_l1PickInt (h : Heap) (r : Nat) (x y : H0) (l : List Int) (C : Cur r h x) (hy : IntsN (fun q => q = r) h y l) (h0 : 0 < l.length) (hl : l.length ≤ 1048576) :
    HCalls dm Try.prog 91 [.s x, .s y] h (fun v h' => ∃ n : Int, v = I n ∧ n ∈ l ∧ KeepR r h h' ∧ Cur r h' x) := by
  refine calls_of_hFun (m := 0) kd_ok mixed Try.func91 rfl (by kernel_rfl) rfl rfl (of_decide_eq_true rfl) ?_; unfold hFun; (conv => whnf)
  refine ⟨rfl, hy.1.len ?_⟩
  (conv => whnf)
  refine (spec_l1Below _ r _ _ C (by omega)).mono ?_
  rintro v h1 ⟨m, rfl, m1, m2, m3, K1, C1⟩
  have hm := m2 (by omega)
  have hy1 := (hy.keep K1 (fun q _ g => g)).1
  (conv => whnf)
  refine ⟨rfl, hy1.idx m1 hm (fun p hp => ?_)⟩
  (conv => whnf)
  refine ⟨rfl, hp.load ?_⟩
  (conv => whnf)
  refine ⟨_, rfl, ?_, K1, C1⟩
  have e : l.getD m.toNat 0 = l[m.toNat]'(by omega) := by simp [List.getD, show m.toNat < l.length by omega]
  rw [e]
  exact List.getElem_mem _

/-- A slice of texts. -/
def Strs (h : Heap) (x : H0) (l : List ByteArray) : Prop := Shows h (.s x) (l.map cst)

theorem spec_l1Pick (h : Heap) (r : Nat) (x y : H0) (l : List ByteArray) (C : Cur r h x) (hy : Strs h y l) (hn : ∀ q o n, y = .sl q o n → q ≠ r) (h0 : 0 < l.length) (hl : l.length ≤ 1048576) :
    HCalls dm Try.prog 114 [.s x, .s y] h (fun v h' => ∃ s, v = St s ∧ s ∈ l ∧ KeepR r h h' ∧ Cur r h' x) := by
  have hlm : (l.map cst).length = l.length := by simp
  refine calls_of_hFun (m := 0) kd_ok mixed Try.func114 rfl (by kernel_rfl) rfl rfl (of_decide_eq_true rfl) ?_; unfold hFun; (conv => whnf)
  refine ⟨rfl, Shows.len hy ?_⟩
  rw [hlm]
  (conv => whnf)
  refine (spec_l1Below _ r _ _ C (by omega)).mono ?_
  rintro v h1 ⟨m, rfl, m1, m2, m3, K1, C1⟩
  have hm := m2 (by omega)
  have hy1 : Shows h1 (.s y) (l.map cst) := Shows.keep hy hn K1
  (conv => whnf)
  refine ⟨rfl, Shows.idx hy1 m1 (by rw [hlm]; exact hm) (fun p hp => ?_)⟩
  have hml : m.toNat < l.length := by omega
  have e : (l.map cst).getD m.toNat (.pl (.int .i64 0)) = cst l[m.toNat] := by simp [List.getD, hml]
  rw [e] at hp
  (conv => whnf)
  refine ⟨rfl, hp.load ?_⟩
  (conv => whnf)
  exact ⟨_, rfl, List.getElem_mem _, K1, C1⟩

theorem spec_l1New (h : Heap) (y : H0) (l : List Int) (hy : Bytes h y l) : HCalls dm Try.prog 63 [.s y] h (fun v h' => ∃ x r, v = .s x ∧ Ext h h' ∧ h.length ≤ r ∧ Cur r h' x) := by
  have hl := hy.2.1
  refine calls_of_hFun (m := 0) kd_ok mixed Try.func63 rfl (by kernel_rfl) rfl rfl (of_decide_eq_true rfl) ?_; unfold hFun; (conv => whnf)
  refine ⟨rfl, hy.len ?_⟩
  (conv => whnf)
  refine HArith.fits (by omega) (by omega) ?_
  (conv => whnf)
  refine HLoop.intro [4, 3] [8, 9, 10, 11, 12, 13, 14, 15, 18, 19, 20, 21, 22, 23, 24, 25, 26, 27, 3, 16, 17, 4] (by kernel_rfl) (by kernel_rfl) (fun vs h' => ∃ (i : Nat) (n : Int), vs = [I i, I n] ∧ i ≤ l.length ∧ h' = h) (fun vs _ => l.length - natAt vs 0) ⟨0, _, rfl, by omega, rfl⟩ ?_
  rintro vs h' ⟨i, n, rfl, hi, hh⟩
  subst h'
  have fin : ∀ n : Int, Cur h.length (h ++ [.own [y, ci 0, ci n]]) (.ptr h.length 0) := fun n =>
    ⟨rfl, y, l, 0, n, get_new _ _, hy.ext (Ext.push _ _), fun q o m e => by
      have := hy.1
      rw [e] at this
      exact Shows.in_lt this, by omega, by omega⟩
  have hyone : y.one = true := by
    have := hy.1
    cases y with
    | pl v =>
      generalize l.map cby = L at this
      cases this
      rfl
    | sl r o n => rfl
    | ptr r o => cases this
    | sw k r o n => cases this
    | mp r => cases this
    | pa r n => cases this
  (conv => whnf)
  refine ⟨rfl, hy.len ?_⟩
  (conv => whnf)
  refine HIf.dec (fun hlt => ?_) (fun hge => ?_)
  · (conv => whnf)
    refine HIf.decT hlt ?_
    (conv => whnf)
    refine HIf.decT hlt ?_
    (conv => whnf)
    refine HIf.dec (fun h4 => ?_) (fun h4 => ?_)
    · (conv => whnf)
      refine HArith.some (fun n1 => ?_)
      (conv => whnf)
      refine ⟨rfl, hy.idx (by omega) hlt (fun p n7 h7 h7' hp => ?_)⟩
      (conv => whnf)
      refine ⟨rfl, hp.load ?_⟩
      (conv => whnf)
      refine HConv.of ?_
      (conv => whnf)
      refine HArith.some (fun n2 => ?_)
      (conv => whnf)
      refine HArith.some (fun n3 => ?_)
      (conv => whnf)
      refine HAnd.any (fun n4 => ?_)
      (conv => whnf)
      refine HArith.fits (by omega) (by omega) ?_
      (conv => whnf)
      exact ⟨⟨i + 1, n4, rfl, by omega, rfl⟩, by show l.length - (i + 1) < l.length - i; omega⟩
    · (conv => whnf)
      refine HRec.of (two_ok hyone rfl) ?_
      (conv => whnf)
      refine ⟨three_ok hyone rfl rfl, ?_⟩
      (conv => whnf)
      exact ⟨_, _, rfl, Ext.push _ _, Nat.le_refl _, fin n⟩
  · (conv => whnf)
    refine HIf.decF hge ?_
    (conv => whnf)
    refine HIf.decF hge ?_
    (conv => whnf)
    refine HIf.no ?_
    (conv => whnf)
    refine HRec.of (two_ok hyone rfl) ?_
    (conv => whnf)
    refine ⟨three_ok hyone rfl rfl, ?_⟩
    (conv => whnf)
    exact ⟨_, _, rfl, Ext.push _ _, Nat.le_refl _, fin n⟩

end Go.Proofs.Ytjgnnjegaedinaa.Hx

namespace Go.Proofs.Ytjgnnjegaedinaa.Hx
open Go.RowKit
variable {dm : Bool}

theorem takeL_snoc (L : List (List Int)) {k : Nat} (h : k < L.length) : L.take (k + 1) = L.take k ++ [L.getD k []] := by
  rw [List.take_succ_eq_append_getElem h]
  simp [List.getD, h]
theorem memL_snoc {L : List (List Int)} {a : List Int} {k : Nat} (hk : k < L.length) (h : a ∉ L.take k) (h2 : L.getD k [] ≠ a) : a ∉ L.take (k + 1) := by
  rw [takeL_snoc L hk]
  simp only [List.mem_append, List.mem_singleton, not_or]
  exact ⟨h, fun e => h2 e.symm⟩
theorem memL_at {L : List (List Int)} {a : List Int} {k : Nat} (hk : k < L.length) (h2 : L.getD k [] = a) : a ∈ L := by
  have : L[k] = a := by simpa [List.getD, hk] using h2
  rw [← this]
  exact List.getElem_mem hk

/-- The first simple root in a list. -/
def firstS (c : List (List Int)) (L : List (List Int)) : Option Nat := (List.range c.length).find? fun i => decide (simpleRoot c (i : Nat) ∈ L)
/-- The first k roots reflected, the simple one left out; nothing if one of them is not positive or comes twice. -/
def nextTo (c : List (List Int)) (i : Nat) (L : List (List Int)) : Nat → Option (List (List Int))
  | 0 => some []
  | k + 1 => match nextTo c i L k with
    | none => none
    | some R => if L.getD k [] = simpleRoot c (i : Nat) then some R else if rootSign (reflectRoot c (i : Nat) (L.getD k [])) = 1 ∧ reflectRoot c (i : Nat) (L.getD k []) ∉ R then some (R ++ [reflectRoot c (i : Nat) (L.getD k [])]) else none
def woi (c : List (List Int)) : Nat → List (List Int) → List Int → Option (List Int)
  | 0, _, _ => none
  | f + 1, L, o => if L.length = 0 then some o else match firstS c L with
    | none => none
    | some i => match nextTo c i L L.length with
      | none => none
      | some R => woi c f R (o ++ [(i : Int)])
def woiOk (c : List (List Int)) (L : List (List Int)) : Bool := isCartan c && (woi c 16 L []).isSome
def woiW (c : List (List Int)) (L : List (List Int)) : List Int := if isCartan c then (woi c 16 L []).getD [] else []

theorem firstS_at {c L : List (List Int)} {i : Nat} (hi : i < c.length) (h : simpleRoot c (i : Nat) ∈ L) (hb : ∀ t : Nat, t < i → simpleRoot c (t : Nat) ∉ L) : firstS c L = some i := by
  unfold firstS
  rw [List.find?_range_eq_some]
  exact ⟨decide_eq_true h, by simpa using hi, fun t ht => by simp [hb t ht]⟩
theorem firstS_none {c L : List (List Int)} (hb : ∀ t : Nat, t < c.length → simpleRoot c (t : Nat) ∉ L) : firstS c L = none := by
  unfold firstS
  rw [List.find?_range_eq_none]
  intro t ht
  simp [hb t ht]
theorem nextTo_skip {c L R : List (List Int)} {i k : Nat} (h : nextTo c i L k = some R) (h2 : L.getD k [] = simpleRoot c (i : Nat)) : nextTo c i L (k + 1) = some R := by
  rw [nextTo, h]
  simp only
  rw [if_pos h2]
theorem nextTo_add {c L R : List (List Int)} {i k : Nat} (h : nextTo c i L k = some R) (h2 : L.getD k [] ≠ simpleRoot c (i : Nat)) (h3 : rootSign (reflectRoot c (i : Nat) (L.getD k [])) = 1) (h4 : reflectRoot c (i : Nat) (L.getD k []) ∉ R) :
    nextTo c i L (k + 1) = some (R ++ [reflectRoot c (i : Nat) (L.getD k [])]) := by
  rw [nextTo, h]
  simp only
  rw [if_neg h2, if_pos ⟨h3, h4⟩]
theorem nextTo_bad {c L R : List (List Int)} {i k : Nat} (h : nextTo c i L k = some R) (h2 : L.getD k [] ≠ simpleRoot c (i : Nat)) (h3 : rootSign (reflectRoot c (i : Nat) (L.getD k [])) ≠ 1 ∨ reflectRoot c (i : Nat) (L.getD k []) ∈ R) : nextTo c i L (k + 1) = none := by
  rw [nextTo, h]
  simp only
  rw [if_neg h2, if_neg]
  rintro ⟨a, b⟩
  rcases h3 with h3 | h3
  · exact h3 a
  · exact b h3
theorem nextTo_none {c L : List (List Int)} {i k : Nat} (h : nextTo c i L k = none) : ∀ m, k ≤ m → nextTo c i L m = none := by
  intro m hm
  induction m with
  | zero =>
    have : k = 0 := by omega
    subst this
    exact h
  | succ m ih =>
    by_cases e : k = m + 1
    · subst e; exact h
    · rw [nextTo, ih (by omega)]
theorem woi_done {c L : List (List Int)} {f : Nat} {o : List Int} (h : L.length = 0) : woi c (f + 1) L o = some o := by
  rw [woi, if_pos h]
theorem woi_nofirst {c L : List (List Int)} {f : Nat} {o : List Int} (h : L.length ≠ 0) (h2 : firstS c L = none) : woi c (f + 1) L o = none := by
  rw [woi, if_neg h, h2]
theorem woi_nonext {c L : List (List Int)} {f i : Nat} {o : List Int} (h : L.length ≠ 0) (h2 : firstS c L = some i) (h3 : nextTo c i L L.length = none) : woi c (f + 1) L o = none := by
  rw [woi, if_neg h, h2]
  simp only
  rw [h3]
theorem woi_next {c L R : List (List Int)} {f i : Nat} {o : List Int} (h : L.length ≠ 0) (h2 : firstS c L = some i) (h3 : nextTo c i L L.length = some R) : woi c (f + 1) L o = woi c f R (o ++ [(i : Int)]) := by
  rw [woi, if_neg h, h2]
  simp only
  rw [h3]
theorem woi_one {c L : List (List Int)} {o : List Int} (h : L.length ≠ 0) : woi c 1 L o = none := by
  cases h2 : firstS c L with
  | none => exact woi_nofirst h h2
  | some i =>
    cases h3 : nextTo c i L L.length with
    | none => exact woi_nonext h h2 h3
    | some R => rw [woi_next h h2 h3, woi]
theorem woi_off {c L : List (List Int)} (h : isCartan c = false) : woiOk c L = false ∧ woiW c L = [] := by simp [woiOk, woiW, h]
theorem woi_some {c L : List (List Int)} {o : List Int} (h : isCartan c = true) (h2 : woi c 16 L [] = some o) : woiOk c L = true ∧ woiW c L = o := by simp [woiOk, woiW, h, h2]
theorem woi_none {c L : List (List Int)} (h2 : woi c 16 L [] = none) : woiOk c L = false ∧ woiW c L = [] := by
  refine ⟨by simp [woiOk, h2], ?_⟩
  unfold woiW
  rw [h2]
  split <;> rfl
theorem woi_len {c : List (List Int)} : ∀ (f : Nat) (L : List (List Int)) (o y : List Int), woi c f L o = some y → y.length ≤ o.length + f
  | 0, _, _, _, h => by rw [woi] at h; cases h
  | f + 1, L, o, y, h => by
    rw [woi] at h
    split at h
    · injection h with h
      subst h
      omega
    · split at h
      · cases h
      · split at h
        · cases h
        · have := woi_len f _ _ y h
          simp only [List.length_append, List.length_cons, List.length_nil] at this
          omega
theorem woiW_len (c L : List (List Int)) : (woiW c L).length ≤ 16 := by
  unfold woiW
  split
  · cases h : woi c 16 L [] with
    | none => simp
    | some y =>
      have := woi_len 16 L [] y h
      simpa using this
  · simp
theorem rootSign_cases (a : List Int) : rootSign a = 0 ∨ rootSign a = 1 ∨ rootSign a = -1 := by
  unfold rootSign
  split
  · exact Or.inl rfl
  · split
    · exact Or.inr (Or.inl rfl)
    · exact Or.inr (Or.inr rfl)
theorem letter_root {c : List (List Int)} (h : isCartan c = true) {i : Nat} (hi : i < c.length) : simpleRoot c (i : Nat) = (List.replicate c.length (0 : Int)).set (i : Int).toNat 1 :=
  simpleRoot_eq h (by simp [isPoint, inRange]; omega)
theorem tot_app (L : List (List Int)) (l : List Int) : tot (L ++ [l]) = tot L + l.length := by
  rw [← flat_len, ← flat_len, List.flatten_append]
  simp

/-- A slice of slices that is only read: it lay there before, or lies in rows of its own, not row r. -/
def RdM (h0 : Heap) (r : Nat) (h : Heap) (y : H0) (L : List (List Int)) : Prop := Rows h0 y L ∨ ∃ b e, e ≤ h.length ∧ (r < b ∨ e ≤ r) ∧ OwnM b e h y L
theorem OwnM.but {b e r : Nat} {h h' : Heap} {x : H0} {L : List (List Int)} (H : OwnM b e h x L) (k : But r h h') (o : r < b ∨ e ≤ r) : OwnM b e h' x L := by
  obtain ⟨q, ρ, g1, g2, g3, g4, m⟩ := H
  refine ⟨q, ρ, g1, g2, g3, g4, m.move ?_ (fun i hi => ?_)⟩
  · obtain ⟨cs, h1, _⟩ := m.outer
    exact k.2 q (get_lt h1) (by omega)
  · obtain ⟨t, h1⟩ := m.inner i hi
    have := g4 i hi
    exact k.2 _ (get_lt h1) (by omega)
theorem RdM.rows {h0 h : Heap} {r : Nat} {y : H0} {L : List (List Int)} (H : RdM h0 r h y L) (E : Ext h0 h) : Rows h y L := by
  rcases H with H | ⟨b, e, _, _, O⟩
  · exact H.ext E
  · exact O.rows
theorem RdM.ext {h0 h h' : Heap} {r : Nat} {y : H0} {L : List (List Int)} (H : RdM h0 r h y L) (E : Ext h h') : RdM h0 r h' y L := by
  rcases H with H | ⟨b, e, g1, g2, O⟩
  · exact Or.inl H
  · have := E.1
    exact Or.inr ⟨b, e, by omega, g2, O.ext E⟩
theorem RdM.but {h0 h h' : Heap} {r r' : Nat} {y : H0} {L : List (List Int)} (H : RdM h0 r h y L) (B : But r h h') (hr : h.length ≤ r') : RdM h0 r' h' y L := by
  rcases H with H | ⟨b, e, g1, g2, O⟩
  · exact Or.inl H
  · have := B.1
    exact Or.inr ⟨b, e, by omega, Or.inr (by omega), O.but B g2⟩


theorem spec_l7In (h : Heap) (x0 : H0) (L : List (List Int)) (x1 : H0) (w : List Int) (hx0 : Rows h x0 L) (hx1 : Ints h x1 w) (hL : L.length ≤ 1048576 ∧ tot L ≤ 1048576) :
    HCalls dm Try.prog 57 [.s x0, .s x1] h (fun r h' => r = B (decide (w ∈ L)) ∧ h' = h) := by
  refine calls_of_hFun (m := 0) kd_ok mixed Try.func57 rfl (by kernel_rfl) rfl rfl (of_decide_eq_true rfl) ?_; unfold hFun; (conv => whnf)
  refine HLoop.intro [5] [6, 7, 8, 9, 12, 13, 14, 15, 16, 17, 4, 10, 11, 5] (by kernel_rfl) (by kernel_rfl) (fun vs h' => ∃ i : Nat, vs = [I i] ∧ h' = h ∧ i ≤ L.length ∧ w ∉ L.take i) (fun vs _ => L.length - natAt vs 0) ⟨0, rfl, rfl, by omega, by simp⟩ ?_
  rintro vs h' ⟨i, rfl, hh, hi, hb⟩
  subst h'
  (conv => whnf)
  refine ⟨rfl, hx0.len ?_⟩
  (conv => whnf)
  refine HIf.dec (fun hlt => ?_) (fun hge => ?_)
  · have hle := len_le_tot (L := L) (i := i) (by omega)
    (conv => whnf)
    refine ⟨rfl, Rows.idxN hx0 (by omega) (fun p z hp hz => ?_)⟩
    (conv => whnf)
    refine ⟨rfl, hp.load ?_⟩
    (conv => whnf)
    refine (spec_EqualWords _ _ _ _ w hz hx1 (by omega)).mono ?_
    rintro v h2 ⟨rfl, hh⟩
    subst h2
    (conv => whnf)
    refine HIf.dec (fun he => ?_) (fun hne => ?_)
    · (conv => whnf)
      exact ⟨bEq (decide_eq_true (memL_at (by omega) he)), rfl⟩
    · (conv => whnf)
      refine HArith.fits (by omega) (by omega) ?_
      (conv => whnf)
      exact ⟨⟨i + 1, rfl, rfl, by omega, memL_snoc (by omega) hb hne⟩, by show L.length - (i + 1) < L.length - i; omega⟩
  · have e : i = L.length := by omega
    subst e
    rw [List.take_length] at hb
    (conv => whnf)
    exact ⟨bEq (decide_eq_false hb), rfl⟩

theorem spec_l2Copy (h : Heap) (x0 : H0) (L : List (List Int)) (hx0 : Rows h x0 L) (hL : L.length ≤ 1048576 ∧ tot L ≤ 1048576) :
    HCalls dm Try.prog 118 [.s x0] h (fun r h' => ∃ y, r = .s y ∧ Ext h h' ∧ OwnM h.length h'.length h' y L) := by
  refine calls_of_hFun (m := 0) kd_ok mixed Try.func118 rfl (by kernel_rfl) rfl rfl (of_decide_eq_true rfl) ?_; unfold hFun; (conv => whnf)
  refine HLit.empty ?_
  (conv => whnf)
  refine HLoop.intro [4, 3] [6, 7, 8, 9, 12, 13, 14, 15, 16, 17, 18, 19, 20, 3, 10, 11, 4] (by kernel_rfl) (by kernel_rfl) (fun vs h' => ∃ (k : Nat) (z : H0), vs = [I k, .s z] ∧ k ≤ L.length ∧ Ext h h' ∧ OwnM h.length h'.length h' z (L.take k)) (fun vs _ => L.length - natAt vs 0) ⟨0, _, rfl, by omega, Ext.push _ _, OwnM.none h⟩ ?_
  rintro vs h' ⟨k, z, rfl, hk, E, O⟩
  have hx0 := hx0.ext E
  (conv => whnf)
  refine ⟨rfl, hx0.len ?_⟩
  (conv => whnf)
  refine HIf.dec (fun hlt => ?_) (fun hge => ?_)
  · have hle := len_le_tot (L := L) (i := k) (by omega)
    have E1 := Ext.push h' [Row.own []]
    (conv => whnf)
    refine HLit.empty ?_
    (conv => whnf)
    refine ⟨rfl, Rows.idxN (hx0.ext E1) (by omega) (fun p y hp hy => ?_)⟩
    (conv => whnf)
    refine ⟨rfl, hp.load ?_⟩
    (conv => whnf)
    refine ⟨rfl, rfl, HApp.moreR (OwnR.push h' []) hy (by rw [List.length_nil]; omega) (fun h2 r2 y2 B2 hr2 O2 => ?_)⟩
    have E2 := E1.but B2 (Nat.le_refl _)
    have hE1 := E1.1
    rw [List.nil_append] at O2
    (conv => whnf)
    refine HLit.row (O2.own (Nat.zero_le _)).one ?_
    (conv => whnf)
    refine ⟨rfl, rfl, HApp.snocM E O E2 (O2.own (by omega)) (by simp; omega) (fun h4 y4 E4 O4 => ?_)⟩
    rw [← takeL_snoc L (by omega)] at O4
    (conv => whnf)
    refine HArith.fits (by omega) (by omega) ?_
    (conv => whnf)
    exact ⟨⟨k + 1, y4, rfl, by omega, E4, O4⟩, by show L.length - (k + 1) < L.length - k; omega⟩
  · have e : k = L.length := by omega
    subst e
    rw [List.take_length] at O
    (conv => whnf)
    exact ⟨_, rfl, E, O⟩

end Go.Proofs.Ytjgnnjegaedinaa.Hx
