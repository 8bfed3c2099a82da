/-
  The reference's draws of words over a matrix.
  The reference's draws of arguments: a matrix and a word, a matrix and two words.
  From the model's readings of arguments to rows: a slice of ints that came in; and the end of a law: true, memory below as it was.
  From the model's readings of arguments to rows: a slice of bytes that came in.
  Contracts of exchange places, replayed and repeated deletions, of the program and of the reference.
  Contracts of replayed deletions of the reference, and of repeated deletions, of the program and of the reference.
  The reference's draws for the laws of exchanges; the laws' own small functions.
  A long function walked in parts: between two parts only some slots are handed on, and what is said of them.
-/
import Derived.Test.YtjgnnjegaedinaaZ19
import Derived.ProofKit
namespace Go.Proofs.Ytjgnnjegaedinaa.Hx
open Go.RowKit
variable {dm : Bool}

/-- A matrix drawn: one to five rows of at most four numbers. -/
structure Small (L : List (List Int)) : Prop where
  pos : 1 ≤ L.length
  le : L.length ≤ 5
  row : ∀ k, k < L.length → (L.getD k []).length ≤ 4

theorem Shape.small {L : List (List Int)} (h : Shape L) : Small L := ⟨h.pos, by have := h.le; omega, fun k hk => by rw [h.row k hk]; exact h.le⟩
theorem Small.tot {L : List (List Int)} (h : Small L) : tot L ≤ 20 := by
  have h1 := tot_rows (n := 4) (L := L) h.row
  have := h.le
  omega
theorem Small.set {L : List (List Int)} (h : Small L) {i : Nat} {l : List Int} (hl : l.length ≤ 4) : Small (L.set i l) := by
  refine ⟨by simpa using h.pos, by simpa using h.le, fun k hk => ?_⟩
  have hk' : k < L.length := by simpa using hk
  by_cases e : k = i
  · subst e
    have : (L.set k l).getD k [] = l := by simp [List.getD, hk']
    rw [this]
    exact hl
  · have : (L.set i l).getD k [] = L.getD k [] := by simp [List.getD, List.getElem?_set_ne (Ne.symm e)]
    rw [this]
    exact h.row k hk'
theorem Small.snoc {L : List (List Int)} (h : Shape L) {l : List Int} (hl : l.length ≤ 4) : Small (L ++ [l]) := by
  refine ⟨by simp, by have := h.le; simp; omega, fun k hk => ?_⟩
  have h4 := h.le
  by_cases e : k < L.length
  · have : (L ++ [l]).getD k [] = L.getD k [] := by simp only [List.getD]; rw [List.getElem?_append_left e]
    rw [this, h.row k e]
    exact h4
  · have e2 : k = L.length := by simp at hk; omega
    subst e2
    have : (L ++ [l]).getD L.length [] = l := by simp [List.getD]
    rw [this]
    exact hl
theorem set_getD (L : List (List Int)) (i : Nat) : L.set i (L.getD i []) = L := by
  by_cases h : i < L.length
  · have : L.getD i [] = L[i] := by simp [List.getD, h]
    rw [this, List.set_getElem_self]
  · exact List.set_eq_of_length_le (by omega)

theorem OwnR.dropF {r : Nat} {h : Heap} {x : H0} {l : List Int} (O : OwnR r h x l) (a : Nat) (ha : a ≤ l.length) {K : HV → Prop} (hK : Ints h (.sl r a (l.length - a)) (l.drop a) → K (.s (.sl r a (l.length - a)))) : HSlice h (.s x) (some (I a)) none K := by
  obtain ⟨t, rfl, hr⟩ := O
  refine ⟨l.length, a, l.length, rfl, Or.inr ⟨.i64, rfl⟩, Or.inl ⟨rfl, rfl⟩, ha, Or.inl (Nat.le_refl _), ?_⟩
  show K (.s (.sl r (0 + a) (l.length - a)))
  rw [Nat.zero_add]
  apply hK
  have := Shows.own r a (l.length - a) _ hr (by simp; omega)
  have e : ((l.map ci ++ t).drop a).take (l.length - a) = (l.drop a).map ci := by
    rw [List.drop_append_of_le_length (by simpa using ha), List.take_append_of_le_length (by simp), List.take_of_length_le (by simp), List.map_drop]
  rw [e] at this
  exact this

theorem Ext.take (h : Heap) (n : Nat) : Ext (h.take n) h := ⟨by simp; omega, fun r hr => by simp at hr; rw [List.getElem?_take_of_lt (by omega)]⟩


set_option maxRecDepth 10000 in
theorem spec_l2Any (h : Heap) (r : Nat) (x : H0) (C : Cur r h x) : HCalls dm Try.prog 77 [.s x] h (fun v h' => ∃ y L, v = .s y ∧ KeepR r h h' ∧ Cur r h' x ∧ RowsN (fun q => q < h.length) h' y L ∧ Small L) := by
  have hr := C.lt
  refine calls_of_hFun (m := 0) kd_ok mixed Try.func77 rfl (by kernel_rfl) rfl rfl (of_decide_eq_true rfl) ?_; unfold hFun; (conv => whnf)
  refine (spec_l2Drawn _ r _ C).mono ?_
  rintro v h1 ⟨y, L, rfl, K1, C1, O1, S⟩
  have p1 := S.pos
  have p2 := S.le
  (conv => whnf)
  refine (spec_l1Once _ r _ 12 C1 (by omega)).mono ?_
  rintro v h2 ⟨b, rfl, K2, C2⟩
  have O2 := (O1.keep K2 (fun q g1 g2 e => by omega)).widen K2.1
  replace K2 := K1.then K2
  (conv => whnf)
  refine HIf.split (fun hb => ?_) (fun hb => ?_)
  rotate_left
  · (conv => whnf)
    exact ⟨_, _, rfl, K2, C2, O2.rowsN (fun q g1 g2 e => by omega), S.small⟩
  (conv => whnf)
  refine ⟨rfl, O2.rows.len ?_⟩
  (conv => whnf)
  refine (spec_l1Below _ r _ _ C2 (by omega)).mono ?_
  rintro v h3 ⟨m, rfl, m0, m1, _, K3, C3⟩
  obtain ⟨i, rfl⟩ : ∃ i : Nat, m = i := ⟨m.toNat, by omega⟩
  have O3 := (O2.keep K3 (fun q g1 g2 e => by omega)).widen K3.1
  replace K3 := K2.then K3
  have hi : i < L.length := by have := m1 (by omega); omega
  have hrow := S.row i hi
  obtain ⟨r0, ρ, rfl, g1, g2, g3, M3⟩ := O3
  (conv => whnf)
  refine HLit.empty ?_
  have E4 := Ext.push h3 [Row.own []]
  have OE : OwnR h3.length (h3 ++ [Row.own []]) (.sl h3.length 0 0) [] := OwnR.push h3 []
  have n4 : (h3 ++ [Row.own []]).length = h3.length + 1 := by simp
  have n3 := K3.1
  generalize h3 ++ [Row.own []] = h4 at E4 OE n4 ⊢
  have M4 := M3.ext E4
  have C4 := C3.ext E4
  have K4 := K3.ext E4
  (conv => whnf)
  refine ⟨rfl, M4.ptr hi ?_⟩
  (conv => whnf)
  refine ⟨rfl, (M4.at hi).load ?_⟩
  (conv => whnf)
  refine ⟨rfl, rfl, HApp.moreR OE (M4.inner' hi).ints (by rw [List.length_nil]; omega) (fun h5 r5 y5 B5 hr5 O5 => ?_)⟩
  rw [List.nil_append] at O5
  have M5 := M4.keep (F := fun q => q = h3.length) B5 (by omega) (fun k hk => by have := g3 k hk; omega)
  have C5 := C4.keep (F := fun q => q = h3.length) B5 (fun q e => by omega)
  have K5 : KeepR r h h5 := K4.trans (G := fun q => q = h3.length) B5 (fun q hq e => by omega)
  have n5 := B5.1
  (conv => whnf)
  refine ⟨rfl, M5.ptr hi ?_⟩
  (conv => whnf)
  refine ⟨rfl, M5.putRow hi O5 (by omega) (fun k hk => by have := g3 k hk; omega) (fun h6 n6 k6 M6 => ?_)⟩
  rw [set_getD] at M6
  have C6 := C5.keep k6 (fun q e => by omega)
  have K6 : KeepR r h h6 := K5.trans k6 (fun q hq e => by omega)
  have g6 : ∀ k, k < L.length → h.length ≤ (fun k => if k = i then r5 else ρ k) k := fun k hk => by
    show h.length ≤ (if k = i then r5 else ρ k)
    have := g3 k hk
    split <;> omega
  generalize (fun k => if k = i then r5 else ρ k) = ρ' at M6 g6
  clear M5 M4 M3 C5 C4 C3 K5 K4
  (conv => whnf)
  refine (spec_l1Below _ r _ 3 C6 (by omega)).mono ?_
  rintro v h7 ⟨m, rfl, m2, m3, _, K7, C7⟩
  have M7 := M6.keep K7 (by omega) (fun k hk => by have := g6 k hk; omega)
  replace K7 := K6.then K7
  have n7 := K7.1
  (conv => whnf)
  refine HIf.beq (fun h0 => ?_) (fun h0 => ?_)
  · (conv => whnf)
    refine Or.inr (Or.inr (Or.inr (Exists.intro [0, 1, 2, 4] (Exists.intro (Tr.two 3 (Tr.one 5 (Tr.one 6 (Tr.one 7 (Tr.one 8 Tr.done)))) 5 (Tr.two 3 (Tr.one 6 (Tr.one 7 (Tr.one 8 Tr.done))) 6 (Tr.one 3 (Tr.one 7 (Tr.one 8 Tr.done))))) (And.intro (show treeAll _ _ _ = true by kernel_rfl) ?_)))))
    (conv => whnf)
    refine ⟨rfl, M7.ptr hi ?_⟩
    (conv => whnf)
    have E8 := Ext.push h7 [Row.own (List.map ci [-4, 1, 0, 2])]
    have n8 : (h7 ++ [Row.own (List.map ci [-4, 1, 0, 2])]).length = h7.length + 1 := by simp
    have IN : IntsN (fun q => q = r) (h7 ++ [Row.own (List.map ci [-4, 1, 0, 2])]) (.sl h7.length 0 4) [-4, 1, 0, 2] := ⟨(OwnR.push h7 [-4, 1, 0, 2]).ints, fun q o n e g => by cases e; have g : h7.length = r := g; omega⟩
    have M8 := M7.ext E8
    have C8 := C7.ext E8
    have K8 := K7.ext E8
    refine ⟨?_, ?_⟩
    · refine ⟨rfl, (M7.at hi).load ?_⟩
      (conv => whnf)
      refine HLit.of (xs := List.map ci [-4, 1, 0, 2]) rfl (ci_one _) (by decide) ?_
      (conv => whnf)
      refine (spec_l1PickInt _ r _ _ _ C8 IN (by decide) (by decide)).mono ?_
      rintro v h9 ⟨v9, rfl, _, K9, C9⟩
      have M9 := M8.keep K9 (by omega) (fun k hk => by have := g6 k hk; omega)
      replace K9 := K8.then K9
      (conv => whnf)
      refine ⟨rfl, (M9.inner' hi).idx (by omega) (by omega) ?_⟩
      (conv => whnf)
      refine ⟨rfl, M9.put hi (by omega) (fun h10 n10 k10 M10 => ?_)⟩
      have gi := g6 i hi
      have R10 := (M10.own g1 (fun k hk => g6 k (by rw [setM_length] at hk; exact hk))).rowsN (F := fun q => q < h.length) (fun q g1 g2 e => by omega)
      rw [setM_length] at R10
      (conv => whnf)
      exact ⟨_, _, rfl, K9.trans k10 (fun q hq e => by omega), C9.keep k10 (fun q e => by omega), R10, S.small.set (by rw [List.length_set]; omega)⟩
    · refine HLit.of (xs := List.map ci [-4, 1, 0, 2]) rfl (ci_one _) (by decide) ?_
      (conv => whnf)
      refine ⟨?_, ?_⟩
      · refine ⟨rfl, (M8.at hi).load ?_⟩
        (conv => whnf)
        refine (spec_l1PickInt _ r _ _ _ C8 IN (by decide) (by decide)).mono ?_
        rintro v h9 ⟨v9, rfl, _, K9, C9⟩
        have M9 := M8.keep K9 (by omega) (fun k hk => by have := g6 k hk; omega)
        replace K9 := K8.then K9
        (conv => whnf)
        refine ⟨rfl, (M9.inner' hi).idx (by omega) (by omega) ?_⟩
        (conv => whnf)
        refine ⟨rfl, M9.put hi (by omega) (fun h10 n10 k10 M10 => ?_)⟩
        have gi := g6 i hi
        have R10 := (M10.own g1 (fun k hk => g6 k (by rw [setM_length] at hk; exact hk))).rowsN (F := fun q => q < h.length) (fun q g1 g2 e => by omega)
        rw [setM_length] at R10
        (conv => whnf)
        exact ⟨_, _, rfl, K9.trans k10 (fun q hq e => by omega), C9.keep k10 (fun q e => by omega), R10, S.small.set (by rw [List.length_set]; omega)⟩
      · refine (spec_l1PickInt _ r _ _ _ C8 IN (by decide) (by decide)).mono ?_
        rintro v h9 ⟨v9, rfl, _, K9, C9⟩
        have M9 := M8.keep K9 (by omega) (fun k hk => by have := g6 k hk; omega)
        replace K9 := K8.then K9
        (conv => whnf)
        refine ⟨rfl, (M9.at hi).load ?_⟩
        (conv => whnf)
        refine ⟨rfl, (M9.inner' hi).idx (by omega) (by omega) ?_⟩
        (conv => whnf)
        refine ⟨rfl, M9.put hi (by omega) (fun h10 n10 k10 M10 => ?_)⟩
        have gi := g6 i hi
        have R10 := (M10.own g1 (fun k hk => g6 k (by rw [setM_length] at hk; exact hk))).rowsN (F := fun q => q < h.length) (fun q g1 g2 e => by omega)
        rw [setM_length] at R10
        (conv => whnf)
        exact ⟨_, _, rfl, K9.trans k10 (fun q hq e => by omega), C9.keep k10 (fun q e => by omega), R10, S.small.set (by rw [List.length_set]; omega)⟩
  · (conv => whnf)
    refine HIf.beq (fun h1' => ?_) (fun h1' => ?_)
    · (conv => whnf)
      refine ⟨rfl, M7.ptr hi ?_⟩
      (conv => whnf)
      refine ⟨rfl, (M7.at hi).load ?_⟩
      (conv => whnf)
      refine ⟨rfl, (M7.inner' hi).dropF 1 (by omega) (fun hd => ?_)⟩
      (conv => whnf)
      refine ⟨rfl, M7.ptr hi ?_⟩
      (conv => whnf)
      refine ⟨rfl, M7.putAny hi hd (M7.ne i hi) (F := fun q => q < h.length) (fun e => by have e : r0 < h.length := e; omega) (fun e => by have e : ρ' i < h.length := e; have := g6 i hi; omega) (fun k hk e => by have e : ρ' k < h.length := e; have := g6 k hk; omega) (fun h8 n8 k8 R8 => ?_)⟩
      (conv => whnf)
      exact ⟨_, _, rfl, K7.trans k8 (fun q hq e => by omega), C7.keep k8 (fun q e => by omega), R8, S.small.set (by rw [List.length_drop]; omega)⟩
    · (conv => whnf)
      refine HIf.beq (fun h2' => ?_) (fun h2' => ?_)
      · (conv => whnf)
        refine HLit.of (xs := List.map ci [2]) rfl (ci_one _) (by decide) ?_
        have E8 := Ext.push h7 [Row.own (List.map ci [2])]
        have n8 : (h7 ++ [Row.own (List.map ci [2])]).length = h7.length + 1 := by simp
        have O8 := OwnR.push h7 [2]
        generalize h7 ++ [Row.own (List.map ci [2])] = h8 at E8 n8 O8 ⊢
        have hbl : (h7.take h.length).length = h.length := by simp; omega
        have OM : OwnM (h7.take h.length).length h7.length h7 (.sl r0 0 L.length) L := by
          rw [hbl]
          exact M7.own g1 g6
        (conv => whnf)
        refine HLit.row rfl ?_
        (conv => whnf)
        refine ⟨rfl, rfl, HApp.snocM (Ext.take h7 h.length) OM E8 (O8.own (by omega)) (by omega) (fun h9 y9 E9 O9 => ?_)⟩
        rw [hbl] at O9
        have low : ∀ q, q < h.length → h9[q]? = h7[q]? := fun q hq => by
          rw [E9.2 q (by omega), List.getElem?_take_of_lt hq]
        have n9 := E9.1
        rw [hbl] at n9
        have C9 := C7.low (h' := h9) (fun q hq => low q (by omega))
        (conv => whnf)
        exact ⟨_, _, rfl, ⟨n9, fun q hq hn => by rw [low q hq]; exact K7.2 q hq hn⟩, C9, O9.rowsN (fun q g1 g2 e => by omega), Small.snoc S (by simp)⟩
      · (conv => whnf)
        exact ⟨_, _, rfl, K7, C7, (M7.own g1 g6).rowsN (fun q g1 g2 e => by omega), S.small⟩

theorem HMax.len {a : Nat} {K : HV → Prop} (hK : ∀ n : Int, 1 ≤ n → n ≤ 1 + a → K (I n)) : HMax (I 1) (I a) K := by
  refine HMax.of ?_
  split
  · exact hK _ (by omega) (by omega)
  · exact hK _ (by omega) (by omega)

theorem spec_l5Word (h : Heap) (r : Nat) (x y : H0) (L : List (List Int)) (most : Nat) (C : Cur r h x) (hy : RowsN (fun q => q = r) h y L) (hL : L.length ≤ 1048576) (hm : most ≤ 1000) :
    HCalls dm Try.prog 66 [.s x, .s y, I most] h (fun v h' => ∃ z w q, v = .s z ∧ KeepR r h h' ∧ Cur r h' x ∧ h.length ≤ q ∧ OwnR q h' z w ∧ w.length ≤ most) := by
  have hr := C.lt
  refine calls_of_hFun (m := 0) kd_ok mixed Try.func66 rfl (by kernel_rfl) rfl rfl (of_decide_eq_true rfl) ?_; unfold hFun; (conv => whnf)
  refine HLit.empty ?_
  have E0 := Ext.push h [Row.own []]
  have O0 : OwnR h.length (h ++ [Row.own []]) (.sl h.length 0 0) [] := OwnR.push h []
  generalize h ++ [Row.own []] = h0 at E0 O0 ⊢
  have n0 := E0.1
  (conv => whnf)
  refine HArith.fits (by omega) (by omega) ?_
  (conv => whnf)
  refine (spec_l1Below _ r _ _ (C.ext E0) (by omega)).mono ?_
  rintro v h1 ⟨m, rfl, m0, m1, _, K1, C1⟩
  have m2 := m1 (by omega)
  have O1 := O0.keep K1 (by omega)
  have K1 : KeepR r h h1 := KeepR.then (KeepN.ofExt E0) K1
  (conv => whnf)
  refine HLoop.intro [8, 7] [14, 15, 18, 19, 20, 21, 22, 23, 24, 25, 7, 16, 17, 8] (by kernel_rfl) (by kernel_rfl) (fun vs h' => ∃ (n : Nat) (z : H0) (w : List Int) (q : Nat), vs = [I n, .s z] ∧ KeepR r h h' ∧ Cur r h' x ∧ h.length ≤ q ∧ OwnR q h' z w ∧ w.length + n ≤ most) (fun vs _ => natAt vs 0) ⟨m.toNat, _, [], h.length, by rw [Int.toNat_of_nonneg m0]; rfl, K1, C1, Nat.le_refl _, O1, by simp; omega⟩ ?_
  rintro vs h' ⟨n, z, w, q, rfl, K, C, hq, O, hn⟩
  have hy' := (hy.keep K (fun _ _ g => g)).rows
  have hkl := K.1
  (conv => whnf)
  refine HIf.dec (fun hgt => ?_) (fun hle => ?_)
  · (conv => whnf)
    refine ⟨rfl, hy'.len ?_⟩
    (conv => whnf)
    refine HMax.len (fun a ha1 ha2 => ?_)
    (conv => whnf)
    refine (spec_l1Below _ r _ a C (by omega)).mono ?_
    rintro v h2 ⟨b, rfl, b0, b1, _, K2, C2⟩
    have O2 := O.keep K2 (by omega)
    have K2 := K.then K2
    have n2 := K2.1
    (conv => whnf)
    refine HLit.of (xs := [ci b]) rfl (by simp [H0.one, Value.oneCell']) (by omega) ?_
    (conv => whnf)
    refine ⟨rfl, rfl, HApp.litR [b] O2 (by simp; omega) (fun h3 r3 y3 B3 hr3 O3 => ?_)⟩
    have K3 : KeepR r h h3 := K2.trans (G := fun p => p = q) B3 (fun p hp e => by omega)
    have C3 := C2.keep (F := fun p => p = q) B3 (fun p e => by omega)
    (conv => whnf)
    refine HArith.fits (by omega) (by omega) ?_
    (conv => whnf)
    exact ⟨⟨n - 1, y3, w ++ [b], r3, by rw [show ((n - 1 : Nat) : Int) = (n : Int) - 1 by omega]; rfl, K3, C3, by omega, O3, by simp; omega⟩, by show ((n : Int) - 1).toNat < n; omega⟩
  · (conv => whnf)
    exact ⟨_, _, _, rfl, K, C, hq, O, by omega⟩

end Go.Proofs.Ytjgnnjegaedinaa.Hx

namespace Go.Proofs.Ytjgnnjegaedinaa.Hx
open Go.RowKit
variable {dm : Bool}

theorem KeepN.weaken {F G : Nat → Prop} {h h' : Heap} (k : KeepN F h h') (w : ∀ q, F q → G q) : KeepN G h h' := ⟨k.1, fun q hq hn => k.2 q hq (fun f => hn (w q f))⟩
theorem RowsN.more {F G : Nat → Prop} {h : Heap} {x : H0} {L : List (List Int)} (H : RowsN F h x L) (hg : ∀ q, q < h.length → G q → F q) : RowsN G h x L := H.keep (KeepN.refl F h) hg
theorem Small.sz {L : List (List Int)} (h : Small L) : L.length ≤ 1048576 ∧ Hx.tot L ≤ 1048576 := ⟨by have := h.le; omega, by have := h.tot; omega⟩


theorem spec_l5Any (h : Heap) (y : H0) (l : List Int) (hy : Bytes h y l) : HCalls dm Try.prog 67 [.s y] h (fun v h' => ∃ x L z w, v = .tup [x, z] ∧ Ext h h' ∧ RowsN (fun q => q < h.length) h' x L ∧ IntsN (fun q => q < h.length) h' z w ∧ Small L ∧ w.length ≤ 10) := by
  refine calls_of_hFun (m := 0) kd_ok mixed Try.func67 rfl (by kernel_rfl) rfl rfl (of_decide_eq_true rfl) ?_; unfold hFun; (conv => whnf)
  refine (spec_l1New _ _ _ hy).mono ?_
  rintro v h1 ⟨c, r, rfl, E1, hr, C1⟩
  have r1 := C1.lt
  (conv => whnf)
  refine (spec_l2Any _ r _ C1).mono ?_
  rintro v h2 ⟨x, L, rfl, K2, C2, R2, S⟩
  have n2 := K2.1
  (conv => whnf)
  refine (spec_l5Word _ r _ _ L 9 C2 (R2.more (fun p hp g => by omega)) S.sz.1 (by omega)).mono ?_
  rintro v h3 ⟨z, w, q, rfl, K3, C3, hq, O3, hw⟩
  have n3 := K3.1
  replace R2 : RowsN (fun p => (p = r ∨ h2.length ≤ p) ∨ p < h.length) h2 x L := R2.more (fun p hp g => by have := E1.1; omega)
  replace R2 := R2.keep (K3.weaken (fun p e => Or.inl (Or.inl e))) (fun _ _ g => g)
  (conv => whnf)
  refine (spec_l1Once _ r _ 12 C3 (by omega)).mono ?_
  rintro v h4 ⟨b, rfl, K4, C4⟩
  have n4 := K4.1
  replace R2 := R2.keep (K4.weaken (fun p e => Or.inl (Or.inl e))) (fun _ _ g => g)
  have O4 := O3.keep K4 (by omega)
  have K4 : KeepR r h1 h4 := (K2.then K3).then K4
  (conv => whnf)
  refine HIf.split (fun hb => ?_) (fun hb => ?_)
  · (conv => whnf)
    refine HLit.of (xs := List.map ci [-1, 4]) rfl (ci_one _) (by decide) ?_
    have E5 := Ext.push h4 [Row.own (List.map ci [-1, 4])]
    have n5 : (h4 ++ [Row.own (List.map ci [-1, 4])]).length = h4.length + 1 := by simp
    have IN : IntsN (fun q => q = r) (h4 ++ [Row.own (List.map ci [-1, 4])]) (.sl h4.length 0 2) [-1, 4] := ⟨(OwnR.push h4 [-1, 4]).ints, fun q o n e g => by cases e; have g : h4.length = r := g; omega⟩
    have C5 := C4.ext E5
    have K5 := K4.ext E5
    have O5 := O4.ext E5
    replace R2 := R2.keep (KeepN.ofExt E5) (fun _ _ g => g)
    (conv => whnf)
    refine (spec_l1PickInt _ r _ _ _ C5 IN (by decide) (by decide)).mono ?_
    rintro v h6 ⟨v6, rfl, _, K6, C6⟩
    have n6 := K6.1
    have O6 := O5.keep K6 (by omega)
    replace R2 := R2.keep (K6.weaken (fun p e => Or.inl (Or.inl e))) (fun _ _ g => g)
    have K6 := K5.then K6
    (conv => whnf)
    refine HLit.of (xs := [ci v6]) rfl (by simp [H0.one, Value.oneCell']) (by omega) ?_
    (conv => whnf)
    refine ⟨rfl, rfl, HApp.litR [v6] O6 (by simp; omega) (fun h7 r7 y7 B7 hr7 O7 => ?_)⟩
    have R7 := R2.keep (G := fun p => p < h.length) (KeepN.weaken (F := fun p => p = q) B7 (fun p e => Or.inl (Or.inr (by omega)))) (fun _ _ g => Or.inr g)
    have K7 : KeepR r h1 h7 := K6.trans (G := fun p => p = q) B7 (fun p hp e => by omega)
    (conv => whnf)
    exact ⟨_, _, _, _, rfl, KeepN.ext K7 (fun p e => by omega) E1, R7, ⟨O7.ints, fun p o n e g => by obtain ⟨t, e2, _⟩ := O7; rw [e2] at e; cases e; omega⟩, S, by simp; omega⟩
  · (conv => whnf)
    exact ⟨_, _, _, _, rfl, KeepN.ext K4 (fun p e => by omega) E1, R2.more (fun _ _ g => Or.inr g), ⟨O4.ints, fun p o n e g => by obtain ⟨t, e2, _⟩ := O4; rw [e2] at e; cases e; omega⟩, S, by omega⟩

theorem spec_l8Two (h : Heap) (y : H0) (l : List Int) (hy : Bytes h y l) : HCalls dm Try.prog 45 [.s y] h (fun v h' => ∃ x L z w u t, v = .tup [x, z, u] ∧ Ext h h' ∧ Rows h' x L ∧ Ints h' z w ∧ Ints h' u t ∧ Small L ∧ w.length ≤ 7 ∧ t.length ≤ 7) := by
  refine calls_of_hFun (m := 0) kd_ok mixed Try.func45 rfl (by kernel_rfl) rfl rfl (of_decide_eq_true rfl) ?_; unfold hFun; (conv => whnf)
  refine (spec_l1New _ _ _ hy).mono ?_
  rintro v h1 ⟨c, r, rfl, E1, hr, C1⟩
  have r1 := C1.lt
  (conv => whnf)
  refine (spec_l2Any _ r _ C1).mono ?_
  rintro v h2 ⟨x, L, rfl, K2, C2, R2, S⟩
  have n2 := K2.1
  (conv => whnf)
  replace R2 : RowsN (fun p => p = r) h2 x L := R2.more (fun p hp g => by omega)
  refine (spec_l5Word _ r _ _ L 7 C2 R2 S.sz.1 (by omega)).mono ?_
  rintro v h3 ⟨z, w, q, rfl, K3, C3, hq, O3, hw⟩
  have n3 := K3.1
  replace R2 := R2.keep K3 (fun _ _ g => g)
  (conv => whnf)
  refine (spec_l5Word _ r _ _ L 7 C3 R2 S.sz.1 (by omega)).mono ?_
  rintro v h4 ⟨u, t, p, rfl, K4, C4, hp, O4, ht⟩
  have n4 := K4.1
  replace R2 := R2.keep K4 (fun _ _ g => g)
  replace O3 := O3.keep K4 (by omega)
  (conv => whnf)
  refine (spec_l1Once _ r _ 3 C4 (by omega)).mono ?_
  rintro v h5 ⟨b, rfl, K5, C5⟩
  have R5 := (R2.keep K5 (fun _ _ g => g)).rows
  replace O3 := (O3.keep K5 (by omega)).ints
  replace O4 := (O4.keep K5 (by omega)).ints
  have E5 : Ext h h5 := KeepN.ext (((K2.then K3).then K4).then K5) (fun p e => by omega) E1
  (conv => whnf)
  refine HIf.split (fun hb => ?_) (fun hb => ?_)
  · (conv => whnf)
    (repeat (refine HIf.isT hb ?_; (conv => whnf)))
    refine (spec_IsWord _ _ _ _ _ R5 O3 (by have := S.le; omega) (by omega)).mono ?_
    rintro v h6 ⟨rfl, hh⟩
    subst h6
    (conv => whnf)
    refine HIf.isT hb ?_
    (conv => whnf)
    refine HIf.split (fun hw2 => ?_) (fun hw2 => ?_)
    · have hC : Cartan L := by
        simp only [isWord, Bool.and_eq_true] at hw2
        exact (isCartan_iff L).1 hw2.1.1
      have hl : lettersOk L w = true := by
        simp only [isWord, Bool.and_eq_true] at hw2
        exact hw2.2
      (conv => whnf)
      refine (spec_l8Normal _ _ _ _ _ R5 O3 hC hl (by omega)).mono ?_
      rintro v h7 ⟨y7, rfl, F7⟩
      have E7 := F7.1
      (conv => whnf)
      exact ⟨_, _, _, _, _, _, rfl, E5.trans E7, R5.ext E7, O3.ext E7, F7.ints, S, hw, Nat.le_trans (normF_len hC hl (by omega)) hw⟩
    · (conv => whnf)
      exact ⟨_, _, _, _, _, _, rfl, E5, R5, O3, O4, S, hw, ht⟩
  · (conv => whnf)
    (repeat (refine HIf.isF hb ?_; (conv => whnf)))
    refine HIf.no ?_
    (conv => whnf)
    exact ⟨_, _, _, _, _, _, rfl, E5, R5, O3, O4, S, hw, ht⟩

end Go.Proofs.Ytjgnnjegaedinaa.Hx

namespace Go.Proofs.Ytjgnnjegaedinaa.Hx
open Go.RowKit Go.ChangeShapes Go.WideShapes Go.ChangeAt
variable {dm : Bool}

theorem Rep.start (w : World) (ht : TabAt w.heap.size w := by refine ⟨fun x hx => ?_, fun x hx => ?_, fun x hx => ?_⟩ <;> cases hx) : Rep w.heap.size [] [] w :=
  ⟨rfl, Nat.le_refl _, fun r cs p h => by simp at h, fun r cs p h => by simp at h, fun r r' cs cs' p p' _ h => by simp at h, fun r so ks p h => by simp at h, fun r r' so so' ks ks' p p' _ h => by simp at h, ht⟩

/-- A row that is only read. -/
theorem Rep.pushRo {B0 : Nat} {φ : Plan} {h : Heap} {w : World} (R : Rep B0 φ h w) (p : Place) (hb : p.b < B0) (cs : List H0) (hc : ∀ (k : Nat) (c : H0), cs[k]? = some c → ∃ v, w.cell? ⟨p.b, p.o + k, none⟩ = some v ∧ rep0 φ c v) :
    Rep B0 (φ ++ [p]) (h ++ [.ro cs]) w := by
  have hold : ∀ (r : Nat) (x : Row), r < h.length → (h ++ [Row.ro cs])[r]? = some x → h[r]? = some x := fun r x hr hx => by rw [List.getElem?_append_left hr] at hx; exact hx
  have hpl : ∀ (r : Nat) (y : Place), r < h.length → (φ ++ [p])[r]? = some y → φ[r]? = some y := fun r y hr hx => by rw [List.getElem?_append_left (by rw [R.len]; exact hr)] at hx; exact hx
  have hlast : ∀ (r : Nat) (x : Row), ¬ r < h.length → (h ++ [Row.ro cs])[r]? = some x → r = h.length ∧ x = .ro cs := fun r x hr hx => by
    rw [List.getElem?_append_right (by omega)] at hx
    have h0 : r - h.length = 0 := by
      have := (List.getElem?_eq_some_iff.1 hx).1
      simp at this
      omega
    rw [h0] at hx
    simp at hx
    exact ⟨by omega, hx.symm⟩
  have keyq : ∀ (q : Nat) (so : Bool) (ks : List Key), (h ++ [Row.ro cs])[q]? = some (.keys so ks) → q < h.length := fun q so ks hq => by
    by_cases hl : q < h.length
    · exact hl
    · cases (hlast q _ hl hq).2
  refine ⟨by simp [R.len], R.base, fun r xs y h1 h2 => ?_, fun r xs y h1 h2 => ?_, fun r r' xs xs' y y' hne h1 h1' h2 h2' => ?_, fun r so ks y h1 h2 => R.keys r so ks y (hold r _ (keyq _ _ _ h1) h1) (hpl r y (keyq _ _ _ h1) h2),
    fun r r' so so' ks ks' y y' hne h1 h1' h2 h2' => R.apartK r r' so so' ks ks' y y' hne (hold r _ (keyq _ _ _ h1) h1) (hold r' _ (keyq _ _ _ h1') h1') (hpl r y (keyq _ _ _ h1) h2) (hpl r' y' (keyq _ _ _ h1') h2'), R.tab⟩
  · by_cases hr : r < h.length
    · obtain ⟨g1, g2⟩ := R.ro r xs y (hold r _ hr h1) (hpl r y hr h2)
      refine ⟨g1, fun k c hk => ?_⟩
      obtain ⟨v, e1, e2⟩ := g2 k c hk
      exact ⟨v, e1, e2.mono (Sub.push _ _)⟩
    · obtain ⟨e1, e2⟩ := hlast r _ hr h1
      subst e1
      cases e2
      rw [← R.len, List.getElem?_append_right (Nat.le_refl _)] at h2
      simp at h2
      subst h2
      refine ⟨hb, fun k c hk => ?_⟩
      obtain ⟨v, e1, e2⟩ := hc k c hk
      exact ⟨v, e1, e2.mono (Sub.push _ _)⟩
  · by_cases hr : r < h.length
    · obtain ⟨g1, g2, g3, cur', e', g4, g5, g6⟩ := R.own r xs y (hold r _ hr h1) (hpl r y hr h2)
      refine ⟨g1, g2, g3, cur', e', g4, g5, fun k c hk => ?_⟩
      obtain ⟨v, e1, e2⟩ := g6 k c hk
      exact ⟨v, e1, e2.mono (Sub.push _ _)⟩
    · cases (hlast r _ hr h1).2
  · by_cases hr : r < h.length <;> by_cases hr' : r' < h.length
    · exact R.apart r r' xs xs' y y' hne (hold r _ hr h1) (hold r' _ hr' h1') (hpl r y hr h2) (hpl r' y' hr' h2')
    · cases (hlast r' _ hr' h1').2
    · cases (hlast r _ hr h1).2
    · cases (hlast r _ hr h1).2

/-- What opening an argument gives. -/
def Opened (φ : Plan) (h : Heap) (w : World) (v : Value) (T : Heap → H0 → Prop) : Prop := ∃ x φ' h', Sub φ φ' ∧ Ext h h' ∧ Rep w.heap.size φ' h' w ∧ rep0 φ' x v ∧ T h' x

/-- A slice of ints by its cells. -/
theorem open_cells {φ : Plan} {h : Heap} {w : World} (R : Rep w.heap.size φ h w) (ao : Option Addr) (len cap : Nat) (zs : List Int) (hl : len ≤ cap) (hm : cap ≤ maxLen) (hz : zs.length = cap) (hnone : ao = none → cap = 0)
    (hc : ∀ a, ao = some a → ∀ i, i < cap → w.cell? (a.add i) = some (.int .i64 (zs.getD i 0))) : Opened φ h w (.slice ao len cap) (fun h' x => Ints h' x (zs.take len)) := by
  by_cases h0 : len = 0
  · subst h0
    exact ⟨.pl (.slice ao 0 cap), φ, h, Sub.refl _, Ext.refl _, R, rfl, Shows.nils _ _⟩
  · cases ao with
    | none => have := hnone rfl; omega
    | some a =>
      have hc := hc a rfl
      obtain ⟨b, off, spot⟩ := a
      have hspot : spot = none := by simpa [Addr.add] using World.cell?_spot (hc 0 (by omega))
      subst hspot
      have hb : b < w.heap.size := World.block_lt_of_cell? w ⟨b, off, none⟩ (by simpa [Addr.add] using hc 0 (by omega))
      have hlen : ((zs.take len).map ci).length = len := by simp; omega
      refine ⟨.sl h.length 0 len, φ ++ [⟨b, off, cap⟩], h ++ [.ro ((zs.take len).map ci)], Sub.push _ _, Ext.push _ _, R.pushRo ⟨b, off, cap⟩ hb _ (fun k c hk => ?_), ⟨⟨b, off, cap⟩, _, _, ?_, rfl, hl, hm, by simp, fun _ => rfl⟩, ?_⟩
      · have hk2 : k < len := by have := (List.getElem?_eq_some_iff.1 hk).1; omega
        refine ⟨.int .i64 (zs.getD k 0), by rw [← addr_add]; exact hc k (by omega), ?_⟩
        rw [List.getElem?_map, List.getElem?_take_of_lt hk2, List.getElem?_eq_getElem (by omega)] at hk
        simp only [Option.map_some, Option.some.injEq] at hk
        subst hk
        show _ = _
        simp [List.getD, show k < zs.length by omega]
      · rw [← R.len, List.getElem?_append_right (Nat.le_refl _)]
        simp
      · show Shows _ _ ((zs.take len).map ci)
        generalize (zs.take len).map ci = L at hlen ⊢
        have := Shows.ro h.length 0 len _ (get_new h (.ro L)) (by omega)
        simp only [List.drop_zero] at this
        rw [List.take_of_length_le (by omega)] at this
        exact this

/-- An argument that is a slice of ints. -/
theorem open_arg_ints {H : Type} {enc : TypeId × Value → H} {P : Program} {w : World} {t e : TypeId} {v : Value} {d : DataW H} {ps : List MemPlace} {base : Nat} (ht : P.underlying t = some (.slice e)) (he : P.underlying e = some (.int .i64)) (hc : P.cellsOf e = 1)
    (hv : Value.okWide P w .any base t v) (h0 : DataW.Trod enc P w 0 (fun _ => true) true t v d ps) {φ : Plan} {h : Heap} (R : Rep w.heap.size φ h w) : ∃ l, Opened φ h w v (fun h' x => Ints h' x l) := by
  obtain ⟨a0, len, cap, rfl⟩ := okWide_slice ht hv
  obtain ⟨fuel, hf⟩ := h0
  rcases open_ints ht he hc hf with ⟨hcs, hx⟩ | ⟨a, len', cap', zs, hcs, _, hl, hm, hz, hx, hcell, hwz⟩
  · simp [Value.cells] at hcs
    obtain ⟨rfl, rfl, rfl⟩ := hcs
    exact ⟨_, open_cells R none 0 0 [] (Nat.le_refl _) (by unfold maxLen; omega) rfl (fun _ => rfl) (fun a h => by cases h)⟩
  · simp [Value.cells] at hcs
    obtain ⟨rfl, rfl, rfl⟩ := hcs
    simp only [if_true] at hz
    exact ⟨_, open_cells R (some a) len cap zs hl hm hz (fun h => by cases h) (fun a' h => by cases h; exact fun i hi => hcell i (by omega))⟩

/-- The end of a law: it comes back true, and memory that was there is as it was. -/
theorem law_calls {P : Program} {k : FuncId} {args : List HV} {h : Heap} {φ : Plan} {w : World} {vargs : Array Value} (H : HCalls false P k args h (fun r _ => r = B true)) (R : Rep w.heap.size φ h w) (ha : repVs φ args vargs.toList) :
    Calls P k vargs w fun e w' => e = .returned (.bool true) ∧ Below w.heap.size w w' :=
  (H.out _ φ w vargs R ha).mono (by
    rintro e w' ⟨v, x, h', φ', rfl, rfl, g2, g3, g4, g5⟩
    have hv := rep0_pl g4
    subst hv
    exact ⟨rfl, g5.toBelow⟩)

theorem own : ownKnob Try.prog.godebug = none := by kernel_rfl
theorem laidOut : laidOutB Try.prog = true := by kernel_rfl

end Go.Proofs.Ytjgnnjegaedinaa.Hx

namespace Go.Proofs.Ytjgnnjegaedinaa.Hx
open Go.RowKit Go.ChangeShapes Go.WideShapes Go.ChangeAt

/-- A slice of bytes, of whatever length. -/
def Code0 (h : Heap) (x : H0) (l : List Int) : Prop := Shows h (.s x) (l.map cby) ∧ l.length ≤ 9223372036854775807 ∧ ∀ y ∈ l, 0 ≤ y ∧ y < 256

theorem open_cells_u8 {φ : Plan} {h : Heap} {w : World} (R : Rep w.heap.size φ h w) (ao : Option Addr) (len cap : Nat) (zs : List Int) (hl : len ≤ cap) (hm : cap ≤ maxLen) (hz : zs.length = cap) (hnone : ao = none → cap = 0)
    (hc : ∀ a, ao = some a → ∀ i, i < cap → w.cell? (a.add i) = some (.int .u8 (zs.getD i 0))) : Opened φ h w (.slice ao len cap) (fun h' x => Shows h' (.s x) ((zs.take len).map cby)) := by
  by_cases h0 : len = 0
  · subst h0
    exact ⟨.pl (.slice ao 0 cap), φ, h, Sub.refl _, Ext.refl _, R, rfl, Shows.nils _ _⟩
  · cases ao with
    | none => have := hnone rfl; omega
    | some a =>
      have hc := hc a rfl
      obtain ⟨b, off, spot⟩ := a
      have hspot : spot = none := by simpa [Addr.add] using World.cell?_spot (hc 0 (by omega))
      subst hspot
      have hb : b < w.heap.size := World.block_lt_of_cell? w ⟨b, off, none⟩ (by simpa [Addr.add] using hc 0 (by omega))
      have hlen : ((zs.take len).map cby).length = len := by simp; omega
      refine ⟨.sl h.length 0 len, φ ++ [⟨b, off, cap⟩], h ++ [.ro ((zs.take len).map cby)], Sub.push _ _, Ext.push _ _, R.pushRo ⟨b, off, cap⟩ hb _ (fun k c hk => ?_), ⟨⟨b, off, cap⟩, _, _, ?_, rfl, hl, hm, by simp, fun _ => rfl⟩, ?_⟩
      · have hk2 : k < len := by have := (List.getElem?_eq_some_iff.1 hk).1; omega
        refine ⟨.int .u8 (zs.getD k 0), by rw [← addr_add]; exact hc k (by omega), ?_⟩
        rw [List.getElem?_map, List.getElem?_take_of_lt hk2, List.getElem?_eq_getElem (by omega)] at hk
        simp only [Option.map_some, Option.some.injEq] at hk
        subst hk
        show _ = _
        simp [List.getD, show k < zs.length by omega]
      · rw [← R.len, List.getElem?_append_right (Nat.le_refl _)]
        simp
      · generalize (zs.take len).map cby = L at hlen ⊢
        have := Shows.ro h.length 0 len _ (get_new h (.ro L)) (by omega)
        simp only [List.drop_zero] at this
        rw [List.take_of_length_le (by omega)] at this
        exact this

/-- An argument that is a slice of bytes. -/
theorem open_arg_bytes {H : Type} {enc : TypeId × Value → H} {P : Program} {w : World} {t e : TypeId} {v : Value} {d : DataW H} {ps : List MemPlace} {base : Nat} (ht : P.underlying t = some (.slice e)) (he : P.underlying e = some (.int .u8)) (hc : P.cellsOf e = 1)
    (hv : Value.okWide P w .any base t v) (h0 : DataW.Trod enc P w 0 (fun _ => true) true t v d ps) {φ : Plan} {h : Heap} (R : Rep w.heap.size φ h w) : ∃ l, Opened φ h w v (fun h' x => Code0 h' x l) := by
  obtain ⟨a0, len, cap, rfl⟩ := okWide_slice ht hv
  obtain ⟨fuel, hf⟩ := h0
  rcases open_ints ht he hc hf with ⟨hcs, hx⟩ | ⟨a, len', cap', zs, hcs, _, hl, hm, hz, hx, hcell, hwz⟩
  · simp [Value.cells] at hcs
    obtain ⟨rfl, rfl, rfl⟩ := hcs
    obtain ⟨x, φ', h', g1, g2, g3, g4, g5⟩ := open_cells_u8 R none 0 0 [] (Nat.le_refl _) (by unfold maxLen; omega) rfl (fun _ => rfl) (fun a h => by cases h)
    exact ⟨_, x, φ', h', g1, g2, g3, g4, g5, by simp, by simp⟩
  · simp [Value.cells] at hcs
    obtain ⟨rfl, rfl, rfl⟩ := hcs
    simp only [if_true] at hz
    obtain ⟨x, φ', h', g1, g2, g3, g4, g5⟩ := open_cells_u8 R (some a) len cap zs hl hm hz (fun h => by cases h) (fun a' h => by cases h; exact fun i hi => hcell i (by omega))
    refine ⟨_, x, φ', h', g1, g2, g3, g4, g5, ?_, fun y hy => ?_⟩
    · unfold maxLen at hm
      simp
      omega
    · have := hwz y (List.mem_of_mem_take hy)
      simp only [Lit.wf, Bool.and_eq_true, decide_eq_true_eq] at this
      have h1 : IntKind.u8.min = 0 := by decide
      have h2 : IntKind.u8.max = 255 := by decide
      rw [h1, h2] at this
      omega

end Go.Proofs.Ytjgnnjegaedinaa.Hx

namespace Go.Proofs.Ytjgnnjegaedinaa.Hx
open Go.RowKit
variable {dm : Bool}

theorem mem_take_snoc {l : List Int} {n : Int} {k : Nat} (hk : k < l.length) (h : n ∉ l.take k) (h2 : l.getD k 0 ≠ n) : n ∉ l.take (k + 1) := by
  rw [take_snoc l hk]
  simp only [List.mem_append, List.mem_singleton, not_or]
  exact ⟨h, fun e => h2 e.symm⟩
theorem mem_at {l : List Int} {n : Int} {k : Nat} (hk : k < l.length) (h2 : l.getD k 0 = n) : n ∈ l := by
  have : l[k] = n := by simpa [List.getD, hk] using h2
  rw [← this]
  exact List.getElem_mem hk
theorem two_lit (i j : Int) : [ci i, ci j] = [i, j].map ci := rfl


end Go.Proofs.Ytjgnnjegaedinaa.Hx

namespace Go.Proofs.Ytjgnnjegaedinaa.Hx
open Go.RowKit
variable {dm : Bool}

theorem HLit.pair {z : Value} {v u : Int} {h : Heap} {K : HV → Heap → Prop} (hK : K (.s (.sl h.length 0 [v, u].length)) (h ++ [.own ([v, u].map ci)])) : HLit z 2 (some [ci v, ci u]) h K := HLit.two hK

theorem step_bound {c : List (List Int)} {x : List Int} {k i j : Nat} (hw : isWord c x = true) (h1 : i < j) (h2 : j < x.length) (hk : k = 0 ∨ x.length + 2 * k ≤ 15) :
    k + 1 ≤ 15 ∧ (del (del x (j : Int)) (i : Int)).length + 2 * (k + 1) ≤ 15 := by
  have h15 := (word_cartan hw).2.1
  have := del2_length h1 h2
  omega


end Go.Proofs.Ytjgnnjegaedinaa.Hx

namespace Go.Proofs.Ytjgnnjegaedinaa.Hx
open Go.RowKit
variable {dm : Bool}

theorem Code0.bytes {h : Heap} {x : H0} {l : List Int} (H : Code0 h x l) (hl : l.length ≤ 1048576) : Bytes h x l := ⟨H.1, hl, H.2.2⟩
theorem Code0.len {h : Heap} {x : H0} {l : List Int} (H : Code0 h x l) {K : HV → Prop} (hK : K (I l.length)) : HLen (.s x) K := by
  have := Shows.len H.1 (K := K)
  simp only [List.length_map] at this
  exact this hK
theorem rem_pos {a b : Int} (ha : 0 ≤ a) (hb : 0 < b) : 0 ≤ a.tmod b ∧ a.tmod b < b := tmod_pos ha hb


theorem laws_big (h : Heap) (x : H0) (l : List Int) (hx : Code0 h x l) : HCalls dm Try.prog 5 [.s x] h (fun r h' => r = B (decide ((l.length : Int) > 1048576)) ∧ h' = h) := by
  refine calls_of_hFun (m := 0) kd_ok mixed Try.func5 rfl (by kernel_rfl) rfl rfl (of_decide_eq_true rfl) ?_; unfold hFun; (conv => whnf)
  refine ⟨rfl, hx.len ?_⟩
  (conv => whnf)
  exact ⟨rfl, rfl⟩

theorem laws_has (h : Heap) (x : H0) (l : List Int) (n : Int) (hx : Ints h x l) (hl : l.length ≤ 1048576) : HCalls dm Try.prog 37 [.s x, I n] h (fun r h' => r = B (decide (n ∈ l)) ∧ h' = h) := by
  refine calls_of_hFun (m := 0) kd_ok mixed Try.func37 rfl (by kernel_rfl) rfl rfl (of_decide_eq_true rfl) ?_; unfold hFun; (conv => whnf)
  refine HLoop.intro [5] [6, 7, 8, 9, 12, 13, 14, 15, 16, 17, 4, 10, 11, 5] (by kernel_rfl) (by kernel_rfl) (fun vs h' => ∃ i : Nat, vs = [I i] ∧ h' = h ∧ i ≤ l.length ∧ ∀ j, j < i → l.getD j 0 ≠ n) (fun vs _ => l.length - natAt vs 0) ⟨0, rfl, rfl, by omega, fun j hj => by omega⟩ ?_
  rintro vs h' ⟨i, rfl, hh, hi, hb⟩
  subst h'
  (conv => whnf)
  refine ⟨rfl, hx.len ?_⟩
  (conv => whnf)
  refine HIf.dec (fun hlt => ?_) (fun hge => ?_)
  · have hil : i < l.length := by omega
    have e : l.getD i 0 = l[i] := by simp [List.getD, hil]
    (conv => whnf)
    refine ⟨rfl, hx.idxN hil (fun p hp => ?_)⟩
    (conv => whnf)
    refine ⟨rfl, hp.load ?_⟩
    (conv => whnf)
    refine HIf.beq (fun heq => ?_) (fun hne => ?_)
    · (conv => whnf)
      exact ⟨bEq (decide_eq_true (by rw [← heq, e]; exact List.getElem_mem hil)), rfl⟩
    · (conv => whnf)
      refine HArith.fits (by omega) (by omega) ?_
      (conv => whnf)
      exact ⟨⟨i + 1, rfl, rfl, by omega, fun j hj => by
        by_cases hji : j = i
        · subst hji; exact hne
        · exact hb j (by omega)⟩, by show l.length - (i + 1) < l.length - i; omega⟩
  · have e : i = l.length := by omega
    subst e
    (conv => whnf)
    refine ⟨bEq (decide_eq_false (fun hm => ?_)), rfl⟩
    obtain ⟨j, hj, e⟩ := List.getElem_of_mem hm
    exact hb j hj (by simp [List.getD, hj, e])

theorem laws_sameInts (h : Heap) (x y : H0) (a b : List Int) (hx : Ints h x a) (hy : Ints h y b) (ha : a.length ≤ 1048576) : HCalls dm Try.prog 9 [.s x, .s y] h (fun r h' => r = B (decide (a = b)) ∧ h' = h) := by
  refine calls_of_hFun (m := 0) kd_ok mixed Try.func9 rfl (by kernel_rfl) rfl rfl (of_decide_eq_true rfl) ?_; unfold hFun; (conv => whnf)
  refine ⟨rfl, hx.len ?_⟩
  (conv => whnf)
  refine ⟨rfl, hy.len ?_⟩
  (conv => whnf)
  refine HIf.bne (fun hne => ?_) (fun heq => ?_)
  · (conv => whnf)
    exact ⟨bEq (decide_eq_false (fun e => hne (by rw [e]))), rfl⟩
  have hll : a.length = b.length := by omega
  (conv => whnf)
  refine HLoop.intro [5] [11, 12, 13, 14, 17, 18, 19, 20, 21, 22, 23, 24, 25, 4, 15, 16, 5] (by kernel_rfl) (by kernel_rfl) (fun vs h' => ∃ i : Nat, vs = [I i] ∧ h' = h ∧ i ≤ a.length ∧ a.take i = b.take i) (fun vs _ => a.length - natAt vs 0) ⟨0, rfl, rfl, by omega, rfl⟩ ?_
  rintro vs h' ⟨i, rfl, hh, hi, hb⟩
  subst h'
  (conv => whnf)
  refine ⟨rfl, hx.len ?_⟩
  (conv => whnf)
  refine HIf.dec (fun hlt => ?_) (fun hge => ?_)
  · (conv => whnf)
    refine Or.inl (And.intro (show Region.lexB _ _ = true by kernel_rfl) ?_); (conv => whnf)
    refine ⟨rfl, hx.idxN (by omega) (fun p hp => ?_)⟩
    (conv => whnf)
    refine ⟨rfl, hp.load ?_⟩
    (conv => whnf)
    refine ⟨rfl, hy.idxN (by omega) (fun p2 hp2 => ?_)⟩
    (conv => whnf)
    refine ⟨rfl, hp2.load ?_⟩
    (conv => whnf)
    refine HIf.bne (fun hne => ?_) (fun heq2 => ?_)
    · (conv => whnf)
      exact ⟨bEq (decide_eq_false (fun e => hne (by rw [e]))), rfl⟩
    · (conv => whnf)
      refine HArith.fits (by omega) (by omega) ?_
      (conv => whnf)
      exact ⟨⟨i + 1, rfl, rfl, by omega, take_more (by omega) (by omega) hb heq2⟩, by show a.length - (i + 1) < a.length - i; omega⟩
  · have e : i = a.length := by omega
    subst e
    (conv => whnf)
    exact ⟨bEq (decide_eq_true (eq_of_take hll hb)), rfl⟩

end Go.Proofs.Ytjgnnjegaedinaa.Hx

namespace Go.Proofs.Ytjgnnjegaedinaa.Hx
open Go.RowKit
variable {dm : Bool}

section
variable {P : Program} {kd : TypeId → Kd} {n m : Nat}

/-- The first k parts of a row of parts; K speaks of what they leave. -/
def hcut (dm : Bool) (P : Program) (kd : TypeId → Kd) (n m : Nat) (k : Nat) : Code → (Ex → Fr → Heap → Prop) → (Fr → Heap → Prop) → Fr → Heap → Prop :=
  Nat.rec (motive := fun _ => Code → (Ex → Fr → Heap → Prop) → (Fr → Heap → Prop) → Fr → Heap → Prop) (fun _ _ K fr h => K fr h) (fun _ ih c Q K fr h => match c with
    | .seq a b => hwp dm P kd n m a (fun e fr' h' => match e with | .normal => ih b Q K fr' h' | e => Q e fr' h') fr h
    | _ => False) k

/-- The rest. -/
noncomputable def chop (k : Nat) : Code → Code :=
  Nat.rec (motive := fun _ => Code → Code) (fun c => c) (fun _ ih c => match c with
    | .seq _ b => ih b
    | c => c) k

/-- Parts: so many parts, the slots handed on, and what is said of them. -/
def hparts (dm : Bool) (P : Program) (kd : TypeId → Kd) (n m : Nat) (l : List (Nat × List Nat × (List HV → Heap → Prop))) : Code → (Ex → Fr → Heap → Prop) → Fr → Heap → Prop :=
  List.rec (motive := fun _ => Code → (Ex → Fr → Heap → Prop) → Fr → Heap → Prop) (fun c Q fr h => hwp dm P kd n m c Q fr h) (fun x _ ih c Q fr h =>
    hcut dm P kd n m x.1 c Q (fun fr' h' => x.2.2 (x.2.1.map fr') h') fr h ∧ ∀ vs h', x.2.2 vs h' → ih (chop x.1 c) Q (place (fun _ => .dead) [] x.2.1 vs) h') l

theorem hcut_sound (E : ∀ t, (kd t).ok P t) (hm : P.follows .mixedOrders = true) : ∀ (k : Nat) (c : Code) {Qh : Ex → Fr → Heap → Prop} {K : Fr → Heap → Prop} {fr : Fr} {a : Act} {h : Heap} {φ : Plan} {w : World} {B0 : Nat}, Rep B0 φ h w → FrRep φ n fr a → hcut dm P kd n m k c Qh K fr h →
    ∀ {Q : Exit → Act → World → Prop}, (∀ e fr' a' h' φ' w', Qh e fr' h' → Sub φ φ' → Rep B0 φ' h' w' → FrRep φ' n fr' a' → Lat dm B0 w w' → Q e.toExit a' w') →
    (∀ fr' a' h' φ' w', K fr' h' → Sub φ φ' → Rep B0 φ' h' w' → FrRep φ' n fr' a' → Lat dm B0 w w' → (chop k c).wp P Q a' w') → c.wp P Q a w
  | 0, c, Qh, K, fr, a, h, φ, w, B0, R, F, H, Q, _, hK => hK fr a h φ w H (Sub.refl φ) R F (Lat.refl B0 w)
  | k + 1, c, Qh, K, fr, a, h, φ, w, B0, R, F, H, Q, hQ, hK => by
    cases c with
    | seq x y =>
      refine wp_seq (hwp_sound E hm x R F H (fun e fr' a' h' φ' w' q s r f b u => ?_))
      cases e with
      | normal => exact hcut_sound E hm k y r f q (fun e2 fr2 a2 h2 φ2 w2 q2 s2 r2 f2 b2 => hQ e2 fr2 a2 h2 φ2 w2 q2 (s.trans s2) r2 f2 (b.trans b2)) (fun fr2 a2 h2 φ2 w2 q2 s2 r2 f2 b2 => hK fr2 a2 h2 φ2 w2 q2 (s.trans s2) r2 f2 (b.trans b2))
      | exit id => exact hQ (.exit id) fr' a' h' φ' w' q s r f b
      | ret => exact hQ .ret fr' a' h' φ' w' q s r f b
    | _ => exact H.elim

theorem only_rep {φ : Plan} {fr' : Fr} {a : Act} (F : FrRep φ n fr' a) (l : List Nat) : FrRep φ n (place (fun _ => .dead) [] l (l.map fr')) a := by
  have key : ∀ (l : List Nat) (t : Nat), place (fun _ => .dead) [] l (l.map fr') t = .dead ∨ place (fun _ => .dead) [] l (l.map fr') t = fr' t := by
    intro l
    induction l with
    | nil => intro t; exact Or.inl rfl
    | cons x l ih =>
      intro t
      simp only [place_cons, List.map_cons]
      by_cases ht : t = x
      · subst ht
        simp
      · simp only [beq_ne ht, cond_false]
        exact ih t
  refine ⟨F.size, fun t ht => ?_, fun t ht => ?_, F.defers⟩
  · rcases key l t with e | e
    · rw [e]; trivial
    · rw [e]; exact F.has t ht
  · rcases key l t with e | e
    · exact e
    · rw [e]; exact F.out t ht

theorem hparts_sound (E : ∀ t, (kd t).ok P t) (hm : P.follows .mixedOrders = true) : ∀ (l : List (Nat × List Nat × (List HV → Heap → Prop))) (c : Code) {Qh : Ex → Fr → Heap → Prop} {fr : Fr} {a : Act} {h : Heap} {φ : Plan} {w : World} {B0 : Nat}, Rep B0 φ h w → FrRep φ n fr a → hparts dm P kd n m l c Qh fr h →
    ∀ {Q : Exit → Act → World → Prop}, (∀ e fr' a' h' φ' w', Qh e fr' h' → Sub φ φ' → Rep B0 φ' h' w' → FrRep φ' n fr' a' → Lat dm B0 w w' → Q e.toExit a' w') → c.wp P Q a w
  | [], c, Qh, fr, a, h, φ, w, B0, R, F, H, Q, hQ => hwp_sound E hm c R F H (fun e fr' a' h' φ' w' q s r f b _ => hQ e fr' a' h' φ' w' q s r f b)
  | x :: rest, c, Qh, fr, a, h, φ, w, B0, R, F, H, Q, hQ =>
    hcut_sound E hm x.1 c R F H.1 hQ (fun fr' a' h' φ' w' q s r f b =>
      hparts_sound E hm rest (chop x.1 c) r (only_rep f x.2.1) (H.2 _ _ q) (fun e2 fr2 a2 h2 φ2 w2 q2 s2 r2 f2 b2 => hQ e2 fr2 a2 h2 φ2 w2 q2 (s.trans s2) r2 f2 (b.trans b2)))

def hFunS (dm : Bool) (P : Program) (kd : TypeId → Kd) (n m : Nat) (rs : List ResultVar) (c : Code) (cuts : List (Nat × List Nat × (List HV → Heap → Prop))) (args : List HV) (h : Heap) (R : HV → Heap → Prop) : Prop :=
  hparts dm P kd n m cuts c (fun e fr h' => match e with
    | .exit _ => False
    | _ => hRet rs fr fun x => R x h') (frameOf args) h

theorem calls_of_hSeg (cuts : List (Nat × List Nat × (List HV → Heap → Prop))) (E : ∀ t, (kd t).ok P t) (hm : P.follows .mixedOrders = true) {k : FuncId} {fn : Func} {c : Code} (hf : P.funcs[k]? = some fn) (hb : fn.body = some c) (hname : (fn.name == "runtime.NumGoroutine") = false)
    (hn : fn.ntmps = n) {rs : List ResultVar} (hr : fn.results.toList = rs) {args : List HV} (hargs : args.length ≤ n) {h : Heap} {R : HV → Heap → Prop} (H : hFunS dm P kd n m rs c cuts args h R) : HCalls dm P k args h R := by
  refine ⟨fun as1 w => ?_, fun B0 φ w vargs r ha => ?_⟩
  · have hbn : fn.body.isNone = false := by simp [hb]
    simp only [callFunc, Sem.run_bind, run_program, Result.andThen_ok, hf, hname, hbn, Bool.false_eq_true, if_false, Sem.run_pure]
  · have hlen := ha.length
    have hvl : vargs.size = args.length := by simpa using hlen.symm
    refine calls_of_wp hf hb (hparts_sound (n := n) (m := m) E hm cuts c r (φ := φ) (fr := frameOf args) ?_ H (fun e fr' a' h' φ' w' q s r' f b => ?_))
    · refine ⟨by simp [hn, hvl]; omega, fun t ht => ?_, fun t ht => ?_, rfl⟩
      · rw [frameOf_get]
        by_cases htl : t < args.length
        · obtain ⟨v, e1, e2⟩ := ha.get t args[t] (List.getElem?_eq_getElem htl)
          have hv : vargs[t]? = some v := by simpa using e1
          have : (vargs ++ Array.replicate (fn.ntmps - vargs.size) undef).getD t undef = v := by
            rw [Array.getD_eq_getD_getElem?, Array.getElem?_append_left (by omega), hv]
            rfl
          show repV φ _ _
          rw [this]
          have h2 : args.getD t .dead = args[t] := by simp [List.getD, htl]
          rw [h2]
          exact e2
        · have h2 : args.getD t .dead = .dead := by simp [List.getD, Nat.le_of_not_lt htl]
          rw [h2]
          trivial
      · rw [frameOf_get]
        simp [List.getD, show args.length ≤ t by omega]
    · have fin : ∀ (hh : hRet rs fr' fun x => R x h'), a'.defers = [] ∧ ∃ v, (results fn a'.tmps).run P w' = .ok v w' ∧ ∃ v' x h'' φ'', Ending.returned v = .returned v' ∧ R x h'' ∧ Sub φ φ'' ∧ Rep B0 φ'' h'' w' ∧ repV φ'' x v' ∧ Lat dm B0 w w' := by
        intro hh
        obtain ⟨v, x, e1, e2, e3⟩ := hRet_sound (P := P) hh f hr w'
        exact ⟨f.defers, v, e1, v, x, h', φ', rfl, e3, s, r', e2, b⟩
      cases e with
      | normal => exact fin q
      | ret => exact fin q
      | exit j => exact q.elim

end

theorem HIf.same {b : Bool} {A C : Prop} (h : A) : HIf (b == b) A C := HIf.isT (by simp) h
theorem HIf.nsame {b : Bool} {A C : Prop} (h : C) : HIf (!(b == b)) A C := HIf.isF (by simp) h

end Go.Proofs.Ytjgnnjegaedinaa.Hx
