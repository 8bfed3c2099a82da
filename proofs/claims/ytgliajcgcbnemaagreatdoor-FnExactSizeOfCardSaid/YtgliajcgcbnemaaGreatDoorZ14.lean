/-
  The reference's named matrices: chains, entries set anew, two matrices side by side.
  Isomorphic matrices, parts as matrices, names of types: in plain words.
  Orders, relabelled matrices, isomorphic matrices: of the reference.
-/
import Derived.Test.YtgliajcgcbnemaaGreatDoorZ13
namespace Go.Proofs.YtgliajcgcbnemaaGreatDoor.Hx
open Go.RowKit
variable {dm : Bool}

def chainR (n i : Nat) : List Int :=
  let r1 := (List.replicate n (0 : Int)).set i 2
  let r2 := if 0 < i then r1.set (i - 1) (-1) else r1
  if i + 1 < n then r2.set (i + 1) (-1) else r2
def chainTo (n k : Nat) : List (List Int) := (List.range k).map (chainR n)
def chainC (n : Nat) : List (List Int) := chainTo n n
def setM (L : List (List Int)) (i j : Nat) (a : Int) : List (List Int) := L.set i ((L.getD i []).set j a)
def setC (L : List (List Int)) (i j : Nat) (a b : Int) : List (List Int) := setM (setM L i j a) j i b
def zerosL (n : Nat) : List Int := List.replicate n 0
def joinTo1 (a b : List (List Int)) (k : Nat) : List (List Int) := (List.range k).map fun i => a.getD i [] ++ zerosL b.length
def joinTo2 (a b : List (List Int)) (k : Nat) : List (List Int) := joinTo1 a b a.length ++ (List.range k).map fun i => zerosL a.length ++ b.getD i []
def joinC (a b : List (List Int)) : List (List Int) := joinTo2 a b b.length

theorem chainTo_length (n k : Nat) : (chainTo n k).length = k := by simp [chainTo]
theorem chainTo_succ (n k : Nat) : chainTo n (k + 1) = chainTo n k ++ [chainR n k] := by simp [chainTo, List.range_succ]
theorem setM_length (L : List (List Int)) (i j : Nat) (a : Int) : (setM L i j a).length = L.length := by simp [setM]
theorem setM_get {L : List (List Int)} {i : Nat} (hi : i < L.length) (j : Nat) (a : Int) (k : Nat) : (setM L i j a).getD k [] = if k = i then (L.getD i []).set j a else L.getD k [] := by
  unfold setM
  by_cases hk : k = i
  · subst hk
    simp [List.getD, hi]
  · rw [if_neg hk]
    simp [List.getD, List.getElem?_set_ne (Ne.symm hk)]
theorem setM_row {L : List (List Int)} {i : Nat} (hi : i < L.length) (j : Nat) (a : Int) (k : Nat) : ((setM L i j a).getD k []).length = (L.getD k []).length := by
  rw [setM_get hi]
  split
  · rename_i h
    subst h
    simp
  · rfl
/-- One cell of one's own slice written anew. -/
theorem OwnR.put {r : Nat} {h : Heap} {x : H0} {l : List Int} (O : OwnR r h x l) {o : Nat} (ho : o < l.length) {v : Int} {K : HV → Heap → Prop} (hK : ∀ h', But r h h' → h'.length = h.length → OwnR r h' x (l.set o v) → K .dead h') : HStore h (.s (.ptr r o)) (I v) K := by
  have hlt := O.lt
  obtain ⟨t, rfl, hr⟩ := O
  refine HStore.own hr (by simp; omega) rfl (hK _ ⟨by simp, fun q hq hn => by rw [List.getElem?_set_ne (Ne.symm hn)]⟩ (by simp) ⟨t, by simp, ?_⟩)
  rw [List.getElem?_set_self hlt, List.set_append_left _ _ (by simpa using ho), List.map_set]

theorem OwnR.idx {r : Nat} {h : Heap} {x : H0} {l : List Int} (O : OwnR r h x l) {j : Int} (h0 : 0 ≤ j) (h1 : j < l.length) {k : IntKind} {K : HV → Prop} (hK : K (.s (.ptr r j.toNat))) : HIdx h (.s x) (.s (.pl (.int k j))) K := by
  obtain ⟨t, rfl, hr⟩ := O
  exact HIdx.sl h0 h1 (by rw [Nat.zero_add]; exact hK)

/-- One cell of a slice of slices of one's own written anew. -/
theorem MatAt.put {h : Heap} {r : Nat} {ρ : Nat → Nat} {L : List (List Int)} (m : MatAt h r ρ L) {i o : Nat} (hi : i < L.length) (ho : o < (L.getD i []).length) {v : Int} {K : HV → Heap → Prop}
    (hK : ∀ h', h'.length = h.length → KeepN (fun q => q = ρ i) h h' → MatAt h' r ρ (setM L i o v) → K .dead h') : HStore h (.s (.ptr (ρ i) o)) (I v) K := by
  obtain ⟨t, ht⟩ := m.inner i hi
  have hlt := get_lt ht
  refine HStore.own ht (by simp only [List.length_append, List.length_map]; omega) rfl (hK _ (by simp) ⟨by simp, fun q hq hn => by rw [List.getElem?_set_ne (Ne.symm hn)]⟩ ⟨?_, fun k hk => ?_, fun k hk => ?_, fun k j hkj hj => ?_⟩)
  · obtain ⟨cs, g1, g2, g3⟩ := m.outer
    refine ⟨cs, by rw [List.getElem?_set_ne (m.ne i hi)]; exact g1, by rw [setM_length]; exact g2, fun k hk => ?_⟩
    rw [setM_length] at hk
    rw [setM_row hi]
    exact g3 k hk
  · rw [setM_length] at hk
    rw [setM_get hi]
    by_cases hki : k = i
    · subst hki
      refine ⟨t, ?_⟩
      rw [if_pos rfl, List.getElem?_set_self hlt, List.set_append_left _ _ (by simpa using ho), List.map_set]
    · obtain ⟨t2, ht2⟩ := m.inner k hk
      refine ⟨t2, ?_⟩
      have hne : ρ i ≠ ρ k := by
        rcases Nat.lt_or_gt_of_ne hki with h | h
        · exact fun e => m.inj k i h hi e.symm
        · exact m.inj i k h hk
      rw [if_neg hki, List.getElem?_set_ne hne]
      exact ht2
  · exact m.ne k (by simpa [setM_length] using hk)
  · exact m.inj k j hkj (by simpa [setM_length] using hj)

/-- Two texts compared. -/
theorem HStr.eql {a b : ByteArray} {K : HV → Prop} (hK : K (B (a.toList == b.toList))) : HStr .eql a b K := ⟨_, fun _ _ => rfl, hK⟩
theorem HIf.str {a b : ByteArray} {A C : Prop} (h1 : a = b → A) (h2 : a ≠ b → C) : HIf (a.toList == b.toList) A C := by
  refine HIf.split (fun h => h1 ?_) (fun h => h2 (fun e => ?_))
  · rw [ByteArray.toList_eq, ByteArray.toList_eq] at h
    exact Go.WideShapes.bytes_inj (by simpa using h)
  · subst e
    simp at h
theorem HIf.strT {a b : ByteArray} {A C : Prop} (e : a = b) (h : A) : HIf (a.toList == b.toList) A C := HIf.str (fun _ => h) (fun k => absurd e k)
theorem HIf.strF {a b : ByteArray} {A C : Prop} (e : a ≠ b) (h : C) : HIf (a.toList == b.toList) A C := HIf.str (fun k => absurd k e) (fun _ => h)

/-- The names of which the reference draws. -/
def namesT : List ByteArray := [⟨#[65, 49]⟩, ⟨#[65, 50]⟩, ⟨#[65, 51]⟩, ⟨#[65, 52]⟩, ⟨#[66, 50]⟩, ⟨#[66, 51]⟩, ⟨#[66, 52]⟩, ⟨#[67, 51]⟩, ⟨#[67, 52]⟩, ⟨#[68, 52]⟩, ⟨#[70, 52]⟩, ⟨#[71, 50]⟩, ⟨#[65, 49, 126]⟩, ⟨#[65, 50, 126]⟩, ⟨#[65, 51, 126]⟩, ⟨#[67, 50, 126]⟩, ⟨#[71, 50, 126]⟩]
/-- A matrix as the draws make them: square, of one to four points. -/
structure Shape (L : List (List Int)) : Prop where
  pos : 1 ≤ L.length
  le : L.length ≤ 4
  row : ∀ k, k < L.length → (L.getD k []).length = L.length

theorem spec_l2Chain (h : Heap) (n : Nat) (hn : n ≤ 4) : HCalls dm Tryz.prog 222 [I n] h (fun r h' => ∃ y, r = .s y ∧ Ext h h' ∧ OwnM h.length h'.length h' y (chainC n)) := by
  refine calls_of_hFun (m := 0) kd_ok mixed Tryz.func222 rfl (by kernel_rfl) rfl rfl (of_decide_eq_true rfl) ?_; unfold hFun; (conv => whnf)
  refine HLit.empty ?_
  (conv => whnf)
  refine HLoop.intro [4, 3] [7, 8, 9, 12, 13, 5, 14, 15, 16, 17, 18, 19, 20, 21, 22, 23, 24, 25, 26, 27, 28, 29, 30, 31, 32, 33, 34, 3, 10, 11, 4] (by kernel_rfl) (by kernel_rfl) (fun vs h' => ∃ (k : Nat) (z : H0), vs = [I k, .s z] ∧ k ≤ n ∧ Ext h h' ∧ OwnM h.length h'.length h' z (chainTo n k)) (fun vs _ => n - natAt vs 0) ⟨0, _, rfl, by omega, Ext.push _ _, OwnM.none h⟩ ?_
  rintro vs h' ⟨k, z, rfl, hk, E, O⟩
  have hcl := chainTo_length n k
  (conv => whnf)
  refine HIf.dec (fun hlt => ?_) (fun hge => ?_)
  · (conv => whnf)
    refine HMake.ints n rfl (by omega) ?_
    have O1 : OwnR h'.length (h' ++ [.own (List.replicate n (ci 0))]) (.sl h'.length 0 n) (List.replicate n (0 : Int)) := ⟨[], by simp, by rw [get_new]; simp⟩
    have E1 := Ext.push h' [.own (List.replicate n (ci 0))]
    generalize h' ++ [Row.own (List.replicate n (ci 0))] = h1 at O1 E1 ⊢
    have hE1 := E1.1
    have hrl : (List.replicate n (0 : Int)).length = n := by simp
    (conv => whnf)
    refine ⟨rfl, O1.idx (by omega) (by omega) ?_⟩
    (conv => whnf)
    refine ⟨rfl, O1.put (o := k) (by omega) (fun h2 B2 n2 O2 => ?_)⟩
    have E2 := E1.but B2 (Nat.le_refl _)
    have l2 : (((List.replicate n (0 : Int)).set k 2)).length = n := by simp
    (conv => whnf)
    refine HIf.dec (fun h0 => ?_) (fun h0 => ?_)
    · (conv => whnf)
      refine HArith.fits (by omega) (by omega) ?_
      (conv => whnf)
      refine ⟨rfl, O2.idx (by omega) (by omega) ?_⟩
      (conv => whnf)
      refine ⟨rfl, O2.put (by omega) (fun h3 B3 n3 O3 => ?_)⟩
      have E3 := E2.but B3 (Nat.le_refl _)
      have e3 : ((k : Int) - 1).toNat = k - 1 := by omega
      rw [e3] at O3
      have l3 : ((((List.replicate n (0 : Int)).set k 2)).set (k - 1) (-1)).length = n := by simp
      (conv => whnf)
      refine HArith.fits (by omega) (by omega) ?_
      (conv => whnf)
      refine HIf.dec (fun h1 => ?_) (fun h1 => ?_)
      · (conv => whnf)
        refine HArith.fits (by omega) (by omega) ?_
        (conv => whnf)
        refine ⟨rfl, O3.idx (by omega) (by omega) ?_⟩
        (conv => whnf)
        refine ⟨rfl, O3.put (by omega) (fun h4 B4 n4 O4 => ?_)⟩
        have E4 := E3.but B4 (Nat.le_refl _)
        have e4 : ((k : Int) + 1).toNat = k + 1 := by omega
        have e5 : (((((List.replicate n (0 : Int)).set k 2)).set (k - 1) (-1)).set ((k : Int) + 1).toNat (-1)) = chainR n k := by
          rw [e4]
          unfold chainR
          simp only
          rw [if_pos (by omega), if_pos (by omega)]
        rw [e5] at O4
        (conv => whnf)
        refine HLit.row (O4.own (Nat.zero_le _)).one ?_
        (conv => whnf)
        refine ⟨rfl, rfl, HApp.snocM E O E4 (O4.own (by omega)) (by omega) (fun h6 y6 E6 O6 => ?_)⟩
        rw [← chainTo_succ] at O6
        (conv => whnf)
        refine HArith.fits (by omega) (by omega) ?_
        (conv => whnf)
        exact ⟨⟨k + 1, y6, rfl, by omega, E6, O6⟩, by show n - (k + 1) < n - k; omega⟩
      · have e5 : ((((List.replicate n (0 : Int)).set k 2)).set (k - 1) (-1)) = chainR n k := by
          unfold chainR
          simp only
          rw [if_neg (by omega), if_pos (by omega)]
        rw [e5] at O3
        (conv => whnf)
        refine HLit.row (O3.own (Nat.zero_le _)).one ?_
        (conv => whnf)
        refine ⟨rfl, rfl, HApp.snocM E O E3 (O3.own (by omega)) (by omega) (fun h6 y6 E6 O6 => ?_)⟩
        rw [← chainTo_succ] at O6
        (conv => whnf)
        refine HArith.fits (by omega) (by omega) ?_
        (conv => whnf)
        exact ⟨⟨k + 1, y6, rfl, by omega, E6, O6⟩, by show n - (k + 1) < n - k; omega⟩
    · (conv => whnf)
      refine HArith.fits (by omega) (by omega) ?_
      (conv => whnf)
      refine HIf.dec (fun h1 => ?_) (fun h1 => ?_)
      · (conv => whnf)
        refine HArith.fits (by omega) (by omega) ?_
        (conv => whnf)
        refine ⟨rfl, O2.idx (by omega) (by omega) ?_⟩
        (conv => whnf)
        refine ⟨rfl, O2.put (by omega) (fun h4 B4 n4 O4 => ?_)⟩
        have E4 := E2.but B4 (Nat.le_refl _)
        have e4 : ((k : Int) + 1).toNat = k + 1 := by omega
        have e5 : (((List.replicate n (0 : Int)).set k 2)).set ((k : Int) + 1).toNat (-1) = chainR n k := by
          rw [e4]
          unfold chainR
          simp only
          rw [if_pos (by omega), if_neg (by omega)]
        rw [e5] at O4
        (conv => whnf)
        refine HLit.row (O4.own (Nat.zero_le _)).one ?_
        (conv => whnf)
        refine ⟨rfl, rfl, HApp.snocM E O E4 (O4.own (by omega)) (by omega) (fun h6 y6 E6 O6 => ?_)⟩
        rw [← chainTo_succ] at O6
        (conv => whnf)
        refine HArith.fits (by omega) (by omega) ?_
        (conv => whnf)
        exact ⟨⟨k + 1, y6, rfl, by omega, E6, O6⟩, by show n - (k + 1) < n - k; omega⟩
      · have e5 : (((List.replicate n (0 : Int)).set k 2)) = chainR n k := by
          unfold chainR
          simp only
          rw [if_neg (by omega), if_neg (by omega)]
        rw [e5] at O2
        (conv => whnf)
        refine HLit.row (O2.own (Nat.zero_le _)).one ?_
        (conv => whnf)
        refine ⟨rfl, rfl, HApp.snocM E O E2 (O2.own (by omega)) (by omega) (fun h6 y6 E6 O6 => ?_)⟩
        rw [← chainTo_succ] at O6
        (conv => whnf)
        refine HArith.fits (by omega) (by omega) ?_
        (conv => whnf)
        exact ⟨⟨k + 1, y6, rfl, by omega, E6, O6⟩, by show n - (k + 1) < n - k; omega⟩
  · have e : k = n := by omega
    subst e
    (conv => whnf)
    exact ⟨_, rfl, E, O⟩

theorem spec_l2Set (h : Heap) (x : H0) (L : List (List Int)) (i j : Nat) (a b : Int) (hx : Rows h x L) (hL : L.length ≤ 1048576 ∧ tot L ≤ 1048576) (hi : i < L.length) (hj : j < L.length) (hij : j < (L.getD i []).length) (hji : i < (L.getD j []).length) :
    HCalls dm Tryz.prog 218 [.s x, I i, I j, I a, I b] h (fun r h' => ∃ y, r = .s y ∧ Ext h h' ∧ OwnM h.length h'.length h' y (setC L i j a b)) := by
  refine calls_of_hFun (m := 0) kd_ok mixed Tryz.func218 rfl (by kernel_rfl) rfl rfl (of_decide_eq_true rfl) ?_; unfold hFun; (conv => whnf)
  refine (spec_l2Copy _ _ _ hx hL).mono ?_
  rintro r h1 ⟨y, rfl, E1, O1⟩
  obtain ⟨r0, ρ, rfl, hb, he, hρ, m⟩ := O1
  (conv => whnf)
  refine ⟨rfl, m.idx hi (fun p hp => ?_)⟩
  (conv => whnf)
  refine ⟨rfl, hp.load ?_⟩
  (conv => whnf)
  refine ⟨rfl, (m.inner' hi).idx (by omega) (by omega) ?_⟩
  (conv => whnf)
  refine ⟨rfl, m.put hi hij (fun h2 n2 k2 m2 => ?_)⟩
  have E2 : Ext h h2 := k2.ext (fun q e => by have := hρ i hi; omega) E1
  have hj2 : j < (setM L i j a).length := by rw [setM_length]; exact hj
  have hl2 : (setM L i j a).length = L.length := setM_length _ _ _ _
  have hji2 : i < ((setM L i j a).getD j []).length := by rw [setM_row hi]; exact hji
  rw [← hl2]
  (conv => whnf)
  refine ⟨rfl, m2.idx hj2 (fun p hp => ?_)⟩
  (conv => whnf)
  refine ⟨rfl, hp.load ?_⟩
  (conv => whnf)
  refine ⟨rfl, (m2.inner' hj2).idx (by omega) (by omega) ?_⟩
  (conv => whnf)
  refine ⟨rfl, m2.put hj2 hji2 (fun h3 n3 k3 m3 => ?_)⟩
  have E3 : Ext h h3 := k3.ext (fun q e => by have := hρ j hj; omega) E2
  have hl3 : (setC L i j a b).length = L.length := by unfold setC; rw [setM_length, setM_length]
  (conv => whnf)
  exact ⟨_, rfl, E3, r0, ρ, by rw [hl3, hl2], hb, by omega, fun k hk => by rw [hl3] at hk; have := hρ k hk; omega, m3⟩

end Go.Proofs.YtgliajcgcbnemaaGreatDoor.Hx

namespace Go.Proofs.YtgliajcgcbnemaaGreatDoor.Hx
open Go.RowKit

/-- The matrix of some points in their order. -/
def subM (c : List (List Int)) (o : List Int) : List (List Int) := o.map fun i => o.map fun j => ent c i.toNat j.toNat
theorem subM_len (c : List (List Int)) (o : List Int) : (subM c o).length = o.length := by simp [subM]
theorem subM_row {c : List (List Int)} {o : List Int} {i : Nat} (hi : i < o.length) : (subM c o).getD i [] = o.map fun j => ent c (o.getD i 0).toNat j.toNat := by
  simp [subM, List.getD, hi]
theorem subM_ent {c : List (List Int)} {o : List Int} {i j : Nat} (hi : i < o.length) (hj : j < o.length) : ent (subM c o) i j = ent c (o.getD i 0).toNat (o.getD j 0).toNat := by
  unfold ent
  rw [subM_row hi]
  simp [List.getD, hj, ent]

/-- An order of some of n points. -/
def OrdOk (n : Nat) (o : List Int) : Prop := o.Nodup ∧ ∀ x ∈ o, ∃ i : Nat, x = i ∧ i < n
theorem OrdOk.at {n : Nat} {o : List Int} (h : OrdOk n o) {i : Nat} (hi : i < o.length) : ∃ p : Nat, o.getD i 0 = p ∧ p < n := by
  have e : o.getD i 0 = o[i] := by simp [List.getD, hi]
  obtain ⟨p, e2, hp⟩ := h.2 _ (List.getElem_mem hi)
  exact ⟨p, by rw [e, e2], hp⟩
theorem OrdOk.ne {n : Nat} {o : List Int} (h : OrdOk n o) {i j : Nat} (hi : i < o.length) (hj : j < o.length) (hij : i ≠ j) : (o.getD i 0).toNat ≠ (o.getD j 0).toNat := by
  obtain ⟨p, hp, _⟩ := h.at hi
  obtain ⟨q, hq, _⟩ := h.at hj
  intro e
  have e1 : o.getD i 0 = o.getD j 0 := by rw [hp, hq] at *; omega
  have ei : o.getD i 0 = o[i] := by simp [List.getD, hi]
  have ej : o.getD j 0 = o[j] := by simp [List.getD, hj]
  rw [ei, ej] at e1
  have hn := h.1
  unfold List.Nodup at hn
  rw [List.pairwise_iff_getElem] at hn
  rcases Nat.lt_or_gt_of_ne hij with g | g
  · exact hn i j hi hj g e1
  · exact hn j i hj hi g e1.symm
theorem OrdOk.few {n : Nat} {o : List Int} (h : OrdOk n o) : o.length ≤ n := by
  have h1 : (o.map fun x => [x]).length ≤ ((List.range n).map fun (j : Nat) => [(j : Int)]).length := nodup_le (by
    have hn := h.1
    unfold List.Nodup at *
    rw [List.pairwise_map]
    exact hn.imp fun h e => h (by simpa using e)) (fun x hx => by
    obtain ⟨z, hz, rfl⟩ := List.mem_map.1 hx
    obtain ⟨j, rfl, hj⟩ := h.2 z hz
    exact List.mem_map.2 ⟨j, List.mem_range.2 hj, rfl⟩)
  simpa using h1
theorem OrdOk.snoc {n : Nat} {o : List Int} {i : Nat} (h : OrdOk n o) (hi : i < n) (hn : (i : Int) ∉ o) : OrdOk n (o ++ [(i : Int)]) := by
  refine ⟨?_, fun x hx => ?_⟩
  · rw [List.nodup_append]
    refine ⟨h.1, by simp, fun x hx y hy => ?_⟩
    obtain rfl : y = i := by simpa using hy
    exact fun e => hn (by rw [← e]; exact hx)
  · rcases List.mem_append.1 hx with hx | hx
    · exact h.2 x hx
    · obtain rfl : x = i := by simpa using hx
      exact ⟨i, rfl, hi⟩
theorem OrdOk.left {n : Nat} {o t : List Int} (h : OrdOk n (o ++ t)) : OrdOk n o := ⟨(List.nodup_append.1 h.1).1, fun x hx => h.2 x (List.mem_append_left _ hx)⟩

/-! ### All orders -/

def extL (n : Nat) (o : List Int) (x : Nat) : List (List Int) := ((List.range x).filter fun (i : Nat) => decide ((i : Int) ∉ o)).map fun (i : Nat) => o ++ [(i : Int)]
def ordL (n : Nat) : Nat → List (List Int)
  | 0 => [[]]
  | i + 1 => (ordL n i).flatMap fun o => extL n o n
theorem extL_in {n : Nat} {o : List Int} {x : Nat} (h : (x : Int) ∉ o) : extL n o (x + 1) = extL n o x ++ [o ++ [(x : Int)]] := by
  unfold extL
  rw [List.range_succ, List.filter_append, List.map_append, List.filter_cons_of_pos (by simpa using h), List.filter_nil]
  rfl
theorem extL_out {n : Nat} {o : List Int} {x : Nat} (h : (x : Int) ∈ o) : extL n o (x + 1) = extL n o x := by
  unfold extL
  rw [List.range_succ, List.filter_append, List.map_append, List.filter_cons_of_neg (by simpa using h), List.filter_nil, List.map_nil, List.append_nil]
theorem extL_len (n : Nat) (o : List Int) (x : Nat) : (extL n o x).length ≤ x := by
  unfold extL
  rw [List.length_map]
  refine Nat.le_trans (List.length_filter_le _ _) ?_
  rw [List.length_range]
  exact Nat.le_refl _
theorem mem_extL {n : Nat} {o p : List Int} {x : Nat} : p ∈ extL n o x ↔ ∃ i : Nat, i < x ∧ (i : Int) ∉ o ∧ p = o ++ [(i : Int)] := by
  unfold extL
  simp only [List.mem_map, List.mem_filter, List.mem_range, decide_eq_true_eq]
  constructor
  · rintro ⟨i, ⟨h1, h2⟩, rfl⟩
    exact ⟨i, h1, h2, rfl⟩
  · rintro ⟨i, h1, h2, rfl⟩
    exact ⟨i, ⟨h1, h2⟩, rfl⟩
theorem mem_ordL {n : Nat} : ∀ {i : Nat} {o : List Int}, o ∈ ordL n i ↔ o.length = i ∧ OrdOk n o
  | 0, o => by
    constructor
    · intro h
      obtain rfl : o = [] := by simpa [ordL] using h
      exact ⟨rfl, by simp [OrdOk]⟩
    · rintro ⟨h, _⟩
      rw [List.length_eq_zero_iff.1 h]
      simp [ordL]
  | i + 1, o => by
    simp only [ordL, List.mem_flatMap, mem_extL]
    constructor
    · rintro ⟨o', h1, j, hj, hn, rfl⟩
      obtain ⟨h2, h3⟩ := mem_ordL.1 h1
      exact ⟨by simp [h2], h3.snoc hj hn⟩
    · rintro ⟨h1, h2⟩
      have hne : o ≠ [] := by intro e; rw [e] at h1; simp at h1
      have e := List.dropLast_concat_getLast hne
      obtain ⟨j, hj, hjn⟩ := h2.2 _ (List.getLast_mem hne)
      rw [hj] at e
      rw [← e] at h2
      refine ⟨o.dropLast, mem_ordL.2 ⟨by simp [h1], h2.left⟩, j, hjn, ?_, e.symm⟩
      have := List.nodup_append.1 h2.1
      exact fun hm => this.2.2 _ hm _ (by simp) rfl
theorem ordL_len (n : Nat) : ∀ i, (ordL n i).length ≤ n ^ i
  | 0 => by simp [ordL]
  | i + 1 => by
    have h : ∀ (L : List (List Int)), (L.flatMap fun o => extL n o n).length ≤ n * L.length := by
      intro L
      induction L with
      | nil => simp
      | cons a t ih =>
        have := extL_len n a n
        simp only [List.flatMap_cons, List.length_append, List.length_cons, Nat.mul_add, Nat.mul_one]
        omega
    have h1 := h (ordL n i)
    have h2 := ordL_len n i
    have h3 : n * (ordL n i).length ≤ n * n ^ i := Nat.mul_le_mul_left _ h2
    rw [Nat.pow_succ, Nat.mul_comm (n ^ i) n]
    exact Nat.le_trans h1 h3

/-! ### Isomorphic -/

open Classical in
noncomputable def isoB (a b : List (List Int)) : Bool := isCartan a && isCartan b && decide (a.length = b.length) && decide (∃ o, o ∈ ordL a.length a.length ∧ subM a o = b)
theorem isoB_on {a b : List (List Int)} (ha : isCartan a = true) (hb : isCartan b = true) (hl : a.length = b.length) : isoB a b = true ↔ ∃ o, o ∈ ordL a.length a.length ∧ subM a o = b := by
  unfold isoB
  rw [ha, hb]
  simp [hl]
theorem isoB_offl {a b : List (List Int)} (h : isCartan a = false ∨ isCartan b = false ∨ a.length ≠ b.length) : isoB a b = false := by
  unfold isoB
  rcases h with h | h | h <;> simp [h]

def Fit (a b : List (List Int)) (o : List Int) (i : Nat) : Prop := ∀ j, j < o.length → ent a i (o.getD j 0).toNat = ent b o.length j ∧ ent a (o.getD j 0).toNat i = ent b j o.length
def ExtM (a b : List (List Int)) : Nat → List Int → Prop
  | 0, _ => True
  | f + 1, o => ∃ i : Nat, i < a.length ∧ (i : Int) ∉ o ∧ Fit a b o i ∧ ExtM a b f (o ++ [(i : Int)])

theorem getD_left {o t : List Int} {j : Nat} (h : j < o.length) : (o ++ t).getD j 0 = o.getD j 0 := by
  simp only [List.getD]
  rw [List.getElem?_append_left h]

theorem extM_iff {a b : List (List Int)} : ∀ (f : Nat) (o : List Int), OrdOk a.length o → o.length + f = a.length →
    (ExtM a b f o ↔ ∃ t, OrdOk a.length (o ++ t) ∧ t.length = f ∧ ∀ m, o.length ≤ m → m < a.length → ∀ j, j < m → ent a ((o ++ t).getD m 0).toNat ((o ++ t).getD j 0).toNat = ent b m j ∧ ent a ((o ++ t).getD j 0).toNat ((o ++ t).getD m 0).toNat = ent b j m)
  | 0, o, ho, hl => by
    constructor
    · intro _
      exact ⟨[], by simpa using ho, rfl, fun m h1 h2 => by omega⟩
    · intro _
      trivial
  | f + 1, o, ho, hl => by
    constructor
    · rintro ⟨i, hi, hn, hf, hx⟩
      obtain ⟨t, h1, h2, h3⟩ := (extM_iff f (o ++ [(i : Int)]) (ho.snoc hi hn) (by simp; omega)).1 hx
      have e : (o ++ [(i : Int)]) ++ t = o ++ (i : Int) :: t := by simp
      rw [e] at h1 h3
      refine ⟨(i : Int) :: t, h1, by simp [h2], fun m g1 g2 j hj => ?_⟩
      by_cases em : m = o.length
      · subst em
        have e1 : (o ++ (i : Int) :: t).getD o.length 0 = i := by simp [List.getD]
        rw [e1, getD_left hj]
        exact hf j hj
      · exact h3 m (by simp; omega) g2 j hj
    · rintro ⟨t, h1, h2, h3⟩
      cases t with
      | nil => simp at h2
      | cons x t =>
        obtain ⟨i, rfl, hi⟩ := h1.2 x (by simp)
        have hn : (i : Int) ∉ o := fun hm => (List.nodup_append.1 h1.1).2.2 _ hm _ (by simp) rfl
        have e : (o ++ [(i : Int)]) ++ t = o ++ (i : Int) :: t := by simp
        refine ⟨i, hi, hn, fun j hj => ?_, (extM_iff f (o ++ [(i : Int)]) (ho.snoc hi hn) (by simp; omega)).2 ⟨t, by rw [e]; exact h1, by simpa using h2, fun m g1 g2 => by
          rw [e]
          exact h3 m (by simp at g1; omega) g2⟩⟩
        have := h3 o.length (Nat.le_refl _) (by omega) j hj
        have e1 : (o ++ (i : Int) :: t).getD o.length 0 = i := by simp [List.getD]
        rw [e1, getD_left hj] at this
        exact this

theorem mat_ext {n : Nat} {A B : List (List Int)} (hA : A.length = n) (hB : B.length = n) (rA : ∀ i, i < n → (A.getD i []).length = n) (rB : ∀ i, i < n → (B.getD i []).length = n) (h : ∀ i, i < n → ∀ j, j < n → ent A i j = ent B i j) : A = B := by
  apply List.ext_getElem (by omega)
  intro i h1 h2
  have e1 : A.getD i [] = A[i] := by simp [List.getD, h1]
  have e2 : B.getD i [] = B[i] := by simp [List.getD, h2]
  have hi : i < n := by omega
  have k1 := rA i hi
  have k2 := rB i hi
  rw [e1] at k1
  rw [e2] at k2
  apply List.ext_getElem (by omega)
  intro j g1 g2
  have := h i hi j (by omega)
  unfold ent at this
  rw [e1, e2] at this
  simpa [List.getD, g1, g2] using this

theorem iso_iff {a b : List (List Int)} (ha : Cartan a) (hb : Cartan b) (hl : a.length = b.length) : ExtM a b a.length [] ↔ ∃ o, o ∈ ordL a.length a.length ∧ subM a o = b := by
  rw [extM_iff a.length [] (by simp [OrdOk]) (by simp)]
  simp only [List.nil_append, List.length_nil]
  constructor
  · rintro ⟨t, h1, h2, h3⟩
    refine ⟨t, mem_ordL.2 ⟨h2, h1⟩, mat_ext (n := a.length) (by rw [subM_len, h2]) hl.symm (fun i hi => by rw [subM_row (by omega)]; simpa using h2) (fun i hi => by rw [hb.row i (by omega), hl]) (fun i hi j hj => ?_)⟩
    rw [subM_ent (by omega) (by omega)]
    rcases Nat.lt_trichotomy i j with g | g | g
    · exact (h3 j (Nat.zero_le _) hj i g).2
    · subst g
      obtain ⟨p, hp, hpn⟩ := h1.at (i := i) (by omega)
      rw [hp, Int.toNat_natCast, (matOk ha).diag p hpn, (matOk hb).diag i (by omega)]
    · exact (h3 i (Nat.zero_le _) hi j g).1
  · rintro ⟨o, ho, e⟩
    obtain ⟨h2, h1⟩ := mem_ordL.1 ho
    refine ⟨o, h1, h2, fun m _ hm j hj => ?_⟩
    rw [← e, subM_ent (by omega) (by omega), subM_ent (by omega) (by omega)]
    exact ⟨rfl, rfl⟩

/-! ### Parts as matrices -/

theorem cartBad_sub {c : List (List Int)} (hC : Cartan c) {o : List Int} (ho : OrdOk c.length o) {i j : Nat} (hi : i < o.length) (hj : j < o.length) : cartBad (subM c o) i j = false := by
  obtain ⟨p, hp, hpn⟩ := ho.at hi
  obtain ⟨q, hq, hqn⟩ := ho.at hj
  have h := hC.ok p hpn q hqn
  unfold cartBad at h ⊢
  rw [subM_ent hi hj, subM_ent hj hi, hp, hq, Int.toNat_natCast, Int.toNat_natCast]
  have e : decide (i = j) = decide (p = q) := by
    by_cases hij : i = j
    · subst hij
      rw [hp] at hq
      have : p = q := by omega
      simp [this]
    · have := ho.ne hi hj hij
      rw [hp, hq, Int.toNat_natCast, Int.toNat_natCast] at this
      simp [hij, this]
  rw [e]
  exact h
theorem sub_cartan {c : List (List Int)} (hC : Cartan c) {o : List Int} (ho : OrdOk c.length o) (h0 : 0 < o.length) : Cartan (subM c o) := by
  have hf := ho.few
  have h4 := hC.le
  refine ⟨by rw [subM_len]; omega, by rw [subM_len]; omega, fun i hi => ?_, fun i hi j hj => ?_⟩
  · rw [subM_len] at hi ⊢
    rw [subM_row hi]
    simp
  · rw [subM_len] at hi hj
    exact cartBad_sub hC ho hi hj

theorem partL_ok (c : List (List Int)) (i : Nat) : OrdOk c.length (partL c i) := by
  refine ⟨?_, fun x hx => ?_⟩
  · exact (partTo_sorted c i c.length).imp fun h e => by omega
  · obtain ⟨j, e, hj, _⟩ := mem_partTo.1 hx
    exact ⟨j, e, hj⟩

theorem conn_of {M : List (List Int)} (hM : Cartan M) (h : ∀ k, k < M.length → Rch M 0 k) : isConn M = true := by
  have hp := hM.pos
  have h0 : isMin M 0 = true := isMin_iff.2 fun j hj => by omega
  have hk : ∀ k, 0 < k → k < M.length → isMin M k = false := fun k h1 h2 => by
    cases hm : isMin M k
    · rfl
    · exact absurd (h k h2) (isMin_iff.1 hm 0 h1)
  obtain ⟨n, hn⟩ : ∃ n, M.length = n + 1 := ⟨M.length - 1, by omega⟩
  unfold isConn partsN
  rw [(isCartan_iff M).2 hM, hn, List.range_succ_eq_map, List.filter_cons_of_pos h0, List.length_cons, List.filter_eq_nil_iff.2 (fun x hx => by
    obtain ⟨y, hy, rfl⟩ := List.mem_map.1 hx
    have := List.mem_range.1 hy
    rw [hk (y + 1) (by omega) (by omega)]
    decide)]
  simp

theorem part_conn {c : List (List Int)} (hC : Cartan c) {i : Nat} (hi : i < c.length) : Cartan (subM c (partL c i)) ∧ isConn (subM c (partL c i)) = true := by
  have hok := partL_ok c i
  have hpos := partL_pos hi
  have hM := sub_cartan hC hok hpos
  refine ⟨hM, conn_of hM fun k hk => ?_⟩
  rw [subM_len] at hk
  have pt : ∀ k, k < (partL c i).length → ∃ p : Nat, (partL c i).getD k 0 = p ∧ p < c.length ∧ Rch c i p := fun k hk => by
    obtain ⟨p, hp, hpn⟩ := hok.at hk
    have e : (partL c i).getD k 0 = (partL c i)[k] := by simp [List.getD, hk]
    have hm := List.getElem_mem hk
    rw [← e, hp] at hm
    exact ⟨p, hp, hpn, (mem_partL hi).1 hm⟩
  obtain ⟨p0, e0, hp0, r0⟩ := pt 0 hpos
  obtain ⟨pk, ek, hpk, rk⟩ := pt k hk
  have hr : Rch c p0 pk := (r0.symm hC hi).trans rk
  obtain ⟨b, hb, eb, rb⟩ := Rch.closed (S := fun q => ∃ b, b < (partL c i).length ∧ (partL c i).getD b 0 = (q : Int) ∧ Rch (subM c (partL c i)) 0 b) ⟨0, hpos, e0, .here⟩ (fun q hq q' ha => by
    obtain ⟨b, hb, eb, rb⟩ := hq
    obtain ⟨p, ep, hpn, rp⟩ := pt b hb
    have epq : p = q := by rw [ep] at eb; omega
    subst epq
    have hm : (q' : Int) ∈ partL c i := (mem_partL hi).2 (rp.step ha)
    obtain ⟨b', hb', eb'⟩ := List.getElem_of_mem hm
    have eg : (partL c i).getD b' 0 = (q' : Int) := by simp [List.getD, hb', eb']
    refine ⟨b', hb', eg, rb.step ⟨by rw [subM_len]; exact hb', fun e => ?_, ?_⟩⟩
    · subst e
      rw [eb] at eg
      exact ha.2.1 (by omega)
    · have := subM_ent (c := c) hb hb'
      unfold ent at this
      rw [this, eb, eg, Int.toNat_natCast, Int.toNat_natCast]
      exact ha.2.2) hr
  have : b = k := Classical.byContradiction fun hne => by
    have := hok.ne hb hk hne
    rw [eb, ek] at this
    exact this rfl
  subst this
  exact rb

end Go.Proofs.YtgliajcgcbnemaaGreatDoor.Hx

namespace Go.Proofs.YtgliajcgcbnemaaGreatDoor.Hx
open Go.RowKit
variable {dm : Bool}

theorem pick_sub (c : List (List Int)) (o : List Int) : pick c o = subM c o := by
  apply List.ext_getElem
  · simp [pick, pickTo, subM]
  · intro i h1 h2
    have hi : i < o.length := by simpa [subM] using h2
    apply List.ext_getElem
    · simp [pick, pickTo, pickRow, subM]
    · intro j g1 g2
      have hj : j < o.length := by simpa [subM] using g2
      simp [pick, pickTo, pickRow, subM, List.getD, hi, hj]

theorem getD_mem {L : List (List Int)} {k : Nat} (hk : k < L.length) : L.getD k [] ∈ L := by
  have e : L.getD k [] = L[k] := by simp [List.getD, hk]
  rw [e]
  exact List.getElem_mem hk
theorem flat_take {F : List Int → List (List Int)} {L : List (List Int)} {k : Nat} (hk : k < L.length) : (L.take (k + 1)).flatMap F = (L.take k).flatMap F ++ F (L.getD k []) := by
  rw [List.take_succ_eq_append_getElem hk, List.flatMap_append]
  have e : L.getD k [] = L[k] := by simp [List.getD, hk]
  rw [e]
  simp
theorem flatX_len (n : Nat) (L : List (List Int)) : (L.flatMap fun o => extL n o n).length ≤ n * L.length := by
  induction L with
  | nil => simp
  | cons a t ih =>
    have := extL_len n a n
    simp only [List.flatMap_cons, List.length_append, List.length_cons, Nat.mul_add, Nat.mul_one]
    omega

theorem ordL_zero (n : Nat) : ordL n 0 = [[]] := rfl
theorem ordL_succ (n i : Nat) : ordL n (i + 1) = (ordL n i).flatMap fun o => extL n o n := rfl


set_option maxHeartbeats 1000000 in
theorem spec_l3Orders (h : Heap) (n : Nat) (hn : n ≤ 4) :
    HCalls dm Tryz.prog 223 [I n] h (fun r h' => ∃ y, r = .s y ∧ Ext h h' ∧ OwnM h.length h'.length h' y (ordL n n)) := by
  refine calls_of_hFun (m := 0) kd_ok mixed Tryz.func223 rfl (by kernel_rfl) rfl rfl (of_decide_eq_true rfl) ?_; unfold hFun; (conv => whnf)
  refine HLit.empty ?_
  (conv => whnf)
  refine HLit.row (y := .sl h.length 0 0) rfl ?_
  (conv => whnf)
  have E1 := Ext.push h [Row.own []]
  have O1 := OwnR.push h []
  have M1 : MatP (fun p => h.length ≤ p) (h ++ [Row.own []] ++ [Row.own [.sl h.length 0 0]]) (.sl (h ++ [Row.own []]).length 0 1) [[]] := by
    refine ⟨(h ++ [Row.own []]).length, fun _ => h.length, rfl, by simp, fun i _ => Nat.le_refl _, ⟨_, get_new _ _, by simp, fun i hi => ?_⟩, fun i hi => ?_, fun i _ => by simp, fun i j hij hj => ?_⟩
    · have : i = 0 := by simp at hi; omega
      subst this
      rfl
    · have : i = 0 := by simp at hi; omega
      subst this
      exact ⟨[], by rw [List.getElem?_append_left (by simp)]; exact get_new h _⟩
    · simp at hj
      omega
  have E2 := E1.pushed [Row.own [.sl h.length 0 0]]
  have M1 := M1.own (b := h.length) (fun p _ hp => hp)
  clear O1
  generalize h ++ [Row.own []] ++ [Row.own [.sl h.length 0 0]] = h2 at *
  generalize H0.sl (h ++ [Row.own []]).length 0 1 = z0 at *
  refine HLoop.intro [4, 3] [10, 11, 12, 15, 5, 6, 16, 17, 18, 19, 7, 22, 23, 24, 27, 28, 29, 30, 31, 32, 33, 34, 35, 36, 37, 38, 39, 40, 41, 42, 43, 44, 45, 5, 25, 26, 7, 20, 21, 6, 46, 3, 13, 14, 4] (by kernel_rfl) (by kernel_rfl) (fun vs h' => ∃ (i : Nat) (z : H0), vs = [I i, .s z] ∧ i ≤ n ∧ Ext h h' ∧ OwnM h.length h'.length h' z (ordL n i)) (fun vs _ => n - natAt vs 0) ⟨0, z0, rfl, by omega, E2, by rw [ordL_zero]; exact M1⟩ ?_
  clear E1 E2 M1
  rintro vs h' ⟨i, z, rfl, hi, E, O⟩
  have hlen := ordL_len n i
  have hpow : n ^ i ≤ 256 := by
    have h1 : n ^ i ≤ 4 ^ i := Nat.pow_le_pow_left hn i
    have h2 : 4 ^ i ≤ 4 ^ 4 := Nat.pow_le_pow_right (by omega) (by omega)
    have : 4 ^ 4 = 256 := rfl
    omega
  (conv => whnf)
  refine HIf.dec (fun hlt => ?_) (fun hge => ?_)
  rotate_left
  · have e : i = n := by omega
    subst e
    (conv => whnf)
    exact ⟨_, rfl, E, O⟩
  have hmem : ∀ k, k < (ordL n i).length → ((ordL n i).getD k []).length = i := fun k hk => (mem_ordL.1 (getD_mem hk)).1
  have hnext : ordL n (i + 1) = (ordL n i).flatMap fun o => extL n o n := ordL_succ n i
  generalize ordL n i = L at *
  (conv => whnf)
  refine HLit.empty ?_
  (conv => whnf)
  refine HLoop.intro [6, 5] [16, 17, 18, 19, 7, 22, 23, 24, 27, 28, 29, 30, 31, 32, 33, 34, 35, 36, 37, 38, 39, 40, 41, 42, 43, 44, 45, 5, 25, 26, 7, 20, 21, 6] (by kernel_rfl) (by kernel_rfl) (fun vs h2 => ∃ (k : Nat) (y : H0), vs = [I k, .s y] ∧ k ≤ L.length ∧ Ext h' h2 ∧ OwnM h'.length h2.length h2 y ((L.take k).flatMap fun o => extL n o n)) (fun vs _ => L.length - natAt vs 0) ⟨0, _, rfl, by omega, Ext.push _ _, by simpa using OwnM.none h'⟩ ?_
  rintro vs h2 ⟨k, y, rfl, hk, E2, O2⟩
  have hRz := (O.ext E2).rows
  have hfl := flatX_len n (L.take k)
  have hfl2 : (L.take k).length = k := by simp; omega
  rw [hfl2] at hfl
  (conv => whnf)
  refine ⟨rfl, hRz.len ?_⟩
  (conv => whnf)
  refine HIf.dec (fun hltk => ?_) (fun hgek => ?_)
  rotate_left
  · have ek : k = L.length := by omega
    subst ek
    rw [List.take_length, ← hnext] at O2
    have hE := E.1
    (conv => whnf)
    refine HArith.fits (by omega) (by omega) ?_
    (conv => whnf)
    exact ⟨⟨i + 1, y, rfl, by omega, E.trans E2, O2.lower hE⟩, by show n - (i + 1) < n - i; omega⟩
  have hkl : k < L.length := by omega
  have hol := hmem k hkl
  have hft := flat_take (F := fun o => extL n o n) hkl
  generalize hgo : L.getD k [] = o at *
  have hn4 : n * k ≤ 1024 := by
    have h1 : n * k ≤ 4 * k := Nat.mul_le_mul_right k hn
    omega
  (conv => whnf)
  refine HLoop.intro [7, 5] [22, 23, 24, 27, 28, 29, 30, 31, 32, 33, 34, 35, 36, 37, 38, 39, 40, 41, 42, 43, 44, 45, 5, 25, 26, 7] (by kernel_rfl) (by kernel_rfl) (fun vs h2 => ∃ (x : Nat) (y : H0), vs = [I x, .s y] ∧ x ≤ n ∧ Ext h' h2 ∧ OwnM h'.length h2.length h2 y (((L.take k).flatMap fun o => extL n o n) ++ extL n o x)) (fun vs _ => n - natAt vs 0) ⟨0, y, rfl, by omega, E2, by simpa [extL] using O2⟩ ?_
  clear E2 O2 hRz
  rintro vs h2 ⟨x, y, rfl, hx, E2, O2⟩
  have hRz := (O.ext E2).rows
  have hxl := extL_len n o x
  (conv => whnf)
  refine HIf.dec (fun hltx => ?_) (fun hgex => ?_)
  rotate_left
  · have ex : x = n := by omega
    subst ex
    rw [← hft] at O2
    (conv => whnf)
    refine HArith.fits (by omega) (by omega) ?_
    (conv => whnf)
    exact ⟨⟨k + 1, y, rfl, by omega, E2, O2⟩, by show L.length - (k + 1) < L.length - k; omega⟩
  (conv => whnf)
  refine ⟨rfl, hRz.idxN hkl (fun p y3 hp hy3 => ?_)⟩
  rw [hgo] at hy3
  (conv => whnf)
  refine ⟨rfl, hp.load ?_⟩
  (conv => whnf)
  refine (spec_l3Has _ _ o (x : Int) hy3 (by omega)).mono ?_
  rintro r h3 ⟨rfl, hh⟩
  subst h3
  (conv => whnf)
  by_cases hin : (x : Int) ∈ o
  · refine HIf.bnot (HIf.decT hin ?_)
    (conv => whnf)
    refine HArith.fits (by omega) (by omega) ?_
    (conv => whnf)
    exact ⟨⟨x + 1, y, rfl, by omega, E2, by rw [extL_out hin]; exact O2⟩, by show n - (x + 1) < n - x; omega⟩
  · refine HIf.bnot (HIf.decF hin ?_)
    (conv => whnf)
    refine HLit.empty ?_
    (conv => whnf)
    have Ep := Ext.push h2 [Row.own []]
    refine ⟨rfl, (hRz.ext Ep).idxN hkl (fun p2 y4 hp2 hy4 => ?_)⟩
    rw [hgo] at hy4
    (conv => whnf)
    refine ⟨rfl, hp2.load ?_⟩
    (conv => whnf)
    refine ⟨rfl, rfl, HApp.moreR (OwnR.push h2 []) hy4 (by rw [List.length_nil]; omega) (fun h3 r3 y5 B3 hr3 O3 => ?_)⟩
    rw [List.nil_append] at O3
    have E3 : Ext h2 h3 := Ep.but B3 (Nat.le_refl _)
    have hl3 : h2.length ≤ r3 := by simp at hr3; omega
    (conv => whnf)
    refine HLit.one ?_
    (conv => whnf)
    refine ⟨rfl, rfl, HApp.litR [(x : Int)] O3 (by simp; omega) (fun h4 r4 y6 B4 hr4 O4 => ?_)⟩
    have E4 : Ext h2 h4 := E3.but B4 hl3
    have hE3 := E3.1
    have F4 : Own h2.length h4.length h4 y6 (o ++ [(x : Int)]) := O4.own (by omega)
    (conv => whnf)
    refine HLit.row F4.one ?_
    (conv => whnf)
    refine ⟨rfl, rfl, HApp.snocM E2 O2 E4 F4 (by rw [List.length_append]; omega) (fun h5 y7 E5 O5 => ?_)⟩
    rw [List.append_assoc, ← extL_in hin] at O5
    (conv => whnf)
    refine HArith.fits (by omega) (by omega) ?_
    (conv => whnf)
    exact ⟨⟨x + 1, y7, rfl, by omega, E5, O5⟩, by show n - (x + 1) < n - x; omega⟩

set_option maxHeartbeats 1000000 in
theorem spec_RelabelCartan (h : Heap) (x0 : H0) (c : List (List Int)) (x1 : H0) (o : List Int) (hx0 : Rows h x0 c) (hx1 : Ints h x1 o) (hic : isCartan c = true) (hok : OrdOk c.length o) (hlen : o.length = c.length) :
    HCalls dm Tryz.prog 224 [.s x0, .s x1] h (fun r h' => ∃ y, r = T2 y true ∧ Ext h h' ∧ OwnM h.length h'.length h' y (pick c o)) := by
  have hC := (isCartan_iff c).1 hic
  have h4 := hC.le
  have ho : ∀ k, k < o.length → 0 ≤ o.getD k 0 ∧ o.getD k 0 < c.length := fun k hk => by
    obtain ⟨p, hp, hpn⟩ := hok.at hk
    omega
  have hol : o.length ≤ 4 := by omega
  refine calls_of_hFun (m := 0) kd_ok mixed Tryz.func224 rfl (by kernel_rfl) rfl rfl (of_decide_eq_true rfl) ?_; unfold hFun; (conv => whnf)
  refine (spec_IsCartan _ _ _ hx0 (by omega)).mono ?_
  rintro r h1 ⟨rfl, hh⟩
  subst h1
  rw [hic]
  have hz : (o.length : Int) = (c.length : Int) := by omega
  (conv => whnf)
  (repeat (first | (refine HIf.yes ?_; conv => whnf) | (refine HIf.no ?_; conv => whnf) | (refine ⟨rfl, hx1.len ?_⟩; conv => whnf) | (refine ⟨rfl, hx0.len ?_⟩; conv => whnf)))
  refine HIf.bneF hz ?_
  (conv => whnf)
  refine HLoop.intro [6] [22, 23, 24, 25, 28, 29, 30, 31, 32, 33, 34, 35, 36, 37, 38, 39, 40, 41, 42, 43, 44, 45, 46, 47, 4, 5, 26, 27, 6] (by kernel_rfl) (by kernel_rfl) (fun vs h' => ∃ k : Nat, vs = [I k] ∧ k ≤ o.length ∧ h' = h) (fun vs _ => o.length - natAt vs 0) ⟨0, rfl, by omega, rfl⟩ ?_
  rintro vs h' ⟨k, rfl, hk, hh⟩
  subst h'
  (conv => whnf)
  refine ⟨rfl, hx1.len ?_⟩
  (conv => whnf)
  refine HIf.dec (fun hlt => ?_) (fun hge => ?_)
  · have hokk := ho k (by omega)
    have hkl : k < o.length := by omega
    have hpt : isPoint c (o.getD k 0) = true := by simp only [isPoint, inRange, Bool.and_eq_true, decide_eq_true_eq]; omega
    have hnin : o.getD k 0 ∉ o.take k := by
      have e : o.getD k 0 = o[k] := by simp [List.getD, hkl]
      rw [e]
      intro hm
      obtain ⟨i, hi, ei⟩ := List.getElem_of_mem hm
      have hik : i < k := by simp at hi; omega
      rw [List.getElem_take] at ei
      have hn := hok.1
      unfold List.Nodup at hn
      rw [List.pairwise_iff_getElem] at hn
      exact hn i k (by omega) hkl hik ei
    have idx1 : ∀ {K : HV → Prop}, (∀ p, At h p (ci (o.getD k 0)) → K (.s p)) → HIdx h (.s x1) (I k) K := fun hK => Ints.idxN hx1 hkl hK
    (conv => whnf)
    refine Or.inl (And.intro (show Region.lexB _ _ = true by kernel_rfl) ?_); (conv => whnf)
    refine ⟨rfl, idx1 (fun p hp => ?_)⟩
    (conv => whnf)
    refine ⟨rfl, hp.load ?_⟩
    (conv => whnf)
    refine ⟨rfl, hx0.len ?_⟩
    (conv => whnf)
    refine HArith.fits (by omega) (by omega) ?_
    (conv => whnf)
    refine HCallQ.of (.bool (decide (0 ≤ o.getD k 0) && decide (o.getD k 0 ≤ (c.length : Int) - 1))) (spec_l1In _ (o.getD k 0) 0 ((c.length : Int) - 1)) (fun x h' hR => hR.1) ?_
    rw [isPoint_l1, hpt]
    (conv => whnf)
    (repeat (first | (refine HIf.yes ?_; conv => whnf) | (refine HIf.no ?_; conv => whnf)))
    refine ⟨rfl, hx1.take k (by omega) (fun y hy => ?_)⟩
    (conv => whnf)
    (repeat (first | (refine HIf.yes ?_; conv => whnf) | (refine HIf.no ?_; conv => whnf)))
    refine ⟨rfl, idx1 (fun p2 hp2 => ?_)⟩
    (conv => whnf)
    (repeat (first | (refine HIf.yes ?_; conv => whnf) | (refine HIf.no ?_; conv => whnf)))
    refine ⟨rfl, hp2.load ?_⟩
    (conv => whnf)
    (repeat (first | (refine HIf.yes ?_; conv => whnf) | (refine HIf.no ?_; conv => whnf)))
    refine HCallQ.of (.bool (decide (o.getD k 0 ∈ o.take k))) (spec_l3Has _ y (o.take k) (o.getD k 0) hy.frz (by simp; omega)) (fun x h' hR => hR.1) ?_
    rw [decide_eq_false hnin]
    (conv => whnf)
    (repeat (first | (refine HIf.yes ?_; conv => whnf) | (refine HIf.no ?_; conv => whnf)))
    refine HArith.fits (by omega) (by omega) ?_
    (conv => whnf)
    exact ⟨⟨k + 1, rfl, by omega, rfl⟩, by show o.length - (k + 1) < o.length - k; omega⟩
  (conv => whnf)
  refine HLit.empty ?_
  (conv => whnf)
  refine HLoop.intro [8, 7] [49, 50, 51, 52, 55, 9, 10, 56, 57, 58, 59, 62, 63, 64, 65, 66, 67, 68, 69, 70, 71, 72, 73, 74, 75, 76, 77, 9, 60, 61, 10, 78, 79, 80, 81, 7, 53, 54, 8] (by kernel_rfl) (by kernel_rfl) (fun vs h' => ∃ (a : Nat) (z : H0), vs = [I a, .s z] ∧ a ≤ o.length ∧ Ext h h' ∧ OwnM h.length h'.length h' z (pickTo c o a)) (fun vs _ => o.length - natAt vs 0) ⟨0, _, rfl, by omega, Ext.push _ _, OwnM.none h⟩ ?_
  rintro vs h' ⟨a, z, rfl, ha, E, OM⟩
  have hpl := pickTo_len c o a
  have hx1 := hx1.ext E
  (conv => whnf)
  refine ⟨rfl, hx1.len ?_⟩
  (conv => whnf)
  refine HIf.dec (fun hlt => ?_) (fun hge => ?_)
  · have hoa := ho a (by omega)
    obtain ⟨i, hi⟩ : ∃ i : Nat, o.getD a 0 = (i : Int) := ⟨(o.getD a 0).toNat, by omega⟩
    rw [hi] at hoa
    have hir := hC.row i (by omega)
    have Ep := Ext.push h' [Row.own []]
    (conv => whnf)
    refine HLit.empty ?_
    (conv => whnf)
    refine HLoop.intro [10, 9] [56, 57, 58, 59, 62, 63, 64, 65, 66, 67, 68, 69, 70, 71, 72, 73, 74, 75, 76, 77, 9, 60, 61, 10] (by kernel_rfl) (by kernel_rfl) (fun vs h2 => ∃ (b : Nat) (y : H0) (r : Nat), vs = [I b, .s y] ∧ b ≤ o.length ∧ Ext h' h2 ∧ h'.length ≤ r ∧ OwnR r h2 y (pickRow c o i b)) (fun vs _ => o.length - natAt vs 0) ⟨0, _, h'.length, rfl, by omega, Ep, Nat.le_refl _, OwnR.push h' []⟩ ?_
    rintro vs h2 ⟨b, y, r, rfl, hb, E2, hr, O⟩
    have hrl := pickRow_len c o i b
    have hE2 := E2.1
    have hx12 := hx1.ext E2
    (conv => whnf)
    refine ⟨rfl, hx12.len ?_⟩
    (conv => whnf)
    refine HIf.dec (fun hltb => ?_) (fun hgeb => ?_)
    · have hob := ho b (by omega)
      obtain ⟨j, hj⟩ : ∃ j : Nat, o.getD b 0 = (j : Int) := ⟨(o.getD b 0).toNat, by omega⟩
      rw [hj] at hob
      have hx02 := (hx0.ext E).ext E2
      (conv => whnf)
      refine Or.inr (Or.inr (Or.inl (Exists.intro 15 (Exists.intro [0, 1, 2, 3, 4, 5, 6, 7, 8, 9, 10, 11, 12, 13] (Exists.intro [14, 15, 16] (And.intro (show heldOk _ _ _ _ = true by kernel_rfl) ?_)))))); (conv => whnf)
      refine ⟨rfl, Ints.idxN hx12 (by omega) (fun p hp => ?_)⟩
      rw [hi] at hp
      (conv => whnf)
      refine ⟨rfl, hp.load ?_⟩
      (conv => whnf)
      refine ⟨rfl, Rows.idxN hx02 (by omega) (fun p3 y3 hp3 hy3 => ?_)⟩
      (conv => whnf)
      refine ⟨rfl, hp3.load ?_⟩
      (conv => whnf)
      refine ⟨rfl, Ints.idxN hx12 (by omega) (fun p2 hp2 => ?_)⟩
      rw [hj] at hp2
      (conv => whnf)
      refine ⟨rfl, hp2.load ?_⟩
      (conv => whnf)
      refine ⟨rfl, Ints.idxN hy3 (by omega) (fun p4 hp4 => ?_)⟩
      (conv => whnf)
      refine ⟨rfl, hp4.load ?_⟩
      rw [ent_eq]
      (conv => whnf)
      refine HLit.one ?_
      (conv => whnf)
      refine ⟨rfl, rfl, HApp.snocR O (by omega) (fun h3 r3 y5 B3 hr3 O3 => ?_)⟩
      have es : pickRow c o i (b + 1) = pickRow c o i b ++ [ent c i j] := by rw [pickRow_succ, hj]; rfl
      rw [← es] at O3
      (conv => whnf)
      refine HArith.fits (by omega) (by omega) ?_
      (conv => whnf)
      exact ⟨⟨b + 1, y5, r3, rfl, by omega, E2.but B3 hr, by omega, O3⟩, by show o.length - (b + 1) < o.length - b; omega⟩
    · have e : b = o.length := by omega
      subst e
      have er : pickTo c o (a + 1) = pickTo c o a ++ [pickRow c o i o.length] := by rw [pickTo_succ, hi]; rfl
      have F := O.own hr
      (conv => whnf)
      refine HLit.row F.one ?_
      (conv => whnf)
      refine ⟨rfl, rfl, HApp.snocM E OM E2 F (by omega) (fun h5 y5 E5 O5 => ?_)⟩
      rw [← er] at O5
      (conv => whnf)
      refine HArith.fits (by omega) (by omega) ?_
      (conv => whnf)
      exact ⟨⟨a + 1, y5, rfl, by omega, E5, O5⟩, by show o.length - (a + 1) < o.length - a; omega⟩
  · have e : a = o.length := by omega
    subst e
    (conv => whnf)
    exact ⟨_, rfl, E, OM⟩



set_option maxHeartbeats 1000000 in
theorem spec_EqualCartans (h : Heap) (x0 : H0) (a : List (List Int)) (x1 : H0) (b : List (List Int)) (hx0 : Rows h x0 a) (hx1 : Rows h x1 b) (n : Nat) (hn : n ≤ 4) (la : a.length = n) (lb : b.length = n) (ra : ∀ i, i < n → (a.getD i []).length = n) (rb : ∀ i, i < n → (b.getD i []).length = n) :
    HCalls dm Tryz.prog 225 [.s x0, .s x1] h (fun r h' => r = B (decide (a = b)) ∧ h' = h) := by
  have no : ∀ i, i < n → ∀ j, j < n → ent a i j ≠ ent b i j → decide (a = b) = false := fun i hi j hj hne => decide_eq_false fun e => hne (by rw [e])
  refine calls_of_hFun (m := 0) kd_ok mixed Tryz.func225 rfl (by kernel_rfl) rfl rfl (of_decide_eq_true rfl) ?_; unfold hFun; (conv => whnf)
  refine ⟨rfl, hx0.len ?_⟩
  (conv => whnf)
  refine ⟨rfl, hx1.len ?_⟩
  (conv => whnf)
  refine HIf.bneF (by omega) ?_
  (conv => whnf)
  refine HLoop.intro [5] [12, 13, 14, 15, 18, 19, 20, 21, 22, 23, 24, 25, 26, 27, 28, 4, 6, 29, 30, 31, 32, 33, 34, 35, 38, 39, 40, 41, 42, 43, 44, 45, 46, 47, 48, 49, 50, 51, 52, 4, 36, 37, 6, 16, 17, 5] (by kernel_rfl) (by kernel_rfl) (fun vs h' => ∃ i : Nat, vs = [I i] ∧ i ≤ n ∧ h' = h ∧ ∀ p, p < i → ∀ q, q < n → ent a p q = ent b p q) (fun vs _ => n - natAt vs 0) ⟨0, rfl, by omega, rfl, fun p hp => by omega⟩ ?_
  rintro vs h' ⟨i, rfl, hi, hh, hall⟩
  subst h'
  (conv => whnf)
  refine ⟨rfl, hx0.len ?_⟩
  (conv => whnf)
  refine HIf.dec (fun hlt => ?_) (fun hge => ?_)
  rotate_left
  · have e : i = n := by omega
    subst e
    (conv => whnf)
    exact ⟨bEq (by rw [decide_eq_true (mat_ext la lb ra rb hall)]), rfl⟩
  have hil : i < n := by omega
  have rai := ra i hil
  have rbi := rb i hil
  (conv => whnf)
  refine Or.inl (And.intro (show Region.lexB _ _ = true by kernel_rfl) ?_); (conv => whnf)
  refine ⟨rfl, Rows.idxN hx0 (by omega) (fun p y hp hy => ?_)⟩
  (conv => whnf)
  refine ⟨rfl, hp.load ?_⟩
  (conv => whnf)
  refine ⟨rfl, hy.len ?_⟩
  (conv => whnf)
  refine ⟨rfl, Rows.idxN hx1 (by omega) (fun p2 y2 hp2 hy2 => ?_)⟩
  (conv => whnf)
  refine ⟨rfl, hp2.load ?_⟩
  (conv => whnf)
  refine ⟨rfl, hy2.len ?_⟩
  (conv => whnf)
  refine HIf.bneF (by omega) ?_
  (conv => whnf)
  refine HLoop.intro [6] [29, 30, 31, 32, 33, 34, 35, 38, 39, 40, 41, 42, 43, 44, 45, 46, 47, 48, 49, 50, 51, 52, 4, 36, 37, 6] (by kernel_rfl) (by kernel_rfl) (fun vs h' => ∃ j : Nat, vs = [I j] ∧ j ≤ n ∧ h' = h ∧ ∀ q, q < j → ent a i q = ent b i q) (fun vs _ => n - natAt vs 0) ⟨0, rfl, by omega, rfl, fun p hp => by omega⟩ ?_
  clear hp hy hp2 hy2
  rintro vs h' ⟨j, rfl, hj, hh, hrow⟩
  subst h'
  (conv => whnf)
  refine ⟨rfl, Rows.idxN hx0 (by omega) (fun p y hp hy => ?_)⟩
  (conv => whnf)
  refine ⟨rfl, hp.load ?_⟩
  (conv => whnf)
  refine ⟨rfl, hy.len ?_⟩
  (conv => whnf)
  refine HIf.dec (fun hlt2 => ?_) (fun hge2 => ?_)
  rotate_left
  · have e : j = n := by omega
    subst e
    (conv => whnf)
    refine HArith.fits (by omega) (by omega) ?_
    (conv => whnf)
    exact ⟨⟨i + 1, rfl, by omega, rfl, fun p hp q hq => by
      by_cases e : p = i
      · subst e; exact hrow q hq
      · exact hall p (by omega) q hq⟩, by show j - (i + 1) < j - i; omega⟩
  have hjl : j < n := by omega
  (conv => whnf)
  refine Or.inl (And.intro (show Region.lexB _ _ = true by kernel_rfl) ?_); (conv => whnf)
  refine ⟨rfl, Rows.idxN hx0 (by omega) (fun p3 y3 hp3 hy3 => ?_)⟩
  (conv => whnf)
  refine ⟨rfl, hp3.load ?_⟩
  (conv => whnf)
  refine ⟨rfl, Ints.idxN hy3 (by omega) (fun p4 hp4 => ?_)⟩
  (conv => whnf)
  refine ⟨rfl, hp4.load ?_⟩
  (conv => whnf)
  refine ⟨rfl, Rows.idxN hx1 (by omega) (fun p5 y5 hp5 hy5 => ?_)⟩
  (conv => whnf)
  refine ⟨rfl, hp5.load ?_⟩
  (conv => whnf)
  refine ⟨rfl, Ints.idxN hy5 (by omega) (fun p6 hp6 => ?_)⟩
  (conv => whnf)
  refine ⟨rfl, hp6.load ?_⟩
  (conv => whnf)
  refine HIf.bne (fun hne => ?_) (fun he => ?_)
  · (conv => whnf)
    exact ⟨bEq (by rw [no i hil j hjl hne]), rfl⟩
  · (conv => whnf)
    refine HArith.fits (by omega) (by omega) ?_
    (conv => whnf)
    exact ⟨⟨j + 1, rfl, by omega, rfl, fun q hq => by
      by_cases e : q = j
      · subst e; exact he
      · exact hrow q (by omega)⟩, by show n - (j + 1) < n - j; omega⟩

set_option maxHeartbeats 1000000 in
theorem spec_AreIsomorphic (h : Heap) (x0 : H0) (a : List (List Int)) (x1 : H0) (b : List (List Int)) (hx0 : Rows h x0 a) (hx1 : Rows h x1 b) (ha : isCartan a = true) (hb : isCartan b = true) :
    HCalls dm Tryz.prog 183 [.s x0, .s x1] h (fun r h' => ∃ y, r = T2 y (isoB a b) ∧ Ext h h') := by
  have hA := (isCartan_iff a).1 ha
  have hB := (isCartan_iff b).1 hb
  have ha4 := hA.le
  have hb4 := hB.le
  obtain ⟨V, hV⟩ : ∃ V, V = isoB a b := ⟨_, rfl⟩
  rw [← hV]
  refine calls_of_hFun (m := 0) kd_ok mixed Tryz.func183 rfl (by kernel_rfl) rfl rfl (of_decide_eq_true rfl) ?_; unfold hFun; (conv => whnf)
  refine (spec_IsCartan _ _ _ hx0 (by omega)).mono ?_
  rintro r h1 ⟨rfl, hh⟩
  subst h1
  rw [ha]
  (conv => whnf)
  (repeat (first | (refine HIf.yes ?_; conv => whnf) | (refine HIf.no ?_; conv => whnf)))
  refine (spec_IsCartan _ _ _ hx1 (by omega)).mono ?_
  rintro r h1 ⟨rfl, hh⟩
  subst h1
  rw [hb]
  (conv => whnf)
  (repeat (first | (refine HIf.yes ?_; conv => whnf) | (refine HIf.no ?_; conv => whnf) | (refine ⟨rfl, hx0.len ?_⟩; conv => whnf) | (refine ⟨rfl, hx1.len ?_⟩; conv => whnf)))
  by_cases hl : (a.length : Int) = (b.length : Int)
  rotate_left
  · refine HIf.bneT hl ?_
    (conv => whnf)
    refine HLit.empty ?_
    (conv => whnf)
    have : V = false := by rw [hV, isoB_offl (Or.inr (Or.inr (by omega)))]
    rw [this]
    exact ⟨_, rfl, Ext.push _ _⟩
  have hln : a.length = b.length := by omega
  refine HIf.bneF hl ?_
  (conv => whnf)
  refine ⟨rfl, hx0.len ?_⟩
  (conv => whnf)
  refine (spec_l3Orders _ a.length ha4).mono ?_
  rintro r h2 ⟨yl, rfl, E2, O2⟩
  have hlen := ordL_len a.length a.length
  have hpow : a.length ^ a.length ≤ 256 := by
    have h1 : a.length ^ a.length ≤ 4 ^ a.length := Nat.pow_le_pow_left ha4 _
    have h2 : 4 ^ a.length ≤ 4 ^ 4 := Nat.pow_le_pow_right (by omega) ha4
    have : 4 ^ 4 = 256 := rfl
    omega
  have iff := isoB_on ha hb hln
  rw [← hV] at iff
  have hmem : ∀ k, k < (ordL a.length a.length).length → ((ordL a.length a.length).getD k []).length = a.length ∧ OrdOk a.length ((ordL a.length a.length).getD k []) := fun k hk => mem_ordL.1 (getD_mem hk)
  generalize ordL a.length a.length = L at *
  (conv => whnf)
  refine HLoop.intro [7] [29, 30, 31, 32, 36, 37, 38, 39, 40, 41, 35, 42, 43, 8, 9, 44, 45, 46, 47, 48, 49, 50, 4, 5, 33, 34, 7] (by kernel_rfl) (by kernel_rfl) (fun vs h' => ∃ k : Nat, vs = [I k] ∧ k ≤ L.length ∧ Ext h2 h' ∧ ∀ t, t < k → subM a (L.getD t []) ≠ b) (fun vs _ => L.length - natAt vs 0) ⟨0, rfl, by omega, Ext.refl _, fun t ht => by omega⟩ ?_
  rintro vs h' ⟨k, rfl, hk, E, hno⟩
  have R := (O2.ext E).rows
  have E02 := E2.trans E
  (conv => whnf)
  refine ⟨rfl, R.len ?_⟩
  (conv => whnf)
  refine HIf.dec (fun hlt => ?_) (fun hge => ?_)
  rotate_left
  · have : V = false := by
      cases hv : V
      · rfl
      · obtain ⟨o, ho, e⟩ := iff.1 hv
        obtain ⟨t, ht, et⟩ := List.getElem_of_mem ho
        have e2 : L.getD t [] = o := by simp [List.getD, ht, et]
        exact absurd (by rw [e2]; exact e) (hno t (by omega))
    rw [this]
    (conv => whnf)
    refine HLit.empty ?_
    (conv => whnf)
    exact ⟨_, rfl, E02.pushed _⟩
  have hkl : k < L.length := by omega
  obtain ⟨hol, hok⟩ := hmem k hkl
  have hin := getD_mem hkl
  generalize hgo : L.getD k [] = o at *
  (conv => whnf)
  refine ⟨rfl, R.idxN hkl (fun p y hp hy => ?_)⟩
  rw [hgo] at hy
  (conv => whnf)
  refine ⟨rfl, hp.load ?_⟩
  (conv => whnf)
  refine (spec_RelabelCartan _ _ a _ o (hx0.ext E02) hy ha hok hol).mono ?_
  rintro r h3 ⟨y3, rfl, E3, O3⟩
  rw [pick_sub] at O3
  (conv => whnf)
  refine (spec_EqualCartans _ _ _ _ b O3.rows (hx1.ext (E02.trans E3)) a.length ha4 (by rw [subM_len, hol]) hln.symm (fun i hi => by rw [subM_row (by omega)]; simpa using hol) (fun i hi => by rw [hB.row i (by omega), hln])).mono ?_
  rintro r h4 ⟨rfl, hh⟩
  subst h4
  (conv => whnf)
  refine HIf.dec (fun he => ?_) (fun hne => ?_)
  · have : V = true := iff.2 ⟨o, hin, he⟩
    rw [this]
    (conv => whnf)
    refine ⟨rfl, (R.ext E3).idxN hkl (fun p2 y2 hp2 hy2 => ?_)⟩
    (conv => whnf)
    refine ⟨rfl, hp2.load ?_⟩
    (conv => whnf)
    exact ⟨_, rfl, E02.trans E3⟩
  · (conv => whnf)
    refine HArith.fits (by omega) (by omega) ?_
    (conv => whnf)
    exact ⟨⟨k + 1, rfl, by omega, E.trans E3, fun t ht => by
      by_cases e : t = k
      · subst e; rw [hgo]; exact hne
      · exact hno t (by omega)⟩, by show L.length - (k + 1) < L.length - k; omega⟩

end Go.Proofs.YtgliajcgcbnemaaGreatDoor.Hx
