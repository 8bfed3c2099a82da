/-
  The reference's named matrices: chains, entries set anew, two matrices side by side.
  Isomorphic matrices, parts as matrices, names of types: in plain words.
-/
import Derived.Test.YtgliajcgcbnemaaGreatDoorZ20
namespace Go.Proofs.YtgliajcgcbnemaaGreatDoor.Hx
open Go.RowKit
variable {dm : Bool}

def chainR (n i : Nat) : List Int :=
  let r1 := (List.replicate n (0 : Int)).set i 2
  let r2 := if 0 < i then r1.set (i - 1) (-1) else r1
  if i + 1 < n then r2.set (i + 1) (-1) else r2
def chainTo (n k : Nat) : List (List Int) := (List.range k).map (chainR n)
def chainC (n : Nat) : List (List Int) := chainTo n n
def setM (L : List (List Int)) (i j : Nat) (a : Int) : List (List Int) := L.set i ((L.getD i []).set j a)
def setC (L : List (List Int)) (i j : Nat) (a b : Int) : List (List Int) := setM (setM L i j a) j i b
def zerosL (n : Nat) : List Int := List.replicate n 0
def joinTo1 (a b : List (List Int)) (k : Nat) : List (List Int) := (List.range k).map fun i => a.getD i [] ++ zerosL b.length
def joinTo2 (a b : List (List Int)) (k : Nat) : List (List Int) := joinTo1 a b a.length ++ (List.range k).map fun i => zerosL a.length ++ b.getD i []
def joinC (a b : List (List Int)) : List (List Int) := joinTo2 a b b.length

theorem chainR_length (n i : Nat) : (chainR n i).length = n := by
  unfold chainR
  simp only
  split <;> split <;> simp
theorem chainTo_length (n k : Nat) : (chainTo n k).length = k := by simp [chainTo]
theorem chainTo_succ (n k : Nat) : chainTo n (k + 1) = chainTo n k ++ [chainR n k] := by simp [chainTo, List.range_succ]
theorem setM_length (L : List (List Int)) (i j : Nat) (a : Int) : (setM L i j a).length = L.length := by simp [setM]
theorem setM_get {L : List (List Int)} {i : Nat} (hi : i < L.length) (j : Nat) (a : Int) (k : Nat) : (setM L i j a).getD k [] = if k = i then (L.getD i []).set j a else L.getD k [] := by
  unfold setM
  by_cases hk : k = i
  · subst hk
    simp [List.getD, hi]
  · rw [if_neg hk]
    simp [List.getD, List.getElem?_set_ne (Ne.symm hk)]
theorem setM_row {L : List (List Int)} {i : Nat} (hi : i < L.length) (j : Nat) (a : Int) (k : Nat) : ((setM L i j a).getD k []).length = (L.getD k []).length := by
  rw [setM_get hi]
  split
  · rename_i h
    subst h
    simp
  · rfl
theorem joinTo1_length (a b : List (List Int)) (k : Nat) : (joinTo1 a b k).length = k := by simp [joinTo1]
theorem joinTo1_succ (a b : List (List Int)) (k : Nat) : joinTo1 a b (k + 1) = joinTo1 a b k ++ [a.getD k [] ++ zerosL b.length] := by simp [joinTo1, List.range_succ]
theorem joinTo2_succ (a b : List (List Int)) (k : Nat) : joinTo2 a b (k + 1) = joinTo2 a b k ++ [zerosL a.length ++ b.getD k []] := by simp [joinTo2, List.range_succ]
theorem joinTo2_none (a b : List (List Int)) : joinTo2 a b 0 = joinTo1 a b a.length := by simp [joinTo2]
theorem joinTo2_length (a b : List (List Int)) (k : Nat) : (joinTo2 a b k).length = a.length + k := by simp [joinTo2, joinTo1]

/-- One cell of one's own slice written anew. -/
theorem OwnR.put {r : Nat} {h : Heap} {x : H0} {l : List Int} (O : OwnR r h x l) {o : Nat} (ho : o < l.length) {v : Int} {K : HV → Heap → Prop} (hK : ∀ h', But r h h' → h'.length = h.length → OwnR r h' x (l.set o v) → K .dead h') : HStore h (.s (.ptr r o)) (I v) K := by
  have hlt := O.lt
  obtain ⟨t, rfl, hr⟩ := O
  refine HStore.own hr (by simp; omega) rfl (hK _ ⟨by simp, fun q hq hn => by rw [List.getElem?_set_ne (Ne.symm hn)]⟩ (by simp) ⟨t, by simp, ?_⟩)
  rw [List.getElem?_set_self hlt, List.set_append_left _ _ (by simpa using ho), List.map_set]

theorem OwnR.idx {r : Nat} {h : Heap} {x : H0} {l : List Int} (O : OwnR r h x l) {j : Int} (h0 : 0 ≤ j) (h1 : j < l.length) {k : IntKind} {K : HV → Prop} (hK : K (.s (.ptr r j.toNat))) : HIdx h (.s x) (.s (.pl (.int k j))) K := by
  obtain ⟨t, rfl, hr⟩ := O
  exact HIdx.sl h0 h1 (by rw [Nat.zero_add]; exact hK)

/-- One cell of a slice of slices of one's own written anew. -/
theorem MatAt.put {h : Heap} {r : Nat} {ρ : Nat → Nat} {L : List (List Int)} (m : MatAt h r ρ L) {i o : Nat} (hi : i < L.length) (ho : o < (L.getD i []).length) {v : Int} {K : HV → Heap → Prop}
    (hK : ∀ h', h'.length = h.length → KeepN (fun q => q = ρ i) h h' → MatAt h' r ρ (setM L i o v) → K .dead h') : HStore h (.s (.ptr (ρ i) o)) (I v) K := by
  obtain ⟨t, ht⟩ := m.inner i hi
  have hlt := get_lt ht
  refine HStore.own ht (by simp only [List.length_append, List.length_map]; omega) rfl (hK _ (by simp) ⟨by simp, fun q hq hn => by rw [List.getElem?_set_ne (Ne.symm hn)]⟩ ⟨?_, fun k hk => ?_, fun k hk => ?_, fun k j hkj hj => ?_⟩)
  · obtain ⟨cs, g1, g2, g3⟩ := m.outer
    refine ⟨cs, by rw [List.getElem?_set_ne (m.ne i hi)]; exact g1, by rw [setM_length]; exact g2, fun k hk => ?_⟩
    rw [setM_length] at hk
    rw [setM_row hi]
    exact g3 k hk
  · rw [setM_length] at hk
    rw [setM_get hi]
    by_cases hki : k = i
    · subst hki
      refine ⟨t, ?_⟩
      rw [if_pos rfl, List.getElem?_set_self hlt, List.set_append_left _ _ (by simpa using ho), List.map_set]
    · obtain ⟨t2, ht2⟩ := m.inner k hk
      refine ⟨t2, ?_⟩
      have hne : ρ i ≠ ρ k := by
        rcases Nat.lt_or_gt_of_ne hki with h | h
        · exact fun e => m.inj k i h hi e.symm
        · exact m.inj i k h hk
      rw [if_neg hki, List.getElem?_set_ne hne]
      exact ht2
  · exact m.ne k (by simpa [setM_length] using hk)
  · exact m.inj k j hkj (by simpa [setM_length] using hj)

/-- One slice of a slice of slices of one's own put in anew. -/
theorem MatAt.putRow {h : Heap} {r : Nat} {ρ : Nat → Nat} {L : List (List Int)} (m : MatAt h r ρ L) {i q : Nat} (hi : i < L.length) {y : H0} {l : List Int} (O : OwnR q h y l) (hq : q ≠ r) (hqs : ∀ k, k < L.length → q ≠ ρ k) {K : HV → Heap → Prop}
    (hK : ∀ h', h'.length = h.length → KeepN (fun q => q = r) h h' → MatAt h' r (fun k => if k = i then q else ρ k) (L.set i l) → K .dead h') : HStore h (.s (.ptr r i)) (.s y) K := by
  obtain ⟨cs, g1, g2, g3⟩ := m.outer
  obtain ⟨t, rfl, hr⟩ := O
  have hlt := get_lt g1
  have gd : ∀ k, (L.set i l).getD k [] = if k = i then l else L.getD k [] := fun k => by
    by_cases hk : k = i
    · subst hk
      simp [List.getD, hi]
    · rw [if_neg hk]
      simp [List.getD, List.getElem?_set_ne (Ne.symm hk)]
  refine HStore.own g1 (by omega) rfl (hK _ (by simp) ⟨by simp, fun q hq hn => by rw [List.getElem?_set_ne (Ne.symm hn)]⟩ ⟨⟨_, List.getElem?_set_self hlt, by simpa using g2, fun k hk => ?_⟩, fun k hk => ?_, fun k hk => ?_, fun k j hkj hj => ?_⟩)
  · rw [gd]
    simp only [List.length_set] at hk
    by_cases hki : k = i
    · subst hki
      rw [List.getElem?_set_self (by omega), if_pos rfl, if_pos rfl]
    · rw [List.getElem?_set_ne (Ne.symm hki), if_neg hki, if_neg hki]
      exact g3 k hk
  · rw [gd]
    simp only [List.length_set] at hk
    by_cases hki : k = i
    · subst hki
      rw [if_pos rfl, if_pos rfl]
      exact ⟨t, by rw [List.getElem?_set_ne (Ne.symm hq)]; exact hr⟩
    · obtain ⟨t2, ht2⟩ := m.inner k hk
      rw [if_neg hki, if_neg hki]
      exact ⟨t2, by rw [List.getElem?_set_ne (Ne.symm (m.ne k hk))]; exact ht2⟩
  · simp only [List.length_set] at hk
    show (if k = i then q else ρ k) ≠ r
    by_cases hki : k = i
    · rw [if_pos hki]; exact hq
    · rw [if_neg hki]; exact m.ne k hk
  · simp only [List.length_set] at hj
    show (if k = i then q else ρ k) ≠ (if j = i then q else ρ j)
    by_cases hki : k = i
    · rw [if_pos hki, if_neg (by omega)]
      exact hqs j hj
    · by_cases hji : j = i
      · rw [if_neg hki, if_pos hji]
        exact fun e => hqs k (by omega) e.symm
      · rw [if_neg hki, if_neg hji]
        exact m.inj k j hkj hj

/-- Zeros, appended to one's own slice. -/
theorem HAppZ2.ints {r : Nat} {h : Heap} {y : H0} {l : List Int} {n : Int} {K : HV → Heap → Prop} (H : OwnR r h y l) (h0 : 0 < n) (hn : (l.length : Int) + n ≤ 1048576)
    (hK : ∀ h' r' y', But r h h' → h.length ≤ r' → OwnR r' h' y' (l ++ zerosL n.toNat) → K (.s y') h') : HAppZ2 (.int .i64 0) h (.s y) (I n) K := by
  obtain ⟨t, rfl, hr⟩ := H
  refine ⟨.i64, n.toNat, r, l.length, _, rfl, by rw [Int.toNat_of_nonneg (by omega)], by omega, by omega, hr, by simp, ?_⟩
  have e1 : l.length + n.toNat = (l ++ zerosL n.toNat).length := by simp [zerosL]
  have e2 : (l.map ci ++ t).take l.length ++ List.replicate n.toNat (H0.pl (.int .i64 0)) = (l ++ zerosL n.toNat).map ci := by
    rw [List.take_append_of_le_length (by simp), List.take_of_length_le (by simp)]
    simp [zerosL]
  rw [e1, e2]
  refine hK _ h.length _ ⟨by simp, fun q hq hn => ?_⟩ (Nat.le_refl _) ⟨[], rfl, ?_⟩
  · rw [List.getElem?_append_left (by simpa using hq), List.getElem?_set_ne (Ne.symm hn)]
  · rw [List.getElem?_append_right (by simp)]
    simp

theorem OwnM.keep {F : Nat → Prop} {b e : Nat} {h h' : Heap} {x : H0} {L : List (List Int)} (H : OwnM b e h x L) (k : KeepN F h h') (hf : ∀ q, b ≤ q → q < e → ¬ F q) : OwnM b e h' x L := by
  obtain ⟨r, ρ, g1, g2, g3, g4, m⟩ := H
  exact ⟨r, ρ, g1, g2, g3, g4, m.move (k.2 r m.lt.1 (hf r g2 g3)) (fun i hi => k.2 _ (m.lt.2 i hi) (hf _ (g4 i hi).1 (g4 i hi).2))⟩

theorem OwnM.rowsN {F : Nat → Prop} {b e : Nat} {h : Heap} {x : H0} {L : List (List Int)} (H : OwnM b e h x L) (hf : ∀ q, b ≤ q → q < e → ¬ F q) : RowsN F h x L := by
  obtain ⟨r, ρ, rfl, g2, g3, g4, m⟩ := H
  obtain ⟨cs, h1, h2, h3⟩ := m.outer
  refine ⟨(cs.drop 0).take L.length, Shows.own r 0 L.length cs h1 (by omega), fun r' o n e => by cases e; exact hf _ g2 g3, by simp; omega, fun i y l hy hl => ?_⟩
  have hi : i < L.length := (List.getElem?_eq_some_iff.1 hl).1
  rw [List.drop_zero, List.getElem?_take_of_lt hi, h3 i hi] at hy
  cases hy
  obtain ⟨t, ht⟩ := m.inner i hi
  have e : L.getD i [] = l := by simp [List.getD, hl]
  rw [e] at ht ⊢
  exact ⟨Ints.ofOwn ht, fun r' o n e => by cases e; exact hf _ (g4 i hi).1 (g4 i hi).2⟩

/-- Two texts compared. -/
theorem HStr.eql {a b : ByteArray} {K : HV → Prop} (hK : K (B (a.toList == b.toList))) : HStr .eql a b K := ⟨_, fun _ _ => rfl, hK⟩
theorem HIf.str {a b : ByteArray} {A C : Prop} (h1 : a = b → A) (h2 : a ≠ b → C) : HIf (a.toList == b.toList) A C := by
  refine HIf.split (fun h => h1 ?_) (fun h => h2 (fun e => ?_))
  · rw [ByteArray.toList_eq, ByteArray.toList_eq] at h
    exact Go.WideShapes.bytes_inj (by simpa using h)
  · subst e
    simp at h
theorem HIf.strT {a b : ByteArray} {A C : Prop} (e : a = b) (h : A) : HIf (a.toList == b.toList) A C := HIf.str (fun _ => h) (fun k => absurd e k)
theorem HIf.strF {a b : ByteArray} {A C : Prop} (e : a ≠ b) (h : C) : HIf (a.toList == b.toList) A C := HIf.str (fun k => absurd k e) (fun _ => h)

/-- The names of which the reference draws. -/
def namesT : List ByteArray := [⟨#[65, 49]⟩, ⟨#[65, 50]⟩, ⟨#[65, 51]⟩, ⟨#[65, 52]⟩, ⟨#[66, 50]⟩, ⟨#[66, 51]⟩, ⟨#[66, 52]⟩, ⟨#[67, 51]⟩, ⟨#[67, 52]⟩, ⟨#[68, 52]⟩, ⟨#[70, 52]⟩, ⟨#[71, 50]⟩, ⟨#[65, 49, 126]⟩, ⟨#[65, 50, 126]⟩, ⟨#[65, 51, 126]⟩, ⟨#[67, 50, 126]⟩, ⟨#[71, 50, 126]⟩]
theorem cartA1 : isCartan (chainC 1) = true := by decide +kernel
theorem cartA2 : isCartan (chainC 2) = true := by decide +kernel
theorem cartA3 : isCartan (chainC 3) = true := by decide +kernel
theorem cartA4 : isCartan (chainC 4) = true := by decide +kernel
theorem cartB2 : isCartan (setC (chainC 2) 0 1 (-1) (-2)) = true := by decide +kernel
theorem cartB3 : isCartan (setC (chainC 3) 1 2 (-1) (-2)) = true := by decide +kernel
theorem cartB4 : isCartan (setC (chainC 4) 2 3 (-1) (-2)) = true := by decide +kernel
theorem cartC3 : isCartan (setC (chainC 3) 1 2 (-2) (-1)) = true := by decide +kernel
theorem cartC4 : isCartan (setC (chainC 4) 2 3 (-2) (-1)) = true := by decide +kernel
theorem cartD4 : isCartan (setC (setC (chainC 4) 2 3 0 0) 1 3 (-1) (-1)) = true := by decide +kernel
theorem cartF4 : isCartan (setC (chainC 4) 1 2 (-1) (-2)) = true := by decide +kernel
theorem cartG2 : isCartan (setC (chainC 2) 0 1 (-1) (-3)) = true := by decide +kernel
theorem cartA1t : isCartan (setC (chainC 2) 0 1 (-2) (-2)) = true := by decide +kernel
theorem cartA2t : isCartan (setC (chainC 3) 0 2 (-1) (-1)) = true := by decide +kernel
theorem cartA3t : isCartan (setC (chainC 4) 0 3 (-1) (-1)) = true := by decide +kernel
theorem cartC2t : isCartan (setC (setC (chainC 3) 0 1 (-1) (-2)) 1 2 (-2) (-1)) = true := by decide +kernel
theorem cartG2t : isCartan (setC (chainC 3) 1 2 (-1) (-3)) = true := by decide +kernel

/-- A matrix as the draws make them: square, of one to four points. -/
structure Shape (L : List (List Int)) : Prop where
  pos : 1 ≤ L.length
  le : L.length ≤ 4
  row : ∀ k, k < L.length → (L.getD k []).length = L.length

theorem Shape.of {L : List (List Int)} (h : isCartan L = true) : Shape L := by
  have := (isCartan_iff L).1 h
  exact ⟨this.pos, this.le, this.row⟩
theorem tot_rows {n : Nat} {L : List (List Int)} (h : ∀ k, k < L.length → (L.getD k []).length ≤ n) : tot L ≤ n * L.length :=
  tot_le n L (fun l hl => by
    obtain ⟨i, hi, e⟩ := List.getElem_of_mem hl
    have := h i hi
    have e2 : L.getD i [] = l := by simp [List.getD, hi, e]
    rw [e2] at this
    exact this)
theorem Shape.tot {L : List (List Int)} (h : Shape L) : tot L ≤ 16 := by
  have h1 := tot_rows (n := 4) (L := L) (fun k hk => by rw [h.row k hk]; exact h.le)
  have := h.le
  omega
theorem Shape.set {L : List (List Int)} (h : Shape L) {i j : Nat} (hi : i < L.length) (hj : j < L.length) (a b : Int) : Shape (setC L i j a b) := by
  unfold setC
  refine ⟨?_, ?_, fun k hk => ?_⟩
  · rw [setM_length, setM_length]; exact h.pos
  · rw [setM_length, setM_length]; exact h.le
  · rw [setM_length, setM_length] at hk
    rw [setM_length, setM_length, setM_row (by rw [setM_length]; exact hj), setM_row hi]
    exact h.row k hk

set_option smartUnfolding false

theorem spec_l2Chain (h : Heap) (n : Nat) (hn : n ≤ 4) : HCalls dm Tryz.prog 222 [I n] h (fun r h' => ∃ y, r = .s y ∧ Ext h h' ∧ OwnM h.length h'.length h' y (chainC n)) := by
  refine calls_of_hFun (m := 0) kd_ok mixed Tryz.func222 rfl (by kernel_rfl) rfl rfl (of_decide_eq_true rfl) ?_; unfold hFun; (conv => whnf)
  refine HLit.empty ?_
  (conv => whnf)
  refine HLoop.intro [4, 3] [7, 8, 9, 12, 13, 5, 14, 15, 16, 17, 18, 19, 20, 21, 22, 23, 24, 25, 26, 27, 28, 29, 30, 31, 32, 33, 34, 3, 10, 11, 4] (by kernel_rfl) (by kernel_rfl) (fun vs h' => ∃ (k : Nat) (z : H0), vs = [I k, .s z] ∧ k ≤ n ∧ Ext h h' ∧ OwnM h.length h'.length h' z (chainTo n k)) (fun vs _ => n - natAt vs 0) ⟨0, _, rfl, by omega, Ext.push _ _, OwnM.none h⟩ ?_
  rintro vs h' ⟨k, z, rfl, hk, E, O⟩
  have hcl := chainTo_length n k
  (conv => whnf)
  refine HIf.dec (fun hlt => ?_) (fun hge => ?_)
  · (conv => whnf)
    refine HMake.ints n rfl (by omega) ?_
    have O1 : OwnR h'.length (h' ++ [.own (List.replicate n (ci 0))]) (.sl h'.length 0 n) (List.replicate n (0 : Int)) := ⟨[], by simp, by rw [get_new]; simp⟩
    have E1 := Ext.push h' [.own (List.replicate n (ci 0))]
    generalize h' ++ [Row.own (List.replicate n (ci 0))] = h1 at O1 E1 ⊢
    have hE1 := E1.1
    have hrl : (List.replicate n (0 : Int)).length = n := by simp
    (conv => whnf)
    refine ⟨rfl, O1.idx (by omega) (by omega) ?_⟩
    (conv => whnf)
    refine ⟨rfl, O1.put (o := k) (by omega) (fun h2 B2 n2 O2 => ?_)⟩
    have E2 := E1.but B2 (Nat.le_refl _)
    have l2 : (((List.replicate n (0 : Int)).set k 2)).length = n := by simp
    (conv => whnf)
    refine HIf.dec (fun h0 => ?_) (fun h0 => ?_)
    · (conv => whnf)
      refine HArith.fits (by omega) (by omega) ?_
      (conv => whnf)
      refine ⟨rfl, O2.idx (by omega) (by omega) ?_⟩
      (conv => whnf)
      refine ⟨rfl, O2.put (by omega) (fun h3 B3 n3 O3 => ?_)⟩
      have E3 := E2.but B3 (Nat.le_refl _)
      have e3 : ((k : Int) - 1).toNat = k - 1 := by omega
      rw [e3] at O3
      have l3 : ((((List.replicate n (0 : Int)).set k 2)).set (k - 1) (-1)).length = n := by simp
      (conv => whnf)
      refine HArith.fits (by omega) (by omega) ?_
      (conv => whnf)
      refine HIf.dec (fun h1 => ?_) (fun h1 => ?_)
      · (conv => whnf)
        refine HArith.fits (by omega) (by omega) ?_
        (conv => whnf)
        refine ⟨rfl, O3.idx (by omega) (by omega) ?_⟩
        (conv => whnf)
        refine ⟨rfl, O3.put (by omega) (fun h4 B4 n4 O4 => ?_)⟩
        have E4 := E3.but B4 (Nat.le_refl _)
        have e4 : ((k : Int) + 1).toNat = k + 1 := by omega
        have e5 : (((((List.replicate n (0 : Int)).set k 2)).set (k - 1) (-1)).set ((k : Int) + 1).toNat (-1)) = chainR n k := by
          rw [e4]
          unfold chainR
          simp only
          rw [if_pos (by omega), if_pos (by omega)]
        rw [e5] at O4
        (conv => whnf)
        refine HLit.row (O4.own (Nat.zero_le _)).one ?_
        (conv => whnf)
        refine ⟨rfl, rfl, HApp.snocM E O E4 (O4.own (by omega)) (by omega) (fun h6 y6 E6 O6 => ?_)⟩
        rw [← chainTo_succ] at O6
        (conv => whnf)
        refine HArith.fits (by omega) (by omega) ?_
        (conv => whnf)
        exact ⟨⟨k + 1, y6, rfl, by omega, E6, O6⟩, by show n - (k + 1) < n - k; omega⟩
      · have e5 : ((((List.replicate n (0 : Int)).set k 2)).set (k - 1) (-1)) = chainR n k := by
          unfold chainR
          simp only
          rw [if_neg (by omega), if_pos (by omega)]
        rw [e5] at O3
        (conv => whnf)
        refine HLit.row (O3.own (Nat.zero_le _)).one ?_
        (conv => whnf)
        refine ⟨rfl, rfl, HApp.snocM E O E3 (O3.own (by omega)) (by omega) (fun h6 y6 E6 O6 => ?_)⟩
        rw [← chainTo_succ] at O6
        (conv => whnf)
        refine HArith.fits (by omega) (by omega) ?_
        (conv => whnf)
        exact ⟨⟨k + 1, y6, rfl, by omega, E6, O6⟩, by show n - (k + 1) < n - k; omega⟩
    · (conv => whnf)
      refine HArith.fits (by omega) (by omega) ?_
      (conv => whnf)
      refine HIf.dec (fun h1 => ?_) (fun h1 => ?_)
      · (conv => whnf)
        refine HArith.fits (by omega) (by omega) ?_
        (conv => whnf)
        refine ⟨rfl, O2.idx (by omega) (by omega) ?_⟩
        (conv => whnf)
        refine ⟨rfl, O2.put (by omega) (fun h4 B4 n4 O4 => ?_)⟩
        have E4 := E2.but B4 (Nat.le_refl _)
        have e4 : ((k : Int) + 1).toNat = k + 1 := by omega
        have e5 : (((List.replicate n (0 : Int)).set k 2)).set ((k : Int) + 1).toNat (-1) = chainR n k := by
          rw [e4]
          unfold chainR
          simp only
          rw [if_pos (by omega), if_neg (by omega)]
        rw [e5] at O4
        (conv => whnf)
        refine HLit.row (O4.own (Nat.zero_le _)).one ?_
        (conv => whnf)
        refine ⟨rfl, rfl, HApp.snocM E O E4 (O4.own (by omega)) (by omega) (fun h6 y6 E6 O6 => ?_)⟩
        rw [← chainTo_succ] at O6
        (conv => whnf)
        refine HArith.fits (by omega) (by omega) ?_
        (conv => whnf)
        exact ⟨⟨k + 1, y6, rfl, by omega, E6, O6⟩, by show n - (k + 1) < n - k; omega⟩
      · have e5 : (((List.replicate n (0 : Int)).set k 2)) = chainR n k := by
          unfold chainR
          simp only
          rw [if_neg (by omega), if_neg (by omega)]
        rw [e5] at O2
        (conv => whnf)
        refine HLit.row (O2.own (Nat.zero_le _)).one ?_
        (conv => whnf)
        refine ⟨rfl, rfl, HApp.snocM E O E2 (O2.own (by omega)) (by omega) (fun h6 y6 E6 O6 => ?_)⟩
        rw [← chainTo_succ] at O6
        (conv => whnf)
        refine HArith.fits (by omega) (by omega) ?_
        (conv => whnf)
        exact ⟨⟨k + 1, y6, rfl, by omega, E6, O6⟩, by show n - (k + 1) < n - k; omega⟩
  · have e : k = n := by omega
    subst e
    (conv => whnf)
    exact ⟨_, rfl, E, O⟩

theorem spec_l2Set (h : Heap) (x : H0) (L : List (List Int)) (i j : Nat) (a b : Int) (hx : Rows h x L) (hL : L.length ≤ 1048576 ∧ tot L ≤ 1048576) (hi : i < L.length) (hj : j < L.length) (hij : j < (L.getD i []).length) (hji : i < (L.getD j []).length) :
    HCalls dm Tryz.prog 218 [.s x, I i, I j, I a, I b] h (fun r h' => ∃ y, r = .s y ∧ Ext h h' ∧ OwnM h.length h'.length h' y (setC L i j a b)) := by
  refine calls_of_hFun (m := 0) kd_ok mixed Tryz.func218 rfl (by kernel_rfl) rfl rfl (of_decide_eq_true rfl) ?_; unfold hFun; (conv => whnf)
  refine (spec_l2Copy _ _ _ hx hL).mono ?_
  rintro r h1 ⟨y, rfl, E1, O1⟩
  obtain ⟨r0, ρ, rfl, hb, he, hρ, m⟩ := O1
  (conv => whnf)
  refine ⟨rfl, m.idx hi (fun p hp => ?_)⟩
  (conv => whnf)
  refine ⟨rfl, hp.load ?_⟩
  (conv => whnf)
  refine ⟨rfl, (m.inner' hi).idx (by omega) (by omega) ?_⟩
  (conv => whnf)
  refine ⟨rfl, m.put hi hij (fun h2 n2 k2 m2 => ?_)⟩
  have E2 : Ext h h2 := k2.ext (fun q e => by have := hρ i hi; omega) E1
  have hj2 : j < (setM L i j a).length := by rw [setM_length]; exact hj
  have hl2 : (setM L i j a).length = L.length := setM_length _ _ _ _
  have hji2 : i < ((setM L i j a).getD j []).length := by rw [setM_row hi]; exact hji
  rw [← hl2]
  (conv => whnf)
  refine ⟨rfl, m2.idx hj2 (fun p hp => ?_)⟩
  (conv => whnf)
  refine ⟨rfl, hp.load ?_⟩
  (conv => whnf)
  refine ⟨rfl, (m2.inner' hj2).idx (by omega) (by omega) ?_⟩
  (conv => whnf)
  refine ⟨rfl, m2.put hj2 hji2 (fun h3 n3 k3 m3 => ?_)⟩
  have E3 : Ext h h3 := k3.ext (fun q e => by have := hρ j hj; omega) E2
  have hl3 : (setC L i j a b).length = L.length := by unfold setC; rw [setM_length, setM_length]
  (conv => whnf)
  exact ⟨_, rfl, E3, r0, ρ, by rw [hl3, hl2], hb, by omega, fun k hk => by rw [hl3] at hk; have := hρ k hk; omega, m3⟩

set_option maxRecDepth 20000 in
theorem spec_TypeCartan (h : Heap) (s : ByteArray) (hs : s ∈ namesT) : HCalls dm Tryz.prog 182 [St s] h (fun r h' => ∃ y L, r = TM y true ∧ Ext h h' ∧ OwnM h.length h'.length h' y L ∧ isCartan L = true) := by
  refine calls_of_hFun (m := 0) kd_ok mixed Tryz.func182 rfl (by kernel_rfl) rfl rfl (of_decide_eq_true rfl) ?_; unfold hFun; (conv => whnf)
  refine HStr.eql ?_
  (conv => whnf)
  refine HIf.str (fun e => ?_) (fun neA1 => ?_)
  · subst e
    (conv => whnf)
    refine HIf.strT rfl ?_
    (conv => whnf)
    refine ⟨_, .i64, 1, by decide, rfl, rfl, ?_⟩
    (conv => whnf)
    refine HArith.any ?_
    (conv => whnf)
    refine HConv.of ?_
    (conv => whnf)
    refine (show HCalls _ _ _ [I ((1 : Nat) : Int)] _ _ from (spec_l2Chain h 1 (by omega)).mono ?_)
    rintro r h1 ⟨y1, rfl, E1, O1⟩
    (conv => whnf)
    exact ⟨_, _, rfl, E1, O1, cartA1⟩
  (conv => whnf)
  refine HStr.eql ?_
  (conv => whnf)
  refine HIf.str (fun e => ?_) (fun neA2 => ?_)
  · subst e
    (conv => whnf)
    refine HIf.strT rfl ?_
    (conv => whnf)
    refine ⟨_, .i64, 1, by decide, rfl, rfl, ?_⟩
    (conv => whnf)
    refine HArith.any ?_
    (conv => whnf)
    refine HConv.of ?_
    (conv => whnf)
    refine (show HCalls _ _ _ [I ((2 : Nat) : Int)] _ _ from (spec_l2Chain h 2 (by omega)).mono ?_)
    rintro r h1 ⟨y1, rfl, E1, O1⟩
    (conv => whnf)
    exact ⟨_, _, rfl, E1, O1, cartA2⟩
  (conv => whnf)
  refine HStr.eql ?_
  (conv => whnf)
  refine HIf.str (fun e => ?_) (fun neA3 => ?_)
  · subst e
    (conv => whnf)
    refine HIf.strT rfl ?_
    (conv => whnf)
    refine ⟨_, .i64, 1, by decide, rfl, rfl, ?_⟩
    (conv => whnf)
    refine HArith.any ?_
    (conv => whnf)
    refine HConv.of ?_
    (conv => whnf)
    refine (show HCalls _ _ _ [I ((3 : Nat) : Int)] _ _ from (spec_l2Chain h 3 (by omega)).mono ?_)
    rintro r h1 ⟨y1, rfl, E1, O1⟩
    (conv => whnf)
    exact ⟨_, _, rfl, E1, O1, cartA3⟩
  (conv => whnf)
  refine HStr.eql ?_
  (conv => whnf)
  refine HIf.str (fun e => ?_) (fun neA4 => ?_)
  · subst e
    (conv => whnf)
    refine ⟨_, .i64, 1, by decide, rfl, rfl, ?_⟩
    (conv => whnf)
    refine HArith.any ?_
    (conv => whnf)
    refine HConv.of ?_
    (conv => whnf)
    refine (show HCalls _ _ _ [I ((4 : Nat) : Int)] _ _ from (spec_l2Chain h 4 (by omega)).mono ?_)
    rintro r h1 ⟨y1, rfl, E1, O1⟩
    (conv => whnf)
    exact ⟨_, _, rfl, E1, O1, cartA4⟩
  (conv => whnf)
  refine HStr.eql ?_
  (conv => whnf)
  refine HIf.str (fun e => ?_) (fun neB2 => ?_)
  · subst e
    (conv => whnf)
    refine (show HCalls _ _ _ [I ((2 : Nat) : Int)] _ _ from (spec_l2Chain h 2 (by omega)).mono ?_)
    rintro r h1 ⟨y1, rfl, E1, O1⟩
    (conv => whnf)
    refine (spec_l2Set h1 _ (chainC 2) 0 1 (-1) (-2) O1.rows (by decide +kernel) (by decide +kernel) (by decide +kernel) (by decide +kernel) (by decide +kernel)).mono ?_
    rintro r h2 ⟨y2, rfl, E2, O2⟩
    (conv => whnf)
    replace O2 := O2.lower E1.1
    replace E2 := E1.trans E2
    exact ⟨_, _, rfl, E2, O2, cartB2⟩
  (conv => whnf)
  refine HStr.eql ?_
  (conv => whnf)
  refine HIf.str (fun e => ?_) (fun neB3 => ?_)
  · subst e
    (conv => whnf)
    refine (show HCalls _ _ _ [I ((3 : Nat) : Int)] _ _ from (spec_l2Chain h 3 (by omega)).mono ?_)
    rintro r h1 ⟨y1, rfl, E1, O1⟩
    (conv => whnf)
    refine (spec_l2Set h1 _ (chainC 3) 1 2 (-1) (-2) O1.rows (by decide +kernel) (by decide +kernel) (by decide +kernel) (by decide +kernel) (by decide +kernel)).mono ?_
    rintro r h2 ⟨y2, rfl, E2, O2⟩
    (conv => whnf)
    replace O2 := O2.lower E1.1
    replace E2 := E1.trans E2
    exact ⟨_, _, rfl, E2, O2, cartB3⟩
  (conv => whnf)
  refine HStr.eql ?_
  (conv => whnf)
  refine HIf.str (fun e => ?_) (fun neB4 => ?_)
  · subst e
    (conv => whnf)
    refine (show HCalls _ _ _ [I ((4 : Nat) : Int)] _ _ from (spec_l2Chain h 4 (by omega)).mono ?_)
    rintro r h1 ⟨y1, rfl, E1, O1⟩
    (conv => whnf)
    refine (spec_l2Set h1 _ (chainC 4) 2 3 (-1) (-2) O1.rows (by decide +kernel) (by decide +kernel) (by decide +kernel) (by decide +kernel) (by decide +kernel)).mono ?_
    rintro r h2 ⟨y2, rfl, E2, O2⟩
    (conv => whnf)
    replace O2 := O2.lower E1.1
    replace E2 := E1.trans E2
    exact ⟨_, _, rfl, E2, O2, cartB4⟩
  (conv => whnf)
  refine HStr.eql ?_
  (conv => whnf)
  refine HIf.str (fun e => ?_) (fun neC3 => ?_)
  · subst e
    (conv => whnf)
    refine (show HCalls _ _ _ [I ((3 : Nat) : Int)] _ _ from (spec_l2Chain h 3 (by omega)).mono ?_)
    rintro r h1 ⟨y1, rfl, E1, O1⟩
    (conv => whnf)
    refine (spec_l2Set h1 _ (chainC 3) 1 2 (-2) (-1) O1.rows (by decide +kernel) (by decide +kernel) (by decide +kernel) (by decide +kernel) (by decide +kernel)).mono ?_
    rintro r h2 ⟨y2, rfl, E2, O2⟩
    (conv => whnf)
    replace O2 := O2.lower E1.1
    replace E2 := E1.trans E2
    exact ⟨_, _, rfl, E2, O2, cartC3⟩
  (conv => whnf)
  refine HStr.eql ?_
  (conv => whnf)
  refine HIf.str (fun e => ?_) (fun neC4 => ?_)
  · subst e
    (conv => whnf)
    refine (show HCalls _ _ _ [I ((4 : Nat) : Int)] _ _ from (spec_l2Chain h 4 (by omega)).mono ?_)
    rintro r h1 ⟨y1, rfl, E1, O1⟩
    (conv => whnf)
    refine (spec_l2Set h1 _ (chainC 4) 2 3 (-2) (-1) O1.rows (by decide +kernel) (by decide +kernel) (by decide +kernel) (by decide +kernel) (by decide +kernel)).mono ?_
    rintro r h2 ⟨y2, rfl, E2, O2⟩
    (conv => whnf)
    replace O2 := O2.lower E1.1
    replace E2 := E1.trans E2
    exact ⟨_, _, rfl, E2, O2, cartC4⟩
  (conv => whnf)
  refine HStr.eql ?_
  (conv => whnf)
  refine HIf.str (fun e => ?_) (fun neD4 => ?_)
  · subst e
    (conv => whnf)
    refine (show HCalls _ _ _ [I ((4 : Nat) : Int)] _ _ from (spec_l2Chain h 4 (by omega)).mono ?_)
    rintro r h1 ⟨y1, rfl, E1, O1⟩
    (conv => whnf)
    refine (spec_l2Set h1 _ (chainC 4) 2 3 0 0 O1.rows (by decide +kernel) (by decide +kernel) (by decide +kernel) (by decide +kernel) (by decide +kernel)).mono ?_
    rintro r h2 ⟨y2, rfl, E2, O2⟩
    (conv => whnf)
    replace O2 := O2.lower E1.1
    replace E2 := E1.trans E2
    refine (spec_l2Set h2 _ (setC (chainC 4) 2 3 0 0) 1 3 (-1) (-1) O2.rows (by decide +kernel) (by decide +kernel) (by decide +kernel) (by decide +kernel) (by decide +kernel)).mono ?_
    rintro r h3 ⟨y3, rfl, E3, O3⟩
    (conv => whnf)
    replace O3 := O3.lower E2.1
    replace E3 := E2.trans E3
    exact ⟨_, _, rfl, E3, O3, cartD4⟩
  (conv => whnf)
  refine HStr.eql ?_
  (conv => whnf)
  refine HIf.str (fun e => ?_) (fun neF4 => ?_)
  · subst e
    (conv => whnf)
    refine (show HCalls _ _ _ [I ((4 : Nat) : Int)] _ _ from (spec_l2Chain h 4 (by omega)).mono ?_)
    rintro r h1 ⟨y1, rfl, E1, O1⟩
    (conv => whnf)
    refine (spec_l2Set h1 _ (chainC 4) 1 2 (-1) (-2) O1.rows (by decide +kernel) (by decide +kernel) (by decide +kernel) (by decide +kernel) (by decide +kernel)).mono ?_
    rintro r h2 ⟨y2, rfl, E2, O2⟩
    (conv => whnf)
    replace O2 := O2.lower E1.1
    replace E2 := E1.trans E2
    exact ⟨_, _, rfl, E2, O2, cartF4⟩
  (conv => whnf)
  refine HStr.eql ?_
  (conv => whnf)
  refine HIf.str (fun e => ?_) (fun neG2 => ?_)
  · subst e
    (conv => whnf)
    refine (show HCalls _ _ _ [I ((2 : Nat) : Int)] _ _ from (spec_l2Chain h 2 (by omega)).mono ?_)
    rintro r h1 ⟨y1, rfl, E1, O1⟩
    (conv => whnf)
    refine (spec_l2Set h1 _ (chainC 2) 0 1 (-1) (-3) O1.rows (by decide +kernel) (by decide +kernel) (by decide +kernel) (by decide +kernel) (by decide +kernel)).mono ?_
    rintro r h2 ⟨y2, rfl, E2, O2⟩
    (conv => whnf)
    replace O2 := O2.lower E1.1
    replace E2 := E1.trans E2
    exact ⟨_, _, rfl, E2, O2, cartG2⟩
  (conv => whnf)
  refine HStr.eql ?_
  (conv => whnf)
  refine HIf.str (fun e => ?_) (fun neA1t => ?_)
  · subst e
    (conv => whnf)
    refine (show HCalls _ _ _ [I ((2 : Nat) : Int)] _ _ from (spec_l2Chain h 2 (by omega)).mono ?_)
    rintro r h1 ⟨y1, rfl, E1, O1⟩
    (conv => whnf)
    refine (spec_l2Set h1 _ (chainC 2) 0 1 (-2) (-2) O1.rows (by decide +kernel) (by decide +kernel) (by decide +kernel) (by decide +kernel) (by decide +kernel)).mono ?_
    rintro r h2 ⟨y2, rfl, E2, O2⟩
    (conv => whnf)
    replace O2 := O2.lower E1.1
    replace E2 := E1.trans E2
    exact ⟨_, _, rfl, E2, O2, cartA1t⟩
  (conv => whnf)
  refine HStr.eql ?_
  (conv => whnf)
  refine HIf.str (fun e => ?_) (fun neA2t => ?_)
  · subst e
    (conv => whnf)
    refine (show HCalls _ _ _ [I ((3 : Nat) : Int)] _ _ from (spec_l2Chain h 3 (by omega)).mono ?_)
    rintro r h1 ⟨y1, rfl, E1, O1⟩
    (conv => whnf)
    refine (spec_l2Set h1 _ (chainC 3) 0 2 (-1) (-1) O1.rows (by decide +kernel) (by decide +kernel) (by decide +kernel) (by decide +kernel) (by decide +kernel)).mono ?_
    rintro r h2 ⟨y2, rfl, E2, O2⟩
    (conv => whnf)
    replace O2 := O2.lower E1.1
    replace E2 := E1.trans E2
    exact ⟨_, _, rfl, E2, O2, cartA2t⟩
  (conv => whnf)
  refine HStr.eql ?_
  (conv => whnf)
  refine HIf.str (fun e => ?_) (fun neA3t => ?_)
  · subst e
    (conv => whnf)
    refine (show HCalls _ _ _ [I ((4 : Nat) : Int)] _ _ from (spec_l2Chain h 4 (by omega)).mono ?_)
    rintro r h1 ⟨y1, rfl, E1, O1⟩
    (conv => whnf)
    refine (spec_l2Set h1 _ (chainC 4) 0 3 (-1) (-1) O1.rows (by decide +kernel) (by decide +kernel) (by decide +kernel) (by decide +kernel) (by decide +kernel)).mono ?_
    rintro r h2 ⟨y2, rfl, E2, O2⟩
    (conv => whnf)
    replace O2 := O2.lower E1.1
    replace E2 := E1.trans E2
    exact ⟨_, _, rfl, E2, O2, cartA3t⟩
  (conv => whnf)
  refine HStr.eql ?_
  (conv => whnf)
  refine HIf.str (fun e => ?_) (fun neC2t => ?_)
  · subst e
    (conv => whnf)
    refine (show HCalls _ _ _ [I ((3 : Nat) : Int)] _ _ from (spec_l2Chain h 3 (by omega)).mono ?_)
    rintro r h1 ⟨y1, rfl, E1, O1⟩
    (conv => whnf)
    refine (spec_l2Set h1 _ (chainC 3) 0 1 (-1) (-2) O1.rows (by decide +kernel) (by decide +kernel) (by decide +kernel) (by decide +kernel) (by decide +kernel)).mono ?_
    rintro r h2 ⟨y2, rfl, E2, O2⟩
    (conv => whnf)
    replace O2 := O2.lower E1.1
    replace E2 := E1.trans E2
    refine (spec_l2Set h2 _ (setC (chainC 3) 0 1 (-1) (-2)) 1 2 (-2) (-1) O2.rows (by decide +kernel) (by decide +kernel) (by decide +kernel) (by decide +kernel) (by decide +kernel)).mono ?_
    rintro r h3 ⟨y3, rfl, E3, O3⟩
    (conv => whnf)
    replace O3 := O3.lower E2.1
    replace E3 := E2.trans E3
    exact ⟨_, _, rfl, E3, O3, cartC2t⟩
  (conv => whnf)
  refine HStr.eql ?_
  (conv => whnf)
  refine HIf.str (fun e => ?_) (fun neG2t => ?_)
  · subst e
    (conv => whnf)
    refine (show HCalls _ _ _ [I ((3 : Nat) : Int)] _ _ from (spec_l2Chain h 3 (by omega)).mono ?_)
    rintro r h1 ⟨y1, rfl, E1, O1⟩
    (conv => whnf)
    refine (spec_l2Set h1 _ (chainC 3) 1 2 (-1) (-3) O1.rows (by decide +kernel) (by decide +kernel) (by decide +kernel) (by decide +kernel) (by decide +kernel)).mono ?_
    rintro r h2 ⟨y2, rfl, E2, O2⟩
    (conv => whnf)
    replace O2 := O2.lower E1.1
    replace E2 := E1.trans E2
    exact ⟨_, _, rfl, E2, O2, cartG2t⟩
  (conv => whnf)
  exfalso
  simp only [namesT, List.mem_cons, List.not_mem_nil, or_false] at hs
  rcases hs with rfl | rfl | rfl | rfl | rfl | rfl | rfl | rfl | rfl | rfl | rfl | rfl | rfl | rfl | rfl | rfl | rfl <;> contradiction

end Go.Proofs.YtgliajcgcbnemaaGreatDoor.Hx

namespace Go.Proofs.YtgliajcgcbnemaaGreatDoor.Hx
open Go.RowKit

/-- The matrix of some points in their order. -/
def subM (c : List (List Int)) (o : List Int) : List (List Int) := o.map fun i => o.map fun j => ent c i.toNat j.toNat
theorem subM_len (c : List (List Int)) (o : List Int) : (subM c o).length = o.length := by simp [subM]
theorem subM_row {c : List (List Int)} {o : List Int} {i : Nat} (hi : i < o.length) : (subM c o).getD i [] = o.map fun j => ent c (o.getD i 0).toNat j.toNat := by
  simp [subM, List.getD, hi]
theorem subM_ent {c : List (List Int)} {o : List Int} {i j : Nat} (hi : i < o.length) (hj : j < o.length) : ent (subM c o) i j = ent c (o.getD i 0).toNat (o.getD j 0).toNat := by
  unfold ent
  rw [subM_row hi]
  simp [List.getD, hj, ent]

/-- An order of some of n points. -/
def OrdOk (n : Nat) (o : List Int) : Prop := o.Nodup ∧ ∀ x ∈ o, ∃ i : Nat, x = i ∧ i < n
theorem OrdOk.at {n : Nat} {o : List Int} (h : OrdOk n o) {i : Nat} (hi : i < o.length) : ∃ p : Nat, o.getD i 0 = p ∧ p < n := by
  have e : o.getD i 0 = o[i] := by simp [List.getD, hi]
  obtain ⟨p, e2, hp⟩ := h.2 _ (List.getElem_mem hi)
  exact ⟨p, by rw [e, e2], hp⟩
theorem OrdOk.ne {n : Nat} {o : List Int} (h : OrdOk n o) {i j : Nat} (hi : i < o.length) (hj : j < o.length) (hij : i ≠ j) : (o.getD i 0).toNat ≠ (o.getD j 0).toNat := by
  obtain ⟨p, hp, _⟩ := h.at hi
  obtain ⟨q, hq, _⟩ := h.at hj
  intro e
  have e1 : o.getD i 0 = o.getD j 0 := by rw [hp, hq] at *; omega
  have ei : o.getD i 0 = o[i] := by simp [List.getD, hi]
  have ej : o.getD j 0 = o[j] := by simp [List.getD, hj]
  rw [ei, ej] at e1
  have hn := h.1
  unfold List.Nodup at hn
  rw [List.pairwise_iff_getElem] at hn
  rcases Nat.lt_or_gt_of_ne hij with g | g
  · exact hn i j hi hj g e1
  · exact hn j i hj hi g e1.symm
theorem OrdOk.few {n : Nat} {o : List Int} (h : OrdOk n o) : o.length ≤ n := by
  have h1 : (o.map fun x => [x]).length ≤ ((List.range n).map fun (j : Nat) => [(j : Int)]).length := nodup_le (by
    have hn := h.1
    unfold List.Nodup at *
    rw [List.pairwise_map]
    exact hn.imp fun h e => h (by simpa using e)) (fun x hx => by
    obtain ⟨z, hz, rfl⟩ := List.mem_map.1 hx
    obtain ⟨j, rfl, hj⟩ := h.2 z hz
    exact List.mem_map.2 ⟨j, List.mem_range.2 hj, rfl⟩)
  simpa using h1
theorem OrdOk.snoc {n : Nat} {o : List Int} {i : Nat} (h : OrdOk n o) (hi : i < n) (hn : (i : Int) ∉ o) : OrdOk n (o ++ [(i : Int)]) := by
  refine ⟨?_, fun x hx => ?_⟩
  · rw [List.nodup_append]
    refine ⟨h.1, by simp, fun x hx y hy => ?_⟩
    obtain rfl : y = i := by simpa using hy
    exact fun e => hn (by rw [← e]; exact hx)
  · rcases List.mem_append.1 hx with hx | hx
    · exact h.2 x hx
    · obtain rfl : x = i := by simpa using hx
      exact ⟨i, rfl, hi⟩
theorem OrdOk.left {n : Nat} {o t : List Int} (h : OrdOk n (o ++ t)) : OrdOk n o := ⟨(List.nodup_append.1 h.1).1, fun x hx => h.2 x (List.mem_append_left _ hx)⟩

/-! ### All orders -/

def extL (n : Nat) (o : List Int) (x : Nat) : List (List Int) := ((List.range x).filter fun (i : Nat) => decide ((i : Int) ∉ o)).map fun (i : Nat) => o ++ [(i : Int)]
def ordL (n : Nat) : Nat → List (List Int)
  | 0 => [[]]
  | i + 1 => (ordL n i).flatMap fun o => extL n o n
theorem extL_in {n : Nat} {o : List Int} {x : Nat} (h : (x : Int) ∉ o) : extL n o (x + 1) = extL n o x ++ [o ++ [(x : Int)]] := by
  unfold extL
  rw [List.range_succ, List.filter_append, List.map_append, List.filter_cons_of_pos (by simpa using h), List.filter_nil]
  rfl
theorem extL_out {n : Nat} {o : List Int} {x : Nat} (h : (x : Int) ∈ o) : extL n o (x + 1) = extL n o x := by
  unfold extL
  rw [List.range_succ, List.filter_append, List.map_append, List.filter_cons_of_neg (by simpa using h), List.filter_nil, List.map_nil, List.append_nil]
theorem extL_len (n : Nat) (o : List Int) (x : Nat) : (extL n o x).length ≤ x := by
  unfold extL
  rw [List.length_map]
  refine Nat.le_trans (List.length_filter_le _ _) ?_
  rw [List.length_range]
  exact Nat.le_refl _
theorem mem_extL {n : Nat} {o p : List Int} {x : Nat} : p ∈ extL n o x ↔ ∃ i : Nat, i < x ∧ (i : Int) ∉ o ∧ p = o ++ [(i : Int)] := by
  unfold extL
  simp only [List.mem_map, List.mem_filter, List.mem_range, decide_eq_true_eq]
  constructor
  · rintro ⟨i, ⟨h1, h2⟩, rfl⟩
    exact ⟨i, h1, h2, rfl⟩
  · rintro ⟨i, h1, h2, rfl⟩
    exact ⟨i, ⟨h1, h2⟩, rfl⟩
theorem mem_ordL {n : Nat} : ∀ {i : Nat} {o : List Int}, o ∈ ordL n i ↔ o.length = i ∧ OrdOk n o
  | 0, o => by
    constructor
    · intro h
      obtain rfl : o = [] := by simpa [ordL] using h
      exact ⟨rfl, by simp [OrdOk]⟩
    · rintro ⟨h, _⟩
      rw [List.length_eq_zero_iff.1 h]
      simp [ordL]
  | i + 1, o => by
    simp only [ordL, List.mem_flatMap, mem_extL]
    constructor
    · rintro ⟨o', h1, j, hj, hn, rfl⟩
      obtain ⟨h2, h3⟩ := mem_ordL.1 h1
      exact ⟨by simp [h2], h3.snoc hj hn⟩
    · rintro ⟨h1, h2⟩
      have hne : o ≠ [] := by intro e; rw [e] at h1; simp at h1
      have e := List.dropLast_concat_getLast hne
      obtain ⟨j, hj, hjn⟩ := h2.2 _ (List.getLast_mem hne)
      rw [hj] at e
      rw [← e] at h2
      refine ⟨o.dropLast, mem_ordL.2 ⟨by simp [h1], h2.left⟩, j, hjn, ?_, e.symm⟩
      have := List.nodup_append.1 h2.1
      exact fun hm => this.2.2 _ hm _ (by simp) rfl
theorem ordL_len (n : Nat) : ∀ i, (ordL n i).length ≤ n ^ i
  | 0 => by simp [ordL]
  | i + 1 => by
    have h : ∀ (L : List (List Int)), (L.flatMap fun o => extL n o n).length ≤ n * L.length := by
      intro L
      induction L with
      | nil => simp
      | cons a t ih =>
        have := extL_len n a n
        simp only [List.flatMap_cons, List.length_append, List.length_cons, Nat.mul_add, Nat.mul_one]
        omega
    have h1 := h (ordL n i)
    have h2 := ordL_len n i
    have h3 : n * (ordL n i).length ≤ n * n ^ i := Nat.mul_le_mul_left _ h2
    rw [Nat.pow_succ, Nat.mul_comm (n ^ i) n]
    exact Nat.le_trans h1 h3

/-! ### Isomorphic -/

open Classical in
noncomputable def isoB (a b : List (List Int)) : Bool := isCartan a && isCartan b && decide (a.length = b.length) && decide (∃ o, o ∈ ordL a.length a.length ∧ subM a o = b)
theorem isoB_on {a b : List (List Int)} (ha : isCartan a = true) (hb : isCartan b = true) (hl : a.length = b.length) : isoB a b = true ↔ ∃ o, o ∈ ordL a.length a.length ∧ subM a o = b := by
  unfold isoB
  rw [ha, hb]
  simp [hl]
theorem isoB_offl {a b : List (List Int)} (h : isCartan a = false ∨ isCartan b = false ∨ a.length ≠ b.length) : isoB a b = false := by
  unfold isoB
  rcases h with h | h | h <;> simp [h]

def Fit (a b : List (List Int)) (o : List Int) (i : Nat) : Prop := ∀ j, j < o.length → ent a i (o.getD j 0).toNat = ent b o.length j ∧ ent a (o.getD j 0).toNat i = ent b j o.length
def ExtM (a b : List (List Int)) : Nat → List Int → Prop
  | 0, _ => True
  | f + 1, o => ∃ i : Nat, i < a.length ∧ (i : Int) ∉ o ∧ Fit a b o i ∧ ExtM a b f (o ++ [(i : Int)])

theorem getD_left {o t : List Int} {j : Nat} (h : j < o.length) : (o ++ t).getD j 0 = o.getD j 0 := by
  simp only [List.getD]
  rw [List.getElem?_append_left h]

theorem extM_iff {a b : List (List Int)} : ∀ (f : Nat) (o : List Int), OrdOk a.length o → o.length + f = a.length →
    (ExtM a b f o ↔ ∃ t, OrdOk a.length (o ++ t) ∧ t.length = f ∧ ∀ m, o.length ≤ m → m < a.length → ∀ j, j < m → ent a ((o ++ t).getD m 0).toNat ((o ++ t).getD j 0).toNat = ent b m j ∧ ent a ((o ++ t).getD j 0).toNat ((o ++ t).getD m 0).toNat = ent b j m)
  | 0, o, ho, hl => by
    constructor
    · intro _
      exact ⟨[], by simpa using ho, rfl, fun m h1 h2 => by omega⟩
    · intro _
      trivial
  | f + 1, o, ho, hl => by
    constructor
    · rintro ⟨i, hi, hn, hf, hx⟩
      obtain ⟨t, h1, h2, h3⟩ := (extM_iff f (o ++ [(i : Int)]) (ho.snoc hi hn) (by simp; omega)).1 hx
      have e : (o ++ [(i : Int)]) ++ t = o ++ (i : Int) :: t := by simp
      rw [e] at h1 h3
      refine ⟨(i : Int) :: t, h1, by simp [h2], fun m g1 g2 j hj => ?_⟩
      by_cases em : m = o.length
      · subst em
        have e1 : (o ++ (i : Int) :: t).getD o.length 0 = i := by simp [List.getD]
        rw [e1, getD_left hj]
        exact hf j hj
      · exact h3 m (by simp; omega) g2 j hj
    · rintro ⟨t, h1, h2, h3⟩
      cases t with
      | nil => simp at h2
      | cons x t =>
        obtain ⟨i, rfl, hi⟩ := h1.2 x (by simp)
        have hn : (i : Int) ∉ o := fun hm => (List.nodup_append.1 h1.1).2.2 _ hm _ (by simp) rfl
        have e : (o ++ [(i : Int)]) ++ t = o ++ (i : Int) :: t := by simp
        refine ⟨i, hi, hn, fun j hj => ?_, (extM_iff f (o ++ [(i : Int)]) (ho.snoc hi hn) (by simp; omega)).2 ⟨t, by rw [e]; exact h1, by simpa using h2, fun m g1 g2 => by
          rw [e]
          exact h3 m (by simp at g1; omega) g2⟩⟩
        have := h3 o.length (Nat.le_refl _) (by omega) j hj
        have e1 : (o ++ (i : Int) :: t).getD o.length 0 = i := by simp [List.getD]
        rw [e1, getD_left hj] at this
        exact this

theorem mat_ext {n : Nat} {A B : List (List Int)} (hA : A.length = n) (hB : B.length = n) (rA : ∀ i, i < n → (A.getD i []).length = n) (rB : ∀ i, i < n → (B.getD i []).length = n) (h : ∀ i, i < n → ∀ j, j < n → ent A i j = ent B i j) : A = B := by
  apply List.ext_getElem (by omega)
  intro i h1 h2
  have e1 : A.getD i [] = A[i] := by simp [List.getD, h1]
  have e2 : B.getD i [] = B[i] := by simp [List.getD, h2]
  have hi : i < n := by omega
  have k1 := rA i hi
  have k2 := rB i hi
  rw [e1] at k1
  rw [e2] at k2
  apply List.ext_getElem (by omega)
  intro j g1 g2
  have := h i hi j (by omega)
  unfold ent at this
  rw [e1, e2] at this
  simpa [List.getD, g1, g2] using this

theorem iso_iff {a b : List (List Int)} (ha : Cartan a) (hb : Cartan b) (hl : a.length = b.length) : ExtM a b a.length [] ↔ ∃ o, o ∈ ordL a.length a.length ∧ subM a o = b := by
  rw [extM_iff a.length [] (by simp [OrdOk]) (by simp)]
  simp only [List.nil_append, List.length_nil]
  constructor
  · rintro ⟨t, h1, h2, h3⟩
    refine ⟨t, mem_ordL.2 ⟨h2, h1⟩, mat_ext (n := a.length) (by rw [subM_len, h2]) hl.symm (fun i hi => by rw [subM_row (by omega)]; simpa using h2) (fun i hi => by rw [hb.row i (by omega), hl]) (fun i hi j hj => ?_)⟩
    rw [subM_ent (by omega) (by omega)]
    rcases Nat.lt_trichotomy i j with g | g | g
    · exact (h3 j (Nat.zero_le _) hj i g).2
    · subst g
      obtain ⟨p, hp, hpn⟩ := h1.at (i := i) (by omega)
      rw [hp, Int.toNat_natCast, (matOk ha).diag p hpn, (matOk hb).diag i (by omega)]
    · exact (h3 i (Nat.zero_le _) hi j g).1
  · rintro ⟨o, ho, e⟩
    obtain ⟨h2, h1⟩ := mem_ordL.1 ho
    refine ⟨o, h1, h2, fun m _ hm j hj => ?_⟩
    rw [← e, subM_ent (by omega) (by omega), subM_ent (by omega) (by omega)]
    exact ⟨rfl, rfl⟩

/-! ### Parts as matrices -/

theorem cartBad_sub {c : List (List Int)} (hC : Cartan c) {o : List Int} (ho : OrdOk c.length o) {i j : Nat} (hi : i < o.length) (hj : j < o.length) : cartBad (subM c o) i j = false := by
  obtain ⟨p, hp, hpn⟩ := ho.at hi
  obtain ⟨q, hq, hqn⟩ := ho.at hj
  have h := hC.ok p hpn q hqn
  unfold cartBad at h ⊢
  rw [subM_ent hi hj, subM_ent hj hi, hp, hq, Int.toNat_natCast, Int.toNat_natCast]
  have e : decide (i = j) = decide (p = q) := by
    by_cases hij : i = j
    · subst hij
      rw [hp] at hq
      have : p = q := by omega
      simp [this]
    · have := ho.ne hi hj hij
      rw [hp, hq, Int.toNat_natCast, Int.toNat_natCast] at this
      simp [hij, this]
  rw [e]
  exact h
theorem sub_cartan {c : List (List Int)} (hC : Cartan c) {o : List Int} (ho : OrdOk c.length o) (h0 : 0 < o.length) : Cartan (subM c o) := by
  have hf := ho.few
  have h4 := hC.le
  refine ⟨by rw [subM_len]; omega, by rw [subM_len]; omega, fun i hi => ?_, fun i hi j hj => ?_⟩
  · rw [subM_len] at hi ⊢
    rw [subM_row hi]
    simp
  · rw [subM_len] at hi hj
    exact cartBad_sub hC ho hi hj

theorem partL_ok (c : List (List Int)) (i : Nat) : OrdOk c.length (partL c i) := by
  refine ⟨?_, fun x hx => ?_⟩
  · exact (partTo_sorted c i c.length).imp fun h e => by omega
  · obtain ⟨j, e, hj, _⟩ := mem_partTo.1 hx
    exact ⟨j, e, hj⟩

theorem conn_of {M : List (List Int)} (hM : Cartan M) (h : ∀ k, k < M.length → Rch M 0 k) : isConn M = true := by
  have hp := hM.pos
  have h0 : isMin M 0 = true := isMin_iff.2 fun j hj => by omega
  have hk : ∀ k, 0 < k → k < M.length → isMin M k = false := fun k h1 h2 => by
    cases hm : isMin M k
    · rfl
    · exact absurd (h k h2) (isMin_iff.1 hm 0 h1)
  obtain ⟨n, hn⟩ : ∃ n, M.length = n + 1 := ⟨M.length - 1, by omega⟩
  unfold isConn partsN
  rw [(isCartan_iff M).2 hM, hn, List.range_succ_eq_map, List.filter_cons_of_pos h0, List.length_cons, List.filter_eq_nil_iff.2 (fun x hx => by
    obtain ⟨y, hy, rfl⟩ := List.mem_map.1 hx
    have := List.mem_range.1 hy
    rw [hk (y + 1) (by omega) (by omega)]
    decide)]
  simp

theorem part_conn {c : List (List Int)} (hC : Cartan c) {i : Nat} (hi : i < c.length) : Cartan (subM c (partL c i)) ∧ isConn (subM c (partL c i)) = true := by
  have hok := partL_ok c i
  have hpos := partL_pos hi
  have hM := sub_cartan hC hok hpos
  refine ⟨hM, conn_of hM fun k hk => ?_⟩
  rw [subM_len] at hk
  have pt : ∀ k, k < (partL c i).length → ∃ p : Nat, (partL c i).getD k 0 = p ∧ p < c.length ∧ Rch c i p := fun k hk => by
    obtain ⟨p, hp, hpn⟩ := hok.at hk
    have e : (partL c i).getD k 0 = (partL c i)[k] := by simp [List.getD, hk]
    have hm := List.getElem_mem hk
    rw [← e, hp] at hm
    exact ⟨p, hp, hpn, (mem_partL hi).1 hm⟩
  obtain ⟨p0, e0, hp0, r0⟩ := pt 0 hpos
  obtain ⟨pk, ek, hpk, rk⟩ := pt k hk
  have hr : Rch c p0 pk := (r0.symm hC hi).trans rk
  obtain ⟨b, hb, eb, rb⟩ := Rch.closed (S := fun q => ∃ b, b < (partL c i).length ∧ (partL c i).getD b 0 = (q : Int) ∧ Rch (subM c (partL c i)) 0 b) ⟨0, hpos, e0, .here⟩ (fun q hq q' ha => by
    obtain ⟨b, hb, eb, rb⟩ := hq
    obtain ⟨p, ep, hpn, rp⟩ := pt b hb
    have epq : p = q := by rw [ep] at eb; omega
    subst epq
    have hm : (q' : Int) ∈ partL c i := (mem_partL hi).2 (rp.step ha)
    obtain ⟨b', hb', eb'⟩ := List.getElem_of_mem hm
    have eg : (partL c i).getD b' 0 = (q' : Int) := by simp [List.getD, hb', eb']
    refine ⟨b', hb', eg, rb.step ⟨by rw [subM_len]; exact hb', fun e => ?_, ?_⟩⟩
    · subst e
      rw [eb] at eg
      exact ha.2.1 (by omega)
    · have := subM_ent (c := c) hb hb'
      unfold ent at this
      rw [this, eb, eg, Int.toNat_natCast, Int.toNat_natCast]
      exact ha.2.2) hr
  have : b = k := Classical.byContradiction fun hne => by
    have := hok.ne hb hk hne
    rw [eb, ek] at this
    exact this rfl
  subst this
  exact rb

end Go.Proofs.YtgliajcgcbnemaaGreatDoor.Hx
