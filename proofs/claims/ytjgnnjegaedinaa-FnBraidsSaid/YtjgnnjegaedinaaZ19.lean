/-
  The reference's named matrices: chains, entries set anew, two matrices side by side.
  The reference's draws of matrices and words.
-/
import Derived.Test.YtjgnnjegaedinaaZ18
namespace Go.Proofs.Ytjgnnjegaedinaa.Hx
open Go.RowKit
variable {dm : Bool}

def chainR (n i : Nat) : List Int :=
  let r1 := (List.replicate n (0 : Int)).set i 2
  let r2 := if 0 < i then r1.set (i - 1) (-1) else r1
  if i + 1 < n then r2.set (i + 1) (-1) else r2
def chainTo (n k : Nat) : List (List Int) := (List.range k).map (chainR n)
def chainC (n : Nat) : List (List Int) := chainTo n n
def setM (L : List (List Int)) (i j : Nat) (a : Int) : List (List Int) := L.set i ((L.getD i []).set j a)
def setC (L : List (List Int)) (i j : Nat) (a b : Int) : List (List Int) := setM (setM L i j a) j i b
def zerosL (n : Nat) : List Int := List.replicate n 0
def joinTo1 (a b : List (List Int)) (k : Nat) : List (List Int) := (List.range k).map fun i => a.getD i [] ++ zerosL b.length
def joinTo2 (a b : List (List Int)) (k : Nat) : List (List Int) := joinTo1 a b a.length ++ (List.range k).map fun i => zerosL a.length ++ b.getD i []
def joinC (a b : List (List Int)) : List (List Int) := joinTo2 a b b.length

theorem chainR_length (n i : Nat) : (chainR n i).length = n := by
  unfold chainR
  simp only
  split <;> split <;> simp
theorem chainTo_length (n k : Nat) : (chainTo n k).length = k := by simp [chainTo]
theorem chainTo_succ (n k : Nat) : chainTo n (k + 1) = chainTo n k ++ [chainR n k] := by simp [chainTo, List.range_succ]
theorem setM_length (L : List (List Int)) (i j : Nat) (a : Int) : (setM L i j a).length = L.length := by simp [setM]
theorem setM_get {L : List (List Int)} {i : Nat} (hi : i < L.length) (j : Nat) (a : Int) (k : Nat) : (setM L i j a).getD k [] = if k = i then (L.getD i []).set j a else L.getD k [] := by
  unfold setM
  by_cases hk : k = i
  · subst hk
    simp [List.getD, hi]
  · rw [if_neg hk]
    simp [List.getD, List.getElem?_set_ne (Ne.symm hk)]
theorem setM_row {L : List (List Int)} {i : Nat} (hi : i < L.length) (j : Nat) (a : Int) (k : Nat) : ((setM L i j a).getD k []).length = (L.getD k []).length := by
  rw [setM_get hi]
  split
  · rename_i h
    subst h
    simp
  · rfl
theorem joinTo1_length (a b : List (List Int)) (k : Nat) : (joinTo1 a b k).length = k := by simp [joinTo1]
theorem joinTo1_succ (a b : List (List Int)) (k : Nat) : joinTo1 a b (k + 1) = joinTo1 a b k ++ [a.getD k [] ++ zerosL b.length] := by simp [joinTo1, List.range_succ]
theorem joinTo2_succ (a b : List (List Int)) (k : Nat) : joinTo2 a b (k + 1) = joinTo2 a b k ++ [zerosL a.length ++ b.getD k []] := by simp [joinTo2, List.range_succ]
theorem joinTo2_none (a b : List (List Int)) : joinTo2 a b 0 = joinTo1 a b a.length := by simp [joinTo2]
theorem joinTo2_length (a b : List (List Int)) (k : Nat) : (joinTo2 a b k).length = a.length + k := by simp [joinTo2, joinTo1]

/-- One cell of one's own slice written anew. -/
theorem OwnR.put {r : Nat} {h : Heap} {x : H0} {l : List Int} (O : OwnR r h x l) {o : Nat} (ho : o < l.length) {v : Int} {K : HV → Heap → Prop} (hK : ∀ h', But r h h' → h'.length = h.length → OwnR r h' x (l.set o v) → K .dead h') : HStore h (.s (.ptr r o)) (I v) K := by
  have hlt := O.lt
  obtain ⟨t, rfl, hr⟩ := O
  refine HStore.own hr (by simp; omega) rfl (hK _ ⟨by simp, fun q hq hn => by rw [List.getElem?_set_ne (Ne.symm hn)]⟩ (by simp) ⟨t, by simp, ?_⟩)
  rw [List.getElem?_set_self hlt, List.set_append_left _ _ (by simpa using ho), List.map_set]

theorem OwnR.idx {r : Nat} {h : Heap} {x : H0} {l : List Int} (O : OwnR r h x l) {j : Int} (h0 : 0 ≤ j) (h1 : j < l.length) {k : IntKind} {K : HV → Prop} (hK : K (.s (.ptr r j.toNat))) : HIdx h (.s x) (.s (.pl (.int k j))) K := by
  obtain ⟨t, rfl, hr⟩ := O
  exact HIdx.sl h0 h1 (by rw [Nat.zero_add]; exact hK)

/-- One cell of a slice of slices of one's own written anew. -/
theorem MatAt.put {h : Heap} {r : Nat} {ρ : Nat → Nat} {L : List (List Int)} (m : MatAt h r ρ L) {i o : Nat} (hi : i < L.length) (ho : o < (L.getD i []).length) {v : Int} {K : HV → Heap → Prop}
    (hK : ∀ h', h'.length = h.length → KeepN (fun q => q = ρ i) h h' → MatAt h' r ρ (setM L i o v) → K .dead h') : HStore h (.s (.ptr (ρ i) o)) (I v) K := by
  obtain ⟨t, ht⟩ := m.inner i hi
  have hlt := get_lt ht
  refine HStore.own ht (by simp only [List.length_append, List.length_map]; omega) rfl (hK _ (by simp) ⟨by simp, fun q hq hn => by rw [List.getElem?_set_ne (Ne.symm hn)]⟩ ⟨?_, fun k hk => ?_, fun k hk => ?_, fun k j hkj hj => ?_⟩)
  · obtain ⟨cs, g1, g2, g3⟩ := m.outer
    refine ⟨cs, by rw [List.getElem?_set_ne (m.ne i hi)]; exact g1, by rw [setM_length]; exact g2, fun k hk => ?_⟩
    rw [setM_length] at hk
    rw [setM_row hi]
    exact g3 k hk
  · rw [setM_length] at hk
    rw [setM_get hi]
    by_cases hki : k = i
    · subst hki
      refine ⟨t, ?_⟩
      rw [if_pos rfl, List.getElem?_set_self hlt, List.set_append_left _ _ (by simpa using ho), List.map_set]
    · obtain ⟨t2, ht2⟩ := m.inner k hk
      refine ⟨t2, ?_⟩
      have hne : ρ i ≠ ρ k := by
        rcases Nat.lt_or_gt_of_ne hki with h | h
        · exact fun e => m.inj k i h hi e.symm
        · exact m.inj i k h hk
      rw [if_neg hki, List.getElem?_set_ne hne]
      exact ht2
  · exact m.ne k (by simpa [setM_length] using hk)
  · exact m.inj k j hkj (by simpa [setM_length] using hj)

/-- One slice of a slice of slices of one's own put in anew. -/
theorem MatAt.putRow {h : Heap} {r : Nat} {ρ : Nat → Nat} {L : List (List Int)} (m : MatAt h r ρ L) {i q : Nat} (hi : i < L.length) {y : H0} {l : List Int} (O : OwnR q h y l) (hq : q ≠ r) (hqs : ∀ k, k < L.length → q ≠ ρ k) {K : HV → Heap → Prop}
    (hK : ∀ h', h'.length = h.length → KeepN (fun q => q = r) h h' → MatAt h' r (fun k => if k = i then q else ρ k) (L.set i l) → K .dead h') : HStore h (.s (.ptr r i)) (.s y) K := by
  obtain ⟨cs, g1, g2, g3⟩ := m.outer
  obtain ⟨t, rfl, hr⟩ := O
  have hlt := get_lt g1
  have gd : ∀ k, (L.set i l).getD k [] = if k = i then l else L.getD k [] := fun k => by
    by_cases hk : k = i
    · subst hk
      simp [List.getD, hi]
    · rw [if_neg hk]
      simp [List.getD, List.getElem?_set_ne (Ne.symm hk)]
  refine HStore.own g1 (by omega) rfl (hK _ (by simp) ⟨by simp, fun q hq hn => by rw [List.getElem?_set_ne (Ne.symm hn)]⟩ ⟨⟨_, List.getElem?_set_self hlt, by simpa using g2, fun k hk => ?_⟩, fun k hk => ?_, fun k hk => ?_, fun k j hkj hj => ?_⟩)
  · rw [gd]
    simp only [List.length_set] at hk
    by_cases hki : k = i
    · subst hki
      rw [List.getElem?_set_self (by omega), if_pos rfl, if_pos rfl]
    · rw [List.getElem?_set_ne (Ne.symm hki), if_neg hki, if_neg hki]
      exact g3 k hk
  · rw [gd]
    simp only [List.length_set] at hk
    by_cases hki : k = i
    · subst hki
      rw [if_pos rfl, if_pos rfl]
      exact ⟨t, by rw [List.getElem?_set_ne (Ne.symm hq)]; exact hr⟩
    · obtain ⟨t2, ht2⟩ := m.inner k hk
      rw [if_neg hki, if_neg hki]
      exact ⟨t2, by rw [List.getElem?_set_ne (Ne.symm (m.ne k hk))]; exact ht2⟩
  · simp only [List.length_set] at hk
    show (if k = i then q else ρ k) ≠ r
    by_cases hki : k = i
    · rw [if_pos hki]; exact hq
    · rw [if_neg hki]; exact m.ne k hk
  · simp only [List.length_set] at hj
    show (if k = i then q else ρ k) ≠ (if j = i then q else ρ j)
    by_cases hki : k = i
    · rw [if_pos hki, if_neg (by omega)]
      exact hqs j hj
    · by_cases hji : j = i
      · rw [if_neg hki, if_pos hji]
        exact fun e => hqs k (by omega) e.symm
      · rw [if_neg hki, if_neg hji]
        exact m.inj k j hkj hj

/-- Zeros, appended to one's own slice. -/
theorem HAppZ2.ints {r : Nat} {h : Heap} {y : H0} {l : List Int} {n : Int} {K : HV → Heap → Prop} (H : OwnR r h y l) (h0 : 0 < n) (hn : (l.length : Int) + n ≤ 1048576)
    (hK : ∀ h' r' y', But r h h' → h.length ≤ r' → OwnR r' h' y' (l ++ zerosL n.toNat) → K (.s y') h') : HAppZ2 (.int .i64 0) h (.s y) (I n) K := by
  obtain ⟨t, rfl, hr⟩ := H
  refine ⟨.i64, n.toNat, r, l.length, _, rfl, by rw [Int.toNat_of_nonneg (by omega)], by omega, by omega, hr, by simp, ?_⟩
  have e1 : l.length + n.toNat = (l ++ zerosL n.toNat).length := by simp [zerosL]
  have e2 : (l.map ci ++ t).take l.length ++ List.replicate n.toNat (H0.pl (.int .i64 0)) = (l ++ zerosL n.toNat).map ci := by
    rw [List.take_append_of_le_length (by simp), List.take_of_length_le (by simp)]
    simp [zerosL]
  rw [e1, e2]
  refine hK _ h.length _ ⟨by simp, fun q hq hn => ?_⟩ (Nat.le_refl _) ⟨[], rfl, ?_⟩
  · rw [List.getElem?_append_left (by simpa using hq), List.getElem?_set_ne (Ne.symm hn)]
  · rw [List.getElem?_append_right (by simp)]
    simp

theorem OwnM.keep {F : Nat → Prop} {b e : Nat} {h h' : Heap} {x : H0} {L : List (List Int)} (H : OwnM b e h x L) (k : KeepN F h h') (hf : ∀ q, b ≤ q → q < e → ¬ F q) : OwnM b e h' x L := by
  obtain ⟨r, ρ, g1, g2, g3, g4, m⟩ := H
  exact ⟨r, ρ, g1, g2, g3, g4, m.move (k.2 r m.lt.1 (hf r g2 g3)) (fun i hi => k.2 _ (m.lt.2 i hi) (hf _ (g4 i hi).1 (g4 i hi).2))⟩

theorem OwnM.rowsN {F : Nat → Prop} {b e : Nat} {h : Heap} {x : H0} {L : List (List Int)} (H : OwnM b e h x L) (hf : ∀ q, b ≤ q → q < e → ¬ F q) : RowsN F h x L := by
  obtain ⟨r, ρ, rfl, g2, g3, g4, m⟩ := H
  obtain ⟨cs, h1, h2, h3⟩ := m.outer
  refine ⟨(cs.drop 0).take L.length, Shows.own r 0 L.length cs h1 (by omega), fun r' o n e => by cases e; exact hf _ g2 g3, by simp; omega, fun i y l hy hl => ?_⟩
  have hi : i < L.length := (List.getElem?_eq_some_iff.1 hl).1
  rw [List.drop_zero, List.getElem?_take_of_lt hi, h3 i hi] at hy
  cases hy
  obtain ⟨t, ht⟩ := m.inner i hi
  have e : L.getD i [] = l := by simp [List.getD, hl]
  rw [e] at ht ⊢
  exact ⟨Ints.ofOwn ht, fun r' o n e => by cases e; exact hf _ (g4 i hi).1 (g4 i hi).2⟩

/-- Two texts compared. -/
theorem HStr.eql {a b : ByteArray} {K : HV → Prop} (hK : K (B (a.toList == b.toList))) : HStr .eql a b K := ⟨_, fun _ _ => rfl, hK⟩
theorem HIf.str {a b : ByteArray} {A C : Prop} (h1 : a = b → A) (h2 : a ≠ b → C) : HIf (a.toList == b.toList) A C := by
  refine HIf.split (fun h => h1 ?_) (fun h => h2 (fun e => ?_))
  · rw [ByteArray.toList_eq, ByteArray.toList_eq] at h
    exact Go.WideShapes.bytes_inj (by simpa using h)
  · subst e
    simp at h
theorem HIf.strT {a b : ByteArray} {A C : Prop} (e : a = b) (h : A) : HIf (a.toList == b.toList) A C := HIf.str (fun _ => h) (fun k => absurd e k)
theorem HIf.strF {a b : ByteArray} {A C : Prop} (e : a ≠ b) (h : C) : HIf (a.toList == b.toList) A C := HIf.str (fun k => absurd k e) (fun _ => h)

/-- The names of which the reference draws. -/
def namesT : List ByteArray := [⟨#[65, 49]⟩, ⟨#[65, 50]⟩, ⟨#[65, 51]⟩, ⟨#[65, 52]⟩, ⟨#[66, 50]⟩, ⟨#[66, 51]⟩, ⟨#[66, 52]⟩, ⟨#[67, 51]⟩, ⟨#[67, 52]⟩, ⟨#[68, 52]⟩, ⟨#[70, 52]⟩, ⟨#[71, 50]⟩, ⟨#[65, 49, 126]⟩, ⟨#[65, 50, 126]⟩, ⟨#[65, 51, 126]⟩, ⟨#[67, 50, 126]⟩, ⟨#[71, 50, 126]⟩]
theorem cartA1 : isCartan (chainC 1) = true := by decide +kernel
theorem cartA2 : isCartan (chainC 2) = true := by decide +kernel
theorem cartA3 : isCartan (chainC 3) = true := by decide +kernel
theorem cartA4 : isCartan (chainC 4) = true := by decide +kernel
theorem cartB2 : isCartan (setC (chainC 2) 0 1 (-1) (-2)) = true := by decide +kernel
theorem cartB3 : isCartan (setC (chainC 3) 1 2 (-1) (-2)) = true := by decide +kernel
theorem cartB4 : isCartan (setC (chainC 4) 2 3 (-1) (-2)) = true := by decide +kernel
theorem cartC3 : isCartan (setC (chainC 3) 1 2 (-2) (-1)) = true := by decide +kernel
theorem cartC4 : isCartan (setC (chainC 4) 2 3 (-2) (-1)) = true := by decide +kernel
theorem cartD4 : isCartan (setC (setC (chainC 4) 2 3 0 0) 1 3 (-1) (-1)) = true := by decide +kernel
theorem cartF4 : isCartan (setC (chainC 4) 1 2 (-1) (-2)) = true := by decide +kernel
theorem cartG2 : isCartan (setC (chainC 2) 0 1 (-1) (-3)) = true := by decide +kernel
theorem cartA1t : isCartan (setC (chainC 2) 0 1 (-2) (-2)) = true := by decide +kernel
theorem cartA2t : isCartan (setC (chainC 3) 0 2 (-1) (-1)) = true := by decide +kernel
theorem cartA3t : isCartan (setC (chainC 4) 0 3 (-1) (-1)) = true := by decide +kernel
theorem cartC2t : isCartan (setC (setC (chainC 3) 0 1 (-1) (-2)) 1 2 (-2) (-1)) = true := by decide +kernel
theorem cartG2t : isCartan (setC (chainC 3) 1 2 (-1) (-3)) = true := by decide +kernel

/-- A matrix as the draws make them: square, of one to four points. -/
structure Shape (L : List (List Int)) : Prop where
  pos : 1 ≤ L.length
  le : L.length ≤ 4
  row : ∀ k, k < L.length → (L.getD k []).length = L.length

theorem Shape.of {L : List (List Int)} (h : isCartan L = true) : Shape L := by
  have := (isCartan_iff L).1 h
  exact ⟨this.pos, this.le, this.row⟩
theorem tot_rows {n : Nat} {L : List (List Int)} (h : ∀ k, k < L.length → (L.getD k []).length ≤ n) : tot L ≤ n * L.length :=
  tot_le n L (fun l hl => by
    obtain ⟨i, hi, e⟩ := List.getElem_of_mem hl
    have := h i hi
    have e2 : L.getD i [] = l := by simp [List.getD, hi, e]
    rw [e2] at this
    exact this)
theorem Shape.tot {L : List (List Int)} (h : Shape L) : tot L ≤ 16 := by
  have h1 := tot_rows (n := 4) (L := L) (fun k hk => by rw [h.row k hk]; exact h.le)
  have := h.le
  omega
theorem Shape.set {L : List (List Int)} (h : Shape L) {i j : Nat} (hi : i < L.length) (hj : j < L.length) (a b : Int) : Shape (setC L i j a b) := by
  unfold setC
  refine ⟨?_, ?_, fun k hk => ?_⟩
  · rw [setM_length, setM_length]; exact h.pos
  · rw [setM_length, setM_length]; exact h.le
  · rw [setM_length, setM_length] at hk
    rw [setM_length, setM_length, setM_row (by rw [setM_length]; exact hj), setM_row hi]
    exact h.row k hk


theorem spec_l2Chain (h : Heap) (n : Nat) (hn : n ≤ 4) : HCalls dm Try.prog 117 [I n] h (fun r h' => ∃ y, r = .s y ∧ Ext h h' ∧ OwnM h.length h'.length h' y (chainC n)) := by
  refine calls_of_hFun (m := 0) kd_ok mixed Try.func117 rfl (by kernel_rfl) rfl rfl (of_decide_eq_true rfl) ?_; unfold hFun; (conv => whnf)
  refine HLit.empty ?_
  (conv => whnf)
  refine HLoop.intro [4, 3] [7, 8, 9, 12, 13, 5, 14, 15, 16, 17, 18, 19, 20, 21, 22, 23, 24, 25, 26, 27, 28, 29, 30, 31, 32, 33, 34, 3, 10, 11, 4] (by kernel_rfl) (by kernel_rfl) (fun vs h' => ∃ (k : Nat) (z : H0), vs = [I k, .s z] ∧ k ≤ n ∧ Ext h h' ∧ OwnM h.length h'.length h' z (chainTo n k)) (fun vs _ => n - natAt vs 0) ⟨0, _, rfl, by omega, Ext.push _ _, OwnM.none h⟩ ?_
  rintro vs h' ⟨k, z, rfl, hk, E, O⟩
  have hcl := chainTo_length n k
  (conv => whnf)
  refine HIf.dec (fun hlt => ?_) (fun hge => ?_)
  · (conv => whnf)
    refine HMake.ints n rfl (by omega) ?_
    have O1 : OwnR h'.length (h' ++ [.own (List.replicate n (ci 0))]) (.sl h'.length 0 n) (List.replicate n (0 : Int)) := ⟨[], by simp, by rw [get_new]; simp⟩
    have E1 := Ext.push h' [.own (List.replicate n (ci 0))]
    generalize h' ++ [Row.own (List.replicate n (ci 0))] = h1 at O1 E1 ⊢
    have hE1 := E1.1
    have hrl : (List.replicate n (0 : Int)).length = n := by simp
    (conv => whnf)
    refine ⟨rfl, O1.idx (by omega) (by omega) ?_⟩
    (conv => whnf)
    refine ⟨rfl, O1.put (o := k) (by omega) (fun h2 B2 n2 O2 => ?_)⟩
    have E2 := E1.but B2 (Nat.le_refl _)
    have l2 : (((List.replicate n (0 : Int)).set k 2)).length = n := by simp
    (conv => whnf)
    refine HIf.dec (fun h0 => ?_) (fun h0 => ?_)
    · (conv => whnf)
      refine HArith.fits (by omega) (by omega) ?_
      (conv => whnf)
      refine ⟨rfl, O2.idx (by omega) (by omega) ?_⟩
      (conv => whnf)
      refine ⟨rfl, O2.put (by omega) (fun h3 B3 n3 O3 => ?_)⟩
      have E3 := E2.but B3 (Nat.le_refl _)
      have e3 : ((k : Int) - 1).toNat = k - 1 := by omega
      rw [e3] at O3
      have l3 : ((((List.replicate n (0 : Int)).set k 2)).set (k - 1) (-1)).length = n := by simp
      (conv => whnf)
      refine HArith.fits (by omega) (by omega) ?_
      (conv => whnf)
      refine HIf.dec (fun h1 => ?_) (fun h1 => ?_)
      · (conv => whnf)
        refine HArith.fits (by omega) (by omega) ?_
        (conv => whnf)
        refine ⟨rfl, O3.idx (by omega) (by omega) ?_⟩
        (conv => whnf)
        refine ⟨rfl, O3.put (by omega) (fun h4 B4 n4 O4 => ?_)⟩
        have E4 := E3.but B4 (Nat.le_refl _)
        have e4 : ((k : Int) + 1).toNat = k + 1 := by omega
        have e5 : (((((List.replicate n (0 : Int)).set k 2)).set (k - 1) (-1)).set ((k : Int) + 1).toNat (-1)) = chainR n k := by
          rw [e4]
          unfold chainR
          simp only
          rw [if_pos (by omega), if_pos (by omega)]
        rw [e5] at O4
        (conv => whnf)
        refine HLit.row (O4.own (Nat.zero_le _)).one ?_
        (conv => whnf)
        refine ⟨rfl, rfl, HApp.snocM E O E4 (O4.own (by omega)) (by omega) (fun h6 y6 E6 O6 => ?_)⟩
        rw [← chainTo_succ] at O6
        (conv => whnf)
        refine HArith.fits (by omega) (by omega) ?_
        (conv => whnf)
        exact ⟨⟨k + 1, y6, rfl, by omega, E6, O6⟩, by show n - (k + 1) < n - k; omega⟩
      · have e5 : ((((List.replicate n (0 : Int)).set k 2)).set (k - 1) (-1)) = chainR n k := by
          unfold chainR
          simp only
          rw [if_neg (by omega), if_pos (by omega)]
        rw [e5] at O3
        (conv => whnf)
        refine HLit.row (O3.own (Nat.zero_le _)).one ?_
        (conv => whnf)
        refine ⟨rfl, rfl, HApp.snocM E O E3 (O3.own (by omega)) (by omega) (fun h6 y6 E6 O6 => ?_)⟩
        rw [← chainTo_succ] at O6
        (conv => whnf)
        refine HArith.fits (by omega) (by omega) ?_
        (conv => whnf)
        exact ⟨⟨k + 1, y6, rfl, by omega, E6, O6⟩, by show n - (k + 1) < n - k; omega⟩
    · (conv => whnf)
      refine HArith.fits (by omega) (by omega) ?_
      (conv => whnf)
      refine HIf.dec (fun h1 => ?_) (fun h1 => ?_)
      · (conv => whnf)
        refine HArith.fits (by omega) (by omega) ?_
        (conv => whnf)
        refine ⟨rfl, O2.idx (by omega) (by omega) ?_⟩
        (conv => whnf)
        refine ⟨rfl, O2.put (by omega) (fun h4 B4 n4 O4 => ?_)⟩
        have E4 := E2.but B4 (Nat.le_refl _)
        have e4 : ((k : Int) + 1).toNat = k + 1 := by omega
        have e5 : (((List.replicate n (0 : Int)).set k 2)).set ((k : Int) + 1).toNat (-1) = chainR n k := by
          rw [e4]
          unfold chainR
          simp only
          rw [if_pos (by omega), if_neg (by omega)]
        rw [e5] at O4
        (conv => whnf)
        refine HLit.row (O4.own (Nat.zero_le _)).one ?_
        (conv => whnf)
        refine ⟨rfl, rfl, HApp.snocM E O E4 (O4.own (by omega)) (by omega) (fun h6 y6 E6 O6 => ?_)⟩
        rw [← chainTo_succ] at O6
        (conv => whnf)
        refine HArith.fits (by omega) (by omega) ?_
        (conv => whnf)
        exact ⟨⟨k + 1, y6, rfl, by omega, E6, O6⟩, by show n - (k + 1) < n - k; omega⟩
      · have e5 : (((List.replicate n (0 : Int)).set k 2)) = chainR n k := by
          unfold chainR
          simp only
          rw [if_neg (by omega), if_neg (by omega)]
        rw [e5] at O2
        (conv => whnf)
        refine HLit.row (O2.own (Nat.zero_le _)).one ?_
        (conv => whnf)
        refine ⟨rfl, rfl, HApp.snocM E O E2 (O2.own (by omega)) (by omega) (fun h6 y6 E6 O6 => ?_)⟩
        rw [← chainTo_succ] at O6
        (conv => whnf)
        refine HArith.fits (by omega) (by omega) ?_
        (conv => whnf)
        exact ⟨⟨k + 1, y6, rfl, by omega, E6, O6⟩, by show n - (k + 1) < n - k; omega⟩
  · have e : k = n := by omega
    subst e
    (conv => whnf)
    exact ⟨_, rfl, E, O⟩

theorem spec_l2Set (h : Heap) (x : H0) (L : List (List Int)) (i j : Nat) (a b : Int) (hx : Rows h x L) (hL : L.length ≤ 1048576 ∧ tot L ≤ 1048576) (hi : i < L.length) (hj : j < L.length) (hij : j < (L.getD i []).length) (hji : i < (L.getD j []).length) :
    HCalls dm Try.prog 115 [.s x, I i, I j, I a, I b] h (fun r h' => ∃ y, r = .s y ∧ Ext h h' ∧ OwnM h.length h'.length h' y (setC L i j a b)) := by
  refine calls_of_hFun (m := 0) kd_ok mixed Try.func115 rfl (by kernel_rfl) rfl rfl (of_decide_eq_true rfl) ?_; unfold hFun; (conv => whnf)
  refine (spec_l2Copy _ _ _ hx hL).mono ?_
  rintro r h1 ⟨y, rfl, E1, O1⟩
  obtain ⟨r0, ρ, rfl, hb, he, hρ, m⟩ := O1
  (conv => whnf)
  refine ⟨rfl, m.idx hi (fun p hp => ?_)⟩
  (conv => whnf)
  refine ⟨rfl, hp.load ?_⟩
  (conv => whnf)
  refine ⟨rfl, (m.inner' hi).idx (by omega) (by omega) ?_⟩
  (conv => whnf)
  refine ⟨rfl, m.put hi hij (fun h2 n2 k2 m2 => ?_)⟩
  have E2 : Ext h h2 := k2.ext (fun q e => by have := hρ i hi; omega) E1
  have hj2 : j < (setM L i j a).length := by rw [setM_length]; exact hj
  have hl2 : (setM L i j a).length = L.length := setM_length _ _ _ _
  have hji2 : i < ((setM L i j a).getD j []).length := by rw [setM_row hi]; exact hji
  rw [← hl2]
  (conv => whnf)
  refine ⟨rfl, m2.idx hj2 (fun p hp => ?_)⟩
  (conv => whnf)
  refine ⟨rfl, hp.load ?_⟩
  (conv => whnf)
  refine ⟨rfl, (m2.inner' hj2).idx (by omega) (by omega) ?_⟩
  (conv => whnf)
  refine ⟨rfl, m2.put hj2 hji2 (fun h3 n3 k3 m3 => ?_)⟩
  have E3 : Ext h h3 := k3.ext (fun q e => by have := hρ j hj; omega) E2
  have hl3 : (setC L i j a b).length = L.length := by unfold setC; rw [setM_length, setM_length]
  (conv => whnf)
  exact ⟨_, rfl, E3, r0, ρ, by rw [hl3, hl2], hb, by omega, fun k hk => by rw [hl3] at hk; have := hρ k hk; omega, m3⟩

set_option maxRecDepth 20000 in
theorem spec_TypeCartan (h : Heap) (s : ByteArray) (hs : s ∈ namesT) : HCalls dm Try.prog 113 [St s] h (fun r h' => ∃ y L, r = TM y true ∧ Ext h h' ∧ OwnM h.length h'.length h' y L ∧ isCartan L = true) := by
  refine calls_of_hFun (m := 0) kd_ok mixed Try.func113 rfl (by kernel_rfl) rfl rfl (of_decide_eq_true rfl) ?_; unfold hFun; (conv => whnf)
  refine HStr.eql ?_
  (conv => whnf)
  refine HIf.str (fun e => ?_) (fun neA1 => ?_)
  · subst e
    (conv => whnf)
    refine HIf.strT rfl ?_
    (conv => whnf)
    refine ⟨_, .i64, 1, by decide, rfl, rfl, ?_⟩
    (conv => whnf)
    refine HArith.any ?_
    (conv => whnf)
    refine HConv.of ?_
    (conv => whnf)
    refine (show HCalls _ _ _ [I ((1 : Nat) : Int)] _ _ from (spec_l2Chain h 1 (by omega)).mono ?_)
    rintro r h1 ⟨y1, rfl, E1, O1⟩
    (conv => whnf)
    exact ⟨_, _, rfl, E1, O1, cartA1⟩
  (conv => whnf)
  refine HStr.eql ?_
  (conv => whnf)
  refine HIf.str (fun e => ?_) (fun neA2 => ?_)
  · subst e
    (conv => whnf)
    refine HIf.strT rfl ?_
    (conv => whnf)
    refine ⟨_, .i64, 1, by decide, rfl, rfl, ?_⟩
    (conv => whnf)
    refine HArith.any ?_
    (conv => whnf)
    refine HConv.of ?_
    (conv => whnf)
    refine (show HCalls _ _ _ [I ((2 : Nat) : Int)] _ _ from (spec_l2Chain h 2 (by omega)).mono ?_)
    rintro r h1 ⟨y1, rfl, E1, O1⟩
    (conv => whnf)
    exact ⟨_, _, rfl, E1, O1, cartA2⟩
  (conv => whnf)
  refine HStr.eql ?_
  (conv => whnf)
  refine HIf.str (fun e => ?_) (fun neA3 => ?_)
  · subst e
    (conv => whnf)
    refine HIf.strT rfl ?_
    (conv => whnf)
    refine ⟨_, .i64, 1, by decide, rfl, rfl, ?_⟩
    (conv => whnf)
    refine HArith.any ?_
    (conv => whnf)
    refine HConv.of ?_
    (conv => whnf)
    refine (show HCalls _ _ _ [I ((3 : Nat) : Int)] _ _ from (spec_l2Chain h 3 (by omega)).mono ?_)
    rintro r h1 ⟨y1, rfl, E1, O1⟩
    (conv => whnf)
    exact ⟨_, _, rfl, E1, O1, cartA3⟩
  (conv => whnf)
  refine HStr.eql ?_
  (conv => whnf)
  refine HIf.str (fun e => ?_) (fun neA4 => ?_)
  · subst e
    (conv => whnf)
    refine ⟨_, .i64, 1, by decide, rfl, rfl, ?_⟩
    (conv => whnf)
    refine HArith.any ?_
    (conv => whnf)
    refine HConv.of ?_
    (conv => whnf)
    refine (show HCalls _ _ _ [I ((4 : Nat) : Int)] _ _ from (spec_l2Chain h 4 (by omega)).mono ?_)
    rintro r h1 ⟨y1, rfl, E1, O1⟩
    (conv => whnf)
    exact ⟨_, _, rfl, E1, O1, cartA4⟩
  (conv => whnf)
  refine HStr.eql ?_
  (conv => whnf)
  refine HIf.str (fun e => ?_) (fun neB2 => ?_)
  · subst e
    (conv => whnf)
    refine (show HCalls _ _ _ [I ((2 : Nat) : Int)] _ _ from (spec_l2Chain h 2 (by omega)).mono ?_)
    rintro r h1 ⟨y1, rfl, E1, O1⟩
    (conv => whnf)
    refine (spec_l2Set h1 _ (chainC 2) 0 1 (-1) (-2) O1.rows (by decide +kernel) (by decide +kernel) (by decide +kernel) (by decide +kernel) (by decide +kernel)).mono ?_
    rintro r h2 ⟨y2, rfl, E2, O2⟩
    (conv => whnf)
    replace O2 := O2.lower E1.1
    replace E2 := E1.trans E2
    exact ⟨_, _, rfl, E2, O2, cartB2⟩
  (conv => whnf)
  refine HStr.eql ?_
  (conv => whnf)
  refine HIf.str (fun e => ?_) (fun neB3 => ?_)
  · subst e
    (conv => whnf)
    refine (show HCalls _ _ _ [I ((3 : Nat) : Int)] _ _ from (spec_l2Chain h 3 (by omega)).mono ?_)
    rintro r h1 ⟨y1, rfl, E1, O1⟩
    (conv => whnf)
    refine (spec_l2Set h1 _ (chainC 3) 1 2 (-1) (-2) O1.rows (by decide +kernel) (by decide +kernel) (by decide +kernel) (by decide +kernel) (by decide +kernel)).mono ?_
    rintro r h2 ⟨y2, rfl, E2, O2⟩
    (conv => whnf)
    replace O2 := O2.lower E1.1
    replace E2 := E1.trans E2
    exact ⟨_, _, rfl, E2, O2, cartB3⟩
  (conv => whnf)
  refine HStr.eql ?_
  (conv => whnf)
  refine HIf.str (fun e => ?_) (fun neB4 => ?_)
  · subst e
    (conv => whnf)
    refine (show HCalls _ _ _ [I ((4 : Nat) : Int)] _ _ from (spec_l2Chain h 4 (by omega)).mono ?_)
    rintro r h1 ⟨y1, rfl, E1, O1⟩
    (conv => whnf)
    refine (spec_l2Set h1 _ (chainC 4) 2 3 (-1) (-2) O1.rows (by decide +kernel) (by decide +kernel) (by decide +kernel) (by decide +kernel) (by decide +kernel)).mono ?_
    rintro r h2 ⟨y2, rfl, E2, O2⟩
    (conv => whnf)
    replace O2 := O2.lower E1.1
    replace E2 := E1.trans E2
    exact ⟨_, _, rfl, E2, O2, cartB4⟩
  (conv => whnf)
  refine HStr.eql ?_
  (conv => whnf)
  refine HIf.str (fun e => ?_) (fun neC3 => ?_)
  · subst e
    (conv => whnf)
    refine (show HCalls _ _ _ [I ((3 : Nat) : Int)] _ _ from (spec_l2Chain h 3 (by omega)).mono ?_)
    rintro r h1 ⟨y1, rfl, E1, O1⟩
    (conv => whnf)
    refine (spec_l2Set h1 _ (chainC 3) 1 2 (-2) (-1) O1.rows (by decide +kernel) (by decide +kernel) (by decide +kernel) (by decide +kernel) (by decide +kernel)).mono ?_
    rintro r h2 ⟨y2, rfl, E2, O2⟩
    (conv => whnf)
    replace O2 := O2.lower E1.1
    replace E2 := E1.trans E2
    exact ⟨_, _, rfl, E2, O2, cartC3⟩
  (conv => whnf)
  refine HStr.eql ?_
  (conv => whnf)
  refine HIf.str (fun e => ?_) (fun neC4 => ?_)
  · subst e
    (conv => whnf)
    refine (show HCalls _ _ _ [I ((4 : Nat) : Int)] _ _ from (spec_l2Chain h 4 (by omega)).mono ?_)
    rintro r h1 ⟨y1, rfl, E1, O1⟩
    (conv => whnf)
    refine (spec_l2Set h1 _ (chainC 4) 2 3 (-2) (-1) O1.rows (by decide +kernel) (by decide +kernel) (by decide +kernel) (by decide +kernel) (by decide +kernel)).mono ?_
    rintro r h2 ⟨y2, rfl, E2, O2⟩
    (conv => whnf)
    replace O2 := O2.lower E1.1
    replace E2 := E1.trans E2
    exact ⟨_, _, rfl, E2, O2, cartC4⟩
  (conv => whnf)
  refine HStr.eql ?_
  (conv => whnf)
  refine HIf.str (fun e => ?_) (fun neD4 => ?_)
  · subst e
    (conv => whnf)
    refine (show HCalls _ _ _ [I ((4 : Nat) : Int)] _ _ from (spec_l2Chain h 4 (by omega)).mono ?_)
    rintro r h1 ⟨y1, rfl, E1, O1⟩
    (conv => whnf)
    refine (spec_l2Set h1 _ (chainC 4) 2 3 0 0 O1.rows (by decide +kernel) (by decide +kernel) (by decide +kernel) (by decide +kernel) (by decide +kernel)).mono ?_
    rintro r h2 ⟨y2, rfl, E2, O2⟩
    (conv => whnf)
    replace O2 := O2.lower E1.1
    replace E2 := E1.trans E2
    refine (spec_l2Set h2 _ (setC (chainC 4) 2 3 0 0) 1 3 (-1) (-1) O2.rows (by decide +kernel) (by decide +kernel) (by decide +kernel) (by decide +kernel) (by decide +kernel)).mono ?_
    rintro r h3 ⟨y3, rfl, E3, O3⟩
    (conv => whnf)
    replace O3 := O3.lower E2.1
    replace E3 := E2.trans E3
    exact ⟨_, _, rfl, E3, O3, cartD4⟩
  (conv => whnf)
  refine HStr.eql ?_
  (conv => whnf)
  refine HIf.str (fun e => ?_) (fun neF4 => ?_)
  · subst e
    (conv => whnf)
    refine (show HCalls _ _ _ [I ((4 : Nat) : Int)] _ _ from (spec_l2Chain h 4 (by omega)).mono ?_)
    rintro r h1 ⟨y1, rfl, E1, O1⟩
    (conv => whnf)
    refine (spec_l2Set h1 _ (chainC 4) 1 2 (-1) (-2) O1.rows (by decide +kernel) (by decide +kernel) (by decide +kernel) (by decide +kernel) (by decide +kernel)).mono ?_
    rintro r h2 ⟨y2, rfl, E2, O2⟩
    (conv => whnf)
    replace O2 := O2.lower E1.1
    replace E2 := E1.trans E2
    exact ⟨_, _, rfl, E2, O2, cartF4⟩
  (conv => whnf)
  refine HStr.eql ?_
  (conv => whnf)
  refine HIf.str (fun e => ?_) (fun neG2 => ?_)
  · subst e
    (conv => whnf)
    refine (show HCalls _ _ _ [I ((2 : Nat) : Int)] _ _ from (spec_l2Chain h 2 (by omega)).mono ?_)
    rintro r h1 ⟨y1, rfl, E1, O1⟩
    (conv => whnf)
    refine (spec_l2Set h1 _ (chainC 2) 0 1 (-1) (-3) O1.rows (by decide +kernel) (by decide +kernel) (by decide +kernel) (by decide +kernel) (by decide +kernel)).mono ?_
    rintro r h2 ⟨y2, rfl, E2, O2⟩
    (conv => whnf)
    replace O2 := O2.lower E1.1
    replace E2 := E1.trans E2
    exact ⟨_, _, rfl, E2, O2, cartG2⟩
  (conv => whnf)
  refine HStr.eql ?_
  (conv => whnf)
  refine HIf.str (fun e => ?_) (fun neA1t => ?_)
  · subst e
    (conv => whnf)
    refine (show HCalls _ _ _ [I ((2 : Nat) : Int)] _ _ from (spec_l2Chain h 2 (by omega)).mono ?_)
    rintro r h1 ⟨y1, rfl, E1, O1⟩
    (conv => whnf)
    refine (spec_l2Set h1 _ (chainC 2) 0 1 (-2) (-2) O1.rows (by decide +kernel) (by decide +kernel) (by decide +kernel) (by decide +kernel) (by decide +kernel)).mono ?_
    rintro r h2 ⟨y2, rfl, E2, O2⟩
    (conv => whnf)
    replace O2 := O2.lower E1.1
    replace E2 := E1.trans E2
    exact ⟨_, _, rfl, E2, O2, cartA1t⟩
  (conv => whnf)
  refine HStr.eql ?_
  (conv => whnf)
  refine HIf.str (fun e => ?_) (fun neA2t => ?_)
  · subst e
    (conv => whnf)
    refine (show HCalls _ _ _ [I ((3 : Nat) : Int)] _ _ from (spec_l2Chain h 3 (by omega)).mono ?_)
    rintro r h1 ⟨y1, rfl, E1, O1⟩
    (conv => whnf)
    refine (spec_l2Set h1 _ (chainC 3) 0 2 (-1) (-1) O1.rows (by decide +kernel) (by decide +kernel) (by decide +kernel) (by decide +kernel) (by decide +kernel)).mono ?_
    rintro r h2 ⟨y2, rfl, E2, O2⟩
    (conv => whnf)
    replace O2 := O2.lower E1.1
    replace E2 := E1.trans E2
    exact ⟨_, _, rfl, E2, O2, cartA2t⟩
  (conv => whnf)
  refine HStr.eql ?_
  (conv => whnf)
  refine HIf.str (fun e => ?_) (fun neA3t => ?_)
  · subst e
    (conv => whnf)
    refine (show HCalls _ _ _ [I ((4 : Nat) : Int)] _ _ from (spec_l2Chain h 4 (by omega)).mono ?_)
    rintro r h1 ⟨y1, rfl, E1, O1⟩
    (conv => whnf)
    refine (spec_l2Set h1 _ (chainC 4) 0 3 (-1) (-1) O1.rows (by decide +kernel) (by decide +kernel) (by decide +kernel) (by decide +kernel) (by decide +kernel)).mono ?_
    rintro r h2 ⟨y2, rfl, E2, O2⟩
    (conv => whnf)
    replace O2 := O2.lower E1.1
    replace E2 := E1.trans E2
    exact ⟨_, _, rfl, E2, O2, cartA3t⟩
  (conv => whnf)
  refine HStr.eql ?_
  (conv => whnf)
  refine HIf.str (fun e => ?_) (fun neC2t => ?_)
  · subst e
    (conv => whnf)
    refine (show HCalls _ _ _ [I ((3 : Nat) : Int)] _ _ from (spec_l2Chain h 3 (by omega)).mono ?_)
    rintro r h1 ⟨y1, rfl, E1, O1⟩
    (conv => whnf)
    refine (spec_l2Set h1 _ (chainC 3) 0 1 (-1) (-2) O1.rows (by decide +kernel) (by decide +kernel) (by decide +kernel) (by decide +kernel) (by decide +kernel)).mono ?_
    rintro r h2 ⟨y2, rfl, E2, O2⟩
    (conv => whnf)
    replace O2 := O2.lower E1.1
    replace E2 := E1.trans E2
    refine (spec_l2Set h2 _ (setC (chainC 3) 0 1 (-1) (-2)) 1 2 (-2) (-1) O2.rows (by decide +kernel) (by decide +kernel) (by decide +kernel) (by decide +kernel) (by decide +kernel)).mono ?_
    rintro r h3 ⟨y3, rfl, E3, O3⟩
    (conv => whnf)
    replace O3 := O3.lower E2.1
    replace E3 := E2.trans E3
    exact ⟨_, _, rfl, E3, O3, cartC2t⟩
  (conv => whnf)
  refine HStr.eql ?_
  (conv => whnf)
  refine HIf.str (fun e => ?_) (fun neG2t => ?_)
  · subst e
    (conv => whnf)
    refine (show HCalls _ _ _ [I ((3 : Nat) : Int)] _ _ from (spec_l2Chain h 3 (by omega)).mono ?_)
    rintro r h1 ⟨y1, rfl, E1, O1⟩
    (conv => whnf)
    refine (spec_l2Set h1 _ (chainC 3) 1 2 (-1) (-3) O1.rows (by decide +kernel) (by decide +kernel) (by decide +kernel) (by decide +kernel) (by decide +kernel)).mono ?_
    rintro r h2 ⟨y2, rfl, E2, O2⟩
    (conv => whnf)
    replace O2 := O2.lower E1.1
    replace E2 := E1.trans E2
    exact ⟨_, _, rfl, E2, O2, cartG2t⟩
  (conv => whnf)
  exfalso
  simp only [namesT, List.mem_cons, List.not_mem_nil, or_false] at hs
  rcases hs with rfl | rfl | rfl | rfl | rfl | rfl | rfl | rfl | rfl | rfl | rfl | rfl | rfl | rfl | rfl | rfl | rfl <;> contradiction

end Go.Proofs.Ytjgnnjegaedinaa.Hx

namespace Go.Proofs.Ytjgnnjegaedinaa.Hx
open Go.RowKit
variable {dm : Bool}

theorem joinC_length (a b : List (List Int)) : (joinC a b).length = a.length + b.length := joinTo2_length _ _ _
theorem joinC_row {a b : List (List Int)} (ha : ∀ k, k < a.length → (a.getD k []).length = a.length) (hb : ∀ k, k < b.length → (b.getD k []).length = b.length) : ∀ k, k < (joinC a b).length → ((joinC a b).getD k []).length = (joinC a b).length := by
  intro k hk
  rw [joinC_length] at hk ⊢
  by_cases h : k < a.length
  · have h1 := ha k h
    have e : (joinC a b).getD k [] = a.getD k [] ++ zerosL b.length := by
      unfold joinC joinTo2 joinTo1
      simp only [List.getD]
      rw [List.getElem?_append_left (by simpa using h)]
      simp [h]
    rw [e, List.length_append, h1]
    simp [zerosL]
  · have h2 : k - a.length < b.length := by omega
    have h1 := hb (k - a.length) h2
    have e : (joinC a b).getD k [] = zerosL a.length ++ b.getD (k - a.length) [] := by
      unfold joinC joinTo2 joinTo1
      simp only [List.getD]
      rw [List.getElem?_append_right (by simp; omega)]
      simp [h2]
    rw [e, List.length_append, h1]
    simp [zerosL]

theorem Shape.join {a b : List (List Int)} (ha : Shape a) (hb : Shape b) (hl : a.length + b.length ≤ 4) : Shape (joinC a b) :=
  ⟨by rw [joinC_length]; have := ha.pos; omega, by rw [joinC_length]; omega, joinC_row ha.row hb.row⟩

def finL : List ByteArray := [⟨#[65, 49]⟩, ⟨#[65, 50]⟩, ⟨#[65, 50]⟩, ⟨#[65, 51]⟩, ⟨#[65, 51]⟩, ⟨#[66, 50]⟩, ⟨#[66, 50]⟩, ⟨#[66, 51]⟩, ⟨#[67, 51]⟩, ⟨#[71, 50]⟩]
def infL : List ByteArray := [⟨#[65, 49, 126]⟩, ⟨#[65, 50, 126]⟩, ⟨#[67, 50, 126]⟩, ⟨#[71, 50, 126]⟩, ⟨#[65, 51, 126]⟩, ⟨#[68, 52]⟩, ⟨#[65, 52]⟩]
theorem finL_names : ∀ s ∈ finL, s ∈ namesT := by
  intro s hs
  simp only [finL, List.mem_cons, List.not_mem_nil, or_false] at hs
  rcases hs with rfl | rfl | rfl | rfl | rfl | rfl | rfl | rfl | rfl | rfl <;> simp [namesT]
theorem infL_names : ∀ s ∈ infL, s ∈ namesT := by
  intro s hs
  simp only [infL, List.mem_cons, List.not_mem_nil, or_false] at hs
  rcases hs with rfl | rfl | rfl | rfl | rfl | rfl | rfl <;> simp [namesT]
theorem cst_one (l : List ByteArray) : ∀ c ∈ l.map cst, c.one = true := by
  intro c hc
  obtain ⟨n, _, rfl⟩ := List.mem_map.1 hc
  rfl
theorem Strs.new (h : Heap) (l : List ByteArray) : Strs (h ++ [.own (l.map cst)]) (.sl h.length 0 l.length) l := by
  have := Shows.own h.length 0 l.length _ (get_new h (.own (l.map cst))) (by simp)
  simp only [List.drop_zero] at this
  rw [List.take_of_length_le (by simp)] at this
  exact this
theorem KeepR.then {r : Nat} {a b c : Heap} (h : KeepR r a b) (k : KeepR r b c) : KeepR r a c := h.trans k (fun _ _ g => g)
theorem KeepR.ext {r : Nat} {a b c : Heap} (h : KeepR r a b) (k : Ext b c) : KeepR r a c := h.trans (KeepN.ofExt (F := fun q => q = r) k) (fun _ _ g => g)
theorem MatAt.keep {F : Nat → Prop} {h h' : Heap} {r : Nat} {ρ : Nat → Nat} {L : List (List Int)} (m : MatAt h r ρ L) (k : KeepN F h h') (hr : ¬ F r) (hρ : ∀ i, i < L.length → ¬ F (ρ i)) : MatAt h' r ρ L :=
  m.move (k.2 r m.lt.1 hr) (fun i hi => k.2 _ (m.lt.2 i hi) (hρ i hi))
theorem MatAt.at {h : Heap} {r : Nat} {ρ : Nat → Nat} {L : List (List Int)} (m : MatAt h r ρ L) {n : Nat} (h1 : n < L.length) : At h (.ptr r n) (.sl (ρ n) 0 (L.getD n []).length) := by
  obtain ⟨cs, g1, g2, g3⟩ := m.outer
  exact ⟨r, n, _, cs, rfl, g1, rfl, g3 n h1⟩
theorem MatAt.ptr {h : Heap} {r : Nat} {ρ : Nat → Nat} {L : List (List Int)} (_m : MatAt h r ρ L) {n : Nat} (h1 : n < L.length) {k : IntKind} {K : HV → Prop} (hK : K (.s (.ptr r n))) : HIdx h (.s (.sl r 0 L.length)) (.s (.pl (.int k (n : Int)))) K :=
  HIdx.sl (by omega) (by omega) (by rw [Int.toNat_natCast, Nat.zero_add]; exact hK)
theorem MatAt.own {h : Heap} {r b : Nat} {ρ : Nat → Nat} {L : List (List Int)} (m : MatAt h r ρ L) (hr : b ≤ r) (hρ : ∀ i, i < L.length → b ≤ ρ i) : OwnM b h.length h (.sl r 0 L.length) L :=
  ⟨r, ρ, rfl, hr, m.lt.1, fun i hi => ⟨hρ i hi, m.lt.2 i hi⟩, m⟩

/-- Any slice of ints put into a slice of slices of one's own. -/
theorem MatAt.putAny {h : Heap} {r : Nat} {ρ : Nat → Nat} {L : List (List Int)} (m : MatAt h r ρ L) {i q off n : Nat} (hi : i < L.length) {l : List Int} (hc : Ints h (.sl q off n) l) (hq : q ≠ r) {F : Nat → Prop} (hF : ¬ F r) (hFq : ¬ F q) (hFρ : ∀ k, k < L.length → ¬ F (ρ k)) {K : HV → Heap → Prop}
    (hK : ∀ h', h'.length = h.length → KeepN (fun q => q = r) h h' → RowsN F h' (.sl r 0 L.length) (L.set i l) → K .dead h') : HStore h (.s (.ptr r i)) (.s (.sl q off n)) K := by
  obtain ⟨cs, g1, g2, g3⟩ := m.outer
  have hlt := get_lt g1
  have k0 : KeepN (fun q => q = r) h (h.set r (.own (cs.set i (.sl q off n)))) := ⟨by simp, fun q hq hn => by rw [List.getElem?_set_ne (Ne.symm hn)]⟩
  refine HStore.own g1 (by omega) rfl (hK _ (by simp) k0 ⟨((cs.set i (.sl q off n)).drop 0).take L.length, Shows.own r 0 L.length _ (List.getElem?_set_self hlt) (by simpa using g2), fun r' o n' e => by cases e; exact hF, by simp; omega, fun k y l' hy hl => ?_⟩)
  have hk : k < L.length := by have := (List.getElem?_eq_some_iff.1 hl).1; simpa using this
  rw [List.drop_zero, List.getElem?_take_of_lt hk] at hy
  by_cases hki : k = i
  · subst hki
    rw [List.getElem?_set_self (by omega)] at hy hl
    cases hy
    cases hl
    exact ⟨Shows.keep hc (fun r' o n' e => by cases e; exact hq) k0, fun r' o n' e => by cases e; exact hFq⟩
  · rw [List.getElem?_set_ne (Ne.symm hki)] at hy hl
    rw [g3 k hk] at hy
    cases hy
    obtain ⟨t, ht⟩ := m.inner k hk
    have e : L.getD k [] = l' := by simp [List.getD, hl]
    rw [e] at ht ⊢
    exact ⟨Shows.keep (Ints.ofOwn ht) (fun r' o n' e => by cases e; exact m.ne k hk) k0, fun r' o n' e => by cases e; exact hFρ k hk⟩


theorem spec_JoinCartans (h : Heap) (x0 x1 : H0) (a0 a1 : List (List Int)) (hx0 : Rows h x0 a0) (hx1 : Rows h x1 a1) (C0 : isCartan a0 = true) (C1 : isCartan a1 = true) (hl : a0.length + a1.length ≤ 4) :
    HCalls dm Try.prog 116 [.s x0, .s x1] h (fun r h' => ∃ y, r = TM y true ∧ Ext h h' ∧ OwnM h.length h'.length h' y (joinC a0 a1)) := by
  have S0 := Shape.of C0
  have S1 := Shape.of C1
  have p0 := S0.pos
  have p1 := S1.pos
  refine calls_of_hFun (m := 0) kd_ok mixed Try.func116 rfl (by kernel_rfl) rfl rfl (of_decide_eq_true rfl) ?_; unfold hFun; (conv => whnf)
  refine (spec_IsCartan _ _ _ hx0 (by omega)).mono ?_
  rintro r h' ⟨rfl, hh⟩
  subst h'
  rw [C0]
  (conv => whnf)
  (repeat (refine HIf.isF rfl ?_; (conv => whnf)))
  refine (spec_IsCartan _ _ _ hx1 (by omega)).mono ?_
  rintro r h' ⟨rfl, hh⟩
  subst h'
  rw [C1]
  (conv => whnf)
  (repeat (refine HIf.isF rfl ?_; (conv => whnf)))
  refine ⟨rfl, hx0.len ?_⟩
  (conv => whnf)
  (repeat (refine HIf.isF rfl ?_; (conv => whnf)))
  refine ⟨rfl, hx1.len ?_⟩
  (conv => whnf)
  (repeat (refine HIf.isF rfl ?_; (conv => whnf)))
  refine HArith.fits (by omega) (by omega) ?_
  (conv => whnf)
  (repeat (refine HIf.isF rfl ?_; (conv => whnf)))
  refine HIf.decF (by omega) ?_
  (conv => whnf)
  refine HLit.empty ?_
  (conv => whnf)
  refine HLoop.intro [7, 6] [27, 28, 29, 30, 33, 34, 35, 36, 37, 38, 39, 40, 41, 42, 43, 44, 6, 31, 32, 7] (by kernel_rfl) (by kernel_rfl) (fun vs h' => ∃ (k : Nat) (z : H0), vs = [I k, .s z] ∧ k ≤ a0.length ∧ Ext h h' ∧ OwnM h.length h'.length h' z (joinTo1 a0 a1 k)) (fun vs _ => a0.length - natAt vs 0) ⟨0, _, rfl, by omega, Ext.push _ _, OwnM.none h⟩ ?_
  rintro vs h' ⟨k, z, rfl, hk, E, O⟩
  have hx0' := hx0.ext E
  have hx1' := hx1.ext E
  have hjl := joinTo1_length a0 a1 k
  (conv => whnf)
  refine ⟨rfl, hx0'.len ?_⟩
  (conv => whnf)
  refine HIf.dec (fun hlt => ?_) (fun hge => ?_)
  · have hrow := S0.row k (by omega)
    have E1 := Ext.push h' [Row.own []]
    (conv => whnf)
    refine HLit.empty ?_
    (conv => whnf)
    refine ⟨rfl, Rows.idxN (hx0'.ext E1) (by omega) (fun p y hp hy => ?_)⟩
    (conv => whnf)
    refine ⟨rfl, hp.load ?_⟩
    (conv => whnf)
    refine ⟨rfl, rfl, HApp.moreR (OwnR.push h' []) hy (by rw [List.length_nil]; omega) (fun h2 r2 y2 B2 hr2 O2 => ?_)⟩
    have E2 := E1.but B2 (Nat.le_refl _)
    have hE1 := E1.1
    rw [List.nil_append] at O2
    obtain ⟨t2, rfl, ho2⟩ := O2
    have O2 : OwnR r2 h2 (.sl r2 0 (a0.getD k []).length) (a0.getD k []) := ⟨t2, rfl, ho2⟩
    (conv => whnf)
    refine ⟨rfl, (hx1'.ext E2).len ?_⟩
    (conv => whnf)
    refine HAppZ2.ints O2 (by omega) (by omega) (fun h3 r3 y3 B3 hr3 O3 => ?_)
    have E3 := E2.but B3 (by omega)
    have hB2 := B2.1
    rw [Int.toNat_natCast] at O3
    (conv => whnf)
    refine HLit.row (O3.own (Nat.zero_le _)).one ?_
    (conv => whnf)
    refine ⟨rfl, rfl, HApp.snocM E O E3 (O3.own (by omega)) (by omega) (fun h4 y4 E4 O4 => ?_)⟩
    rw [← joinTo1_succ] at O4
    (conv => whnf)
    refine HArith.fits (by omega) (by omega) ?_
    (conv => whnf)
    exact ⟨⟨k + 1, y4, rfl, by omega, E4, O4⟩, by show a0.length - (k + 1) < a0.length - k; omega⟩
  · have e : k = a0.length := by omega
    subst e
    rw [← joinTo2_none] at O
    (conv => whnf)
    refine HLoop.intro [8, 6] [45, 46, 47, 48, 51, 52, 53, 54, 55, 56, 57, 58, 59, 60, 61, 6, 49, 50, 8] (by kernel_rfl) (by kernel_rfl) (fun vs h' => ∃ (k : Nat) (z : H0), vs = [I k, .s z] ∧ k ≤ a1.length ∧ Ext h h' ∧ OwnM h.length h'.length h' z (joinTo2 a0 a1 k)) (fun vs _ => a1.length - natAt vs 0) ⟨0, _, rfl, by omega, E, O⟩ ?_
    rintro vs h' ⟨k, z, rfl, hk, E, O⟩
    have hx0' := hx0.ext E
    have hx1' := hx1.ext E
    have hjl := joinTo2_length a0 a1 k
    (conv => whnf)
    refine ⟨rfl, hx1'.len ?_⟩
    (conv => whnf)
    refine HIf.dec (fun hlt => ?_) (fun hge => ?_)
    · have hrow := S1.row k (by omega)
      (conv => whnf)
      refine Or.inr (Or.inr (Or.inl (Exists.intro 8 (Exists.intro [0, 1, 2, 4, 5, 6, 7] (Exists.intro [3, 8, 9, 10, 11] (And.intro (show heldOk _ _ _ _ = true by kernel_rfl) ?_)))))); (conv => whnf)
      refine ⟨rfl, hx0'.len ?_⟩
      (conv => whnf)
      refine ⟨rfl, Rows.idxN hx1' (by omega) (fun p y hp hy => ?_)⟩
      (conv => whnf)
      refine ⟨rfl, hp.load ?_⟩
      (conv => whnf)
      refine HMake.ints a0.length rfl (by omega) ?_
      have O1 : OwnR h'.length (h' ++ [.own (List.replicate a0.length (ci 0))]) (.sl h'.length 0 a0.length) (zerosL a0.length) := ⟨[], by simp [zerosL], by rw [get_new]; simp [zerosL]⟩
      have E1 := Ext.push h' [.own (List.replicate a0.length (ci 0))]
      generalize h' ++ [Row.own (List.replicate a0.length (ci 0))] = h1 at O1 E1 ⊢
      have hE1 := E1.1
      have hzl : (zerosL a0.length).length = a0.length := by simp [zerosL]
      (conv => whnf)
      refine ⟨rfl, rfl, HApp.moreR O1 (hy.ext E1) (by omega) (fun h2 r2 y2 B2 hr2 O2 => ?_)⟩
      have E2 := E1.but B2 (Nat.le_refl _)
      (conv => whnf)
      refine HLit.row (O2.own (Nat.zero_le _)).one ?_
      (conv => whnf)
      refine ⟨rfl, rfl, HApp.snocM E O E2 (O2.own (by omega)) (by omega) (fun h4 y4 E4 O4 => ?_)⟩
      rw [← joinTo2_succ] at O4
      (conv => whnf)
      refine HArith.fits (by omega) (by omega) ?_
      (conv => whnf)
      exact ⟨⟨k + 1, y4, rfl, by omega, E4, O4⟩, by show a1.length - (k + 1) < a1.length - k; omega⟩
    · have e : k = a1.length := by omega
      subst e
      (conv => whnf)
      exact ⟨_, rfl, E, O⟩

theorem spec_TypeCartanA1 (h : Heap) : HCalls dm Try.prog 113 [St ⟨#[65, 49]⟩] h (fun r h' => ∃ y, r = TM y true ∧ Ext h h' ∧ OwnM h.length h'.length h' y (chainC 1)) := by
  refine calls_of_hFun (m := 0) kd_ok mixed Try.func113 rfl (by kernel_rfl) rfl rfl (of_decide_eq_true rfl) ?_; unfold hFun; (conv => whnf)
  refine HStr.eql ?_
  (conv => whnf)
  refine HIf.strT rfl ?_
  (conv => whnf)
  refine HIf.strT rfl ?_
  (conv => whnf)
  refine ⟨_, .i64, 1, by decide, rfl, rfl, ?_⟩
  (conv => whnf)
  refine HArith.any ?_
  (conv => whnf)
  refine HConv.of ?_
  (conv => whnf)
  refine (show HCalls _ _ _ [I ((1 : Nat) : Int)] _ _ from (spec_l2Chain h 1 (by omega)).mono ?_)
  rintro r h1 ⟨y1, rfl, E1, O1⟩
  (conv => whnf)
  exact ⟨_, rfl, E1, O1⟩

theorem spec_l2Finite (h : Heap) (r : Nat) (x : H0) (C : Cur r h x) : HCalls dm Try.prog 108 [.s x] h (fun v h' => ∃ y L, v = .s y ∧ KeepR r h h' ∧ Cur r h' x ∧ OwnM h.length h'.length h' y L ∧ Shape L) := by
  have hr := C.lt
  refine calls_of_hFun (m := 0) kd_ok mixed Try.func108 rfl (by kernel_rfl) rfl rfl (of_decide_eq_true rfl) ?_; unfold hFun; (conv => whnf)
  refine HLit.of (xs := finL.map cst) rfl (cst_one _) (by decide) ?_
  have C0 := C.ext (Ext.push h [.own (finL.map cst)])
  have E0 := Ext.push h [Row.own (finL.map cst)]
  have S0 := Strs.new h finL
  have hn0 : (h ++ [Row.own (finL.map cst)]).length = h.length + 1 := by simp
  generalize h ++ [Row.own (finL.map cst)] = h0 at C0 E0 S0 hn0 ⊢
  (conv => whnf)
  refine (spec_l1Pick _ r _ _ finL C0 S0 (fun q o n e => by cases e; omega) (by decide) (by decide)).mono ?_
  rintro v h1 ⟨s, rfl, hs, K1, C1⟩
  have K1 : KeepR r h h1 := KeepR.then (KeepN.ofExt E0) K1
  have n1 := K1.1
  (conv => whnf)
  refine (spec_TypeCartan _ s (finL_names s hs)).mono ?_
  rintro v h2 ⟨y, L, rfl, E2, O2, hC⟩
  have K2 := K1.ext E2
  have C2 := C1.ext E2
  replace O2 := O2.lower n1
  have SL := Shape.of hC
  (conv => whnf)
  refine ⟨rfl, O2.rows.len ?_⟩
  (conv => whnf)
  refine HIf.dec (fun hlt => ?_) (fun hge => ?_)
  · (conv => whnf)
    refine HIf.decT hlt ?_
    (conv => whnf)
    refine (spec_l1Once _ r _ 4 C2 (by omega)).mono ?_
    rintro v h3 ⟨b, rfl, K3, C3⟩
    have O3 := O2.keep K3 (fun q g1 g2 e => by omega)
    replace O3 := O3.widen K3.1
    have K3 := K2.then K3
    (conv => whnf)
    refine HIf.decT hlt ?_
    (conv => whnf)
    refine HIf.split (fun hb => ?_) (fun hb => ?_)
    · (conv => whnf)
      refine (spec_TypeCartanA1 _).mono ?_
      rintro v h4 ⟨y4, rfl, E4, O4⟩
      have O3' := O3.ext E4
      (conv => whnf)
      refine (spec_JoinCartans _ _ _ _ _ O3'.rows O4.rows hC (by decide +kernel) (by rw [show (chainC 1).length = 1 from rfl]; omega)).mono ?_
      rintro v h5 ⟨y5, rfl, E5, O5⟩
      (conv => whnf)
      exact ⟨_, _, rfl, (K3.ext E4).ext E5, (C3.ext E4).ext E5, O5.lower (Nat.le_trans K3.1 E4.1), SL.join (Shape.of (by decide +kernel)) (by rw [show (chainC 1).length = 1 from rfl]; omega)⟩
    · (conv => whnf)
      exact ⟨_, _, rfl, K3, C3, O3, SL⟩
  · (conv => whnf)
    refine HIf.decF hge ?_
    (conv => whnf)
    refine HIf.decF hge ?_
    (conv => whnf)
    refine HIf.no ?_
    (conv => whnf)
    exact ⟨_, _, rfl, K2, C2, O2, SL⟩

theorem spec_l2Infinite (h : Heap) (r : Nat) (x : H0) (C : Cur r h x) : HCalls dm Try.prog 107 [.s x] h (fun v h' => ∃ y L, v = .s y ∧ KeepR r h h' ∧ Cur r h' x ∧ OwnM h.length h'.length h' y L ∧ Shape L) := by
  have hr := C.lt
  refine calls_of_hFun (m := 0) kd_ok mixed Try.func107 rfl (by kernel_rfl) rfl rfl (of_decide_eq_true rfl) ?_; unfold hFun; (conv => whnf)
  refine HLit.of (xs := infL.map cst) rfl (cst_one _) (by decide) ?_
  have C0 := C.ext (Ext.push h [.own (infL.map cst)])
  have E0 := Ext.push h [Row.own (infL.map cst)]
  have S0 := Strs.new h infL
  have hn0 : (h ++ [Row.own (infL.map cst)]).length = h.length + 1 := by simp
  generalize h ++ [Row.own (infL.map cst)] = h0 at C0 E0 S0 hn0 ⊢
  (conv => whnf)
  refine (spec_l1Pick _ r _ _ infL C0 S0 (fun q o n e => by cases e; omega) (by decide) (by decide)).mono ?_
  rintro v h1 ⟨s, rfl, hs, K1, C1⟩
  have K1 : KeepR r h h1 := KeepR.then (KeepN.ofExt E0) K1
  have n1 := K1.1
  (conv => whnf)
  refine (spec_TypeCartan _ s (infL_names s hs)).mono ?_
  rintro v h2 ⟨y, L, rfl, E2, O2, hC⟩
  have K2 := K1.ext E2
  have C2 := C1.ext E2
  replace O2 := O2.lower n1
  have SL := Shape.of hC
  have p1 := SL.pos
  have p2 := SL.le
  (conv => whnf)
  refine (spec_l1Once _ r _ 3 C2 (by omega)).mono ?_
  rintro v h3 ⟨b, rfl, K3, C3⟩
  have O3 := (O2.keep K3 (fun q g1 g2 e => by omega)).widen K3.1
  replace K3 := K2.then K3
  (conv => whnf)
  refine HIf.split (fun hb => ?_) (fun hb => ?_)
  · (conv => whnf)
    refine ⟨rfl, O3.rows.len ?_⟩
    (conv => whnf)
    refine (spec_l1Below _ r _ _ C3 (by omega)).mono ?_
    rintro v h4 ⟨m, rfl, m0, m1, _, K4, C4⟩
    obtain ⟨i, rfl⟩ : ∃ i : Nat, m = i := ⟨m.toNat, by omega⟩
    have O4 := (O3.keep K4 (fun q g1 g2 e => by omega)).widen K4.1
    replace K4 := K3.then K4
    (conv => whnf)
    refine ⟨rfl, O4.rows.len ?_⟩
    (conv => whnf)
    refine (spec_l1Below _ r _ _ C4 (by omega)).mono ?_
    rintro v h5 ⟨m, rfl, m0', m1', _, K5, C5⟩
    obtain ⟨j, rfl⟩ : ∃ j : Nat, m = j := ⟨m.toNat, by omega⟩
    have O5 := (O4.keep K5 (fun q g1 g2 e => by omega)).widen K5.1
    replace K5 := K4.then K5
    have hi := m1 (by omega)
    have hj := m1' (by omega)
    (conv => whnf)
    refine HIf.bne (fun hij => ?_) (fun hij => ?_)
    · (conv => whnf)
      refine (spec_l1Below _ r _ 3 C5 (by omega)).mono ?_
      rintro v h6 ⟨a, rfl, a0, a1, _, K6, C6⟩
      have O6 := (O5.keep K6 (fun q g1 g2 e => by omega)).widen K6.1
      replace K6 := K5.then K6
      have a2 := a1 (by omega)
      (conv => whnf)
      refine HArith.fits (by omega) (by omega) ?_
      (conv => whnf)
      refine (spec_l1Below _ r _ 3 C6 (by omega)).mono ?_
      rintro v h7 ⟨d, rfl, d0, d1, _, K7, C7⟩
      have O7 := (O6.keep K7 (fun q g1 g2 e => by omega)).widen K7.1
      replace K7 := K6.then K7
      have d2 := d1 (by omega)
      (conv => whnf)
      refine HArith.fits (by omega) (by omega) ?_
      (conv => whnf)
      have ht := SL.tot
      refine (spec_l2Set _ _ L i j _ _ O7.rows (by omega) (by omega) (by omega) (by rw [SL.row i (by omega)]; omega) (by rw [SL.row j (by omega)]; omega)).mono ?_
      rintro v h8 ⟨y8, rfl, E8, O8⟩
      (conv => whnf)
      exact ⟨_, _, rfl, K7.ext E8, C7.ext E8, O8.lower K7.1, SL.set (by omega) (by omega) _ _⟩
    · (conv => whnf)
      exact ⟨_, _, rfl, K5, C5, O5, SL⟩
  · (conv => whnf)
    exact ⟨_, _, rfl, K3, C3, O3, SL⟩

theorem spec_l2Drawn (h : Heap) (r : Nat) (x : H0) (C : Cur r h x) : HCalls dm Try.prog 98 [.s x] h (fun v h' => ∃ y L, v = .s y ∧ KeepR r h h' ∧ Cur r h' x ∧ OwnM h.length h'.length h' y L ∧ Shape L) := by
  have hr := C.lt
  refine calls_of_hFun (m := 0) kd_ok mixed Try.func98 rfl (by kernel_rfl) rfl rfl (of_decide_eq_true rfl) ?_; unfold hFun; (conv => whnf)
  refine (spec_l1Once _ r _ 3 C (by omega)).mono ?_
  rintro v h1 ⟨b, rfl, K1, C1⟩
  (conv => whnf)
  refine HIf.split (fun hb => ?_) (fun hb => ?_)
  · (conv => whnf)
    refine (spec_l2Infinite _ r _ C1).mono ?_
    rintro v h2 ⟨y, L, rfl, K2, C2, O2, S2⟩
    (conv => whnf)
    exact ⟨_, _, rfl, K1.then K2, C2, O2.lower K1.1, S2⟩
  · (conv => whnf)
    refine (spec_l2Finite _ r _ C1).mono ?_
    rintro v h2 ⟨y, L, rfl, K2, C2, O2, S2⟩
    (conv => whnf)
    exact ⟨_, _, rfl, K1.then K2, C2, O2.lower K1.1, S2⟩

end Go.Proofs.Ytjgnnjegaedinaa.Hx
