/-
  Sizes by names, of both sides; the size of a matrix's group.
  From the model's readings of arguments to rows: a slice of ints that came in; and the end of a law: true, memory below as it was.
  From the model's readings of arguments to rows: a slice of slices of ints that came in.
  A row whose walk wants the shape of the world in which it begins: the number of a library's own variable.
-/
import Derived.Test.YtgliajcgcbnemaaGreatDoorZ25
import Derived.ProofKit
import Derived.LaidMore
import Derived.OpenShut
import Derived.Stop.Joined
namespace Go.Proofs.YtgliajcgcbnemaaGreatDoor.Hx
open Go.RowKit
variable {dm : Bool}

/-- The size of a type, 0 where there is none. -/
def sizeT (l : List UInt8) : Int :=
  if l = [65, 49] then 2 else if l = [65, 50] then 6 else if l = [65, 51] then 24 else if l = [65, 52] then 120 else if l = [66, 50] then 8 else if l = [66, 51] then 48 else if l = [67, 51] then 48 else
  if l = [66, 52] then 384 else if l = [67, 52] then 384 else if l = [68, 52] then 192 else if l = [70, 52] then 1152 else if l = [71, 50] then 12 else 0
theorem sizeT_cases (l : List UInt8) : l = [65, 49] ∨ l = [65, 50] ∨ l = [65, 51] ∨ l = [65, 52] ∨ l = [66, 50] ∨ l = [66, 51] ∨ l = [67, 51] ∨ l = [66, 52] ∨ l = [67, 52] ∨ l = [68, 52] ∨ l = [70, 52] ∨ l = [71, 50] ∨
    (l ≠ [65, 49] ∧ l ≠ [65, 50] ∧ l ≠ [65, 51] ∧ l ≠ [65, 52] ∧ l ≠ [66, 50] ∧ l ≠ [66, 51] ∧ l ≠ [67, 51] ∧ l ≠ [66, 52] ∧ l ≠ [67, 52] ∧ l ≠ [68, 52] ∧ l ≠ [70, 52] ∧ l ≠ [71, 50]) := by
  by_cases h1 : l = [65, 49]
  · simp [h1]
  by_cases h2 : l = [65, 50]
  · simp [h2]
  by_cases h3 : l = [65, 51]
  · simp [h3]
  by_cases h4 : l = [65, 52]
  · simp [h4]
  by_cases h5 : l = [66, 50]
  · simp [h5]
  by_cases h6 : l = [66, 51]
  · simp [h6]
  by_cases h7 : l = [67, 51]
  · simp [h7]
  by_cases h8 : l = [66, 52]
  · simp [h8]
  by_cases h9 : l = [67, 52]
  · simp [h9]
  by_cases h10 : l = [68, 52]
  · simp [h10]
  by_cases h11 : l = [70, 52]
  · simp [h11]
  by_cases h12 : l = [71, 50]
  · simp [h12]
  simp [h1, h2, h3, h4, h5, h6, h7, h8, h9, h10, h11, h12]
theorem sizeT_rng (l : List UInt8) : 0 ≤ sizeT l ∧ sizeT l ≤ 1152 := by
  rcases sizeT_cases l with rfl | rfl | rfl | rfl | rfl | rfl | rfl | rfl | rfl | rfl | rfl | rfl | ⟨n1, n2, n3, n4, n5, n6, n7, n8, n9, n10, n11, n12⟩
  iterate 12
    · decide
  · have hv : sizeT l = 0 := by simp [sizeT, n1, n2, n3, n4, n5, n6, n7, n8, n9, n10, n11, n12]
    rw [hv]
    decide

def sizeL (xs : List (List UInt8)) : Int := xs.foldl (fun n x => n * sizeT x) 1
theorem sizeL_snoc (xs : List (List UInt8)) {k : Nat} (hk : k < xs.length) : sizeL (xs.take (k + 1)) = sizeL (xs.take k) * sizeT (xs.getD k []) := by
  rw [List.take_succ_eq_append_getElem hk]
  have e : xs.getD k [] = xs[k] := by simp [List.getD, hk]
  rw [e]
  unfold sizeL
  rw [List.foldl_append]
  rfl
theorem sizeL_rng (xs : List (List UInt8)) : ∀ k, k ≤ xs.length → 0 ≤ sizeL (xs.take k) ∧ sizeL (xs.take k) ≤ ((1152 ^ k : Nat) : Int)
  | 0, _ => by simp [sizeL]
  | k + 1, h => by
    obtain ⟨h1, h2⟩ := sizeL_rng xs k (by omega)
    obtain ⟨h3, h4⟩ := sizeT_rng (xs.getD k [])
    rw [sizeL_snoc xs (by omega)]
    refine ⟨Int.mul_nonneg h1 h3, ?_⟩
    have e : ((1152 ^ (k + 1) : Nat) : Int) = ((1152 ^ k : Nat) : Int) * 1152 := by
      rw [Nat.pow_succ, Int.natCast_mul]
      rfl
    rw [e]
    exact Int.mul_le_mul h2 h4 h3 (by omega)
theorem sizeL_small (xs : List (List UInt8)) {k : Nat} (h : k ≤ xs.length) (h4 : k ≤ 4) : 0 ≤ sizeL (xs.take k) ∧ sizeL (xs.take k) ≤ 1761205026816 := by
  obtain ⟨h1, h2⟩ := sizeL_rng xs k h
  have : 1152 ^ k ≤ 1152 ^ 4 := Nat.pow_le_pow_right (by omega) h4
  have e : (1152 : Nat) ^ 4 = 1761205026816 := rfl
  exact ⟨h1, by omega⟩

/-- The size of a matrix's group. -/
noncomputable def namesL (c : List (List Int)) : List (List UInt8) := (partsC c).map (nameQ c)
noncomputable def sizeN (c : List (List Int)) : Int := if isFinite c then sizeL (namesL c) else 0
theorem sizeN_off {c : List (List Int)} (h : isFinite c = false) : sizeN c = 0 := by simp [sizeN, h]
theorem sizeN_on {c : List (List Int)} (h : isFinite c = true) : sizeN c = sizeL (namesL c) := by simp [sizeN, h]

theorem partsC_ne {c : List (List Int)} (hic : isCartan c = true) : (partsC c).length ≠ 0 := by
  have hp := ((isCartan_iff c).1 hic).pos
  intro e
  rw [partsC_on hic] at e
  have h0 : isMin c 0 = true := isMin_iff.2 fun j hj => by omega
  have hm : partL c 0 ∈ partsTo c c.length := List.mem_map.2 ⟨0, List.mem_filter.2 ⟨List.mem_range.2 hp, h0⟩, rfl⟩
  rw [List.length_eq_zero_iff.1 e] at hm
  simp at hm
theorem nameOf_cut {c : List (List Int)} (hic : isCartan c = true) : cutB 120 (nameOf c) = namesL c := by
  refine cut_join (fun e => partsC_ne hic ?_) (fun x hx => ?_)
  · have := congrArg List.length e
    simpa using this
  · obtain ⟨o, _, rfl⟩ := List.mem_map.1 hx
    exact (nameP_short _).2
theorem namesL_le {c : List (List Int)} (hC : Cartan c) : (namesL c).length ≤ 4 := by
  have h1 := partsC_le c
  have h2 := hC.le
  simp only [namesL, List.length_map]
  omega
theorem nameOf_le {c : List (List Int)} (hC : Cartan c) : (nameOf c).length ≤ 16 := by
  have h1 := nameTo_le (c := c) (partsC c).length
  rw [List.take_length] at h1
  have h2 := partsC_le c
  have h3 := hC.le
  have e : nameOf c = Lib.join ((partsC c).map (nameQ c)) [120] := rfl
  rw [e]
  omega

theorem tx_ne {a b : List UInt8} (h : a ≠ b) : (⟨a.toArray⟩ : ByteArray) ≠ ⟨b.toArray⟩ := fun e => h (by
  have := congrArg (fun x : ByteArray => x.data.toList) e
  simpa using this)
theorem HByte.tx {s : List UInt8} {k : Nat} {K : HV → Prop} (hk : k < s.length) (hK : K (.s (.pl (.int .u8 ((s.getD k 0).toNat : Int))))) : HByte (Tx s) (I k) K := by
  have e : (s.getD k 0) = s[k] := by simp [List.getD, hk]
  rw [e] at hK
  exact ⟨⟨s.toArray⟩, .i64, k, by rw [tx_size]; exact hk, rfl, rfl, hK⟩
theorem HSub.tx {s : List UInt8} {k : Nat} {K : HV → Prop} (hk : k < s.length) (hK : K (Tx [s.getD k 0])) : HSub (Tx s) (some (I k)) (some (I ((k + 1 : Nat) : Int))) K := by
  refine ⟨⟨s.toArray⟩, k, k + 1, rfl, Or.inr ⟨.i64, rfl⟩, Or.inr ⟨.i64, rfl⟩, by omega, by rw [tx_size]; omega, ?_⟩
  have e : (⟨s.toArray⟩ : ByteArray).extract k (k + 1) = ⟨[s.getD k 0].toArray⟩ := by
    apply ByteArray.ext
    apply Array.ext'
    simp only [ByteArray.data_extract, Array.toList_extract, List.extract_eq_take_drop]
    have e2 : s.getD k 0 = s[k] := by simp [List.getD, hk]
    rw [e2, show k + 1 - k = 1 by omega, List.drop_eq_getElem_cons hk]
    rfl
  rw [e]
  exact hK

set_option smartUnfolding false

set_option maxHeartbeats 1000000 in
theorem spec_l2Cut (h : Heap) (s : List UInt8) (c : UInt8) (hs : s.length ≤ 1048575) :
    HCalls dm Tryz.prog 123 [Tx s, .s (.pl (.int .u8 (c.toNat : Int)))] h (fun z h' => ∃ r, z = .s (.sl r 0 (cutB c s).length) ∧ Ext h h' ∧ h'[r]? = some (.own ((cutB c s).map stc))) := by
  have hsz := tx_size s
  obtain ⟨V, hV⟩ : ∃ V, V = cutB c s := ⟨_, rfl⟩
  rw [← hV]
  refine calls_of_hFun (m := 0) kd_ok mixed Tryz.func123 rfl (by kernel_rfl) rfl rfl (of_decide_eq_true rfl) ?_; unfold hFun; (conv => whnf)
  refine HLit.empty ?_
  (conv => whnf)
  refine HLoop.intro [7, 5, 6] [9, 10, 11, 12, 15, 16, 17, 18, 19, 20, 21, 22, 23, 5, 6, 24, 25, 26, 27, 28, 29, 30, 6, 13, 14, 7] (by kernel_rfl) (by kernel_rfl) (fun vs h' => ∃ (k r : Nat) (xs : List (List UInt8)) (p : List UInt8), vs = [I k, .s (.sl r 0 xs.length), Tx p] ∧ k ≤ s.length ∧ Ext h h' ∧ h.length ≤ r ∧ h'[r]? = some (.own (xs.map stc)) ∧ c ∉ p ∧ p.length ≤ k ∧ xs.length ≤ k ∧ V = xs ++ cutB c (p ++ s.drop k)) (fun vs _ => s.length - natAt vs 0) ⟨0, h.length, [], [], rfl, by omega, Ext.push _ _, Nat.le_refl _, get_new _ _, by simp, by simp, by simp, by simpa using hV⟩ ?_
  rintro vs h' ⟨k, r, xs, p, rfl, hk, E, hr, hcs, hcp, hpl, hxl, hv⟩
  have hE := E.1
  have hrl := get_lt hcs
  (conv => whnf)
  refine HLenS.mk ⟨_, rfl, ?_⟩
  rw [hsz]
  (conv => whnf)
  refine HIf.dec (fun hlt => ?_) (fun hge => ?_)
  · have hkl : k < s.length := by omega
    have hd : s.drop k = s.getD k 0 :: s.drop (k + 1) := by
      have e2 : s.getD k 0 = s[k] := by simp [List.getD, hkl]
      rw [List.drop_eq_getElem_cons hkl, e2]
    generalize hb : s.getD k 0 = b at *
    (conv => whnf)
    refine HByte.tx hkl ?_
    rw [hb]
    (conv => whnf)
    refine HIf.beq (fun he => ?_) (fun hne => ?_)
    · have hbc : b = c := by
        apply UInt8.toNat_inj.1
        omega
      subst hbc
      (conv => whnf)
      refine HLit.row (y := stc p) rfl ?_
      (conv => whnf)
      refine ⟨rfl, rfl, HApp.text (by rw [List.getElem?_append_left hrl]; exact hcs) (get_new _ _) rfl (by omega) ?_⟩
      have E4 : Ext h ((h' ++ [Row.own [stc p]]).set r Row.gone ++ [Row.own ((xs ++ [p]).map stc)]) := ((E.pushed _).set hr _).pushed _
      have hnew := get_new ((h' ++ [Row.own [stc p]]).set r Row.gone) (Row.own ((xs ++ [p]).map stc))
      rw [List.length_set] at hnew
      have hnl : h.length ≤ (h' ++ [Row.own [stc p]]).length := by simp; omega
      have hxl2 : xs.length + 1 = (xs ++ [p]).length := by simp
      rw [hxl2]
      generalize (h' ++ [Row.own [stc p]]).length = N at *
      generalize (h' ++ [Row.own [stc p]]).set r Row.gone ++ [Row.own ((xs ++ [p]).map stc)] = h4 at *
      (conv => whnf)
      refine HArith.fits (by omega) (by omega) ?_
      (conv => whnf)
      exact ⟨⟨k + 1, N, xs ++ [p], [], rfl, by omega, E4, hnl, hnew, by simp, by simp, by omega, by rw [hv, hd, cutB_hit hcp]; simp⟩, by show s.length - (k + 1) < s.length - k; omega⟩
    · have hbc : b ≠ c := fun e => hne (by rw [e])
      (conv => whnf)
      refine HArith.to (e' := ((k + 1 : Nat) : Int)) (by omega) (by omega) (by omega) ?_
      (conv => whnf)
      refine HSub.tx hkl ?_
      rw [hb]
      (conv => whnf)
      refine HStr.add (a := p) (b := [b]) (by rw [List.length_singleton]; omega) ?_
      (conv => whnf)
      refine HArith.fits (by omega) (by omega) ?_
      (conv => whnf)
      exact ⟨⟨k + 1, r, xs, p ++ [b], rfl, by omega, E, hr, hcs, by simp [hcp, Ne.symm hbc], by simp; omega, by omega, by rw [hv, hd]; simp⟩, by show s.length - (k + 1) < s.length - k; omega⟩
  · have ek : k = s.length := by omega
    have hd : s.drop k = [] := by rw [ek, List.drop_length]
    have hv2 : V = xs ++ [p] := by rw [hv, hd, List.append_nil, cutB_one hcp]
    have hxl2 : V.length = xs.length + 1 := by rw [hv2]; simp
    (conv => whnf)
    refine HLit.row (y := stc p) rfl ?_
    (conv => whnf)
    refine ⟨rfl, rfl, HApp.text (by rw [List.getElem?_append_left hrl]; exact hcs) (get_new _ _) rfl (by omega) ?_⟩
    rw [← hv2, ← hxl2]
    have E4 : Ext h ((h' ++ [Row.own [stc p]]).set r Row.gone ++ [Row.own (V.map stc)]) := ((E.pushed _).set hr _).pushed _
    have hnew := get_new ((h' ++ [Row.own [stc p]]).set r Row.gone) (Row.own (V.map stc))
    rw [List.length_set] at hnew
    generalize (h' ++ [Row.own [stc p]]).length = N at *
    generalize (h' ++ [Row.own [stc p]]).set r Row.gone ++ [Row.own (V.map stc)] = h4 at *
    (conv => whnf)
    exact ⟨N, rfl, E4, hnew⟩

/-- Texts in a row of one's own, read. -/
theorem txt_shows {h : Heap} {r : Nat} {xs : List (List UInt8)} (hr : h[r]? = some (.own (xs.map stc))) : Shows h (.s (.sl r 0 xs.length)) (xs.map stc) := by
  have := Shows.own r 0 xs.length _ hr (by simp)
  simp only [List.drop_zero] at this
  rw [List.take_of_length_le (by simp)] at this
  exact this
theorem txt_cell (xs : List (List UInt8)) {k : Nat} (hk : k < xs.length) : (xs.map stc).getD ((k : Int)).toNat (.pl (.int .i64 0)) = stc (xs.getD k []) := by
  rw [Int.toNat_natCast]
  simp [List.getD, hk]

set_option maxHeartbeats 1000000 in
theorem impl_sizeOfType (h : Heap) (l : List UInt8) : HCalls dm Tryz.prog 136 [Tx l] h (fun r h' => r = I (sizeT l) ∧ h' = h) := by
  rcases sizeT_cases l with rfl | rfl | rfl | rfl | rfl | rfl | rfl | rfl | rfl | rfl | rfl | rfl | ⟨n1, n2, n3, n4, n5, n6, n7, n8, n9, n10, n11, n12⟩
  iterate 12
    · refine calls_of_hFun (m := 0) kd_ok mixed Tryz.func136 rfl (by kernel_rfl) rfl rfl (of_decide_eq_true rfl) ?_; unfold hFun; (conv => whnf)
      (repeat (first | (refine HStr.eql ?_; conv => whnf) | (refine HIf.strT rfl ?_; conv => whnf) | (refine HIf.strF (by decide) ?_; conv => whnf)))
      exact ⟨rfl, rfl⟩
  · have hv : sizeT l = 0 := by simp [sizeT, n1, n2, n3, n4, n5, n6, n7, n8, n9, n10, n11, n12]
    rw [hv]
    refine calls_of_hFun (m := 0) kd_ok mixed Tryz.func136 rfl (by kernel_rfl) rfl rfl (of_decide_eq_true rfl) ?_; unfold hFun; (conv => whnf)
    (repeat (first | (refine HStr.eql ?_; conv => whnf) | (refine HIf.strF (tx_ne (by assumption)) ?_; conv => whnf)))
    exact ⟨rfl, rfl⟩

set_option maxHeartbeats 1000000 in
theorem impl_SizeByName (h : Heap) (s : List UInt8) (xs : List (List UInt8)) (hx : cutB 120 s = xs) (hl : xs.length ≤ 4) (hs : s.length ≤ 1048575) :
    HCalls dm Tryz.prog 78 [Tx s] h (fun r h' => r = I (sizeL xs) ∧ Ext h h') := by
  have hsn := fun k hk => sizeL_snoc xs (k := k) hk
  have hsm := fun k h1 h2 => sizeL_small xs (k := k) h1 h2
  have h0 : sizeL (xs.take 0) = 1 := by simp [sizeL]
  have hall : sizeL (xs.take xs.length) = sizeL xs := by rw [List.take_length]
  have hrg := fun k => sizeT_rng (xs.getD k [])
  refine calls_of_hFun (m := 0) kd_ok mixed Tryz.func78 rfl (by kernel_rfl) rfl rfl (of_decide_eq_true rfl) ?_; unfold hFun; (conv => whnf)
  refine (lib_Split _ s 120 (by omega)).mono ?_
  rintro r h1 ⟨rfl, rfl⟩
  rw [hx]
  have S1 := txt_shows (get_new h (Row.own (xs.map stc)))
  have E1 := Ext.push h [Row.own (xs.map stc)]
  have hml : (xs.map stc).length = xs.length := by simp
  generalize H0.sl h.length 0 xs.length = y at *
  generalize h ++ [Row.own (xs.map stc)] = h1 at *
  (conv => whnf)
  refine ⟨rfl, Shows.len S1 ?_⟩
  rw [hml]
  (conv => whnf)
  refine HIf.decF (by omega) ?_
  (conv => whnf)
  refine ⟨rfl, Shows.len S1 ?_⟩
  rw [hml]
  (conv => whnf)
  refine HLoop.intro [14, 4] [15, 16, 17, 6, 18, 19, 20, 21, 4, 22, 14] (by kernel_rfl) (by kernel_rfl) (fun vs h' => ∃ k : Nat, vs = [I k, I (sizeL (xs.take k))] ∧ k ≤ xs.length ∧ h' = h1) (fun vs _ => xs.length - natAt vs 0) ⟨0, by rw [h0]; rfl, by omega, rfl⟩ ?_
  rintro vs h' ⟨k, rfl, hk, rfl⟩
  (conv => whnf)
  refine HIf.dec (fun hlt => ?_) (fun hge => ?_)
  · have hkl : k < xs.length := by omega
    have ec := txt_cell xs hkl
    have hst := hsn k hkl
    have h3 := hsm (k + 1) (by omega) (by omega)
    generalize hN1 : sizeL (xs.take (k + 1)) = N1 at *
    generalize sizeL (xs.take k) = N0 at *
    generalize xs.getD k [] = l at *
    (conv => whnf)
    refine ⟨rfl, Shows.idx S1 (by omega) (by omega) (fun p hp => ?_)⟩
    rw [ec] at hp
    (conv => whnf)
    refine ⟨rfl, hp.load ?_⟩
    (conv => whnf)
    refine (impl_sizeOfType _ l).mono ?_
    rintro r h2 ⟨rfl, rfl⟩
    (conv => whnf)
    refine HArith.to (e' := N1) hst.symm (by omega) (by omega) ?_
    (conv => whnf)
    refine HArith.fits (by omega) (by omega) ?_
    (conv => whnf)
    exact ⟨⟨k + 1, by rw [hN1]; rfl, by omega, rfl⟩, by show xs.length - (k + 1) < xs.length - k; omega⟩
  · have ek : k = xs.length := by omega
    subst ek
    rw [hall]
    (conv => whnf)
    exact ⟨rfl, E1⟩

set_option maxHeartbeats 4000000 in
theorem spec_SizeByName (h : Heap) (s : List UInt8) (xs : List (List UInt8)) (hx : cutB 120 s = xs) (hl : xs.length ≤ 4) (hs : s.length ≤ 1048575) :
    HCalls dm Tryz.prog 74 [Tx s] h (fun r h' => r = I (sizeL xs) ∧ Ext h h') := by
  have hsn := fun k hk => sizeL_snoc xs (k := k) hk
  have hsm := fun k h1 h2 => sizeL_small xs (k := k) h1 h2
  have h0 : sizeL (xs.take 0) = 1 := by simp [sizeL]
  have hall : sizeL (xs.take xs.length) = sizeL xs := by rw [List.take_length]
  refine calls_of_hFun (m := 0) kd_ok mixed Tryz.func74 rfl (by kernel_rfl) rfl rfl (of_decide_eq_true rfl) ?_; unfold hFun; (conv => whnf)
  refine (show HCalls _ _ _ [Tx s, .s (.pl (.int .u8 (((120 : UInt8).toNat : Nat) : Int)))] _ _ from (spec_l2Cut _ s 120 hs).mono ?_)
  rintro r h1 ⟨q, rfl, E1, hrow⟩
  rw [hx] at hrow ⊢
  have S1 := txt_shows hrow
  have hml : (xs.map stc).length = xs.length := by simp
  generalize H0.sl q 0 xs.length = y at *
  (conv => whnf)
  refine HLoop.intro [5, 4] [9, 10, 11, 12, 13, 14, 15, 16, 6, 19, 20, 21, 22, 24, 23, 6, 26, 25, 6, 28, 27, 6, 30, 29, 6, 32, 31, 6, 34, 33, 35, 33, 6, 37, 36, 38, 36, 6, 40, 39, 6, 42, 41, 6, 44, 43, 6, 45, 46, 47, 4, 17, 18, 5] (by kernel_rfl) (by kernel_rfl) (fun vs h' => ∃ k : Nat, vs = [I k, I (sizeL (xs.take k))] ∧ k ≤ xs.length ∧ h' = h1) (fun vs _ => xs.length - natAt vs 0) ⟨0, by rw [h0]; rfl, by omega, rfl⟩ ?_
  rintro vs h' ⟨k, rfl, hk, rfl⟩
  (conv => whnf)
  refine ⟨rfl, Shows.len S1 ?_⟩
  rw [hml]
  (conv => whnf)
  refine HIf.dec (fun hlt => ?_) (fun hge => ?_)
  · have hkl : k < xs.length := by omega
    have hk4 : (k : Int) < 4 := by omega
    have ec := txt_cell xs hkl
    have hst := hsn k hkl
    have h3 := hsm (k + 1) (by omega) (by omega)
    generalize hN1 : sizeL (xs.take (k + 1)) = N1 at *
    generalize sizeL (xs.take k) = N0 at *
    generalize xs.getD k [] = l at *
    (conv => whnf)
    refine HIf.decT hlt ?_
    (conv => whnf)
    refine HIf.decT hlt ?_
    (conv => whnf)
    refine HIf.decT hk4 ?_
    (conv => whnf)
    refine ⟨rfl, Shows.idx S1 (by omega) (by omega) (fun p hp => ?_)⟩
    rw [ec] at hp
    (conv => whnf)
    refine ⟨rfl, hp.load ?_⟩
    (conv => whnf)
    rcases sizeT_cases l with rfl | rfl | rfl | rfl | rfl | rfl | rfl | rfl | rfl | rfl | rfl | rfl | ⟨n1, n2, n3, n4, n5, n6, n7, n8, n9, n10, n11, n12⟩
    iterate 12
      · (repeat (first | (refine HStr.eql ?_; conv => whnf) | (refine HIf.strT rfl ?_; conv => whnf) | (refine HIf.strF (by decide) ?_; conv => whnf)))
        refine HArith.to (e' := N1) (by rw [hst]; rfl) (by omega) (by omega) ?_
        (conv => whnf)
        refine HArith.fits (by omega) (by omega) ?_
        (conv => whnf)
        exact ⟨⟨k + 1, by rw [hN1]; rfl, by omega, rfl⟩, by show xs.length - (k + 1) < xs.length - k; omega⟩
    · have hv : sizeT l = 0 := by simp [sizeT, n1, n2, n3, n4, n5, n6, n7, n8, n9, n10, n11, n12]
      rw [hv] at hst
      (repeat (first | (refine HStr.eql ?_; conv => whnf) | (refine HIf.strF (tx_ne (by assumption)) ?_; conv => whnf)))
      refine HArith.to (e' := N1) (by rw [hst]) (by omega) (by omega) ?_
      (conv => whnf)
      refine HArith.fits (by omega) (by omega) ?_
      (conv => whnf)
      exact ⟨⟨k + 1, by rw [hN1]; rfl, by omega, rfl⟩, by show xs.length - (k + 1) < xs.length - k; omega⟩
  · have ek : k = xs.length := by omega
    subst ek
    rw [hall]
    (conv => whnf)
    refine HIf.decF hge ?_
    (conv => whnf)
    refine HIf.decF hge ?_
    (conv => whnf)
    (repeat (refine HIf.no ?_; conv => whnf))
    refine ⟨rfl, Shows.len S1 ?_⟩
    rw [hml]
    (conv => whnf)
    refine HIf.decF (by omega) ?_
    (conv => whnf)
    exact ⟨rfl, E1⟩

theorem impl_SizeOf (h : Heap) (x0 : H0) (a0 : List (List Int)) (hx0 : Rows h x0 a0) (s0 : a0.length ≤ 1048576 ∧ tot a0 ≤ 1048576) :
    HCalls false Tryz.prog 11 [.s x0] h (fun r h' => r = I (sizeN a0) ∧ Ext h h') := by
  have hon := sizeN_on (c := a0)
  have hoff := sizeN_off (c := a0)
  have hfp := fin_parts (c := a0)
  generalize sizeN a0 = V at *
  refine calls_of_hFun (m := 0) kd_ok mixed Tryz.func11 rfl (by kernel_rfl) rfl rfl (of_decide_eq_true rfl) ?_; unfold hFun; (conv => whnf)
  refine (impl_IsFinite _ _ a0 hx0 (by omega)).mono ?_
  rintro r h1 ⟨rfl, E1⟩
  (conv => whnf)
  cases hf : isFinite a0
  · rw [hoff hf]
    refine HIf.yes ?_
    (conv => whnf)
    exact ⟨rfl, E1⟩
  · have hC := (hfp hf).1
    have hic := (isCartan_iff a0).2 hC
    have hcut := nameOf_cut hic
    have hle := namesL_le hC
    have hnl := nameOf_le hC
    rw [hon hf]
    refine HIf.no ?_
    (conv => whnf)
    refine (impl_NameOf _ _ a0 (hx0.ext E1) hic).mono ?_
    rintro r h2 ⟨rfl, E2⟩
    (conv => whnf)
    refine (impl_SizeByName _ _ _ hcut hle (by omega)).mono ?_
    rintro r h3 ⟨rfl, E3⟩
    (conv => whnf)
    exact ⟨rfl, E1.trans (E2.trans E3)⟩

theorem spec_SizeOf (h : Heap) (x0 : H0) (a0 : List (List Int)) (hx0 : Rows h x0 a0) (s0 : a0.length ≤ 1048576 ∧ tot a0 ≤ 1048576) :
    HCalls dm Tryz.prog 9 [.s x0] h (fun r h' => r = I (sizeN a0) ∧ Ext h h') := by
  have hon := sizeN_on (c := a0)
  have hoff := sizeN_off (c := a0)
  have hfp := fin_parts (c := a0)
  generalize sizeN a0 = V at *
  refine calls_of_hFun (m := 0) kd_ok mixed Tryz.func9 rfl (by kernel_rfl) rfl rfl (of_decide_eq_true rfl) ?_; unfold hFun; (conv => whnf)
  refine (spec_IsFinite _ _ a0 hx0 (by omega)).mono ?_
  rintro r h1 ⟨rfl, E1⟩
  (conv => whnf)
  cases hf : isFinite a0
  · rw [hoff hf]
    refine HIf.yes ?_
    (conv => whnf)
    exact ⟨rfl, E1⟩
  · have hC := (hfp hf).1
    have hic := (isCartan_iff a0).2 hC
    have hcut := nameOf_cut hic
    have hle := namesL_le hC
    have hnl := nameOf_le hC
    rw [hon hf]
    refine HIf.no ?_
    (conv => whnf)
    refine (spec_NameOf _ _ a0 (hx0.ext E1) hic).mono ?_
    rintro r h2 ⟨rfl, E2⟩
    (conv => whnf)
    refine (spec_SizeByName _ _ _ hcut hle (by omega)).mono ?_
    rintro r h3 ⟨rfl, E3⟩
    (conv => whnf)
    exact ⟨rfl, E1.trans (E2.trans E3)⟩

end Go.Proofs.YtgliajcgcbnemaaGreatDoor.Hx

namespace Go.Proofs.YtgliajcgcbnemaaGreatDoor.Hx
open Go.RowKit Go.ChangeShapes Go.WideShapes Go.ChangeAt
variable {dm : Bool}

theorem Rep.start (w : World) (ht : TabAt w.heap.size w := by refine ⟨fun x hx => ?_, fun x hx => ?_⟩ <;> cases hx) : Rep w.heap.size [] [] w :=
  ⟨rfl, Nat.le_refl _, fun r cs p h => by simp at h, fun r cs p h => by simp at h, fun r r' cs cs' p p' _ h => by simp at h, fun r so ks p h => by simp at h, fun r r' so so' ks ks' p p' _ h => by simp at h, ht⟩

/-- A row that is only read. -/
theorem Rep.pushRo {B0 : Nat} {φ : Plan} {h : Heap} {w : World} (R : Rep B0 φ h w) (p : Place) (hb : p.b < B0) (cs : List H0) (hc : ∀ (k : Nat) (c : H0), cs[k]? = some c → ∃ v, w.cell? ⟨p.b, p.o + k, none⟩ = some v ∧ rep0 φ c v) :
    Rep B0 (φ ++ [p]) (h ++ [.ro cs]) w := by
  have hold : ∀ (r : Nat) (x : Row), r < h.length → (h ++ [Row.ro cs])[r]? = some x → h[r]? = some x := fun r x hr hx => by rw [List.getElem?_append_left hr] at hx; exact hx
  have hpl : ∀ (r : Nat) (y : Place), r < h.length → (φ ++ [p])[r]? = some y → φ[r]? = some y := fun r y hr hx => by rw [List.getElem?_append_left (by rw [R.len]; exact hr)] at hx; exact hx
  have hlast : ∀ (r : Nat) (x : Row), ¬ r < h.length → (h ++ [Row.ro cs])[r]? = some x → r = h.length ∧ x = .ro cs := fun r x hr hx => by
    rw [List.getElem?_append_right (by omega)] at hx
    have h0 : r - h.length = 0 := by
      have := (List.getElem?_eq_some_iff.1 hx).1
      simp at this
      omega
    rw [h0] at hx
    simp at hx
    exact ⟨by omega, hx.symm⟩
  have keyq : ∀ (q : Nat) (so : Bool) (ks : List Key), (h ++ [Row.ro cs])[q]? = some (.keys so ks) → q < h.length := fun q so ks hq => by
    by_cases hl : q < h.length
    · exact hl
    · cases (hlast q _ hl hq).2
  refine ⟨by simp [R.len], R.base, fun r xs y h1 h2 => ?_, fun r xs y h1 h2 => ?_, fun r r' xs xs' y y' hne h1 h1' h2 h2' => ?_, fun r so ks y h1 h2 => R.keys r so ks y (hold r _ (keyq _ _ _ h1) h1) (hpl r y (keyq _ _ _ h1) h2),
    fun r r' so so' ks ks' y y' hne h1 h1' h2 h2' => R.apartK r r' so so' ks ks' y y' hne (hold r _ (keyq _ _ _ h1) h1) (hold r' _ (keyq _ _ _ h1') h1') (hpl r y (keyq _ _ _ h1) h2) (hpl r' y' (keyq _ _ _ h1') h2'), R.tab⟩
  · by_cases hr : r < h.length
    · obtain ⟨g1, g2⟩ := R.ro r xs y (hold r _ hr h1) (hpl r y hr h2)
      refine ⟨g1, fun k c hk => ?_⟩
      obtain ⟨v, e1, e2⟩ := g2 k c hk
      exact ⟨v, e1, e2.mono (Sub.push _ _)⟩
    · obtain ⟨e1, e2⟩ := hlast r _ hr h1
      subst e1
      cases e2
      rw [← R.len, List.getElem?_append_right (Nat.le_refl _)] at h2
      simp at h2
      subst h2
      refine ⟨hb, fun k c hk => ?_⟩
      obtain ⟨v, e1, e2⟩ := hc k c hk
      exact ⟨v, e1, e2.mono (Sub.push _ _)⟩
  · by_cases hr : r < h.length
    · obtain ⟨g1, g2, g3, cur', e', g4, g5, g6⟩ := R.own r xs y (hold r _ hr h1) (hpl r y hr h2)
      refine ⟨g1, g2, g3, cur', e', g4, g5, fun k c hk => ?_⟩
      obtain ⟨v, e1, e2⟩ := g6 k c hk
      exact ⟨v, e1, e2.mono (Sub.push _ _)⟩
    · cases (hlast r _ hr h1).2
  · by_cases hr : r < h.length <;> by_cases hr' : r' < h.length
    · exact R.apart r r' xs xs' y y' hne (hold r _ hr h1) (hold r' _ hr' h1') (hpl r y hr h2) (hpl r' y' hr' h2')
    · cases (hlast r' _ hr' h1').2
    · cases (hlast r _ hr h1).2
    · cases (hlast r _ hr h1).2

/-- What opening an argument gives. -/
def Opened (φ : Plan) (h : Heap) (w : World) (v : Value) (T : Heap → H0 → Prop) : Prop := ∃ x φ' h', Sub φ φ' ∧ Ext h h' ∧ Rep w.heap.size φ' h' w ∧ rep0 φ' x v ∧ T h' x

/-- A slice of ints by its cells. -/
theorem open_cells {φ : Plan} {h : Heap} {w : World} (R : Rep w.heap.size φ h w) (ao : Option Addr) (len cap : Nat) (zs : List Int) (hl : len ≤ cap) (hm : cap ≤ maxLen) (hz : zs.length = cap) (hnone : ao = none → cap = 0)
    (hc : ∀ a, ao = some a → ∀ i, i < cap → w.cell? (a.add i) = some (.int .i64 (zs.getD i 0))) : Opened φ h w (.slice ao len cap) (fun h' x => Ints h' x (zs.take len)) := by
  by_cases h0 : len = 0
  · subst h0
    exact ⟨.pl (.slice ao 0 cap), φ, h, Sub.refl _, Ext.refl _, R, rfl, Shows.nils _ _⟩
  · cases ao with
    | none => have := hnone rfl; omega
    | some a =>
      have hc := hc a rfl
      obtain ⟨b, off, spot⟩ := a
      have hspot : spot = none := by simpa [Addr.add] using World.cell?_spot (hc 0 (by omega))
      subst hspot
      have hb : b < w.heap.size := World.block_lt_of_cell? w ⟨b, off, none⟩ (by simpa [Addr.add] using hc 0 (by omega))
      have hlen : ((zs.take len).map ci).length = len := by simp; omega
      refine ⟨.sl h.length 0 len, φ ++ [⟨b, off, cap⟩], h ++ [.ro ((zs.take len).map ci)], Sub.push _ _, Ext.push _ _, R.pushRo ⟨b, off, cap⟩ hb _ (fun k c hk => ?_), ⟨⟨b, off, cap⟩, _, _, ?_, rfl, hl, hm, by simp, fun _ => rfl⟩, ?_⟩
      · have hk2 : k < len := by have := (List.getElem?_eq_some_iff.1 hk).1; omega
        refine ⟨.int .i64 (zs.getD k 0), by rw [← addr_add]; exact hc k (by omega), ?_⟩
        rw [List.getElem?_map, List.getElem?_take_of_lt hk2, List.getElem?_eq_getElem (by omega)] at hk
        simp only [Option.map_some, Option.some.injEq] at hk
        subst hk
        show _ = _
        simp [List.getD, show k < zs.length by omega]
      · rw [← R.len, List.getElem?_append_right (Nat.le_refl _)]
        simp
      · show Shows _ _ ((zs.take len).map ci)
        generalize (zs.take len).map ci = L at hlen ⊢
        have := Shows.ro h.length 0 len _ (get_new h (.ro L)) (by omega)
        simp only [List.drop_zero] at this
        rw [List.take_of_length_le (by omega)] at this
        exact this

/-- An argument that is a slice of ints. -/
theorem open_arg_ints {H : Type} {enc : TypeId × Value → H} {P : Program} {w : World} {t e : TypeId} {v : Value} {d : DataW H} {ps : List MemPlace} {base : Nat} (ht : P.underlying t = some (.slice e)) (he : P.underlying e = some (.int .i64)) (hc : P.cellsOf e = 1)
    (hv : Value.okWide P w .any base t v) (h0 : DataW.Trod enc P w 0 (fun _ => true) true t v d ps) {φ : Plan} {h : Heap} (R : Rep w.heap.size φ h w) : ∃ l, Opened φ h w v (fun h' x => Ints h' x l) := by
  obtain ⟨a0, len, cap, rfl⟩ := okWide_slice ht hv
  obtain ⟨fuel, hf⟩ := h0
  rcases open_ints ht he hc hf with ⟨hcs, hx⟩ | ⟨a, len', cap', zs, hcs, _, hl, hm, hz, hx, hcell, hwz⟩
  · simp [Value.cells] at hcs
    obtain ⟨rfl, rfl, rfl⟩ := hcs
    exact ⟨_, open_cells R none 0 0 [] (Nat.le_refl _) (by unfold maxLen; omega) rfl (fun _ => rfl) (fun a h => by cases h)⟩
  · simp [Value.cells] at hcs
    obtain ⟨rfl, rfl, rfl⟩ := hcs
    simp only [if_true] at hz
    exact ⟨_, open_cells R (some a) len cap zs hl hm hz (fun h => by cases h) (fun a' h => by cases h; exact fun i hi => hcell i (by omega))⟩

/-- The end of a law: it comes back true, and memory that was there is as it was. -/
theorem law_calls {P : Program} {k : FuncId} {args : List HV} {h : Heap} {φ : Plan} {w : World} {vargs : Array Value} (H : HCalls false P k args h (fun r _ => r = B true)) (R : Rep w.heap.size φ h w) (ha : repVs φ args vargs.toList) :
    Calls P k vargs w fun e w' => e = .returned (.bool true) ∧ Below w.heap.size w w' :=
  (H.out _ φ w vargs R ha).mono (by
    rintro e w' ⟨v, x, h', φ', rfl, rfl, g2, g3, g4, g5⟩
    have hv := rep0_pl g4
    subst hv
    exact ⟨rfl, g5.toBelow⟩)

theorem own : ownKnob Tryz.prog.godebug = none := by kernel_rfl
theorem laidOut : laidOutB Tryz.prog = true := by kernel_rfl

end Go.Proofs.YtgliajcgcbnemaaGreatDoor.Hx

namespace Go.Proofs.YtgliajcgcbnemaaGreatDoor.Hx
open Go.RowKit Go.ChangeShapes Go.WideShapes Go.ChangeAt

theorem i64_wf {n : Int} (h : (Lit.int .i64 n).wf = true) : -9223372036854775808 ≤ n ∧ n ≤ 9223372036854775807 := by
  simp only [Lit.wf, Bool.and_eq_true, decide_eq_true_eq] at h
  have h1 : IntKind.i64.min = -9223372036854775808 := by decide
  have h2 : IntKind.i64.max = 9223372036854775807 := by decide
  rw [h1, h2] at h
  exact h

/-- Many values opened, one after the other. -/
theorem open_many {Q : List Int → Prop} {w : World} : ∀ (vs : List Value) {φ : Plan} {h : Heap}, Rep w.heap.size φ h w →
    (∀ v ∈ vs, ∃ l : List Int, Q l ∧ ∀ (φ : Plan) (h : Heap), Rep w.heap.size φ h w → Opened φ h w v (fun h' x => Ints h' x l)) →
    ∃ (xs : List H0) (L : List (List Int)) (φ' : Plan) (h' : Heap), Sub φ φ' ∧ Ext h h' ∧ Rep w.heap.size φ' h' w ∧ xs.length = vs.length ∧ L.length = vs.length ∧
      (∀ (i : Nat) (x : H0) (v : Value), xs[i]? = some x → vs[i]? = some v → rep0 φ' x v) ∧ (∀ (i : Nat) (x : H0) (l : List Int), xs[i]? = some x → L[i]? = some l → Ints h' x l) ∧ ∀ l ∈ L, Q l
  | [], φ, h, R, _ => ⟨[], [], φ, h, Sub.refl _, Ext.refl _, R, rfl, rfl, fun i x v e => by simp at e, fun i x v e => by simp at e, fun l e => by simp at e⟩
  | v :: vs, φ, h, R, each => by
    obtain ⟨l, hl, hop⟩ := each v (by simp)
    obtain ⟨x, φ1, h1, s1, e1, R1, r1, t1⟩ := hop φ h R
    obtain ⟨xs, L, φ2, h2, s2, e2, R2, n1, n2, r2, t2, b2⟩ := open_many vs R1 (fun v hv => each v (by simp [hv]))
    refine ⟨x :: xs, l :: L, φ2, h2, s1.trans s2, e1.trans e2, R2, by simp [n1], by simp [n2], fun i y v' hy hv => ?_, fun i y l' hy hl' => ?_, fun l' hl' => ?_⟩
    · cases i with
      | zero => simp at hy hv; subst hy; subst hv; exact rep0.mono s2 r1
      | succ i => exact r2 i y v' (by simpa using hy) (by simpa using hv)
    · cases i with
      | zero => simp at hy hl'; subst hy; subst hl'; exact t1.ext e2
      | succ i => exact t2 i y l' (by simpa using hy) (by simpa using hl')
    · rcases List.mem_cons.1 hl' with rfl | hm
      · exact hl
      · exact b2 l' hm

theorem Opened.mono {φ : Plan} {h : Heap} {w : World} {v : Value} {T T' : Heap → H0 → Prop} (H : Opened φ h w v T) (k : ∀ h' x, T h' x → T' h' x) : Opened φ h w v T' := by
  obtain ⟨x, φ', h', a, b, c, d, e⟩ := H
  exact ⟨x, φ', h', a, b, c, d, k _ _ e⟩

def Wide (l : List Int) : Prop := ∀ n ∈ l, -9223372036854775808 ≤ n ∧ n ≤ 9223372036854775807

def Sizes (L : List (List Int)) : Prop := L.length ≤ 9223372036854775807 ∧ ∀ i, (L.getD i []).length ≤ 9223372036854775807

/-- An argument that is a slice of slices of ints. -/
theorem open_arg_rowsI {H : Type} {enc : TypeId × Value → H} {P : Program} {w : World} {t u e : TypeId} {v : Value} {d : DataW H} {ps : List MemPlace} {base : Nat} (ht : P.underlying t = some (.slice u)) (hu : P.underlying u = some (.slice e)) (he : P.underlying e = some (.int .i64))
    (hcu : P.cellsOf u = 1) (hc : P.cellsOf e = 1) (hv : Value.okWide P w .any base t v) (h0 : DataW.Trod enc P w 0 (fun _ => true) true t v d ps) {φ : Plan} {h : Heap} (R : Rep w.heap.size φ h w) : ∃ L, Opened φ h w v (fun h' x => Rows h' x L ∧ Sizes L ∧ ∀ l ∈ L, Wide l) := by
  obtain ⟨a0, len, cap, rfl⟩ := okWide_slice ht hv
  obtain ⟨fuel, hf⟩ := h0
  have none_ : ∀ (ao : Option Addr) (cap : Nat), Opened φ h w (.slice ao 0 cap) (fun h' x => Rows h' x [] ∧ Sizes [] ∧ ∀ l ∈ ([] : List (List Int)), Wide l) := fun ao cap =>
    ⟨.pl (.slice ao 0 cap), φ, h, Sub.refl _, Ext.refl _, R, rfl, ⟨[], Shows.nils _ _, rfl, fun i y l e => by simp at e⟩, ⟨by simp, fun i => by simp⟩, fun l hl => by simp at hl⟩
  rcases DataW.trod_slice ht hf with ⟨hcs, hx⟩ | ⟨a, len', cap', elems, rest, n, rfl, hcs, _, _, hl, hm, hlen, hel, _⟩
  · simp [Value.cells] at hcs
    obtain ⟨rfl, rfl, rfl⟩ := hcs
    exact ⟨[], none_ none 0⟩
  · simp [Value.cells] at hcs
    obtain ⟨rfl, rfl, rfl⟩ := hcs
    by_cases hz : len = 0
    · subst hz
      exact ⟨[], none_ (some a) cap⟩
    have cell : ∀ i, i < len → ∃ c, w.cell? (a.add i) = some c ∧ ∃ l : List Int, (l.length ≤ maxLen ∧ Wide l) ∧ ∀ (φ : Plan) (h : Heap), Rep w.heap.size φ h w → Opened φ h w c (fun h' x => Ints h' x l) := by
      intro i hi
      have hE := hel i hi
      rw [hcu, Nat.mul_one, List.getElem?_eq_getElem (by omega), Option.bind_eq_some_iff] at hE
      obtain ⟨cs1, hc1, hy1⟩ := hE
      rcases open_ints hu he hc hy1 with ⟨rfl, _⟩ | ⟨b, l1, c1, zs, rfl, _, hl1, hm1, hz1, _, hcell, hwz⟩
      · exact ⟨_, cell_of_cells?_one hc1, [], ⟨by simp, fun n hn => by simp at hn⟩, fun φ h R => open_cells R none 0 0 [] (Nat.le_refl _) (by unfold maxLen; omega) rfl (fun _ => rfl) (fun a h => by cases h)⟩
      · simp only [if_true] at hz1
        exact ⟨_, cell_of_cells?_one hc1, zs.take l1, ⟨by simp; omega, fun n hn => i64_wf (hwz n (List.mem_of_mem_take hn))⟩, fun φ h R => open_cells R (some b) l1 c1 zs hl1 hm1 hz1 (fun h => by cases h) (fun a' h => by cases h; exact fun i hi => hcell i (by omega))⟩
    let vs : List Value := (List.range len).map fun i => (w.cell? (a.add i)).getD undef
    have hvl : vs.length = len := by simp [vs]
    have hvi : ∀ (i : Nat) (v : Value), vs[i]? = some v → i < len ∧ w.cell? (a.add i) = some v := by
      intro i v hv
      have hi : i < len := by have := (List.getElem?_eq_some_iff.1 hv).1; omega
      obtain ⟨c, hc, _⟩ := cell i hi
      simp only [vs, List.getElem?_map, List.getElem?_range hi, Option.map_some, hc, Option.getD_some, Option.some.injEq] at hv
      subst hv
      exact ⟨hi, hc⟩
    obtain ⟨xs, L, φ2, h2, s2, e2, R2, n1, n2, r2, t2, b2⟩ := open_many vs R (fun v hv => by
      obtain ⟨i, hi⟩ := List.getElem?_of_mem hv
      obtain ⟨hil, hc⟩ := hvi i v hi
      obtain ⟨c, hc2, rest⟩ := cell i hil
      rw [hc] at hc2
      cases hc2
      exact rest)
    obtain ⟨b, off, spot⟩ := a
    obtain ⟨c0, hc0, _⟩ := cell 0 (by omega)
    have hspot : spot = none := by simpa [Addr.add] using World.cell?_spot hc0
    subst hspot
    have hb : b < w.heap.size := World.block_lt_of_cell? w ⟨b, off, none⟩ (by simpa [Addr.add] using hc0)
    refine ⟨L, .sl h2.length 0 len, φ2 ++ [⟨b, off, cap⟩], h2 ++ [.ro xs], s2.trans (Sub.push _ _), e2.trans (Ext.push _ _), R2.pushRo ⟨b, off, cap⟩ hb _ (fun k c hk => ?_), ⟨⟨b, off, cap⟩, _, _, ?_, rfl, hl, hm, by simp, fun _ => rfl⟩, ⟨xs, ?_, by omega, fun i y l hy hl => (t2 i y l hy hl).ext (Ext.push _ _)⟩, ?_, fun l hl => (b2 l hl).2⟩
    · have hk2 : k < vs.length := by have := (List.getElem?_eq_some_iff.1 hk).1; omega
      obtain ⟨_, hc⟩ := hvi k vs[k] (List.getElem?_eq_getElem hk2)
      exact ⟨vs[k], by rw [← addr_add]; exact hc, r2 k c _ hk (List.getElem?_eq_getElem hk2)⟩
    · rw [← R2.len, List.getElem?_append_right (Nat.le_refl _)]
      simp
    · have := Shows.ro h2.length 0 len _ (get_new h2 (.ro xs)) (by omega)
      simp only [List.drop_zero] at this
      rw [List.take_of_length_le (by omega)] at this
      exact this
    · have hml : maxLen ≤ 9223372036854775807 := by unfold maxLen; omega
      refine ⟨by omega, fun i => ?_⟩
      by_cases hi : i < L.length
      · have := (b2 L[i] (List.getElem_mem hi)).1
        simp [List.getD, hi]
        omega
      · simp [List.getD, Nat.le_of_not_lt hi]

theorem open_arg_rows {H : Type} {enc : TypeId × Value → H} {P : Program} {w : World} {t u e : TypeId} {v : Value} {d : DataW H} {ps : List MemPlace} {base : Nat} (ht : P.underlying t = some (.slice u)) (hu : P.underlying u = some (.slice e)) (he : P.underlying e = some (.int .i64))
    (hcu : P.cellsOf u = 1) (hc : P.cellsOf e = 1) (hv : Value.okWide P w .any base t v) (h0 : DataW.Trod enc P w 0 (fun _ => true) true t v d ps) {φ : Plan} {h : Heap} (R : Rep w.heap.size φ h w) : ∃ L, Opened φ h w v (fun h' x => Rows h' x L ∧ Sizes L) := by
  obtain ⟨L, O⟩ := open_arg_rowsI ht hu he hcu hc hv h0 R
  exact ⟨L, O.mono fun h' x k => ⟨k.1, k.2.1⟩⟩

end Go.Proofs.YtgliajcgcbnemaaGreatDoor.Hx

namespace Go.Proofs.YtgliajcgcbnemaaGreatDoor.Hx
open Go.ChangeShapes Go.WideShapes Go.ChangeAt Go.RowKit

theorem row_shaped {H : Type} {enc : TypeId × Value → H} {C : Checked} {os : Os} {f : FuncId} {fn : Func} {s : ChangeSpec} {l : List (String × DataW Unit)} (own : ownKnob C.prog.godebug = none) (started : os.Started)
    (noInit : C.prog.inits.idxOf? f = none) (hfn : C.prog.funcs[f]? = some fn)
    (wit : ∃ (w : World) (tape : Tape) (i : Input), w.os = os ∧ (w.forCall tape i).Shaped C.prog ∧ i.vars = [] ∧ Input.okWide C.prog (w.forCall tape i) .any w.heap.size f i ∧
      ((s.pre enc C.prog fn [] false (w.forCall tape i).memory i.args ∧ laidMetH C.prog l (w.forCall tape i).memory) ∧ sizedMet enc C.prog fn (OpenSpec.ofChange s) false (w.forCall tape i).memory i.args) ∧ Assume.holds {} C.prog (lone (Frame.enter C.prog f i.args .normal) [] (w.forCall tape i)))
    (walk : ∀ (W : World) (base : Nat) (args : Array Value) (ds gs : List (DataW H)) (before : List MemPlace), (∀ (j : Nat) t v, fn.params[j]? = some t → args[j]? = some v → Value.okWide C.prog W .any base t v) →
      DataW.Whole enc C.prog fn.params.toList s.vars false W args.toList ds gs before → laidMetH C.prog l W → W.ShapedOpen C.prog →
      Calls C.prog f args W fun e W' => ∃ v, e = .returned v ∧ s.post enc C.prog fn false true false false W args v W') :
    ReturnsInHanded {} C os f .any (fun w args => (s.pre enc C.prog fn [] false w args ∧ laidMetH C.prog l w) ∧ sizedMet enc C.prog fn (OpenSpec.ofChange s) false w args) (s.post enc C.prog fn false true false false) :=
  returnsInHanded_of_calls own started noInit wit fun w tape i _ shape _ ok met _ => by
    obtain ⟨_, _, _, g, hg, _, _, _, _, vals⟩ := ok
    obtain rfl : fn = g := Option.some.inj (hfn.symm.trans hg)
    obtain ⟨⟨⟨ds, gs, before, whole, _⟩, laid⟩, _⟩ := met
    have whole' := DataW.Whole.of_heap (w' := w.forCall tape i) (by rfl) whole
    have laid' := laidMetH.of_heap (w' := w.forCall tape i) (by rfl) laid
    have run := walk (w.forCall tape i) w.heap.size i.args ds gs before vals whole' laid' shape
    exact run.mono fun e W' ⟨v, he, hp⟩ => by
      rw [he]
      exact ChangeSpec.post_blind hp

/-- The length that a library's own variable holds. -/
theorem tab_shaped {W : World} (h : W.ShapedOpen Tryz.prog) : ∀ g ∈ [0], g < W.heap.size ∧ ∃ m, W.cell? ⟨g, 0, none⟩ = some (.int .i64 m) := fun g hg => by
  obtain rfl := List.mem_singleton.1 hg
  obtain ⟨m, hm⟩ := Tryz.splitL.s1_3 W h
  exact ⟨World.block_lt_of_cell? _ _ hm, m, hm⟩

end Go.Proofs.YtgliajcgcbnemaaGreatDoor.Hx
