/-
  The names of parts, of the program; the names of matrices, of both sides.
  Contracts of orders of elements, of the program and of the reference.
  Finite types: from the opposite of rho the game of signs leads to rho within thirty steps, and the longest element takes each simple reflection of rho to one of its opposite. Found by looking at all matrices of at most four points; plain theory.
  Finite types: what the look at all matrices says of a valid matrix whose principal minors are positive.
  Contracts of the longest element, of the program and of the reference.
-/
import Derived.Test.YtgliajcgcbnemaaGreatDoorZ24
namespace Go.Proofs.YtgliajcgcbnemaaGreatDoor.Hx
open Go.RowKit
variable {dm : Bool}

/-! ### The parts of a matrix -/

theorem partsC_mem {c : List (List Int)} (hic : isCartan c = true) {k : Nat} (hk : k < (partsC c).length) : ∃ i, i < c.length ∧ (partsC c).getD k [] = partL c i := by
  have e : (partsC c).getD k [] = (partsC c)[k] := by simp [List.getD, hk]
  have hm := List.getElem_mem hk
  rw [← e] at hm
  generalize (partsC c).getD k [] = p at *
  rw [partsC_on hic] at hm
  unfold partsTo at hm
  obtain ⟨i, hi, rfl⟩ := List.mem_map.1 hm
  exact ⟨i, List.mem_range.1 (List.mem_filter.1 hi).1, rfl⟩
theorem partsC_le (c : List (List Int)) : (partsC c).length ≤ c.length := by
  unfold partsC
  split
  · exact partsTo_len c _
  · simp
structure PartOk (c : List (List Int)) (o : List Int) : Prop where
  rng : ∀ k, k < o.length → 0 ≤ o.getD k 0 ∧ o.getD k 0 < c.length
  asc : ∀ k, k < o.length → k = 0 ∨ o.getD (k - 1) 0 < o.getD k 0
  le : o.length ≤ 4
  ne : o.length ≠ 0
  cart : isCartan (subM c o) = true
  conn : isConn (subM c o) = true
theorem part_ok {c : List (List Int)} (hic : isCartan c = true) {k : Nat} (hk : k < (partsC c).length) : PartOk c ((partsC c).getD k []) := by
  have hC := (isCartan_iff c).1 hic
  have h4 := hC.le
  obtain ⟨i, hi, e⟩ := partsC_mem hic hk
  rw [e]
  obtain ⟨h1, h2⟩ := part_conn hC hi
  have hl := partL_len c i
  have hp := partL_pos hi
  have hs : (partL c i).Pairwise (· < ·) := partTo_sorted c i c.length
  refine ⟨fun k hk => ?_, fun k hk => ?_, by omega, by omega, (isCartan_iff _).2 h1, h2⟩
  · obtain ⟨p, e2, hp⟩ := (partL_ok c i).at hk
    omega
  · by_cases h0 : k = 0
    · exact Or.inl h0
    · right
      have := List.pairwise_iff_getElem.1 hs (k - 1) k (by omega) hk (by omega)
      have e1 : (partL c i).getD (k - 1) 0 = (partL c i)[k - 1] := by simp [List.getD, show k - 1 < (partL c i).length by omega]
      have e2 : (partL c i).getD k 0 = (partL c i)[k] := by simp [List.getD, hk]
      rw [e1, e2]
      exact this

/-- The name of a part. -/
noncomputable def nameQ (c : List (List Int)) (o : List Int) : List UInt8 := nameP (subM c o)
noncomputable def nameOf (c : List (List Int)) : List UInt8 := Lib.join ((partsC c).map (nameQ c)) [120]
theorem nameTo_le {c : List (List Int)} (k : Nat) : (Lib.join (((partsC c).take k).map (nameQ c)) [120]).length ≤ 4 * k := by
  have := join_le (b := 3) [120] (by simp) (((partsC c).take k).map (nameQ c)) (fun x hx => by
    obtain ⟨o, _, rfl⟩ := List.mem_map.1 hx
    exact (nameP_short _).1)
  simp only [List.length_map, List.length_take] at this
  have h2 : min k (partsC c).length ≤ k := Nat.min_le_left _ _
  have h3 := Nat.mul_le_mul_left 4 h2
  omega

set_option smartUnfolding false

set_option maxHeartbeats 1000000 in
theorem impl_NameOfPart (h : Heap) (x : H0) (c : List (List Int)) (hx : Rows h x c) (hic : isCartan c = true) (hcn : isConn c = true) :
    HCalls dm Tryz.prog 138 [.s x] h (fun r h' => r = Tx (nameP c) ∧ Ext h h') := by
  have hC := (isCartan_iff c).1 hic
  have h4 := hC.le
  have hln : (namesT.map cst).length = 17 := rfl
  obtain ⟨V, hV⟩ : ∃ V, V = nameP c := ⟨_, rfl⟩
  rw [← hV]
  refine calls_of_hFun (m := 0) kd_ok mixed Tryz.func138 rfl (by kernel_rfl) rfl rfl (of_decide_eq_true rfl) ?_; unfold hFun; (conv => whnf)
  refine (impl_IsConnected _ _ c hx (by omega)).mono ?_
  rintro r h0 ⟨rfl, E0⟩
  rw [hcn]
  (conv => whnf)
  refine HIf.no ?_
  (conv => whnf)
  refine (show HCalls _ _ _ [Tx typeS, Tx [32]] _ _ from (lib_Split _ typeS 32 (by decide)).mono ?_)
  rintro r h1 ⟨rfl, rfl⟩
  rw [typeS_cut, typeS_len]
  have E1 : Ext h (h0 ++ [Row.own (namesT.map cst)]) := E0.pushed _
  have S1 := Strs.new h0 namesT
  have e17 : namesT.length = 17 := rfl
  rw [e17] at S1 ⊢
  generalize H0.sl h0.length 0 17 = y at *
  generalize h0 ++ [Row.own (namesT.map cst)] = h1 at *
  (conv => whnf)
  refine ⟨rfl, Shows.len S1 ?_⟩
  rw [hln]
  (conv => whnf)
  refine HLoop.intro [14] [15, 16, 17, 4, 19, 20, 18, 21, 22, 5, 6, 24, 25, 26, 23, 27, 28, 7, 8, 29, 30, 2, 31, 14] (by kernel_rfl) (by kernel_rfl) (fun vs h' => ∃ k : Nat, vs = [I k] ∧ k ≤ 17 ∧ Ext h1 h' ∧ V = nameIn (isoB c) (typeL.drop k)) (fun vs _ => 17 - natAt vs 0) ⟨0, rfl, by omega, Ext.refl h1, hV⟩ ?_
  rintro vs h' ⟨k, rfl, hk, E, hnm⟩
  have S := Shows.ext S1 E
  have Eh := E1.trans E
  (conv => whnf)
  refine HIf.dec (fun hlt => ?_) (fun hge => ?_)
  · have hk17 : k < 17 := by omega
    have hst := nameIn_step (isoB c) hk17
    have ecell := name_cell hk17
    have hm := ty_mem hk17
    have hone := fun p hp => ty_one p hp k hk17
    have hcar := ty_cart _ hm
    rw [← hnm] at hst
    generalize namesT.map cst = NM at *
    generalize hr : nameIn (isoB c) (typeL.drop (k + 1)) = rest at *
    generalize tyAt k = t at *
    obtain ⟨s, M⟩ := t
    have hsn : s ∈ namesT := ty_names _ hm
    (conv => whnf)
    refine ⟨rfl, Shows.idx S (by omega) (by omega) (fun p hp => ?_)⟩
    rw [ecell] at hp
    (conv => whnf)
    refine ⟨rfl, hp.load ?_⟩
    (conv => whnf)
    refine (impl_TypeCartan _ s hsn).mono ?_
    rintro r h2 ⟨y2, L, rfl, E2, O2, hL⟩
    obtain rfl : L = M := congrArg Prod.snd (hone _ hL rfl)
    (conv => whnf)
    refine (impl_AreIsomorphic _ _ _ _ _ (hx.ext (Eh.trans E2)) O2.rows hic hcar).mono ?_
    rintro r h3 ⟨y3, rfl, E3⟩
    have E23 := E2.trans E3
    (conv => whnf)
    cases hb : isoB c L
    · refine HIf.no ?_
      (conv => whnf)
      refine HArith.fits (by omega) (by omega) ?_
      (conv => whnf)
      exact ⟨⟨k + 1, rfl, by omega, E.trans E23, by rw [hst, hr]; simp only [hb, Bool.false_eq_true, if_false]⟩, by show 17 - (k + 1) < 17 - k; omega⟩
    · refine HIf.yes ?_
      (conv => whnf)
      refine ⟨?_, Eh.trans E23⟩
      rw [hst]
      simp only [hb, if_true]
      exact ty_text s
  · have ek : k = 17 := by omega
    subst ek
    (conv => whnf)
    refine ⟨?_, Eh⟩
    rw [hnm, nameIn_end]
    rfl

set_option maxHeartbeats 1000000 in
theorem spec_NameOf (h : Heap) (x : H0) (c : List (List Int)) (hx : Rows h x c) (hic : isCartan c = true) :
    HCalls dm Tryz.prog 75 [.s x] h (fun r h' => r = Tx (nameOf c) ∧ Ext h h') := by
  have hC := (isCartan_iff c).1 hic
  have h4 := hC.le
  have hpl := partsC_le c
  refine calls_of_hFun (m := 0) kd_ok mixed Tryz.func75 rfl (by kernel_rfl) rfl rfl (of_decide_eq_true rfl) ?_; unfold hFun; (conv => whnf)
  refine (spec_PartsOf _ _ c hx (by omega)).mono ?_
  rintro r h1 ⟨y, rfl, E1, O1⟩
  have hpk := fun k hk => part_ok hic (k := k) hk
  have hle := fun k => nameTo_le (c := c) k
  have hfirst := join_first (nameQ c) [120] (partsC c)
  have htake := fun k h h0 => join_take (nameQ c) [120] (partsC c) (k := k) h h0
  have hall : nameOf c = Lib.join (((partsC c).take (partsC c).length).map (nameQ c)) [120] := by rw [List.take_length]; rfl
  have hQ : ∀ o, nameQ c o = nameP (subM c o) := fun o => rfl
  have hget : ∀ k (hk : k < (partsC c).length), (partsC c)[k] = (partsC c).getD k [] := fun k hk => by simp [List.getD, hk]
  generalize nameOf c = V at *
  generalize partsC c = Ps at *
  (conv => whnf)
  refine HLoop.intro [5, 4] [10, 11, 12, 13, 16, 17, 18, 19, 4, 21, 22, 23, 24, 25, 26, 20, 27, 28, 6, 7, 29, 30, 31, 32, 4, 14, 15, 5] (by kernel_rfl) (by kernel_rfl) (fun vs h' => ∃ (k : Nat) (s : List UInt8), vs = [I k, Tx s] ∧ k ≤ Ps.length ∧ Ext h1 h' ∧ s = Lib.join ((Ps.take k).map (nameQ c)) [120]) (fun vs _ => Ps.length - natAt vs 0) ⟨0, [], rfl, by omega, Ext.refl h1, by simp [Lib.join_nil]⟩ ?_
  rintro vs h' ⟨k, s, rfl, hk, E, hs⟩
  have hsl : s.length ≤ 4 * k := by rw [hs]; exact hle k
  have O := O1.ext E
  have Eh := E1.trans E
  (conv => whnf)
  refine ⟨rfl, O.rows.len ?_⟩
  (conv => whnf)
  refine HIf.dec (fun hlt => ?_) (fun hge => ?_)
  · have hkl : k < Ps.length := by omega
    have ok := hpk k hkl
    have hg := hget k hkl
    have hsh := nameP_short (subM c (Ps.getD k []))
    have hQk := hQ (Ps.getD k [])
    have hnx : ∀ {K : HV → Prop}, K (Tx (Lib.join ((Ps.take (k + 1)).map (nameQ c)) [120])) → K (Tx (if 0 < k then s ++ [120] ++ nameP (subM c (Ps.getD k [])) else nameP (subM c (Ps.getD k [])))) := fun {K} hK => by
      by_cases h0 : 0 < k
      · rw [if_pos h0]
        rw [htake k hkl h0, ← hs, hg, hQk] at hK
        exact hK
      · have e0 : k = 0 := by omega
        subst e0
        rw [if_neg h0]
        rw [hfirst hkl, hg, hQk] at hK
        exact hK
    generalize hgo : Ps.getD k [] = o at *
    (conv => whnf)
    refine HIf.dec (fun h0 => ?_) (fun h0 => ?_)
    · (conv => whnf)
      refine HStr.add (a := s) (b := [120]) (by rw [List.length_singleton]; omega) ?_
      (conv => whnf)
      refine ⟨rfl, O.rows.idxN hkl (fun p z hp hz => ?_)⟩
      rw [hgo] at hz
      (conv => whnf)
      refine ⟨rfl, hp.load ?_⟩
      (conv => whnf)
      refine (spec_SubCartan _ _ c _ o (hx.ext Eh) hz hic ok.rng ok.asc ok.le ok.ne).mono ?_
      rintro r h2 ⟨y2, rfl, E2, O2⟩
      rw [pick_sub] at O2
      (conv => whnf)
      refine (spec_NameOfPart _ _ _ O2.rows ok.cart ok.conn).mono ?_
      rintro r h3 ⟨rfl, E3⟩
      (conv => whnf)
      refine HStr.add (a := s ++ [120]) (b := nameP (subM c o)) (by rw [List.length_append, List.length_singleton]; omega) ?_
      (conv => whnf)
      refine HArith.fits (by omega) (by omega) ?_
      (conv => whnf)
      exact ⟨⟨k + 1, _, rfl, by omega, E.trans (E2.trans E3), by
        have := @hnx (fun v => v = Tx (Lib.join ((Ps.take (k + 1)).map (nameQ c)) [120])) rfl
        rw [if_pos (by omega)] at this
        simpa using this⟩, by show Ps.length - (k + 1) < Ps.length - k; omega⟩
    · (conv => whnf)
      have e0 : k = 0 := by omega
      have es : s = [] := by rw [hs, e0]; simp [Lib.join_nil]
      refine ⟨rfl, O.rows.idxN hkl (fun p z hp hz => ?_)⟩
      rw [hgo] at hz
      (conv => whnf)
      refine ⟨rfl, hp.load ?_⟩
      (conv => whnf)
      refine (spec_SubCartan _ _ c _ o (hx.ext Eh) hz hic ok.rng ok.asc ok.le ok.ne).mono ?_
      rintro r h2 ⟨y2, rfl, E2, O2⟩
      rw [pick_sub] at O2
      (conv => whnf)
      refine (spec_NameOfPart _ _ _ O2.rows ok.cart ok.conn).mono ?_
      rintro r h3 ⟨rfl, E3⟩
      (conv => whnf)
      refine HStr.add (a := s) (b := nameP (subM c o)) (by omega) ?_
      (conv => whnf)
      refine HArith.fits (by omega) (by omega) ?_
      (conv => whnf)
      exact ⟨⟨k + 1, _, rfl, by omega, E.trans (E2.trans E3), by
        have := @hnx (fun v => v = Tx (Lib.join ((Ps.take (k + 1)).map (nameQ c)) [120])) rfl
        rw [if_neg (by omega)] at this
        rw [es, List.nil_append]
        simpa using this⟩, by show Ps.length - (k + 1) < Ps.length - k; omega⟩
  · have ek : k = Ps.length := by omega
    subst ek
    obtain rfl : V = s := by rw [hs, hall]
    (conv => whnf)
    exact ⟨rfl, Eh⟩

set_option maxHeartbeats 1000000 in
theorem impl_NameOf (h : Heap) (x : H0) (c : List (List Int)) (hx : Rows h x c) (hic : isCartan c = true) :
    HCalls false Tryz.prog 79 [.s x] h (fun r h' => r = Tx (nameOf c) ∧ Ext h h') := by
  have hC := (isCartan_iff c).1 hic
  have h4 := hC.le
  have hpl := partsC_le c
  have E0 := Ext.push h [Row.own []]
  refine calls_of_hFun (m := 0) kd_ok mixed Tryz.func79 rfl (by kernel_rfl) rfl rfl (of_decide_eq_true rfl) ?_; unfold hFun; (conv => whnf)
  refine HLit.empty ?_
  (conv => whnf)
  refine (impl_PartsOf _ _ c (hx.ext E0) (by omega)).mono ?_
  rintro r h1 ⟨y, rfl, E1, O1⟩
  have hpk := fun k hk => part_ok hic (k := k) hk
  have hle := nameTo_le (c := c) (partsC c).length
  have hall : nameOf c = Lib.join ((partsC c).map (nameQ c)) [120] := rfl
  have hQ : ∀ o, nameQ c o = nameP (subM c o) := fun o => rfl
  rw [List.take_length] at hle
  generalize nameOf c = V at *
  generalize partsC c = Ps at *
  have E01 := E0.trans E1
  have hrow := E1.row (get_new h (Row.own []))
  have M1 := O1.matP
  have hn0 : (h ++ [Row.own []]).length = h.length + 1 := by simp
  rw [hn0] at M1
  (conv => whnf)
  refine ⟨rfl, O1.rows.len ?_⟩
  (conv => whnf)
  refine HLoop.intro [10, 3] [11, 12, 13, 5, 14, 15, 16, 17, 18, 19, 20, 3, 21, 10] (by kernel_rfl) (by kernel_rfl) (fun vs h' => ∃ (k r : Nat), vs = [I k, .s (.sl r 0 k)] ∧ k ≤ Ps.length ∧ Ext h h' ∧ h1.length ≤ h'.length ∧ MatP (fun p => h.length + 1 ≤ p ∧ p < h1.length) h' y Ps ∧ (r = h.length ∨ h1.length ≤ r) ∧ h'[r]? = some (.own (((Ps.take k).map (nameQ c)).map stc))) (fun vs _ => Ps.length - natAt vs 0) ⟨0, h.length, rfl, by omega, E01, Nat.le_refl _, M1, Or.inl rfl, hrow⟩ ?_
  have hE01 := E01.1
  clear hrow E01 M1
  rintro vs h' ⟨k, r, rfl, hk, E, hl1, M, hr, hcs⟩
  (conv => whnf)
  refine HIf.dec (fun hlt => ?_) (fun hge => ?_)
  · have hkl : k < Ps.length := by omega
    have ok := hpk k hkl
    have htk : (Ps.take (k + 1)).map (nameQ c) = (Ps.take k).map (nameQ c) ++ [nameQ c (Ps.getD k [])] := by
      rw [List.take_succ_eq_append_getElem hkl, List.map_append]
      have e : Ps.getD k [] = Ps[k] := by simp [List.getD, hkl]
      rw [e]
      rfl
    have hkn : ((Ps.take k).map (nameQ c)).length = k := by simp; omega
    have hQk := hQ (Ps.getD k [])
    generalize hgo : Ps.getD k [] = o at *
    (conv => whnf)
    refine ⟨rfl, M.rows.idxN hkl (fun p z hp hz => ?_)⟩
    rw [hgo] at hz
    (conv => whnf)
    refine ⟨rfl, hp.load ?_⟩
    (conv => whnf)
    refine (impl_picked _ _ c _ o (hx.ext E) hz hC ok.rng ok.le).mono ?_
    rintro r2 h2 ⟨y2, rfl, E2, O2⟩
    rw [pick_sub] at O2
    (conv => whnf)
    refine (impl_NameOfPart _ _ _ O2.rows ok.cart ok.conn).mono ?_
    rintro r3 h3 ⟨rfl, E3⟩
    rw [← hQk]
    (conv => whnf)
    refine HLit.row (y := stc (nameQ c o)) rfl ?_
    (conv => whnf)
    have E23 := E2.trans E3
    have hE := E.1
    have hE23 := E23.1
    have M3 := M.ext E23
    replace hcs := E23.row hcs
    replace E := E.trans E23
    have hrl := get_lt hcs
    refine ⟨rfl, rfl, HApp.text (by rw [List.getElem?_append_left (by omega)]; exact hcs) (get_new _ _) hkn (by omega) ?_⟩
    rw [← htk]
    have E4 : Ext h ((h3 ++ [Row.own [stc (nameQ c o)]]).set r Row.gone ++ [Row.own (((Ps.take (k + 1)).map (nameQ c)).map stc)]) := ((E.pushed _).set (by omega) _).pushed _
    have hnew := get_new ((h3 ++ [Row.own [stc (nameQ c o)]]).set r Row.gone) (Row.own (((Ps.take (k + 1)).map (nameQ c)).map stc))
    rw [List.length_set] at hnew
    have M4 : MatP (fun p => h.length + 1 ≤ p ∧ p < h1.length) ((h3 ++ [Row.own [stc (nameQ c o)]]).set r Row.gone ++ [Row.own (((Ps.take (k + 1)).map (nameQ c)).map stc)]) y Ps := M3.keep fun p hp hs => by
      rw [List.getElem?_append_left (by simp; omega), List.getElem?_set_ne (by omega), List.getElem?_append_left hp]
    have hnl : h1.length ≤ (h3 ++ [Row.own [stc (nameQ c o)]]).length := by simp; omega
    have hnl2 : h1.length ≤ ((h3 ++ [Row.own [stc (nameQ c o)]]).set r Row.gone ++ [Row.own (((Ps.take (k + 1)).map (nameQ c)).map stc)]).length := by simp; omega
    generalize (h3 ++ [Row.own [stc (nameQ c o)]]).length = N at *
    generalize (h3 ++ [Row.own [stc (nameQ c o)]]).set r Row.gone ++ [Row.own (((Ps.take (k + 1)).map (nameQ c)).map stc)] = h4 at *
    (conv => whnf)
    refine HArith.fits (by omega) (by omega) ?_
    (conv => whnf)
    exact ⟨⟨k + 1, N, rfl, by omega, E4, hnl2, M4, Or.inr hnl, hnew⟩, by show Ps.length - (k + 1) < Ps.length - k; omega⟩
  · have ek : k = Ps.length := by omega
    subst ek
    rw [List.take_length] at hcs
    have hj := lib_Join h' r (Ps.map (nameQ c)) [120] [] (by rw [List.append_nil]; exact hcs) (by simp; omega) (by omega)
    rw [List.length_map] at hj
    (conv => whnf)
    refine hj.mono ?_
    rintro r2 h2 ⟨rfl, rfl⟩
    rw [hall]
    (conv => whnf)
    exact ⟨rfl, E⟩

end Go.Proofs.YtgliajcgcbnemaaGreatDoor.Hx

namespace Go.Proofs.YtgliajcgcbnemaaGreatDoor.Hx
open Go.RowKit
variable {dm : Bool}

def ordF (c : List (List Int)) (w : List Int) : Nat → List Int → Nat → Int
  | 0, _, _ => 0
  | f + 1, p, k => if (normF c (p ++ w)).length = 0 then (k : Int) else if 15 < (normF c (p ++ w)).length then 0 else ordF c w f (normF c (p ++ w)) (k + 1)
def ordG (c : List (List Int)) (w : List Int) (f : Nat) (y : List Int) (k : Nat) : Int := if y.length = 0 then (k : Int) else if 15 < y.length then 0 else ordF c w f y (k + 1)
def orderOf (c : List (List Int)) (w : List Int) : Int := if isWord c w && (isFinite c || decide ((normF c w).length ≤ 7)) then ordF c w 60 [] 1 else 0

theorem ordF_none (c : List (List Int)) (w p : List Int) (k : Nat) : ordF c w 0 p k = 0 := rfl
theorem ordF_succ (c : List (List Int)) (w p : List Int) (f k : Nat) : ordF c w (f + 1) p k = ordG c w f (normF c (p ++ w)) k := rfl
theorem ordG_zero {c : List (List Int)} {w y : List Int} {f k : Nat} (h : y.length = 0) : ordG c w f y k = k := by
  unfold ordG
  rw [if_pos h]
theorem ordG_big {c : List (List Int)} {w y : List Int} {f k : Nat} (h : 15 < y.length) : ordG c w f y k = 0 := by
  unfold ordG
  rw [if_neg (by omega), if_pos h]
theorem ordG_next {c : List (List Int)} {w y : List Int} {f k : Nat} (h : y.length ≠ 0) (h2 : ¬ 15 < y.length) : ordG c w f y k = ordF c w f y (k + 1) := by
  unfold ordG
  rw [if_neg h, if_neg h2]
theorem orderOf_off {c : List (List Int)} {w : List Int} (h : isWord c w = false) : orderOf c w = 0 := by simp [orderOf, h]
theorem orderOf_inf {c : List (List Int)} {w : List Int} (h : isFinite c = false) (h2 : ¬ (normF c w).length ≤ 7) : orderOf c w = 0 := by
  have : decide ((normF c w).length ≤ 7) = false := decide_eq_false h2
  unfold orderOf
  rw [h, this, Bool.or_false, Bool.and_false]
  rfl
theorem orderOf_on {c : List (List Int)} {w : List Int} (h : isWord c w = true) (h2 : isFinite c = true ∨ (normF c w).length ≤ 7) : orderOf c w = ordF c w 60 [] 1 := by
  unfold orderOf
  rw [h, Bool.true_and, if_pos]
  rcases h2 with h2 | h2
  · rw [h2]; rfl
  · rw [decide_eq_true h2, Bool.or_true]

set_option smartUnfolding false

end Go.Proofs.YtgliajcgcbnemaaGreatDoor.Hx

namespace Go.Proofs.YtgliajcgcbnemaaGreatDoor.Hx
open Go.RowKit

abbrev IP := Int × Int
def D3 (a b c d e f g h i : Int) : Int := a * (e * i - f * h) - b * (d * i - f * g) + c * (d * h - e * g)
def opts : List IP := [(0, 0), (-1, -1), (-1, -2), (-2, -1), (-1, -3), (-3, -1)]
def d3 (p q r : IP) : Int := D3 2 p.1 q.1 p.2 2 r.1 q.2 r.2 2
def d4 (p q r s t u : IP) : Int := 2 * D3 2 r.1 t.1 r.2 2 u.1 t.2 u.2 2 - p.1 * D3 p.2 r.1 t.1 q.2 2 u.1 s.2 u.2 2 + q.1 * D3 p.2 2 t.1 q.2 r.2 u.1 s.2 t.2 2 - s.1 * D3 p.2 2 r.1 q.2 r.2 2 s.2 t.2 u.2
structure V4 where
  a : Int
  b : Int
  c : Int
  d : Int
structure M6 where
  p : IP
  q : IP
  r : IP
  s : IP
  t : IP
  u : IP
def st1 (m : M6) (v : V4) : V4 := ⟨v.a - v.a * 2, v.b - v.a * m.p.2, v.c - v.a * m.q.2, v.d - v.a * m.s.2⟩
def st2 (m : M6) (v : V4) : V4 := ⟨v.a - v.b * m.p.1, v.b - v.b * 2, v.c - v.b * m.r.2, v.d - v.b * m.t.2⟩
def st3 (m : M6) (v : V4) : V4 := ⟨v.a - v.c * m.q.1, v.b - v.c * m.r.1, v.c - v.c * 2, v.d - v.c * m.u.2⟩
def st4 (m : M6) (v : V4) : V4 := ⟨v.a - v.d * m.s.1, v.b - v.d * m.t.1, v.c - v.d * m.u.1, v.d - v.d * 2⟩
def stp (m : M6) : Nat → V4 → V4
  | 0 => st1 m
  | 1 => st2 m
  | 2 => st3 m
  | _ => st4 m
def negB (x : Int) : Bool := match x with
  | .ofNat _ => false
  | .negSucc _ => true
def run (n : Nat) (m : M6) (K : (V4 → V4) → V4 → Bool) : Nat → V4 → (V4 → V4) → Bool
  | 0, v, k => K k v
  | f + 1, v, k => match Nat.blt 0 n && negB v.a with
    | true => run n m K f (st1 m v) (fun x => k (st1 m x))
    | false => match Nat.blt 1 n && negB v.b with
      | true => run n m K f (st2 m v) (fun x => k (st2 m x))
      | false => match Nat.blt 2 n && negB v.c with
        | true => run n m K f (st3 m v) (fun x => k (st3 m x))
        | false => match Nat.blt 3 n && negB v.d with
          | true => run n m K f (st4 m v) (fun x => k (st4 m x))
          | false => K k v
def eqV (x y : V4) : Bool := x.a == y.a && x.b == y.b && x.c == y.c && x.d == y.d
def one4 : V4 := ⟨1, 1, 1, 1⟩
def mone (n : Nat) : V4 := ⟨if 0 < n then -1 else 1, if 1 < n then -1 else 1, if 2 < n then -1 else 1, if 3 < n then -1 else 1⟩
def hitV (n : Nat) (m : M6) (x : V4) : Bool := (Nat.blt 0 n && eqV x (st1 m (mone n))) || (Nat.blt 1 n && eqV x (st2 m (mone n))) || (Nat.blt 2 n && eqV x (st3 m (mone n))) || (Nat.blt 3 n && eqV x (st4 m (mone n)))
def last (n : Nat) (m : M6) (k : V4 → V4) (v : V4) : Bool := eqV v one4 && (!Nat.blt 0 n || hitV n m (k (st1 m one4))) && (!Nat.blt 1 n || hitV n m (k (st2 m one4))) && (!Nat.blt 2 n || hitV n m (k (st3 m one4))) && (!Nat.blt 3 n || hitV n m (k (st4 m one4)))
def good (n : Nat) (m : M6) : Bool := run n m (last n m) 30 (mone n) id
def z0 : IP := (0, 0)
def chk1 : Bool := good 1 ⟨z0, z0, z0, z0, z0, z0⟩
def chk2 : Bool := opts.all fun p => good 2 ⟨p, z0, z0, z0, z0, z0⟩
def chk3 : Bool := opts.all fun p => opts.all fun q => opts.all fun r => !decide (0 < d3 p q r) || good 3 ⟨p, q, r, z0, z0, z0⟩
def chk4 : Bool := opts.all fun p => opts.all fun q => opts.all fun r => !decide (0 < d3 p q r) || opts.all fun s => opts.all fun t => !decide (0 < d3 p s t) || opts.all fun u => !decide (0 < d3 q s u) || !decide (0 < d3 r t u) || !decide (0 < d4 p q r s t u) || good 4 ⟨p, q, r, s, t, u⟩

set_option maxRecDepth 100000 in
theorem chk1_ok : chk1 = true := by decide +kernel
set_option maxRecDepth 100000 in
theorem chk2_ok : chk2 = true := by decide +kernel
set_option maxRecDepth 100000 in
theorem chk3_ok : chk3 = true := by decide +kernel
set_option maxRecDepth 100000 in
theorem chk4_ok : chk4 = true := by decide +kernel

/-! What the run means -/

theorem negB_iff (x : Int) : negB x = true ↔ x < 0 := by
  cases x with
  | ofNat n => simp [negB]
  | negSucc n => simp [negB]

def crd (v : V4) : Nat → Int
  | 0 => v.a
  | 1 => v.b
  | 2 => v.c
  | 3 => v.d
  | _ => 0
def cvt (n : Nat) (v : V4) : Pos := fun k => if k < n then crd v k else 0
def m6 (c : List (List Int)) : M6 := ⟨(ent c 0 1, ent c 1 0), (ent c 0 2, ent c 2 0), (ent c 1 2, ent c 2 1), (ent c 0 3, ent c 3 0), (ent c 1 3, ent c 3 1), (ent c 2 3, ent c 3 2)⟩

theorem crd_step {c : List (List Int)} (hC : Cartan c) (i : Nat) (hi : i < c.length) (v : V4) (k : Nat) (hk : k < c.length) : crd (stp (m6 c) i v) k = crd v k - crd v i * ent c k i := by
  have h4 := hC.le
  have d := (matOk hC).diag
  have hi4 : i = 0 ∨ i = 1 ∨ i = 2 ∨ i = 3 := by omega
  have hk4 : k = 0 ∨ k = 1 ∨ k = 2 ∨ k = 3 := by omega
  rcases hi4 with rfl | rfl | rfl | rfl <;> rcases hk4 with rfl | rfl | rfl | rfl <;> first
    | rfl
    | (rw [d _ hk]; rfl)

theorem cvt_step {c : List (List Int)} (hC : Cartan c) (i : Nat) (hi : i < c.length) (v : V4) : sr (ent c) i (cvt c.length v) = cvt c.length (stp (m6 c) i v) := by
  funext k
  show cvt c.length v k - cvt c.length v i * ent c k i = cvt c.length (stp (m6 c) i v) k
  unfold cvt
  by_cases hk : k < c.length
  · rw [if_pos hk, if_pos hi, if_pos hk, crd_step hC i hi v k hk]
  · rw [if_neg hk, if_neg hk, ent_off (by omega)]
    simp

def acts (m : M6) : List Nat → V4 → V4
  | [], x => x
  | i :: w, x => stp m i (acts m w x)

/-- A run: a word of steps at first negative numbers, and what holds at its end. -/
theorem run_sound {c : List (List Int)} (hC : Cartan c) {K : (V4 → V4) → V4 → Bool} (hK : ∀ k v, K k v = true → v = one4) :
    ∀ (f : Nat) (v : V4) (k : V4 → V4) (l : List Int), f ≤ 30 → run c.length (m6 c) K f v k = true → l.length = c.length → posOf l = cvt c.length v →
      ∃ w : List Nat, w.length ≤ f ∧ PlayL c w.length l ∧ nf c 31 l = w.map (fun (i : Nat) => (i : Int)) ∧ (∀ i, i ∈ w → i < c.length) ∧ K (fun x => k (acts (m6 c) w x)) one4 = true := by
  intro f
  have stop : ∀ (v : V4) (k : V4 → V4) (l : List Int) (f : Nat), K k v = true → l.length = c.length → posOf l = cvt c.length v → ∃ w : List Nat, w.length ≤ f ∧ PlayL c w.length l ∧ nf c 31 l = w.map (fun (i : Nat) => (i : Int)) ∧ (∀ i, i ∈ w → i < c.length) ∧ K (fun x => k (acts (m6 c) w x)) one4 = true := by
    intro v k l f h hl hp
    have hv := hK k v h
    subst hv
    have h4 := hC.le
    have ho : ∀ i, i < c.length → posOf l i = 1 := fun i hi => by
      rw [hp]
      unfold cvt
      rw [if_pos hi]
      have : i = 0 ∨ i = 1 ∨ i = 2 ∨ i = 3 := by omega
      rcases this with rfl | rfl | rfl | rfl <;> rfl
    refine ⟨[], Nat.zero_le _, ⟨hl, .done ho⟩, ?_, fun i hi => by simp at hi, h⟩
    rw [nf_stop (fun k hk => by have := ho k (by omega); unfold posOf at this; omega)]
    rfl
  have go : ∀ (f : Nat) (v : V4) (k : V4 → V4) (l : List Int) (i : Nat), f + 1 ≤ 30 → i < c.length → crd v i < 0 → (∀ t, t < i → 0 ≤ crd v t) → l.length = c.length → posOf l = cvt c.length v →
      (∀ l', l'.length = c.length → posOf l' = cvt c.length (stp (m6 c) i v) → ∃ w : List Nat, w.length ≤ f ∧ PlayL c w.length l' ∧ nf c 31 l' = w.map (fun (i : Nat) => (i : Int)) ∧ (∀ i, i ∈ w → i < c.length) ∧ K (fun x => k (stp (m6 c) i (acts (m6 c) w x))) one4 = true) →
      ∃ w : List Nat, w.length ≤ f + 1 ∧ PlayL c w.length l ∧ nf c 31 l = w.map (fun (i : Nat) => (i : Int)) ∧ (∀ i, i ∈ w → i < c.length) ∧ K (fun x => k (acts (m6 c) w x)) one4 = true := by
    intro f v k l i hf hi hneg hb hl hp ih
    have hpi : posOf l i = crd v i := by rw [hp]; unfold cvt; rw [if_pos hi]
    -- a list of the next position
    obtain ⟨l', hl', hp'⟩ : ∃ l' : List Int, l'.length = c.length ∧ posOf l' = sr (ent c) i (posOf l) := by
      refine ⟨(List.range c.length).map (sr (ent c) i (posOf l)), by simp, ?_⟩
      funext t
      by_cases ht : t < c.length
      · simp [posOf, List.getD, ht]
      · have h1 : (l.length ≤ t) := by omega
        unfold sr
        rw [ent_off (by omega)]
        simp [posOf, List.getD, ht, h1]
    have hp2 : posOf l' = cvt c.length (stp (m6 c) i v) := by rw [hp', hp, cvt_step hC i hi]
    obtain ⟨w, h1, h2, h3, h4, h5⟩ := ih l' hl' hp2
    have P : PlayL c (w.length + 1) l := ⟨hl, .step i hi (by rw [hpi]; exact hneg) (by rw [← hp']; exact h2.2)⟩
    have hneg' : l.getD i 0 < 0 := by have := hpi; unfold posOf at this; omega
    have hb' : ∀ t, t < i → 0 ≤ l.getD t 0 := fun t ht => by
      have e : posOf l t = crd v t := by rw [hp]; unfold cvt; rw [if_pos (by omega)]
      have := hb t ht
      unfold posOf at e
      omega
    obtain ⟨n1, P2⟩ := nf_next hC P (by omega) (by omega) hneg' hb'
    have e : reflW c i l = l' := posOf_inj (by rw [reflW_length, hl, hl']) (by rw [pos_refl hC P (by omega) hi, hp'])
    rw [e, h3] at n1
    refine ⟨i :: w, by simp; omega, P, n1, fun j hj => ?_, h5⟩
    rcases List.mem_cons.1 hj with rfl | hj
    · exact hi
    · exact h4 j hj
  induction f with
  | zero =>
    intro v k l _ h hl hp
    exact stop v k l 0 h hl hp
  | succ f ih =>
    intro v k l hf h hl hp
    have no : ∀ {t : Nat} {x : Int}, t < c.length → (Nat.blt t c.length && negB x) = false → 0 ≤ x := fun {t x} ht hh => by
      have hb : Nat.blt t c.length = true := by rw [Nat.blt_eq]; exact ht
      rw [hb, Bool.true_and] at hh
      by_cases hx : x < 0
      · rw [(negB_iff x).2 hx] at hh; cases hh
      · omega
    have yes : ∀ {t : Nat} {x : Int}, (Nat.blt t c.length && negB x) = true → t < c.length ∧ x < 0 := fun {t x} hh => by
      simp only [Bool.and_eq_true] at hh
      have h1 := hh.1
      rw [Nat.blt_eq] at h1
      exact ⟨h1, (negB_iff x).1 hh.2⟩
    rw [run] at h
    split at h
    · rename_i h0
      obtain ⟨g1, g2⟩ := yes h0
      exact go f v k l 0 hf g1 g2 (fun t ht => by omega) hl hp (fun l' a b => ih _ _ l' (by omega) h a b)
    · rename_i h0
      split at h
      · rename_i h1
        obtain ⟨g1, g2⟩ := yes h1
        refine go f v k l 1 hf g1 g2 (fun t ht => ?_) hl hp (fun l' a b => ih _ _ l' (by omega) h a b)
        have : t = 0 := by omega
        subst this
        exact no (by omega) h0
      · rename_i h1
        split at h
        · rename_i h2
          obtain ⟨g1, g2⟩ := yes h2
          refine go f v k l 2 hf g1 g2 (fun t ht => ?_) hl hp (fun l' a b => ih _ _ l' (by omega) h a b)
          have : t = 0 ∨ t = 1 := by omega
          rcases this with rfl | rfl
          · exact no (by omega) h0
          · exact no (by omega) h1
        · rename_i h2
          split at h
          · rename_i h3
            obtain ⟨g1, g2⟩ := yes h3
            refine go f v k l 3 hf g1 g2 (fun t ht => ?_) hl hp (fun l' a b => ih _ _ l' (by omega) h a b)
            have : t = 0 ∨ t = 1 ∨ t = 2 := by omega
            rcases this with rfl | rfl | rfl
            · exact no (by omega) h0
            · exact no (by omega) h1
            · exact no (by omega) h2
          · exact stop v k l (f + 1) h hl hp

end Go.Proofs.YtgliajcgcbnemaaGreatDoor.Hx

namespace Go.Proofs.YtgliajcgcbnemaaGreatDoor.Hx
open Go.RowKit

theorem detZ2 (a b c d : Int) : detZ 2 [[a, b], [c, d]] = a * d - b * c := by
  have e : detZ 2 [[a, b], [c, d]] = 0 + 1 * (a * (0 + 1 * (d * 1))) + -1 * (b * (0 + 1 * (c * 1))) := rfl
  rw [e]
  simp only [Int.zero_add, Int.one_mul, Int.mul_one, Int.neg_mul, Int.sub_eq_add_neg]
theorem detZ3 (a b c d e f g h i : Int) : detZ 3 [[a, b, c], [d, e, f], [g, h, i]] = D3 a b c d e f g h i := by
  have e : detZ 3 [[a, b, c], [d, e, f], [g, h, i]] = 0 + 1 * (a * detZ 2 [[e, f], [h, i]]) + -1 * (b * detZ 2 [[d, f], [g, i]]) + 1 * (c * detZ 2 [[d, e], [g, h]]) := rfl
  rw [e, detZ2, detZ2, detZ2]
  unfold D3
  simp only [Int.zero_add, Int.one_mul, Int.neg_mul, Int.sub_eq_add_neg]
theorem detZ4 (a b c d e f g h i j k l m n o p : Int) : detZ 4 [[a, b, c, d], [e, f, g, h], [i, j, k, l], [m, n, o, p]] = a * D3 f g h j k l n o p - b * D3 e g h i k l m o p + c * D3 e f h i j l m n p - d * D3 e f g i j k m n o := by
  have e : detZ 4 [[a, b, c, d], [e, f, g, h], [i, j, k, l], [m, n, o, p]] = 0 + 1 * (a * detZ 3 [[f, g, h], [j, k, l], [n, o, p]]) + -1 * (b * detZ 3 [[e, g, h], [i, k, l], [m, o, p]]) + 1 * (c * detZ 3 [[e, f, h], [i, j, l], [m, n, p]]) + -1 * (d * detZ 3 [[e, f, g], [i, j, k], [m, n, o]]) := rfl
  rw [e, detZ3, detZ3, detZ3, detZ3]
  simp only [Int.zero_add, Int.one_mul, Int.neg_mul, Int.sub_eq_add_neg]

theorem dt_2 (c : List (List Int)) (m i j : Nat) (h : setB m = [(i : Int), (j : Int)]) : dt c m = ent c i i * ent c j j - ent c i j * ent c j i := by
  unfold dt
  rw [h]
  exact detZ2 _ _ _ _
theorem dt_3 (c : List (List Int)) (m i j k : Nat) (h : setB m = [(i : Int), (j : Int), (k : Int)]) : dt c m = D3 (ent c i i) (ent c i j) (ent c i k) (ent c j i) (ent c j j) (ent c j k) (ent c k i) (ent c k j) (ent c k k) := by
  unfold dt
  rw [h]
  exact detZ3 _ _ _ _ _ _ _ _ _
theorem dt_4 (c : List (List Int)) : dt c 15 = detZ 4 [[ent c 0 0, ent c 0 1, ent c 0 2, ent c 0 3], [ent c 1 0, ent c 1 1, ent c 1 2, ent c 1 3], [ent c 2 0, ent c 2 1, ent c 2 2, ent c 2 3], [ent c 3 0, ent c 3 1, ent c 3 2, ent c 3 3]] := rfl

theorem allPos_get {c : List (List Int)} (h : allPos c = true) (m : Nat) (h1 : 1 ≤ m) (h2 : m < 2 ^ c.length) : 0 < dt c m := by
  have := of_decide_eq_true (List.all_eq_true.1 h (m - 1) (List.mem_range.2 (by omega)))
  have e : m - 1 + 1 = m := by omega
  rw [e] at this
  exact this

theorem mem_opts {a b : Int} (ha : -3 ≤ a ∧ a ≤ 0) (hb : -3 ≤ b ∧ b ≤ 0) (hz : a = 0 → b = 0) (hz' : b = 0 → a = 0) (h : 0 < 2 * 2 - a * b) : (a, b) ∈ opts := by
  have h1 : a = 0 ∨ a = -1 ∨ a = -2 ∨ a = -3 := by omega
  have h2 : b = 0 ∨ b = -1 ∨ b = -2 ∨ b = -3 := by omega
  rcases h1 with rfl | rfl | rfl | rfl <;> rcases h2 with rfl | rfl | rfl | rfl <;> first
    | decide
    | (exfalso; omega)

theorem pair_opts {c : List (List Int)} (hC : Cartan c) (hp : allPos c = true) {i j m : Nat} (hi : i < c.length) (hj : j < c.length) (hij : i ≠ j) (h1 : 1 ≤ m) (h2 : m < 2 ^ c.length) (h : setB m = [(i : Int), (j : Int)]) : (ent c i j, ent c j i) ∈ opts := by
  have M := matOk hC
  have hd := allPos_get hp m h1 h2
  rw [dt_2 c m i j h, M.diag i hi, M.diag j hj] at hd
  exact mem_opts (M.off i j hi hj hij) (M.off j i hj hi (Ne.symm hij)) (M.zero i j hi hj) (M.zero j i hj hi) hd

theorem tri_pos {c : List (List Int)} (hC : Cartan c) (hp : allPos c = true) {i j k m : Nat} (hi : i < c.length) (hj : j < c.length) (hk : k < c.length) (h1 : 1 ≤ m) (h2 : m < 2 ^ c.length) (h : setB m = [(i : Int), (j : Int), (k : Int)]) : 0 < d3 (ent c i j, ent c j i) (ent c i k, ent c k i) (ent c j k, ent c k j) := by
  have M := matOk hC
  have hd := allPos_get hp m h1 h2
  rw [dt_3 c m i j k h, M.diag i hi, M.diag j hj, M.diag k hk] at hd
  exact hd

theorem ent_col {c : List (List Int)} (hC : Cartan c) {k j : Nat} (hj : c.length ≤ j) : ent c k j = 0 := by
  by_cases hk : k < c.length
  · unfold ent
    have := hC.row k hk
    have h2 : (c.getD k []).length ≤ j := by omega
    simp only [List.getD] at h2 ⊢
    rw [List.getElem?_eq_none h2]
    rfl
  · exact ent_off (by omega)

theorem fin_good {c : List (List Int)} (hC : Cartan c) (hp : allPos c = true) : good c.length (m6 c) = true := by
  have h1 := hC.pos
  have h4 := hC.le
  have z : ∀ i j, c.length ≤ j → ent c i j = 0 ∧ ent c j i = 0 := fun i j hj => ⟨ent_col hC hj, ent_off hj⟩
  have hn : c.length = 1 ∨ c.length = 2 ∨ c.length = 3 ∨ c.length = 4 := by omega
  rcases hn with hn | hn | hn | hn
  · have e : m6 c = ⟨z0, z0, z0, z0, z0, z0⟩ := by
      unfold m6 z0
      rw [(z 0 1 (by omega)).1, (z 0 1 (by omega)).2, (z 0 2 (by omega)).1, (z 0 2 (by omega)).2, (z 1 2 (by omega)).1, (z 1 2 (by omega)).2, (z 0 3 (by omega)).1, (z 0 3 (by omega)).2, (z 1 3 (by omega)).1, (z 1 3 (by omega)).2, (z 2 3 (by omega)).1, (z 2 3 (by omega)).2]
    rw [e, hn]
    exact chk1_ok
  · have e : m6 c = ⟨(ent c 0 1, ent c 1 0), z0, z0, z0, z0, z0⟩ := by
      unfold m6 z0
      rw [(z 0 2 (by omega)).1, (z 0 2 (by omega)).2, (z 1 2 (by omega)).1, (z 1 2 (by omega)).2, (z 0 3 (by omega)).1, (z 0 3 (by omega)).2, (z 1 3 (by omega)).1, (z 1 3 (by omega)).2, (z 2 3 (by omega)).1, (z 2 3 (by omega)).2]
    rw [e, hn]
    exact List.all_eq_true.1 chk2_ok _ (pair_opts hC hp (i := 0) (j := 1) (m := 3) (by omega) (by omega) (by omega) (by omega) (by rw [hn]; decide) (by decide))
  · have e : m6 c = ⟨(ent c 0 1, ent c 1 0), (ent c 0 2, ent c 2 0), (ent c 1 2, ent c 2 1), z0, z0, z0⟩ := by
      unfold m6 z0
      rw [(z 0 3 (by omega)).1, (z 0 3 (by omega)).2, (z 1 3 (by omega)).1, (z 1 3 (by omega)).2, (z 2 3 (by omega)).1, (z 2 3 (by omega)).2]
    have k := List.all_eq_true.1 (List.all_eq_true.1 (List.all_eq_true.1 chk3_ok _ (pair_opts hC hp (i := 0) (j := 1) (m := 3) (by omega) (by omega) (by omega) (by omega) (by rw [hn]; decide) (by decide))) _ (pair_opts hC hp (i := 0) (j := 2) (m := 5) (by omega) (by omega) (by omega) (by omega) (by rw [hn]; decide) (by decide))) _ (pair_opts hC hp (i := 1) (j := 2) (m := 6) (by omega) (by omega) (by omega) (by omega) (by rw [hn]; decide) (by decide))
    have t := tri_pos hC hp (i := 0) (j := 1) (k := 2) (m := 7) (by omega) (by omega) (by omega) (by omega) (by rw [hn]; decide) (by decide)
    rw [decide_eq_true t, Bool.not_true, Bool.false_or] at k
    rw [e, hn]
    exact k
  · have o := fun (i j m : Nat) (hi : i < 4) (hj : j < 4) (hij : i ≠ j) (h1 : 1 ≤ m) (h2 : m < 16) (h : setB m = [(i : Int), (j : Int)]) => pair_opts hC hp (i := i) (j := j) (m := m) (by omega) (by omega) hij h1 (by rw [hn]; exact h2) h
    have t := fun (i j k m : Nat) (hi : i < 4) (hj : j < 4) (hk : k < 4) (h1 : 1 ≤ m) (h2 : m < 16) (h : setB m = [(i : Int), (j : Int), (k : Int)]) => tri_pos hC hp (i := i) (j := j) (k := k) (m := m) (by omega) (by omega) (by omega) h1 (by rw [hn]; exact h2) h
    have k1 := List.all_eq_true.1 (List.all_eq_true.1 (List.all_eq_true.1 chk4_ok _ (o 0 1 3 (by omega) (by omega) (by omega) (by omega) (by omega) (by decide))) _ (o 0 2 5 (by omega) (by omega) (by omega) (by omega) (by omega) (by decide))) _ (o 1 2 6 (by omega) (by omega) (by omega) (by omega) (by omega) (by decide))
    rw [decide_eq_true (t 0 1 2 7 (by omega) (by omega) (by omega) (by omega) (by omega) (by decide)), Bool.not_true, Bool.false_or] at k1
    have k2 := List.all_eq_true.1 (List.all_eq_true.1 k1 _ (o 0 3 9 (by omega) (by omega) (by omega) (by omega) (by omega) (by decide))) _ (o 1 3 10 (by omega) (by omega) (by omega) (by omega) (by omega) (by decide))
    rw [decide_eq_true (t 0 1 3 11 (by omega) (by omega) (by omega) (by omega) (by omega) (by decide)), Bool.not_true, Bool.false_or] at k2
    have k3 := List.all_eq_true.1 k2 _ (o 2 3 12 (by omega) (by omega) (by omega) (by omega) (by omega) (by decide))
    have q := allPos_get hp 15 (by omega) (by rw [hn]; decide)
    have M := matOk hC
    rw [dt_4, detZ4, M.diag 0 (by omega), M.diag 1 (by omega), M.diag 2 (by omega), M.diag 3 (by omega)] at q
    have q' : 0 < d4 (ent c 0 1, ent c 1 0) (ent c 0 2, ent c 2 0) (ent c 1 2, ent c 2 1) (ent c 0 3, ent c 3 0) (ent c 1 3, ent c 3 1) (ent c 2 3, ent c 3 2) := q
    rw [decide_eq_true (t 0 2 3 13 (by omega) (by omega) (by omega) (by omega) (by omega) (by decide)), decide_eq_true (t 1 2 3 14 (by omega) (by omega) (by omega) (by omega) (by omega) (by decide)), decide_eq_true q', Bool.not_true, Bool.false_or, Bool.false_or, Bool.false_or] at k3
    rw [hn]
    exact k3

/-- The opposite of rho. -/
def opp (c : List (List Int)) : List Int := List.replicate c.length (-1)
theorem opp_len (c : List (List Int)) : (opp c).length = c.length := by simp [opp]
def longest (c : List (List Int)) : List Int := nf c 31 (opp c)

theorem eqV_iff {x y : V4} (h : eqV x y = true) : x = y := by
  simp only [eqV, Bool.and_eq_true, beq_iff_eq] at h
  obtain ⟨a, b, c, d⟩ := x
  obtain ⟨a', b', c', d'⟩ := y
  simp only at h
  obtain ⟨⟨⟨rfl, rfl⟩, rfl⟩, rfl⟩ := h
  rfl
theorem last_one {n : Nat} {m : M6} {k : V4 → V4} {v : V4} (h : last n m k v = true) : v = one4 := by
  simp only [last, Bool.and_eq_true] at h
  exact eqV_iff h.1.1.1.1
theorem hitV_at {n : Nat} {m : M6} {x : V4} (h : hitV n m x = true) : ∃ k, k < n ∧ x = stp m k (mone n) := by
  simp only [hitV, Bool.or_eq_true, Bool.and_eq_true, Nat.blt_eq] at h
  rcases h with ((h | h) | h) | h
  · exact ⟨0, h.1, eqV_iff h.2⟩
  · exact ⟨1, h.1, eqV_iff h.2⟩
  · exact ⟨2, h.1, eqV_iff h.2⟩
  · exact ⟨3, h.1, eqV_iff h.2⟩
theorem last_hit {n : Nat} {m : M6} {k : V4 → V4} {v : V4} (h : last n m k v = true) (hn : n ≤ 4) {i : Nat} (hi : i < n) : ∃ t, t < n ∧ k (stp m i one4) = stp m t (mone n) := by
  simp only [last, Bool.and_eq_true, Bool.or_eq_true, Bool.not_eq_true'] at h
  obtain ⟨⟨⟨⟨_, h0⟩, h1⟩, h2⟩, h3⟩ := h
  have no : ∀ {t : Nat}, t < n → Nat.blt t n = false → False := fun {t} ht hb => by
    have : Nat.blt t n = true := by rw [Nat.blt_eq]; exact ht
    rw [this] at hb
    cases hb
  have hi4 : i = 0 ∨ i = 1 ∨ i = 2 ∨ i = 3 := by omega
  rcases hi4 with rfl | rfl | rfl | rfl
  · exact hitV_at (h0.resolve_left (fun e => no hi e))
  · exact hitV_at (h1.resolve_left (fun e => no hi e))
  · exact hitV_at (h2.resolve_left (fun e => no hi e))
  · exact hitV_at (h3.resolve_left (fun e => no hi e))
theorem pos_opp {c : List (List Int)} (hC : Cartan c) : posOf (opp c) = cvt c.length (mone c.length) := by
  have h4 := hC.le
  funext k
  unfold cvt
  by_cases hk : k < c.length
  · rw [if_pos hk]
    have : k = 0 ∨ k = 1 ∨ k = 2 ∨ k = 3 := by omega
    rcases this with rfl | rfl | rfl | rfl <;> simp [posOf, opp, crd, mone, List.getD, hk]
  · rw [if_neg hk]
    have : c.length ≤ k := by omega
    simp [posOf, opp, List.getD, this]
theorem pos_one {c : List (List Int)} (hC : Cartan c) : posOf (List.replicate c.length 1) = cvt c.length one4 := by
  have h4 := hC.le
  funext k
  unfold cvt
  by_cases hk : k < c.length
  · rw [if_pos hk]
    have : k = 0 ∨ k = 1 ∨ k = 2 ∨ k = 3 := by omega
    rcases this with rfl | rfl | rfl | rfl <;> simp [posOf, crd, one4, List.getD, hk]
  · rw [if_neg hk]
    have : c.length ≤ k := by omega
    simp [posOf, List.getD, this]

/-- The opposite of rho leads to rho. -/
theorem fin_run {c : List (List Int)} (hC : Cartan c) (hp : allPos c = true) : ∃ w : List Nat, w.length ≤ 30 ∧ PlayL c w.length (opp c) ∧ longest c = w.map (fun (i : Nat) => (i : Int)) ∧ (∀ i, i ∈ w → i < c.length) ∧ last c.length (m6 c) (fun x => acts (m6 c) w x) one4 = true := by
  have h := fin_good hC hp
  unfold good at h
  obtain ⟨w, h1, h2, h3, h4, h5⟩ := run_sound (K := last c.length (m6 c)) hC (fun k v h => last_one h) 30 (mone c.length) id (opp c) (Nat.le_refl 30) h (opp_len c) (pos_opp hC)
  refine ⟨w, h1, h2, h3, h4, ?_⟩
  have e : (fun x => id (acts (m6 c) w x)) = fun x => acts (m6 c) w x := rfl
  rw [e] at h5
  exact h5

end Go.Proofs.YtgliajcgcbnemaaGreatDoor.Hx

namespace Go.Proofs.YtgliajcgcbnemaaGreatDoor.Hx
open Go.RowKit
variable {dm : Bool}

def longestE (c : List (List Int)) : List Int := if isFinite c then longest c else []
theorem longestE_off {c : List (List Int)} (h : isFinite c = false) : longestE c = [] := by simp [longestE, h]
theorem longestE_on {c : List (List Int)} (h : isFinite c = true) : longestE c = longest c := by simp [longestE, h]
theorem nf_le (c : List (List Int)) : ∀ (f : Nat) (v : List Int), (nf c f v).length ≤ f
  | 0, v => by rw [nf_zero]; exact Nat.le_refl _
  | f + 1, v => by
    rw [nf]
    split
    · have := nf_le c f (reflW c (fd v) v)
      simp only [List.length_cons]
      omega
    · simp
theorem longestE_le (c : List (List Int)) : (longestE c).length ≤ 31 := by
  unfold longestE
  split
  · exact nf_le c 31 _
  · simp
theorem fin_parts {c : List (List Int)} (h : isFinite c = true) : Cartan c ∧ allPos c = true := by
  simp only [isFinite, Bool.and_eq_true] at h
  exact ⟨(isCartan_iff c).1 h.1, h.2⟩
def mixTo (n k : Nat) : List Int := (List.range n).map fun t => if t < k then (-1 : Int) else 1
theorem mixTo_len (n k : Nat) : (mixTo n k).length = n := by simp [mixTo]
theorem mixTo_none (n : Nat) : mixTo n 0 = List.replicate n 1 := by
  apply List.ext_getElem (by simp [mixTo])
  intro k h1 h2
  simp [mixTo]
theorem mixTo_all (c : List (List Int)) : mixTo c.length c.length = opp c := by
  apply List.ext_getElem (by simp [mixTo, opp])
  intro k h1 h2
  simp [mixTo] at h1
  simp [mixTo, opp, h1]
theorem mixTo_succ (n k : Nat) : (mixTo n k).set k (-1) = mixTo n (k + 1) := by
  apply List.ext_getElem (by simp [mixTo])
  intro t h1 h2
  simp only [mixTo, List.getElem_set, List.getElem_map, List.getElem_range]
  by_cases e : k = t
  · subst e
    simp
  · rw [if_neg e]
    by_cases hk : t < k
    · rw [if_pos hk, if_pos (by omega)]
    · rw [if_neg hk, if_neg (by omega)]
theorem mones_snoc (k : Nat) : List.replicate (k + 1) (-1 : Int) = List.replicate k (-1) ++ [-1] := List.replicate_succ'
theorem mones_len (k : Nat) : (List.replicate k (-1 : Int)).length = k := by simp
theorem opp_def (c : List (List Int)) : List.replicate c.length (-1 : Int) = opp c := rfl
theorem longest_def (c : List (List Int)) : nf c 31 (opp c) = longest c := rfl

set_option smartUnfolding false

end Go.Proofs.YtgliajcgcbnemaaGreatDoor.Hx
