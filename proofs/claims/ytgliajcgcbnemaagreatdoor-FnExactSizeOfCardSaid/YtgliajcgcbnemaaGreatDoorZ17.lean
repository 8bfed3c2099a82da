/-
  The names of parts, of the program; the names of matrices, of both sides.
  Contracts of orders of elements, of the program and of the reference.
  Finite types: from the opposite of rho the game of signs leads to rho within thirty steps, and the longest element takes each simple reflection of rho to one of its opposite. Found by looking at all matrices of at most four points; plain theory.
  Finite types: what the look at all matrices says of a valid matrix whose principal minors are positive.
  Contracts of the longest element, of the program and of the reference.
  Sizes by names, of both sides; the size of a matrix's group.
  From the model's readings of arguments to rows: a slice of ints that came in; and the end of a law: true, memory below as it was.
  From the model's readings of arguments to rows: a slice of slices of ints that came in.
-/
import Derived.Test.YtgliajcgcbnemaaGreatDoorZ16
import Derived.ProofKit
namespace Go.Proofs.YtgliajcgcbnemaaGreatDoor.Hx
open Go.RowKit
variable {dm : Bool}

/-! ### The parts of a matrix -/

theorem partsC_mem {c : List (List Int)} (hic : isCartan c = true) {k : Nat} (hk : k < (partsC c).length) : ∃ i, i < c.length ∧ (partsC c).getD k [] = partL c i := by
  have e : (partsC c).getD k [] = (partsC c)[k] := by simp [List.getD, hk]
  have hm := List.getElem_mem hk
  rw [← e] at hm
  generalize (partsC c).getD k [] = p at *
  rw [partsC_on hic] at hm
  unfold partsTo at hm
  obtain ⟨i, hi, rfl⟩ := List.mem_map.1 hm
  exact ⟨i, List.mem_range.1 (List.mem_filter.1 hi).1, rfl⟩
theorem partsC_le (c : List (List Int)) : (partsC c).length ≤ c.length := by
  unfold partsC
  split
  · exact partsTo_len c _
  · simp
structure PartOk (c : List (List Int)) (o : List Int) : Prop where
  rng : ∀ k, k < o.length → 0 ≤ o.getD k 0 ∧ o.getD k 0 < c.length
  asc : ∀ k, k < o.length → k = 0 ∨ o.getD (k - 1) 0 < o.getD k 0
  le : o.length ≤ 4
  ne : o.length ≠ 0
  cart : isCartan (subM c o) = true
  conn : isConn (subM c o) = true
theorem part_ok {c : List (List Int)} (hic : isCartan c = true) {k : Nat} (hk : k < (partsC c).length) : PartOk c ((partsC c).getD k []) := by
  have hC := (isCartan_iff c).1 hic
  have h4 := hC.le
  obtain ⟨i, hi, e⟩ := partsC_mem hic hk
  rw [e]
  obtain ⟨h1, h2⟩ := part_conn hC hi
  have hl := partL_len c i
  have hp := partL_pos hi
  have hs : (partL c i).Pairwise (· < ·) := partTo_sorted c i c.length
  refine ⟨fun k hk => ?_, fun k hk => ?_, by omega, by omega, (isCartan_iff _).2 h1, h2⟩
  · obtain ⟨p, e2, hp⟩ := (partL_ok c i).at hk
    omega
  · by_cases h0 : k = 0
    · exact Or.inl h0
    · right
      have := List.pairwise_iff_getElem.1 hs (k - 1) k (by omega) hk (by omega)
      have e1 : (partL c i).getD (k - 1) 0 = (partL c i)[k - 1] := by simp [List.getD, show k - 1 < (partL c i).length by omega]
      have e2 : (partL c i).getD k 0 = (partL c i)[k] := by simp [List.getD, hk]
      rw [e1, e2]
      exact this

/-- The name of a part. -/
noncomputable def nameQ (c : List (List Int)) (o : List Int) : List UInt8 := nameP (subM c o)
noncomputable def nameOf (c : List (List Int)) : List UInt8 := Lib.join ((partsC c).map (nameQ c)) [120]
theorem nameTo_le {c : List (List Int)} (k : Nat) : (Lib.join (((partsC c).take k).map (nameQ c)) [120]).length ≤ 4 * k := by
  have := join_le (b := 3) [120] (by simp) (((partsC c).take k).map (nameQ c)) (fun x hx => by
    obtain ⟨o, _, rfl⟩ := List.mem_map.1 hx
    exact (nameP_short _).1)
  simp only [List.length_map, List.length_take] at this
  have h2 : min k (partsC c).length ≤ k := Nat.min_le_left _ _
  have h3 := Nat.mul_le_mul_left 4 h2
  omega


set_option maxHeartbeats 1000000 in
theorem impl_NameOfPart (h : Heap) (x : H0) (c : List (List Int)) (hx : Rows h x c) (hic : isCartan c = true) (hcn : isConn c = true) :
    HCalls dm Tryz.prog 138 [.s x] h (fun r h' => r = Tx (nameP c) ∧ Ext h h') := by
  have hC := (isCartan_iff c).1 hic
  have h4 := hC.le
  have hln : (namesT.map cst).length = 17 := rfl
  obtain ⟨V, hV⟩ : ∃ V, V = nameP c := ⟨_, rfl⟩
  rw [← hV]
  refine calls_of_hFun (m := 0) kd_ok mixed Tryz.func138 rfl (by kernel_rfl) rfl rfl (of_decide_eq_true rfl) ?_; unfold hFun; (conv => whnf)
  refine (impl_IsConnected _ _ c hx (by omega)).mono ?_
  rintro r h0 ⟨rfl, E0⟩
  rw [hcn]
  (conv => whnf)
  refine HIf.no ?_
  (conv => whnf)
  refine (show HCalls _ _ _ [Tx typeS, Tx [32]] _ _ from (lib_Split _ typeS 32 (by decide)).mono ?_)
  rintro r h1 ⟨rfl, rfl⟩
  rw [typeS_cut, typeS_len]
  have E1 : Ext h (h0 ++ [Row.own (namesT.map cst)]) := E0.pushed _
  have S1 := Strs.new h0 namesT
  have e17 : namesT.length = 17 := rfl
  rw [e17] at S1 ⊢
  generalize H0.sl h0.length 0 17 = y at *
  generalize h0 ++ [Row.own (namesT.map cst)] = h1 at *
  (conv => whnf)
  refine ⟨rfl, Shows.len S1 ?_⟩
  rw [hln]
  (conv => whnf)
  refine HLoop.intro [14] [15, 16, 17, 4, 19, 20, 18, 21, 22, 5, 6, 24, 25, 26, 23, 27, 28, 7, 8, 29, 30, 2, 31, 14] (by kernel_rfl) (by kernel_rfl) (fun vs h' => ∃ k : Nat, vs = [I k] ∧ k ≤ 17 ∧ Ext h1 h' ∧ V = nameIn (isoB c) (typeL.drop k)) (fun vs _ => 17 - natAt vs 0) ⟨0, rfl, by omega, Ext.refl h1, hV⟩ ?_
  rintro vs h' ⟨k, rfl, hk, E, hnm⟩
  have S := Shows.ext S1 E
  have Eh := E1.trans E
  (conv => whnf)
  refine HIf.dec (fun hlt => ?_) (fun hge => ?_)
  · have hk17 : k < 17 := by omega
    have hst := nameIn_step (isoB c) hk17
    have ecell := name_cell hk17
    have hm := ty_mem hk17
    have hone := fun p hp => ty_one p hp k hk17
    have hcar := ty_cart _ hm
    rw [← hnm] at hst
    generalize namesT.map cst = NM at *
    generalize hr : nameIn (isoB c) (typeL.drop (k + 1)) = rest at *
    generalize tyAt k = t at *
    obtain ⟨s, M⟩ := t
    have hsn : s ∈ namesT := ty_names _ hm
    (conv => whnf)
    refine ⟨rfl, Shows.idx S (by omega) (by omega) (fun p hp => ?_)⟩
    rw [ecell] at hp
    (conv => whnf)
    refine ⟨rfl, hp.load ?_⟩
    (conv => whnf)
    refine (impl_TypeCartan _ s hsn).mono ?_
    rintro r h2 ⟨y2, L, rfl, E2, O2, hL⟩
    obtain rfl : L = M := congrArg Prod.snd (hone _ hL rfl)
    (conv => whnf)
    refine (impl_AreIsomorphic _ _ _ _ _ (hx.ext (Eh.trans E2)) O2.rows hic hcar).mono ?_
    rintro r h3 ⟨y3, rfl, E3⟩
    have E23 := E2.trans E3
    (conv => whnf)
    cases hb : isoB c L
    · refine HIf.no ?_
      (conv => whnf)
      refine HArith.fits (by omega) (by omega) ?_
      (conv => whnf)
      exact ⟨⟨k + 1, rfl, by omega, E.trans E23, by rw [hst, hr]; simp only [hb, Bool.false_eq_true, if_false]⟩, by show 17 - (k + 1) < 17 - k; omega⟩
    · refine HIf.yes ?_
      (conv => whnf)
      refine ⟨?_, Eh.trans E23⟩
      rw [hst]
      simp only [hb, if_true]
      exact ty_text s
  · have ek : k = 17 := by omega
    subst ek
    (conv => whnf)
    refine ⟨?_, Eh⟩
    rw [hnm, nameIn_end]
    rfl

set_option maxHeartbeats 1000000 in
theorem spec_NameOf (h : Heap) (x : H0) (c : List (List Int)) (hx : Rows h x c) (hic : isCartan c = true) :
    HCalls dm Tryz.prog 75 [.s x] h (fun r h' => r = Tx (nameOf c) ∧ Ext h h') := by
  have hC := (isCartan_iff c).1 hic
  have h4 := hC.le
  have hpl := partsC_le c
  refine calls_of_hFun (m := 0) kd_ok mixed Tryz.func75 rfl (by kernel_rfl) rfl rfl (of_decide_eq_true rfl) ?_; unfold hFun; (conv => whnf)
  refine (spec_PartsOf _ _ c hx (by omega)).mono ?_
  rintro r h1 ⟨y, rfl, E1, O1⟩
  have hpk := fun k hk => part_ok hic (k := k) hk
  have hle := fun k => nameTo_le (c := c) k
  have hfirst := join_first (nameQ c) [120] (partsC c)
  have htake := fun k h h0 => join_take (nameQ c) [120] (partsC c) (k := k) h h0
  have hall : nameOf c = Lib.join (((partsC c).take (partsC c).length).map (nameQ c)) [120] := by rw [List.take_length]; rfl
  have hQ : ∀ o, nameQ c o = nameP (subM c o) := fun o => rfl
  have hget : ∀ k (hk : k < (partsC c).length), (partsC c)[k] = (partsC c).getD k [] := fun k hk => by simp [List.getD, hk]
  generalize nameOf c = V at *
  generalize partsC c = Ps at *
  (conv => whnf)
  refine HLoop.intro [5, 4] [10, 11, 12, 13, 16, 17, 18, 19, 4, 21, 22, 23, 24, 25, 26, 20, 27, 28, 6, 7, 29, 30, 31, 32, 4, 14, 15, 5] (by kernel_rfl) (by kernel_rfl) (fun vs h' => ∃ (k : Nat) (s : List UInt8), vs = [I k, Tx s] ∧ k ≤ Ps.length ∧ Ext h1 h' ∧ s = Lib.join ((Ps.take k).map (nameQ c)) [120]) (fun vs _ => Ps.length - natAt vs 0) ⟨0, [], rfl, by omega, Ext.refl h1, by simp [Lib.join_nil]⟩ ?_
  rintro vs h' ⟨k, s, rfl, hk, E, hs⟩
  have hsl : s.length ≤ 4 * k := by rw [hs]; exact hle k
  have O := O1.ext E
  have Eh := E1.trans E
  (conv => whnf)
  refine ⟨rfl, O.rows.len ?_⟩
  (conv => whnf)
  refine HIf.dec (fun hlt => ?_) (fun hge => ?_)
  · have hkl : k < Ps.length := by omega
    have ok := hpk k hkl
    have hg := hget k hkl
    have hsh := nameP_short (subM c (Ps.getD k []))
    have hQk := hQ (Ps.getD k [])
    have hnx : ∀ {K : HV → Prop}, K (Tx (Lib.join ((Ps.take (k + 1)).map (nameQ c)) [120])) → K (Tx (if 0 < k then s ++ [120] ++ nameP (subM c (Ps.getD k [])) else nameP (subM c (Ps.getD k [])))) := fun {K} hK => by
      by_cases h0 : 0 < k
      · rw [if_pos h0]
        rw [htake k hkl h0, ← hs, hg, hQk] at hK
        exact hK
      · have e0 : k = 0 := by omega
        subst e0
        rw [if_neg h0]
        rw [hfirst hkl, hg, hQk] at hK
        exact hK
    generalize hgo : Ps.getD k [] = o at *
    (conv => whnf)
    refine HIf.dec (fun h0 => ?_) (fun h0 => ?_)
    · (conv => whnf)
      refine HStr.add (a := s) (b := [120]) (by rw [List.length_singleton]; omega) ?_
      (conv => whnf)
      refine ⟨rfl, O.rows.idxN hkl (fun p z hp hz => ?_)⟩
      rw [hgo] at hz
      (conv => whnf)
      refine ⟨rfl, hp.load ?_⟩
      (conv => whnf)
      refine (spec_SubCartan _ _ c _ o (hx.ext Eh) hz hic ok.rng ok.asc ok.le ok.ne).mono ?_
      rintro r h2 ⟨y2, rfl, E2, O2⟩
      rw [pick_sub] at O2
      (conv => whnf)
      refine (spec_NameOfPart _ _ _ O2.rows ok.cart ok.conn).mono ?_
      rintro r h3 ⟨rfl, E3⟩
      (conv => whnf)
      refine HStr.add (a := s ++ [120]) (b := nameP (subM c o)) (by rw [List.length_append, List.length_singleton]; omega) ?_
      (conv => whnf)
      refine HArith.fits (by omega) (by omega) ?_
      (conv => whnf)
      exact ⟨⟨k + 1, _, rfl, by omega, E.trans (E2.trans E3), by
        have := @hnx (fun v => v = Tx (Lib.join ((Ps.take (k + 1)).map (nameQ c)) [120])) rfl
        rw [if_pos (by omega)] at this
        simpa using this⟩, by show Ps.length - (k + 1) < Ps.length - k; omega⟩
    · (conv => whnf)
      have e0 : k = 0 := by omega
      have es : s = [] := by rw [hs, e0]; simp [Lib.join_nil]
      refine ⟨rfl, O.rows.idxN hkl (fun p z hp hz => ?_)⟩
      rw [hgo] at hz
      (conv => whnf)
      refine ⟨rfl, hp.load ?_⟩
      (conv => whnf)
      refine (spec_SubCartan _ _ c _ o (hx.ext Eh) hz hic ok.rng ok.asc ok.le ok.ne).mono ?_
      rintro r h2 ⟨y2, rfl, E2, O2⟩
      rw [pick_sub] at O2
      (conv => whnf)
      refine (spec_NameOfPart _ _ _ O2.rows ok.cart ok.conn).mono ?_
      rintro r h3 ⟨rfl, E3⟩
      (conv => whnf)
      refine HStr.add (a := s) (b := nameP (subM c o)) (by omega) ?_
      (conv => whnf)
      refine HArith.fits (by omega) (by omega) ?_
      (conv => whnf)
      exact ⟨⟨k + 1, _, rfl, by omega, E.trans (E2.trans E3), by
        have := @hnx (fun v => v = Tx (Lib.join ((Ps.take (k + 1)).map (nameQ c)) [120])) rfl
        rw [if_neg (by omega)] at this
        rw [es, List.nil_append]
        simpa using this⟩, by show Ps.length - (k + 1) < Ps.length - k; omega⟩
  · have ek : k = Ps.length := by omega
    subst ek
    obtain rfl : V = s := by rw [hs, hall]
    (conv => whnf)
    exact ⟨rfl, Eh⟩

set_option maxHeartbeats 1000000 in
theorem impl_NameOf (h : Heap) (x : H0) (c : List (List Int)) (hx : Rows h x c) (hic : isCartan c = true) :
    HCalls false Tryz.prog 79 [.s x] h (fun r h' => r = Tx (nameOf c) ∧ Ext h h') := by
  have hC := (isCartan_iff c).1 hic
  have h4 := hC.le
  have hpl := partsC_le c
  have E0 := Ext.push h [Row.own []]
  refine calls_of_hFun (m := 0) kd_ok mixed Tryz.func79 rfl (by kernel_rfl) rfl rfl (of_decide_eq_true rfl) ?_; unfold hFun; (conv => whnf)
  refine HLit.empty ?_
  (conv => whnf)
  refine (impl_PartsOf _ _ c (hx.ext E0) (by omega)).mono ?_
  rintro r h1 ⟨y, rfl, E1, O1⟩
  have hpk := fun k hk => part_ok hic (k := k) hk
  have hle := nameTo_le (c := c) (partsC c).length
  have hall : nameOf c = Lib.join ((partsC c).map (nameQ c)) [120] := rfl
  have hQ : ∀ o, nameQ c o = nameP (subM c o) := fun o => rfl
  rw [List.take_length] at hle
  generalize nameOf c = V at *
  generalize partsC c = Ps at *
  have E01 := E0.trans E1
  have hrow := E1.row (get_new h (Row.own []))
  have M1 := O1.matP
  have hn0 : (h ++ [Row.own []]).length = h.length + 1 := by simp
  rw [hn0] at M1
  (conv => whnf)
  refine ⟨rfl, O1.rows.len ?_⟩
  (conv => whnf)
  refine HLoop.intro [10, 3] [11, 12, 13, 5, 14, 15, 16, 17, 18, 19, 20, 3, 21, 10] (by kernel_rfl) (by kernel_rfl) (fun vs h' => ∃ (k r : Nat), vs = [I k, .s (.sl r 0 k)] ∧ k ≤ Ps.length ∧ Ext h h' ∧ h1.length ≤ h'.length ∧ MatP (fun p => h.length + 1 ≤ p ∧ p < h1.length) h' y Ps ∧ (r = h.length ∨ h1.length ≤ r) ∧ h'[r]? = some (.own (((Ps.take k).map (nameQ c)).map stc))) (fun vs _ => Ps.length - natAt vs 0) ⟨0, h.length, rfl, by omega, E01, Nat.le_refl _, M1, Or.inl rfl, hrow⟩ ?_
  have hE01 := E01.1
  clear hrow E01 M1
  rintro vs h' ⟨k, r, rfl, hk, E, hl1, M, hr, hcs⟩
  (conv => whnf)
  refine HIf.dec (fun hlt => ?_) (fun hge => ?_)
  · have hkl : k < Ps.length := by omega
    have ok := hpk k hkl
    have htk : (Ps.take (k + 1)).map (nameQ c) = (Ps.take k).map (nameQ c) ++ [nameQ c (Ps.getD k [])] := by
      rw [List.take_succ_eq_append_getElem hkl, List.map_append]
      have e : Ps.getD k [] = Ps[k] := by simp [List.getD, hkl]
      rw [e]
      rfl
    have hkn : ((Ps.take k).map (nameQ c)).length = k := by simp; omega
    have hQk := hQ (Ps.getD k [])
    generalize hgo : Ps.getD k [] = o at *
    (conv => whnf)
    refine ⟨rfl, M.rows.idxN hkl (fun p z hp hz => ?_)⟩
    rw [hgo] at hz
    (conv => whnf)
    refine ⟨rfl, hp.load ?_⟩
    (conv => whnf)
    refine (impl_picked _ _ c _ o (hx.ext E) hz hC ok.rng ok.le).mono ?_
    rintro r2 h2 ⟨y2, rfl, E2, O2⟩
    rw [pick_sub] at O2
    (conv => whnf)
    refine (impl_NameOfPart _ _ _ O2.rows ok.cart ok.conn).mono ?_
    rintro r3 h3 ⟨rfl, E3⟩
    rw [← hQk]
    (conv => whnf)
    refine HLit.row (y := stc (nameQ c o)) rfl ?_
    (conv => whnf)
    have E23 := E2.trans E3
    have hE := E.1
    have hE23 := E23.1
    have M3 := M.ext E23
    replace hcs := E23.row hcs
    replace E := E.trans E23
    have hrl := get_lt hcs
    refine ⟨rfl, rfl, HApp.text (by rw [List.getElem?_append_left (by omega)]; exact hcs) (get_new _ _) hkn (by omega) ?_⟩
    rw [← htk]
    have E4 : Ext h ((h3 ++ [Row.own [stc (nameQ c o)]]).set r Row.gone ++ [Row.own (((Ps.take (k + 1)).map (nameQ c)).map stc)]) := ((E.pushed _).set (by omega) _).pushed _
    have hnew := get_new ((h3 ++ [Row.own [stc (nameQ c o)]]).set r Row.gone) (Row.own (((Ps.take (k + 1)).map (nameQ c)).map stc))
    rw [List.length_set] at hnew
    have M4 : MatP (fun p => h.length + 1 ≤ p ∧ p < h1.length) ((h3 ++ [Row.own [stc (nameQ c o)]]).set r Row.gone ++ [Row.own (((Ps.take (k + 1)).map (nameQ c)).map stc)]) y Ps := M3.keep fun p hp hs => by
      rw [List.getElem?_append_left (by simp; omega), List.getElem?_set_ne (by omega), List.getElem?_append_left hp]
    have hnl : h1.length ≤ (h3 ++ [Row.own [stc (nameQ c o)]]).length := by simp; omega
    have hnl2 : h1.length ≤ ((h3 ++ [Row.own [stc (nameQ c o)]]).set r Row.gone ++ [Row.own (((Ps.take (k + 1)).map (nameQ c)).map stc)]).length := by simp; omega
    generalize (h3 ++ [Row.own [stc (nameQ c o)]]).length = N at *
    generalize (h3 ++ [Row.own [stc (nameQ c o)]]).set r Row.gone ++ [Row.own (((Ps.take (k + 1)).map (nameQ c)).map stc)] = h4 at *
    (conv => whnf)
    refine HArith.fits (by omega) (by omega) ?_
    (conv => whnf)
    exact ⟨⟨k + 1, N, rfl, by omega, E4, hnl2, M4, Or.inr hnl, hnew⟩, by show Ps.length - (k + 1) < Ps.length - k; omega⟩
  · have ek : k = Ps.length := by omega
    subst ek
    rw [List.take_length] at hcs
    have hj := lib_Join h' r (Ps.map (nameQ c)) [120] [] (by rw [List.append_nil]; exact hcs) (by simp; omega) (by omega)
    rw [List.length_map] at hj
    (conv => whnf)
    refine hj.mono ?_
    rintro r2 h2 ⟨rfl, rfl⟩
    rw [hall]
    (conv => whnf)
    exact ⟨rfl, E⟩

end Go.Proofs.YtgliajcgcbnemaaGreatDoor.Hx

namespace Go.Proofs.YtgliajcgcbnemaaGreatDoor.Hx
open Go.RowKit
variable {dm : Bool}

def ordF (c : List (List Int)) (w : List Int) : Nat → List Int → Nat → Int
  | 0, _, _ => 0
  | f + 1, p, k => if (normF c (p ++ w)).length = 0 then (k : Int) else if 15 < (normF c (p ++ w)).length then 0 else ordF c w f (normF c (p ++ w)) (k + 1)
def ordG (c : List (List Int)) (w : List Int) (f : Nat) (y : List Int) (k : Nat) : Int := if y.length = 0 then (k : Int) else if 15 < y.length then 0 else ordF c w f y (k + 1)
def orderOf (c : List (List Int)) (w : List Int) : Int := if isWord c w && (isFinite c || decide ((normF c w).length ≤ 7)) then ordF c w 60 [] 1 else 0

end Go.Proofs.YtgliajcgcbnemaaGreatDoor.Hx

namespace Go.Proofs.YtgliajcgcbnemaaGreatDoor.Hx
open Go.RowKit

abbrev IP := Int × Int
def D3 (a b c d e f g h i : Int) : Int := a * (e * i - f * h) - b * (d * i - f * g) + c * (d * h - e * g)
def opts : List IP := [(0, 0), (-1, -1), (-1, -2), (-2, -1), (-1, -3), (-3, -1)]
def d3 (p q r : IP) : Int := D3 2 p.1 q.1 p.2 2 r.1 q.2 r.2 2
def d4 (p q r s t u : IP) : Int := 2 * D3 2 r.1 t.1 r.2 2 u.1 t.2 u.2 2 - p.1 * D3 p.2 r.1 t.1 q.2 2 u.1 s.2 u.2 2 + q.1 * D3 p.2 2 t.1 q.2 r.2 u.1 s.2 t.2 2 - s.1 * D3 p.2 2 r.1 q.2 r.2 2 s.2 t.2 u.2
structure V4 where
  a : Int
  b : Int
  c : Int
  d : Int
structure M6 where
  p : IP
  q : IP
  r : IP
  s : IP
  t : IP
  u : IP
def st1 (m : M6) (v : V4) : V4 := ⟨v.a - v.a * 2, v.b - v.a * m.p.2, v.c - v.a * m.q.2, v.d - v.a * m.s.2⟩
def st2 (m : M6) (v : V4) : V4 := ⟨v.a - v.b * m.p.1, v.b - v.b * 2, v.c - v.b * m.r.2, v.d - v.b * m.t.2⟩
def st3 (m : M6) (v : V4) : V4 := ⟨v.a - v.c * m.q.1, v.b - v.c * m.r.1, v.c - v.c * 2, v.d - v.c * m.u.2⟩
def st4 (m : M6) (v : V4) : V4 := ⟨v.a - v.d * m.s.1, v.b - v.d * m.t.1, v.c - v.d * m.u.1, v.d - v.d * 2⟩
def stp (m : M6) : Nat → V4 → V4
  | 0 => st1 m
  | 1 => st2 m
  | 2 => st3 m
  | _ => st4 m
def negB (x : Int) : Bool := match x with
  | .ofNat _ => false
  | .negSucc _ => true
def run (n : Nat) (m : M6) (K : (V4 → V4) → V4 → Bool) : Nat → V4 → (V4 → V4) → Bool
  | 0, v, k => K k v
  | f + 1, v, k => match Nat.blt 0 n && negB v.a with
    | true => run n m K f (st1 m v) (fun x => k (st1 m x))
    | false => match Nat.blt 1 n && negB v.b with
      | true => run n m K f (st2 m v) (fun x => k (st2 m x))
      | false => match Nat.blt 2 n && negB v.c with
        | true => run n m K f (st3 m v) (fun x => k (st3 m x))
        | false => match Nat.blt 3 n && negB v.d with
          | true => run n m K f (st4 m v) (fun x => k (st4 m x))
          | false => K k v
def eqV (x y : V4) : Bool := x.a == y.a && x.b == y.b && x.c == y.c && x.d == y.d
def one4 : V4 := ⟨1, 1, 1, 1⟩
def mone (n : Nat) : V4 := ⟨if 0 < n then -1 else 1, if 1 < n then -1 else 1, if 2 < n then -1 else 1, if 3 < n then -1 else 1⟩
def hitV (n : Nat) (m : M6) (x : V4) : Bool := (Nat.blt 0 n && eqV x (st1 m (mone n))) || (Nat.blt 1 n && eqV x (st2 m (mone n))) || (Nat.blt 2 n && eqV x (st3 m (mone n))) || (Nat.blt 3 n && eqV x (st4 m (mone n)))
def last (n : Nat) (m : M6) (k : V4 → V4) (v : V4) : Bool := eqV v one4 && (!Nat.blt 0 n || hitV n m (k (st1 m one4))) && (!Nat.blt 1 n || hitV n m (k (st2 m one4))) && (!Nat.blt 2 n || hitV n m (k (st3 m one4))) && (!Nat.blt 3 n || hitV n m (k (st4 m one4)))
def good (n : Nat) (m : M6) : Bool := run n m (last n m) 30 (mone n) id
def z0 : IP := (0, 0)
def chk1 : Bool := good 1 ⟨z0, z0, z0, z0, z0, z0⟩
def chk2 : Bool := opts.all fun p => good 2 ⟨p, z0, z0, z0, z0, z0⟩
def chk3 : Bool := opts.all fun p => opts.all fun q => opts.all fun r => !decide (0 < d3 p q r) || good 3 ⟨p, q, r, z0, z0, z0⟩
def chk4 : Bool := opts.all fun p => opts.all fun q => opts.all fun r => !decide (0 < d3 p q r) || opts.all fun s => opts.all fun t => !decide (0 < d3 p s t) || opts.all fun u => !decide (0 < d3 q s u) || !decide (0 < d3 r t u) || !decide (0 < d4 p q r s t u) || good 4 ⟨p, q, r, s, t, u⟩

/-! What the run means -/

def crd (v : V4) : Nat → Int
  | 0 => v.a
  | 1 => v.b
  | 2 => v.c
  | 3 => v.d
  | _ => 0
def cvt (n : Nat) (v : V4) : Pos := fun k => if k < n then crd v k else 0
def m6 (c : List (List Int)) : M6 := ⟨(ent c 0 1, ent c 1 0), (ent c 0 2, ent c 2 0), (ent c 1 2, ent c 2 1), (ent c 0 3, ent c 3 0), (ent c 1 3, ent c 3 1), (ent c 2 3, ent c 3 2)⟩

def acts (m : M6) : List Nat → V4 → V4
  | [], x => x
  | i :: w, x => stp m i (acts m w x)

end Go.Proofs.YtgliajcgcbnemaaGreatDoor.Hx

namespace Go.Proofs.YtgliajcgcbnemaaGreatDoor.Hx
open Go.RowKit

/-- The opposite of rho. -/
def opp (c : List (List Int)) : List Int := List.replicate c.length (-1)
def longest (c : List (List Int)) : List Int := nf c 31 (opp c)

end Go.Proofs.YtgliajcgcbnemaaGreatDoor.Hx

namespace Go.Proofs.YtgliajcgcbnemaaGreatDoor.Hx
open Go.RowKit
variable {dm : Bool}

def longestE (c : List (List Int)) : List Int := if isFinite c then longest c else []
theorem fin_parts {c : List (List Int)} (h : isFinite c = true) : Cartan c ∧ allPos c = true := by
  simp only [isFinite, Bool.and_eq_true] at h
  exact ⟨(isCartan_iff c).1 h.1, h.2⟩
def mixTo (n k : Nat) : List Int := (List.range n).map fun t => if t < k then (-1 : Int) else 1
end Go.Proofs.YtgliajcgcbnemaaGreatDoor.Hx

namespace Go.Proofs.YtgliajcgcbnemaaGreatDoor.Hx
open Go.RowKit
variable {dm : Bool}

/-- The size of a type, 0 where there is none. -/
def sizeT (l : List UInt8) : Int :=
  if l = [65, 49] then 2 else if l = [65, 50] then 6 else if l = [65, 51] then 24 else if l = [65, 52] then 120 else if l = [66, 50] then 8 else if l = [66, 51] then 48 else if l = [67, 51] then 48 else
  if l = [66, 52] then 384 else if l = [67, 52] then 384 else if l = [68, 52] then 192 else if l = [70, 52] then 1152 else if l = [71, 50] then 12 else 0
theorem sizeT_cases (l : List UInt8) : l = [65, 49] ∨ l = [65, 50] ∨ l = [65, 51] ∨ l = [65, 52] ∨ l = [66, 50] ∨ l = [66, 51] ∨ l = [67, 51] ∨ l = [66, 52] ∨ l = [67, 52] ∨ l = [68, 52] ∨ l = [70, 52] ∨ l = [71, 50] ∨
    (l ≠ [65, 49] ∧ l ≠ [65, 50] ∧ l ≠ [65, 51] ∧ l ≠ [65, 52] ∧ l ≠ [66, 50] ∧ l ≠ [66, 51] ∧ l ≠ [67, 51] ∧ l ≠ [66, 52] ∧ l ≠ [67, 52] ∧ l ≠ [68, 52] ∧ l ≠ [70, 52] ∧ l ≠ [71, 50]) := by
  by_cases h1 : l = [65, 49]
  · simp [h1]
  by_cases h2 : l = [65, 50]
  · simp [h2]
  by_cases h3 : l = [65, 51]
  · simp [h3]
  by_cases h4 : l = [65, 52]
  · simp [h4]
  by_cases h5 : l = [66, 50]
  · simp [h5]
  by_cases h6 : l = [66, 51]
  · simp [h6]
  by_cases h7 : l = [67, 51]
  · simp [h7]
  by_cases h8 : l = [66, 52]
  · simp [h8]
  by_cases h9 : l = [67, 52]
  · simp [h9]
  by_cases h10 : l = [68, 52]
  · simp [h10]
  by_cases h11 : l = [70, 52]
  · simp [h11]
  by_cases h12 : l = [71, 50]
  · simp [h12]
  simp [h1, h2, h3, h4, h5, h6, h7, h8, h9, h10, h11, h12]
theorem sizeT_rng (l : List UInt8) : 0 ≤ sizeT l ∧ sizeT l ≤ 1152 := by
  rcases sizeT_cases l with rfl | rfl | rfl | rfl | rfl | rfl | rfl | rfl | rfl | rfl | rfl | rfl | ⟨n1, n2, n3, n4, n5, n6, n7, n8, n9, n10, n11, n12⟩
  iterate 12
    · decide
  · have hv : sizeT l = 0 := by simp [sizeT, n1, n2, n3, n4, n5, n6, n7, n8, n9, n10, n11, n12]
    rw [hv]
    decide

def sizeL (xs : List (List UInt8)) : Int := xs.foldl (fun n x => n * sizeT x) 1
theorem sizeL_snoc (xs : List (List UInt8)) {k : Nat} (hk : k < xs.length) : sizeL (xs.take (k + 1)) = sizeL (xs.take k) * sizeT (xs.getD k []) := by
  rw [List.take_succ_eq_append_getElem hk]
  have e : xs.getD k [] = xs[k] := by simp [List.getD, hk]
  rw [e]
  unfold sizeL
  rw [List.foldl_append]
  rfl
theorem sizeL_rng (xs : List (List UInt8)) : ∀ k, k ≤ xs.length → 0 ≤ sizeL (xs.take k) ∧ sizeL (xs.take k) ≤ ((1152 ^ k : Nat) : Int)
  | 0, _ => by simp [sizeL]
  | k + 1, h => by
    obtain ⟨h1, h2⟩ := sizeL_rng xs k (by omega)
    obtain ⟨h3, h4⟩ := sizeT_rng (xs.getD k [])
    rw [sizeL_snoc xs (by omega)]
    refine ⟨Int.mul_nonneg h1 h3, ?_⟩
    have e : ((1152 ^ (k + 1) : Nat) : Int) = ((1152 ^ k : Nat) : Int) * 1152 := by
      rw [Nat.pow_succ, Int.natCast_mul]
      rfl
    rw [e]
    exact Int.mul_le_mul h2 h4 h3 (by omega)
theorem sizeL_small (xs : List (List UInt8)) {k : Nat} (h : k ≤ xs.length) (h4 : k ≤ 4) : 0 ≤ sizeL (xs.take k) ∧ sizeL (xs.take k) ≤ 1761205026816 := by
  obtain ⟨h1, h2⟩ := sizeL_rng xs k h
  have : 1152 ^ k ≤ 1152 ^ 4 := Nat.pow_le_pow_right (by omega) h4
  have e : (1152 : Nat) ^ 4 = 1761205026816 := rfl
  exact ⟨h1, by omega⟩

/-- The size of a matrix's group. -/
noncomputable def namesL (c : List (List Int)) : List (List UInt8) := (partsC c).map (nameQ c)
noncomputable def sizeN (c : List (List Int)) : Int := if isFinite c then sizeL (namesL c) else 0
theorem sizeN_off {c : List (List Int)} (h : isFinite c = false) : sizeN c = 0 := by simp [sizeN, h]
theorem sizeN_on {c : List (List Int)} (h : isFinite c = true) : sizeN c = sizeL (namesL c) := by simp [sizeN, h]

theorem partsC_ne {c : List (List Int)} (hic : isCartan c = true) : (partsC c).length ≠ 0 := by
  have hp := ((isCartan_iff c).1 hic).pos
  intro e
  rw [partsC_on hic] at e
  have h0 : isMin c 0 = true := isMin_iff.2 fun j hj => by omega
  have hm : partL c 0 ∈ partsTo c c.length := List.mem_map.2 ⟨0, List.mem_filter.2 ⟨List.mem_range.2 hp, h0⟩, rfl⟩
  rw [List.length_eq_zero_iff.1 e] at hm
  simp at hm
theorem nameOf_cut {c : List (List Int)} (hic : isCartan c = true) : cutB 120 (nameOf c) = namesL c := by
  refine cut_join (fun e => partsC_ne hic ?_) (fun x hx => ?_)
  · have := congrArg List.length e
    simpa using this
  · obtain ⟨o, _, rfl⟩ := List.mem_map.1 hx
    exact (nameP_short _).2
theorem namesL_le {c : List (List Int)} (hC : Cartan c) : (namesL c).length ≤ 4 := by
  have h1 := partsC_le c
  have h2 := hC.le
  simp only [namesL, List.length_map]
  omega
theorem nameOf_le {c : List (List Int)} (hC : Cartan c) : (nameOf c).length ≤ 16 := by
  have h1 := nameTo_le (c := c) (partsC c).length
  rw [List.take_length] at h1
  have h2 := partsC_le c
  have h3 := hC.le
  have e : nameOf c = Lib.join ((partsC c).map (nameQ c)) [120] := rfl
  rw [e]
  omega

theorem tx_ne {a b : List UInt8} (h : a ≠ b) : (⟨a.toArray⟩ : ByteArray) ≠ ⟨b.toArray⟩ := fun e => h (by
  have := congrArg (fun x : ByteArray => x.data.toList) e
  simpa using this)
theorem HByte.tx {s : List UInt8} {k : Nat} {K : HV → Prop} (hk : k < s.length) (hK : K (.s (.pl (.int .u8 ((s.getD k 0).toNat : Int))))) : HByte (Tx s) (I k) K := by
  have e : (s.getD k 0) = s[k] := by simp [List.getD, hk]
  rw [e] at hK
  exact ⟨⟨s.toArray⟩, .i64, k, by rw [tx_size]; exact hk, rfl, rfl, hK⟩
theorem HSub.tx {s : List UInt8} {k : Nat} {K : HV → Prop} (hk : k < s.length) (hK : K (Tx [s.getD k 0])) : HSub (Tx s) (some (I k)) (some (I ((k + 1 : Nat) : Int))) K := by
  refine ⟨⟨s.toArray⟩, k, k + 1, rfl, Or.inr ⟨.i64, rfl⟩, Or.inr ⟨.i64, rfl⟩, by omega, by rw [tx_size]; omega, ?_⟩
  have e : (⟨s.toArray⟩ : ByteArray).extract k (k + 1) = ⟨[s.getD k 0].toArray⟩ := by
    apply ByteArray.ext
    apply Array.ext'
    simp only [ByteArray.data_extract, Array.toList_extract, List.extract_eq_take_drop]
    have e2 : s.getD k 0 = s[k] := by simp [List.getD, hk]
    rw [e2, show k + 1 - k = 1 by omega, List.drop_eq_getElem_cons hk]
    rfl
  rw [e]
  exact hK


set_option maxHeartbeats 1000000 in
theorem spec_l2Cut (h : Heap) (s : List UInt8) (c : UInt8) (hs : s.length ≤ 1048575) :
    HCalls dm Tryz.prog 123 [Tx s, .s (.pl (.int .u8 (c.toNat : Int)))] h (fun z h' => ∃ r, z = .s (.sl r 0 (cutB c s).length) ∧ Ext h h' ∧ h'[r]? = some (.own ((cutB c s).map stc))) := by
  have hsz := tx_size s
  obtain ⟨V, hV⟩ : ∃ V, V = cutB c s := ⟨_, rfl⟩
  rw [← hV]
  refine calls_of_hFun (m := 0) kd_ok mixed Tryz.func123 rfl (by kernel_rfl) rfl rfl (of_decide_eq_true rfl) ?_; unfold hFun; (conv => whnf)
  refine HLit.empty ?_
  (conv => whnf)
  refine HLoop.intro [7, 5, 6] [9, 10, 11, 12, 15, 16, 17, 18, 19, 20, 21, 22, 23, 5, 6, 24, 25, 26, 27, 28, 29, 30, 6, 13, 14, 7] (by kernel_rfl) (by kernel_rfl) (fun vs h' => ∃ (k r : Nat) (xs : List (List UInt8)) (p : List UInt8), vs = [I k, .s (.sl r 0 xs.length), Tx p] ∧ k ≤ s.length ∧ Ext h h' ∧ h.length ≤ r ∧ h'[r]? = some (.own (xs.map stc)) ∧ c ∉ p ∧ p.length ≤ k ∧ xs.length ≤ k ∧ V = xs ++ cutB c (p ++ s.drop k)) (fun vs _ => s.length - natAt vs 0) ⟨0, h.length, [], [], rfl, by omega, Ext.push _ _, Nat.le_refl _, get_new _ _, by simp, by simp, by simp, by simpa using hV⟩ ?_
  rintro vs h' ⟨k, r, xs, p, rfl, hk, E, hr, hcs, hcp, hpl, hxl, hv⟩
  have hE := E.1
  have hrl := get_lt hcs
  (conv => whnf)
  refine HLenS.mk ⟨_, rfl, ?_⟩
  rw [hsz]
  (conv => whnf)
  refine HIf.dec (fun hlt => ?_) (fun hge => ?_)
  · have hkl : k < s.length := by omega
    have hd : s.drop k = s.getD k 0 :: s.drop (k + 1) := by
      have e2 : s.getD k 0 = s[k] := by simp [List.getD, hkl]
      rw [List.drop_eq_getElem_cons hkl, e2]
    generalize hb : s.getD k 0 = b at *
    (conv => whnf)
    refine HByte.tx hkl ?_
    rw [hb]
    (conv => whnf)
    refine HIf.beq (fun he => ?_) (fun hne => ?_)
    · have hbc : b = c := by
        apply UInt8.toNat_inj.1
        omega
      subst hbc
      (conv => whnf)
      refine HLit.row (y := stc p) rfl ?_
      (conv => whnf)
      refine ⟨rfl, rfl, HApp.text (by rw [List.getElem?_append_left hrl]; exact hcs) (get_new _ _) rfl (by omega) ?_⟩
      have E4 : Ext h ((h' ++ [Row.own [stc p]]).set r Row.gone ++ [Row.own ((xs ++ [p]).map stc)]) := ((E.pushed _).set hr _).pushed _
      have hnew := get_new ((h' ++ [Row.own [stc p]]).set r Row.gone) (Row.own ((xs ++ [p]).map stc))
      rw [List.length_set] at hnew
      have hnl : h.length ≤ (h' ++ [Row.own [stc p]]).length := by simp; omega
      have hxl2 : xs.length + 1 = (xs ++ [p]).length := by simp
      rw [hxl2]
      generalize (h' ++ [Row.own [stc p]]).length = N at *
      generalize (h' ++ [Row.own [stc p]]).set r Row.gone ++ [Row.own ((xs ++ [p]).map stc)] = h4 at *
      (conv => whnf)
      refine HArith.fits (by omega) (by omega) ?_
      (conv => whnf)
      exact ⟨⟨k + 1, N, xs ++ [p], [], rfl, by omega, E4, hnl, hnew, by simp, by simp, by omega, by rw [hv, hd, cutB_hit hcp]; simp⟩, by show s.length - (k + 1) < s.length - k; omega⟩
    · have hbc : b ≠ c := fun e => hne (by rw [e])
      (conv => whnf)
      refine HArith.to (e' := ((k + 1 : Nat) : Int)) (by omega) (by omega) (by omega) ?_
      (conv => whnf)
      refine HSub.tx hkl ?_
      rw [hb]
      (conv => whnf)
      refine HStr.add (a := p) (b := [b]) (by rw [List.length_singleton]; omega) ?_
      (conv => whnf)
      refine HArith.fits (by omega) (by omega) ?_
      (conv => whnf)
      exact ⟨⟨k + 1, r, xs, p ++ [b], rfl, by omega, E, hr, hcs, by simp [hcp, Ne.symm hbc], by simp; omega, by omega, by rw [hv, hd]; simp⟩, by show s.length - (k + 1) < s.length - k; omega⟩
  · have ek : k = s.length := by omega
    have hd : s.drop k = [] := by rw [ek, List.drop_length]
    have hv2 : V = xs ++ [p] := by rw [hv, hd, List.append_nil, cutB_one hcp]
    have hxl2 : V.length = xs.length + 1 := by rw [hv2]; simp
    (conv => whnf)
    refine HLit.row (y := stc p) rfl ?_
    (conv => whnf)
    refine ⟨rfl, rfl, HApp.text (by rw [List.getElem?_append_left hrl]; exact hcs) (get_new _ _) rfl (by omega) ?_⟩
    rw [← hv2, ← hxl2]
    have E4 : Ext h ((h' ++ [Row.own [stc p]]).set r Row.gone ++ [Row.own (V.map stc)]) := ((E.pushed _).set hr _).pushed _
    have hnew := get_new ((h' ++ [Row.own [stc p]]).set r Row.gone) (Row.own (V.map stc))
    rw [List.length_set] at hnew
    generalize (h' ++ [Row.own [stc p]]).length = N at *
    generalize (h' ++ [Row.own [stc p]]).set r Row.gone ++ [Row.own (V.map stc)] = h4 at *
    (conv => whnf)
    exact ⟨N, rfl, E4, hnew⟩

/-- Texts in a row of one's own, read. -/
theorem txt_shows {h : Heap} {r : Nat} {xs : List (List UInt8)} (hr : h[r]? = some (.own (xs.map stc))) : Shows h (.s (.sl r 0 xs.length)) (xs.map stc) := by
  have := Shows.own r 0 xs.length _ hr (by simp)
  simp only [List.drop_zero] at this
  rw [List.take_of_length_le (by simp)] at this
  exact this
theorem txt_cell (xs : List (List UInt8)) {k : Nat} (hk : k < xs.length) : (xs.map stc).getD ((k : Int)).toNat (.pl (.int .i64 0)) = stc (xs.getD k []) := by
  rw [Int.toNat_natCast]
  simp [List.getD, hk]

set_option maxHeartbeats 1000000 in
theorem impl_sizeOfType (h : Heap) (l : List UInt8) : HCalls dm Tryz.prog 136 [Tx l] h (fun r h' => r = I (sizeT l) ∧ h' = h) := by
  rcases sizeT_cases l with rfl | rfl | rfl | rfl | rfl | rfl | rfl | rfl | rfl | rfl | rfl | rfl | ⟨n1, n2, n3, n4, n5, n6, n7, n8, n9, n10, n11, n12⟩
  iterate 12
    · refine calls_of_hFun (m := 0) kd_ok mixed Tryz.func136 rfl (by kernel_rfl) rfl rfl (of_decide_eq_true rfl) ?_; unfold hFun; (conv => whnf)
      (repeat (first | (refine HStr.eql ?_; conv => whnf) | (refine HIf.strT rfl ?_; conv => whnf) | (refine HIf.strF (by decide) ?_; conv => whnf)))
      exact ⟨rfl, rfl⟩
  · have hv : sizeT l = 0 := by simp [sizeT, n1, n2, n3, n4, n5, n6, n7, n8, n9, n10, n11, n12]
    rw [hv]
    refine calls_of_hFun (m := 0) kd_ok mixed Tryz.func136 rfl (by kernel_rfl) rfl rfl (of_decide_eq_true rfl) ?_; unfold hFun; (conv => whnf)
    (repeat (first | (refine HStr.eql ?_; conv => whnf) | (refine HIf.strF (tx_ne (by assumption)) ?_; conv => whnf)))
    exact ⟨rfl, rfl⟩

set_option maxHeartbeats 1000000 in
theorem impl_SizeByName (h : Heap) (s : List UInt8) (xs : List (List UInt8)) (hx : cutB 120 s = xs) (hl : xs.length ≤ 4) (hs : s.length ≤ 1048575) :
    HCalls dm Tryz.prog 78 [Tx s] h (fun r h' => r = I (sizeL xs) ∧ Ext h h') := by
  have hsn := fun k hk => sizeL_snoc xs (k := k) hk
  have hsm := fun k h1 h2 => sizeL_small xs (k := k) h1 h2
  have h0 : sizeL (xs.take 0) = 1 := by simp [sizeL]
  have hall : sizeL (xs.take xs.length) = sizeL xs := by rw [List.take_length]
  have hrg := fun k => sizeT_rng (xs.getD k [])
  refine calls_of_hFun (m := 0) kd_ok mixed Tryz.func78 rfl (by kernel_rfl) rfl rfl (of_decide_eq_true rfl) ?_; unfold hFun; (conv => whnf)
  refine (lib_Split _ s 120 (by omega)).mono ?_
  rintro r h1 ⟨rfl, rfl⟩
  rw [hx]
  have S1 := txt_shows (get_new h (Row.own (xs.map stc)))
  have E1 := Ext.push h [Row.own (xs.map stc)]
  have hml : (xs.map stc).length = xs.length := by simp
  generalize H0.sl h.length 0 xs.length = y at *
  generalize h ++ [Row.own (xs.map stc)] = h1 at *
  (conv => whnf)
  refine ⟨rfl, Shows.len S1 ?_⟩
  rw [hml]
  (conv => whnf)
  refine HIf.decF (by omega) ?_
  (conv => whnf)
  refine ⟨rfl, Shows.len S1 ?_⟩
  rw [hml]
  (conv => whnf)
  refine HLoop.intro [14, 4] [15, 16, 17, 6, 18, 19, 20, 21, 4, 22, 14] (by kernel_rfl) (by kernel_rfl) (fun vs h' => ∃ k : Nat, vs = [I k, I (sizeL (xs.take k))] ∧ k ≤ xs.length ∧ h' = h1) (fun vs _ => xs.length - natAt vs 0) ⟨0, by rw [h0]; rfl, by omega, rfl⟩ ?_
  rintro vs h' ⟨k, rfl, hk, rfl⟩
  (conv => whnf)
  refine HIf.dec (fun hlt => ?_) (fun hge => ?_)
  · have hkl : k < xs.length := by omega
    have ec := txt_cell xs hkl
    have hst := hsn k hkl
    have h3 := hsm (k + 1) (by omega) (by omega)
    generalize hN1 : sizeL (xs.take (k + 1)) = N1 at *
    generalize sizeL (xs.take k) = N0 at *
    generalize xs.getD k [] = l at *
    (conv => whnf)
    refine ⟨rfl, Shows.idx S1 (by omega) (by omega) (fun p hp => ?_)⟩
    rw [ec] at hp
    (conv => whnf)
    refine ⟨rfl, hp.load ?_⟩
    (conv => whnf)
    refine (impl_sizeOfType _ l).mono ?_
    rintro r h2 ⟨rfl, rfl⟩
    (conv => whnf)
    refine HArith.to (e' := N1) hst.symm (by omega) (by omega) ?_
    (conv => whnf)
    refine HArith.fits (by omega) (by omega) ?_
    (conv => whnf)
    exact ⟨⟨k + 1, by rw [hN1]; rfl, by omega, rfl⟩, by show xs.length - (k + 1) < xs.length - k; omega⟩
  · have ek : k = xs.length := by omega
    subst ek
    rw [hall]
    (conv => whnf)
    exact ⟨rfl, E1⟩

set_option maxHeartbeats 4000000 in
theorem spec_SizeByName (h : Heap) (s : List UInt8) (xs : List (List UInt8)) (hx : cutB 120 s = xs) (hl : xs.length ≤ 4) (hs : s.length ≤ 1048575) :
    HCalls dm Tryz.prog 74 [Tx s] h (fun r h' => r = I (sizeL xs) ∧ Ext h h') := by
  have hsn := fun k hk => sizeL_snoc xs (k := k) hk
  have hsm := fun k h1 h2 => sizeL_small xs (k := k) h1 h2
  have h0 : sizeL (xs.take 0) = 1 := by simp [sizeL]
  have hall : sizeL (xs.take xs.length) = sizeL xs := by rw [List.take_length]
  refine calls_of_hFun (m := 0) kd_ok mixed Tryz.func74 rfl (by kernel_rfl) rfl rfl (of_decide_eq_true rfl) ?_; unfold hFun; (conv => whnf)
  refine (show HCalls _ _ _ [Tx s, .s (.pl (.int .u8 (((120 : UInt8).toNat : Nat) : Int)))] _ _ from (spec_l2Cut _ s 120 hs).mono ?_)
  rintro r h1 ⟨q, rfl, E1, hrow⟩
  rw [hx] at hrow ⊢
  have S1 := txt_shows hrow
  have hml : (xs.map stc).length = xs.length := by simp
  generalize H0.sl q 0 xs.length = y at *
  (conv => whnf)
  refine HLoop.intro [5, 4] [9, 10, 11, 12, 13, 14, 15, 16, 6, 19, 20, 21, 22, 24, 23, 6, 26, 25, 6, 28, 27, 6, 30, 29, 6, 32, 31, 6, 34, 33, 35, 33, 6, 37, 36, 38, 36, 6, 40, 39, 6, 42, 41, 6, 44, 43, 6, 45, 46, 47, 4, 17, 18, 5] (by kernel_rfl) (by kernel_rfl) (fun vs h' => ∃ k : Nat, vs = [I k, I (sizeL (xs.take k))] ∧ k ≤ xs.length ∧ h' = h1) (fun vs _ => xs.length - natAt vs 0) ⟨0, by rw [h0]; rfl, by omega, rfl⟩ ?_
  rintro vs h' ⟨k, rfl, hk, rfl⟩
  (conv => whnf)
  refine ⟨rfl, Shows.len S1 ?_⟩
  rw [hml]
  (conv => whnf)
  refine HIf.dec (fun hlt => ?_) (fun hge => ?_)
  · have hkl : k < xs.length := by omega
    have hk4 : (k : Int) < 4 := by omega
    have ec := txt_cell xs hkl
    have hst := hsn k hkl
    have h3 := hsm (k + 1) (by omega) (by omega)
    generalize hN1 : sizeL (xs.take (k + 1)) = N1 at *
    generalize sizeL (xs.take k) = N0 at *
    generalize xs.getD k [] = l at *
    (conv => whnf)
    refine HIf.decT hlt ?_
    (conv => whnf)
    refine HIf.decT hlt ?_
    (conv => whnf)
    refine HIf.decT hk4 ?_
    (conv => whnf)
    refine ⟨rfl, Shows.idx S1 (by omega) (by omega) (fun p hp => ?_)⟩
    rw [ec] at hp
    (conv => whnf)
    refine ⟨rfl, hp.load ?_⟩
    (conv => whnf)
    rcases sizeT_cases l with rfl | rfl | rfl | rfl | rfl | rfl | rfl | rfl | rfl | rfl | rfl | rfl | ⟨n1, n2, n3, n4, n5, n6, n7, n8, n9, n10, n11, n12⟩
    iterate 12
      · (repeat (first | (refine HStr.eql ?_; conv => whnf) | (refine HIf.strT rfl ?_; conv => whnf) | (refine HIf.strF (by decide) ?_; conv => whnf)))
        refine HArith.to (e' := N1) (by rw [hst]; rfl) (by omega) (by omega) ?_
        (conv => whnf)
        refine HArith.fits (by omega) (by omega) ?_
        (conv => whnf)
        exact ⟨⟨k + 1, by rw [hN1]; rfl, by omega, rfl⟩, by show xs.length - (k + 1) < xs.length - k; omega⟩
    · have hv : sizeT l = 0 := by simp [sizeT, n1, n2, n3, n4, n5, n6, n7, n8, n9, n10, n11, n12]
      rw [hv] at hst
      (repeat (first | (refine HStr.eql ?_; conv => whnf) | (refine HIf.strF (tx_ne (by assumption)) ?_; conv => whnf)))
      refine HArith.to (e' := N1) (by rw [hst]) (by omega) (by omega) ?_
      (conv => whnf)
      refine HArith.fits (by omega) (by omega) ?_
      (conv => whnf)
      exact ⟨⟨k + 1, by rw [hN1]; rfl, by omega, rfl⟩, by show xs.length - (k + 1) < xs.length - k; omega⟩
  · have ek : k = xs.length := by omega
    subst ek
    rw [hall]
    (conv => whnf)
    refine HIf.decF hge ?_
    (conv => whnf)
    refine HIf.decF hge ?_
    (conv => whnf)
    (repeat (refine HIf.no ?_; conv => whnf))
    refine ⟨rfl, Shows.len S1 ?_⟩
    rw [hml]
    (conv => whnf)
    refine HIf.decF (by omega) ?_
    (conv => whnf)
    exact ⟨rfl, E1⟩

theorem impl_SizeOf (h : Heap) (x0 : H0) (a0 : List (List Int)) (hx0 : Rows h x0 a0) (s0 : a0.length ≤ 1048576 ∧ tot a0 ≤ 1048576) :
    HCalls false Tryz.prog 11 [.s x0] h (fun r h' => r = I (sizeN a0) ∧ Ext h h') := by
  have hon := sizeN_on (c := a0)
  have hoff := sizeN_off (c := a0)
  have hfp := fin_parts (c := a0)
  generalize sizeN a0 = V at *
  refine calls_of_hFun (m := 0) kd_ok mixed Tryz.func11 rfl (by kernel_rfl) rfl rfl (of_decide_eq_true rfl) ?_; unfold hFun; (conv => whnf)
  refine (impl_IsFinite _ _ a0 hx0 (by omega)).mono ?_
  rintro r h1 ⟨rfl, E1⟩
  (conv => whnf)
  cases hf : isFinite a0
  · rw [hoff hf]
    refine HIf.yes ?_
    (conv => whnf)
    exact ⟨rfl, E1⟩
  · have hC := (hfp hf).1
    have hic := (isCartan_iff a0).2 hC
    have hcut := nameOf_cut hic
    have hle := namesL_le hC
    have hnl := nameOf_le hC
    rw [hon hf]
    refine HIf.no ?_
    (conv => whnf)
    refine (impl_NameOf _ _ a0 (hx0.ext E1) hic).mono ?_
    rintro r h2 ⟨rfl, E2⟩
    (conv => whnf)
    refine (impl_SizeByName _ _ _ hcut hle (by omega)).mono ?_
    rintro r h3 ⟨rfl, E3⟩
    (conv => whnf)
    exact ⟨rfl, E1.trans (E2.trans E3)⟩

theorem spec_SizeOf (h : Heap) (x0 : H0) (a0 : List (List Int)) (hx0 : Rows h x0 a0) (s0 : a0.length ≤ 1048576 ∧ tot a0 ≤ 1048576) :
    HCalls dm Tryz.prog 9 [.s x0] h (fun r h' => r = I (sizeN a0) ∧ Ext h h') := by
  have hon := sizeN_on (c := a0)
  have hoff := sizeN_off (c := a0)
  have hfp := fin_parts (c := a0)
  generalize sizeN a0 = V at *
  refine calls_of_hFun (m := 0) kd_ok mixed Tryz.func9 rfl (by kernel_rfl) rfl rfl (of_decide_eq_true rfl) ?_; unfold hFun; (conv => whnf)
  refine (spec_IsFinite _ _ a0 hx0 (by omega)).mono ?_
  rintro r h1 ⟨rfl, E1⟩
  (conv => whnf)
  cases hf : isFinite a0
  · rw [hoff hf]
    refine HIf.yes ?_
    (conv => whnf)
    exact ⟨rfl, E1⟩
  · have hC := (hfp hf).1
    have hic := (isCartan_iff a0).2 hC
    have hcut := nameOf_cut hic
    have hle := namesL_le hC
    have hnl := nameOf_le hC
    rw [hon hf]
    refine HIf.no ?_
    (conv => whnf)
    refine (spec_NameOf _ _ a0 (hx0.ext E1) hic).mono ?_
    rintro r h2 ⟨rfl, E2⟩
    (conv => whnf)
    refine (spec_SizeByName _ _ _ hcut hle (by omega)).mono ?_
    rintro r h3 ⟨rfl, E3⟩
    (conv => whnf)
    exact ⟨rfl, E1.trans (E2.trans E3)⟩

end Go.Proofs.YtgliajcgcbnemaaGreatDoor.Hx

namespace Go.Proofs.YtgliajcgcbnemaaGreatDoor.Hx
open Go.RowKit Go.ChangeShapes Go.WideShapes Go.ChangeAt
variable {dm : Bool}

theorem Rep.start (w : World) (ht : TabAt w.heap.size w := by refine ⟨fun x hx => ?_, fun x hx => ?_, fun x hx => ?_⟩ <;> cases hx) : Rep w.heap.size [] [] w :=
  ⟨rfl, Nat.le_refl _, fun r cs p h => by simp at h, fun r cs p h => by simp at h, fun r r' cs cs' p p' _ h => by simp at h, fun r so ks p h => by simp at h, fun r r' so so' ks ks' p p' _ h => by simp at h, ht⟩

/-- A row that is only read. -/
theorem Rep.pushRo {B0 : Nat} {φ : Plan} {h : Heap} {w : World} (R : Rep B0 φ h w) (p : Place) (hb : p.b < B0) (cs : List H0) (hc : ∀ (k : Nat) (c : H0), cs[k]? = some c → ∃ v, w.cell? ⟨p.b, p.o + k, none⟩ = some v ∧ rep0 φ c v) :
    Rep B0 (φ ++ [p]) (h ++ [.ro cs]) w := by
  have hold : ∀ (r : Nat) (x : Row), r < h.length → (h ++ [Row.ro cs])[r]? = some x → h[r]? = some x := fun r x hr hx => by rw [List.getElem?_append_left hr] at hx; exact hx
  have hpl : ∀ (r : Nat) (y : Place), r < h.length → (φ ++ [p])[r]? = some y → φ[r]? = some y := fun r y hr hx => by rw [List.getElem?_append_left (by rw [R.len]; exact hr)] at hx; exact hx
  have hlast : ∀ (r : Nat) (x : Row), ¬ r < h.length → (h ++ [Row.ro cs])[r]? = some x → r = h.length ∧ x = .ro cs := fun r x hr hx => by
    rw [List.getElem?_append_right (by omega)] at hx
    have h0 : r - h.length = 0 := by
      have := (List.getElem?_eq_some_iff.1 hx).1
      simp at this
      omega
    rw [h0] at hx
    simp at hx
    exact ⟨by omega, hx.symm⟩
  have keyq : ∀ (q : Nat) (so : Bool) (ks : List Key), (h ++ [Row.ro cs])[q]? = some (.keys so ks) → q < h.length := fun q so ks hq => by
    by_cases hl : q < h.length
    · exact hl
    · cases (hlast q _ hl hq).2
  refine ⟨by simp [R.len], R.base, fun r xs y h1 h2 => ?_, fun r xs y h1 h2 => ?_, fun r r' xs xs' y y' hne h1 h1' h2 h2' => ?_, fun r so ks y h1 h2 => R.keys r so ks y (hold r _ (keyq _ _ _ h1) h1) (hpl r y (keyq _ _ _ h1) h2),
    fun r r' so so' ks ks' y y' hne h1 h1' h2 h2' => R.apartK r r' so so' ks ks' y y' hne (hold r _ (keyq _ _ _ h1) h1) (hold r' _ (keyq _ _ _ h1') h1') (hpl r y (keyq _ _ _ h1) h2) (hpl r' y' (keyq _ _ _ h1') h2'), R.tab⟩
  · by_cases hr : r < h.length
    · obtain ⟨g1, g2⟩ := R.ro r xs y (hold r _ hr h1) (hpl r y hr h2)
      refine ⟨g1, fun k c hk => ?_⟩
      obtain ⟨v, e1, e2⟩ := g2 k c hk
      exact ⟨v, e1, e2.mono (Sub.push _ _)⟩
    · obtain ⟨e1, e2⟩ := hlast r _ hr h1
      subst e1
      cases e2
      rw [← R.len, List.getElem?_append_right (Nat.le_refl _)] at h2
      simp at h2
      subst h2
      refine ⟨hb, fun k c hk => ?_⟩
      obtain ⟨v, e1, e2⟩ := hc k c hk
      exact ⟨v, e1, e2.mono (Sub.push _ _)⟩
  · by_cases hr : r < h.length
    · obtain ⟨g1, g2, g3, cur', e', g4, g5, g6⟩ := R.own r xs y (hold r _ hr h1) (hpl r y hr h2)
      refine ⟨g1, g2, g3, cur', e', g4, g5, fun k c hk => ?_⟩
      obtain ⟨v, e1, e2⟩ := g6 k c hk
      exact ⟨v, e1, e2.mono (Sub.push _ _)⟩
    · cases (hlast r _ hr h1).2
  · by_cases hr : r < h.length <;> by_cases hr' : r' < h.length
    · exact R.apart r r' xs xs' y y' hne (hold r _ hr h1) (hold r' _ hr' h1') (hpl r y hr h2) (hpl r' y' hr' h2')
    · cases (hlast r' _ hr' h1').2
    · cases (hlast r _ hr h1).2
    · cases (hlast r _ hr h1).2

/-- What opening an argument gives. -/
def Opened (φ : Plan) (h : Heap) (w : World) (v : Value) (T : Heap → H0 → Prop) : Prop := ∃ x φ' h', Sub φ φ' ∧ Ext h h' ∧ Rep w.heap.size φ' h' w ∧ rep0 φ' x v ∧ T h' x

/-- A slice of ints by its cells. -/
theorem open_cells {φ : Plan} {h : Heap} {w : World} (R : Rep w.heap.size φ h w) (ao : Option Addr) (len cap : Nat) (zs : List Int) (hl : len ≤ cap) (hm : cap ≤ maxLen) (hz : zs.length = cap) (hnone : ao = none → cap = 0)
    (hc : ∀ a, ao = some a → ∀ i, i < cap → w.cell? (a.add i) = some (.int .i64 (zs.getD i 0))) : Opened φ h w (.slice ao len cap) (fun h' x => Ints h' x (zs.take len)) := by
  by_cases h0 : len = 0
  · subst h0
    exact ⟨.pl (.slice ao 0 cap), φ, h, Sub.refl _, Ext.refl _, R, rfl, Shows.nils _ _⟩
  · cases ao with
    | none => have := hnone rfl; omega
    | some a =>
      have hc := hc a rfl
      obtain ⟨b, off, spot⟩ := a
      have hspot : spot = none := by simpa [Addr.add] using World.cell?_spot (hc 0 (by omega))
      subst hspot
      have hb : b < w.heap.size := World.block_lt_of_cell? w ⟨b, off, none⟩ (by simpa [Addr.add] using hc 0 (by omega))
      have hlen : ((zs.take len).map ci).length = len := by simp; omega
      refine ⟨.sl h.length 0 len, φ ++ [⟨b, off, cap⟩], h ++ [.ro ((zs.take len).map ci)], Sub.push _ _, Ext.push _ _, R.pushRo ⟨b, off, cap⟩ hb _ (fun k c hk => ?_), ⟨⟨b, off, cap⟩, _, _, ?_, rfl, hl, hm, by simp, fun _ => rfl⟩, ?_⟩
      · have hk2 : k < len := by have := (List.getElem?_eq_some_iff.1 hk).1; omega
        refine ⟨.int .i64 (zs.getD k 0), by rw [← addr_add]; exact hc k (by omega), ?_⟩
        rw [List.getElem?_map, List.getElem?_take_of_lt hk2, List.getElem?_eq_getElem (by omega)] at hk
        simp only [Option.map_some, Option.some.injEq] at hk
        subst hk
        show _ = _
        simp [List.getD, show k < zs.length by omega]
      · rw [← R.len, List.getElem?_append_right (Nat.le_refl _)]
        simp
      · show Shows _ _ ((zs.take len).map ci)
        generalize (zs.take len).map ci = L at hlen ⊢
        have := Shows.ro h.length 0 len _ (get_new h (.ro L)) (by omega)
        simp only [List.drop_zero] at this
        rw [List.take_of_length_le (by omega)] at this
        exact this

/-- The end of a law: it comes back true, and memory that was there is as it was. -/
theorem law_calls {P : Program} {k : FuncId} {args : List HV} {h : Heap} {φ : Plan} {w : World} {vargs : Array Value} (H : HCalls false P k args h (fun r _ => r = B true)) (R : Rep w.heap.size φ h w) (ha : repVs φ args vargs.toList) :
    Calls P k vargs w fun e w' => e = .returned (.bool true) ∧ Below w.heap.size w w' :=
  (H.out _ φ w vargs R ha).mono (by
    rintro e w' ⟨v, x, h', φ', rfl, rfl, g2, g3, g4, g5⟩
    have hv := rep0_pl g4
    subst hv
    exact ⟨rfl, g5.toBelow⟩)

theorem own : ownKnob Tryz.prog.godebug = none := by kernel_rfl
theorem laidOut : laidOutB Tryz.prog = true := by kernel_rfl

end Go.Proofs.YtgliajcgcbnemaaGreatDoor.Hx

namespace Go.Proofs.YtgliajcgcbnemaaGreatDoor.Hx
open Go.RowKit Go.ChangeShapes Go.WideShapes Go.ChangeAt

theorem i64_wf {n : Int} (h : (Lit.int .i64 n).wf = true) : -9223372036854775808 ≤ n ∧ n ≤ 9223372036854775807 := by
  simp only [Lit.wf, Bool.and_eq_true, decide_eq_true_eq] at h
  have h1 : IntKind.i64.min = -9223372036854775808 := by decide
  have h2 : IntKind.i64.max = 9223372036854775807 := by decide
  rw [h1, h2] at h
  exact h

/-- Many values opened, one after the other. -/
theorem open_many {Q : List Int → Prop} {w : World} : ∀ (vs : List Value) {φ : Plan} {h : Heap}, Rep w.heap.size φ h w →
    (∀ v ∈ vs, ∃ l : List Int, Q l ∧ ∀ (φ : Plan) (h : Heap), Rep w.heap.size φ h w → Opened φ h w v (fun h' x => Ints h' x l)) →
    ∃ (xs : List H0) (L : List (List Int)) (φ' : Plan) (h' : Heap), Sub φ φ' ∧ Ext h h' ∧ Rep w.heap.size φ' h' w ∧ xs.length = vs.length ∧ L.length = vs.length ∧
      (∀ (i : Nat) (x : H0) (v : Value), xs[i]? = some x → vs[i]? = some v → rep0 φ' x v) ∧ (∀ (i : Nat) (x : H0) (l : List Int), xs[i]? = some x → L[i]? = some l → Ints h' x l) ∧ ∀ l ∈ L, Q l
  | [], φ, h, R, _ => ⟨[], [], φ, h, Sub.refl _, Ext.refl _, R, rfl, rfl, fun i x v e => by simp at e, fun i x v e => by simp at e, fun l e => by simp at e⟩
  | v :: vs, φ, h, R, each => by
    obtain ⟨l, hl, hop⟩ := each v (by simp)
    obtain ⟨x, φ1, h1, s1, e1, R1, r1, t1⟩ := hop φ h R
    obtain ⟨xs, L, φ2, h2, s2, e2, R2, n1, n2, r2, t2, b2⟩ := open_many vs R1 (fun v hv => each v (by simp [hv]))
    refine ⟨x :: xs, l :: L, φ2, h2, s1.trans s2, e1.trans e2, R2, by simp [n1], by simp [n2], fun i y v' hy hv => ?_, fun i y l' hy hl' => ?_, fun l' hl' => ?_⟩
    · cases i with
      | zero => simp at hy hv; subst hy; subst hv; exact rep0.mono s2 r1
      | succ i => exact r2 i y v' (by simpa using hy) (by simpa using hv)
    · cases i with
      | zero => simp at hy hl'; subst hy; subst hl'; exact t1.ext e2
      | succ i => exact t2 i y l' (by simpa using hy) (by simpa using hl')
    · rcases List.mem_cons.1 hl' with rfl | hm
      · exact hl
      · exact b2 l' hm

theorem Opened.mono {φ : Plan} {h : Heap} {w : World} {v : Value} {T T' : Heap → H0 → Prop} (H : Opened φ h w v T) (k : ∀ h' x, T h' x → T' h' x) : Opened φ h w v T' := by
  obtain ⟨x, φ', h', a, b, c, d, e⟩ := H
  exact ⟨x, φ', h', a, b, c, d, k _ _ e⟩

def Wide (l : List Int) : Prop := ∀ n ∈ l, -9223372036854775808 ≤ n ∧ n ≤ 9223372036854775807

def Sizes (L : List (List Int)) : Prop := L.length ≤ 9223372036854775807 ∧ ∀ i, (L.getD i []).length ≤ 9223372036854775807

/-- An argument that is a slice of slices of ints. -/
theorem open_arg_rowsI {H : Type} {enc : TypeId × Value → H} {P : Program} {w : World} {t u e : TypeId} {v : Value} {d : DataW H} {ps : List MemPlace} {base : Nat} (ht : P.underlying t = some (.slice u)) (hu : P.underlying u = some (.slice e)) (he : P.underlying e = some (.int .i64))
    (hcu : P.cellsOf u = 1) (hc : P.cellsOf e = 1) (hv : Value.okWide P w .any base t v) (h0 : DataW.Trod enc P w 0 (fun _ => true) true t v d ps) {φ : Plan} {h : Heap} (R : Rep w.heap.size φ h w) : ∃ L, Opened φ h w v (fun h' x => Rows h' x L ∧ Sizes L ∧ ∀ l ∈ L, Wide l) := by
  obtain ⟨a0, len, cap, rfl⟩ := okWide_slice ht hv
  obtain ⟨fuel, hf⟩ := h0
  have none_ : ∀ (ao : Option Addr) (cap : Nat), Opened φ h w (.slice ao 0 cap) (fun h' x => Rows h' x [] ∧ Sizes [] ∧ ∀ l ∈ ([] : List (List Int)), Wide l) := fun ao cap =>
    ⟨.pl (.slice ao 0 cap), φ, h, Sub.refl _, Ext.refl _, R, rfl, ⟨[], Shows.nils _ _, rfl, fun i y l e => by simp at e⟩, ⟨by simp, fun i => by simp⟩, fun l hl => by simp at hl⟩
  rcases DataW.trod_slice ht hf with ⟨hcs, hx⟩ | ⟨a, len', cap', elems, rest, n, rfl, hcs, _, _, hl, hm, hlen, hel, _⟩
  · simp [Value.cells] at hcs
    obtain ⟨rfl, rfl, rfl⟩ := hcs
    exact ⟨[], none_ none 0⟩
  · simp [Value.cells] at hcs
    obtain ⟨rfl, rfl, rfl⟩ := hcs
    by_cases hz : len = 0
    · subst hz
      exact ⟨[], none_ (some a) cap⟩
    have cell : ∀ i, i < len → ∃ c, w.cell? (a.add i) = some c ∧ ∃ l : List Int, (l.length ≤ maxLen ∧ Wide l) ∧ ∀ (φ : Plan) (h : Heap), Rep w.heap.size φ h w → Opened φ h w c (fun h' x => Ints h' x l) := by
      intro i hi
      have hE := hel i hi
      rw [hcu, Nat.mul_one, List.getElem?_eq_getElem (by omega), Option.bind_eq_some_iff] at hE
      obtain ⟨cs1, hc1, hy1⟩ := hE
      rcases open_ints hu he hc hy1 with ⟨rfl, _⟩ | ⟨b, l1, c1, zs, rfl, _, hl1, hm1, hz1, _, hcell, hwz⟩
      · exact ⟨_, cell_of_cells?_one hc1, [], ⟨by simp, fun n hn => by simp at hn⟩, fun φ h R => open_cells R none 0 0 [] (Nat.le_refl _) (by unfold maxLen; omega) rfl (fun _ => rfl) (fun a h => by cases h)⟩
      · simp only [if_true] at hz1
        exact ⟨_, cell_of_cells?_one hc1, zs.take l1, ⟨by simp; omega, fun n hn => i64_wf (hwz n (List.mem_of_mem_take hn))⟩, fun φ h R => open_cells R (some b) l1 c1 zs hl1 hm1 hz1 (fun h => by cases h) (fun a' h => by cases h; exact fun i hi => hcell i (by omega))⟩
    let vs : List Value := (List.range len).map fun i => (w.cell? (a.add i)).getD undef
    have hvl : vs.length = len := by simp [vs]
    have hvi : ∀ (i : Nat) (v : Value), vs[i]? = some v → i < len ∧ w.cell? (a.add i) = some v := by
      intro i v hv
      have hi : i < len := by have := (List.getElem?_eq_some_iff.1 hv).1; omega
      obtain ⟨c, hc, _⟩ := cell i hi
      simp only [vs, List.getElem?_map, List.getElem?_range hi, Option.map_some, hc, Option.getD_some, Option.some.injEq] at hv
      subst hv
      exact ⟨hi, hc⟩
    obtain ⟨xs, L, φ2, h2, s2, e2, R2, n1, n2, r2, t2, b2⟩ := open_many vs R (fun v hv => by
      obtain ⟨i, hi⟩ := List.getElem?_of_mem hv
      obtain ⟨hil, hc⟩ := hvi i v hi
      obtain ⟨c, hc2, rest⟩ := cell i hil
      rw [hc] at hc2
      cases hc2
      exact rest)
    obtain ⟨b, off, spot⟩ := a
    obtain ⟨c0, hc0, _⟩ := cell 0 (by omega)
    have hspot : spot = none := by simpa [Addr.add] using World.cell?_spot hc0
    subst hspot
    have hb : b < w.heap.size := World.block_lt_of_cell? w ⟨b, off, none⟩ (by simpa [Addr.add] using hc0)
    refine ⟨L, .sl h2.length 0 len, φ2 ++ [⟨b, off, cap⟩], h2 ++ [.ro xs], s2.trans (Sub.push _ _), e2.trans (Ext.push _ _), R2.pushRo ⟨b, off, cap⟩ hb _ (fun k c hk => ?_), ⟨⟨b, off, cap⟩, _, _, ?_, rfl, hl, hm, by simp, fun _ => rfl⟩, ⟨xs, ?_, by omega, fun i y l hy hl => (t2 i y l hy hl).ext (Ext.push _ _)⟩, ?_, fun l hl => (b2 l hl).2⟩
    · have hk2 : k < vs.length := by have := (List.getElem?_eq_some_iff.1 hk).1; omega
      obtain ⟨_, hc⟩ := hvi k vs[k] (List.getElem?_eq_getElem hk2)
      exact ⟨vs[k], by rw [← addr_add]; exact hc, r2 k c _ hk (List.getElem?_eq_getElem hk2)⟩
    · rw [← R2.len, List.getElem?_append_right (Nat.le_refl _)]
      simp
    · have := Shows.ro h2.length 0 len _ (get_new h2 (.ro xs)) (by omega)
      simp only [List.drop_zero] at this
      rw [List.take_of_length_le (by omega)] at this
      exact this
    · have hml : maxLen ≤ 9223372036854775807 := by unfold maxLen; omega
      refine ⟨by omega, fun i => ?_⟩
      by_cases hi : i < L.length
      · have := (b2 L[i] (List.getElem_mem hi)).1
        simp [List.getD, hi]
        omega
      · simp [List.getD, Nat.le_of_not_lt hi]

theorem open_arg_rows {H : Type} {enc : TypeId × Value → H} {P : Program} {w : World} {t u e : TypeId} {v : Value} {d : DataW H} {ps : List MemPlace} {base : Nat} (ht : P.underlying t = some (.slice u)) (hu : P.underlying u = some (.slice e)) (he : P.underlying e = some (.int .i64))
    (hcu : P.cellsOf u = 1) (hc : P.cellsOf e = 1) (hv : Value.okWide P w .any base t v) (h0 : DataW.Trod enc P w 0 (fun _ => true) true t v d ps) {φ : Plan} {h : Heap} (R : Rep w.heap.size φ h w) : ∃ L, Opened φ h w v (fun h' x => Rows h' x L ∧ Sizes L) := by
  obtain ⟨L, O⟩ := open_arg_rowsI ht hu he hcu hc hv h0 R
  exact ⟨L, O.mono fun h' x k => ⟨k.1, k.2.1⟩⟩

end Go.Proofs.YtgliajcgcbnemaaGreatDoor.Hx
