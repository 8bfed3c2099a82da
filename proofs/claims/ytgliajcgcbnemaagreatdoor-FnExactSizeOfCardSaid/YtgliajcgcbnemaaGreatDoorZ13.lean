/-
  The parts of a diagram, of the reference.
  DERIVED: THE SHELF's CONTRACTS AT THIS DUMP, IN PLAIN WORDS (tools/lay-plain.mjs out of 'YtgliajcgcbnemaaGreatDoorSs.lean', which tools/lay-shelf.mjs wrote): THE SAME DECLARATIONS UNDER THE SAME NAMES: 'import', 'namespace', 'open', 'def', 'theorem' AND NOTHING ELSE: no command of the shelf's: FOR A HAND-IN. Each laying: the table of numbers ('.._ren') and one theorem, a field a fact of the dump's own or the kernel's comparison; each contract: ONE APPLICATION.
  The parts of a diagram, of the program; HighestRoot of both sides.
  The reference's draws: a cursor over bytes (a struct behind a pointer), and what it draws: numbers, one of some numbers, one of some texts.
  Contracts of membership in lists of roots and of copies of matrices; a word read off its inversions, as plain functions.
  Words as maps of all places: the exchange of a letter, the deletion of two letters, and that the image of rho tells the map. Plain theory.
-/
import Derived.Test.YtgliajcgcbnemaaGreatDoorZ12
import Derived.Shelf.Sort.Plain
import Derived.Ground.NamesProg
import Derived.Test.YtgliajcgcbnemaaGreatDoorProg
import Derived.Laws.Strings
namespace Go.Proofs.YtgliajcgcbnemaaGreatDoor.Hx
open Go.RowKit
variable {dm : Bool}

theorem Srch.next {c : List (List Int)} {a : Nat} {S0 : Nat → Prop} {S : List Bool} {Q : List Int} {k : Nat} (H : Srch c a S0 S Q k) (h : ∀ j, Adj c (Q.getD k 0).toNat j → S.getD j false = true) : Srch c a S0 S Q (k + 1) :=
  ⟨H.len, H.seen, H.rch, H.nodup, H.head, fun t ht j hj => by
    by_cases e : t = k
    · rw [e] at hj
      exact h j hj
    · exact H.done t (by omega) j hj⟩
theorem Srch.few {c : List (List Int)} {a : Nat} {S0 : Nat → Prop} {S : List Bool} {Q : List Int} {k : Nat} (H : Srch c a S0 S Q k) : Q.length ≤ c.length := by
  have h1 : (Q.map fun x => [x]).length ≤ ((List.range c.length).map fun (j : Nat) => [(j : Int)]).length := nodup_le (by
    have hn := H.nodup
    unfold List.Nodup at *
    rw [List.pairwise_map]
    exact hn.imp fun h e => h (by simpa using e)) (fun x hx => by
    obtain ⟨z, hz, rfl⟩ := List.mem_map.1 hx
    obtain ⟨j, rfl, hj, _⟩ := H.rch z hz
    exact List.mem_map.2 ⟨j, List.mem_range.2 hj, rfl⟩)
  simpa using h1
theorem Srch.at {c : List (List Int)} {a : Nat} {S0 : Nat → Prop} {S : List Bool} {Q : List Int} {k : Nat} (H : Srch c a S0 S Q k) (hk : k < Q.length) : ∃ p : Nat, Q.getD k 0 = p ∧ p < c.length := by
  have e : Q.getD k 0 = Q[k] := by simp [List.getD, hk]
  obtain ⟨j, e2, hj, _⟩ := H.rch _ (List.getElem_mem hk)
  exact ⟨j, by rw [e, e2], hj⟩
theorem nbr_at {c : List (List Int)} {p n : Nat} (hn : n < (nbrTo c p c.length).length) : ∃ j : Nat, (nbrTo c p c.length).getD n 0 = j ∧ Adj c p j := by
  have e : (nbrTo c p c.length).getD n 0 = (nbrTo c p c.length)[n] := by simp [List.getD, hn]
  obtain ⟨j, e2, h1, h2, h3⟩ := mem_nbrTo.1 (List.getElem_mem hn)
  exact ⟨j, by rw [e, e2], h1, h2, h3⟩
theorem nbr_all {c : List (List Int)} {p j : Nat} (h : Adj c p j) : ∃ t, t < (nbrTo c p c.length).length ∧ (nbrTo c p c.length).getD t 0 = (j : Int) := by
  obtain ⟨t, ht, e⟩ := List.getElem_of_mem (mem_nbrTo.2 ⟨j, rfl, h.1, h.2.1, h.2.2⟩)
  exact ⟨t, ht, by simp [List.getD, ht, e]⟩
theorem getD_appV {Q : List Int} {v : Int} {k : Nat} (hk : k < Q.length) : (Q ++ [v]).getD k 0 = Q.getD k 0 := by
  simp only [List.getD]
  rw [List.getElem?_append_left hk]


set_option maxHeartbeats 1000000 in
theorem spec_l3Part (h : Heap) (x : H0) (c : List (List Int)) (i : Nat) (hx : Rows h x c) (hC : Cartan c) (hi : i < c.length) :
    HCalls dm Tryz.prog 179 [.s x, I i] h (fun r h' => ∃ y, r = .s y ∧ Fresh h h' y (partL c i)) := by
  have h4 := hC.le
  refine calls_of_hFun (m := 0) kd_ok mixed Tryz.func179 rfl (by kernel_rfl) rfl rfl (of_decide_eq_true rfl) ?_; unfold hFun; (conv => whnf)
  refine ⟨rfl, hx.len ?_⟩
  (conv => whnf)
  refine HMake.bits c.length rfl (by omega) (fun h1 yb E1 l1 B1 => ?_)
  (conv => whnf)
  refine ⟨rfl, B1.idx (by simp; omega) (fun hp => ?_)⟩
  (conv => whnf)
  refine ⟨rfl, B1.put (by simp; omega) (fun h2 U2 l2 B2 => ?_)⟩
  (conv => whnf)
  have E2 : Ext h h2 := E1.but U2 (Nat.le_refl _)
  clear hp
  refine HLit.oneG (v := (i : Int)) E2 (fun h3 yq q E3 E03 O3 hq => ?_)
  (conv => whnf)
  have S0 : Srch c i (fun _ => False) ((List.replicate c.length false).set i true) [(i : Int)] 0 := Srch.start (by simp) hi (fun e => e) (fun j hj => by simp [List.getD, hj])
  have hq3 : h.length < q := by omega
  have B3 := B2.ext E3
  generalize (List.replicate c.length false).set i true = S at B3 S0
  generalize [(i : Int)] = Q at O3 S0
  refine HLoop.intro [7, 6] [20, 21, 22, 23, 26, 27, 28, 29, 30, 31, 8, 9, 32, 33, 34, 35, 38, 39, 40, 41, 42, 43, 44, 45, 46, 47, 48, 49, 50, 51, 52, 53, 54, 55, 56, 57, 58, 6, 36, 37, 9, 24, 25, 7] (by kernel_rfl) (by kernel_rfl) (fun vs h' => ∃ (k q : Nat) (z : H0) (S : List Bool) (Q : List Int), vs = [I k, .s z] ∧ k ≤ Q.length ∧ Ext h h' ∧ BitR h.length h' yb S ∧ OwnR q h' z Q ∧ h.length < q ∧ Srch c i (fun _ => False) S Q k) (fun vs _ => c.length - natAt vs 0) ⟨0, q, yq, S, Q, rfl, by omega, E03, B3, O3, hq3, S0⟩ ?_
  clear E1 E2 E3 E03 B1 B2 B3 U2 O3 S0 hq3 l1 l2
  rintro vs h' ⟨k, q, z, S, Q, rfl, hk, E, B, O, hq, H⟩
  have hQ := H.few
  (conv => whnf)
  refine ⟨rfl, O.ints.len ?_⟩
  (conv => whnf)
  refine HIf.dec (fun hlt => ?_) (fun hge => ?_)
  · have hkl : k < Q.length := by omega
    obtain ⟨p, hp, hpc⟩ := H.at hkl
    (conv => whnf)
    refine ⟨rfl, O.ints.idxN hkl (fun a ha => ?_)⟩
    rw [hp] at ha
    (conv => whnf)
    refine ⟨rfl, ha.load ?_⟩
    (conv => whnf)
    refine (spec_NeighboursOf _ _ c p (hx.ext E) hC hpc).mono ?_
    rintro r h2 ⟨yl, rfl, F⟩
    obtain ⟨rl, hrl, OL⟩ := F.row
    have hnl := nbrTo_len c p c.length
    have hql := O.lt
    have hrlb : h.length < rl := by have := B.lt; omega
    have E2 := E.trans F.1
    replace B := B.ext F.1
    replace O := O.ext F.1
    have hbl := E.1
    (conv => whnf)
    refine HLoop.intro [9, 6] [32, 33, 34, 35, 38, 39, 40, 41, 42, 43, 44, 45, 46, 47, 48, 49, 50, 51, 52, 53, 54, 55, 56, 57, 58, 6, 36, 37, 9] (by kernel_rfl) (by kernel_rfl) (fun vs h' => ∃ (n q : Nat) (z : H0) (S : List Bool) (Q : List Int), vs = [I n, .s z] ∧ n ≤ (nbrTo c p c.length).length ∧ Ext h h' ∧ BitR h.length h' yb S ∧ OwnR q h' z Q ∧ h.length < q ∧ q ≠ rl ∧ OwnR rl h' yl (nbrTo c p c.length) ∧ k < Q.length ∧ Q.getD k 0 = p ∧ Srch c i (fun _ => False) S Q k ∧ ∀ t, t < n → ∀ j : Nat, (nbrTo c p c.length).getD t 0 = j → S.getD j false = true) (fun vs _ => (nbrTo c p c.length).length - natAt vs 0) ⟨0, q, z, S, Q, rfl, by omega, E2, B, O, hq, by omega, OL, hkl, hp, H, fun t ht => by omega⟩ ?_
    clear E E2 B O OL hq F hql H hp hk hlt hQ hkl ha
    rintro vs h' ⟨n, q, z, S, Q, rfl, hn, E, B, O, hq, hqr, OL, hkl, hp, H, hall⟩
    have hQ := H.few
    (conv => whnf)
    refine ⟨rfl, OL.ints.len ?_⟩
    (conv => whnf)
    refine HIf.dec (fun hlt => ?_) (fun hge => ?_)
    · have hnl : n < (nbrTo c p c.length).length := by omega
      obtain ⟨j, hj, hadj⟩ := nbr_at hnl
      have hjS : j < S.length := by rw [H.len]; exact hadj.1
      (conv => whnf)
      refine ⟨rfl, OL.ints.idxN hnl (fun a ha => ?_)⟩
      rw [hj] at ha
      (conv => whnf)
      refine ⟨rfl, ha.load ?_⟩
      (conv => whnf)
      refine ⟨rfl, B.idx hjS (fun hb => ?_)⟩
      (conv => whnf)
      refine ⟨rfl, hb.load ?_⟩
      (conv => whnf)
      cases hs : S.getD j false
      · (conv => whnf)
        refine HIf.yes ?_
        (conv => whnf)
        refine ⟨rfl, OL.ints.idxN hnl (fun a2 ha2 => ?_)⟩
        rw [hj] at ha2
        (conv => whnf)
        refine ⟨rfl, ha2.load ?_⟩
        (conv => whnf)
        refine ⟨rfl, B.idx hjS (fun hb2 => ?_)⟩
        (conv => whnf)
        refine ⟨rfl, B.put hjS (fun h5 U5 l5 B5 => ?_)⟩
        have E5 := E.but U5 (Nat.le_refl _)
        have O5 := O.but U5 (by omega)
        have hrl2 := OL.lt
        have OL5 := OL.but U5 (by omega)
        (conv => whnf)
        refine ⟨rfl, OL5.ints.idxN hnl (fun a3 ha3 => ?_)⟩
        rw [hj] at ha3
        (conv => whnf)
        refine ⟨rfl, ha3.load ?_⟩
        (conv => whnf)
        refine HLit.one ?_
        (conv => whnf)
        refine ⟨rfl, rfl, HApp.litR [(j : Int)] O5 (by simp; omega) (fun h6 q6 z6 U6 hq6 O6 => ?_)⟩
        have E6 := E5.but U6 (by omega)
        have B6 := B5.but U6 (by omega)
        have OL6 := OL5.but U6 (by omega)
        have H6 := H.push hkl (by rw [hp]; exact hadj) hs
        have hE5 := E5.1
        have hr5 := OL5.lt
        (conv => whnf)
        refine HArith.fits (by omega) (by omega) ?_
        (conv => whnf)
        exact ⟨⟨n + 1, q6, z6, _, _, rfl, by omega, E6, B6, O6, by have := B5.lt; omega, by omega, OL6, by simp; omega, by rw [getD_appV hkl]; exact hp, H6, fun t ht j' hj' => by
          rw [set_getD_bool hjS]
          split
          · rfl
          · by_cases e : t = n
            · subst e
              rw [hj] at hj'
              omega
            · exact hall t (by omega) j' hj'⟩, by show (nbrTo c p c.length).length - (n + 1) < (nbrTo c p c.length).length - n; omega⟩
      · (conv => whnf)
        refine HIf.no ?_
        (conv => whnf)
        refine HArith.fits (by omega) (by omega) ?_
        (conv => whnf)
        exact ⟨⟨n + 1, q, z, S, Q, rfl, by omega, E, B, O, hq, hqr, OL, hkl, hp, H, fun t ht j' hj' => by
          by_cases e : t = n
          · subst e
            rw [hj] at hj'
            have : j' = j := by omega
            rw [this]
            exact hs
          · exact hall t (by omega) j' hj'⟩, by show (nbrTo c p c.length).length - (n + 1) < (nbrTo c p c.length).length - n; omega⟩
    · have en : n = (nbrTo c p c.length).length := by omega
      have H2 := H.next (fun j hj => by
        rw [hp] at hj
        obtain ⟨t, ht, e⟩ := nbr_all (c := c) (p := p) hj
        exact hall t (by omega) j e)
      (conv => whnf)
      refine HArith.fits (by omega) (by omega) ?_
      (conv => whnf)
      exact ⟨⟨k + 1, q, z, S, Q, rfl, by omega, E, B, O, hq, H2⟩, by show c.length - (k + 1) < c.length - k; omega⟩
  · have ek : k = Q.length := by omega
    subst ek
    have hfin : ∀ j, j < c.length → (S.getD j false = true ↔ Rch c i j) := fun j hj => by
      rw [H.seen j hj, ← H.fin hC hi (fun e => e) (fun _ _ e => e.elim)]
      simp
    (conv => whnf)
    have E9 := E.pushed [Row.own []]
    refine HLit.empty ?_
    have B9 := B.ext (Ext.push h' [Row.own []])
    (conv => whnf)
    have hS := H.len
    have hO9 : ∃ r, h.length < r ∧ OwnR r (h' ++ [Row.own []]) (.sl h'.length 0 0) (partTo c i 0) := ⟨h'.length, B.lt, OwnR.push h' []⟩
    clear E O hq H hQ hk hge
    generalize h' ++ [Row.own []] = h5 at *
    generalize H0.sl h'.length 0 0 = z5 at *
    obtain ⟨r5, hr5, O5⟩ := hO9
    refine HLoop.intro [11, 10] [60, 61, 62, 63, 66, 67, 68, 69, 70, 71, 72, 73, 10, 64, 65, 11] (by kernel_rfl) (by kernel_rfl) (fun vs h' => ∃ (k r : Nat) (z : H0), vs = [I k, .s z] ∧ k ≤ c.length ∧ Ext h h' ∧ BitR h.length h' yb S ∧ h.length < r ∧ OwnR r h' z (partTo c i k)) (fun vs _ => c.length - natAt vs 0) ⟨0, r5, z5, rfl, by omega, E9, B9, hr5, O5⟩ ?_
    clear E9 B9 O5 hr5
    rintro vs h' ⟨k, r, z, rfl, hk, E, B, hr, O⟩
    have hpl := partTo_len c i k
    (conv => whnf)
    refine ⟨rfl, (hx.ext E).len ?_⟩
    (conv => whnf)
    refine HIf.dec (fun hlt => ?_) (fun hge => ?_)
    · have hkl : k < c.length := by omega
      (conv => whnf)
      refine ⟨rfl, B.idx (by omega) (fun hb => ?_)⟩
      (conv => whnf)
      refine ⟨rfl, hb.load ?_⟩
      (conv => whnf)
      have hf := hfin k hkl
      cases hs : S.getD k false
      · (conv => whnf)
        refine HIf.no ?_
        (conv => whnf)
        refine HArith.fits (by omega) (by omega) ?_
        (conv => whnf)
        rw [hs] at hf
        have hn : ¬ Rch c i k := fun e => by simpa using hf.2 e
        exact ⟨⟨k + 1, r, z, rfl, by omega, E, B, hr, by rw [partTo_out hn]; exact O⟩, by show c.length - (k + 1) < c.length - k; omega⟩
      · (conv => whnf)
        refine HIf.yes ?_
        (conv => whnf)
        refine HLit.one ?_
        (conv => whnf)
        refine ⟨rfl, rfl, HApp.litR [(k : Int)] O (by simp; omega) (fun h6 q6 z6 U6 hq6 O6 => ?_)⟩
        rw [← partTo_in (hf.1 hs)] at O6
        have hE := E.1
        have hB := B.lt
        (conv => whnf)
        refine HArith.fits (by omega) (by omega) ?_
        (conv => whnf)
        exact ⟨⟨k + 1, q6, z6, rfl, by omega, E.but U6 (by omega), B.but U6 (by omega), by omega, O6⟩, by show c.length - (k + 1) < c.length - k; omega⟩
    · have ek : k = c.length := by omega
      subst ek
      (conv => whnf)
      exact ⟨_, rfl, Fresh.ofRow E O (by omega)⟩

set_option maxHeartbeats 1000000 in
theorem spec_PartsOf (h : Heap) (x : H0) (c : List (List Int)) (hx : Rows h x c) (hc : c.length ≤ 1048576) :
    HCalls dm Tryz.prog 131 [.s x] h (fun r h' => ∃ y, r = .s y ∧ Ext h h' ∧ OwnM h.length h'.length h' y (partsC c)) := by
  refine calls_of_hFun (m := 0) kd_ok mixed Tryz.func131 rfl (by kernel_rfl) rfl rfl (of_decide_eq_true rfl) ?_; unfold hFun; (conv => whnf)
  have E0 := Ext.push h [Row.own []]
  refine HLit.empty ?_
  (conv => whnf)
  refine HLoop.intro [4, 3] [7, 8, 9, 10, 11, 12, 13, 14, 17, 18, 19, 5, 20, 21, 22, 23, 24, 25, 26, 27, 28, 3, 15, 16, 4] (by kernel_rfl) (by kernel_rfl) (fun vs h' => ∃ (k : Nat) (z : H0), vs = [I k, .s z] ∧ k ≤ c.length ∧ Ext h h' ∧ OwnM h.length h'.length h' z (partsTo c k) ∧ (isCartan c = false → k = 0)) (fun vs _ => c.length - natAt vs 0) ⟨0, _, rfl, by omega, E0, OwnM.none h, fun _ => rfl⟩ ?_
  clear E0
  rintro vs h' ⟨k, z, rfl, hk, E, O, h0⟩
  have hpl := partsTo_len c k
  (conv => whnf)
  refine ⟨rfl, (hx.ext E).len ?_⟩
  (conv => whnf)
  by_cases c0 : (k : Int) < (c.length : Int)
  rotate_left
  · have e : k = c.length := by omega
    (repeat (refine HIf.decF c0 ?_; (conv => whnf)))
    (repeat (refine HIf.no ?_; (conv => whnf)))
    refine ⟨_, rfl, E, ?_⟩
    cases hic : isCartan c
    · rw [partsC_off hic]
      rw [h0 hic] at O
      exact O
    · rw [partsC_on hic, ← e]
      exact O
  have hkl : k < c.length := by omega
  refine HIf.decT c0 ?_
  (conv => whnf)
  refine HIf.decT c0 ?_
  (conv => whnf)
  refine (spec_IsCartan _ _ _ (hx.ext E) (by omega)).mono ?_
  rintro r h2 ⟨rfl, hh⟩
  subst hh
  (conv => whnf)
  cases hic : isCartan c
  · rw [h0 hic] at O
    (repeat (first | (refine HIf.decT c0 ?_; (conv => whnf)) | (refine HIf.no ?_; (conv => whnf))))
    refine ⟨_, rfl, E, ?_⟩
    rw [partsC_off hic]
    exact O
  have hC := (isCartan_iff c).1 hic
  (repeat (first | (refine HIf.decT c0 ?_; (conv => whnf)) | (refine HIf.yes ?_; (conv => whnf))))
  refine (spec_l3Part _ _ c k (hx.ext E) hC hkl).mono ?_
  rintro r h3 ⟨y, rfl, F⟩
  have hpp := partL_pos hkl
  have hhd := partL_head hC hkl
  (conv => whnf)
  refine ⟨rfl, F.ints.idxN (n := 0) hpp (fun a ha => ?_)⟩
  (conv => whnf)
  refine ⟨rfl, ha.load ?_⟩
  (conv => whnf)
  refine HIf.beq (fun he => ?_) (fun hne => ?_)
  · have hm := hhd.1 he
    (conv => whnf)
    refine HLit.row (F.own).one ?_
    (conv => whnf)
    refine ⟨rfl, rfl, HApp.snocM E O F.1 F.own (by omega) (fun h4 y4 E4 O4 => ?_)⟩
    rw [← partsTo_in hm] at O4
    (conv => whnf)
    refine HArith.fits (by omega) (by omega) ?_
    (conv => whnf)
    exact ⟨⟨k + 1, y4, rfl, by omega, E4, O4, fun e => by cases e⟩, by show c.length - (k + 1) < c.length - k; omega⟩
  · have hm : isMin c k = false := by
      cases hm : isMin c k
      · rfl
      · exact absurd (hhd.2 hm) hne
    (conv => whnf)
    refine HArith.fits (by omega) (by omega) ?_
    (conv => whnf)
    exact ⟨⟨k + 1, z, rfl, by omega, E.trans F.1, by rw [partsTo_out hm]; exact (O.ext F.1).widen F.1.1, fun e => by cases e⟩, by show c.length - (k + 1) < c.length - k; omega⟩

theorem spec_IsConnected (h : Heap) (x : H0) (c : List (List Int)) (hx : Rows h x c) (hc : c.length ≤ 1048576) :
    HCalls dm Tryz.prog 184 [.s x] h (fun r h' => r = B (isConn c) ∧ Ext h h') := by
  refine calls_of_hFun (m := 0) kd_ok mixed Tryz.func184 rfl (by kernel_rfl) rfl rfl (of_decide_eq_true rfl) ?_; unfold hFun; (conv => whnf)
  refine (spec_PartsOf _ _ c hx hc).mono ?_
  rintro r h1 ⟨y, rfl, E, O⟩
  (conv => whnf)
  refine ⟨rfl, O.rows.len ?_⟩
  (conv => whnf)
  refine ⟨bEq ?_, E⟩
  rw [isConn_parts]
  by_cases e : (partsC c).length = 1
  · simp [e]
  · simp only [e, decide_false]
    symm
    rw [beq_eq_false_iff_ne]
    omega

end Go.Proofs.YtgliajcgcbnemaaGreatDoor.Hx

namespace Go.Proofs
open Go.Shelf
def Tryz.sortI_ren : Go.Shelf.Ren := ⟨fun | 189 => 189 | 125 => 151 | 257 => 230 | 128 => 207 | 129 => 208 | 294 => 253 | 295 => 254 | 296 => 255 | 297 => 256 | 298 => 257 | 299 => 258 | 216 => 259 | 300 => 260 | 301 => 261 | 328 => 277 | 329 => 235 | 330 => 236 | 331 => 278 | 332 => 279 | 215 => 209 | 343 => 298 | n => n, fun | 28 => 30 | 3 => 3 | 46 => 99 | 0 => 0 | 51 => 139 | 53 => 141 | 4 => 4 | 183 => 133 | 182 => 132 | 131 => 116 | 5 => 5 | 9 => 9 | 218 => 154 | 222 => 158 | 228 => 181 | 229 => 182 | n => n, fun | n => n⟩
theorem Tryz.sortI : Go.Proofs.Lays.n189 Tryz.prog Tryz.sortI_ren := {
  mixed := by kernel_rfl
  f125 := Tryz.func151.trans (congrArg some (by kernel_rfl))
  f128 := Tryz.func207.trans (congrArg some (by kernel_rfl))
  f129 := Tryz.func208.trans (congrArg some (by kernel_rfl))
  f189 := Tryz.func189.trans (congrArg some (by kernel_rfl))
  f215 := Tryz.func209.trans (congrArg some (by kernel_rfl))
  f216 := Tryz.func259.trans (congrArg some (by kernel_rfl))
  f257 := Tryz.func230.trans (congrArg some (by kernel_rfl))
  f294 := Tryz.func253.trans (congrArg some (by kernel_rfl))
  f295 := Tryz.func254.trans (congrArg some (by kernel_rfl))
  f296 := Tryz.func255.trans (congrArg some (by kernel_rfl))
  f297 := Tryz.func256.trans (congrArg some (by kernel_rfl))
  f298 := Tryz.func257.trans (congrArg some (by kernel_rfl))
  f299 := Tryz.func258.trans (congrArg some (by kernel_rfl))
  f300 := Tryz.func260.trans (congrArg some (by kernel_rfl))
  f301 := Tryz.func261.trans (congrArg some (by kernel_rfl))
  f328 := Tryz.func277.trans (congrArg some (by kernel_rfl))
  f329 := Tryz.func235.trans (congrArg some (by kernel_rfl))
  f330 := Tryz.func236.trans (congrArg some (by kernel_rfl))
  f331 := Tryz.func278.trans (congrArg some (by kernel_rfl))
  f332 := Tryz.func279.trans (congrArg some (by kernel_rfl))
  f343 := Tryz.func298.trans (congrArg some (by kernel_rfl))
  t0 := Tryz.underlying0
  a0 := Tryz.isAgg0
  z0 := Tryz.sizeOf0
  v0 := Tryz.zeroValue0
  t3 := Tryz.underlying3
  a3 := Tryz.isAgg3
  z3 := Tryz.sizeOf3
  v3 := Tryz.zeroValue3
  t4 := Tryz.underlying4
  a4 := Tryz.isAgg4
  z4 := Tryz.sizeOf4
  v4 := Tryz.zeroValue4
  t5 := Tryz.underlying5
  a5 := Tryz.isAgg5
  z5 := Tryz.sizeOf5
  v5 := Tryz.zeroValue5
  t9 := Tryz.underlying9
  a9 := Tryz.isAgg9
  z9 := Tryz.sizeOf9
  v9 := Tryz.zeroValue9
  t28 := Tryz.underlying30
  a28 := Tryz.isAgg30
  z28 := Tryz.sizeOf30
  v28 := Tryz.zeroValue30
  t46 := Tryz.underlying99
  a46 := Tryz.isAgg99
  z46 := Tryz.sizeOf99
  v46 := Tryz.zeroValue99
  t51 := Tryz.underlying139
  a51 := Tryz.isAgg139
  z51 := Tryz.sizeOf139
  v51 := Tryz.zeroValue139
  t53 := Tryz.underlying141
  a53 := Tryz.isAgg141
  z53 := Tryz.sizeOf141
  v53 := Tryz.zeroValue141
  t131 := Tryz.underlying116
  a131 := Tryz.isAgg116
  z131 := Tryz.sizeOf116
  v131 := Tryz.zeroValue116
  t182 := Tryz.underlying132
  a182 := Tryz.isAgg132
  z182 := Tryz.sizeOf132
  v182 := Tryz.zeroValue132
  t183 := Tryz.underlying133
  a183 := Tryz.isAgg133
  z183 := Tryz.sizeOf133
  v183 := Tryz.zeroValue133
  t218 := Tryz.underlying154
  a218 := Tryz.isAgg154
  z218 := Tryz.sizeOf154
  v218 := Tryz.zeroValue154
  t222 := Tryz.underlying158
  a222 := Tryz.isAgg158
  z222 := Tryz.sizeOf158
  v222 := Tryz.zeroValue158
  t228 := Tryz.underlying181
  a228 := Tryz.isAgg181
  z228 := Tryz.sizeOf181
  v228 := Tryz.zeroValue181
  t229 := Tryz.underlying182
  a229 := Tryz.isAgg182
  z229 := Tryz.sizeOf182
  v229 := Tryz.zeroValue182 }
end Go.Proofs

namespace Go.Proofs.YtgliajcgcbnemaaGreatDoor.Hx
open Go.RowKit
variable {dm : Bool}

theorem OwnR.sorted {r : Nat} {h : Heap} {l l' : List Int} {t : List H0} (hr : r < h.length) (e : l'.length = l.length) : OwnR r (h.set r (.own (l'.map ci ++ t))) (.sl r 0 l.length) l' := ⟨t, by rw [e], List.getElem?_set_self hr⟩
theorem But.set {h : Heap} {r : Nat} (x : Row) : But r h (h.set r x) := ⟨by simp, fun q _ hn => by rw [List.getElem?_set_ne (Ne.symm hn)]⟩

/-- What was seen before a point: what some earlier point reaches. -/
def Before (c : List (List Int)) (k j : Nat) : Prop := ∃ m, m < k ∧ Rch c m j

theorem Before.closed {c : List (List Int)} {k i j : Nat} (h : Before c k i) (a : Adj c i j) : Before c k j := by
  obtain ⟨m, h1, h2⟩ := h
  exact ⟨m, h1, h2.step a⟩
theorem notBefore {c : List (List Int)} {k : Nat} (h : ¬ Before c k k) : isMin c k = true := isMin_iff.2 fun j hj hr => h ⟨j, hj, hr⟩
theorem beforeNot {c : List (List Int)} {k : Nat} (h : Before c k k) : isMin c k = false := by
  cases hm : isMin c k
  · rfl
  · obtain ⟨m, h1, h2⟩ := h
    exact absurd h2 (isMin_iff.1 hm m h1)
theorem before_next {c : List (List Int)} {k j : Nat} : Before c (k + 1) j ↔ Before c k j ∨ Rch c k j := by
  constructor
  · rintro ⟨m, h1, h2⟩
    by_cases e : m = k
    · subst e; exact Or.inr h2
    · exact Or.inl ⟨m, by omega, h2⟩
  · rintro (⟨m, h1, h2⟩ | h)
    · exact ⟨m, by omega, h2⟩
    · exact ⟨k, by omega, h⟩
theorem before_same {c : List (List Int)} {k j : Nat} (h : Before c k k) : Before c (k + 1) j ↔ Before c k j := by
  rw [before_next]
  constructor
  · rintro (g | g)
    · exact g
    · obtain ⟨m, h1, h2⟩ := h
      exact ⟨m, h1, h2.trans g⟩
  · exact Or.inl


set_option maxHeartbeats 2000000 in
theorem impl_PartsOf (h : Heap) (x : H0) (c : List (List Int)) (hx : Rows h x c) (hc : c.length ≤ 1048576) :
    HCalls dm Tryz.prog 137 [.s x] h (fun r h' => ∃ y, r = .s y ∧ Ext h h' ∧ OwnM h.length h'.length h' y (partsC c)) := by
  refine calls_of_hFun (m := 0) kd_ok mixed Tryz.func137 rfl (by kernel_rfl) rfl rfl (of_decide_eq_true rfl) ?_; unfold hFun; (conv => whnf)
  have E0 := Ext.push h [Row.own []]
  refine HLit.empty ?_
  (conv => whnf)
  refine (impl_IsCartan _ _ _ (hx.ext E0) (by omega)).mono ?_
  rintro r h1 ⟨rfl, hh⟩
  subst hh
  (conv => whnf)
  cases hic : isCartan c
  · (repeat (first | (refine HIf.no ?_; (conv => whnf)) | (refine HIf.yes ?_; (conv => whnf))))
    rw [partsC_off hic]
    exact ⟨_, rfl, E0, OwnM.none h⟩
  have hC := (isCartan_iff c).1 hic
  have h4 := hC.le
  rw [partsC_on hic]
  (repeat (first | (refine HIf.no ?_; (conv => whnf)) | (refine HIf.yes ?_; (conv => whnf))))
  refine ⟨rfl, (hx.ext E0).len ?_⟩
  (conv => whnf)
  refine HMake.bits c.length rfl (by omega) (fun h1 yb E1 l1 B1 => ?_)
  (conv => whnf)
  have E01 := E0.trans E1
  refine ⟨rfl, (hx.ext E01).len ?_⟩
  (conv => whnf)
  have M0 : MatP (fun p => h.length ≤ p ∧ p ≠ (h ++ [Row.own []]).length) (h ++ [Row.own []]) (.sl h.length 0 0) (partsTo c 0) := MatP.none ⟨Nat.le_refl _, by simp⟩
  have M1 := M0.ext E1
  have hb0 : h.length < (h ++ [Row.own []]).length := by simp
  clear M0 E0 E1
  generalize (h ++ [Row.own []]).length = b at *
  have hB1 := B1.lt
  have hs1 : (List.replicate c.length false).length = c.length := by simp
  have hS1 : ∀ j, j < c.length → ((List.replicate c.length false).getD j false = true ↔ Before c 0 j) := fun j hj => by
    constructor
    · intro e
      rw [List.getD, List.getElem?_eq_getElem (by simpa using hj)] at e
      simp at e
    · rintro ⟨m, hm, _⟩
      omega
  generalize List.replicate c.length false = S1 at *
  refine HLoop.intro [20, 3] [21, 22, 5, 23, 24, 25, 26, 27, 28, 29, 30, 31, 6, 7, 32, 33, 34, 35, 38, 39, 40, 41, 42, 43, 44, 45, 46, 47, 48, 9, 49, 50, 51, 52, 53, 54, 55, 56, 57, 58, 59, 60, 6, 61, 45, 36, 37, 7, 62, 63, 64, 65, 66, 67, 3, 68, 20] (by kernel_rfl) (by kernel_rfl) (fun vs h' => ∃ (k : Nat) (z : H0) (S : List Bool), vs = [I k, .s z] ∧ k ≤ c.length ∧ Ext h h' ∧ BitR b h' yb S ∧ MatP (fun p => h.length ≤ p ∧ p ≠ b) h' z (partsTo c k) ∧ S.length = c.length ∧ ∀ j, j < c.length → (S.getD j false = true ↔ Before c k j)) (fun vs _ => c.length - natAt vs 0) ⟨0, _, S1, rfl, by omega, E01, B1, M1, hs1, hS1⟩ ?_
  clear E01 B1 M1 l1 hB1 hs1 hS1
  rintro vs h' ⟨k, z, S, rfl, hk, E, B, M, hsl, hS⟩
  have hpl := partsTo_len c k
  (conv => whnf)
  refine HIf.dec (fun hlt => ?_) (fun hge => ?_)
  rotate_left
  · have e : k = c.length := by omega
    subst e
    (conv => whnf)
    exact ⟨_, rfl, E, M.own fun p _ hp => hp.1⟩
  have hkl : k < c.length := by omega
  (conv => whnf)
  refine ⟨rfl, B.idx (by omega) (fun hb => ?_)⟩
  (conv => whnf)
  refine ⟨rfl, hb.load ?_⟩
  (conv => whnf)
  cases hs : S.getD k false
  rotate_left
  · have hbe := (hS k hkl).1 hs
    refine HIf.yes ?_
    (conv => whnf)
    refine HArith.fits (by omega) (by omega) ?_
    (conv => whnf)
    exact ⟨⟨k + 1, z, S, rfl, by omega, E, B, by rw [partsTo_out (beforeNot hbe)]; exact M, hsl, fun j hj => by rw [before_same hbe]; exact hS j hj⟩, by show c.length - (k + 1) < c.length - k; omega⟩
  have hnb : ¬ Before c k k := fun e => by rw [(hS k hkl).2 e] at hs; cases hs
  have hmin := notBefore hnb
  refine HIf.no ?_
  (conv => whnf)
  refine ⟨rfl, B.idx (by omega) (fun hb2 => ?_)⟩
  (conv => whnf)
  refine ⟨rfl, B.put (by omega) (fun h2 U2 l2 B2 => ?_)⟩
  (conv => whnf)
  have E2 := E.but U2 (by omega)
  have M2 := M.bound.but U2 (fun e => e.1.2 rfl)
  have hB := B2.lt
  refine HLit.oneG (v := (k : Int)) E2 (fun h3 yq q E3 E03 O3 hq => ?_)
  (conv => whnf)
  have SR0 : Srch c k (Before c k) (S.set k true) [(k : Int)] 0 := Srch.start hsl hkl hnb hS
  have M3 := M2.ext E3
  have B3 := B2.ext E3
  have hN : h'.length ≤ q := by omega
  have hbN : b < h'.length := by omega
  generalize h'.length = N at *
  generalize S.set k true = S3 at B3 SR0
  generalize [(k : Int)] = Q3 at O3 SR0
  clear B M B2 M2 E E2 E3 U2 hb hb2 hs hS hsl hq l2 hB
  refine HLoop.intro [7, 6] [32, 33, 34, 35, 38, 39, 40, 41, 42, 43, 44, 45, 46, 47, 48, 9, 49, 50, 51, 52, 53, 54, 55, 56, 57, 58, 59, 60, 6, 61, 45, 36, 37, 7] (by kernel_rfl) (by kernel_rfl) (fun vs h' => ∃ (t q : Nat) (y : H0) (S : List Bool) (Q : List Int), vs = [I t, .s y] ∧ t ≤ Q.length ∧ Ext h h' ∧ BitR b h' yb S ∧ OwnR q h' y Q ∧ N ≤ q ∧ MatP (fun p => (h.length ≤ p ∧ p ≠ b) ∧ p < N) h' z (partsTo c k) ∧ Srch c k (Before c k) S Q t) (fun vs _ => c.length - natAt vs 0) ⟨0, q, yq, S3, Q3, rfl, by omega, E03, B3, O3, hN, M3, SR0⟩ ?_
  clear E03 B3 O3 M3 SR0 hN
  rintro vs h' ⟨t, q, y, S, Q, rfl, ht, E, B, O, hq, M, H⟩
  have hQ := H.few
  (conv => whnf)
  refine ⟨rfl, O.ints.len ?_⟩
  (conv => whnf)
  refine HIf.dec (fun hlt2 => ?_) (fun hge2 => ?_)
  · have htl : t < Q.length := by omega
    obtain ⟨p, hp, hpc⟩ := H.at htl
    (conv => whnf)
    refine ⟨rfl, O.ints.idxN htl (fun a ha => ?_)⟩
    rw [hp] at ha
    (conv => whnf)
    refine ⟨rfl, ha.load ?_⟩
    (conv => whnf)
    refine (impl_NeighboursOf _ _ c p (hx.ext E) hC hpc).mono ?_
    rintro r h2 ⟨yl, rfl, F⟩
    obtain ⟨rl, hrl, OL⟩ := F.row
    have hnl := nbrTo_len c p c.length
    have hql := O.lt
    have E2 := E.trans F.1
    replace B := B.ext F.1
    replace O := O.ext F.1
    replace M := M.ext F.1
    (conv => whnf)
    refine ⟨rfl, OL.ints.len ?_⟩
    (conv => whnf)
    refine HLoop.intro [45, 6] [46, 47, 48, 9, 49, 50, 51, 52, 53, 54, 55, 56, 57, 58, 59, 60, 6, 61, 45] (by kernel_rfl) (by kernel_rfl) (fun vs h' => ∃ (n q : Nat) (y : H0) (S : List Bool) (Q : List Int), vs = [I n, .s y] ∧ n ≤ (nbrTo c p c.length).length ∧ Ext h h' ∧ BitR b h' yb S ∧ OwnR q h' y Q ∧ N ≤ q ∧ q ≠ rl ∧ OwnR rl h' yl (nbrTo c p c.length) ∧ MatP (fun p => (h.length ≤ p ∧ p ≠ b) ∧ p < N) h' z (partsTo c k) ∧ t < Q.length ∧ Q.getD t 0 = p ∧ Srch c k (Before c k) S Q t ∧ ∀ u, u < n → ∀ j : Nat, (nbrTo c p c.length).getD u 0 = j → S.getD j false = true) (fun vs _ => (nbrTo c p c.length).length - natAt vs 0) ⟨0, q, y, S, Q, rfl, by omega, E2, B, O, hq, by omega, OL, M, htl, hp, H, fun u hu => by omega⟩ ?_
    have hNl := E2.1
    have hrlN : N ≤ rl := by omega
    clear E E2 B O OL hq F hql H hp ht hlt2 hQ htl ha M hrl
    rintro vs h' ⟨n, q, y, S, Q, rfl, hn, E, B, O, hq, hqr, OL, M, htl, hp, H, hall⟩
    have hQ := H.few
    (conv => whnf)
    refine HIf.dec (fun hlt3 => ?_) (fun hge3 => ?_)
    · have hnl : n < (nbrTo c p c.length).length := by omega
      obtain ⟨j, hj, hadj⟩ := nbr_at hnl
      have hjS : j < S.length := by rw [H.len]; exact hadj.1
      (conv => whnf)
      refine ⟨rfl, OL.ints.idxN hnl (fun a ha => ?_)⟩
      rw [hj] at ha
      (conv => whnf)
      refine ⟨rfl, ha.load ?_⟩
      (conv => whnf)
      have hso : S.getD j false = false ∨ S.getD j false = true := by cases S.getD j false <;> simp
      rcases hso with hs | hs
      · refine ⟨rfl, B.idx hjS (fun hb => ?_)⟩
        rw [hs] at hb
        (conv => whnf)
        refine ⟨rfl, hb.load ?_⟩
        (conv => whnf)
        refine HIf.yes ?_
        (conv => whnf)
        refine ⟨rfl, B.idx hjS (fun hb2 => ?_)⟩
        (conv => whnf)
        refine ⟨rfl, B.put hjS (fun h5 U5 l5 B5 => ?_)⟩
        have E5 := E.but U5 (by omega)
        have O5 := O.but U5 (by omega)
        have hrl2 := OL.lt
        have OL5 := OL.but U5 (by omega)
        have M5 := M.but U5 (fun e => e.1.2 rfl)
        (conv => whnf)
        refine HLit.one ?_
        (conv => whnf)
        refine ⟨rfl, rfl, HApp.litR [(j : Int)] O5 (by simp; omega) (fun h6 q6 z6 U6 hq6 O6 => ?_)⟩
        have E6 := E5.but U6 (by omega)
        have B6 := B5.but U6 (by omega)
        have OL6 := OL5.but U6 (by omega)
        have M6 := M5.but U6 (by omega)
        have H6 := H.push htl (by rw [hp]; exact hadj) hs
        have hB5 := B5.lt
        have hr5 := OL5.lt
        have hO5 := O5.lt
        (conv => whnf)
        refine HArith.fits (by omega) (by omega) ?_
        (conv => whnf)
        exact ⟨⟨n + 1, q6, z6, _, _, rfl, by omega, E6, B6, O6, by omega, by omega, OL6, M6, by simp; omega, by rw [getD_appV htl]; exact hp, H6, fun u hu j' hj' => by
          rw [set_getD_bool hjS]
          split
          · rfl
          · by_cases e : u = n
            · subst e
              rw [hj] at hj'
              omega
            · exact hall u (by omega) j' hj'⟩, by show (nbrTo c p c.length).length - (n + 1) < (nbrTo c p c.length).length - n; omega⟩
      · refine ⟨rfl, B.idx hjS (fun hb => ?_)⟩
        rw [hs] at hb
        (conv => whnf)
        refine ⟨rfl, hb.load ?_⟩
        (conv => whnf)
        refine HIf.no ?_
        (conv => whnf)
        refine HArith.fits (by omega) (by omega) ?_
        (conv => whnf)
        exact ⟨⟨n + 1, q, y, S, Q, rfl, by omega, E, B, O, hq, hqr, OL, M, htl, hp, H, fun u hu j' hj' => by
          by_cases e : u = n
          · subst e
            rw [hj] at hj'
            have : j' = j := by omega
            rw [this]
            exact hs
          · exact hall u (by omega) j' hj'⟩, by show (nbrTo c p c.length).length - (n + 1) < (nbrTo c p c.length).length - n; omega⟩
    · have en : n = (nbrTo c p c.length).length := by omega
      have H2 := H.next (fun j hj => by
        rw [hp] at hj
        obtain ⟨u, hu, e⟩ := nbr_all (c := c) (p := p) hj
        exact hall u (by omega) j e)
      (conv => whnf)
      refine HArith.fits (by omega) (by omega) ?_
      (conv => whnf)
      exact ⟨⟨t + 1, q, y, S, Q, rfl, by omega, E, B, O, hq, M, H2⟩, by show c.length - (t + 1) < c.length - t; omega⟩
  · have et : t = Q.length := by omega
    subst et
    have hfin : ∀ j : Nat, (j : Int) ∈ Q ↔ Rch c k j := fun j => H.fin hC hkl hnb (fun i _ hi j hj => hi.closed hj)
    have hsort := sort_part hkl H.nodup (fun x hx => by obtain ⟨j, e, hj, _⟩ := H.rch x hx; exact ⟨j, e, hj⟩) hfin
    have hQp : 0 < Q.length := List.length_pos_of_mem H.head
    have hql := O.lt
    have hslen : (partL c k).length = Q.length := by rw [← hsort]; exact List.length_mergeSort Q
    have hSe : ∀ j, j < c.length → (S.getD j false = true ↔ Before c (k + 1) j) := fun j hj => by rw [before_next, H.seen j hj, hfin]
    have hSl := H.len
    obtain ⟨tl, rfl, hrow⟩ := O
    have hcall := sortI_calls (dm := dm) (P := Tryz.prog) Tryz.sortI hrow hQp (by omega)
    change HCalls dm Tryz.prog 189 _ _ _ at hcall
    (conv => whnf)
    refine hcall.mono ?_
    rintro r h5 ⟨rfl, rfl⟩
    rw [hsort]
    have U5 : But q h' (h'.set q (.own ((partL c k).map ci ++ tl))) := But.set _
    have O5 : OwnR q (h'.set q (.own ((partL c k).map ci ++ tl))) (.sl q 0 Q.length) (partL c k) := OwnR.sorted hql hslen
    have E5 := E.but U5 (by omega)
    have B5 := B.but U5 (by omega)
    have M5 := M.but U5 (by omega)
    generalize h'.set q (.own ((partL c k).map ci ++ tl)) = h5 at *
    (conv => whnf)
    refine HLit.row (O5.own (b := 0) (by omega)).one ?_
    (conv => whnf)
    refine ⟨rfl, rfl, HApp.snocP M5 O5 (by omega) (by omega) (fun h6 z6 K6 l6 M6 => ?_)⟩
    rw [← partsTo_in hmin] at M6
    have hE5 := E5.1
    have hB5 := B5.lt
    have E6 : Ext h h6 := ⟨by omega, fun p hp => by rw [K6 p (by omega) (by omega)]; exact E5.2 p hp⟩
    have B6 : BitR b h6 yb S := ⟨B5.1, by rw [K6 b hB5 (fun e => e.1.2 rfl)]; exact B5.2⟩
    (conv => whnf)
    refine HArith.fits (by omega) (by omega) ?_
    (conv => whnf)
    exact ⟨⟨k + 1, z6, S, rfl, by omega, E6, B6, M6.weaken (fun p hp => by
      rintro (⟨⟨g, g2⟩, _⟩ | g | g)
      · exact ⟨g, g2⟩
      · exact ⟨by omega, by omega⟩
      · exact ⟨by omega, by omega⟩), hSl, hSe⟩, by show c.length - (k + 1) < c.length - k; omega⟩

theorem impl_IsConnected (h : Heap) (x : H0) (c : List (List Int)) (hx : Rows h x c) (hc : c.length ≤ 1048576) :
    HCalls dm Tryz.prog 190 [.s x] h (fun r h' => r = B (isConn c) ∧ Ext h h') := by
  refine calls_of_hFun (m := 0) kd_ok mixed Tryz.func190 rfl (by kernel_rfl) rfl rfl (of_decide_eq_true rfl) ?_; unfold hFun; (conv => whnf)
  refine (impl_PartsOf _ _ c hx hc).mono ?_
  rintro r h1 ⟨y, rfl, E, O⟩
  (conv => whnf)
  refine ⟨rfl, O.rows.len ?_⟩
  (conv => whnf)
  refine ⟨bEq ?_, E⟩
  rw [isConn_parts]
  by_cases e : (partsC c).length = 1
  · simp [e]
  · simp only [e, decide_false]
    symm
    rw [beq_eq_false_iff_ne]
    omega

end Go.Proofs.YtgliajcgcbnemaaGreatDoor.Hx

namespace Go.Proofs.YtgliajcgcbnemaaGreatDoor.Hx
open Go.RowKit
variable {dm : Bool}

/-- A cell that holds a byte; a cell that holds a text. -/
abbrev cby (n : Int) : H0 := .pl (.int .u8 n)
abbrev cst (s : ByteArray) : H0 := .pl (.string s)
abbrev St (s : ByteArray) : HV := .s (.pl (.string s))

def Bytes (h : Heap) (x : H0) (l : List Int) : Prop := Shows h (.s x) (l.map cby) ∧ l.length ≤ 1048576 ∧ ∀ y ∈ l, 0 ≤ y ∧ y < 256

/-- The cursor: a struct of a slice of bytes and two numbers, in row r. -/
def Cur (r : Nat) (h : Heap) (x : H0) : Prop := x = .ptr r 0 ∧ ∃ (b : H0) (l : List Int) (i hh : Int), h[r]? = some (.own [b, ci i, ci hh]) ∧ Bytes h b l ∧ (∀ q o n, b = .sl q o n → q < r) ∧ 0 ≤ i ∧ i ≤ 1048576

theorem HConv.of {k k' : IntKind} {n : Int} {K : HV → Prop} (hK : K (.s (.pl (.int k (k.wrap n))))) : HConv k (.s (.pl (.int k' n))) K := ⟨k', n, rfl, hK⟩
/-- Only row r has changed. -/
abbrev KeepR (r : Nat) : Heap → Heap → Prop := KeepN (fun q => q = r)

/-- A slice of texts. -/
def Strs (h : Heap) (x : H0) (l : List ByteArray) : Prop := Shows h (.s x) (l.map cst)

end Go.Proofs.YtgliajcgcbnemaaGreatDoor.Hx

namespace Go.Proofs.YtgliajcgcbnemaaGreatDoor.Hx
open Go.RowKit
variable {dm : Bool}

theorem takeL_snoc (L : List (List Int)) {k : Nat} (h : k < L.length) : L.take (k + 1) = L.take k ++ [L.getD k []] := by
  rw [List.take_succ_eq_append_getElem h]
  simp [List.getD, h]
/-- The first simple root in a list. -/
def firstS (c : List (List Int)) (L : List (List Int)) : Option Nat := (List.range c.length).find? fun i => decide (simpleRoot c (i : Nat) ∈ L)
/-- The first k roots reflected, the simple one left out; nothing if one of them is not positive or comes twice. -/
def nextTo (c : List (List Int)) (i : Nat) (L : List (List Int)) : Nat → Option (List (List Int))
  | 0 => some []
  | k + 1 => match nextTo c i L k with
    | none => none
    | some R => if L.getD k [] = simpleRoot c (i : Nat) then some R else if rootSign (reflectRoot c (i : Nat) (L.getD k [])) = 1 ∧ reflectRoot c (i : Nat) (L.getD k []) ∉ R then some (R ++ [reflectRoot c (i : Nat) (L.getD k [])]) else none
def woi (c : List (List Int)) : Nat → List (List Int) → List Int → Option (List Int)
  | 0, _, _ => none
  | f + 1, L, o => if L.length = 0 then some o else match firstS c L with
    | none => none
    | some i => match nextTo c i L L.length with
      | none => none
      | some R => woi c f R (o ++ [(i : Int)])
def woiOk (c : List (List Int)) (L : List (List Int)) : Bool := isCartan c && (woi c 16 L []).isSome
def woiW (c : List (List Int)) (L : List (List Int)) : List Int := if isCartan c then (woi c 16 L []).getD [] else []

/-- A slice of slices that is only read: it lay there before, or lies in rows of its own, not row r. -/
def RdM (h0 : Heap) (r : Nat) (h : Heap) (y : H0) (L : List (List Int)) : Prop := Rows h0 y L ∨ ∃ b e, e ≤ h.length ∧ (r < b ∨ e ≤ r) ∧ OwnM b e h y L
theorem spec_l2Copy (h : Heap) (x0 : H0) (L : List (List Int)) (hx0 : Rows h x0 L) (hL : L.length ≤ 1048576 ∧ tot L ≤ 1048576) :
    HCalls dm Tryz.prog 104 [.s x0] h (fun r h' => ∃ y, r = .s y ∧ Ext h h' ∧ OwnM h.length h'.length h' y L) := by
  refine calls_of_hFun (m := 0) kd_ok mixed Tryz.func104 rfl (by kernel_rfl) rfl rfl (of_decide_eq_true rfl) ?_; unfold hFun; (conv => whnf)
  refine HLit.empty ?_
  (conv => whnf)
  refine HLoop.intro [4, 3] [6, 7, 8, 9, 12, 13, 14, 15, 16, 17, 18, 19, 20, 3, 10, 11, 4] (by kernel_rfl) (by kernel_rfl) (fun vs h' => ∃ (k : Nat) (z : H0), vs = [I k, .s z] ∧ k ≤ L.length ∧ Ext h h' ∧ OwnM h.length h'.length h' z (L.take k)) (fun vs _ => L.length - natAt vs 0) ⟨0, _, rfl, by omega, Ext.push _ _, OwnM.none h⟩ ?_
  rintro vs h' ⟨k, z, rfl, hk, E, O⟩
  have hx0 := hx0.ext E
  (conv => whnf)
  refine ⟨rfl, hx0.len ?_⟩
  (conv => whnf)
  refine HIf.dec (fun hlt => ?_) (fun hge => ?_)
  · have hle := len_le_tot (L := L) (i := k) (by omega)
    have E1 := Ext.push h' [Row.own []]
    (conv => whnf)
    refine HLit.empty ?_
    (conv => whnf)
    refine ⟨rfl, Rows.idxN (hx0.ext E1) (by omega) (fun p y hp hy => ?_)⟩
    (conv => whnf)
    refine ⟨rfl, hp.load ?_⟩
    (conv => whnf)
    refine ⟨rfl, rfl, HApp.moreR (OwnR.push h' []) hy (by rw [List.length_nil]; omega) (fun h2 r2 y2 B2 hr2 O2 => ?_)⟩
    have E2 := E1.but B2 (Nat.le_refl _)
    have hE1 := E1.1
    rw [List.nil_append] at O2
    (conv => whnf)
    refine HLit.row (O2.own (Nat.zero_le _)).one ?_
    (conv => whnf)
    refine ⟨rfl, rfl, HApp.snocM E O E2 (O2.own (by omega)) (by simp; omega) (fun h4 y4 E4 O4 => ?_)⟩
    rw [← takeL_snoc L (by omega)] at O4
    (conv => whnf)
    refine HArith.fits (by omega) (by omega) ?_
    (conv => whnf)
    exact ⟨⟨k + 1, y4, rfl, by omega, E4, O4⟩, by show L.length - (k + 1) < L.length - k; omega⟩
  · have e : k = L.length := by omega
    subst e
    rw [List.take_length] at O
    (conv => whnf)
    exact ⟨_, rfl, E, O⟩

end Go.Proofs.YtgliajcgcbnemaaGreatDoor.Hx

namespace Go.Proofs.YtgliajcgcbnemaaGreatDoor.Hx
open Go.RowKit

/-- Two words do the same to every place. -/
def Lin (c : List (List Int)) (a b : List Int) : Prop := ∀ v : Pos, actS (ent c) a v = actS (ent c) b v

theorem Lin.refl (c : List (List Int)) (a : List Int) : Lin c a a := fun _ => rfl
theorem Lin.symm {c : List (List Int)} {a b : List Int} (h : Lin c a b) : Lin c b a := fun v => (h v).symm
theorem Lin.trans {c : List (List Int)} {a b d : List Int} (h : Lin c a b) (k : Lin c b d) : Lin c a d := fun v => (h v).trans (k v)
theorem Lin.app {c : List (List Int)} {a b a' b' : List Int} (h : Lin c a b) (k : Lin c a' b') : Lin c (a ++ a') (b ++ b') := fun v => by rw [actS_app, actS_app, k v, h]
theorem Lin.cons {c : List (List Int)} {a b : List Int} (i : Int) (h : Lin c a b) : Lin c (i :: a) (i :: b) := Lin.app (Lin.refl c [i]) h

theorem Br.lin {c : List (List Int)} {a b : List Int} (h : Br c a b) : Lin c a b := by
  cases h with
  | mk p i j m q hb h2 =>
    obtain ⟨hC, hi, hj, hij, e⟩ := bond_info hb h2
    have p1 := point_of hi
    have p2 := point_of hj
    refine Lin.app (Lin.refl c p) (Lin.app (fun v => ?_) (Lin.refl c q))
    rw [actS_alt, actS_alt, e, alt_rel (matOk hC) (i := i.toNat) (j := j.toNat) (by omega) (by omega) (by omega)]

theorem twice {c : List (List Int)} (hC : Cartan c) {i : Int} (hi : isPoint c i = true) (w : List Int) : Lin c (i :: i :: w) w := fun v => by
  have p1 := point_of hi
  exact sr_sr ((matOk hC).diag i.toNat (by omega)) _

theorem bondP_cases {p : Int} (h : 2 ≤ bondP p) : bondP p = 2 ∨ bondP p = 3 ∨ bondP p = 4 ∨ bondP p = 6 := by
  unfold bondP at h ⊢
  split
  · exact Or.inl rfl
  · split
    · exact Or.inr (Or.inl rfl)
    · split
      · exact Or.inr (Or.inr (Or.inl rfl))
      · split
        · exact Or.inr (Or.inr (Or.inr rfl))
        · rename_i h1 h2 h3 h4
          rw [if_neg h1, if_neg h2, if_neg h3, if_neg h4] at h
          omega

/-- A letter less of one row of turns is a letter less of the other. -/
theorem alt_erase {c : List (List Int)} (hC : Cartan c) {i j : Int} (hi : isPoint c i = true) (hj : isPoint c j = true) {m : Nat} (hm : m = 2 ∨ m = 3 ∨ m = 4 ∨ m = 6) {k : Nat} (hk : k < m) :
    Lin c ((altTo i j m).eraseIdx k) ((altTo j i m).eraseIdx (m - 1 - k)) := by
  have p1 := point_of hi
  have p2 := point_of hj
  have d1 : ∀ v, sr (ent c) i.toNat (sr (ent c) i.toNat v) = v := sr_sr ((matOk hC).diag i.toNat (by omega))
  have d2 : ∀ v, sr (ent c) j.toNat (sr (ent c) j.toNat v) = v := sr_sr ((matOk hC).diag j.toNat (by omega))
  intro v
  rcases hm with rfl | rfl | rfl | rfl
  · have e : k = 0 ∨ k = 1 := by omega
    rcases e with rfl | rfl <;> rfl
  · have e : k = 0 ∨ k = 1 ∨ k = 2 := by omega
    rcases e with rfl | rfl | rfl
    · rfl
    · show sr (ent c) i.toNat (sr (ent c) i.toNat v) = sr (ent c) j.toNat (sr (ent c) j.toNat v)
      rw [d1, d2]
    · rfl
  · have e : k = 0 ∨ k = 1 ∨ k = 2 ∨ k = 3 := by omega
    rcases e with rfl | rfl | rfl | rfl
    · rfl
    · show sr (ent c) i.toNat (sr (ent c) i.toNat (sr (ent c) j.toNat v)) = sr (ent c) j.toNat (sr (ent c) i.toNat (sr (ent c) i.toNat v))
      rw [d1, d1]
    · show sr (ent c) i.toNat (sr (ent c) j.toNat (sr (ent c) j.toNat v)) = sr (ent c) j.toNat (sr (ent c) j.toNat (sr (ent c) i.toNat v))
      rw [d2, d2]
    · rfl
  · have e : k = 0 ∨ k = 1 ∨ k = 2 ∨ k = 3 ∨ k = 4 ∨ k = 5 := by omega
    have u : ∀ (m : Nat) (x y : Int), altTo x y (m + 1) = x :: altTo y x m := fun m x y => altTo_cons x y m
    rcases e with rfl | rfl | rfl | rfl | rfl | rfl <;> simp only [u, altTo_none, List.eraseIdx, actS, d1, d2] <;> try rfl

/-- One letter of w can be left out for letter i put ahead. -/
def Exch (c : List (List Int)) (i : Int) (w : List Int) : Prop := ∃ k, k < w.length ∧ Lin c (w.eraseIdx k) (i :: w)

theorem Exch.br {c : List (List Int)} {a b : List Int} {i : Int} (h : Br c a b) (H : Exch c i a) : Exch c i b := by
  have hl := h.lin
  have hbr := h.length
  obtain ⟨k, hk, e⟩ := H
  cases h with
  | mk p s t m q hb h2 =>
    obtain ⟨hC, hs, ht, hst, em⟩ := bond_info hb h2
    have p1 := point_of hs
    have p2 := point_of ht
    have halt : Lin c (altTo s t m) (altTo t s m) := fun v => by
      rw [actS_alt, actS_alt, em, alt_rel (matOk hC) (i := s.toNat) (j := t.toNat) (by omega) (by omega) (by omega)]
    have l1 : (altTo s t m).length = m := altTo_len s t m
    have l2 : (altTo t s m).length = m := altTo_len t s m
    by_cases h1 : k < p.length
    · refine ⟨k, by rw [hbr]; exact hk, ?_⟩
      rw [List.eraseIdx_append_of_lt_length h1] at e ⊢
      exact (Lin.app (Lin.refl c _) (Lin.app halt.symm (Lin.refl c q))).trans (e.trans (hl.cons i))
    · rw [List.eraseIdx_append_of_length_le (by omega)] at e
      by_cases h3 : k - p.length < m
      · rw [List.eraseIdx_append_of_lt_length (by omega)] at e
        refine ⟨p.length + (m - 1 - (k - p.length)), by simp [l2]; omega, ?_⟩
        rw [List.eraseIdx_append_of_length_le (by omega), Nat.add_sub_cancel_left, List.eraseIdx_append_of_lt_length (by omega)]
        have hal := alt_erase hC hs ht (m := m) (k := k - p.length) (by rw [em]; exact bondP_cases (by omega)) h3
        exact (Lin.app (Lin.refl c p) (Lin.app hal.symm (Lin.refl c q))).trans (e.trans (hl.cons i))
      · rw [List.eraseIdx_append_of_length_le (by omega)] at e
        refine ⟨k, by rw [hbr]; exact hk, ?_⟩
        rw [List.eraseIdx_append_of_length_le (by omega), List.eraseIdx_append_of_length_le (by omega), l2]
        rw [l1] at e
        exact (Lin.app (Lin.refl c p) (Lin.app halt.symm (Lin.refl c _))).trans (e.trans (hl.cons i))

theorem Exch.conn {c : List (List Int)} {a b : List Int} {i : Int} (h : Conn c a b) (H : Exch c i a) : Exch c i b := by
  induction h with
  | refl => exact H
  | tail _ s ih => exact ih.br s

/-- The exchange of a letter. -/
theorem exchange {c : List (List Int)} (hC : Cartan c) {n : Nat} {v w : List Int} (P : PlayL c n v) (hn : n ≤ 29) (R : Red c n v w) {i : Int} (hi : isPoint c i = true) (h : v.getD i.toNat 0 < 0) : Exch c i w := by
  have p1 := point_of hi
  obtain ⟨m, rfl, Q⟩ := P.down hC (by omega) (i := i.toNat) (by omega) h
  have Rz : Red c m (reflW c i.toNat v) (nf c 30 (reflW c i.toNat v)) := ⟨nf_len hC m _ 30 Q (by omega) (by omega), nf_letters hC m _ 30 Q (by omega) (by omega), nf_image hC m _ 30 Q (by omega) (by omega)⟩
  have Ri := Red.cons hC P (by omega) hi h Rz
  refine Exch.conn (conn_all hC (m + 1) v P hn _ w Ri R) ⟨0, by simp, ?_⟩
  exact (twice hC hi _).symm

/-- The deletion of two letters. -/
theorem deletion {c : List (List Int)} (hC : Cartan c) : ∀ (w : List Int) (n : Nat), lettersOk c w = true → w.length ≤ 29 → PlayL c n (imageOf c w) → n < w.length →
    ∃ a b, a < b ∧ b < w.length ∧ Lin c ((w.eraseIdx b).eraseIdx a) w
  | [], _, _, _, _, h => by simp at h
  | s :: q, n, hw, hl, P, hn => by
    obtain ⟨hs, hq⟩ := letters_cons.1 hw
    have p1 := point_of hs
    simp only [List.length_cons] at hl hn
    obtain ⟨m, hm, Q⟩ := play_image hC hq (by omega)
    by_cases h : m < q.length
    · obtain ⟨a, b, h1, h2, h3⟩ := deletion hC q m hq (by omega) Q h
      exact ⟨a + 1, b + 1, by omega, by simp; omega, by simpa using h3.cons s⟩
    · have em : m = q.length := by omega
      have hneg : (imageOf c q).getD s.toNat 0 < 0 := by
        have hne := Q.ne hC (i := s.toNat) (by omega)
        by_cases hlt : (imageOf c q).getD s.toNat 0 < 0
        · exact hlt
        · exfalso
          have U : PlayL c (m + 1) (imageOf c (s :: q)) := by
            rw [imageW_cons]
            refine ⟨by rw [reflW_length]; exact Q.1, ?_⟩
            rw [pos_refl hC Q (by omega) (by omega)]
            exact Q.2.up (matOk hC) (by omega) (by show 0 < (imageOf c q).getD s.toNat 0; omega)
          have := play_unique hC P U (by omega) (by omega)
          omega
      obtain ⟨k, hk, e⟩ := exchange hC Q (by omega) (w := q) ⟨em.symm, hq, rfl⟩ hs hneg
      exact ⟨0, k + 1, by omega, by simp; omega, by simpa using e⟩

end Go.Proofs.YtgliajcgcbnemaaGreatDoor.Hx
