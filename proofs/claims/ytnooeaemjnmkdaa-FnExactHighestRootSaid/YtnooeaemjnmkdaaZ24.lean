/-
  The parts of a diagram, of the program; HighestRoot of both sides.
  HighestRoot of both sides.
  From the model's readings of arguments to rows: a slice of ints that came in; and the end of a law: true, memory below as it was.
  From the model's readings of arguments to rows: a slice of slices of ints that came in.
-/
import Derived.Test.YtnooeaemjnmkdaaZ23
import Derived.ProofKit
namespace Go.Proofs.Ytnooeaemjnmkdaa.Hx
open Go.RowKit

theorem OwnR.sorted {r : Nat} {h : Heap} {l l' : List Int} {t : List H0} (hr : r < h.length) (e : l'.length = l.length) : OwnR r (h.set r (.own (l'.map ci ++ t))) (.sl r 0 l.length) l' := ⟨t, by rw [e], List.getElem?_set_self hr⟩
theorem But.set {h : Heap} {r : Nat} (x : Row) : But r h (h.set r x) := ⟨by simp, fun q _ hn => by rw [List.getElem?_set_ne (Ne.symm hn)]⟩

/-- What was seen before a point: what some earlier point reaches. -/
def Before (c : List (List Int)) (k j : Nat) : Prop := ∃ m, m < k ∧ Rch c m j

theorem Before.closed {c : List (List Int)} {k i j : Nat} (h : Before c k i) (a : Adj c i j) : Before c k j := by
  obtain ⟨m, h1, h2⟩ := h
  exact ⟨m, h1, h2.step a⟩
theorem notBefore {c : List (List Int)} {k : Nat} (h : ¬ Before c k k) : isMin c k = true := isMin_iff.2 fun j hj hr => h ⟨j, hj, hr⟩
theorem beforeNot {c : List (List Int)} {k : Nat} (h : Before c k k) : isMin c k = false := by
  cases hm : isMin c k
  · rfl
  · obtain ⟨m, h1, h2⟩ := h
    exact absurd h2 (isMin_iff.1 hm m h1)
theorem before_next {c : List (List Int)} {k j : Nat} : Before c (k + 1) j ↔ Before c k j ∨ Rch c k j := by
  constructor
  · rintro ⟨m, h1, h2⟩
    by_cases e : m = k
    · subst e; exact Or.inr h2
    · exact Or.inl ⟨m, by omega, h2⟩
  · rintro (⟨m, h1, h2⟩ | h)
    · exact ⟨m, by omega, h2⟩
    · exact ⟨k, by omega, h⟩
theorem before_same {c : List (List Int)} {k j : Nat} (h : Before c k k) : Before c (k + 1) j ↔ Before c k j := by
  rw [before_next]
  constructor
  · rintro (g | g)
    · exact g
    · obtain ⟨m, h1, h2⟩ := h
      exact ⟨m, h1, h2.trans g⟩
  · exact Or.inl

set_option smartUnfolding false

set_option maxHeartbeats 2000000 in
theorem impl_PartsOf (h : Heap) (x : H0) (c : List (List Int)) (hx : Rows h x c) (hc : c.length ≤ 1048576) :
    HCalls Try.prog 78 [.s x] h (fun r h' => ∃ y, r = .s y ∧ Ext h h' ∧ OwnM h.length h'.length h' y (partsC c)) := by
  refine calls_of_hFun (m := 0) kd_ok mixed Try.func78 rfl (by kernel_rfl) rfl rfl (of_decide_eq_true rfl) ?_; unfold hFun; (conv => whnf)
  have E0 := Ext.push h [Row.own []]
  refine HLit.empty ?_
  (conv => whnf)
  refine (impl_IsCartan _ _ _ (hx.ext E0) (by omega)).mono ?_
  rintro r h1 ⟨rfl, hh⟩
  subst hh
  (conv => whnf)
  cases hic : isCartan c
  · (repeat (first | (refine HIf.no ?_; (conv => whnf)) | (refine HIf.yes ?_; (conv => whnf))))
    rw [partsC_off hic]
    exact ⟨_, rfl, E0, OwnM.none h⟩
  have hC := (isCartan_iff c).1 hic
  have h4 := hC.le
  rw [partsC_on hic]
  (repeat (first | (refine HIf.no ?_; (conv => whnf)) | (refine HIf.yes ?_; (conv => whnf))))
  refine ⟨rfl, (hx.ext E0).len ?_⟩
  (conv => whnf)
  refine HMake.bits c.length rfl (by omega) (fun h1 yb E1 l1 B1 => ?_)
  (conv => whnf)
  have E01 := E0.trans E1
  refine ⟨rfl, (hx.ext E01).len ?_⟩
  (conv => whnf)
  have M0 : MatP (fun p => h.length ≤ p ∧ p ≠ (h ++ [Row.own []]).length) (h ++ [Row.own []]) (.sl h.length 0 0) (partsTo c 0) := MatP.none ⟨Nat.le_refl _, by simp⟩
  have M1 := M0.ext E1
  have hb0 : h.length < (h ++ [Row.own []]).length := by simp
  clear M0 E0 E1
  generalize (h ++ [Row.own []]).length = b at *
  have hB1 := B1.lt
  have hs1 : (List.replicate c.length false).length = c.length := by simp
  have hS1 : ∀ j, j < c.length → ((List.replicate c.length false).getD j false = true ↔ Before c 0 j) := fun j hj => by
    constructor
    · intro e
      rw [List.getD, List.getElem?_eq_getElem (by simpa using hj)] at e
      simp at e
    · rintro ⟨m, hm, _⟩
      omega
  generalize List.replicate c.length false = S1 at *
  refine HLoop.intro [20, 3] [21, 22, 5, 23, 24, 25, 26, 27, 28, 29, 30, 31, 6, 7, 32, 33, 34, 35, 38, 39, 40, 41, 42, 43, 44, 45, 46, 47, 48, 9, 49, 50, 51, 52, 53, 54, 55, 56, 57, 58, 59, 60, 6, 61, 45, 36, 37, 7, 62, 63, 64, 65, 66, 67, 3, 68, 20] (by kernel_rfl) (by kernel_rfl) (fun vs h' => ∃ (k : Nat) (z : H0) (S : List Bool), vs = [I k, .s z] ∧ k ≤ c.length ∧ Ext h h' ∧ BitR b h' yb S ∧ MatP (fun p => h.length ≤ p ∧ p ≠ b) h' z (partsTo c k) ∧ S.length = c.length ∧ ∀ j, j < c.length → (S.getD j false = true ↔ Before c k j)) (fun vs _ => c.length - natAt vs 0) ⟨0, _, S1, rfl, by omega, E01, B1, M1, hs1, hS1⟩ ?_
  clear E01 B1 M1 l1 hB1 hs1 hS1
  rintro vs h' ⟨k, z, S, rfl, hk, E, B, M, hsl, hS⟩
  have hpl := partsTo_len c k
  (conv => whnf)
  refine HIf.dec (fun hlt => ?_) (fun hge => ?_)
  rotate_left
  · have e : k = c.length := by omega
    subst e
    (conv => whnf)
    exact ⟨_, rfl, E, M.own fun p _ hp => hp.1⟩
  have hkl : k < c.length := by omega
  (conv => whnf)
  refine ⟨rfl, B.idx (by omega) (fun hb => ?_)⟩
  (conv => whnf)
  refine ⟨rfl, hb.load ?_⟩
  (conv => whnf)
  cases hs : S.getD k false
  rotate_left
  · have hbe := (hS k hkl).1 hs
    refine HIf.yes ?_
    (conv => whnf)
    refine HArith.fits (by omega) (by omega) ?_
    (conv => whnf)
    exact ⟨⟨k + 1, z, S, rfl, by omega, E, B, by rw [partsTo_out (beforeNot hbe)]; exact M, hsl, fun j hj => by rw [before_same hbe]; exact hS j hj⟩, by show c.length - (k + 1) < c.length - k; omega⟩
  have hnb : ¬ Before c k k := fun e => by rw [(hS k hkl).2 e] at hs; cases hs
  have hmin := notBefore hnb
  refine HIf.no ?_
  (conv => whnf)
  refine ⟨rfl, B.idx (by omega) (fun hb2 => ?_)⟩
  (conv => whnf)
  refine ⟨rfl, B.put (by omega) (fun h2 U2 l2 B2 => ?_)⟩
  (conv => whnf)
  have E2 := E.but U2 (by omega)
  have M2 := M.bound.but U2 (fun e => e.1.2 rfl)
  have hB := B2.lt
  refine HLit.oneG (v := (k : Int)) E2 (fun h3 yq q E3 E03 O3 hq => ?_)
  (conv => whnf)
  have SR0 : Srch c k (Before c k) (S.set k true) [(k : Int)] 0 := Srch.start hsl hkl hnb hS
  have M3 := M2.ext E3
  have B3 := B2.ext E3
  have hN : h'.length ≤ q := by omega
  have hbN : b < h'.length := by omega
  generalize h'.length = N at *
  generalize S.set k true = S3 at B3 SR0
  generalize [(k : Int)] = Q3 at O3 SR0
  clear B M B2 M2 E E2 E3 U2 hb hb2 hs hS hsl hq l2 hB
  refine HLoop.intro [7, 6] [32, 33, 34, 35, 38, 39, 40, 41, 42, 43, 44, 45, 46, 47, 48, 9, 49, 50, 51, 52, 53, 54, 55, 56, 57, 58, 59, 60, 6, 61, 45, 36, 37, 7] (by kernel_rfl) (by kernel_rfl) (fun vs h' => ∃ (t q : Nat) (y : H0) (S : List Bool) (Q : List Int), vs = [I t, .s y] ∧ t ≤ Q.length ∧ Ext h h' ∧ BitR b h' yb S ∧ OwnR q h' y Q ∧ N ≤ q ∧ MatP (fun p => (h.length ≤ p ∧ p ≠ b) ∧ p < N) h' z (partsTo c k) ∧ Srch c k (Before c k) S Q t) (fun vs _ => c.length - natAt vs 0) ⟨0, q, yq, S3, Q3, rfl, by omega, E03, B3, O3, hN, M3, SR0⟩ ?_
  clear E03 B3 O3 M3 SR0 hN
  rintro vs h' ⟨t, q, y, S, Q, rfl, ht, E, B, O, hq, M, H⟩
  have hQ := H.few
  (conv => whnf)
  refine ⟨rfl, O.ints.len ?_⟩
  (conv => whnf)
  refine HIf.dec (fun hlt2 => ?_) (fun hge2 => ?_)
  · have htl : t < Q.length := by omega
    obtain ⟨p, hp, hpc⟩ := H.at htl
    (conv => whnf)
    refine ⟨rfl, O.ints.idxN htl (fun a ha => ?_)⟩
    rw [hp] at ha
    (conv => whnf)
    refine ⟨rfl, ha.load ?_⟩
    (conv => whnf)
    refine (impl_NeighboursOf _ _ c p (hx.ext E) hC hpc).mono ?_
    rintro r h2 ⟨yl, rfl, F⟩
    obtain ⟨rl, hrl, OL⟩ := F.row
    have hnl := nbrTo_len c p c.length
    have hql := O.lt
    have E2 := E.trans F.1
    replace B := B.ext F.1
    replace O := O.ext F.1
    replace M := M.ext F.1
    (conv => whnf)
    refine ⟨rfl, OL.ints.len ?_⟩
    (conv => whnf)
    refine HLoop.intro [45, 6] [46, 47, 48, 9, 49, 50, 51, 52, 53, 54, 55, 56, 57, 58, 59, 60, 6, 61, 45] (by kernel_rfl) (by kernel_rfl) (fun vs h' => ∃ (n q : Nat) (y : H0) (S : List Bool) (Q : List Int), vs = [I n, .s y] ∧ n ≤ (nbrTo c p c.length).length ∧ Ext h h' ∧ BitR b h' yb S ∧ OwnR q h' y Q ∧ N ≤ q ∧ q ≠ rl ∧ OwnR rl h' yl (nbrTo c p c.length) ∧ MatP (fun p => (h.length ≤ p ∧ p ≠ b) ∧ p < N) h' z (partsTo c k) ∧ t < Q.length ∧ Q.getD t 0 = p ∧ Srch c k (Before c k) S Q t ∧ ∀ u, u < n → ∀ j : Nat, (nbrTo c p c.length).getD u 0 = j → S.getD j false = true) (fun vs _ => (nbrTo c p c.length).length - natAt vs 0) ⟨0, q, y, S, Q, rfl, by omega, E2, B, O, hq, by omega, OL, M, htl, hp, H, fun u hu => by omega⟩ ?_
    have hNl := E2.1
    have hrlN : N ≤ rl := by omega
    clear E E2 B O OL hq F hql H hp ht hlt2 hQ htl ha M hrl
    rintro vs h' ⟨n, q, y, S, Q, rfl, hn, E, B, O, hq, hqr, OL, M, htl, hp, H, hall⟩
    have hQ := H.few
    (conv => whnf)
    refine HIf.dec (fun hlt3 => ?_) (fun hge3 => ?_)
    · have hnl : n < (nbrTo c p c.length).length := by omega
      obtain ⟨j, hj, hadj⟩ := nbr_at hnl
      have hjS : j < S.length := by rw [H.len]; exact hadj.1
      (conv => whnf)
      refine ⟨rfl, OL.ints.idxN hnl (fun a ha => ?_)⟩
      rw [hj] at ha
      (conv => whnf)
      refine ⟨rfl, ha.load ?_⟩
      (conv => whnf)
      have hso : S.getD j false = false ∨ S.getD j false = true := by cases S.getD j false <;> simp
      rcases hso with hs | hs
      · refine ⟨rfl, B.idx hjS (fun hb => ?_)⟩
        rw [hs] at hb
        (conv => whnf)
        refine ⟨rfl, hb.load ?_⟩
        (conv => whnf)
        refine HIf.yes ?_
        (conv => whnf)
        refine ⟨rfl, B.idx hjS (fun hb2 => ?_)⟩
        (conv => whnf)
        refine ⟨rfl, B.put hjS (fun h5 U5 l5 B5 => ?_)⟩
        have E5 := E.but U5 (by omega)
        have O5 := O.but U5 (by omega)
        have hrl2 := OL.lt
        have OL5 := OL.but U5 (by omega)
        have M5 := M.but U5 (fun e => e.1.2 rfl)
        (conv => whnf)
        refine HLit.one ?_
        (conv => whnf)
        refine ⟨rfl, rfl, HApp.litR [(j : Int)] O5 (by simp; omega) (fun h6 q6 z6 U6 hq6 O6 => ?_)⟩
        have E6 := E5.but U6 (by omega)
        have B6 := B5.but U6 (by omega)
        have OL6 := OL5.but U6 (by omega)
        have M6 := M5.but U6 (by omega)
        have H6 := H.push htl (by rw [hp]; exact hadj) hs
        have hB5 := B5.lt
        have hr5 := OL5.lt
        have hO5 := O5.lt
        (conv => whnf)
        refine HArith.fits (by omega) (by omega) ?_
        (conv => whnf)
        exact ⟨⟨n + 1, q6, z6, _, _, rfl, by omega, E6, B6, O6, by omega, by omega, OL6, M6, by simp; omega, by rw [getD_app htl]; exact hp, H6, fun u hu j' hj' => by
          rw [set_getD_bool hjS]
          split
          · rfl
          · by_cases e : u = n
            · subst e
              rw [hj] at hj'
              omega
            · exact hall u (by omega) j' hj'⟩, by show (nbrTo c p c.length).length - (n + 1) < (nbrTo c p c.length).length - n; omega⟩
      · refine ⟨rfl, B.idx hjS (fun hb => ?_)⟩
        rw [hs] at hb
        (conv => whnf)
        refine ⟨rfl, hb.load ?_⟩
        (conv => whnf)
        refine HIf.no ?_
        (conv => whnf)
        refine HArith.fits (by omega) (by omega) ?_
        (conv => whnf)
        exact ⟨⟨n + 1, q, y, S, Q, rfl, by omega, E, B, O, hq, hqr, OL, M, htl, hp, H, fun u hu j' hj' => by
          by_cases e : u = n
          · subst e
            rw [hj] at hj'
            have : j' = j := by omega
            rw [this]
            exact hs
          · exact hall u (by omega) j' hj'⟩, by show (nbrTo c p c.length).length - (n + 1) < (nbrTo c p c.length).length - n; omega⟩
    · have en : n = (nbrTo c p c.length).length := by omega
      have H2 := H.next (fun j hj => by
        rw [hp] at hj
        obtain ⟨u, hu, e⟩ := nbr_all (c := c) (p := p) hj
        exact hall u (by omega) j e)
      (conv => whnf)
      refine HArith.fits (by omega) (by omega) ?_
      (conv => whnf)
      exact ⟨⟨t + 1, q, y, S, Q, rfl, by omega, E, B, O, hq, M, H2⟩, by show c.length - (t + 1) < c.length - t; omega⟩
  · have et : t = Q.length := by omega
    subst et
    have hfin : ∀ j : Nat, (j : Int) ∈ Q ↔ Rch c k j := fun j => H.fin hC hkl hnb (fun i _ hi j hj => hi.closed hj)
    have hsort := sort_part hkl H.nodup (fun x hx => by obtain ⟨j, e, hj, _⟩ := H.rch x hx; exact ⟨j, e, hj⟩) hfin
    have hQp : 0 < Q.length := List.length_pos_of_mem H.head
    have hql := O.lt
    have hslen : (partL c k).length = Q.length := by rw [← hsort]; exact List.length_mergeSort Q
    have hSe : ∀ j, j < c.length → (S.getD j false = true ↔ Before c (k + 1) j) := fun j hj => by rw [before_next, H.seen j hj, hfin]
    have hSl := H.len
    obtain ⟨tl, rfl, hrow⟩ := O
    have hcall := sortI_calls (P := Try.prog) Try.sortI hrow hQp (by omega)
    change HCalls Try.prog 100 _ _ _ at hcall
    (conv => whnf)
    refine hcall.mono ?_
    rintro r h5 ⟨rfl, rfl⟩
    rw [hsort]
    have U5 : But q h' (h'.set q (.own ((partL c k).map ci ++ tl))) := But.set _
    have O5 : OwnR q (h'.set q (.own ((partL c k).map ci ++ tl))) (.sl q 0 Q.length) (partL c k) := OwnR.sorted hql hslen
    have E5 := E.but U5 (by omega)
    have B5 := B.but U5 (by omega)
    have M5 := M.but U5 (by omega)
    generalize h'.set q (.own ((partL c k).map ci ++ tl)) = h5 at *
    (conv => whnf)
    refine HLit.row (O5.own (b := 0) (by omega)).one ?_
    (conv => whnf)
    refine ⟨rfl, rfl, HApp.snocP M5 O5 (by omega) (by omega) (fun h6 z6 K6 l6 M6 => ?_)⟩
    rw [← partsTo_in hmin] at M6
    have hE5 := E5.1
    have hB5 := B5.lt
    have E6 : Ext h h6 := ⟨by omega, fun p hp => by rw [K6 p (by omega) (by omega)]; exact E5.2 p hp⟩
    have B6 : BitR b h6 yb S := ⟨B5.1, by rw [K6 b hB5 (fun e => e.1.2 rfl)]; exact B5.2⟩
    (conv => whnf)
    refine HArith.fits (by omega) (by omega) ?_
    (conv => whnf)
    exact ⟨⟨k + 1, z6, S, rfl, by omega, E6, B6, M6.weaken (fun p hp => by
      rintro (⟨⟨g, g2⟩, _⟩ | g | g)
      · exact ⟨g, g2⟩
      · exact ⟨by omega, by omega⟩
      · exact ⟨by omega, by omega⟩), hSl, hSe⟩, by show c.length - (k + 1) < c.length - k; omega⟩

theorem impl_IsConnected (h : Heap) (x : H0) (c : List (List Int)) (hx : Rows h x c) (hc : c.length ≤ 1048576) :
    HCalls Try.prog 51 [.s x] h (fun r h' => r = B (isConn c) ∧ Ext h h') := by
  refine calls_of_hFun (m := 0) kd_ok mixed Try.func51 rfl (by kernel_rfl) rfl rfl (of_decide_eq_true rfl) ?_; unfold hFun; (conv => whnf)
  refine (impl_PartsOf _ _ c hx hc).mono ?_
  rintro r h1 ⟨y, rfl, E, O⟩
  (conv => whnf)
  refine ⟨rfl, O.rows.len ?_⟩
  (conv => whnf)
  refine ⟨bEq ?_, E⟩
  rw [isConn_parts]
  by_cases e : (partsC c).length = 1
  · simp [e]
  · simp only [e, decide_false]
    symm
    rw [beq_eq_false_iff_ne]
    omega

end Go.Proofs.Ytnooeaemjnmkdaa.Hx

namespace Go.Proofs.Ytnooeaemjnmkdaa.Hx
open Go.RowKit

theorem dedup_ex : ∀ (L : List (List Int)), ∃ M : List (List Int), M.Nodup ∧ ∀ x, x ∈ M ↔ x ∈ L
  | [] => ⟨[], by simp, fun x => Iff.rfl⟩
  | a :: L => by
    obtain ⟨M, h1, h2⟩ := dedup_ex L
    by_cases h : a ∈ M
    · exact ⟨M, h1, fun x => by
        rw [h2, List.mem_cons]
        constructor
        · exact Or.inr
        · rintro (e | e)
          · rw [e]; exact (h2 a).1 h
          · exact e⟩
    · exact ⟨a :: M, by simp [h, h1], fun x => by rw [List.mem_cons, List.mem_cons, h2]⟩

open Classical in
theorem rootList_ex {c : List (List Int)} (hC : Cartan c) {H : Int} (hH : H ≤ 12) (h1 : 1 ≤ H) : ∃ L, RootList c H L := by
  obtain ⟨M, hn, hm⟩ := dedup_ex ((boxes c.length).filter fun r => decide (RootUp c H r))
  have hmem : ∀ r, r ∈ M ↔ RootUp c H r := fun r => by
    rw [hm, List.mem_filter, decide_eq_true_eq]
    constructor
    · exact fun h => h.2
    · intro h
      obtain ⟨n, R, g1, g2⟩ := h.facts hC hH h1
      have := mem_boxes r (fun x hx => by
        obtain ⟨k, hk, rfl⟩ := List.getElem_of_mem hx
        have a := R.nonneg k
        have b := R.le k
        simp only [List.getD, hk, List.getElem?_eq_getElem, Option.getD_some] at a b
        omega)
      rw [R.len] at this
      exact ⟨this, h⟩
  refine ⟨insR M, insR_sorted (n := c.length) M (fun r hr => ?_), (insR_perm M).nodup_iff.2 hn, fun r => (insR_perm M).mem_iff.trans (hmem r)⟩
  obtain ⟨n, R, _⟩ := ((hmem r).1 hr).facts hC hH h1
  exact R.len

/-- A finite matrix's list of positive roots: what is known of it. -/
theorem posRoots_list {c : List (List Int)} (h : isFinite c = true) : RootList c 12 (posRoots c) := by
  have hic := isFinite_cartan h
  have hC := (isCartan_iff c).1 hic
  obtain ⟨L, hL⟩ := rootList_ex hC (H := 12) (by omega) (by omega)
  rw [posRoots_on h, rootsUp_on ⟨hic, by omega, by omega⟩ hL]
  exact hL
theorem posRoots_pos {c : List (List Int)} (h : isFinite c = true) : 0 < (posRoots c).length := by
  have hC := (isCartan_iff c).1 (isFinite_cartan h)
  exact List.length_pos_of_mem (((posRoots_list h).2.2 _).2 (RootUp.simple 0 hC.pos))

noncomputable def highOk (c : List (List Int)) : Bool := isFinite c && isConn c
noncomputable def highest (c : List (List Int)) : List Int := if highOk c then (posRoots c).getD ((posRoots c).length - 1) [] else []
theorem highest_size (c : List (List Int)) : (highest c).length ≤ 1099511627776 := by
  unfold highest
  split
  · by_cases h : (posRoots c).length - 1 < (posRoots c).length
    · have := len_le_tot h
      have := (posRoots_size c).2
      omega
    · have : (posRoots c).getD ((posRoots c).length - 1) [] = [] := by simp [List.getD, List.getElem?_eq_none (by omega : (posRoots c).length ≤ (posRoots c).length - 1)]
      rw [this]
      simp
  · simp

set_option smartUnfolding false

theorem impl_HighestRoot (h : Heap) (x0 : H0) (a0 : List (List Int)) (hx0 : Rows h x0 a0) (s0 : a0.length ≤ 1048576 ∧ tot a0 ≤ 1048576) :
    HCalls Try.prog 24 [.s x0] h (fun r h' => ∃ y, r = T2 y (highOk a0) ∧ Fresh h h' y (highest a0)) := by
  have hok : highOk a0 = (isFinite a0 && isConn a0) := rfl
  have hv : highest a0 = if highOk a0 then (posRoots a0).getD ((posRoots a0).length - 1) [] else [] := rfl
  rw [hv, hok]
  clear hv hok
  have hps := posRoots_small a0
  refine calls_of_hFun (m := 0) kd_ok mixed Try.func24 rfl (by kernel_rfl) rfl rfl (of_decide_eq_true rfl) ?_; unfold hFun; (conv => whnf)
  refine (impl_PositiveRoots _ _ a0 hx0 s0).mono ?_
  rintro r h1 ⟨y, rfl, E, O⟩
  (conv => whnf)
  cases hf : isFinite a0
  · (repeat (first | (refine HIf.yes ?_; (conv => whnf)) | (refine HIf.no ?_; (conv => whnf))))
    refine HLit.empty ?_
    (conv => whnf)
    exact ⟨_, rfl, Fresh.ofRow (E.pushed _) (OwnR.push h1 []) E.1⟩
  have hp := posRoots_pos hf
  (repeat (first | (refine HIf.yes ?_; (conv => whnf)) | (refine HIf.no ?_; (conv => whnf))))
  refine (impl_IsConnected _ _ a0 (hx0.ext E) (by omega)).mono ?_
  rintro r h2 ⟨rfl, E2⟩
  replace E := E.trans E2
  replace O := O.ext E2
  (conv => whnf)
  cases hc : isConn a0
  · (repeat (first | (refine HIf.yes ?_; (conv => whnf)) | (refine HIf.no ?_; (conv => whnf))))
    refine HLit.empty ?_
    (conv => whnf)
    exact ⟨_, rfl, Fresh.ofRow (E.pushed _) (OwnR.push h2 []) E.1⟩
  (repeat (first | (refine HIf.yes ?_; (conv => whnf)) | (refine HIf.no ?_; (conv => whnf))))
  generalize posRoots a0 = L at *
  obtain ⟨r, ρ, rfl, g2, g3, g4, m⟩ := O
  refine ⟨rfl, m.rows.len ?_⟩
  (conv => whnf)
  refine HArith.fits (by omega) (by omega) ?_
  (conv => whnf)
  have e1 : (L.length : Int) - 1 = ((L.length - 1 : Nat) : Int) := by omega
  rw [e1]
  refine ⟨rfl, m.idx (n := L.length - 1) (by omega) (fun p hp2 => ?_)⟩
  (conv => whnf)
  refine ⟨rfl, hp2.load ?_⟩
  (conv => whnf)
  exact ⟨_, rfl, Fresh.ofRow E (m.inner' (by omega)) (g4 _ (by omega)).1⟩

theorem spec_HighestRoot (h : Heap) (x0 : H0) (a0 : List (List Int)) (hx0 : Rows h x0 a0) (s0 : a0.length ≤ 1048576 ∧ tot a0 ≤ 1048576) :
    HCalls Try.prog 23 [.s x0] h (fun r h' => ∃ y, r = T2 y (highOk a0) ∧ Fresh h h' y (highest a0)) := by
  have hok : highOk a0 = (isFinite a0 && isConn a0) := rfl
  have hv : highest a0 = if highOk a0 then (posRoots a0).getD ((posRoots a0).length - 1) [] else [] := rfl
  rw [hv, hok]
  clear hv hok
  have hps := posRoots_small a0
  refine calls_of_hFun (m := 0) kd_ok mixed Try.func23 rfl (by kernel_rfl) rfl rfl (of_decide_eq_true rfl) ?_; unfold hFun; (conv => whnf)
  refine (spec_PositiveRoots _ _ a0 hx0 s0).mono ?_
  rintro r h1 ⟨y, rfl, E, O⟩
  (conv => whnf)
  cases hf : isFinite a0
  · (repeat (first | (refine HIf.yes ?_; (conv => whnf)) | (refine HIf.no ?_; (conv => whnf))))
    refine HLit.empty ?_
    (conv => whnf)
    exact ⟨_, rfl, Fresh.ofRow (E.pushed _) (OwnR.push h1 []) E.1⟩
  have hp := posRoots_pos hf
  (repeat (first | (refine HIf.yes ?_; (conv => whnf)) | (refine HIf.no ?_; (conv => whnf))))
  refine (spec_IsConnected _ _ a0 (hx0.ext E) (by omega)).mono ?_
  rintro r h2 ⟨rfl, E2⟩
  replace E := E.trans E2
  replace O := O.ext E2
  (conv => whnf)
  cases hc : isConn a0
  · (repeat (first | (refine HIf.yes ?_; (conv => whnf)) | (refine HIf.no ?_; (conv => whnf))))
    refine HLit.empty ?_
    (conv => whnf)
    exact ⟨_, rfl, Fresh.ofRow (E.pushed _) (OwnR.push h2 []) E.1⟩
  (repeat (first | (refine HIf.yes ?_; (conv => whnf)) | (refine HIf.no ?_; (conv => whnf))))
  generalize posRoots a0 = L at *
  have hle := len_le_tot (L := L) (i := L.length - 1) (by omega)
  refine HLit.empty ?_
  (conv => whnf)
  have EL := Ext.push h2 [Row.own []]
  refine ⟨rfl, (O.ext EL).rows.len ?_⟩
  (conv => whnf)
  refine HArith.fits (by omega) (by omega) ?_
  (conv => whnf)
  have e1 : (L.length : Int) - 1 = ((L.length - 1 : Nat) : Int) := by omega
  rw [e1]
  refine ⟨rfl, (O.ext EL).rows.idxN (n := L.length - 1) (by omega) (fun p z hp2 hz => ?_)⟩
  (conv => whnf)
  refine ⟨rfl, hp2.load ?_⟩
  (conv => whnf)
  refine ⟨rfl, rfl, HApp.moreR (OwnR.push h2 []) hz (by rw [List.length_nil]; omega) (fun h3 r3 y3 B3 hr3 O3 => ?_)⟩
  have E3 : Ext h h3 := E.trans ((Ext.push h2 [Row.own []]).but B3 (Nat.le_refl _))
  have hE := E.1
  have hl3 : h2.length ≤ r3 := by simp at hr3; omega
  rw [List.nil_append] at O3
  (conv => whnf)
  exact ⟨_, rfl, Fresh.ofRow E3 O3 (by omega)⟩

end Go.Proofs.Ytnooeaemjnmkdaa.Hx

namespace Go.Proofs.Ytnooeaemjnmkdaa.Hx
open Go.RowKit Go.ChangeShapes Go.WideShapes Go.ChangeAt

theorem Rep.start (w : World) : Rep w.heap.size [] [] w :=
  ⟨rfl, Nat.le_refl _, fun r cs p h => by simp at h, fun r cs p h => by simp at h, fun r r' cs cs' p p' _ h => by simp at h, fun r so ks p h => by simp at h, fun r r' so so' ks ks' p p' _ h => by simp at h⟩

/-- A row that is only read. -/
theorem Rep.pushRo {B0 : Nat} {φ : Plan} {h : Heap} {w : World} (R : Rep B0 φ h w) (p : Place) (hb : p.b < B0) (cs : List H0) (hc : ∀ (k : Nat) (c : H0), cs[k]? = some c → ∃ v, w.cell? ⟨p.b, p.o + k, none⟩ = some v ∧ rep0 φ c v) :
    Rep B0 (φ ++ [p]) (h ++ [.ro cs]) w := by
  have hold : ∀ (r : Nat) (x : Row), r < h.length → (h ++ [Row.ro cs])[r]? = some x → h[r]? = some x := fun r x hr hx => by rw [List.getElem?_append_left hr] at hx; exact hx
  have hpl : ∀ (r : Nat) (y : Place), r < h.length → (φ ++ [p])[r]? = some y → φ[r]? = some y := fun r y hr hx => by rw [List.getElem?_append_left (by rw [R.len]; exact hr)] at hx; exact hx
  have hlast : ∀ (r : Nat) (x : Row), ¬ r < h.length → (h ++ [Row.ro cs])[r]? = some x → r = h.length ∧ x = .ro cs := fun r x hr hx => by
    rw [List.getElem?_append_right (by omega)] at hx
    have h0 : r - h.length = 0 := by
      have := (List.getElem?_eq_some_iff.1 hx).1
      simp at this
      omega
    rw [h0] at hx
    simp at hx
    exact ⟨by omega, hx.symm⟩
  have keyq : ∀ (q : Nat) (so : Bool) (ks : List Key), (h ++ [Row.ro cs])[q]? = some (.keys so ks) → q < h.length := fun q so ks hq => by
    by_cases hl : q < h.length
    · exact hl
    · cases (hlast q _ hl hq).2
  refine ⟨by simp [R.len], R.base, fun r xs y h1 h2 => ?_, fun r xs y h1 h2 => ?_, fun r r' xs xs' y y' hne h1 h1' h2 h2' => ?_, fun r so ks y h1 h2 => R.keys r so ks y (hold r _ (keyq _ _ _ h1) h1) (hpl r y (keyq _ _ _ h1) h2),
    fun r r' so so' ks ks' y y' hne h1 h1' h2 h2' => R.apartK r r' so so' ks ks' y y' hne (hold r _ (keyq _ _ _ h1) h1) (hold r' _ (keyq _ _ _ h1') h1') (hpl r y (keyq _ _ _ h1) h2) (hpl r' y' (keyq _ _ _ h1') h2')⟩
  · by_cases hr : r < h.length
    · obtain ⟨g1, g2⟩ := R.ro r xs y (hold r _ hr h1) (hpl r y hr h2)
      refine ⟨g1, fun k c hk => ?_⟩
      obtain ⟨v, e1, e2⟩ := g2 k c hk
      exact ⟨v, e1, e2.mono (Sub.push _ _)⟩
    · obtain ⟨e1, e2⟩ := hlast r _ hr h1
      subst e1
      cases e2
      rw [← R.len, List.getElem?_append_right (Nat.le_refl _)] at h2
      simp at h2
      subst h2
      refine ⟨hb, fun k c hk => ?_⟩
      obtain ⟨v, e1, e2⟩ := hc k c hk
      exact ⟨v, e1, e2.mono (Sub.push _ _)⟩
  · by_cases hr : r < h.length
    · obtain ⟨g1, g2, g3, cur', e', g4, g5, g6⟩ := R.own r xs y (hold r _ hr h1) (hpl r y hr h2)
      refine ⟨g1, g2, g3, cur', e', g4, g5, fun k c hk => ?_⟩
      obtain ⟨v, e1, e2⟩ := g6 k c hk
      exact ⟨v, e1, e2.mono (Sub.push _ _)⟩
    · cases (hlast r _ hr h1).2
  · by_cases hr : r < h.length <;> by_cases hr' : r' < h.length
    · exact R.apart r r' xs xs' y y' hne (hold r _ hr h1) (hold r' _ hr' h1') (hpl r y hr h2) (hpl r' y' hr' h2')
    · cases (hlast r' _ hr' h1').2
    · cases (hlast r _ hr h1).2
    · cases (hlast r _ hr h1).2

/-- What opening an argument gives. -/
def Opened (φ : Plan) (h : Heap) (w : World) (v : Value) (T : Heap → H0 → Prop) : Prop := ∃ x φ' h', Sub φ φ' ∧ Ext h h' ∧ Rep w.heap.size φ' h' w ∧ rep0 φ' x v ∧ T h' x

/-- A slice of ints by its cells. -/
theorem open_cells {φ : Plan} {h : Heap} {w : World} (R : Rep w.heap.size φ h w) (ao : Option Addr) (len cap : Nat) (zs : List Int) (hl : len ≤ cap) (hm : cap ≤ maxLen) (hz : zs.length = cap) (hnone : ao = none → cap = 0)
    (hc : ∀ a, ao = some a → ∀ i, i < cap → w.cell? (a.add i) = some (.int .i64 (zs.getD i 0))) : Opened φ h w (.slice ao len cap) (fun h' x => Ints h' x (zs.take len)) := by
  by_cases h0 : len = 0
  · subst h0
    exact ⟨.pl (.slice ao 0 cap), φ, h, Sub.refl _, Ext.refl _, R, rfl, Shows.nils _ _⟩
  · cases ao with
    | none => have := hnone rfl; omega
    | some a =>
      have hc := hc a rfl
      obtain ⟨b, off, spot⟩ := a
      have hspot : spot = none := by simpa [Addr.add] using World.cell?_spot (hc 0 (by omega))
      subst hspot
      have hb : b < w.heap.size := World.block_lt_of_cell? w ⟨b, off, none⟩ (by simpa [Addr.add] using hc 0 (by omega))
      have hlen : ((zs.take len).map ci).length = len := by simp; omega
      refine ⟨.sl h.length 0 len, φ ++ [⟨b, off, cap⟩], h ++ [.ro ((zs.take len).map ci)], Sub.push _ _, Ext.push _ _, R.pushRo ⟨b, off, cap⟩ hb _ (fun k c hk => ?_), ⟨⟨b, off, cap⟩, _, _, ?_, rfl, hl, hm, by simp, fun _ => rfl⟩, ?_⟩
      · have hk2 : k < len := by have := (List.getElem?_eq_some_iff.1 hk).1; omega
        refine ⟨.int .i64 (zs.getD k 0), by rw [← addr_add]; exact hc k (by omega), ?_⟩
        rw [List.getElem?_map, List.getElem?_take_of_lt hk2, List.getElem?_eq_getElem (by omega)] at hk
        simp only [Option.map_some, Option.some.injEq] at hk
        subst hk
        show _ = _
        simp [List.getD, show k < zs.length by omega]
      · rw [← R.len, List.getElem?_append_right (Nat.le_refl _)]
        simp
      · show Shows _ _ ((zs.take len).map ci)
        generalize (zs.take len).map ci = L at hlen ⊢
        have := Shows.ro h.length 0 len _ (get_new h (.ro L)) (by omega)
        simp only [List.drop_zero] at this
        rw [List.take_of_length_le (by omega)] at this
        exact this

/-- An argument that is a slice of ints. -/
theorem open_arg_ints {H : Type} {enc : TypeId × Value → H} {P : Program} {w : World} {t e : TypeId} {v : Value} {d : DataW H} {ps : List MemPlace} {base : Nat} (ht : P.underlying t = some (.slice e)) (he : P.underlying e = some (.int .i64)) (hc : P.cellsOf e = 1)
    (hv : Value.okWide P w .any base t v) (h0 : DataW.Trod enc P w 0 (fun _ => true) true t v d ps) {φ : Plan} {h : Heap} (R : Rep w.heap.size φ h w) : ∃ l, Opened φ h w v (fun h' x => Ints h' x l) := by
  obtain ⟨a0, len, cap, rfl⟩ := okWide_slice ht hv
  obtain ⟨fuel, hf⟩ := h0
  rcases open_ints ht he hc hf with ⟨hcs, hx⟩ | ⟨a, len', cap', zs, hcs, _, hl, hm, hz, hx, hcell, hwz⟩
  · simp [Value.cells] at hcs
    obtain ⟨rfl, rfl, rfl⟩ := hcs
    exact ⟨_, open_cells R none 0 0 [] (Nat.le_refl _) (by unfold maxLen; omega) rfl (fun _ => rfl) (fun a h => by cases h)⟩
  · simp [Value.cells] at hcs
    obtain ⟨rfl, rfl, rfl⟩ := hcs
    simp only [if_true] at hz
    exact ⟨_, open_cells R (some a) len cap zs hl hm hz (fun h => by cases h) (fun a' h => by cases h; exact fun i hi => hcell i (by omega))⟩

/-- The end of a law: it comes back true, and memory that was there is as it was. -/
theorem law_calls {P : Program} {k : FuncId} {args : List HV} {h : Heap} {φ : Plan} {w : World} {vargs : Array Value} (H : HCalls P k args h (fun r _ => r = B true)) (R : Rep w.heap.size φ h w) (ha : repVs φ args vargs.toList) :
    Calls P k vargs w fun e w' => e = .returned (.bool true) ∧ Below w.heap.size w w' :=
  (H.out _ φ w vargs R ha).mono (by
    rintro e w' ⟨v, x, h', φ', rfl, rfl, g2, g3, g4, g5⟩
    have hv := rep0_pl g4
    subst hv
    exact ⟨rfl, g5.toBelow⟩)

theorem own : ownKnob Try.prog.godebug = none := by kernel_rfl
theorem laidOut : laidOutB Try.prog = true := by kernel_rfl

end Go.Proofs.Ytnooeaemjnmkdaa.Hx

namespace Go.Proofs.Ytnooeaemjnmkdaa.Hx
open Go.RowKit Go.ChangeShapes Go.WideShapes Go.ChangeAt

/-- Many values opened, one after the other. -/
theorem open_many {w : World} : ∀ (vs : List Value) {φ : Plan} {h : Heap}, Rep w.heap.size φ h w →
    (∀ v ∈ vs, ∃ l : List Int, l.length ≤ maxLen ∧ ∀ (φ : Plan) (h : Heap), Rep w.heap.size φ h w → Opened φ h w v (fun h' x => Ints h' x l)) →
    ∃ (xs : List H0) (L : List (List Int)) (φ' : Plan) (h' : Heap), Sub φ φ' ∧ Ext h h' ∧ Rep w.heap.size φ' h' w ∧ xs.length = vs.length ∧ L.length = vs.length ∧
      (∀ (i : Nat) (x : H0) (v : Value), xs[i]? = some x → vs[i]? = some v → rep0 φ' x v) ∧ (∀ (i : Nat) (x : H0) (l : List Int), xs[i]? = some x → L[i]? = some l → Ints h' x l) ∧ ∀ l ∈ L, l.length ≤ maxLen
  | [], φ, h, R, _ => ⟨[], [], φ, h, Sub.refl _, Ext.refl _, R, rfl, rfl, fun i x v e => by simp at e, fun i x v e => by simp at e, fun l e => by simp at e⟩
  | v :: vs, φ, h, R, each => by
    obtain ⟨l, hl, hop⟩ := each v (by simp)
    obtain ⟨x, φ1, h1, s1, e1, R1, r1, t1⟩ := hop φ h R
    obtain ⟨xs, L, φ2, h2, s2, e2, R2, n1, n2, r2, t2, b2⟩ := open_many vs R1 (fun v hv => each v (by simp [hv]))
    refine ⟨x :: xs, l :: L, φ2, h2, s1.trans s2, e1.trans e2, R2, by simp [n1], by simp [n2], fun i y v' hy hv => ?_, fun i y l' hy hl' => ?_, fun l' hl' => ?_⟩
    · cases i with
      | zero => simp at hy hv; subst hy; subst hv; exact rep0.mono s2 r1
      | succ i => exact r2 i y v' (by simpa using hy) (by simpa using hv)
    · cases i with
      | zero => simp at hy hl'; subst hy; subst hl'; exact t1.ext e2
      | succ i => exact t2 i y l' (by simpa using hy) (by simpa using hl')
    · rcases List.mem_cons.1 hl' with rfl | hm
      · exact hl
      · exact b2 l' hm

def Sizes (L : List (List Int)) : Prop := L.length ≤ 9223372036854775807 ∧ ∀ i, (L.getD i []).length ≤ 9223372036854775807

/-- An argument that is a slice of slices of ints. -/
theorem open_arg_rows {H : Type} {enc : TypeId × Value → H} {P : Program} {w : World} {t u e : TypeId} {v : Value} {d : DataW H} {ps : List MemPlace} {base : Nat} (ht : P.underlying t = some (.slice u)) (hu : P.underlying u = some (.slice e)) (he : P.underlying e = some (.int .i64))
    (hcu : P.cellsOf u = 1) (hc : P.cellsOf e = 1) (hv : Value.okWide P w .any base t v) (h0 : DataW.Trod enc P w 0 (fun _ => true) true t v d ps) {φ : Plan} {h : Heap} (R : Rep w.heap.size φ h w) : ∃ L, Opened φ h w v (fun h' x => Rows h' x L ∧ Sizes L) := by
  obtain ⟨a0, len, cap, rfl⟩ := okWide_slice ht hv
  obtain ⟨fuel, hf⟩ := h0
  have none_ : ∀ (ao : Option Addr) (cap : Nat), Opened φ h w (.slice ao 0 cap) (fun h' x => Rows h' x [] ∧ Sizes []) := fun ao cap =>
    ⟨.pl (.slice ao 0 cap), φ, h, Sub.refl _, Ext.refl _, R, rfl, ⟨[], Shows.nils _ _, rfl, fun i y l e => by simp at e⟩, by simp, fun i => by simp⟩
  rcases DataW.trod_slice ht hf with ⟨hcs, hx⟩ | ⟨a, len', cap', elems, rest, n, rfl, hcs, _, _, hl, hm, hlen, hel, _⟩
  · simp [Value.cells] at hcs
    obtain ⟨rfl, rfl, rfl⟩ := hcs
    exact ⟨[], none_ none 0⟩
  · simp [Value.cells] at hcs
    obtain ⟨rfl, rfl, rfl⟩ := hcs
    by_cases hz : len = 0
    · subst hz
      exact ⟨[], none_ (some a) cap⟩
    have cell : ∀ i, i < len → ∃ c, w.cell? (a.add i) = some c ∧ ∃ l : List Int, l.length ≤ maxLen ∧ ∀ (φ : Plan) (h : Heap), Rep w.heap.size φ h w → Opened φ h w c (fun h' x => Ints h' x l) := by
      intro i hi
      have hE := hel i hi
      rw [hcu, Nat.mul_one, List.getElem?_eq_getElem (by omega), Option.bind_eq_some_iff] at hE
      obtain ⟨cs1, hc1, hy1⟩ := hE
      rcases open_ints hu he hc hy1 with ⟨rfl, _⟩ | ⟨b, l1, c1, zs, rfl, _, hl1, hm1, hz1, _, hcell, _⟩
      · exact ⟨_, cell_of_cells?_one hc1, [], by simp, fun φ h R => open_cells R none 0 0 [] (Nat.le_refl _) (by unfold maxLen; omega) rfl (fun _ => rfl) (fun a h => by cases h)⟩
      · simp only [if_true] at hz1
        exact ⟨_, cell_of_cells?_one hc1, zs.take l1, by simp; omega, fun φ h R => open_cells R (some b) l1 c1 zs hl1 hm1 hz1 (fun h => by cases h) (fun a' h => by cases h; exact fun i hi => hcell i (by omega))⟩
    let vs : List Value := (List.range len).map fun i => (w.cell? (a.add i)).getD undef
    have hvl : vs.length = len := by simp [vs]
    have hvi : ∀ (i : Nat) (v : Value), vs[i]? = some v → i < len ∧ w.cell? (a.add i) = some v := by
      intro i v hv
      have hi : i < len := by have := (List.getElem?_eq_some_iff.1 hv).1; omega
      obtain ⟨c, hc, _⟩ := cell i hi
      simp only [vs, List.getElem?_map, List.getElem?_range hi, Option.map_some, hc, Option.getD_some, Option.some.injEq] at hv
      subst hv
      exact ⟨hi, hc⟩
    obtain ⟨xs, L, φ2, h2, s2, e2, R2, n1, n2, r2, t2, b2⟩ := open_many vs R (fun v hv => by
      obtain ⟨i, hi⟩ := List.getElem?_of_mem hv
      obtain ⟨hil, hc⟩ := hvi i v hi
      obtain ⟨c, hc2, rest⟩ := cell i hil
      rw [hc] at hc2
      cases hc2
      exact rest)
    obtain ⟨b, off, spot⟩ := a
    obtain ⟨c0, hc0, _⟩ := cell 0 (by omega)
    have hspot : spot = none := by simpa [Addr.add] using World.cell?_spot hc0
    subst hspot
    have hb : b < w.heap.size := World.block_lt_of_cell? w ⟨b, off, none⟩ (by simpa [Addr.add] using hc0)
    refine ⟨L, .sl h2.length 0 len, φ2 ++ [⟨b, off, cap⟩], h2 ++ [.ro xs], s2.trans (Sub.push _ _), e2.trans (Ext.push _ _), R2.pushRo ⟨b, off, cap⟩ hb _ (fun k c hk => ?_), ⟨⟨b, off, cap⟩, _, _, ?_, rfl, hl, hm, by simp, fun _ => rfl⟩, ⟨xs, ?_, by omega, fun i y l hy hl => (t2 i y l hy hl).ext (Ext.push _ _)⟩, ?_⟩
    · have hk2 : k < vs.length := by have := (List.getElem?_eq_some_iff.1 hk).1; omega
      obtain ⟨_, hc⟩ := hvi k vs[k] (List.getElem?_eq_getElem hk2)
      exact ⟨vs[k], by rw [← addr_add]; exact hc, r2 k c _ hk (List.getElem?_eq_getElem hk2)⟩
    · rw [← R2.len, List.getElem?_append_right (Nat.le_refl _)]
      simp
    · have := Shows.ro h2.length 0 len _ (get_new h2 (.ro xs)) (by omega)
      simp only [List.drop_zero] at this
      rw [List.take_of_length_le (by omega)] at this
      exact this
    · have hml : maxLen ≤ 9223372036854775807 := by unfold maxLen; omega
      refine ⟨by omega, fun i => ?_⟩
      by_cases hi : i < L.length
      · have := b2 L[i] (List.getElem_mem hi)
        simp [List.getD, hi]
        omega
      · simp [List.getD, Nat.le_of_not_lt hi]

theorem i64_wf {n : Int} (h : (Lit.int .i64 n).wf = true) : -9223372036854775808 ≤ n ∧ n ≤ 9223372036854775807 := by
  simp only [Lit.wf, Bool.and_eq_true, decide_eq_true_eq] at h
  have h1 : IntKind.i64.min = -9223372036854775808 := by decide
  have h2 : IntKind.i64.max = 9223372036854775807 := by decide
  rw [h1, h2] at h
  exact h

end Go.Proofs.Ytnooeaemjnmkdaa.Hx
