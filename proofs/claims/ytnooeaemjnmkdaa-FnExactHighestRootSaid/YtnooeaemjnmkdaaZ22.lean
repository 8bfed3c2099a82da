/-
  The parts of a diagram, of the program; HighestRoot of both sides.
  Words as maps of all places: the exchange of a letter, the deletion of two letters, and that the image of rho tells the map. Plain theory.
  The game of signs from whatever places above zero, and that the numbers of a root all have one sign. Plain theory.
  Roots as maps of places: a root's numbers all have one sign, and the sign is told by the length of a word. Plain theory.
-/
import Derived.Test.YtnooeaemjnmkdaaZ21
namespace Go.Proofs.Ytnooeaemjnmkdaa.Hx
open Go.RowKit
variable {dm : Bool}

theorem OwnR.sorted {r : Nat} {h : Heap} {l l' : List Int} {t : List H0} (hr : r < h.length) (e : l'.length = l.length) : OwnR r (h.set r (.own (l'.map ci ++ t))) (.sl r 0 l.length) l' := ⟨t, by rw [e], List.getElem?_set_self hr⟩
theorem But.set {h : Heap} {r : Nat} (x : Row) : But r h (h.set r x) := ⟨by simp, fun q _ hn => by rw [List.getElem?_set_ne (Ne.symm hn)]⟩

/-- What was seen before a point: what some earlier point reaches. -/
def Before (c : List (List Int)) (k j : Nat) : Prop := ∃ m, m < k ∧ Rch c m j

theorem Before.closed {c : List (List Int)} {k i j : Nat} (h : Before c k i) (a : Adj c i j) : Before c k j := by
  obtain ⟨m, h1, h2⟩ := h
  exact ⟨m, h1, h2.step a⟩
theorem notBefore {c : List (List Int)} {k : Nat} (h : ¬ Before c k k) : isMin c k = true := isMin_iff.2 fun j hj hr => h ⟨j, hj, hr⟩
theorem beforeNot {c : List (List Int)} {k : Nat} (h : Before c k k) : isMin c k = false := by
  cases hm : isMin c k
  · rfl
  · obtain ⟨m, h1, h2⟩ := h
    exact absurd h2 (isMin_iff.1 hm m h1)
theorem before_next {c : List (List Int)} {k j : Nat} : Before c (k + 1) j ↔ Before c k j ∨ Rch c k j := by
  constructor
  · rintro ⟨m, h1, h2⟩
    by_cases e : m = k
    · subst e; exact Or.inr h2
    · exact Or.inl ⟨m, by omega, h2⟩
  · rintro (⟨m, h1, h2⟩ | h)
    · exact ⟨m, by omega, h2⟩
    · exact ⟨k, by omega, h⟩
theorem before_same {c : List (List Int)} {k j : Nat} (h : Before c k k) : Before c (k + 1) j ↔ Before c k j := by
  rw [before_next]
  constructor
  · rintro (g | g)
    · exact g
    · obtain ⟨m, h1, h2⟩ := h
      exact ⟨m, h1, h2.trans g⟩
  · exact Or.inl


set_option maxHeartbeats 2000000 in
theorem impl_PartsOf (h : Heap) (x : H0) (c : List (List Int)) (hx : Rows h x c) (hc : c.length ≤ 1048576) :
    HCalls dm Try.prog 78 [.s x] h (fun r h' => ∃ y, r = .s y ∧ Ext h h' ∧ OwnM h.length h'.length h' y (partsC c)) := by
  refine calls_of_hFun (m := 0) kd_ok mixed Try.func78 rfl (by kernel_rfl) rfl rfl (of_decide_eq_true rfl) ?_; unfold hFun; (conv => whnf)
  have E0 := Ext.push h [Row.own []]
  refine HLit.empty ?_
  (conv => whnf)
  refine (impl_IsCartan _ _ _ (hx.ext E0) (by omega)).mono ?_
  rintro r h1 ⟨rfl, hh⟩
  subst hh
  (conv => whnf)
  cases hic : isCartan c
  · (repeat (first | (refine HIf.no ?_; (conv => whnf)) | (refine HIf.yes ?_; (conv => whnf))))
    rw [partsC_off hic]
    exact ⟨_, rfl, E0, OwnM.none h⟩
  have hC := (isCartan_iff c).1 hic
  have h4 := hC.le
  rw [partsC_on hic]
  (repeat (first | (refine HIf.no ?_; (conv => whnf)) | (refine HIf.yes ?_; (conv => whnf))))
  refine ⟨rfl, (hx.ext E0).len ?_⟩
  (conv => whnf)
  refine HMake.bits c.length rfl (by omega) (fun h1 yb E1 l1 B1 => ?_)
  (conv => whnf)
  have E01 := E0.trans E1
  refine ⟨rfl, (hx.ext E01).len ?_⟩
  (conv => whnf)
  have M0 : MatP (fun p => h.length ≤ p ∧ p ≠ (h ++ [Row.own []]).length) (h ++ [Row.own []]) (.sl h.length 0 0) (partsTo c 0) := MatP.none ⟨Nat.le_refl _, by simp⟩
  have M1 := M0.ext E1
  have hb0 : h.length < (h ++ [Row.own []]).length := by simp
  clear M0 E0 E1
  generalize (h ++ [Row.own []]).length = b at *
  have hB1 := B1.lt
  have hs1 : (List.replicate c.length false).length = c.length := by simp
  have hS1 : ∀ j, j < c.length → ((List.replicate c.length false).getD j false = true ↔ Before c 0 j) := fun j hj => by
    constructor
    · intro e
      rw [List.getD, List.getElem?_eq_getElem (by simpa using hj)] at e
      simp at e
    · rintro ⟨m, hm, _⟩
      omega
  generalize List.replicate c.length false = S1 at *
  refine HLoop.intro [20, 3] [21, 22, 5, 23, 24, 25, 26, 27, 28, 29, 30, 31, 6, 7, 32, 33, 34, 35, 38, 39, 40, 41, 42, 43, 44, 45, 46, 47, 48, 9, 49, 50, 51, 52, 53, 54, 55, 56, 57, 58, 59, 60, 6, 61, 45, 36, 37, 7, 62, 63, 64, 65, 66, 67, 3, 68, 20] (by kernel_rfl) (by kernel_rfl) (fun vs h' => ∃ (k : Nat) (z : H0) (S : List Bool), vs = [I k, .s z] ∧ k ≤ c.length ∧ Ext h h' ∧ BitR b h' yb S ∧ MatP (fun p => h.length ≤ p ∧ p ≠ b) h' z (partsTo c k) ∧ S.length = c.length ∧ ∀ j, j < c.length → (S.getD j false = true ↔ Before c k j)) (fun vs _ => c.length - natAt vs 0) ⟨0, _, S1, rfl, by omega, E01, B1, M1, hs1, hS1⟩ ?_
  clear E01 B1 M1 l1 hB1 hs1 hS1
  rintro vs h' ⟨k, z, S, rfl, hk, E, B, M, hsl, hS⟩
  have hpl := partsTo_len c k
  (conv => whnf)
  refine HIf.dec (fun hlt => ?_) (fun hge => ?_)
  rotate_left
  · have e : k = c.length := by omega
    subst e
    (conv => whnf)
    exact ⟨_, rfl, E, M.own fun p _ hp => hp.1⟩
  have hkl : k < c.length := by omega
  (conv => whnf)
  refine ⟨rfl, B.idx (by omega) (fun hb => ?_)⟩
  (conv => whnf)
  refine ⟨rfl, hb.load ?_⟩
  (conv => whnf)
  cases hs : S.getD k false
  rotate_left
  · have hbe := (hS k hkl).1 hs
    refine HIf.yes ?_
    (conv => whnf)
    refine HArith.fits (by omega) (by omega) ?_
    (conv => whnf)
    exact ⟨⟨k + 1, z, S, rfl, by omega, E, B, by rw [partsTo_out (beforeNot hbe)]; exact M, hsl, fun j hj => by rw [before_same hbe]; exact hS j hj⟩, by show c.length - (k + 1) < c.length - k; omega⟩
  have hnb : ¬ Before c k k := fun e => by rw [(hS k hkl).2 e] at hs; cases hs
  have hmin := notBefore hnb
  refine HIf.no ?_
  (conv => whnf)
  refine ⟨rfl, B.idx (by omega) (fun hb2 => ?_)⟩
  (conv => whnf)
  refine ⟨rfl, B.put (by omega) (fun h2 U2 l2 B2 => ?_)⟩
  (conv => whnf)
  have E2 := E.but U2 (by omega)
  have M2 := M.bound.but U2 (fun e => e.1.2 rfl)
  have hB := B2.lt
  refine HLit.oneG (v := (k : Int)) E2 (fun h3 yq q E3 E03 O3 hq => ?_)
  (conv => whnf)
  have SR0 : Srch c k (Before c k) (S.set k true) [(k : Int)] 0 := Srch.start hsl hkl hnb hS
  have M3 := M2.ext E3
  have B3 := B2.ext E3
  have hN : h'.length ≤ q := by omega
  have hbN : b < h'.length := by omega
  generalize h'.length = N at *
  generalize S.set k true = S3 at B3 SR0
  generalize [(k : Int)] = Q3 at O3 SR0
  clear B M B2 M2 E E2 E3 U2 hb hb2 hs hS hsl hq l2 hB
  refine HLoop.intro [7, 6] [32, 33, 34, 35, 38, 39, 40, 41, 42, 43, 44, 45, 46, 47, 48, 9, 49, 50, 51, 52, 53, 54, 55, 56, 57, 58, 59, 60, 6, 61, 45, 36, 37, 7] (by kernel_rfl) (by kernel_rfl) (fun vs h' => ∃ (t q : Nat) (y : H0) (S : List Bool) (Q : List Int), vs = [I t, .s y] ∧ t ≤ Q.length ∧ Ext h h' ∧ BitR b h' yb S ∧ OwnR q h' y Q ∧ N ≤ q ∧ MatP (fun p => (h.length ≤ p ∧ p ≠ b) ∧ p < N) h' z (partsTo c k) ∧ Srch c k (Before c k) S Q t) (fun vs _ => c.length - natAt vs 0) ⟨0, q, yq, S3, Q3, rfl, by omega, E03, B3, O3, hN, M3, SR0⟩ ?_
  clear E03 B3 O3 M3 SR0 hN
  rintro vs h' ⟨t, q, y, S, Q, rfl, ht, E, B, O, hq, M, H⟩
  have hQ := H.few
  (conv => whnf)
  refine ⟨rfl, O.ints.len ?_⟩
  (conv => whnf)
  refine HIf.dec (fun hlt2 => ?_) (fun hge2 => ?_)
  · have htl : t < Q.length := by omega
    obtain ⟨p, hp, hpc⟩ := H.at htl
    (conv => whnf)
    refine ⟨rfl, O.ints.idxN htl (fun a ha => ?_)⟩
    rw [hp] at ha
    (conv => whnf)
    refine ⟨rfl, ha.load ?_⟩
    (conv => whnf)
    refine (impl_NeighboursOf _ _ c p (hx.ext E) hC hpc).mono ?_
    rintro r h2 ⟨yl, rfl, F⟩
    obtain ⟨rl, hrl, OL⟩ := F.row
    have hnl := nbrTo_len c p c.length
    have hql := O.lt
    have E2 := E.trans F.1
    replace B := B.ext F.1
    replace O := O.ext F.1
    replace M := M.ext F.1
    (conv => whnf)
    refine ⟨rfl, OL.ints.len ?_⟩
    (conv => whnf)
    refine HLoop.intro [45, 6] [46, 47, 48, 9, 49, 50, 51, 52, 53, 54, 55, 56, 57, 58, 59, 60, 6, 61, 45] (by kernel_rfl) (by kernel_rfl) (fun vs h' => ∃ (n q : Nat) (y : H0) (S : List Bool) (Q : List Int), vs = [I n, .s y] ∧ n ≤ (nbrTo c p c.length).length ∧ Ext h h' ∧ BitR b h' yb S ∧ OwnR q h' y Q ∧ N ≤ q ∧ q ≠ rl ∧ OwnR rl h' yl (nbrTo c p c.length) ∧ MatP (fun p => (h.length ≤ p ∧ p ≠ b) ∧ p < N) h' z (partsTo c k) ∧ t < Q.length ∧ Q.getD t 0 = p ∧ Srch c k (Before c k) S Q t ∧ ∀ u, u < n → ∀ j : Nat, (nbrTo c p c.length).getD u 0 = j → S.getD j false = true) (fun vs _ => (nbrTo c p c.length).length - natAt vs 0) ⟨0, q, y, S, Q, rfl, by omega, E2, B, O, hq, by omega, OL, M, htl, hp, H, fun u hu => by omega⟩ ?_
    have hNl := E2.1
    have hrlN : N ≤ rl := by omega
    clear E E2 B O OL hq F hql H hp ht hlt2 hQ htl ha M hrl
    rintro vs h' ⟨n, q, y, S, Q, rfl, hn, E, B, O, hq, hqr, OL, M, htl, hp, H, hall⟩
    have hQ := H.few
    (conv => whnf)
    refine HIf.dec (fun hlt3 => ?_) (fun hge3 => ?_)
    · have hnl : n < (nbrTo c p c.length).length := by omega
      obtain ⟨j, hj, hadj⟩ := nbr_at hnl
      have hjS : j < S.length := by rw [H.len]; exact hadj.1
      (conv => whnf)
      refine ⟨rfl, OL.ints.idxN hnl (fun a ha => ?_)⟩
      rw [hj] at ha
      (conv => whnf)
      refine ⟨rfl, ha.load ?_⟩
      (conv => whnf)
      have hso : S.getD j false = false ∨ S.getD j false = true := by cases S.getD j false <;> simp
      rcases hso with hs | hs
      · refine ⟨rfl, B.idx hjS (fun hb => ?_)⟩
        rw [hs] at hb
        (conv => whnf)
        refine ⟨rfl, hb.load ?_⟩
        (conv => whnf)
        refine HIf.yes ?_
        (conv => whnf)
        refine ⟨rfl, B.idx hjS (fun hb2 => ?_)⟩
        (conv => whnf)
        refine ⟨rfl, B.put hjS (fun h5 U5 l5 B5 => ?_)⟩
        have E5 := E.but U5 (by omega)
        have O5 := O.but U5 (by omega)
        have hrl2 := OL.lt
        have OL5 := OL.but U5 (by omega)
        have M5 := M.but U5 (fun e => e.1.2 rfl)
        (conv => whnf)
        refine HLit.one ?_
        (conv => whnf)
        refine ⟨rfl, rfl, HApp.litR [(j : Int)] O5 (by simp; omega) (fun h6 q6 z6 U6 hq6 O6 => ?_)⟩
        have E6 := E5.but U6 (by omega)
        have B6 := B5.but U6 (by omega)
        have OL6 := OL5.but U6 (by omega)
        have M6 := M5.but U6 (by omega)
        have H6 := H.push htl (by rw [hp]; exact hadj) hs
        have hB5 := B5.lt
        have hr5 := OL5.lt
        have hO5 := O5.lt
        (conv => whnf)
        refine HArith.fits (by omega) (by omega) ?_
        (conv => whnf)
        exact ⟨⟨n + 1, q6, z6, _, _, rfl, by omega, E6, B6, O6, by omega, by omega, OL6, M6, by simp; omega, by rw [getD_appV htl]; exact hp, H6, fun u hu j' hj' => by
          rw [set_getD_bool hjS]
          split
          · rfl
          · by_cases e : u = n
            · subst e
              rw [hj] at hj'
              omega
            · exact hall u (by omega) j' hj'⟩, by show (nbrTo c p c.length).length - (n + 1) < (nbrTo c p c.length).length - n; omega⟩
      · refine ⟨rfl, B.idx hjS (fun hb => ?_)⟩
        rw [hs] at hb
        (conv => whnf)
        refine ⟨rfl, hb.load ?_⟩
        (conv => whnf)
        refine HIf.no ?_
        (conv => whnf)
        refine HArith.fits (by omega) (by omega) ?_
        (conv => whnf)
        exact ⟨⟨n + 1, q, y, S, Q, rfl, by omega, E, B, O, hq, hqr, OL, M, htl, hp, H, fun u hu j' hj' => by
          by_cases e : u = n
          · subst e
            rw [hj] at hj'
            have : j' = j := by omega
            rw [this]
            exact hs
          · exact hall u (by omega) j' hj'⟩, by show (nbrTo c p c.length).length - (n + 1) < (nbrTo c p c.length).length - n; omega⟩
    · have en : n = (nbrTo c p c.length).length := by omega
      have H2 := H.next (fun j hj => by
        rw [hp] at hj
        obtain ⟨u, hu, e⟩ := nbr_all (c := c) (p := p) hj
        exact hall u (by omega) j e)
      (conv => whnf)
      refine HArith.fits (by omega) (by omega) ?_
      (conv => whnf)
      exact ⟨⟨t + 1, q, y, S, Q, rfl, by omega, E, B, O, hq, M, H2⟩, by show c.length - (t + 1) < c.length - t; omega⟩
  · have et : t = Q.length := by omega
    subst et
    have hfin : ∀ j : Nat, (j : Int) ∈ Q ↔ Rch c k j := fun j => H.fin hC hkl hnb (fun i _ hi j hj => hi.closed hj)
    have hsort := sort_part hkl H.nodup (fun x hx => by obtain ⟨j, e, hj, _⟩ := H.rch x hx; exact ⟨j, e, hj⟩) hfin
    have hQp : 0 < Q.length := List.length_pos_of_mem H.head
    have hql := O.lt
    have hslen : (partL c k).length = Q.length := by rw [← hsort]; exact List.length_mergeSort Q
    have hSe : ∀ j, j < c.length → (S.getD j false = true ↔ Before c (k + 1) j) := fun j hj => by rw [before_next, H.seen j hj, hfin]
    have hSl := H.len
    obtain ⟨tl, rfl, hrow⟩ := O
    have hcall := sortI_calls (dm := dm) (P := Try.prog) Try.sortI hrow hQp (by omega)
    change HCalls dm Try.prog 100 _ _ _ at hcall
    (conv => whnf)
    refine hcall.mono ?_
    rintro r h5 ⟨rfl, rfl⟩
    rw [hsort]
    have U5 : But q h' (h'.set q (.own ((partL c k).map ci ++ tl))) := But.set _
    have O5 : OwnR q (h'.set q (.own ((partL c k).map ci ++ tl))) (.sl q 0 Q.length) (partL c k) := OwnR.sorted hql hslen
    have E5 := E.but U5 (by omega)
    have B5 := B.but U5 (by omega)
    have M5 := M.but U5 (by omega)
    generalize h'.set q (.own ((partL c k).map ci ++ tl)) = h5 at *
    (conv => whnf)
    refine HLit.row (O5.own (b := 0) (by omega)).one ?_
    (conv => whnf)
    refine ⟨rfl, rfl, HApp.snocP M5 O5 (by omega) (by omega) (fun h6 z6 K6 l6 M6 => ?_)⟩
    rw [← partsTo_in hmin] at M6
    have hE5 := E5.1
    have hB5 := B5.lt
    have E6 : Ext h h6 := ⟨by omega, fun p hp => by rw [K6 p (by omega) (by omega)]; exact E5.2 p hp⟩
    have B6 : BitR b h6 yb S := ⟨B5.1, by rw [K6 b hB5 (fun e => e.1.2 rfl)]; exact B5.2⟩
    (conv => whnf)
    refine HArith.fits (by omega) (by omega) ?_
    (conv => whnf)
    exact ⟨⟨k + 1, z6, S, rfl, by omega, E6, B6, M6.weaken (fun p hp => by
      rintro (⟨⟨g, g2⟩, _⟩ | g | g)
      · exact ⟨g, g2⟩
      · exact ⟨by omega, by omega⟩
      · exact ⟨by omega, by omega⟩), hSl, hSe⟩, by show c.length - (k + 1) < c.length - k; omega⟩

theorem impl_IsConnected (h : Heap) (x : H0) (c : List (List Int)) (hx : Rows h x c) (hc : c.length ≤ 1048576) :
    HCalls dm Try.prog 51 [.s x] h (fun r h' => r = B (isConn c) ∧ Ext h h') := by
  refine calls_of_hFun (m := 0) kd_ok mixed Try.func51 rfl (by kernel_rfl) rfl rfl (of_decide_eq_true rfl) ?_; unfold hFun; (conv => whnf)
  refine (impl_PartsOf _ _ c hx hc).mono ?_
  rintro r h1 ⟨y, rfl, E, O⟩
  (conv => whnf)
  refine ⟨rfl, O.rows.len ?_⟩
  (conv => whnf)
  refine ⟨bEq ?_, E⟩
  rw [isConn_parts]
  by_cases e : (partsC c).length = 1
  · simp [e]
  · simp only [e, decide_false]
    symm
    rw [beq_eq_false_iff_ne]
    omega

end Go.Proofs.Ytnooeaemjnmkdaa.Hx

namespace Go.Proofs.Ytnooeaemjnmkdaa.Hx
open Go.RowKit

/-- Two words do the same to every place. -/
def Lin (c : List (List Int)) (a b : List Int) : Prop := ∀ v : Pos, actS (ent c) a v = actS (ent c) b v

theorem Lin.refl (c : List (List Int)) (a : List Int) : Lin c a a := fun _ => rfl
theorem Lin.symm {c : List (List Int)} {a b : List Int} (h : Lin c a b) : Lin c b a := fun v => (h v).symm
theorem Lin.trans {c : List (List Int)} {a b d : List Int} (h : Lin c a b) (k : Lin c b d) : Lin c a d := fun v => (h v).trans (k v)
theorem Lin.app {c : List (List Int)} {a b a' b' : List Int} (h : Lin c a b) (k : Lin c a' b') : Lin c (a ++ a') (b ++ b') := fun v => by rw [actS_app, actS_app, k v, h]
theorem Lin.cons {c : List (List Int)} {a b : List Int} (i : Int) (h : Lin c a b) : Lin c (i :: a) (i :: b) := Lin.app (Lin.refl c [i]) h

theorem Br.lin {c : List (List Int)} {a b : List Int} (h : Br c a b) : Lin c a b := by
  cases h with
  | mk p i j m q hb h2 =>
    obtain ⟨hC, hi, hj, hij, e⟩ := bond_info hb h2
    have p1 := point_of hi
    have p2 := point_of hj
    refine Lin.app (Lin.refl c p) (Lin.app (fun v => ?_) (Lin.refl c q))
    rw [actS_alt, actS_alt, e, alt_rel (matOk hC) (i := i.toNat) (j := j.toNat) (by omega) (by omega) (by omega)]

theorem Conn.lin {c : List (List Int)} {a b : List Int} (h : Conn c a b) : Lin c a b := by
  induction h with
  | refl => exact Lin.refl c _
  | tail _ s ih => exact ih.trans s.lin
theorem Conn.letters {c : List (List Int)} {a b : List Int} (h : Conn c a b) (ha : lettersOk c a = true) : lettersOk c b = true := by
  induction h with
  | refl => exact ha
  | tail _ s ih => exact s.letters ih

theorem twice {c : List (List Int)} (hC : Cartan c) {i : Int} (hi : isPoint c i = true) (w : List Int) : Lin c (i :: i :: w) w := fun v => by
  have p1 := point_of hi
  exact sr_sr ((matOk hC).diag i.toNat (by omega)) _

theorem bondP_cases {p : Int} (h : 2 ≤ bondP p) : bondP p = 2 ∨ bondP p = 3 ∨ bondP p = 4 ∨ bondP p = 6 := by
  unfold bondP at h ⊢
  split
  · exact Or.inl rfl
  · split
    · exact Or.inr (Or.inl rfl)
    · split
      · exact Or.inr (Or.inr (Or.inl rfl))
      · split
        · exact Or.inr (Or.inr (Or.inr rfl))
        · rename_i h1 h2 h3 h4
          rw [if_neg h1, if_neg h2, if_neg h3, if_neg h4] at h
          omega

/-- A letter less of one row of turns is a letter less of the other. -/
theorem alt_erase {c : List (List Int)} (hC : Cartan c) {i j : Int} (hi : isPoint c i = true) (hj : isPoint c j = true) {m : Nat} (hm : m = 2 ∨ m = 3 ∨ m = 4 ∨ m = 6) {k : Nat} (hk : k < m) :
    Lin c ((altTo i j m).eraseIdx k) ((altTo j i m).eraseIdx (m - 1 - k)) := by
  have p1 := point_of hi
  have p2 := point_of hj
  have d1 : ∀ v, sr (ent c) i.toNat (sr (ent c) i.toNat v) = v := sr_sr ((matOk hC).diag i.toNat (by omega))
  have d2 : ∀ v, sr (ent c) j.toNat (sr (ent c) j.toNat v) = v := sr_sr ((matOk hC).diag j.toNat (by omega))
  intro v
  rcases hm with rfl | rfl | rfl | rfl
  · have e : k = 0 ∨ k = 1 := by omega
    rcases e with rfl | rfl <;> rfl
  · have e : k = 0 ∨ k = 1 ∨ k = 2 := by omega
    rcases e with rfl | rfl | rfl
    · rfl
    · show sr (ent c) i.toNat (sr (ent c) i.toNat v) = sr (ent c) j.toNat (sr (ent c) j.toNat v)
      rw [d1, d2]
    · rfl
  · have e : k = 0 ∨ k = 1 ∨ k = 2 ∨ k = 3 := by omega
    rcases e with rfl | rfl | rfl | rfl
    · rfl
    · show sr (ent c) i.toNat (sr (ent c) i.toNat (sr (ent c) j.toNat v)) = sr (ent c) j.toNat (sr (ent c) i.toNat (sr (ent c) i.toNat v))
      rw [d1, d1]
    · show sr (ent c) i.toNat (sr (ent c) j.toNat (sr (ent c) j.toNat v)) = sr (ent c) j.toNat (sr (ent c) j.toNat (sr (ent c) i.toNat v))
      rw [d2, d2]
    · rfl
  · have e : k = 0 ∨ k = 1 ∨ k = 2 ∨ k = 3 ∨ k = 4 ∨ k = 5 := by omega
    have u : ∀ (m : Nat) (x y : Int), altTo x y (m + 1) = x :: altTo y x m := fun m x y => altTo_cons x y m
    rcases e with rfl | rfl | rfl | rfl | rfl | rfl <;> simp only [u, altTo_none, List.eraseIdx, actS, d1, d2] <;> try rfl

/-- One letter of w can be left out for letter i put ahead. -/
def Exch (c : List (List Int)) (i : Int) (w : List Int) : Prop := ∃ k, k < w.length ∧ Lin c (w.eraseIdx k) (i :: w)

theorem Exch.br {c : List (List Int)} {a b : List Int} {i : Int} (h : Br c a b) (H : Exch c i a) : Exch c i b := by
  have hl := h.lin
  have hbr := h.length
  obtain ⟨k, hk, e⟩ := H
  cases h with
  | mk p s t m q hb h2 =>
    obtain ⟨hC, hs, ht, hst, em⟩ := bond_info hb h2
    have p1 := point_of hs
    have p2 := point_of ht
    have halt : Lin c (altTo s t m) (altTo t s m) := fun v => by
      rw [actS_alt, actS_alt, em, alt_rel (matOk hC) (i := s.toNat) (j := t.toNat) (by omega) (by omega) (by omega)]
    have l1 : (altTo s t m).length = m := altTo_len s t m
    have l2 : (altTo t s m).length = m := altTo_len t s m
    by_cases h1 : k < p.length
    · refine ⟨k, by rw [hbr]; exact hk, ?_⟩
      rw [List.eraseIdx_append_of_lt_length h1] at e ⊢
      exact (Lin.app (Lin.refl c _) (Lin.app halt.symm (Lin.refl c q))).trans (e.trans (hl.cons i))
    · rw [List.eraseIdx_append_of_length_le (by omega)] at e
      by_cases h3 : k - p.length < m
      · rw [List.eraseIdx_append_of_lt_length (by omega)] at e
        refine ⟨p.length + (m - 1 - (k - p.length)), by simp [l2]; omega, ?_⟩
        rw [List.eraseIdx_append_of_length_le (by omega), Nat.add_sub_cancel_left, List.eraseIdx_append_of_lt_length (by omega)]
        have hal := alt_erase hC hs ht (m := m) (k := k - p.length) (by rw [em]; exact bondP_cases (by omega)) h3
        exact (Lin.app (Lin.refl c p) (Lin.app hal.symm (Lin.refl c q))).trans (e.trans (hl.cons i))
      · rw [List.eraseIdx_append_of_length_le (by omega)] at e
        refine ⟨k, by rw [hbr]; exact hk, ?_⟩
        rw [List.eraseIdx_append_of_length_le (by omega), List.eraseIdx_append_of_length_le (by omega), l2]
        rw [l1] at e
        exact (Lin.app (Lin.refl c p) (Lin.app halt.symm (Lin.refl c _))).trans (e.trans (hl.cons i))

theorem Exch.conn {c : List (List Int)} {a b : List Int} {i : Int} (h : Conn c a b) (H : Exch c i a) : Exch c i b := by
  induction h with
  | refl => exact H
  | tail _ s ih => exact ih.br s

/-- The exchange of a letter. -/
theorem exchange {c : List (List Int)} (hC : Cartan c) {n : Nat} {v w : List Int} (P : PlayL c n v) (hn : n ≤ 29) (R : Red c n v w) {i : Int} (hi : isPoint c i = true) (h : v.getD i.toNat 0 < 0) : Exch c i w := by
  have p1 := point_of hi
  obtain ⟨m, rfl, Q⟩ := P.down hC (by omega) (i := i.toNat) (by omega) h
  have Rz : Red c m (reflW c i.toNat v) (nf c 30 (reflW c i.toNat v)) := ⟨nf_len hC m _ 30 Q (by omega) (by omega), nf_letters hC m _ 30 Q (by omega) (by omega), nf_image hC m _ 30 Q (by omega) (by omega)⟩
  have Ri := Red.cons hC P (by omega) hi h Rz
  refine Exch.conn (conn_all hC (m + 1) v P hn _ w Ri R) ⟨0, by simp, ?_⟩
  exact (twice hC hi _).symm

theorem lin_image {c : List (List Int)} (hC : Cartan c) {a b : List Int} (h : Lin c a b) (ha : lettersOk c a = true) (hb : lettersOk c b = true) (hla : a.length ≤ 31) (hlb : b.length ≤ 31) : imageOf c a = imageOf c b := by
  apply posOf_inj (by rw [imageOf_length, imageOf_length])
  rw [image_pos hC ha hla, image_pos hC hb hlb]
  exact h _

theorem letters_erase {c : List (List Int)} {w : List Int} (h : lettersOk c w = true) (k : Nat) : lettersOk c (w.eraseIdx k) = true :=
  List.all_eq_true.2 fun x hx => List.all_eq_true.1 h x (List.mem_of_mem_eraseIdx hx)

/-- The deletion of two letters. -/
theorem deletion {c : List (List Int)} (hC : Cartan c) : ∀ (w : List Int) (n : Nat), lettersOk c w = true → w.length ≤ 29 → PlayL c n (imageOf c w) → n < w.length →
    ∃ a b, a < b ∧ b < w.length ∧ Lin c ((w.eraseIdx b).eraseIdx a) w
  | [], _, _, _, _, h => by simp at h
  | s :: q, n, hw, hl, P, hn => by
    obtain ⟨hs, hq⟩ := letters_cons.1 hw
    have p1 := point_of hs
    simp only [List.length_cons] at hl hn
    obtain ⟨m, hm, Q⟩ := play_image hC hq (by omega)
    by_cases h : m < q.length
    · obtain ⟨a, b, h1, h2, h3⟩ := deletion hC q m hq (by omega) Q h
      exact ⟨a + 1, b + 1, by omega, by simp; omega, by simpa using h3.cons s⟩
    · have em : m = q.length := by omega
      have hneg : (imageOf c q).getD s.toNat 0 < 0 := by
        have hne := Q.ne hC (i := s.toNat) (by omega)
        by_cases hlt : (imageOf c q).getD s.toNat 0 < 0
        · exact hlt
        · exfalso
          have U : PlayL c (m + 1) (imageOf c (s :: q)) := by
            rw [imageW_cons]
            refine ⟨by rw [reflW_length]; exact Q.1, ?_⟩
            rw [pos_refl hC Q (by omega) (by omega)]
            exact Q.2.up (matOk hC) (by omega) (by show 0 < (imageOf c q).getD s.toNat 0; omega)
          have := play_unique hC P U (by omega) (by omega)
          omega
      obtain ⟨k, hk, e⟩ := exchange hC Q (by omega) (w := q) ⟨em.symm, hq, rfl⟩ hs hneg
      exact ⟨0, k + 1, by omega, by simp; omega, by simpa using e⟩

/-- Each word is as good as a reduced one. -/
theorem reduce_to {c : List (List Int)} (hC : Cartan c) : ∀ (l : Nat) (w : List Int) (n : Nat), w.length ≤ l → lettersOk c w = true → w.length ≤ 29 → n ≤ 30 → PlayL c n (imageOf c w) → ∃ r, Red c n (imageOf c w) r ∧ Lin c r w
  | l, w, n, hl, hw, h29, h30, P => by
    obtain ⟨m, hm, Q⟩ := play_image hC hw (by omega)
    have hn : n = m := play_unique hC P Q h30 (by omega)
    subst hn
    by_cases h : n < w.length
    · obtain ⟨a, b, h1, h2, h3⟩ := deletion hC w n hw h29 P h
      have hwl : ((w.eraseIdx b).eraseIdx a).length + 2 = w.length := by
        rw [List.length_eraseIdx_of_lt (by rw [List.length_eraseIdx_of_lt h2]; omega), List.length_eraseIdx_of_lt h2]
        omega
      have hlt := letters_erase (letters_erase hw b) a
      have him := lin_image hC h3 hlt hw (by omega) (by omega)
      obtain ⟨l', rfl⟩ : ∃ l', l = l' + 1 := ⟨l - 1, by omega⟩
      obtain ⟨r, Rr, hr⟩ := reduce_to hC l' ((w.eraseIdx b).eraseIdx a) n (by omega) hlt (by omega) h30 (by rw [him]; exact P)
      rw [him] at Rr
      exact ⟨r, Rr, hr.trans h3⟩
    · exact ⟨w, ⟨by omega, hw, rfl⟩, Lin.refl c w⟩

/-- The image of rho tells the map. -/
theorem faithful {c : List (List Int)} (hC : Cartan c) {a b : List Int} (ha : lettersOk c a = true) (hb : lettersOk c b = true) (hla : a.length ≤ 29) (hlb : b.length ≤ 29) (h : imageOf c a = imageOf c b) : Lin c a b := by
  obtain ⟨n, hn, P⟩ := play_image hC ha (by omega)
  obtain ⟨r, Rr, hr⟩ := reduce_to hC a.length a n (Nat.le_refl _) ha hla (by omega) P
  obtain ⟨s, Rs, hs⟩ := reduce_to hC b.length b n (Nat.le_refl _) hb hlb (by omega) (by rw [← h]; exact P)
  rw [← h] at Rs
  exact hr.symm.trans ((conn_all hC n _ P (by omega) r s Rr Rs).lin.trans hs)

theorem actS_rev {c : List (List Int)} (hC : Cartan c) : ∀ (w : List Int), lettersOk c w = true → ∀ v, actS (ent c) w (actS (ent c) w.reverse v) = v ∧ actS (ent c) w.reverse (actS (ent c) w v) = v
  | [], _, _ => ⟨rfl, rfl⟩
  | i :: w, h, v => by
    obtain ⟨h1, h2⟩ := letters_cons.1 h
    have p1 := point_of h1
    have d : ∀ v, sr (ent c) i.toNat (sr (ent c) i.toNat v) = v := sr_sr ((matOk hC).diag i.toNat (by omega))
    rw [List.reverse_cons, actS_app, actS_app]
    show sr (ent c) i.toNat (actS (ent c) w (actS (ent c) w.reverse (sr (ent c) i.toNat v))) = v ∧ actS (ent c) w.reverse (sr (ent c) i.toNat (sr (ent c) i.toNat (actS (ent c) w v))) = v
    rw [(actS_rev hC w h2 _).1, d, d, (actS_rev hC w h2 _).2]
    exact ⟨rfl, rfl⟩

theorem letters_rev {c : List (List Int)} {w : List Int} (h : lettersOk c w = true) : lettersOk c w.reverse = true :=
  List.all_eq_true.2 fun x hx => List.all_eq_true.1 h x (List.mem_reverse.1 hx)

theorem Lin.rev {c : List (List Int)} (hC : Cartan c) {a b : List Int} (ha : lettersOk c a = true) (hb : lettersOk c b = true) (h : Lin c a b) : Lin c a.reverse b.reverse := fun v => by
  have h1 := (actS_rev hC a ha v).1
  have h2 := (actS_rev hC b hb v).1
  have h3 := (actS_rev hC a ha (actS (ent c) b.reverse v)).2
  rw [h (actS (ent c) b.reverse v), h2] at h3
  exact h3

/-- A word from behind is as long as the word. -/
theorem play_rev {c : List (List Int)} (hC : Cartan c) {w : List Int} {n m : Nat} (hw : lettersOk c w = true) (hl : w.length ≤ 29) (P : PlayL c n (imageOf c w)) (Q : PlayL c m (imageOf c w.reverse)) (hm : m ≤ 30) (hn : n ≤ 30) : m = n := by
  have key : ∀ (w : List Int) (n m : Nat), lettersOk c w = true → w.length ≤ 29 → PlayL c n (imageOf c w) → PlayL c m (imageOf c w.reverse) → m ≤ 30 → n ≤ 30 → m ≤ n := by
    intro w n m hw hl P Q hm hn
    obtain ⟨r, Rr, hr⟩ := reduce_to hC w.length w n (Nat.le_refl _) hw hl hn P
    have him := lin_image hC (hr.rev hC Rr.2.1 hw) (letters_rev Rr.2.1) (letters_rev hw) (by rw [List.length_reverse, Rr.1]; omega) (by rw [List.length_reverse]; omega)
    obtain ⟨k, hk, K⟩ := play_image hC (letters_rev Rr.2.1) (by rw [List.length_reverse, Rr.1]; omega)
    rw [him] at K
    rw [List.length_reverse, Rr.1] at hk
    have := play_unique hC Q K hm (by omega)
    omega
  have h1 := key w n m hw hl P Q hm hn
  have h2 := key w.reverse m n (letters_rev hw) (by rw [List.length_reverse]; exact hl) Q (by rw [List.reverse_reverse]; exact P) hn hm
  omega

end Go.Proofs.Ytnooeaemjnmkdaa.Hx

namespace Go.Proofs.Ytnooeaemjnmkdaa.Hx.Lam
open Go.Proofs.Ytnooeaemjnmkdaa.Hx

/-- n steps, each at a negative number, lead from v to lam. -/
inductive Play (lam : Pos) (N : Nat) (c : Nat → Nat → Int) : Nat → Pos → Prop where
  | done {v : Pos} (h : ∀ i, i < N → v i = lam i) : Play lam N c 0 v
  | step {n : Nat} {v : Pos} (i : Nat) (hi : i < N) (h : v i < 0) (p : Play lam N c n (sr c i v)) : Play lam N c (n + 1) v

theorem Play.up {lam : Pos} {N : Nat} {c : Nat → Nat → Int} (M : MatOk N c) {n i : Nat} {v : Pos} (p : Play lam N c n v) (hi : i < N) (h : 0 < v i) : Play lam N c (n + 1) (sr c i v) :=
  .step i hi (by rw [sr_at (M.diag i hi)]; omega) (by rw [sr_sr (M.diag i hi)]; exact p)

def Good (lam : Pos) (N : Nat) (c : Nat → Nat → Int) (n : Nat) (v : Pos) : Prop := ∀ i, i < N → v i ≠ 0 ∧ (v i < 0 → ∃ m, n = m + 1 ∧ Play lam N c m (sr c i v))

theorem play_inf {lam : Pos} {N : Nat} {c : Nat → Nat → Int} (M : MatOk N c) (n : Nat) (IH : ∀ m, m ≤ n → ∀ v, Play lam N c m v → Good lam N c m v) :
    ∀ k, k ≤ n → ∀ (v : Pos) (i j : Nat), Play lam N c k v → i < N → j < N → (c i j ≤ -2 ∧ c j i ≤ -2) → -3 ≤ c i j → -3 ≤ c j i → v i < 0 → 0 < v j → - c i j * v j ≤ 2 * (- v i) → False := by
  intro k
  induction k with
  | zero =>
    intro _ v i j p hi _ _ _ _ h1 _ _
    obtain ⟨m, hm, _⟩ := (IH 0 (by omega) v p i hi).2 h1
    omega
  | succ k ih =>
    intro hk v i j p hi hj hc h3 h4 h1 h2 hb
    obtain ⟨m, hm, q⟩ := (IH (k + 1) hk v p i hi).2 h1
    have : m = k := by omega
    subst this
    refine ih (by omega) (sr c i v) j i q hj hi ⟨hc.2, hc.1⟩ h4 h3 ?_ ?_ ?_
    · show v j - v i * c j i < 0
      have e1 : c i j = -2 ∨ c i j = -3 := by omega
      have e2 : c j i = -2 ∨ c j i = -3 := by omega
      rcases e1 with e1 | e1 <;> rcases e2 with e2 | e2 <;> rw [e1] at hb <;> rw [e2] <;> omega
    · rw [sr_at (M.diag i hi)]
      omega
    · rw [sr_at (M.diag i hi)]
      show - c j i * - v i ≤ 2 * -(v j - v i * c j i)
      have e1 : c i j = -2 ∨ c i j = -3 := by omega
      have e2 : c j i = -2 ∨ c j i = -3 := by omega
      rcases e1 with e1 | e1 <;> rcases e2 with e2 | e2 <;> rw [e1] at hb <;> rw [e2] <;> omega

section
variable {lam : Pos} {N : Nat} {c : Nat → Nat → Int} {n i j : Nat} {v : Pos}

theorem down_i (M : MatOk N c) (IH : ∀ m, m ≤ n → ∀ v, Play lam N c m v → Good lam N c m v) (hi : i < N) (a b a' : Int) {m : Nat} (hm : m ≤ n) (p : Play lam N c m (cb c i j v a b)) (h : a' - a = v i - 2 * a - b * c i j) (hl : a' ≤ a) :
    a' < a ∧ ∃ k, m = k + 1 ∧ Play lam N c k (cb c i j v a' b) := by
  have e : cb c i j v a b i = a' - a := by
    show v i - a * c i i - b * c i j = a' - a
    rw [M.diag i hi]
    omega
  have g := IH m hm _ p i hi
  rw [e] at g
  refine ⟨by omega, ?_⟩
  obtain ⟨k, hk, q⟩ := g.2 (by omega)
  rw [cb_i c i j v a b a' (by omega)] at q
  exact ⟨k, hk, q⟩
theorem down_j (M : MatOk N c) (IH : ∀ m, m ≤ n → ∀ v, Play lam N c m v → Good lam N c m v) (hj : j < N) (a b b' : Int) {m : Nat} (hm : m ≤ n) (p : Play lam N c m (cb c i j v a b)) (h : b' - b = v j - a * c j i - 2 * b) (hl : b' ≤ b) :
    b' < b ∧ ∃ k, m = k + 1 ∧ Play lam N c k (cb c i j v a b') := by
  have e : cb c i j v a b j = b' - b := by
    show v j - a * c j i - b * c j j = b' - b
    rw [M.diag j hj]
    omega
  have g := IH m hm _ p j hj
  rw [e] at g
  refine ⟨by omega, ?_⟩
  obtain ⟨k, hk, q⟩ := g.2 (by omega)
  rw [cb_j c i j v a b b' (by omega)] at q
  exact ⟨k, hk, q⟩
theorem up_i (M : MatOk N c) (hi : i < N) (a b a' : Int) {m : Nat} (p : Play lam N c m (cb c i j v a b)) (h : a' - a = v i - 2 * a - b * c i j) (hl : a < a') : Play lam N c (m + 1) (cb c i j v a' b) := by
  have e : cb c i j v a b i = a' - a := by
    show v i - a * c i i - b * c i j = a' - a
    rw [M.diag i hi]
    omega
  have := p.up M hi (by rw [e]; omega)
  rwa [cb_i c i j v a b a' (by omega)] at this
theorem up_j (M : MatOk N c) (hj : j < N) (a b b' : Int) {m : Nat} (p : Play lam N c m (cb c i j v a b)) (h : b' - b = v j - a * c j i - 2 * b) (hl : b < b') : Play lam N c (m + 1) (cb c i j v a b') := by
  have e : cb c i j v a b j = b' - b := by
    show v j - a * c j i - b * c j j = b' - b
    rw [M.diag j hj]
    omega
  have := p.up M hj (by rw [e]; omega)
  rwa [cb_j c i j v a b b' (by omega)] at this


theorem play_pair (M : MatOk N c) (IH : ∀ m, m ≤ n → ∀ v, Play lam N c m v → Good lam N c m v) (hi : i < N) (hj : j < N) (hij : i ≠ j) (hb : v j < 0) (p : Play lam N c n (sr c j v)) (ha : v i ≤ 0) :
    v i < 0 ∧ Play lam N c n (sr c i v) := by
  have o1 := M.off i j hi hj hij
  have o2 := M.off j i hj hi (Ne.symm hij)
  have z1 := M.zero i j hi hj
  have z2 := M.zero j i hj hi
  by_cases inf : c i j ≤ -2 ∧ c j i ≤ -2
  · exfalso
    refine play_inf M n IH n (Nat.le_refl _) (sr c j v) i j p hi hj inf o1.1 o2.1 ?_ ?_ ?_
    · show v i - v j * c i j < 0
      have e1 : c i j = -2 ∨ c i j = -3 := by omega
      rcases e1 with e1 | e1 <;> rw [e1] <;> omega
    · rw [sr_at (M.diag j hj)]
      omega
    · rw [sr_at (M.diag j hj)]
      show - c i j * - v j ≤ 2 * - (v i - v j * c i j)
      have e1 : c i j = -2 ∨ c i j = -3 := by omega
      rcases e1 with e1 | e1 <;> rw [e1] <;> omega
  rw [sr_cb' c i j v] at p
  rw [sr_cb c i j v]
  generalize hA : v i = a at *
  generalize hB : v j = b at *
  have fin : (c i j = 0 ∧ c j i = 0) ∨ (c i j = -1 ∧ c j i = -1) ∨ (c i j = -2 ∧ c j i = -1) ∨ (c i j = -1 ∧ c j i = -2) ∨ (c i j = -3 ∧ c j i = -1) ∨ (c i j = -1 ∧ c j i = -3) := by omega
  rcases fin with ⟨e1, e2⟩ | ⟨e1, e2⟩ | ⟨e1, e2⟩ | ⟨e1, e2⟩ | ⟨e1, e2⟩ | ⟨e1, e2⟩
  · obtain ⟨d1, k1, m1, p⟩ := down_i M IH hi 0 b a (by omega) p (by rw [e1, hA]; omega) (by omega)
    refine ⟨by omega, ?_⟩
    have p := up_j M hj a b 0 p (by rw [e2, hB]; omega) (by omega)
    rw [m1]
    exact p
  · obtain ⟨d1, k1, m1, p⟩ := down_i M IH hi 0 b (a + b) (by omega) p (by rw [e1, hA]; omega) (by omega)
    obtain ⟨d2, k2, m2, p⟩ := down_j M IH hj (a + b) b (a + b) (by omega) p (by rw [e2, hB]; omega) (by omega)
    refine ⟨by omega, ?_⟩
    have p := up_i M hi (a + b) (a + b) a p (by rw [e1, hA]; omega) (by omega)
    have p := up_j M hj a (a + b) 0 p (by rw [e2, hB]; omega) (by omega)
    rw [m1, m2]
    exact p
  · obtain ⟨d1, k1, m1, p⟩ := down_i M IH hi 0 b (a + 2 * b) (by omega) p (by rw [e1, hA]; omega) (by omega)
    obtain ⟨d2, k2, m2, p⟩ := down_j M IH hj (a + 2 * b) b (a + 2 * b) (by omega) p (by rw [e2, hB]; omega) (by omega)
    obtain ⟨d3, k3, m3, p⟩ := down_i M IH hi (a + 2 * b) (a + 2 * b) (2 * a + 2 * b) (by omega) p (by rw [e1, hA]; omega) (by omega)
    refine ⟨by omega, ?_⟩
    have p := up_j M hj (2 * a + 2 * b) (a + 2 * b) (a + b) p (by rw [e2, hB]; omega) (by omega)
    have p := up_i M hi (2 * a + 2 * b) (a + b) a p (by rw [e1, hA]; omega) (by omega)
    have p := up_j M hj a (a + b) 0 p (by rw [e2, hB]; omega) (by omega)
    rw [m1, m2, m3]
    exact p
  · obtain ⟨d1, k1, m1, p⟩ := down_i M IH hi 0 b (a + b) (by omega) p (by rw [e1, hA]; omega) (by omega)
    obtain ⟨d2, k2, m2, p⟩ := down_j M IH hj (a + b) b (2 * a + 2 * b) (by omega) p (by rw [e2, hB]; omega) (by omega)
    obtain ⟨d3, k3, m3, p⟩ := down_i M IH hi (a + b) (2 * a + 2 * b) (2 * a + b) (by omega) p (by rw [e1, hA]; omega) (by omega)
    refine ⟨by omega, ?_⟩
    have p := up_j M hj (2 * a + b) (2 * a + 2 * b) (2 * a + b) p (by rw [e2, hB]; omega) (by omega)
    have p := up_i M hi (2 * a + b) (2 * a + b) a p (by rw [e1, hA]; omega) (by omega)
    have p := up_j M hj a (2 * a + b) 0 p (by rw [e2, hB]; omega) (by omega)
    rw [m1, m2, m3]
    exact p
  · obtain ⟨d1, k1, m1, p⟩ := down_i M IH hi 0 b (a + 3 * b) (by omega) p (by rw [e1, hA]; omega) (by omega)
    obtain ⟨d2, k2, m2, p⟩ := down_j M IH hj (a + 3 * b) b (a + 3 * b) (by omega) p (by rw [e2, hB]; omega) (by omega)
    obtain ⟨d3, k3, m3, p⟩ := down_i M IH hi (a + 3 * b) (a + 3 * b) (3 * a + 6 * b) (by omega) p (by rw [e1, hA]; omega) (by omega)
    obtain ⟨d4, k4, m4, p⟩ := down_j M IH hj (3 * a + 6 * b) (a + 3 * b) (2 * a + 4 * b) (by omega) p (by rw [e2, hB]; omega) (by omega)
    obtain ⟨d5, k5, m5, p⟩ := down_i M IH hi (3 * a + 6 * b) (2 * a + 4 * b) (4 * a + 6 * b) (by omega) p (by rw [e1, hA]; omega) (by omega)
    refine ⟨by omega, ?_⟩
    have p := up_j M hj (4 * a + 6 * b) (2 * a + 4 * b) (2 * a + 3 * b) p (by rw [e2, hB]; omega) (by omega)
    have p := up_i M hi (4 * a + 6 * b) (2 * a + 3 * b) (3 * a + 3 * b) p (by rw [e1, hA]; omega) (by omega)
    have p := up_j M hj (3 * a + 3 * b) (2 * a + 3 * b) (a + b) p (by rw [e2, hB]; omega) (by omega)
    have p := up_i M hi (3 * a + 3 * b) (a + b) a p (by rw [e1, hA]; omega) (by omega)
    have p := up_j M hj a (a + b) 0 p (by rw [e2, hB]; omega) (by omega)
    rw [m1, m2, m3, m4, m5]
    exact p
  · obtain ⟨d1, k1, m1, p⟩ := down_i M IH hi 0 b (a + b) (by omega) p (by rw [e1, hA]; omega) (by omega)
    obtain ⟨d2, k2, m2, p⟩ := down_j M IH hj (a + b) b (3 * a + 3 * b) (by omega) p (by rw [e2, hB]; omega) (by omega)
    obtain ⟨d3, k3, m3, p⟩ := down_i M IH hi (a + b) (3 * a + 3 * b) (3 * a + 2 * b) (by omega) p (by rw [e1, hA]; omega) (by omega)
    obtain ⟨d4, k4, m4, p⟩ := down_j M IH hj (3 * a + 2 * b) (3 * a + 3 * b) (6 * a + 4 * b) (by omega) p (by rw [e2, hB]; omega) (by omega)
    obtain ⟨d5, k5, m5, p⟩ := down_i M IH hi (3 * a + 2 * b) (6 * a + 4 * b) (4 * a + 2 * b) (by omega) p (by rw [e1, hA]; omega) (by omega)
    refine ⟨by omega, ?_⟩
    have p := up_j M hj (4 * a + 2 * b) (6 * a + 4 * b) (6 * a + 3 * b) p (by rw [e2, hB]; omega) (by omega)
    have p := up_i M hi (4 * a + 2 * b) (6 * a + 3 * b) (3 * a + b) p (by rw [e1, hA]; omega) (by omega)
    have p := up_j M hj (3 * a + b) (6 * a + 3 * b) (3 * a + b) p (by rw [e2, hB]; omega) (by omega)
    have p := up_i M hi (3 * a + b) (3 * a + b) a p (by rw [e1, hA]; omega) (by omega)
    have p := up_j M hj a (3 * a + b) 0 p (by rw [e2, hB]; omega) (by omega)
    rw [m1, m2, m3, m4, m5]
    exact p
end

theorem play_good {lam : Pos} (hp : ∀ i, 0 < lam i) {N : Nat} {c : Nat → Nat → Int} (M : MatOk N c) : ∀ (n : Nat) (v : Pos), Play lam N c n v → Good lam N c n v := by
  intro n
  induction n using Nat.strongRecOn with
  | ind n ih =>
    intro v p i hi
    cases p with
    | done h =>
      rw [h i hi]
      have := hp i
      exact ⟨by omega, fun h => absurd h (by omega)⟩
    | step j hj hb p =>
      rename_i n
      by_cases e : i = j
      · subst e
        exact ⟨by omega, fun _ => ⟨n, rfl, p⟩⟩
      · by_cases ha : v i ≤ 0
        · obtain ⟨h1, h2⟩ := play_pair M (fun m hm => ih m (by omega)) hi hj e hb p ha
          exact ⟨by omega, fun _ => ⟨n, rfl, h2⟩⟩
        · exact ⟨by omega, fun h => absurd h (by omega)⟩

theorem Play.down {lam : Pos} {N : Nat} {c : Nat → Nat → Int} (hp : ∀ i, 0 < lam i) (M : MatOk N c) {n i : Nat} {v : Pos} (p : Play lam N c n v) (hi : i < N) (h : v i < 0) : ∃ m, n = m + 1 ∧ Play lam N c m (sr c i v) := (play_good hp M n v p i hi).2 h
theorem Play.ne {lam : Pos} {N : Nat} {c : Nat → Nat → Int} (hp : ∀ i, 0 < lam i) (M : MatOk N c) {n i : Nat} {v : Pos} (p : Play lam N c n v) (hi : i < N) : v i ≠ 0 := (play_good hp M n v p i hi).1

/-- Whatever step: at most one more. -/
theorem Play.any {lam : Pos} {N : Nat} {c : Nat → Nat → Int} (hp : ∀ i, 0 < lam i) (M : MatOk N c) {n i : Nat} {v : Pos} (p : Play lam N c n v) (hi : i < N) : ∃ m, m ≤ n + 1 ∧ Play lam N c m (sr c i v) := by
  by_cases h : v i < 0
  · obtain ⟨m, hm, q⟩ := p.down hp M hi h
    exact ⟨m, by omega, q⟩
  · have := p.ne hp M hi
    exact ⟨n + 1, Nat.le_refl _, p.up M hi (by omega)⟩

theorem Play.stop {lam : Pos} {N : Nat} {c : Nat → Nat → Int} {n : Nat} {v : Pos} (p : Play lam N c n v) (h : ∀ i, i < N → 0 ≤ v i) : n = 0 ∧ ∀ i, i < N → v i = lam i := by
  cases p with
  | done h => exact ⟨rfl, h⟩
  | step i hi hl _ => exact absurd (h i hi) (by omega)


end Go.Proofs.Ytnooeaemjnmkdaa.Hx.Lam

namespace Go.Proofs.Ytnooeaemjnmkdaa.Hx
open Go.RowKit

/-- The sum of products over the first places. -/
def dotP : Nat → Pos → Pos → Int
  | 0, _, _ => 0
  | n + 1, f, g => dotP n f g + f n * g n

theorem dotP_congr {f g f' g' : Pos} : ∀ (N : Nat), (∀ k, k < N → f k = f' k ∧ g k = g' k) → dotP N f g = dotP N f' g'
  | 0, _ => rfl
  | n + 1, h => by
    obtain ⟨h1, h2⟩ := h n (by omega)
    simp only [dotP, dotP_congr n (fun k hk => h k (by omega)), h1, h2]

theorem dotP_sub (f g : Pos) (a : Int) (u : Pos) : ∀ (N : Nat), dotP N (fun k => f k - a * u k) g = dotP N f g - a * dotP N u g
  | 0 => by simp [dotP]
  | n + 1 => by
    simp only [dotP, dotP_sub f g a u n]
    grind

theorem dotP_subr (f g : Pos) (a : Int) (u : Pos) : ∀ (N : Nat), dotP N f (fun k => g k - a * u k) = dotP N f g - a * dotP N f u
  | 0 => by simp [dotP]
  | n + 1 => by
    simp only [dotP, dotP_subr f g a u n]
    grind

/-- The place at which one number is 1. -/
def unitP (i : Nat) : Pos := fun k => if k = i then 1 else 0

theorem dotP_unit (f : Pos) (i : Nat) : ∀ (N : Nat), dotP N f (unitP i) = if i < N then f i else 0
  | 0 => by simp [dotP]
  | n + 1 => by
    simp only [dotP, dotP_unit f i n, unitP]
    by_cases h : n = i
    · subst h
      simp
    · rw [if_neg h]
      by_cases h2 : i < n
      · rw [if_pos h2, if_pos (by omega)]
        omega
      · rw [if_neg h2, if_neg (by omega)]
        omega

theorem dotP_comm (f g : Pos) : ∀ (N : Nat), dotP N f g = dotP N g f
  | 0 => rfl
  | n + 1 => by
    simp only [dotP, dotP_comm f g n, Int.mul_comm]

/-- The mirror at i, of a root. -/
def mr (N : Nat) (c : Nat → Nat → Int) (i : Nat) (r : Pos) : Pos := fun k => r k - dotP N (c i) r * unitP i k

def tr (c : Nat → Nat → Int) : Nat → Nat → Int := fun a b => c b a

theorem dotP_mr {N : Nat} (c : Nat → Nat → Int) {i : Nat} (hi : i < N) (v r : Pos) : dotP N v (mr N c i r) = dotP N (sr (tr c) i v) r := by
  unfold mr sr tr
  rw [dotP_subr, dotP_sub, dotP_unit, if_pos hi, Int.mul_comm]

def actP (N : Nat) (c : Nat → Nat → Int) : List Int → Pos → Pos
  | [], r => r
  | i :: w, r => mr N c i.toNat (actP N c w r)

theorem actP_app (N : Nat) (c : Nat → Nat → Int) : ∀ (a b : List Int) (r : Pos), actP N c (a ++ b) r = actP N c a (actP N c b r)
  | [], _, _ => rfl
  | i :: a, b, r => by simp only [List.cons_append, actP, actP_app N c a b r]

theorem dotP_act {c : List (List Int)} : ∀ (w : List Int) (v r : Pos), lettersOk c w = true → dotP c.length v (actP c.length (ent c) w r) = dotP c.length (actS (tr (ent c)) w.reverse v) r
  | [], _, _, _ => rfl
  | i :: w, v, r, h => by
    obtain ⟨h1, h2⟩ := letters_cons.1 h
    have p1 := point_of h1
    rw [List.reverse_cons, actS_app]
    simp only [actP, actS]
    rw [dotP_mr (ent c) (by omega), dotP_act w _ r h2]

theorem matOk_tr {N : Nat} {c : Nat → Nat → Int} (M : MatOk N c) : MatOk N (tr c) :=
  ⟨M.diag, fun i j hi hj hij => M.off j i hj hi (Ne.symm hij), fun i j hi hj h => M.zero j i hj hi h⟩

theorem Lam.play_word {lam : Pos} (hp : ∀ i, 0 < lam i) {c : List (List Int)} {m : Nat → Nat → Int} (M : MatOk c.length m) : ∀ (w : List Int), lettersOk c w = true → ∃ n, Lam.Play lam c.length m n (actS m w lam)
  | [], _ => ⟨0, .done fun _ _ => rfl⟩
  | i :: w, h => by
    obtain ⟨h1, h2⟩ := letters_cons.1 h
    have p1 := point_of h1
    obtain ⟨n, P⟩ := Lam.play_word hp M w h2
    obtain ⟨k, _, Q⟩ := P.any hp M (i := i.toNat) (by omega)
    exact ⟨k, Q⟩

def sumPos (r : Pos) : Nat → Int
  | 0 => 0
  | n + 1 => sumPos r n + (if 0 < r n then r n else 0)
def sumNeg (r : Pos) : Nat → Int
  | 0 => 0
  | n + 1 => sumNeg r n + (if r n < 0 then - r n else 0)

theorem sumPos_ge (r : Pos) : ∀ (N : Nat), 0 ≤ sumPos r N ∧ ∀ k, k < N → r k ≤ sumPos r N
  | 0 => ⟨Int.le_refl _, fun k hk => by omega⟩
  | n + 1 => by
    obtain ⟨h1, h2⟩ := sumPos_ge r n
    simp only [sumPos]
    refine ⟨by split <;> omega, fun k hk => ?_⟩
    by_cases e : k = n
    · subst e
      split <;> omega
    · have := h2 k (by omega)
      split <;> omega
theorem sumNeg_ge (r : Pos) : ∀ (N : Nat), 0 ≤ sumNeg r N ∧ ∀ k, k < N → - r k ≤ sumNeg r N
  | 0 => ⟨Int.le_refl _, fun k hk => by omega⟩
  | n + 1 => by
    obtain ⟨h1, h2⟩ := sumNeg_ge r n
    simp only [sumNeg]
    refine ⟨by split <;> omega, fun k hk => ?_⟩
    by_cases e : k = n
    · subst e
      split <;> omega
    · have := h2 k (by omega)
      split <;> omega

theorem dotP_mix (r : Pos) (a b : Int) : ∀ (N : Nat), dotP N (fun k => if 0 < r k then a else if r k < 0 then b else 1) r = a * sumPos r N - b * sumNeg r N
  | 0 => by simp [dotP, sumPos, sumNeg]
  | n + 1 => by
    simp only [dotP, dotP_mix r a b n, sumPos, sumNeg]
    by_cases h : 0 < r n
    · rw [if_pos h, if_pos h, if_neg (by omega)]
      grind
    · by_cases h2 : r n < 0
      · rw [if_neg h, if_pos h2, if_neg h, if_pos h2]
        grind
      · have e : r n = 0 := by omega
        rw [if_neg h, if_neg h2, if_neg h, if_neg h2, e]
        simp

/-- A place whose sum with whatever places above zero is not zero has numbers of one sign. -/
theorem coherent {N : Nat} {r : Pos} (h : ∀ lam : Pos, (∀ i, 0 < lam i) → dotP N lam r ≠ 0) : (∀ k, k < N → 0 ≤ r k) ∨ (∀ k, k < N → r k ≤ 0) := by
  by_cases h1 : ∀ k, k < N → 0 ≤ r k
  · exact Or.inl h1
  by_cases h2 : ∀ k, k < N → r k ≤ 0
  · exact Or.inr h2
  exfalso
  have e1 : ∃ k, k < N ∧ r k < 0 := by
    refine Classical.byContradiction fun hn => h1 fun k hk => ?_
    by_cases g : 0 ≤ r k
    · exact g
    · exact absurd ⟨k, hk, by omega⟩ hn
  have e2 : ∃ k, k < N ∧ 0 < r k := by
    refine Classical.byContradiction fun hn => h2 fun k hk => ?_
    by_cases g : r k ≤ 0
    · exact g
    · exact absurd ⟨k, hk, by omega⟩ hn
  obtain ⟨k1, l1, g1⟩ := e1
  obtain ⟨k2, l2, g2⟩ := e2
  have p1 := (sumPos_ge r N).2 k2 l2
  have p2 := (sumNeg_ge r N).2 k1 l1
  refine h (fun k => if 0 < r k then sumNeg r N else if r k < 0 then sumPos r N else 1) (fun i => ?_) ?_
  · show 0 < (if 0 < r i then sumNeg r N else if r i < 0 then sumPos r N else 1)
    split
    · omega
    · split <;> omega
  · rw [dotP_mix, Int.mul_comm]
    omega

def PosR (N : Nat) (r : Pos) : Prop := ∀ k, k < N → 0 ≤ r k

theorem root_dot {c : List (List Int)} {w : List Int} (hw : lettersOk c w = true) {i : Nat} (hi : i < c.length) (v : Pos) : dotP c.length v (actP c.length (ent c) w (unitP i)) = actS (tr (ent c)) w.reverse v i := by
  rw [dotP_act w v _ hw, dotP_unit, if_pos hi]

/-- A root's numbers are all at least zero or all at most zero. -/
theorem root_sign {c : List (List Int)} (hC : Cartan c) {w : List Int} (hw : lettersOk c w = true) {i : Nat} (hi : i < c.length) :
    PosR c.length (actP c.length (ent c) w (unitP i)) ∨ (∀ k, k < c.length → actP c.length (ent c) w (unitP i) k ≤ 0) := by
  refine coherent fun lam hp => ?_
  rw [root_dot hw hi]
  obtain ⟨n, P⟩ := Lam.play_word hp (matOk_tr (matOk hC)) w.reverse (letters_rev hw)
  exact P.ne hp (matOk_tr (matOk hC)) hi

theorem dotP_ones_pos {r : Pos} : ∀ (N : Nat), PosR N r → 0 ≤ dotP N (fun _ => 1) r
  | 0, _ => Int.le_refl _
  | n + 1, h => by
    have := dotP_ones_pos n (fun k hk => h k (by omega))
    have := h n (by omega)
    simp only [dotP]
    omega

theorem dotP_ones_neg {r : Pos} : ∀ (N : Nat), (∀ k, k < N → r k ≤ 0) → dotP N (fun _ => 1) r ≤ 0
  | 0, _ => Int.le_refl _
  | n + 1, h => by
    have := dotP_ones_neg n (fun k hk => h k (by omega))
    have := h n (by omega)
    simp only [dotP]
    omega

/-- The sign of a root is that of its height, which is not zero. -/
theorem root_height {c : List (List Int)} (hC : Cartan c) {w : List Int} (hw : lettersOk c w = true) {i : Nat} (hi : i < c.length) :
    dotP c.length (fun _ => 1) (actP c.length (ent c) w (unitP i)) ≠ 0 ∧ (PosR c.length (actP c.length (ent c) w (unitP i)) ↔ 0 < dotP c.length (fun _ => 1) (actP c.length (ent c) w (unitP i))) := by
  have hne : dotP c.length (fun _ => 1) (actP c.length (ent c) w (unitP i)) ≠ 0 := by
    rw [root_dot hw hi]
    have hp : ∀ i : Nat, 0 < (fun _ => 1 : Pos) i := fun _ => (by decide : (0 : Int) < 1)
    obtain ⟨n, P⟩ := Lam.play_word hp (matOk_tr (matOk hC)) w.reverse (letters_rev hw)
    exact P.ne hp (matOk_tr (matOk hC)) hi
  refine ⟨hne, fun h => ?_, fun h => ?_⟩
  · have := dotP_ones_pos _ h
    omega
  · rcases root_sign hC hw hi with k | k
    · exact k
    · have := dotP_ones_neg _ k
      omega

end Go.Proofs.Ytnooeaemjnmkdaa.Hx
