/-
  The parts of a diagram, of the program; HighestRoot of both sides.
  The reference's draws: a cursor over bytes (a struct behind a pointer), and what it draws: numbers, one of some numbers, one of some texts.
  Contracts of membership in lists of roots and of copies of matrices; a word read off its inversions, as plain functions.
  The reference's named matrices: chains, entries set anew, two matrices side by side.
  Isomorphic matrices, parts as matrices, names of types: in plain words.
-/
import Derived.Test.YtgliajcgcbnemaaGreatDoorZ15
import Derived.Laws.Strings
namespace Go.Proofs.YtgliajcgcbnemaaGreatDoor.Hx
open Go.RowKit
variable {dm : Bool}

theorem OwnR.sorted {r : Nat} {h : Heap} {l l' : List Int} {t : List H0} (hr : r < h.length) (e : l'.length = l.length) : OwnR r (h.set r (.own (l'.map ci ++ t))) (.sl r 0 l.length) l' := ⟨t, by rw [e], List.getElem?_set_self hr⟩
theorem But.set {h : Heap} {r : Nat} (x : Row) : But r h (h.set r x) := ⟨by simp, fun q _ hn => by rw [List.getElem?_set_ne (Ne.symm hn)]⟩

/-- What was seen before a point: what some earlier point reaches. -/
def Before (c : List (List Int)) (k j : Nat) : Prop := ∃ m, m < k ∧ Rch c m j

theorem Before.closed {c : List (List Int)} {k i j : Nat} (h : Before c k i) (a : Adj c i j) : Before c k j := by
  obtain ⟨m, h1, h2⟩ := h
  exact ⟨m, h1, h2.step a⟩
theorem notBefore {c : List (List Int)} {k : Nat} (h : ¬ Before c k k) : isMin c k = true := isMin_iff.2 fun j hj hr => h ⟨j, hj, hr⟩
theorem beforeNot {c : List (List Int)} {k : Nat} (h : Before c k k) : isMin c k = false := by
  cases hm : isMin c k
  · rfl
  · obtain ⟨m, h1, h2⟩ := h
    exact absurd h2 (isMin_iff.1 hm m h1)
theorem before_next {c : List (List Int)} {k j : Nat} : Before c (k + 1) j ↔ Before c k j ∨ Rch c k j := by
  constructor
  · rintro ⟨m, h1, h2⟩
    by_cases e : m = k
    · subst e; exact Or.inr h2
    · exact Or.inl ⟨m, by omega, h2⟩
  · rintro (⟨m, h1, h2⟩ | h)
    · exact ⟨m, by omega, h2⟩
    · exact ⟨k, by omega, h⟩
theorem before_same {c : List (List Int)} {k j : Nat} (h : Before c k k) : Before c (k + 1) j ↔ Before c k j := by
  rw [before_next]
  constructor
  · rintro (g | g)
    · exact g
    · obtain ⟨m, h1, h2⟩ := h
      exact ⟨m, h1, h2.trans g⟩
  · exact Or.inl


set_option maxHeartbeats 2000000 in
theorem impl_PartsOf (h : Heap) (x : H0) (c : List (List Int)) (hx : Rows h x c) (hc : c.length ≤ 1048576) :
    HCalls dm Tryz.prog 137 [.s x] h (fun r h' => ∃ y, r = .s y ∧ Ext h h' ∧ OwnM h.length h'.length h' y (partsC c)) := by
  refine calls_of_hFun (m := 0) kd_ok mixed Tryz.func137 rfl (by kernel_rfl) rfl rfl (of_decide_eq_true rfl) ?_; unfold hFun; (conv => whnf)
  have E0 := Ext.push h [Row.own []]
  refine HLit.empty ?_
  (conv => whnf)
  refine (impl_IsCartan _ _ _ (hx.ext E0) (by omega)).mono ?_
  rintro r h1 ⟨rfl, hh⟩
  subst hh
  (conv => whnf)
  cases hic : isCartan c
  · (repeat (first | (refine HIf.no ?_; (conv => whnf)) | (refine HIf.yes ?_; (conv => whnf))))
    rw [partsC_off hic]
    exact ⟨_, rfl, E0, OwnM.none h⟩
  have hC := (isCartan_iff c).1 hic
  have h4 := hC.le
  rw [partsC_on hic]
  (repeat (first | (refine HIf.no ?_; (conv => whnf)) | (refine HIf.yes ?_; (conv => whnf))))
  refine ⟨rfl, (hx.ext E0).len ?_⟩
  (conv => whnf)
  refine HMake.bits c.length rfl (by omega) (fun h1 yb E1 l1 B1 => ?_)
  (conv => whnf)
  have E01 := E0.trans E1
  refine ⟨rfl, (hx.ext E01).len ?_⟩
  (conv => whnf)
  have M0 : MatP (fun p => h.length ≤ p ∧ p ≠ (h ++ [Row.own []]).length) (h ++ [Row.own []]) (.sl h.length 0 0) (partsTo c 0) := MatP.none ⟨Nat.le_refl _, by simp⟩
  have M1 := M0.ext E1
  have hb0 : h.length < (h ++ [Row.own []]).length := by simp
  clear M0 E0 E1
  generalize (h ++ [Row.own []]).length = b at *
  have hB1 := B1.lt
  have hs1 : (List.replicate c.length false).length = c.length := by simp
  have hS1 : ∀ j, j < c.length → ((List.replicate c.length false).getD j false = true ↔ Before c 0 j) := fun j hj => by
    constructor
    · intro e
      rw [List.getD, List.getElem?_eq_getElem (by simpa using hj)] at e
      simp at e
    · rintro ⟨m, hm, _⟩
      omega
  generalize List.replicate c.length false = S1 at *
  refine HLoop.intro [20, 3] [21, 22, 5, 23, 24, 25, 26, 27, 28, 29, 30, 31, 6, 7, 32, 33, 34, 35, 38, 39, 40, 41, 42, 43, 44, 45, 46, 47, 48, 9, 49, 50, 51, 52, 53, 54, 55, 56, 57, 58, 59, 60, 6, 61, 45, 36, 37, 7, 62, 63, 64, 65, 66, 67, 3, 68, 20] (by kernel_rfl) (by kernel_rfl) (fun vs h' => ∃ (k : Nat) (z : H0) (S : List Bool), vs = [I k, .s z] ∧ k ≤ c.length ∧ Ext h h' ∧ BitR b h' yb S ∧ MatP (fun p => h.length ≤ p ∧ p ≠ b) h' z (partsTo c k) ∧ S.length = c.length ∧ ∀ j, j < c.length → (S.getD j false = true ↔ Before c k j)) (fun vs _ => c.length - natAt vs 0) ⟨0, _, S1, rfl, by omega, E01, B1, M1, hs1, hS1⟩ ?_
  clear E01 B1 M1 l1 hB1 hs1 hS1
  rintro vs h' ⟨k, z, S, rfl, hk, E, B, M, hsl, hS⟩
  have hpl := partsTo_len c k
  (conv => whnf)
  refine HIf.dec (fun hlt => ?_) (fun hge => ?_)
  rotate_left
  · have e : k = c.length := by omega
    subst e
    (conv => whnf)
    exact ⟨_, rfl, E, M.own fun p _ hp => hp.1⟩
  have hkl : k < c.length := by omega
  (conv => whnf)
  refine ⟨rfl, B.idx (by omega) (fun hb => ?_)⟩
  (conv => whnf)
  refine ⟨rfl, hb.load ?_⟩
  (conv => whnf)
  cases hs : S.getD k false
  rotate_left
  · have hbe := (hS k hkl).1 hs
    refine HIf.yes ?_
    (conv => whnf)
    refine HArith.fits (by omega) (by omega) ?_
    (conv => whnf)
    exact ⟨⟨k + 1, z, S, rfl, by omega, E, B, by rw [partsTo_out (beforeNot hbe)]; exact M, hsl, fun j hj => by rw [before_same hbe]; exact hS j hj⟩, by show c.length - (k + 1) < c.length - k; omega⟩
  have hnb : ¬ Before c k k := fun e => by rw [(hS k hkl).2 e] at hs; cases hs
  have hmin := notBefore hnb
  refine HIf.no ?_
  (conv => whnf)
  refine ⟨rfl, B.idx (by omega) (fun hb2 => ?_)⟩
  (conv => whnf)
  refine ⟨rfl, B.put (by omega) (fun h2 U2 l2 B2 => ?_)⟩
  (conv => whnf)
  have E2 := E.but U2 (by omega)
  have M2 := M.bound.but U2 (fun e => e.1.2 rfl)
  have hB := B2.lt
  refine HLit.oneG (v := (k : Int)) E2 (fun h3 yq q E3 E03 O3 hq => ?_)
  (conv => whnf)
  have SR0 : Srch c k (Before c k) (S.set k true) [(k : Int)] 0 := Srch.start hsl hkl hnb hS
  have M3 := M2.ext E3
  have B3 := B2.ext E3
  have hN : h'.length ≤ q := by omega
  have hbN : b < h'.length := by omega
  generalize h'.length = N at *
  generalize S.set k true = S3 at B3 SR0
  generalize [(k : Int)] = Q3 at O3 SR0
  clear B M B2 M2 E E2 E3 U2 hb hb2 hs hS hsl hq l2 hB
  refine HLoop.intro [7, 6] [32, 33, 34, 35, 38, 39, 40, 41, 42, 43, 44, 45, 46, 47, 48, 9, 49, 50, 51, 52, 53, 54, 55, 56, 57, 58, 59, 60, 6, 61, 45, 36, 37, 7] (by kernel_rfl) (by kernel_rfl) (fun vs h' => ∃ (t q : Nat) (y : H0) (S : List Bool) (Q : List Int), vs = [I t, .s y] ∧ t ≤ Q.length ∧ Ext h h' ∧ BitR b h' yb S ∧ OwnR q h' y Q ∧ N ≤ q ∧ MatP (fun p => (h.length ≤ p ∧ p ≠ b) ∧ p < N) h' z (partsTo c k) ∧ Srch c k (Before c k) S Q t) (fun vs _ => c.length - natAt vs 0) ⟨0, q, yq, S3, Q3, rfl, by omega, E03, B3, O3, hN, M3, SR0⟩ ?_
  clear E03 B3 O3 M3 SR0 hN
  rintro vs h' ⟨t, q, y, S, Q, rfl, ht, E, B, O, hq, M, H⟩
  have hQ := H.few
  (conv => whnf)
  refine ⟨rfl, O.ints.len ?_⟩
  (conv => whnf)
  refine HIf.dec (fun hlt2 => ?_) (fun hge2 => ?_)
  · have htl : t < Q.length := by omega
    obtain ⟨p, hp, hpc⟩ := H.at htl
    (conv => whnf)
    refine ⟨rfl, O.ints.idxN htl (fun a ha => ?_)⟩
    rw [hp] at ha
    (conv => whnf)
    refine ⟨rfl, ha.load ?_⟩
    (conv => whnf)
    refine (impl_NeighboursOf _ _ c p (hx.ext E) hC hpc).mono ?_
    rintro r h2 ⟨yl, rfl, F⟩
    obtain ⟨rl, hrl, OL⟩ := F.row
    have hnl := nbrTo_len c p c.length
    have hql := O.lt
    have E2 := E.trans F.1
    replace B := B.ext F.1
    replace O := O.ext F.1
    replace M := M.ext F.1
    (conv => whnf)
    refine ⟨rfl, OL.ints.len ?_⟩
    (conv => whnf)
    refine HLoop.intro [45, 6] [46, 47, 48, 9, 49, 50, 51, 52, 53, 54, 55, 56, 57, 58, 59, 60, 6, 61, 45] (by kernel_rfl) (by kernel_rfl) (fun vs h' => ∃ (n q : Nat) (y : H0) (S : List Bool) (Q : List Int), vs = [I n, .s y] ∧ n ≤ (nbrTo c p c.length).length ∧ Ext h h' ∧ BitR b h' yb S ∧ OwnR q h' y Q ∧ N ≤ q ∧ q ≠ rl ∧ OwnR rl h' yl (nbrTo c p c.length) ∧ MatP (fun p => (h.length ≤ p ∧ p ≠ b) ∧ p < N) h' z (partsTo c k) ∧ t < Q.length ∧ Q.getD t 0 = p ∧ Srch c k (Before c k) S Q t ∧ ∀ u, u < n → ∀ j : Nat, (nbrTo c p c.length).getD u 0 = j → S.getD j false = true) (fun vs _ => (nbrTo c p c.length).length - natAt vs 0) ⟨0, q, y, S, Q, rfl, by omega, E2, B, O, hq, by omega, OL, M, htl, hp, H, fun u hu => by omega⟩ ?_
    have hNl := E2.1
    have hrlN : N ≤ rl := by omega
    clear E E2 B O OL hq F hql H hp ht hlt2 hQ htl ha M hrl
    rintro vs h' ⟨n, q, y, S, Q, rfl, hn, E, B, O, hq, hqr, OL, M, htl, hp, H, hall⟩
    have hQ := H.few
    (conv => whnf)
    refine HIf.dec (fun hlt3 => ?_) (fun hge3 => ?_)
    · have hnl : n < (nbrTo c p c.length).length := by omega
      obtain ⟨j, hj, hadj⟩ := nbr_at hnl
      have hjS : j < S.length := by rw [H.len]; exact hadj.1
      (conv => whnf)
      refine ⟨rfl, OL.ints.idxN hnl (fun a ha => ?_)⟩
      rw [hj] at ha
      (conv => whnf)
      refine ⟨rfl, ha.load ?_⟩
      (conv => whnf)
      have hso : S.getD j false = false ∨ S.getD j false = true := by cases S.getD j false <;> simp
      rcases hso with hs | hs
      · refine ⟨rfl, B.idx hjS (fun hb => ?_)⟩
        rw [hs] at hb
        (conv => whnf)
        refine ⟨rfl, hb.load ?_⟩
        (conv => whnf)
        refine HIf.yes ?_
        (conv => whnf)
        refine ⟨rfl, B.idx hjS (fun hb2 => ?_)⟩
        (conv => whnf)
        refine ⟨rfl, B.put hjS (fun h5 U5 l5 B5 => ?_)⟩
        have E5 := E.but U5 (by omega)
        have O5 := O.but U5 (by omega)
        have hrl2 := OL.lt
        have OL5 := OL.but U5 (by omega)
        have M5 := M.but U5 (fun e => e.1.2 rfl)
        (conv => whnf)
        refine HLit.one ?_
        (conv => whnf)
        refine ⟨rfl, rfl, HApp.litR [(j : Int)] O5 (by simp; omega) (fun h6 q6 z6 U6 hq6 O6 => ?_)⟩
        have E6 := E5.but U6 (by omega)
        have B6 := B5.but U6 (by omega)
        have OL6 := OL5.but U6 (by omega)
        have M6 := M5.but U6 (by omega)
        have H6 := H.push htl (by rw [hp]; exact hadj) hs
        have hB5 := B5.lt
        have hr5 := OL5.lt
        have hO5 := O5.lt
        (conv => whnf)
        refine HArith.fits (by omega) (by omega) ?_
        (conv => whnf)
        exact ⟨⟨n + 1, q6, z6, _, _, rfl, by omega, E6, B6, O6, by omega, by omega, OL6, M6, by simp; omega, by rw [getD_appV htl]; exact hp, H6, fun u hu j' hj' => by
          rw [set_getD_bool hjS]
          split
          · rfl
          · by_cases e : u = n
            · subst e
              rw [hj] at hj'
              omega
            · exact hall u (by omega) j' hj'⟩, by show (nbrTo c p c.length).length - (n + 1) < (nbrTo c p c.length).length - n; omega⟩
      · refine ⟨rfl, B.idx hjS (fun hb => ?_)⟩
        rw [hs] at hb
        (conv => whnf)
        refine ⟨rfl, hb.load ?_⟩
        (conv => whnf)
        refine HIf.no ?_
        (conv => whnf)
        refine HArith.fits (by omega) (by omega) ?_
        (conv => whnf)
        exact ⟨⟨n + 1, q, y, S, Q, rfl, by omega, E, B, O, hq, hqr, OL, M, htl, hp, H, fun u hu j' hj' => by
          by_cases e : u = n
          · subst e
            rw [hj] at hj'
            have : j' = j := by omega
            rw [this]
            exact hs
          · exact hall u (by omega) j' hj'⟩, by show (nbrTo c p c.length).length - (n + 1) < (nbrTo c p c.length).length - n; omega⟩
    · have en : n = (nbrTo c p c.length).length := by omega
      have H2 := H.next (fun j hj => by
        rw [hp] at hj
        obtain ⟨u, hu, e⟩ := nbr_all (c := c) (p := p) hj
        exact hall u (by omega) j e)
      (conv => whnf)
      refine HArith.fits (by omega) (by omega) ?_
      (conv => whnf)
      exact ⟨⟨t + 1, q, y, S, Q, rfl, by omega, E, B, O, hq, M, H2⟩, by show c.length - (t + 1) < c.length - t; omega⟩
  · have et : t = Q.length := by omega
    subst et
    have hfin : ∀ j : Nat, (j : Int) ∈ Q ↔ Rch c k j := fun j => H.fin hC hkl hnb (fun i _ hi j hj => hi.closed hj)
    have hsort := sort_part hkl H.nodup (fun x hx => by obtain ⟨j, e, hj, _⟩ := H.rch x hx; exact ⟨j, e, hj⟩) hfin
    have hQp : 0 < Q.length := List.length_pos_of_mem H.head
    have hql := O.lt
    have hslen : (partL c k).length = Q.length := by rw [← hsort]; exact List.length_mergeSort Q
    have hSe : ∀ j, j < c.length → (S.getD j false = true ↔ Before c (k + 1) j) := fun j hj => by rw [before_next, H.seen j hj, hfin]
    have hSl := H.len
    obtain ⟨tl, rfl, hrow⟩ := O
    have hcall := sortI_calls (dm := dm) (P := Tryz.prog) Tryz.sortI hrow hQp (by omega)
    change HCalls dm Tryz.prog 189 _ _ _ at hcall
    (conv => whnf)
    refine hcall.mono ?_
    rintro r h5 ⟨rfl, rfl⟩
    rw [hsort]
    have U5 : But q h' (h'.set q (.own ((partL c k).map ci ++ tl))) := But.set _
    have O5 : OwnR q (h'.set q (.own ((partL c k).map ci ++ tl))) (.sl q 0 Q.length) (partL c k) := OwnR.sorted hql hslen
    have E5 := E.but U5 (by omega)
    have B5 := B.but U5 (by omega)
    have M5 := M.but U5 (by omega)
    generalize h'.set q (.own ((partL c k).map ci ++ tl)) = h5 at *
    (conv => whnf)
    refine HLit.row (O5.own (b := 0) (by omega)).one ?_
    (conv => whnf)
    refine ⟨rfl, rfl, HApp.snocP M5 O5 (by omega) (by omega) (fun h6 z6 K6 l6 M6 => ?_)⟩
    rw [← partsTo_in hmin] at M6
    have hE5 := E5.1
    have hB5 := B5.lt
    have E6 : Ext h h6 := ⟨by omega, fun p hp => by rw [K6 p (by omega) (by omega)]; exact E5.2 p hp⟩
    have B6 : BitR b h6 yb S := ⟨B5.1, by rw [K6 b hB5 (fun e => e.1.2 rfl)]; exact B5.2⟩
    (conv => whnf)
    refine HArith.fits (by omega) (by omega) ?_
    (conv => whnf)
    exact ⟨⟨k + 1, z6, S, rfl, by omega, E6, B6, M6.weaken (fun p hp => by
      rintro (⟨⟨g, g2⟩, _⟩ | g | g)
      · exact ⟨g, g2⟩
      · exact ⟨by omega, by omega⟩
      · exact ⟨by omega, by omega⟩), hSl, hSe⟩, by show c.length - (k + 1) < c.length - k; omega⟩

theorem impl_IsConnected (h : Heap) (x : H0) (c : List (List Int)) (hx : Rows h x c) (hc : c.length ≤ 1048576) :
    HCalls dm Tryz.prog 190 [.s x] h (fun r h' => r = B (isConn c) ∧ Ext h h') := by
  refine calls_of_hFun (m := 0) kd_ok mixed Tryz.func190 rfl (by kernel_rfl) rfl rfl (of_decide_eq_true rfl) ?_; unfold hFun; (conv => whnf)
  refine (impl_PartsOf _ _ c hx hc).mono ?_
  rintro r h1 ⟨y, rfl, E, O⟩
  (conv => whnf)
  refine ⟨rfl, O.rows.len ?_⟩
  (conv => whnf)
  refine ⟨bEq ?_, E⟩
  rw [isConn_parts]
  by_cases e : (partsC c).length = 1
  · simp [e]
  · simp only [e, decide_false]
    symm
    rw [beq_eq_false_iff_ne]
    omega

end Go.Proofs.YtgliajcgcbnemaaGreatDoor.Hx

namespace Go.Proofs.YtgliajcgcbnemaaGreatDoor.Hx
open Go.RowKit
variable {dm : Bool}

/-- A cell that holds a byte; a cell that holds a text. -/
abbrev cby (n : Int) : H0 := .pl (.int .u8 n)
abbrev cst (s : ByteArray) : H0 := .pl (.string s)
abbrev St (s : ByteArray) : HV := .s (.pl (.string s))

def Bytes (h : Heap) (x : H0) (l : List Int) : Prop := Shows h (.s x) (l.map cby) ∧ l.length ≤ 1048576 ∧ ∀ y ∈ l, 0 ≤ y ∧ y < 256

/-- The cursor: a struct of a slice of bytes and two numbers, in row r. -/
def Cur (r : Nat) (h : Heap) (x : H0) : Prop := x = .ptr r 0 ∧ ∃ (b : H0) (l : List Int) (i hh : Int), h[r]? = some (.own [b, ci i, ci hh]) ∧ Bytes h b l ∧ (∀ q o n, b = .sl q o n → q < r) ∧ 0 ≤ i ∧ i ≤ 1048576

theorem HConv.of {k k' : IntKind} {n : Int} {K : HV → Prop} (hK : K (.s (.pl (.int k (k.wrap n))))) : HConv k (.s (.pl (.int k' n))) K := ⟨k', n, rfl, hK⟩
/-- Only row r has changed. -/
abbrev KeepR (r : Nat) : Heap → Heap → Prop := KeepN (fun q => q = r)

/-- A slice of texts. -/
def Strs (h : Heap) (x : H0) (l : List ByteArray) : Prop := Shows h (.s x) (l.map cst)

end Go.Proofs.YtgliajcgcbnemaaGreatDoor.Hx

namespace Go.Proofs.YtgliajcgcbnemaaGreatDoor.Hx
open Go.RowKit
variable {dm : Bool}

theorem takeL_snoc (L : List (List Int)) {k : Nat} (h : k < L.length) : L.take (k + 1) = L.take k ++ [L.getD k []] := by
  rw [List.take_succ_eq_append_getElem h]
  simp [List.getD, h]
theorem memL_snoc {L : List (List Int)} {a : List Int} {k : Nat} (hk : k < L.length) (h : a ∉ L.take k) (h2 : L.getD k [] ≠ a) : a ∉ L.take (k + 1) := by
  rw [takeL_snoc L hk]
  simp only [List.mem_append, List.mem_singleton, not_or]
  exact ⟨h, fun e => h2 e.symm⟩
theorem memL_at {L : List (List Int)} {a : List Int} {k : Nat} (hk : k < L.length) (h2 : L.getD k [] = a) : a ∈ L := by
  have : L[k] = a := by simpa [List.getD, hk] using h2
  rw [← this]
  exact List.getElem_mem hk

/-- The first simple root in a list. -/
def firstS (c : List (List Int)) (L : List (List Int)) : Option Nat := (List.range c.length).find? fun i => decide (simpleRoot c (i : Nat) ∈ L)
/-- The first k roots reflected, the simple one left out; nothing if one of them is not positive or comes twice. -/
def nextTo (c : List (List Int)) (i : Nat) (L : List (List Int)) : Nat → Option (List (List Int))
  | 0 => some []
  | k + 1 => match nextTo c i L k with
    | none => none
    | some R => if L.getD k [] = simpleRoot c (i : Nat) then some R else if rootSign (reflectRoot c (i : Nat) (L.getD k [])) = 1 ∧ reflectRoot c (i : Nat) (L.getD k []) ∉ R then some (R ++ [reflectRoot c (i : Nat) (L.getD k [])]) else none
def woi (c : List (List Int)) : Nat → List (List Int) → List Int → Option (List Int)
  | 0, _, _ => none
  | f + 1, L, o => if L.length = 0 then some o else match firstS c L with
    | none => none
    | some i => match nextTo c i L L.length with
      | none => none
      | some R => woi c f R (o ++ [(i : Int)])
def woiOk (c : List (List Int)) (L : List (List Int)) : Bool := isCartan c && (woi c 16 L []).isSome
def woiW (c : List (List Int)) (L : List (List Int)) : List Int := if isCartan c then (woi c 16 L []).getD [] else []

/-- A slice of slices that is only read: it lay there before, or lies in rows of its own, not row r. -/
def RdM (h0 : Heap) (r : Nat) (h : Heap) (y : H0) (L : List (List Int)) : Prop := Rows h0 y L ∨ ∃ b e, e ≤ h.length ∧ (r < b ∨ e ≤ r) ∧ OwnM b e h y L
theorem spec_l7In (h : Heap) (x0 : H0) (L : List (List Int)) (x1 : H0) (w : List Int) (hx0 : Rows h x0 L) (hx1 : Ints h x1 w) (hL : L.length ≤ 1048576 ∧ tot L ≤ 1048576) :
    HCalls dm Tryz.prog 105 [.s x0, .s x1] h (fun r h' => r = B (decide (w ∈ L)) ∧ h' = h) := by
  refine calls_of_hFun (m := 0) kd_ok mixed Tryz.func105 rfl (by kernel_rfl) rfl rfl (of_decide_eq_true rfl) ?_; unfold hFun; (conv => whnf)
  refine HLoop.intro [5] [6, 7, 8, 9, 12, 13, 14, 15, 16, 17, 4, 10, 11, 5] (by kernel_rfl) (by kernel_rfl) (fun vs h' => ∃ i : Nat, vs = [I i] ∧ h' = h ∧ i ≤ L.length ∧ w ∉ L.take i) (fun vs _ => L.length - natAt vs 0) ⟨0, rfl, rfl, by omega, by simp⟩ ?_
  rintro vs h' ⟨i, rfl, hh, hi, hb⟩
  subst h'
  (conv => whnf)
  refine ⟨rfl, hx0.len ?_⟩
  (conv => whnf)
  refine HIf.dec (fun hlt => ?_) (fun hge => ?_)
  · have hle := len_le_tot (L := L) (i := i) (by omega)
    (conv => whnf)
    refine ⟨rfl, Rows.idxN hx0 (by omega) (fun p z hp hz => ?_)⟩
    (conv => whnf)
    refine ⟨rfl, hp.load ?_⟩
    (conv => whnf)
    refine (spec_EqualWords _ _ _ _ w hz hx1 (by omega)).mono ?_
    rintro v h2 ⟨rfl, hh⟩
    subst h2
    (conv => whnf)
    refine HIf.dec (fun he => ?_) (fun hne => ?_)
    · (conv => whnf)
      exact ⟨bEq (decide_eq_true (memL_at (by omega) he)), rfl⟩
    · (conv => whnf)
      refine HArith.fits (by omega) (by omega) ?_
      (conv => whnf)
      exact ⟨⟨i + 1, rfl, rfl, by omega, memL_snoc (by omega) hb hne⟩, by show L.length - (i + 1) < L.length - i; omega⟩
  · have e : i = L.length := by omega
    subst e
    rw [List.take_length] at hb
    (conv => whnf)
    exact ⟨bEq (decide_eq_false hb), rfl⟩

theorem spec_l2Copy (h : Heap) (x0 : H0) (L : List (List Int)) (hx0 : Rows h x0 L) (hL : L.length ≤ 1048576 ∧ tot L ≤ 1048576) :
    HCalls dm Tryz.prog 104 [.s x0] h (fun r h' => ∃ y, r = .s y ∧ Ext h h' ∧ OwnM h.length h'.length h' y L) := by
  refine calls_of_hFun (m := 0) kd_ok mixed Tryz.func104 rfl (by kernel_rfl) rfl rfl (of_decide_eq_true rfl) ?_; unfold hFun; (conv => whnf)
  refine HLit.empty ?_
  (conv => whnf)
  refine HLoop.intro [4, 3] [6, 7, 8, 9, 12, 13, 14, 15, 16, 17, 18, 19, 20, 3, 10, 11, 4] (by kernel_rfl) (by kernel_rfl) (fun vs h' => ∃ (k : Nat) (z : H0), vs = [I k, .s z] ∧ k ≤ L.length ∧ Ext h h' ∧ OwnM h.length h'.length h' z (L.take k)) (fun vs _ => L.length - natAt vs 0) ⟨0, _, rfl, by omega, Ext.push _ _, OwnM.none h⟩ ?_
  rintro vs h' ⟨k, z, rfl, hk, E, O⟩
  have hx0 := hx0.ext E
  (conv => whnf)
  refine ⟨rfl, hx0.len ?_⟩
  (conv => whnf)
  refine HIf.dec (fun hlt => ?_) (fun hge => ?_)
  · have hle := len_le_tot (L := L) (i := k) (by omega)
    have E1 := Ext.push h' [Row.own []]
    (conv => whnf)
    refine HLit.empty ?_
    (conv => whnf)
    refine ⟨rfl, Rows.idxN (hx0.ext E1) (by omega) (fun p y hp hy => ?_)⟩
    (conv => whnf)
    refine ⟨rfl, hp.load ?_⟩
    (conv => whnf)
    refine ⟨rfl, rfl, HApp.moreR (OwnR.push h' []) hy (by rw [List.length_nil]; omega) (fun h2 r2 y2 B2 hr2 O2 => ?_)⟩
    have E2 := E1.but B2 (Nat.le_refl _)
    have hE1 := E1.1
    rw [List.nil_append] at O2
    (conv => whnf)
    refine HLit.row (O2.own (Nat.zero_le _)).one ?_
    (conv => whnf)
    refine ⟨rfl, rfl, HApp.snocM E O E2 (O2.own (by omega)) (by simp; omega) (fun h4 y4 E4 O4 => ?_)⟩
    rw [← takeL_snoc L (by omega)] at O4
    (conv => whnf)
    refine HArith.fits (by omega) (by omega) ?_
    (conv => whnf)
    exact ⟨⟨k + 1, y4, rfl, by omega, E4, O4⟩, by show L.length - (k + 1) < L.length - k; omega⟩
  · have e : k = L.length := by omega
    subst e
    rw [List.take_length] at O
    (conv => whnf)
    exact ⟨_, rfl, E, O⟩

end Go.Proofs.YtgliajcgcbnemaaGreatDoor.Hx

namespace Go.Proofs.YtgliajcgcbnemaaGreatDoor.Hx
open Go.RowKit
variable {dm : Bool}

def chainR (n i : Nat) : List Int :=
  let r1 := (List.replicate n (0 : Int)).set i 2
  let r2 := if 0 < i then r1.set (i - 1) (-1) else r1
  if i + 1 < n then r2.set (i + 1) (-1) else r2
def chainTo (n k : Nat) : List (List Int) := (List.range k).map (chainR n)
def chainC (n : Nat) : List (List Int) := chainTo n n
def setM (L : List (List Int)) (i j : Nat) (a : Int) : List (List Int) := L.set i ((L.getD i []).set j a)
def setC (L : List (List Int)) (i j : Nat) (a b : Int) : List (List Int) := setM (setM L i j a) j i b
def zerosL (n : Nat) : List Int := List.replicate n 0
def joinTo1 (a b : List (List Int)) (k : Nat) : List (List Int) := (List.range k).map fun i => a.getD i [] ++ zerosL b.length
def joinTo2 (a b : List (List Int)) (k : Nat) : List (List Int) := joinTo1 a b a.length ++ (List.range k).map fun i => zerosL a.length ++ b.getD i []
def joinC (a b : List (List Int)) : List (List Int) := joinTo2 a b b.length

theorem chainTo_length (n k : Nat) : (chainTo n k).length = k := by simp [chainTo]
theorem chainTo_succ (n k : Nat) : chainTo n (k + 1) = chainTo n k ++ [chainR n k] := by simp [chainTo, List.range_succ]
theorem setM_length (L : List (List Int)) (i j : Nat) (a : Int) : (setM L i j a).length = L.length := by simp [setM]
theorem setM_get {L : List (List Int)} {i : Nat} (hi : i < L.length) (j : Nat) (a : Int) (k : Nat) : (setM L i j a).getD k [] = if k = i then (L.getD i []).set j a else L.getD k [] := by
  unfold setM
  by_cases hk : k = i
  · subst hk
    simp [List.getD, hi]
  · rw [if_neg hk]
    simp [List.getD, List.getElem?_set_ne (Ne.symm hk)]
theorem setM_row {L : List (List Int)} {i : Nat} (hi : i < L.length) (j : Nat) (a : Int) (k : Nat) : ((setM L i j a).getD k []).length = (L.getD k []).length := by
  rw [setM_get hi]
  split
  · rename_i h
    subst h
    simp
  · rfl
/-- One cell of one's own slice written anew. -/
theorem OwnR.put {r : Nat} {h : Heap} {x : H0} {l : List Int} (O : OwnR r h x l) {o : Nat} (ho : o < l.length) {v : Int} {K : HV → Heap → Prop} (hK : ∀ h', But r h h' → h'.length = h.length → OwnR r h' x (l.set o v) → K .dead h') : HStore h (.s (.ptr r o)) (I v) K := by
  have hlt := O.lt
  obtain ⟨t, rfl, hr⟩ := O
  refine HStore.own hr (by simp; omega) rfl (hK _ ⟨by simp, fun q hq hn => by rw [List.getElem?_set_ne (Ne.symm hn)]⟩ (by simp) ⟨t, by simp, ?_⟩)
  rw [List.getElem?_set_self hlt, List.set_append_left _ _ (by simpa using ho), List.map_set]

theorem OwnR.idx {r : Nat} {h : Heap} {x : H0} {l : List Int} (O : OwnR r h x l) {j : Int} (h0 : 0 ≤ j) (h1 : j < l.length) {k : IntKind} {K : HV → Prop} (hK : K (.s (.ptr r j.toNat))) : HIdx h (.s x) (.s (.pl (.int k j))) K := by
  obtain ⟨t, rfl, hr⟩ := O
  exact HIdx.sl h0 h1 (by rw [Nat.zero_add]; exact hK)

/-- One cell of a slice of slices of one's own written anew. -/
theorem MatAt.put {h : Heap} {r : Nat} {ρ : Nat → Nat} {L : List (List Int)} (m : MatAt h r ρ L) {i o : Nat} (hi : i < L.length) (ho : o < (L.getD i []).length) {v : Int} {K : HV → Heap → Prop}
    (hK : ∀ h', h'.length = h.length → KeepN (fun q => q = ρ i) h h' → MatAt h' r ρ (setM L i o v) → K .dead h') : HStore h (.s (.ptr (ρ i) o)) (I v) K := by
  obtain ⟨t, ht⟩ := m.inner i hi
  have hlt := get_lt ht
  refine HStore.own ht (by simp only [List.length_append, List.length_map]; omega) rfl (hK _ (by simp) ⟨by simp, fun q hq hn => by rw [List.getElem?_set_ne (Ne.symm hn)]⟩ ⟨?_, fun k hk => ?_, fun k hk => ?_, fun k j hkj hj => ?_⟩)
  · obtain ⟨cs, g1, g2, g3⟩ := m.outer
    refine ⟨cs, by rw [List.getElem?_set_ne (m.ne i hi)]; exact g1, by rw [setM_length]; exact g2, fun k hk => ?_⟩
    rw [setM_length] at hk
    rw [setM_row hi]
    exact g3 k hk
  · rw [setM_length] at hk
    rw [setM_get hi]
    by_cases hki : k = i
    · subst hki
      refine ⟨t, ?_⟩
      rw [if_pos rfl, List.getElem?_set_self hlt, List.set_append_left _ _ (by simpa using ho), List.map_set]
    · obtain ⟨t2, ht2⟩ := m.inner k hk
      refine ⟨t2, ?_⟩
      have hne : ρ i ≠ ρ k := by
        rcases Nat.lt_or_gt_of_ne hki with h | h
        · exact fun e => m.inj k i h hi e.symm
        · exact m.inj i k h hk
      rw [if_neg hki, List.getElem?_set_ne hne]
      exact ht2
  · exact m.ne k (by simpa [setM_length] using hk)
  · exact m.inj k j hkj (by simpa [setM_length] using hj)

/-- Two texts compared. -/
theorem HStr.eql {a b : ByteArray} {K : HV → Prop} (hK : K (B (a.toList == b.toList))) : HStr .eql a b K := ⟨_, fun _ _ => rfl, hK⟩
theorem HIf.str {a b : ByteArray} {A C : Prop} (h1 : a = b → A) (h2 : a ≠ b → C) : HIf (a.toList == b.toList) A C := by
  refine HIf.split (fun h => h1 ?_) (fun h => h2 (fun e => ?_))
  · rw [ByteArray.toList_eq, ByteArray.toList_eq] at h
    exact Go.WideShapes.bytes_inj (by simpa using h)
  · subst e
    simp at h
theorem HIf.strT {a b : ByteArray} {A C : Prop} (e : a = b) (h : A) : HIf (a.toList == b.toList) A C := HIf.str (fun _ => h) (fun k => absurd e k)
theorem HIf.strF {a b : ByteArray} {A C : Prop} (e : a ≠ b) (h : C) : HIf (a.toList == b.toList) A C := HIf.str (fun k => absurd k e) (fun _ => h)

/-- The names of which the reference draws. -/
def namesT : List ByteArray := [⟨#[65, 49]⟩, ⟨#[65, 50]⟩, ⟨#[65, 51]⟩, ⟨#[65, 52]⟩, ⟨#[66, 50]⟩, ⟨#[66, 51]⟩, ⟨#[66, 52]⟩, ⟨#[67, 51]⟩, ⟨#[67, 52]⟩, ⟨#[68, 52]⟩, ⟨#[70, 52]⟩, ⟨#[71, 50]⟩, ⟨#[65, 49, 126]⟩, ⟨#[65, 50, 126]⟩, ⟨#[65, 51, 126]⟩, ⟨#[67, 50, 126]⟩, ⟨#[71, 50, 126]⟩]
/-- A matrix as the draws make them: square, of one to four points. -/
structure Shape (L : List (List Int)) : Prop where
  pos : 1 ≤ L.length
  le : L.length ≤ 4
  row : ∀ k, k < L.length → (L.getD k []).length = L.length

theorem spec_l2Chain (h : Heap) (n : Nat) (hn : n ≤ 4) : HCalls dm Tryz.prog 222 [I n] h (fun r h' => ∃ y, r = .s y ∧ Ext h h' ∧ OwnM h.length h'.length h' y (chainC n)) := by
  refine calls_of_hFun (m := 0) kd_ok mixed Tryz.func222 rfl (by kernel_rfl) rfl rfl (of_decide_eq_true rfl) ?_; unfold hFun; (conv => whnf)
  refine HLit.empty ?_
  (conv => whnf)
  refine HLoop.intro [4, 3] [7, 8, 9, 12, 13, 5, 14, 15, 16, 17, 18, 19, 20, 21, 22, 23, 24, 25, 26, 27, 28, 29, 30, 31, 32, 33, 34, 3, 10, 11, 4] (by kernel_rfl) (by kernel_rfl) (fun vs h' => ∃ (k : Nat) (z : H0), vs = [I k, .s z] ∧ k ≤ n ∧ Ext h h' ∧ OwnM h.length h'.length h' z (chainTo n k)) (fun vs _ => n - natAt vs 0) ⟨0, _, rfl, by omega, Ext.push _ _, OwnM.none h⟩ ?_
  rintro vs h' ⟨k, z, rfl, hk, E, O⟩
  have hcl := chainTo_length n k
  (conv => whnf)
  refine HIf.dec (fun hlt => ?_) (fun hge => ?_)
  · (conv => whnf)
    refine HMake.ints n rfl (by omega) ?_
    have O1 : OwnR h'.length (h' ++ [.own (List.replicate n (ci 0))]) (.sl h'.length 0 n) (List.replicate n (0 : Int)) := ⟨[], by simp, by rw [get_new]; simp⟩
    have E1 := Ext.push h' [.own (List.replicate n (ci 0))]
    generalize h' ++ [Row.own (List.replicate n (ci 0))] = h1 at O1 E1 ⊢
    have hE1 := E1.1
    have hrl : (List.replicate n (0 : Int)).length = n := by simp
    (conv => whnf)
    refine ⟨rfl, O1.idx (by omega) (by omega) ?_⟩
    (conv => whnf)
    refine ⟨rfl, O1.put (o := k) (by omega) (fun h2 B2 n2 O2 => ?_)⟩
    have E2 := E1.but B2 (Nat.le_refl _)
    have l2 : (((List.replicate n (0 : Int)).set k 2)).length = n := by simp
    (conv => whnf)
    refine HIf.dec (fun h0 => ?_) (fun h0 => ?_)
    · (conv => whnf)
      refine HArith.fits (by omega) (by omega) ?_
      (conv => whnf)
      refine ⟨rfl, O2.idx (by omega) (by omega) ?_⟩
      (conv => whnf)
      refine ⟨rfl, O2.put (by omega) (fun h3 B3 n3 O3 => ?_)⟩
      have E3 := E2.but B3 (Nat.le_refl _)
      have e3 : ((k : Int) - 1).toNat = k - 1 := by omega
      rw [e3] at O3
      have l3 : ((((List.replicate n (0 : Int)).set k 2)).set (k - 1) (-1)).length = n := by simp
      (conv => whnf)
      refine HArith.fits (by omega) (by omega) ?_
      (conv => whnf)
      refine HIf.dec (fun h1 => ?_) (fun h1 => ?_)
      · (conv => whnf)
        refine HArith.fits (by omega) (by omega) ?_
        (conv => whnf)
        refine ⟨rfl, O3.idx (by omega) (by omega) ?_⟩
        (conv => whnf)
        refine ⟨rfl, O3.put (by omega) (fun h4 B4 n4 O4 => ?_)⟩
        have E4 := E3.but B4 (Nat.le_refl _)
        have e4 : ((k : Int) + 1).toNat = k + 1 := by omega
        have e5 : (((((List.replicate n (0 : Int)).set k 2)).set (k - 1) (-1)).set ((k : Int) + 1).toNat (-1)) = chainR n k := by
          rw [e4]
          unfold chainR
          simp only
          rw [if_pos (by omega), if_pos (by omega)]
        rw [e5] at O4
        (conv => whnf)
        refine HLit.row (O4.own (Nat.zero_le _)).one ?_
        (conv => whnf)
        refine ⟨rfl, rfl, HApp.snocM E O E4 (O4.own (by omega)) (by omega) (fun h6 y6 E6 O6 => ?_)⟩
        rw [← chainTo_succ] at O6
        (conv => whnf)
        refine HArith.fits (by omega) (by omega) ?_
        (conv => whnf)
        exact ⟨⟨k + 1, y6, rfl, by omega, E6, O6⟩, by show n - (k + 1) < n - k; omega⟩
      · have e5 : ((((List.replicate n (0 : Int)).set k 2)).set (k - 1) (-1)) = chainR n k := by
          unfold chainR
          simp only
          rw [if_neg (by omega), if_pos (by omega)]
        rw [e5] at O3
        (conv => whnf)
        refine HLit.row (O3.own (Nat.zero_le _)).one ?_
        (conv => whnf)
        refine ⟨rfl, rfl, HApp.snocM E O E3 (O3.own (by omega)) (by omega) (fun h6 y6 E6 O6 => ?_)⟩
        rw [← chainTo_succ] at O6
        (conv => whnf)
        refine HArith.fits (by omega) (by omega) ?_
        (conv => whnf)
        exact ⟨⟨k + 1, y6, rfl, by omega, E6, O6⟩, by show n - (k + 1) < n - k; omega⟩
    · (conv => whnf)
      refine HArith.fits (by omega) (by omega) ?_
      (conv => whnf)
      refine HIf.dec (fun h1 => ?_) (fun h1 => ?_)
      · (conv => whnf)
        refine HArith.fits (by omega) (by omega) ?_
        (conv => whnf)
        refine ⟨rfl, O2.idx (by omega) (by omega) ?_⟩
        (conv => whnf)
        refine ⟨rfl, O2.put (by omega) (fun h4 B4 n4 O4 => ?_)⟩
        have E4 := E2.but B4 (Nat.le_refl _)
        have e4 : ((k : Int) + 1).toNat = k + 1 := by omega
        have e5 : (((List.replicate n (0 : Int)).set k 2)).set ((k : Int) + 1).toNat (-1) = chainR n k := by
          rw [e4]
          unfold chainR
          simp only
          rw [if_pos (by omega), if_neg (by omega)]
        rw [e5] at O4
        (conv => whnf)
        refine HLit.row (O4.own (Nat.zero_le _)).one ?_
        (conv => whnf)
        refine ⟨rfl, rfl, HApp.snocM E O E4 (O4.own (by omega)) (by omega) (fun h6 y6 E6 O6 => ?_)⟩
        rw [← chainTo_succ] at O6
        (conv => whnf)
        refine HArith.fits (by omega) (by omega) ?_
        (conv => whnf)
        exact ⟨⟨k + 1, y6, rfl, by omega, E6, O6⟩, by show n - (k + 1) < n - k; omega⟩
      · have e5 : (((List.replicate n (0 : Int)).set k 2)) = chainR n k := by
          unfold chainR
          simp only
          rw [if_neg (by omega), if_neg (by omega)]
        rw [e5] at O2
        (conv => whnf)
        refine HLit.row (O2.own (Nat.zero_le _)).one ?_
        (conv => whnf)
        refine ⟨rfl, rfl, HApp.snocM E O E2 (O2.own (by omega)) (by omega) (fun h6 y6 E6 O6 => ?_)⟩
        rw [← chainTo_succ] at O6
        (conv => whnf)
        refine HArith.fits (by omega) (by omega) ?_
        (conv => whnf)
        exact ⟨⟨k + 1, y6, rfl, by omega, E6, O6⟩, by show n - (k + 1) < n - k; omega⟩
  · have e : k = n := by omega
    subst e
    (conv => whnf)
    exact ⟨_, rfl, E, O⟩

theorem spec_l2Set (h : Heap) (x : H0) (L : List (List Int)) (i j : Nat) (a b : Int) (hx : Rows h x L) (hL : L.length ≤ 1048576 ∧ tot L ≤ 1048576) (hi : i < L.length) (hj : j < L.length) (hij : j < (L.getD i []).length) (hji : i < (L.getD j []).length) :
    HCalls dm Tryz.prog 218 [.s x, I i, I j, I a, I b] h (fun r h' => ∃ y, r = .s y ∧ Ext h h' ∧ OwnM h.length h'.length h' y (setC L i j a b)) := by
  refine calls_of_hFun (m := 0) kd_ok mixed Tryz.func218 rfl (by kernel_rfl) rfl rfl (of_decide_eq_true rfl) ?_; unfold hFun; (conv => whnf)
  refine (spec_l2Copy _ _ _ hx hL).mono ?_
  rintro r h1 ⟨y, rfl, E1, O1⟩
  obtain ⟨r0, ρ, rfl, hb, he, hρ, m⟩ := O1
  (conv => whnf)
  refine ⟨rfl, m.idx hi (fun p hp => ?_)⟩
  (conv => whnf)
  refine ⟨rfl, hp.load ?_⟩
  (conv => whnf)
  refine ⟨rfl, (m.inner' hi).idx (by omega) (by omega) ?_⟩
  (conv => whnf)
  refine ⟨rfl, m.put hi hij (fun h2 n2 k2 m2 => ?_)⟩
  have E2 : Ext h h2 := k2.ext (fun q e => by have := hρ i hi; omega) E1
  have hj2 : j < (setM L i j a).length := by rw [setM_length]; exact hj
  have hl2 : (setM L i j a).length = L.length := setM_length _ _ _ _
  have hji2 : i < ((setM L i j a).getD j []).length := by rw [setM_row hi]; exact hji
  rw [← hl2]
  (conv => whnf)
  refine ⟨rfl, m2.idx hj2 (fun p hp => ?_)⟩
  (conv => whnf)
  refine ⟨rfl, hp.load ?_⟩
  (conv => whnf)
  refine ⟨rfl, (m2.inner' hj2).idx (by omega) (by omega) ?_⟩
  (conv => whnf)
  refine ⟨rfl, m2.put hj2 hji2 (fun h3 n3 k3 m3 => ?_)⟩
  have E3 : Ext h h3 := k3.ext (fun q e => by have := hρ j hj; omega) E2
  have hl3 : (setC L i j a b).length = L.length := by unfold setC; rw [setM_length, setM_length]
  (conv => whnf)
  exact ⟨_, rfl, E3, r0, ρ, by rw [hl3, hl2], hb, by omega, fun k hk => by rw [hl3] at hk; have := hρ k hk; omega, m3⟩

end Go.Proofs.YtgliajcgcbnemaaGreatDoor.Hx

namespace Go.Proofs.YtgliajcgcbnemaaGreatDoor.Hx
open Go.RowKit

/-- The matrix of some points in their order. -/
def subM (c : List (List Int)) (o : List Int) : List (List Int) := o.map fun i => o.map fun j => ent c i.toNat j.toNat
theorem subM_len (c : List (List Int)) (o : List Int) : (subM c o).length = o.length := by simp [subM]
theorem subM_row {c : List (List Int)} {o : List Int} {i : Nat} (hi : i < o.length) : (subM c o).getD i [] = o.map fun j => ent c (o.getD i 0).toNat j.toNat := by
  simp [subM, List.getD, hi]
theorem subM_ent {c : List (List Int)} {o : List Int} {i j : Nat} (hi : i < o.length) (hj : j < o.length) : ent (subM c o) i j = ent c (o.getD i 0).toNat (o.getD j 0).toNat := by
  unfold ent
  rw [subM_row hi]
  simp [List.getD, hj, ent]

/-- An order of some of n points. -/
def OrdOk (n : Nat) (o : List Int) : Prop := o.Nodup ∧ ∀ x ∈ o, ∃ i : Nat, x = i ∧ i < n
theorem OrdOk.at {n : Nat} {o : List Int} (h : OrdOk n o) {i : Nat} (hi : i < o.length) : ∃ p : Nat, o.getD i 0 = p ∧ p < n := by
  have e : o.getD i 0 = o[i] := by simp [List.getD, hi]
  obtain ⟨p, e2, hp⟩ := h.2 _ (List.getElem_mem hi)
  exact ⟨p, by rw [e, e2], hp⟩
theorem OrdOk.ne {n : Nat} {o : List Int} (h : OrdOk n o) {i j : Nat} (hi : i < o.length) (hj : j < o.length) (hij : i ≠ j) : (o.getD i 0).toNat ≠ (o.getD j 0).toNat := by
  obtain ⟨p, hp, _⟩ := h.at hi
  obtain ⟨q, hq, _⟩ := h.at hj
  intro e
  have e1 : o.getD i 0 = o.getD j 0 := by rw [hp, hq] at *; omega
  have ei : o.getD i 0 = o[i] := by simp [List.getD, hi]
  have ej : o.getD j 0 = o[j] := by simp [List.getD, hj]
  rw [ei, ej] at e1
  have hn := h.1
  unfold List.Nodup at hn
  rw [List.pairwise_iff_getElem] at hn
  rcases Nat.lt_or_gt_of_ne hij with g | g
  · exact hn i j hi hj g e1
  · exact hn j i hj hi g e1.symm
theorem OrdOk.few {n : Nat} {o : List Int} (h : OrdOk n o) : o.length ≤ n := by
  have h1 : (o.map fun x => [x]).length ≤ ((List.range n).map fun (j : Nat) => [(j : Int)]).length := nodup_le (by
    have hn := h.1
    unfold List.Nodup at *
    rw [List.pairwise_map]
    exact hn.imp fun h e => h (by simpa using e)) (fun x hx => by
    obtain ⟨z, hz, rfl⟩ := List.mem_map.1 hx
    obtain ⟨j, rfl, hj⟩ := h.2 z hz
    exact List.mem_map.2 ⟨j, List.mem_range.2 hj, rfl⟩)
  simpa using h1
theorem OrdOk.snoc {n : Nat} {o : List Int} {i : Nat} (h : OrdOk n o) (hi : i < n) (hn : (i : Int) ∉ o) : OrdOk n (o ++ [(i : Int)]) := by
  refine ⟨?_, fun x hx => ?_⟩
  · rw [List.nodup_append]
    refine ⟨h.1, by simp, fun x hx y hy => ?_⟩
    obtain rfl : y = i := by simpa using hy
    exact fun e => hn (by rw [← e]; exact hx)
  · rcases List.mem_append.1 hx with hx | hx
    · exact h.2 x hx
    · obtain rfl : x = i := by simpa using hx
      exact ⟨i, rfl, hi⟩
theorem OrdOk.left {n : Nat} {o t : List Int} (h : OrdOk n (o ++ t)) : OrdOk n o := ⟨(List.nodup_append.1 h.1).1, fun x hx => h.2 x (List.mem_append_left _ hx)⟩

/-! ### All orders -/

def extL (n : Nat) (o : List Int) (x : Nat) : List (List Int) := ((List.range x).filter fun (i : Nat) => decide ((i : Int) ∉ o)).map fun (i : Nat) => o ++ [(i : Int)]
def ordL (n : Nat) : Nat → List (List Int)
  | 0 => [[]]
  | i + 1 => (ordL n i).flatMap fun o => extL n o n
theorem extL_in {n : Nat} {o : List Int} {x : Nat} (h : (x : Int) ∉ o) : extL n o (x + 1) = extL n o x ++ [o ++ [(x : Int)]] := by
  unfold extL
  rw [List.range_succ, List.filter_append, List.map_append, List.filter_cons_of_pos (by simpa using h), List.filter_nil]
  rfl
theorem extL_out {n : Nat} {o : List Int} {x : Nat} (h : (x : Int) ∈ o) : extL n o (x + 1) = extL n o x := by
  unfold extL
  rw [List.range_succ, List.filter_append, List.map_append, List.filter_cons_of_neg (by simpa using h), List.filter_nil, List.map_nil, List.append_nil]
theorem extL_len (n : Nat) (o : List Int) (x : Nat) : (extL n o x).length ≤ x := by
  unfold extL
  rw [List.length_map]
  refine Nat.le_trans (List.length_filter_le _ _) ?_
  rw [List.length_range]
  exact Nat.le_refl _
theorem mem_extL {n : Nat} {o p : List Int} {x : Nat} : p ∈ extL n o x ↔ ∃ i : Nat, i < x ∧ (i : Int) ∉ o ∧ p = o ++ [(i : Int)] := by
  unfold extL
  simp only [List.mem_map, List.mem_filter, List.mem_range, decide_eq_true_eq]
  constructor
  · rintro ⟨i, ⟨h1, h2⟩, rfl⟩
    exact ⟨i, h1, h2, rfl⟩
  · rintro ⟨i, h1, h2, rfl⟩
    exact ⟨i, ⟨h1, h2⟩, rfl⟩
theorem mem_ordL {n : Nat} : ∀ {i : Nat} {o : List Int}, o ∈ ordL n i ↔ o.length = i ∧ OrdOk n o
  | 0, o => by
    constructor
    · intro h
      obtain rfl : o = [] := by simpa [ordL] using h
      exact ⟨rfl, by simp [OrdOk]⟩
    · rintro ⟨h, _⟩
      rw [List.length_eq_zero_iff.1 h]
      simp [ordL]
  | i + 1, o => by
    simp only [ordL, List.mem_flatMap, mem_extL]
    constructor
    · rintro ⟨o', h1, j, hj, hn, rfl⟩
      obtain ⟨h2, h3⟩ := mem_ordL.1 h1
      exact ⟨by simp [h2], h3.snoc hj hn⟩
    · rintro ⟨h1, h2⟩
      have hne : o ≠ [] := by intro e; rw [e] at h1; simp at h1
      have e := List.dropLast_concat_getLast hne
      obtain ⟨j, hj, hjn⟩ := h2.2 _ (List.getLast_mem hne)
      rw [hj] at e
      rw [← e] at h2
      refine ⟨o.dropLast, mem_ordL.2 ⟨by simp [h1], h2.left⟩, j, hjn, ?_, e.symm⟩
      have := List.nodup_append.1 h2.1
      exact fun hm => this.2.2 _ hm _ (by simp) rfl
theorem ordL_len (n : Nat) : ∀ i, (ordL n i).length ≤ n ^ i
  | 0 => by simp [ordL]
  | i + 1 => by
    have h : ∀ (L : List (List Int)), (L.flatMap fun o => extL n o n).length ≤ n * L.length := by
      intro L
      induction L with
      | nil => simp
      | cons a t ih =>
        have := extL_len n a n
        simp only [List.flatMap_cons, List.length_append, List.length_cons, Nat.mul_add, Nat.mul_one]
        omega
    have h1 := h (ordL n i)
    have h2 := ordL_len n i
    have h3 : n * (ordL n i).length ≤ n * n ^ i := Nat.mul_le_mul_left _ h2
    rw [Nat.pow_succ, Nat.mul_comm (n ^ i) n]
    exact Nat.le_trans h1 h3

/-! ### Isomorphic -/

open Classical in
noncomputable def isoB (a b : List (List Int)) : Bool := isCartan a && isCartan b && decide (a.length = b.length) && decide (∃ o, o ∈ ordL a.length a.length ∧ subM a o = b)
theorem isoB_on {a b : List (List Int)} (ha : isCartan a = true) (hb : isCartan b = true) (hl : a.length = b.length) : isoB a b = true ↔ ∃ o, o ∈ ordL a.length a.length ∧ subM a o = b := by
  unfold isoB
  rw [ha, hb]
  simp [hl]
theorem isoB_offl {a b : List (List Int)} (h : isCartan a = false ∨ isCartan b = false ∨ a.length ≠ b.length) : isoB a b = false := by
  unfold isoB
  rcases h with h | h | h <;> simp [h]

def Fit (a b : List (List Int)) (o : List Int) (i : Nat) : Prop := ∀ j, j < o.length → ent a i (o.getD j 0).toNat = ent b o.length j ∧ ent a (o.getD j 0).toNat i = ent b j o.length
def ExtM (a b : List (List Int)) : Nat → List Int → Prop
  | 0, _ => True
  | f + 1, o => ∃ i : Nat, i < a.length ∧ (i : Int) ∉ o ∧ Fit a b o i ∧ ExtM a b f (o ++ [(i : Int)])

theorem getD_left {o t : List Int} {j : Nat} (h : j < o.length) : (o ++ t).getD j 0 = o.getD j 0 := by
  simp only [List.getD]
  rw [List.getElem?_append_left h]

theorem extM_iff {a b : List (List Int)} : ∀ (f : Nat) (o : List Int), OrdOk a.length o → o.length + f = a.length →
    (ExtM a b f o ↔ ∃ t, OrdOk a.length (o ++ t) ∧ t.length = f ∧ ∀ m, o.length ≤ m → m < a.length → ∀ j, j < m → ent a ((o ++ t).getD m 0).toNat ((o ++ t).getD j 0).toNat = ent b m j ∧ ent a ((o ++ t).getD j 0).toNat ((o ++ t).getD m 0).toNat = ent b j m)
  | 0, o, ho, hl => by
    constructor
    · intro _
      exact ⟨[], by simpa using ho, rfl, fun m h1 h2 => by omega⟩
    · intro _
      trivial
  | f + 1, o, ho, hl => by
    constructor
    · rintro ⟨i, hi, hn, hf, hx⟩
      obtain ⟨t, h1, h2, h3⟩ := (extM_iff f (o ++ [(i : Int)]) (ho.snoc hi hn) (by simp; omega)).1 hx
      have e : (o ++ [(i : Int)]) ++ t = o ++ (i : Int) :: t := by simp
      rw [e] at h1 h3
      refine ⟨(i : Int) :: t, h1, by simp [h2], fun m g1 g2 j hj => ?_⟩
      by_cases em : m = o.length
      · subst em
        have e1 : (o ++ (i : Int) :: t).getD o.length 0 = i := by simp [List.getD]
        rw [e1, getD_left hj]
        exact hf j hj
      · exact h3 m (by simp; omega) g2 j hj
    · rintro ⟨t, h1, h2, h3⟩
      cases t with
      | nil => simp at h2
      | cons x t =>
        obtain ⟨i, rfl, hi⟩ := h1.2 x (by simp)
        have hn : (i : Int) ∉ o := fun hm => (List.nodup_append.1 h1.1).2.2 _ hm _ (by simp) rfl
        have e : (o ++ [(i : Int)]) ++ t = o ++ (i : Int) :: t := by simp
        refine ⟨i, hi, hn, fun j hj => ?_, (extM_iff f (o ++ [(i : Int)]) (ho.snoc hi hn) (by simp; omega)).2 ⟨t, by rw [e]; exact h1, by simpa using h2, fun m g1 g2 => by
          rw [e]
          exact h3 m (by simp at g1; omega) g2⟩⟩
        have := h3 o.length (Nat.le_refl _) (by omega) j hj
        have e1 : (o ++ (i : Int) :: t).getD o.length 0 = i := by simp [List.getD]
        rw [e1, getD_left hj] at this
        exact this

theorem mat_ext {n : Nat} {A B : List (List Int)} (hA : A.length = n) (hB : B.length = n) (rA : ∀ i, i < n → (A.getD i []).length = n) (rB : ∀ i, i < n → (B.getD i []).length = n) (h : ∀ i, i < n → ∀ j, j < n → ent A i j = ent B i j) : A = B := by
  apply List.ext_getElem (by omega)
  intro i h1 h2
  have e1 : A.getD i [] = A[i] := by simp [List.getD, h1]
  have e2 : B.getD i [] = B[i] := by simp [List.getD, h2]
  have hi : i < n := by omega
  have k1 := rA i hi
  have k2 := rB i hi
  rw [e1] at k1
  rw [e2] at k2
  apply List.ext_getElem (by omega)
  intro j g1 g2
  have := h i hi j (by omega)
  unfold ent at this
  rw [e1, e2] at this
  simpa [List.getD, g1, g2] using this

theorem iso_iff {a b : List (List Int)} (ha : Cartan a) (hb : Cartan b) (hl : a.length = b.length) : ExtM a b a.length [] ↔ ∃ o, o ∈ ordL a.length a.length ∧ subM a o = b := by
  rw [extM_iff a.length [] (by simp [OrdOk]) (by simp)]
  simp only [List.nil_append, List.length_nil]
  constructor
  · rintro ⟨t, h1, h2, h3⟩
    refine ⟨t, mem_ordL.2 ⟨h2, h1⟩, mat_ext (n := a.length) (by rw [subM_len, h2]) hl.symm (fun i hi => by rw [subM_row (by omega)]; simpa using h2) (fun i hi => by rw [hb.row i (by omega), hl]) (fun i hi j hj => ?_)⟩
    rw [subM_ent (by omega) (by omega)]
    rcases Nat.lt_trichotomy i j with g | g | g
    · exact (h3 j (Nat.zero_le _) hj i g).2
    · subst g
      obtain ⟨p, hp, hpn⟩ := h1.at (i := i) (by omega)
      rw [hp, Int.toNat_natCast, (matOk ha).diag p hpn, (matOk hb).diag i (by omega)]
    · exact (h3 i (Nat.zero_le _) hi j g).1
  · rintro ⟨o, ho, e⟩
    obtain ⟨h2, h1⟩ := mem_ordL.1 ho
    refine ⟨o, h1, h2, fun m _ hm j hj => ?_⟩
    rw [← e, subM_ent (by omega) (by omega), subM_ent (by omega) (by omega)]
    exact ⟨rfl, rfl⟩

/-! ### Parts as matrices -/

theorem cartBad_sub {c : List (List Int)} (hC : Cartan c) {o : List Int} (ho : OrdOk c.length o) {i j : Nat} (hi : i < o.length) (hj : j < o.length) : cartBad (subM c o) i j = false := by
  obtain ⟨p, hp, hpn⟩ := ho.at hi
  obtain ⟨q, hq, hqn⟩ := ho.at hj
  have h := hC.ok p hpn q hqn
  unfold cartBad at h ⊢
  rw [subM_ent hi hj, subM_ent hj hi, hp, hq, Int.toNat_natCast, Int.toNat_natCast]
  have e : decide (i = j) = decide (p = q) := by
    by_cases hij : i = j
    · subst hij
      rw [hp] at hq
      have : p = q := by omega
      simp [this]
    · have := ho.ne hi hj hij
      rw [hp, hq, Int.toNat_natCast, Int.toNat_natCast] at this
      simp [hij, this]
  rw [e]
  exact h
theorem sub_cartan {c : List (List Int)} (hC : Cartan c) {o : List Int} (ho : OrdOk c.length o) (h0 : 0 < o.length) : Cartan (subM c o) := by
  have hf := ho.few
  have h4 := hC.le
  refine ⟨by rw [subM_len]; omega, by rw [subM_len]; omega, fun i hi => ?_, fun i hi j hj => ?_⟩
  · rw [subM_len] at hi ⊢
    rw [subM_row hi]
    simp
  · rw [subM_len] at hi hj
    exact cartBad_sub hC ho hi hj

theorem partL_ok (c : List (List Int)) (i : Nat) : OrdOk c.length (partL c i) := by
  refine ⟨?_, fun x hx => ?_⟩
  · exact (partTo_sorted c i c.length).imp fun h e => by omega
  · obtain ⟨j, e, hj, _⟩ := mem_partTo.1 hx
    exact ⟨j, e, hj⟩

theorem conn_of {M : List (List Int)} (hM : Cartan M) (h : ∀ k, k < M.length → Rch M 0 k) : isConn M = true := by
  have hp := hM.pos
  have h0 : isMin M 0 = true := isMin_iff.2 fun j hj => by omega
  have hk : ∀ k, 0 < k → k < M.length → isMin M k = false := fun k h1 h2 => by
    cases hm : isMin M k
    · rfl
    · exact absurd (h k h2) (isMin_iff.1 hm 0 h1)
  obtain ⟨n, hn⟩ : ∃ n, M.length = n + 1 := ⟨M.length - 1, by omega⟩
  unfold isConn partsN
  rw [(isCartan_iff M).2 hM, hn, List.range_succ_eq_map, List.filter_cons_of_pos h0, List.length_cons, List.filter_eq_nil_iff.2 (fun x hx => by
    obtain ⟨y, hy, rfl⟩ := List.mem_map.1 hx
    have := List.mem_range.1 hy
    rw [hk (y + 1) (by omega) (by omega)]
    decide)]
  simp

theorem part_conn {c : List (List Int)} (hC : Cartan c) {i : Nat} (hi : i < c.length) : Cartan (subM c (partL c i)) ∧ isConn (subM c (partL c i)) = true := by
  have hok := partL_ok c i
  have hpos := partL_pos hi
  have hM := sub_cartan hC hok hpos
  refine ⟨hM, conn_of hM fun k hk => ?_⟩
  rw [subM_len] at hk
  have pt : ∀ k, k < (partL c i).length → ∃ p : Nat, (partL c i).getD k 0 = p ∧ p < c.length ∧ Rch c i p := fun k hk => by
    obtain ⟨p, hp, hpn⟩ := hok.at hk
    have e : (partL c i).getD k 0 = (partL c i)[k] := by simp [List.getD, hk]
    have hm := List.getElem_mem hk
    rw [← e, hp] at hm
    exact ⟨p, hp, hpn, (mem_partL hi).1 hm⟩
  obtain ⟨p0, e0, hp0, r0⟩ := pt 0 hpos
  obtain ⟨pk, ek, hpk, rk⟩ := pt k hk
  have hr : Rch c p0 pk := (r0.symm hC hi).trans rk
  obtain ⟨b, hb, eb, rb⟩ := Rch.closed (S := fun q => ∃ b, b < (partL c i).length ∧ (partL c i).getD b 0 = (q : Int) ∧ Rch (subM c (partL c i)) 0 b) ⟨0, hpos, e0, .here⟩ (fun q hq q' ha => by
    obtain ⟨b, hb, eb, rb⟩ := hq
    obtain ⟨p, ep, hpn, rp⟩ := pt b hb
    have epq : p = q := by rw [ep] at eb; omega
    subst epq
    have hm : (q' : Int) ∈ partL c i := (mem_partL hi).2 (rp.step ha)
    obtain ⟨b', hb', eb'⟩ := List.getElem_of_mem hm
    have eg : (partL c i).getD b' 0 = (q' : Int) := by simp [List.getD, hb', eb']
    refine ⟨b', hb', eg, rb.step ⟨by rw [subM_len]; exact hb', fun e => ?_, ?_⟩⟩
    · subst e
      rw [eb] at eg
      exact ha.2.1 (by omega)
    · have := subM_ent (c := c) hb hb'
      unfold ent at this
      rw [this, eb, eg, Int.toNat_natCast, Int.toNat_natCast]
      exact ha.2.2) hr
  have : b = k := Classical.byContradiction fun hne => by
    have := hok.ne hb hk hne
    rw [eb, ek] at this
    exact this rfl
  subst this
  exact rb

end Go.Proofs.YtgliajcgcbnemaaGreatDoor.Hx
