/-
  Contracts of the normal form, of the program and of the reference.
  Contract of AreSame of the reference.
  Contracts of lengths, normal forms, elements, inverses and products, of the program and of the reference.
  Sets of points as bits, matrices of some points, determinants: plain functions, and the contracts of their makers.
-/
import Derived.Test.YtgliajcgcbnemaaGreatDoorZ13
namespace Go.Proofs.YtgliajcgcbnemaaGreatDoor.Hx
open Go.RowKit
variable {dm : Bool}

def fdI (v : List Int) : Int := if fd v < v.length then (fd v : Int) else -1
theorem fdI_at {v : List Int} {i : Nat} (hi : i < v.length) (h : v.getD i 0 < 0) (hb : ∀ k, k < i → 0 ≤ v.getD k 0) : fdI v = i := by
  unfold fdI
  rw [fd_at hi h hb, if_pos hi]
theorem fdI_none {v : List Int} (hb : ∀ k, k < v.length → 0 ≤ v.getD k 0) : fdI v = -1 := by
  unfold fdI
  rw [if_neg]
  intro h
  have h1 := fd_lt h
  have := hb _ h
  omega

/-- What is only read: it lay there before, or lies in a row of its own that is not row r. -/
def Rd (h0 : Heap) (r : Nat) (h : Heap) (y : H0) (u : List Int) : Prop := Ints h0 y u ∨ ∃ q, h0.length ≤ q ∧ q ≠ r ∧ OwnR q h y u

theorem Rd.ints {h0 h : Heap} {r : Nat} {y : H0} {u : List Int} (H : Rd h0 r h y u) (E : Ext h0 h) : Ints h y u := by
  rcases H with H | ⟨q, _, _, O⟩
  · exact H.ext E
  · exact O.ints
theorem Rd.but {h0 h h' : Heap} {r r' : Nat} {y : H0} {u : List Int} (H : Rd h0 r h y u) (B : But r h h') (hr : h.length ≤ r') : Rd h0 r' h' y u := by
  rcases H with H | ⟨q, h1, h2, O⟩
  · exact Or.inl H
  · have := O.lt
    exact Or.inr ⟨q, h1, by omega, O.but B h2⟩

def lenAt (vs : List HV) (k : Nat) : Nat := match vs[k]? with
  | some (.s (.sl _ _ n)) => n
  | _ => 0

def normF (c : List (List Int)) (w : List Int) : List Int := nf c 31 (imageOf c w)

/-- A step of the reduction, with fuel to spare. -/
theorem nf_next {c : List (List Int)} (hC : Cartan c) {m i : Nat} {u : List Int} (P : PlayL c (m + 1) u) (hm : m + 1 ≤ 30) (hi : i < u.length) (h : u.getD i 0 < 0) (hb : ∀ k, k < i → 0 ≤ u.getD k 0) :
    nf c 31 u = (i : Int) :: nf c 31 (reflW c i u) ∧ PlayL c m (reflW c i u) := by
  obtain ⟨m', e, P2⟩ := P.down hC hm (i := i) (by rw [← P.1]; exact hi) h
  have : m' = m := by omega
  subst this
  refine ⟨?_, P2⟩
  rw [nf_step hi h hb, nf_more hC m' _ 30 31 P2 (by omega) (by omega) (by omega)]
theorem play_neg {c : List (List Int)} (hC : Cartan c) {m i : Nat} {u : List Int} (P : PlayL c m u) (hm : m ≤ 30) (hi : i < u.length) (h : u.getD i 0 < 0) : ∃ m', m = m' + 1 := by
  obtain ⟨m', e, _⟩ := P.down hC hm (i := i) (by rw [← P.1]; exact hi) h
  exact ⟨m', e⟩

set_option smartUnfolding false

theorem impl_reflectedR (h0 h : Heap) (r : Nat) (x y : H0) (c : List (List Int)) (i : Nat) (v : List Int) (hx : Rows h0 x c) (E : Ext h0 h) (hr : h0.length ≤ r) (O : OwnR r h y v) (hC : Cartan c) (hi : i < c.length) (hl : v.length = c.length) :
    HCalls dm Tryz.prog 114 [.s x, I i, .s y] h (fun r' h' => r' = .tup [] ∧ But r h h' ∧ OwnR r h' y (reflW c i v)) := by
  have h4 := hC.le
  refine calls_of_hFun (m := 0) kd_ok mixed Tryz.func114 rfl (by kernel_rfl) rfl rfl (of_decide_eq_true rfl) ?_; unfold hFun; (conv => whnf)
  refine ⟨rfl, Ints.idxN O.ints (by omega) (fun p hp => ?_)⟩
  (conv => whnf)
  refine ⟨rfl, hp.load ?_⟩
  (conv => whnf)
  refine ⟨rfl, O.ints.len ?_⟩
  (conv => whnf)
  refine HLoop.intro [14] [15, 16, 7, 17, 18, 19, 20, 21, 22, 23, 24, 25, 26, 27, 28, 29, 30, 31, 32, 14] (by kernel_rfl) (by kernel_rfl) (fun vs h' => ∃ k : Nat, vs = [I k] ∧ k ≤ v.length ∧ But r h h' ∧ OwnR r h' y (reflTo c i v k)) (fun vs _ => v.length - natAt vs 0) ⟨0, rfl, by omega, But.refl _ _, by rw [reflTo_none]; exact O⟩ ?_
  rintro vs h' ⟨k, rfl, hk, B, O⟩
  have hx := hx.ext (E.but B hr)
  have hlen := reflTo_length c i v k
  (conv => whnf)
  refine HIf.dec (fun hlt => ?_) (fun hge => ?_)
  · have hrow := hC.row k (by omega)
    have hget := reflTo_get c i v k (by omega)
    have hsucc := reflTo_succ c i v k
    obtain ⟨cs, rfl, hq, hql, B2, O2⟩ := OwnR.store (v := reflNew c i v k) O (show k < (reflTo c i v k).length by omega)
    rw [hsucc] at O2
    (conv => whnf)
    refine Or.inr (Or.inl (Exists.intro 15 (And.intro (show Region.lexTailB _ _ _ = true by kernel_rfl) ?_))); (conv => whnf)
    refine ⟨rfl, Ints.idxN O.ints (by omega) (fun p hp => ?_)⟩
    rw [hget] at hp
    (conv => whnf)
    refine ⟨rfl, hp.load ?_⟩
    (conv => whnf)
    refine ⟨rfl, Rows.idxN hx (by omega) (fun p2 z hp2 hz => ?_)⟩
    (conv => whnf)
    refine ⟨rfl, hp2.load ?_⟩
    (conv => whnf)
    refine ⟨rfl, Ints.idxN hz (by omega) (fun p3 hp3 => ?_)⟩
    (conv => whnf)
    refine ⟨rfl, hp3.load ?_⟩
    rw [ent_eq]
    (conv => whnf)
    refine HArith.any ?_
    (conv => whnf)
    refine HArith.any ?_
    (conv => whnf)
    refine ⟨rfl, HIdx.sl (by omega) (by omega) ?_⟩
    (conv => whnf)
    have e0 : 0 + (k : Int).toNat = k := by omega
    rw [e0]
    refine ⟨rfl, HStore.own hq (by omega) rfl ?_⟩
    (conv => whnf)
    refine HArith.fits (by omega) (by omega) ?_
    (conv => whnf)
    exact ⟨⟨k + 1, rfl, by omega, B.trans B2, O2⟩, by show v.length - (k + 1) < v.length - k; omega⟩
  · have e : k = v.length := by omega
    subst e
    rw [reflTo_all] at O
    (conv => whnf)
    exact ⟨rfl, B, O⟩

theorem impl_firstDescent (h : Heap) (x : H0) (v : List Int) (hx : Ints h x v) (hv : v.length ≤ 1048576) : HCalls dm Tryz.prog 198 [.s x] h (fun r h' => r = I (fdI v) ∧ h' = h) := by
  refine calls_of_hFun (m := 0) kd_ok mixed Tryz.func198 rfl (by kernel_rfl) rfl rfl (of_decide_eq_true rfl) ?_; unfold hFun; (conv => whnf)
  refine ⟨rfl, hx.len ?_⟩
  (conv => whnf)
  refine HLoop.intro [7] [8, 9, 10, 11, 3, 4, 12, 13, 14, 2, 15, 7] (by kernel_rfl) (by kernel_rfl) (fun vs h' => ∃ i : Nat, vs = [I i] ∧ h' = h ∧ i ≤ v.length ∧ ∀ k, k < i → 0 ≤ v.getD k 0) (fun vs _ => v.length - natAt vs 0) ⟨0, rfl, rfl, by omega, fun k hk => by omega⟩ ?_
  rintro vs h' ⟨i, rfl, hh, hi, hb⟩
  subst h'
  (conv => whnf)
  refine HIf.dec (fun hlt => ?_) (fun hge => ?_)
  · (conv => whnf)
    refine ⟨rfl, Ints.idxN hx (by omega) (fun p hp => ?_)⟩
    (conv => whnf)
    refine ⟨rfl, hp.load ?_⟩
    (conv => whnf)
    refine HIf.dec (fun hneg => ?_) (fun hpos => ?_)
    · rw [fdI_at (by omega) hneg hb]
      (conv => whnf)
      exact ⟨rfl, rfl⟩
    · (conv => whnf)
      refine HArith.fits (by omega) (by omega) ?_
      (conv => whnf)
      refine ⟨⟨i + 1, rfl, rfl, by omega, fun k hk => ?_⟩, by show v.length - (i + 1) < v.length - i; omega⟩
      by_cases e : k = i
      · subst e; omega
      · exact hb k (by omega)
  · rw [fdI_none (fun k hk => hb k (by omega))]
    (conv => whnf)
    exact ⟨rfl, rfl⟩

theorem impl_normal (h : Heap) (x0 : H0) (a0 : List (List Int)) (x1 : H0) (v : List Int) (n : Nat) (hx0 : Rows h x0 a0) (hx1 : Ints h x1 v) (hC : Cartan a0) (P : PlayL a0 n v) (hn : n ≤ 30) :
    HCalls dm Tryz.prog 148 [.s x0, .s x1] h (fun r h' => ∃ y, r = .s y ∧ Fresh h h' y (nf a0 31 v)) := by
  have h4 := hC.le
  have hvl := P.1
  refine calls_of_hFun (m := 0) kd_ok mixed Tryz.func148 rfl (by kernel_rfl) rfl rfl (of_decide_eq_true rfl) ?_; unfold hFun; (conv => whnf)
  refine HLit.empty ?_
  (conv => whnf)
  refine ⟨rfl, rfl, HApp.copy hx1 (by omega) (fun h1 y1 E1 O1 => ?_)⟩
  obtain ⟨r2, hr2, hr2l, O2⟩ := O1.row
  have E2 := E1.trans (Ext.push h1 [Row.own []])
  have O3 := OwnR.push h1 []
  have hEl := E1.1
  (conv => whnf)
  refine HLit.empty ?_
  (conv => whnf)
  refine HLoop.intro [5] [11, 12, 6, 13, 14, 15, 4, 16, 17, 18, 19, 5, 20, 21, 22, 23] (by kernel_rfl) (by kernel_rfl) (fun vs h' => ∃ (z : H0) (r1 : Nat) (u l : List Int) (m : Nat), vs = [.s z] ∧ Ext h h' ∧ h.length ≤ r1 ∧ r1 ≠ r2 ∧ OwnR r1 h' z l ∧ OwnR r2 h' y1 u ∧ PlayL a0 m u ∧ m + l.length ≤ 30 ∧ l ++ nf a0 31 u = nf a0 31 v) (fun vs _ => 31 - lenAt vs 0) ⟨_, h1.length, v, [], n, rfl, E2, hEl, by omega, O3, O2.ext (Ext.push _ _), P, by simpa using hn, rfl⟩ ?_
  rintro vs h' ⟨z, r1, u, l, m, rfl, E, hr1, hne, Oz, Oy, Pu, hml, hl⟩
  have hul := Pu.1
  (conv => whnf)
  refine (impl_firstDescent _ _ u Oy.ints (by omega)).mono ?_
  rintro r h3 ⟨rfl, hh⟩
  subst h3
  (conv => whnf)
  by_cases hf : fd u < u.length
  · have hneg := fd_lt hf
    have hb : ∀ k, k < fd u → 0 ≤ u.getD k 0 := fun k hk => by
      have hk2 : k < u.length := by omega
      have := List.not_of_lt_findIdx (xs := u) (p := fun x => decide (x < 0)) (i := k) hk
      simp only [List.getD, List.getElem?_eq_getElem hk2, Option.getD_some]
      simp at this
      omega
    obtain ⟨m, rfl⟩ := play_neg hC Pu (by omega) hf hneg
    obtain ⟨hnx, P2⟩ := nf_next hC Pu (by omega) hf hneg hb
    rw [fdI_at hf hneg hb]
    generalize fd u = i at *
    rw [hnx] at hl
    refine HIf.decF (by omega) ?_
    (conv => whnf)
    refine HLit.one ?_
    (conv => whnf)
    refine ⟨rfl, rfl, HApp.snocR Oz (by omega) (fun h3 r3 y3 B3 hr3 O3 => ?_)⟩
    have := Oy.lt
    have := E.1
    (conv => whnf)
    refine (impl_reflectedR h _ r2 _ _ a0 i u hx0 (E.but B3 hr1) hr2 (Oy.but B3 (Ne.symm hne)) hC (by omega) hul).mono ?_
    rintro r h5 ⟨rfl, B5, O5⟩
    have hzl : z = .sl r1 0 l.length := by obtain ⟨t, e, _⟩ := Oz; exact e
    have hyl : y3 = .sl r3 0 (l ++ [(i : Int)]).length := by obtain ⟨t, e, _⟩ := O3; exact e
    (conv => whnf)
    refine ⟨⟨y3, r3, reflW a0 i u, l ++ [(i : Int)], m, rfl, (E.but B3 hr1).but B5 hr2, by omega, by omega, O3.but B5 (by omega), O5, P2, by simp; omega, by rw [List.append_assoc]; exact hl⟩, ?_⟩
    subst hzl
    subst hyl
    show 31 - (l ++ [(i : Int)]).length < 31 - l.length
    simp
    omega
  · have hb := fd_end hf
    rw [fdI_none hb]
    rw [nf_stop hb, List.append_nil] at hl
    refine HIf.decT (by omega) ?_
    (conv => whnf)
    rw [← hl]
    exact ⟨_, rfl, Fresh.ofRow E Oz hr1⟩

theorem impl_reduced (h : Heap) (x0 : H0) (a0 : List (List Int)) (x1 : H0) (a1 : List Int) (hx0 : Rows h x0 a0) (hx1 : Ints h x1 a1) (hC : Cartan a0) (hw : lettersOk a0 a1 = true) (s1 : a1.length ≤ 30) :
    HCalls dm Tryz.prog 85 [.s x0, .s x1] h (fun r h' => ∃ y, r = .s y ∧ Fresh h h' y (normF a0 a1)) := by
  obtain ⟨n, hn, P⟩ := play_image hC hw (by omega)
  refine calls_of_hFun (m := 0) kd_ok mixed Tryz.func85 rfl (by kernel_rfl) rfl rfl (of_decide_eq_true rfl) ?_; unfold hFun; (conv => whnf)
  refine (impl_image _ _ a0 _ a1 hx0 hx1 hC hw (by omega)).mono ?_
  rintro r h1 ⟨y1, rfl, f1⟩
  (conv => whnf)
  refine (impl_normal _ _ a0 _ _ n (hx0.ext f1.1) f1.ints hC P (by omega)).mono ?_
  rintro r h2 ⟨y2, rfl, f2⟩
  have hz := Fresh.inner f1.1 f2
  (conv => whnf)
  exact ⟨_, rfl, Fresh.of hz.1 hz.2⟩

theorem spec_l8Form (h : Heap) (x0 : H0) (a0 : List (List Int)) (x1 : H0) (v : List Int) (n : Nat) (hx0 : Rows h x0 a0) (hx1 : Ints h x1 v) (hC : Cartan a0) (P : PlayL a0 n v) (hn : n ≤ 30) :
    HCalls dm Tryz.prog 193 [.s x0, .s x1] h (fun r h' => ∃ y, r = .s y ∧ Fresh h h' y (nf a0 31 v)) := by
  have h4 := hC.le
  have hvl := P.1
  have E0 := Ext.push h [Row.own []]
  have O0 := OwnR.push h []
  refine calls_of_hFun (m := 0) kd_ok mixed Tryz.func193 rfl (by kernel_rfl) rfl rfl (of_decide_eq_true rfl) ?_; unfold hFun; (conv => whnf)
  refine HLit.empty ?_
  (conv => whnf)
  refine HLoop.intro [6, 1, 5] [9, 10, 7, 13, 14, 15, 16, 17, 18, 19, 20, 21, 22, 23, 24, 25, 7, 26, 27, 28, 29, 30, 4, 31, 32, 33, 34, 5, 35, 36, 37, 38, 1, 11, 12, 6] (by kernel_rfl) (by kernel_rfl) (fun vs h' => ∃ (k : Nat) (z : H0) (r1 : Nat) (y : H0) (u l : List Int) (m : Nat), vs = [I k, .s y, .s z] ∧ Ext h h' ∧ h.length ≤ r1 ∧ OwnR r1 h' z l ∧ Rd h r1 h' y u ∧ PlayL a0 m u ∧ m + k ≤ 30 ∧ l.length = k ∧ l ++ nf a0 31 u = nf a0 31 v) (fun vs _ => 31 - natAt vs 0) ⟨0, _, h.length, x1, v, [], n, rfl, E0, Nat.le_refl _, O0, Or.inl hx1, P, hn, rfl, rfl⟩ ?_
  rintro vs h' ⟨k, z, r1, y, u, l, m, rfl, E, hr1, Oz, Ry, Pu, hmk, hlk, hl⟩
  have hul := Pu.1
  have hx00 := hx0
  have hx0 := hx0.ext E
  have hy := Ry.ints E
  (conv => whnf)
  refine HIf.decT (by omega) ?_
  (conv => whnf)
  refine HLoop.intro [7] [13, 14, 15, 16, 17, 18, 19, 20, 21, 22, 23, 24, 25, 7] (by kernel_rfl) (by kernel_rfl) (fun vs h2 => ∃ i : Nat, vs = [I i] ∧ h2 = h' ∧ i ≤ u.length ∧ ∀ t, t < i → 0 ≤ u.getD t 0) (fun vs _ => u.length - natAt vs 0) ⟨0, rfl, rfl, by omega, fun k hk => by omega⟩ ?_
  rintro vs h2 ⟨i, rfl, hh, hi, hb⟩
  subst h2
  have out : i = u.length → nf a0 31 v = l := fun e => by
    subst e
    rw [nf_stop hb, List.append_nil] at hl
    exact hl.symm
  have huy := hy
  (conv => whnf)
  refine ⟨rfl, hy.len ?_⟩
  (conv => whnf)
  refine HIf.dec (fun hlt => ?_) (fun hge => ?_)
  · (conv => whnf)
    (repeat (first | (refine ⟨rfl, Ints.len (by assumption) ?_⟩; conv => whnf) | (refine ⟨rfl, Rows.len (by assumption) ?_⟩; conv => whnf) | (refine ⟨rfl, HLen.sl ?_⟩; conv => whnf) | (refine ⟨rfl, At.load (by assumption) ?_⟩; conv => whnf) | (refine HIf.yes ?_; conv => whnf) | (refine HIf.no ?_; conv => whnf) | (refine HIf.isT (by assumption) ?_; conv => whnf) | (refine HIf.isF (by assumption) ?_; conv => whnf) | (refine HIf.decT (by assumption) ?_; conv => whnf) | (refine HIf.decF (by assumption) ?_; conv => whnf) | (refine HIf.beqT (by assumption) ?_; conv => whnf) | (refine HIf.beqF (by assumption) ?_; conv => whnf) | (refine HIf.bneT (by assumption) ?_; conv => whnf) | (refine HIf.bneF (by assumption) ?_; conv => whnf) | (refine ⟨rfl, Ints.idxN (by assumption) (by omega) (fun p hp => ?_)⟩; conv => whnf) | (refine ⟨rfl, Rows.idxN (by assumption) (by omega) (fun p y hp hy => ?_)⟩; conv => whnf) | (refine And.intro (show Kd.isBool _ = true from rfl) ?_; conv => whnf) | (refine ⟨rfl, Ints.idx (by assumption) (by omega) (by omega) (fun p hp => ?_)⟩; conv => whnf) | (refine ⟨rfl, Rows.idx (by assumption) (by omega) (by omega) (fun p y hp hy => ?_)⟩; conv => whnf) | (refine HArith.fits (by omega) (by omega) ?_; conv => whnf) | (refine Or.inl (And.intro (show Region.lexB _ _ = true by kernel_rfl) ?_); conv => whnf)))
    refine HIf.dec (fun hpos => ?_) (fun hneg0 => ?_)
    · (conv => whnf)
      refine HArith.fits (by omega) (by omega) ?_
      (conv => whnf)
      refine ⟨⟨i + 1, rfl, rfl, by omega, fun t ht => ?_⟩, by show u.length - (i + 1) < u.length - i; omega⟩
      by_cases e : t = i
      · subst e; omega
      · exact hb t (by omega)
    · have hne := Pu.ne hC (i := i) (by omega)
      have hneg : u.getD i 0 < 0 := by omega
      obtain ⟨m, rfl⟩ := play_neg hC Pu (by omega) (by omega) hneg
      obtain ⟨hnx, P2⟩ := nf_next hC Pu (by omega) (by omega) hneg hb
      rw [hnx] at hl
      (conv => whnf)
      refine ⟨rfl, hy.len ?_⟩
      (conv => whnf)
      refine HIf.beqF (by omega) ?_
      (conv => whnf)
      refine HLit.one ?_
      (conv => whnf)
      refine ⟨rfl, rfl, HApp.snocR Oz (by omega) (fun h3 r3 y3 B3 hr3 O3 => ?_)⟩
      have hE := E.1
      have R3 := Ry.but B3 hr3
      have E3 := E.but B3 hr1
      (conv => whnf)
      refine (spec_l6Reflect _ _ _ a0 i u (hx00.ext E3) (R3.ints E3) hC (by omega) hul).mono ?_
      rintro r h5 ⟨y5, rfl, f5⟩
      obtain ⟨r5, hr5, O5⟩ := f5.row
      have := O3.lt
      have hE3 := E3.1
      (conv => whnf)
      refine HArith.fits (by omega) (by omega) ?_
      (conv => whnf)
      exact ⟨⟨k + 1, _, r3, _, _, l ++ [(i : Int)], m, rfl, E3.trans f5.1, by omega, O3.ext f5.1, Or.inr ⟨r5, by omega, by omega, O5⟩, P2, by omega, by simp; omega, by rw [List.append_assoc]; exact hl⟩, by show 31 - (k + 1) < 31 - k; omega⟩
  · (conv => whnf)
    (repeat (first | (refine HIf.decF hge ?_; conv => whnf) | (refine HIf.no ?_; conv => whnf)))
    refine ⟨rfl, hy.len ?_⟩
    (conv => whnf)
    refine HIf.beqT (by omega) ?_
    (conv => whnf)
    rw [out (by omega)]
    exact ⟨_, rfl, Fresh.ofRow E Oz hr1⟩

theorem spec_l8Normal (h : Heap) (x0 : H0) (a0 : List (List Int)) (x1 : H0) (a1 : List Int) (hx0 : Rows h x0 a0) (hx1 : Ints h x1 a1) (hC : Cartan a0) (hw : lettersOk a0 a1 = true) (s1 : a1.length ≤ 30) :
    HCalls dm Tryz.prog 140 [.s x0, .s x1] h (fun r h' => ∃ y, r = .s y ∧ Fresh h h' y (normF a0 a1)) := by
  obtain ⟨n, hn, P⟩ := play_image hC hw (by omega)
  refine calls_of_hFun (m := 0) kd_ok mixed Tryz.func140 rfl (by kernel_rfl) rfl rfl (of_decide_eq_true rfl) ?_; unfold hFun; (conv => whnf)
  refine (spec_l8Image _ _ a0 _ a1 hx0 hx1 ((isCartan_iff a0).2 hC) hw (by omega)).mono ?_
  rintro r h1 ⟨y1, rfl, f1⟩
  (conv => whnf)
  refine (spec_l8Form _ _ a0 _ _ n (hx0.ext f1.1) f1.ints hC P (by omega)).mono ?_
  rintro r h2 ⟨y2, rfl, f2⟩
  have hz := Fresh.inner f1.1 f2
  (conv => whnf)
  exact ⟨_, rfl, Fresh.of hz.1 hz.2⟩

end Go.Proofs.YtgliajcgcbnemaaGreatDoor.Hx

namespace Go.Proofs.YtgliajcgcbnemaaGreatDoor.Hx
open Go.RowKit
variable {dm : Bool}


set_option smartUnfolding false

end Go.Proofs.YtgliajcgcbnemaaGreatDoor.Hx

namespace Go.Proofs.YtgliajcgcbnemaaGreatDoor.Hx
open Go.RowKit
variable {dm : Bool}

def normalForm (c : List (List Int)) (w : List Int) : List Int := if isWord c w then normF c w else []
def lengthI (c : List (List Int)) (w : List Int) : Int := if isWord c w then ((normF c w).length : Int) else -1
def isReduced (c : List (List Int)) (w : List Int) : Bool := isWord c w && decide ((normF c w).length = w.length)
def isElement (c : List (List Int)) (w : List Int) : Bool := isWord c w && decide (normF c w = w)
def mulOk (c : List (List Int)) (a b : List Int) : Bool := isWord c a && isWord c b && decide ((normF c (a ++ b)).length ≤ 15)
def mul (c : List (List Int)) (a b : List Int) : List Int := if mulOk c a b then normF c (a ++ b) else []
def conjOk (c : List (List Int)) (w b : List Int) : Bool := mulOk c b.reverse w && mulOk c (mul c b.reverse w) b
def conj (c : List (List Int)) (w b : List Int) : List Int := if conjOk c w b then mul c (mul c b.reverse w) b else []
def isInvol (c : List (List Int)) (w : List Int) : Bool := isWord c w && decide (0 < (normF c w).length) && decide (imageOf c w = imageOf c w.reverse)

theorem normF_len {c : List (List Int)} {w : List Int} (hC : Cartan c) (hw : lettersOk c w = true) (hl : w.length ≤ 30) : (normF c w).length ≤ w.length := by
  obtain ⟨n, hn, P⟩ := play_image hC hw (by omega)
  unfold normF
  rw [nf_len hC n _ 31 P (by omega) (by omega)]
  exact hn
theorem normF_letters {c : List (List Int)} {w : List Int} (hC : Cartan c) (hw : lettersOk c w = true) (hl : w.length ≤ 30) : lettersOk c (normF c w) = true := by
  obtain ⟨n, hn, P⟩ := play_image hC hw (by omega)
  exact nf_letters hC n _ 31 P (by omega) (by omega)
theorem normF_image {c : List (List Int)} {w : List Int} (hC : Cartan c) (hw : lettersOk c w = true) (hl : w.length ≤ 30) : imageOf c (normF c w) = imageOf c w := by
  obtain ⟨n, hn, P⟩ := play_image hC hw (by omega)
  exact nf_image hC n _ 31 P (by omega) (by omega)
theorem normF_word {c : List (List Int)} {w : List Int} (h : isWord c w = true) : (normF c w).length ≤ 15 ∧ isWord c (normF c w) = true := by
  obtain ⟨hC, hl, hw⟩ := word_cartan h
  have h1 := normF_len hC hw (by omega)
  have h2 := normF_letters hC hw (by omega)
  refine ⟨by omega, ?_⟩
  simp only [isWord, Bool.and_eq_true, decide_eq_true_eq]
  exact ⟨⟨(isCartan_iff c).2 hC, by omega⟩, h2⟩
theorem actW_app (c : List (List Int)) : ∀ (a b v : List Int), actW c (a ++ b) v = actW c a (actW c b v)
  | [], _, _ => rfl
  | i :: a, b, v => by rw [List.cons_append, actW, actW, actW_app c a b v]
theorem image_app (c : List (List Int)) (a b : List Int) : imageOf c (a ++ b) = actW c a (imageOf c b) := actW_app c a b _
theorem normF_app {c : List (List Int)} {a b : List Int} (hC : Cartan c) (hb : lettersOk c b = true) (hl : b.length ≤ 30) : normF c (a ++ normF c b) = normF c (a ++ b) := by
  unfold normF
  rw [image_app, image_app]
  have := normF_image hC hb hl
  unfold normF at this
  rw [this]
theorem normF_le (c : List (List Int)) (w : List Int) : (normF c w).length ≤ 31 := by
  have : ∀ (f : Nat) (v : List Int), (nf c f v).length ≤ f := by
    intro f
    induction f with
    | zero => intro v; rw [nf_zero]; exact Nat.le_refl _
    | succ f ih =>
      intro v
      rw [nf]
      split
      · have := ih (reflW c (fd v) v)
        simp only [List.length_cons]
        omega
      · simp
  exact this 31 _
theorem normalForm_le (c : List (List Int)) (w : List Int) : (normalForm c w).length ≤ 31 := by
  unfold normalForm
  split
  · exact normF_le _ _
  · simp
theorem mul_le (c : List (List Int)) (a b : List Int) : (mul c a b).length ≤ 31 := by
  unfold mul
  split
  · exact normF_le _ _
  · simp
theorem conj_le (c : List (List Int)) (a b : List Int) : (conj c a b).length ≤ 31 := by
  unfold conj
  split
  · exact mul_le _ _ _
  · simp
theorem lettersOk_rev (c : List (List Int)) (w : List Int) : lettersOk c w.reverse = lettersOk c w := by simp [lettersOk]
theorem isWord_rev (c : List (List Int)) (w : List Int) : isWord c w.reverse = isWord c w := by simp [isWord, lettersOk_rev]

theorem normalForm_off {c : List (List Int)} {w : List Int} (h : isWord c w = false) : normalForm c w = [] := by simp [normalForm, h]
theorem normalForm_on {c : List (List Int)} {w : List Int} (h : isWord c w = true) : normalForm c w = normF c w := by simp [normalForm, h]
theorem lengthI_off {c : List (List Int)} {w : List Int} (h : isWord c w = false) : lengthI c w = -1 := by simp [lengthI, h]
theorem lengthI_on {c : List (List Int)} {w : List Int} (h : isWord c w = true) : lengthI c w = ((normF c w).length : Int) := by simp [lengthI, h]
theorem isReduced_of (c : List (List Int)) (w : List Int) : (lengthI c w == (w.length : Int)) = isReduced c w := by
  cases h : isWord c w
  · rw [lengthI_off h]
    simp only [isReduced, h, Bool.false_and, beq_eq_false_iff_ne]
    omega
  · rw [lengthI_on h]
    simp only [isReduced, h, Bool.true_and]
    by_cases e : (normF c w).length = w.length
    · simp [e]
    · simp [e]
      omega
theorem isReduced_len {c : List (List Int)} {w : List Int} (h : isWord c w = true) : (((normF c w).length : Int) == (w.length : Int)) = isReduced c w := by
  rw [← isReduced_of, lengthI_on h]
theorem isReduced_off {c : List (List Int)} {w : List Int} (h : isWord c w = false) : isReduced c w = false := by simp [isReduced, h]
theorem isElement_off {c : List (List Int)} {w : List Int} (h : isWord c w = false) : isElement c w = false := by simp [isElement, h]
theorem isElement_on {c : List (List Int)} {w : List Int} (h : isWord c w = true) : isElement c w = decide (normF c w = w) := by simp [isElement, h]
theorem mulOk_off {c : List (List Int)} {a b : List Int} (h : isWord c a = false ∨ isWord c b = false) : mulOk c a b = false := by
  rcases h with h | h <;> simp [mulOk, h]
theorem mulOk_on {c : List (List Int)} {a b : List Int} (h : isWord c a = true) (h2 : isWord c b = true) : mulOk c a b = decide ((normF c (a ++ b)).length ≤ 15) := by simp [mulOk, h, h2]
theorem mul_off {c : List (List Int)} {a b : List Int} (h : mulOk c a b = false) : mul c a b = [] := by simp [mul, h]
theorem mul_on {c : List (List Int)} {a b : List Int} (h : mulOk c a b = true) : mul c a b = normF c (a ++ b) := by simp [mul, h]
theorem conj_off {c : List (List Int)} {w b : List Int} (h : mulOk c b.reverse w = false) : conjOk c w b = false ∧ conj c w b = [] := by simp [conj, conjOk, h]
theorem conj_on {c : List (List Int)} {w b : List Int} (h : mulOk c b.reverse w = true) : conjOk c w b = mulOk c (mul c b.reverse w) b ∧ conj c w b = mul c (mul c b.reverse w) b := by
  have e : conjOk c w b = mulOk c (mul c b.reverse w) b := by simp [conjOk, h]
  refine ⟨e, ?_⟩
  unfold conj
  rw [e]
  cases h2 : mulOk c (mul c b.reverse w) b
  · rw [mul_off h2]
    rfl
  · rfl
theorem isInvol_off {c : List (List Int)} {w : List Int} (h : isWord c w = false) : isInvol c w = false := by simp [isInvol, h]
theorem isInvol_on {c : List (List Int)} {w : List Int} (h : isWord c w = true) (h2 : 0 < (normF c w).length) : isInvol c w = decide (imageOf c w = imageOf c w.reverse) := by simp [isInvol, h, h2]
theorem isInvol_none {c : List (List Int)} {w : List Int} (h2 : ¬ 0 < (normF c w).length) : isInvol c w = false := by simp [isInvol, h2]
theorem commute_self {c : List (List Int)} {w : List Int} (h : isWord c w = true) : commute c w w = true := by simp [commute, h]
theorem areSame_rev {c : List (List Int)} {w : List Int} (h : isWord c w = true) : areSame c w w.reverse = decide (imageOf c w = imageOf c w.reverse) := by
  have := (isWord_rev c w).trans h
  simp [areSame, h, this]

/-- A slice and a Bool. -/
abbrev T2 (y : H0) (b : Bool) : HV := .tup [y, .pl (.bool b)]

set_option smartUnfolding false

theorem impl_lengthOf (h : Heap) (x0 : H0) (a0 : List (List Int)) (x1 : H0) (a1 : List Int) (hx0 : Rows h x0 a0) (hx1 : Ints h x1 a1) (hC : Cartan a0) (hw : lettersOk a0 a1 = true) (s1 : a1.length ≤ 30) :
    HCalls dm Tryz.prog 161 [.s x0, .s x1] h (fun r h' => r = I (normF a0 a1).length ∧ Ext h h') := by
  refine calls_of_hFun (m := 0) kd_ok mixed Tryz.func161 rfl (by kernel_rfl) rfl rfl (of_decide_eq_true rfl) ?_; unfold hFun; (conv => whnf)
  refine (impl_reduced _ _ a0 _ a1 hx0 hx1 hC hw s1).mono ?_
  rintro r h1 ⟨y1, rfl, f1⟩
  (conv => whnf)
  refine ⟨rfl, f1.ints.len ?_⟩
  (conv => whnf)
  exact ⟨rfl, f1.1⟩

theorem spec_NormalForm (h : Heap) (x0 : H0) (a0 : List (List Int)) (x1 : H0) (a1 : List Int) (hx0 : Rows h x0 a0) (hx1 : Ints h x1 a1) (s0 : a0.length ≤ 1048576 ∧ tot a0 ≤ 1048576) (s1 : a1.length ≤ 1048576) :
    HCalls dm Tryz.prog 88 [.s x0, .s x1] h (fun r h' => ∃ y, r = T2 y (isWord a0 a1) ∧ Fresh h h' y (normalForm a0 a1)) := by
  refine calls_of_hFun (m := 0) kd_ok mixed Tryz.func88 rfl (by kernel_rfl) rfl rfl (of_decide_eq_true rfl) ?_; unfold hFun; (conv => whnf)
  refine (spec_IsWord _ _ _ a0 a1 hx0 hx1 (by omega) (by omega)).mono ?_
  rintro r h1 ⟨rfl, rfl⟩
  (conv => whnf)
  cases hic : isWord a0 a1
  · (repeat (first | (refine ⟨rfl, Ints.len (by assumption) ?_⟩; conv => whnf) | (refine ⟨rfl, Rows.len (by assumption) ?_⟩; conv => whnf) | (refine ⟨rfl, HLen.sl ?_⟩; conv => whnf) | (refine ⟨rfl, At.load (by assumption) ?_⟩; conv => whnf) | (refine HIf.yes ?_; conv => whnf) | (refine HIf.no ?_; conv => whnf) | (refine HIf.isT (by assumption) ?_; conv => whnf) | (refine HIf.isF (by assumption) ?_; conv => whnf) | (refine HIf.decT (by assumption) ?_; conv => whnf) | (refine HIf.decF (by assumption) ?_; conv => whnf) | (refine HIf.beqT (by assumption) ?_; conv => whnf) | (refine HIf.beqF (by assumption) ?_; conv => whnf) | (refine HIf.bneT (by assumption) ?_; conv => whnf) | (refine HIf.bneF (by assumption) ?_; conv => whnf) | (refine ⟨rfl, Ints.idxN (by assumption) (by omega) (fun p hp => ?_)⟩; conv => whnf) | (refine ⟨rfl, Rows.idxN (by assumption) (by omega) (fun p y hp hy => ?_)⟩; conv => whnf) | (refine And.intro (show Kd.isBool _ = true from rfl) ?_; conv => whnf) | (refine ⟨rfl, Ints.idx (by assumption) (by omega) (by omega) (fun p hp => ?_)⟩; conv => whnf) | (refine ⟨rfl, Rows.idx (by assumption) (by omega) (by omega) (fun p y hp hy => ?_)⟩; conv => whnf) | (refine HArith.fits (by omega) (by omega) ?_; conv => whnf) | (refine Or.inl (And.intro (show Region.lexB _ _ = true by kernel_rfl) ?_); conv => whnf)))
    refine HLit.empty ?_
    (conv => whnf)
    exact ⟨_, rfl, Fresh.none _ (normalForm_off hic)⟩
  obtain ⟨hC, hl, hw⟩ := word_cartan hic
  rw [normalForm_on hic]
  (repeat (first | (refine ⟨rfl, Ints.len (by assumption) ?_⟩; conv => whnf) | (refine ⟨rfl, Rows.len (by assumption) ?_⟩; conv => whnf) | (refine ⟨rfl, HLen.sl ?_⟩; conv => whnf) | (refine ⟨rfl, At.load (by assumption) ?_⟩; conv => whnf) | (refine HIf.yes ?_; conv => whnf) | (refine HIf.no ?_; conv => whnf) | (refine HIf.isT (by assumption) ?_; conv => whnf) | (refine HIf.isF (by assumption) ?_; conv => whnf) | (refine HIf.decT (by assumption) ?_; conv => whnf) | (refine HIf.decF (by assumption) ?_; conv => whnf) | (refine HIf.beqT (by assumption) ?_; conv => whnf) | (refine HIf.beqF (by assumption) ?_; conv => whnf) | (refine HIf.bneT (by assumption) ?_; conv => whnf) | (refine HIf.bneF (by assumption) ?_; conv => whnf) | (refine ⟨rfl, Ints.idxN (by assumption) (by omega) (fun p hp => ?_)⟩; conv => whnf) | (refine ⟨rfl, Rows.idxN (by assumption) (by omega) (fun p y hp hy => ?_)⟩; conv => whnf) | (refine And.intro (show Kd.isBool _ = true from rfl) ?_; conv => whnf) | (refine ⟨rfl, Ints.idx (by assumption) (by omega) (by omega) (fun p hp => ?_)⟩; conv => whnf) | (refine ⟨rfl, Rows.idx (by assumption) (by omega) (by omega) (fun p y hp hy => ?_)⟩; conv => whnf) | (refine HArith.fits (by omega) (by omega) ?_; conv => whnf) | (refine Or.inl (And.intro (show Region.lexB _ _ = true by kernel_rfl) ?_); conv => whnf)))
  refine (spec_l8Normal _ _ a0 _ a1 hx0 hx1 hC hw (by omega)).mono ?_
  rintro r h1 ⟨y1, rfl, f1⟩
  (conv => whnf)
  exact ⟨_, rfl, f1⟩

theorem spec_LengthOf (h : Heap) (x0 : H0) (a0 : List (List Int)) (x1 : H0) (a1 : List Int) (hx0 : Rows h x0 a0) (hx1 : Ints h x1 a1) (s0 : a0.length ≤ 1048576 ∧ tot a0 ≤ 1048576) (s1 : a1.length ≤ 1048576) :
    HCalls dm Tryz.prog 31 [.s x0, .s x1] h (fun r h' => r = I (lengthI a0 a1) ∧ Ext h h') := by
  refine calls_of_hFun (m := 0) kd_ok mixed Tryz.func31 rfl (by kernel_rfl) rfl rfl (of_decide_eq_true rfl) ?_; unfold hFun; (conv => whnf)
  refine (spec_NormalForm _ _ a0 _ a1 hx0 hx1 s0 s1).mono ?_
  rintro r h1 ⟨y1, rfl, f1⟩
  (conv => whnf)
  cases hic : isWord a0 a1
  · rw [lengthI_off hic]
    (repeat (first | (refine ⟨rfl, Ints.len (by assumption) ?_⟩; conv => whnf) | (refine ⟨rfl, Rows.len (by assumption) ?_⟩; conv => whnf) | (refine ⟨rfl, HLen.sl ?_⟩; conv => whnf) | (refine ⟨rfl, At.load (by assumption) ?_⟩; conv => whnf) | (refine HIf.yes ?_; conv => whnf) | (refine HIf.no ?_; conv => whnf) | (refine HIf.isT (by assumption) ?_; conv => whnf) | (refine HIf.isF (by assumption) ?_; conv => whnf) | (refine HIf.decT (by assumption) ?_; conv => whnf) | (refine HIf.decF (by assumption) ?_; conv => whnf) | (refine HIf.beqT (by assumption) ?_; conv => whnf) | (refine HIf.beqF (by assumption) ?_; conv => whnf) | (refine HIf.bneT (by assumption) ?_; conv => whnf) | (refine HIf.bneF (by assumption) ?_; conv => whnf) | (refine ⟨rfl, Ints.idxN (by assumption) (by omega) (fun p hp => ?_)⟩; conv => whnf) | (refine ⟨rfl, Rows.idxN (by assumption) (by omega) (fun p y hp hy => ?_)⟩; conv => whnf) | (refine And.intro (show Kd.isBool _ = true from rfl) ?_; conv => whnf) | (refine ⟨rfl, Ints.idx (by assumption) (by omega) (by omega) (fun p hp => ?_)⟩; conv => whnf) | (refine ⟨rfl, Rows.idx (by assumption) (by omega) (by omega) (fun p y hp hy => ?_)⟩; conv => whnf) | (refine HArith.fits (by omega) (by omega) ?_; conv => whnf) | (refine Or.inl (And.intro (show Region.lexB _ _ = true by kernel_rfl) ?_); conv => whnf)))
    exact ⟨rfl, f1.1⟩
  rw [lengthI_on hic]
  rw [normalForm_on hic] at f1
  have hy := f1.ints
  (repeat (first | (refine ⟨rfl, Ints.len (by assumption) ?_⟩; conv => whnf) | (refine ⟨rfl, Rows.len (by assumption) ?_⟩; conv => whnf) | (refine ⟨rfl, HLen.sl ?_⟩; conv => whnf) | (refine ⟨rfl, At.load (by assumption) ?_⟩; conv => whnf) | (refine HIf.yes ?_; conv => whnf) | (refine HIf.no ?_; conv => whnf) | (refine HIf.isT (by assumption) ?_; conv => whnf) | (refine HIf.isF (by assumption) ?_; conv => whnf) | (refine HIf.decT (by assumption) ?_; conv => whnf) | (refine HIf.decF (by assumption) ?_; conv => whnf) | (refine HIf.beqT (by assumption) ?_; conv => whnf) | (refine HIf.beqF (by assumption) ?_; conv => whnf) | (refine HIf.bneT (by assumption) ?_; conv => whnf) | (refine HIf.bneF (by assumption) ?_; conv => whnf) | (refine ⟨rfl, Ints.idxN (by assumption) (by omega) (fun p hp => ?_)⟩; conv => whnf) | (refine ⟨rfl, Rows.idxN (by assumption) (by omega) (fun p y hp hy => ?_)⟩; conv => whnf) | (refine And.intro (show Kd.isBool _ = true from rfl) ?_; conv => whnf) | (refine ⟨rfl, Ints.idx (by assumption) (by omega) (by omega) (fun p hp => ?_)⟩; conv => whnf) | (refine ⟨rfl, Rows.idx (by assumption) (by omega) (by omega) (fun p y hp hy => ?_)⟩; conv => whnf) | (refine HArith.fits (by omega) (by omega) ?_; conv => whnf) | (refine Or.inl (And.intro (show Region.lexB _ _ = true by kernel_rfl) ?_); conv => whnf)))
  exact ⟨rfl, f1.1⟩

theorem impl_IsReduced (h : Heap) (x0 : H0) (a0 : List (List Int)) (x1 : H0) (a1 : List Int) (hx0 : Rows h x0 a0) (hx1 : Ints h x1 a1) (s0 : a0.length ≤ 1048576 ∧ tot a0 ≤ 1048576) (s1 : a1.length ≤ 1048576) :
    HCalls dm Tryz.prog 100 [.s x0, .s x1] h (fun r h' => r = B (isReduced a0 a1) ∧ Ext h h') := by
  refine calls_of_hFun (m := 0) kd_ok mixed Tryz.func100 rfl (by kernel_rfl) rfl rfl (of_decide_eq_true rfl) ?_; unfold hFun; (conv => whnf)
  refine (impl_IsWord _ _ _ a0 a1 hx0 hx1 (by omega) (by omega)).mono ?_
  rintro r h1 ⟨rfl, rfl⟩
  (conv => whnf)
  cases hic : isWord a0 a1
  · rw [isReduced_off hic]
    (repeat (first | (refine ⟨rfl, Ints.len (by assumption) ?_⟩; conv => whnf) | (refine ⟨rfl, Rows.len (by assumption) ?_⟩; conv => whnf) | (refine ⟨rfl, HLen.sl ?_⟩; conv => whnf) | (refine ⟨rfl, At.load (by assumption) ?_⟩; conv => whnf) | (refine HIf.yes ?_; conv => whnf) | (refine HIf.no ?_; conv => whnf) | (refine HIf.isT (by assumption) ?_; conv => whnf) | (refine HIf.isF (by assumption) ?_; conv => whnf) | (refine HIf.decT (by assumption) ?_; conv => whnf) | (refine HIf.decF (by assumption) ?_; conv => whnf) | (refine HIf.beqT (by assumption) ?_; conv => whnf) | (refine HIf.beqF (by assumption) ?_; conv => whnf) | (refine HIf.bneT (by assumption) ?_; conv => whnf) | (refine HIf.bneF (by assumption) ?_; conv => whnf) | (refine ⟨rfl, Ints.idxN (by assumption) (by omega) (fun p hp => ?_)⟩; conv => whnf) | (refine ⟨rfl, Rows.idxN (by assumption) (by omega) (fun p y hp hy => ?_)⟩; conv => whnf) | (refine And.intro (show Kd.isBool _ = true from rfl) ?_; conv => whnf) | (refine ⟨rfl, Ints.idx (by assumption) (by omega) (by omega) (fun p hp => ?_)⟩; conv => whnf) | (refine ⟨rfl, Rows.idx (by assumption) (by omega) (by omega) (fun p y hp hy => ?_)⟩; conv => whnf) | (refine HArith.fits (by omega) (by omega) ?_; conv => whnf) | (refine Or.inl (And.intro (show Region.lexB _ _ = true by kernel_rfl) ?_); conv => whnf)))
    exact ⟨rfl, Ext.refl _⟩
  obtain ⟨hC, hl, hw⟩ := word_cartan hic
  (repeat (first | (refine ⟨rfl, Ints.len (by assumption) ?_⟩; conv => whnf) | (refine ⟨rfl, Rows.len (by assumption) ?_⟩; conv => whnf) | (refine ⟨rfl, HLen.sl ?_⟩; conv => whnf) | (refine ⟨rfl, At.load (by assumption) ?_⟩; conv => whnf) | (refine HIf.yes ?_; conv => whnf) | (refine HIf.no ?_; conv => whnf) | (refine HIf.isT (by assumption) ?_; conv => whnf) | (refine HIf.isF (by assumption) ?_; conv => whnf) | (refine HIf.decT (by assumption) ?_; conv => whnf) | (refine HIf.decF (by assumption) ?_; conv => whnf) | (refine HIf.beqT (by assumption) ?_; conv => whnf) | (refine HIf.beqF (by assumption) ?_; conv => whnf) | (refine HIf.bneT (by assumption) ?_; conv => whnf) | (refine HIf.bneF (by assumption) ?_; conv => whnf) | (refine ⟨rfl, Ints.idxN (by assumption) (by omega) (fun p hp => ?_)⟩; conv => whnf) | (refine ⟨rfl, Rows.idxN (by assumption) (by omega) (fun p y hp hy => ?_)⟩; conv => whnf) | (refine And.intro (show Kd.isBool _ = true from rfl) ?_; conv => whnf) | (refine ⟨rfl, Ints.idx (by assumption) (by omega) (by omega) (fun p hp => ?_)⟩; conv => whnf) | (refine ⟨rfl, Rows.idx (by assumption) (by omega) (by omega) (fun p y hp hy => ?_)⟩; conv => whnf) | (refine HArith.fits (by omega) (by omega) ?_; conv => whnf) | (refine Or.inl (And.intro (show Region.lexB _ _ = true by kernel_rfl) ?_); conv => whnf)))
  refine (impl_lengthOf _ _ a0 _ a1 hx0 hx1 hC hw (by omega)).mono ?_
  rintro r h1 ⟨rfl, E⟩
  have hx11 := hx1.ext E
  (conv => whnf)
  (repeat (first | (refine ⟨rfl, Ints.len (by assumption) ?_⟩; conv => whnf) | (refine ⟨rfl, Rows.len (by assumption) ?_⟩; conv => whnf) | (refine ⟨rfl, HLen.sl ?_⟩; conv => whnf) | (refine ⟨rfl, At.load (by assumption) ?_⟩; conv => whnf) | (refine HIf.yes ?_; conv => whnf) | (refine HIf.no ?_; conv => whnf) | (refine HIf.isT (by assumption) ?_; conv => whnf) | (refine HIf.isF (by assumption) ?_; conv => whnf) | (refine HIf.decT (by assumption) ?_; conv => whnf) | (refine HIf.decF (by assumption) ?_; conv => whnf) | (refine HIf.beqT (by assumption) ?_; conv => whnf) | (refine HIf.beqF (by assumption) ?_; conv => whnf) | (refine HIf.bneT (by assumption) ?_; conv => whnf) | (refine HIf.bneF (by assumption) ?_; conv => whnf) | (refine ⟨rfl, Ints.idxN (by assumption) (by omega) (fun p hp => ?_)⟩; conv => whnf) | (refine ⟨rfl, Rows.idxN (by assumption) (by omega) (fun p y hp hy => ?_)⟩; conv => whnf) | (refine And.intro (show Kd.isBool _ = true from rfl) ?_; conv => whnf) | (refine ⟨rfl, Ints.idx (by assumption) (by omega) (by omega) (fun p hp => ?_)⟩; conv => whnf) | (refine ⟨rfl, Rows.idx (by assumption) (by omega) (by omega) (fun p y hp hy => ?_)⟩; conv => whnf) | (refine HArith.fits (by omega) (by omega) ?_; conv => whnf) | (refine Or.inl (And.intro (show Region.lexB _ _ = true by kernel_rfl) ?_); conv => whnf)))
  rw [← isReduced_len hic]
  exact ⟨rfl, E⟩

theorem spec_IsReduced (h : Heap) (x0 : H0) (a0 : List (List Int)) (x1 : H0) (a1 : List Int) (hx0 : Rows h x0 a0) (hx1 : Ints h x1 a1) (s0 : a0.length ≤ 1048576 ∧ tot a0 ≤ 1048576) (s1 : a1.length ≤ 1048576) :
    HCalls dm Tryz.prog 110 [.s x0, .s x1] h (fun r h' => r = B (isReduced a0 a1) ∧ Ext h h') := by
  refine calls_of_hFun (m := 0) kd_ok mixed Tryz.func110 rfl (by kernel_rfl) rfl rfl (of_decide_eq_true rfl) ?_; unfold hFun; (conv => whnf)
  refine (spec_LengthOf _ _ a0 _ a1 hx0 hx1 s0 s1).mono ?_
  rintro r h1 ⟨rfl, E⟩
  have hx11 := hx1.ext E
  (conv => whnf)
  (repeat (first | (refine ⟨rfl, Ints.len (by assumption) ?_⟩; conv => whnf) | (refine ⟨rfl, Rows.len (by assumption) ?_⟩; conv => whnf) | (refine ⟨rfl, HLen.sl ?_⟩; conv => whnf) | (refine ⟨rfl, At.load (by assumption) ?_⟩; conv => whnf) | (refine HIf.yes ?_; conv => whnf) | (refine HIf.no ?_; conv => whnf) | (refine HIf.isT (by assumption) ?_; conv => whnf) | (refine HIf.isF (by assumption) ?_; conv => whnf) | (refine HIf.decT (by assumption) ?_; conv => whnf) | (refine HIf.decF (by assumption) ?_; conv => whnf) | (refine HIf.beqT (by assumption) ?_; conv => whnf) | (refine HIf.beqF (by assumption) ?_; conv => whnf) | (refine HIf.bneT (by assumption) ?_; conv => whnf) | (refine HIf.bneF (by assumption) ?_; conv => whnf) | (refine ⟨rfl, Ints.idxN (by assumption) (by omega) (fun p hp => ?_)⟩; conv => whnf) | (refine ⟨rfl, Rows.idxN (by assumption) (by omega) (fun p y hp hy => ?_)⟩; conv => whnf) | (refine And.intro (show Kd.isBool _ = true from rfl) ?_; conv => whnf) | (refine ⟨rfl, Ints.idx (by assumption) (by omega) (by omega) (fun p hp => ?_)⟩; conv => whnf) | (refine ⟨rfl, Rows.idx (by assumption) (by omega) (by omega) (fun p y hp hy => ?_)⟩; conv => whnf) | (refine HArith.fits (by omega) (by omega) ?_; conv => whnf) | (refine Or.inl (And.intro (show Region.lexB _ _ = true by kernel_rfl) ?_); conv => whnf)))
  rw [← isReduced_of]
  exact ⟨rfl, E⟩

end Go.Proofs.YtgliajcgcbnemaaGreatDoor.Hx

namespace Go.Proofs.YtgliajcgcbnemaaGreatDoor.Hx
open Go.RowKit
variable {dm : Bool}

/-- A call in a region that draws its order: whatever it says of rows of one's own that it makes. -/
theorem HCallF.soft {P : Program} {k : FuncId} {args : List HV} {h : Heap} {K : HV → Heap → Prop} {Q : HV → Heap → Prop} (hc : HCalls dm P k args (freeze h) (fun r h' => Ext (freeze h) h' ∧ Q r h'))
    (hK : ∀ r h' h'', Q r h' → Ext (freeze h) h' → Ext h h'' → h''.length = h'.length → (∀ (q : Nat) (cs : List H0), h.length ≤ q → h'[q]? = some (Row.own cs) → h''[q]? = some (Row.own cs)) → K r h'') : HCallF dm P k args h K := by
  refine ⟨⟨hc.enters, fun B0 φ w vargs R a => (hc.out B0 φ w vargs R a).mono ?_⟩⟩
  rintro e w' ⟨v, x, h', φ', rfl, ⟨E, hq⟩, g2, g3, g4, g5⟩
  have hfl := freeze_length h
  have hEl := E.1
  have hget : ∀ (q : Nat) (x : Row), (freeze h ++ (h'.drop h.length).map softRow)[q]? = some x → x ≠ .gone → h'[q]? = some x := fun q x hx hne => by
    by_cases hq : q < h.length
    · rw [List.getElem?_append_left (by omega)] at hx
      rw [E.2 q (by omega)]
      exact hx
    · rw [List.getElem?_append_right (by omega), List.getElem?_map, List.getElem?_drop] at hx
      have e : h.length + (q - (freeze h).length) = q := by omega
      rw [e] at hx
      cases hh : h'[q]? with
      | none => rw [hh] at hx; cases hx
      | some z =>
        rw [hh] at hx
        cases z <;> simp [softRow] at hx
        · exact absurd hx.symm hne
        · rw [hx]
        · exact absurd hx.symm hne
        · rw [hx]
  refine ⟨v, x, freeze h ++ (h'.drop h.length).map softRow, φ', rfl, ⟨(h'.drop h.length).map softRow, rfl, fun z hz => ?_, hK x h' _ hq E (Ext.push _ _) (by simp; omega) (fun q cs hql hcs => ?_)⟩, g2, ?_, g4, g5⟩
  · obtain ⟨z0, _, rfl⟩ := List.mem_map.1 hz
    cases z0 <;> rfl
  · rw [List.getElem?_append_right (by omega), List.getElem?_map, List.getElem?_drop]
    have e : h.length + (q - h.length) = q := by omega
    rw [e, hcs]
    rfl
  · exact g3.soft (by simp; omega) (fun q cs hq => hget q _ hq (by simp)) (fun q cs hq => hget q _ hq (by simp)) (fun q so ks hq => hget q _ hq (by simp))

theorem HCallF.mat {P : Program} {k : FuncId} {args : List HV} {h : Heap} {K : HV → Heap → Prop} {L : List (List Int)} (hc : HCalls dm P k args (freeze h) (fun r h' => ∃ y, r = .s y ∧ Ext (freeze h) h' ∧ OwnM (freeze h).length h'.length h' y L))
    (hK : ∀ h' y, Ext h h' → OwnM h.length h'.length h' y L → K (.s y) h') : HCallF dm P k args h K := by
  refine HCallF.soft (Q := fun r h' => ∃ y, r = .s y ∧ OwnM (freeze h).length h'.length h' y L) (hc.mono fun r h' ⟨y, e, E, O⟩ => ⟨E, y, e, O⟩) ?_
  rintro r h' h'' ⟨y, rfl, q, ρ, rfl, g1, g2, g3, m⟩ E E2 hl hk
  rw [freeze_length] at g1
  refine hK _ _ E2 ⟨q, ρ, rfl, g1, by omega, fun i hi => ?_, m.move ?_ (fun i hi => ?_)⟩
  · have := g3 i hi
    rw [freeze_length] at this
    omega
  · obtain ⟨cs, h1, _⟩ := m.outer
    rw [h1]
    exact hk q cs g1 h1
  · obtain ⟨t, h1⟩ := m.inner i hi
    have := g3 i hi
    rw [freeze_length] at this
    rw [h1]
    exact hk _ _ this.1 h1

theorem HCallF.val {P : Program} {k : FuncId} {args : List HV} {h : Heap} {K : HV → Heap → Prop} {v : HV} (hc : HCalls dm P k args (freeze h) (fun r h' => r = v ∧ Ext (freeze h) h'))
    (hK : ∀ h', Ext h h' → K v h') : HCallF dm P k args h K := by
  refine HCallF.soft (Q := fun r _ => r = v) (hc.mono fun r h' ⟨e, E⟩ => ⟨E, e⟩) ?_
  rintro r h' h'' rfl _ E _ _
  exact hK _ E

theorem Rows.tl {h : Heap} {r off len : Nat} {L : List (List Int)} (H : Rows h (.sl r off len) L) (hl : 1 ≤ len) : Rows h (.sl r (off + 1) (len - 1)) (L.drop 1) := by
  obtain ⟨xs, h1, h2, h3⟩ := H
  have part : ∀ y, Shows h (.s y) (xs.drop 1) → Rows h y (L.drop 1) := fun y hy => ⟨xs.drop 1, hy, by simp; omega, fun i z l a b => h3 (1 + i) z l (by rw [List.getElem?_drop] at a; exact a) (by rw [List.getElem?_drop] at b; exact b)⟩
  generalize hxs : xs = X at h1 part h2
  cases h1 with
  | ro _ _ _ cs hr hl2 =>
    refine part _ ?_
    have := Shows.ro (h := h) r (off + 1) (len - 1) cs hr (by omega)
    rw [List.drop_take, List.drop_drop]
    exact this
  | own _ _ _ cs hr hl2 =>
    refine part _ ?_
    have := Shows.own (h := h) r (off + 1) (len - 1) cs hr (by omega)
    rw [List.drop_take, List.drop_drop]
    exact this

/-- A slice of slices without its first entry. -/
theorem Rows.drop1 {h : Heap} {x : H0} {L : List (List Int)} (H : Rows h x L) (hL : 1 ≤ L.length) {K : HV → Prop} (hK : ∀ y, (∀ h2, Rows h2 x L → Rows h2 y (L.drop 1)) → K (.s y)) : HSlice h (.s x) (some (I ((1 : Nat) : Int))) none K := by
  have H0 := H
  obtain ⟨xs, h1, h2, h3⟩ := H
  generalize hxs : xs = X at h1 h2
  cases h1 with
  | nils b c => simp at h2; omega
  | ro r off len cs hr hl =>
    have e : len = L.length := by simp at h2; omega
    exact ⟨len, 1, len, rfl, Or.inr ⟨.i64, rfl⟩, Or.inl ⟨rfl, rfl⟩, by omega, Or.inl (Nat.le_refl _), hK _ fun h2 H2 => H2.tl (by omega)⟩
  | own r off len cs hr hl =>
    have e : len = L.length := by simp at h2; omega
    exact ⟨len, 1, len, rfl, Or.inr ⟨.i64, rfl⟩, Or.inl ⟨rfl, rfl⟩, by omega, Or.inl (Nat.le_refl _), hK _ fun h2 H2 => H2.tl (by omega)⟩

/-! Bits -/

def bit (m i : Nat) : Bool := m / 2 ^ i % 2 == 1
def setTo (m k : Nat) : List Int := ((List.range k).filter (bit m)).map fun (i : Nat) => (i : Int)
def setB (m : Nat) : List Int := setTo m 4

theorem setTo_none (m : Nat) : setTo m 0 = [] := rfl
theorem setTo_len (m k : Nat) : (setTo m k).length ≤ k := by
  have := List.length_filter_le (bit m) (List.range k)
  simp [setTo] at this ⊢
  exact this
theorem setTo_in {m k : Nat} (h : bit m k = true) : setTo m (k + 1) = setTo m k ++ [(k : Int)] := by
  unfold setTo
  rw [List.range_succ, List.filter_append, List.map_append, List.filter_cons_of_pos h, List.filter_nil]
  rfl
theorem setTo_out {m k : Nat} (h : bit m k = false) : setTo m (k + 1) = setTo m k := by
  unfold setTo
  rw [List.range_succ, List.filter_append, List.map_append, List.filter_cons_of_neg (by rw [h]; decide), List.filter_nil, List.map_nil, List.append_nil]
theorem setTo_all : ∀ i, i < 5 → ∀ m, m < 2 ^ i → setTo m i = setB m := by decide
def fitB (n m : Nat) : Bool := !((setB m).length == 0) && ((List.range (setB m).length).all fun k => decide (0 ≤ (setB m).getD k 0) && decide ((setB m).getD k 0 < (n : Nat))) && ((List.range (setB m).length).all fun k => k == 0 || decide ((setB m).getD (k - 1) 0 < (setB m).getD k 0))
theorem fitB_all : ((List.range 5).all fun n => (List.range (2 ^ n)).all fun m => m == 0 || fitB n m) = true := by decide
theorem setB_fits (n : Nat) (hn : n < 5) (m : Nat) (hm : m < 2 ^ n) (h1 : 1 ≤ m) : (setB m).length ≠ 0 ∧ (∀ k, k < (setB m).length → 0 ≤ (setB m).getD k 0 ∧ (setB m).getD k 0 < (n : Nat)) ∧ (∀ k, k < (setB m).length → k = 0 ∨ (setB m).getD (k - 1) 0 < (setB m).getD k 0) := by
  have h := List.all_eq_true.1 (List.all_eq_true.1 fitB_all n (List.mem_range.2 hn)) m (List.mem_range.2 hm)
  have h0 : (m == 0) = false := by simp; omega
  rw [h0, Bool.false_or] at h
  simp only [fitB, Bool.and_eq_true, Bool.not_eq_true', beq_eq_false_iff_ne] at h
  refine ⟨h.1.1, fun k hk => ?_, fun k hk => ?_⟩
  · have := List.all_eq_true.1 h.1.2 k (List.mem_range.2 hk)
    simpa only [Bool.and_eq_true, decide_eq_true_eq] using this
  · have := List.all_eq_true.1 h.2 k (List.mem_range.2 hk)
    simpa only [Bool.or_eq_true, beq_iff_eq, decide_eq_true_eq] using this
theorem shr_fact : ∀ m, m < 16 → ∀ i, i < 5 → ((m : Nat) : Int).fdiv (2 ^ (min ((i : Nat) : Int).toNat IntKind.i64.bits)) = ((m / 2 ^ i : Nat) : Int) := by decide
theorem and_fact : ∀ v, v < 16 → IntKind.i64.wrap ((BitVec.ofInt IntKind.i64.bits ((v : Nat) : Int) &&& BitVec.ofInt IntKind.i64.bits 1).toNat : Int) = ((v % 2 : Nat) : Int) := by decide
theorem shl_fact : ∀ n, n < 5 → IntKind.i64.wrap (1 * 2 ^ (min ((n : Nat) : Int).toNat IntKind.i64.bits)) = ((2 ^ n : Nat) : Int) := by decide

theorem HShl.one {n : Nat} {K : HV → Prop} (hn : n < 5) (hK : K (I ((2 ^ n : Nat) : Int))) : HShl .i64 1 (n : Int) K := ⟨by omega, by rw [shl_fact n hn]; exact hK⟩
theorem HShr.bits {m i : Nat} {K : HV → Prop} (hm : m < 16) (hi : i < 5) (hK : K (I ((m / 2 ^ i : Nat) : Int))) : HShr .i64 (m : Int) (i : Int) K := ⟨by omega, by rw [shr_fact m hm i hi]; exact hK⟩
theorem HAnd.one {v : Nat} {K : HV → Prop} (hv : v < 16) (hK : K (I ((v % 2 : Nat) : Int))) : HAnd .i64 (v : Int) 1 K := ⟨by rw [and_fact v hv]; exact hK⟩
theorem bit_one {m i : Nat} : ((((m / 2 ^ i % 2 : Nat) : Int)) == 1) = bit m i := by
  unfold bit
  by_cases h : m / 2 ^ i % 2 = 1
  · simp [h]
  · have h2 : m / 2 ^ i % 2 = 0 := by omega
    simp [h2]
theorem pow_le16 {n : Nat} (h : n < 5) : 2 ^ n ≤ 16 := by
  have : 2 ^ n ≤ 2 ^ 4 := Nat.pow_le_pow_right (by omega) (by omega)
  simpa using this
theorem div_pos_iff {m i : Nat} : (((m / 2 ^ i : Nat) : Int) > 0) ↔ ¬ m < 2 ^ i := by
  have : 0 < 2 ^ i := Nat.pow_pos (by omega)
  constructor
  · intro h h2
    rw [Nat.div_eq_of_lt h2] at h
    omega
  · intro h
    have := Nat.div_pos (Nat.le_of_not_lt h) this
    omega

/-! Matrices of some points -/

def pickRow (c : List (List Int)) (o : List Int) (i : Nat) (k : Nat) : List Int := (List.range k).map fun b => ent c i (o.getD b 0).toNat
def pickTo (c : List (List Int)) (o : List Int) (k : Nat) : List (List Int) := (List.range k).map fun a => pickRow c o (o.getD a 0).toNat o.length
def pick (c : List (List Int)) (o : List Int) : List (List Int) := pickTo c o o.length
theorem pickRow_none (c : List (List Int)) (o : List Int) (i : Nat) : pickRow c o i 0 = [] := rfl
theorem pickTo_none (c : List (List Int)) (o : List Int) : pickTo c o 0 = [] := rfl
theorem pickRow_len (c : List (List Int)) (o : List Int) (i k : Nat) : (pickRow c o i k).length = k := by simp [pickRow]
theorem pickTo_len (c : List (List Int)) (o : List Int) (k : Nat) : (pickTo c o k).length = k := by simp [pickTo]
theorem pickRow_succ (c : List (List Int)) (o : List Int) (i k : Nat) : pickRow c o i (k + 1) = pickRow c o i k ++ [ent c i (o.getD k 0).toNat] := by
  unfold pickRow
  rw [List.range_succ, List.map_append]
  rfl
theorem pickTo_succ (c : List (List Int)) (o : List Int) (k : Nat) : pickTo c o (k + 1) = pickTo c o k ++ [pickRow c o (o.getD k 0).toNat o.length] := by
  unfold pickTo
  rw [List.range_succ, List.map_append]
  rfl

/-- A square matrix of small numbers. -/
structure Sq (n : Nat) (m : List (List Int)) : Prop where
  len : m.length = n
  row : ∀ i, i < n → (m.getD i []).length = n
  low : ∀ i j, i < n → j < n → -3 ≤ ent m i j ∧ ent m i j ≤ 3

theorem pick_sq {c : List (List Int)} {o : List Int} (hC : Cartan c) (ho : ∀ k, k < o.length → 0 ≤ o.getD k 0 ∧ o.getD k 0 < c.length) : Sq o.length (pick c o) := by
  have row : ∀ i, i < o.length → (pick c o).getD i [] = pickRow c o (o.getD i 0).toNat o.length := fun i hi => by simp [pick, pickTo, List.getD, hi]
  refine ⟨pickTo_len _ _ _, fun i hi => by rw [row i hi, pickRow_len], fun i j hi hj => ?_⟩
  have e : ent (pick c o) i j = ent c (o.getD i 0).toNat (o.getD j 0).toNat := by
    unfold ent
    rw [row i hi]
    simp [pickRow, List.getD, hj, ent]
  rw [e]
  have h1 := ho i hi
  have h2 := ho j hj
  by_cases hij : (o.getD i 0).toNat = (o.getD j 0).toNat
  · rw [← hij, (matOk hC).diag _ (by omega)]
    omega
  · have := (matOk hC).off (o.getD i 0).toNat (o.getD j 0).toNat (by omega) (by omega) hij
    omega

/-! Determinants -/

def sumTo (f : Nat → Int) : Nat → Int
  | 0 => 0
  | k + 1 => sumTo f k + f k
def minTo (m : List (List Int)) (j : Nat) (k : Nat) : List (List Int) := (List.range k).map fun t => del (m.getD (t + 1) []) (j : Nat)
def sg (j : Nat) : Int := if j % 2 = 0 then 1 else -1
def detZ : Nat → List (List Int) → Int
  | 0, _ => 1
  | n + 1, m => sumTo (fun j => sg j * (ent m 0 j * detZ n (minTo m j n))) (n + 1)
def term (n : Nat) (m : List (List Int)) (j : Nat) : Int := sg j * (ent m 0 j * detZ n (minTo m j n))
theorem detZ_succ (n : Nat) (m : List (List Int)) : detZ (n + 1) m = sumTo (term n m) (n + 1) := rfl
theorem sumTo_none (f : Nat → Int) : sumTo f 0 = 0 := rfl
theorem sumTo_succ (f : Nat → Int) (k : Nat) : sumTo f (k + 1) = sumTo f k + f k := rfl
theorem sg_zero : sg 0 = 1 := rfl
theorem sg_succ (j : Nat) : sg (j + 1) = - sg j := by
  unfold sg
  by_cases h : j % 2 = 0
  · rw [if_pos h, if_neg (by omega)]
  · rw [if_neg h, if_pos (by omega)]
    rfl
theorem sg_cases (j : Nat) : sg j = 1 ∨ sg j = -1 := by
  unfold sg
  split
  · exact Or.inl rfl
  · exact Or.inr rfl
theorem minTo_none (m : List (List Int)) (j : Nat) : minTo m j 0 = [] := rfl
theorem minTo_len (m : List (List Int)) (j k : Nat) : (minTo m j k).length = k := by simp [minTo]
theorem minTo_succ (m : List (List Int)) (j k : Nat) : minTo m j (k + 1) = minTo m j k ++ [del (m.getD (k + 1) []) (j : Nat)] := by
  unfold minTo
  rw [List.range_succ, List.map_append]
  rfl
theorem min_sq {n j : Nat} {m : List (List Int)} (S : Sq (n + 1) m) (hj : j < n + 1) : Sq n (minTo m j n) := by
  have row : ∀ i, i < n → (minTo m j n).getD i [] = del (m.getD (i + 1) []) (j : Nat) := fun i hi => by simp [minTo, List.getD, hi]
  have dl : ∀ i, i < n → (del (m.getD (i + 1) []) (j : Nat)).length = n := fun i hi => by
    have := S.row (i + 1) (by omega)
    rw [del_at]
    simp only [List.length_append, List.length_take, List.length_drop]
    omega
  refine ⟨minTo_len _ _ _, fun i hi => by rw [row i hi]; exact dl i hi, fun i k hi hk => ?_⟩
  have hr := S.row (i + 1) (by omega)
  have hr' : (m[i + 1]?.getD []).length = n + 1 := hr
  have e : ent (minTo m j n) i k = if k < j then ent m (i + 1) k else ent m (i + 1) (k + 1) := by
    unfold ent
    rw [row i hi, del_at]
    split
    · rename_i h
      simp only [List.getD]
      rw [List.getElem?_append_left (by simp; omega), List.getElem?_take_of_lt h]
    · rename_i h
      simp only [List.getD]
      rw [List.getElem?_append_right (by simp; omega), List.getElem?_drop]
      congr 2
      simp only [List.length_take]
      have : min j (m[i + 1]?.getD []).length = j := by
        have : (m[i + 1]?.getD []).length = n + 1 := hr
        omega
      rw [this]
      omega
  rw [e]
  split
  · exact S.low _ _ (by omega) (by omega)
  · exact S.low _ _ (by omega) (by omega)
theorem mul_small {x d : Int} {b : Nat} (h1 : -3 ≤ x ∧ x ≤ 3) (h2 : -(b : Int) ≤ d ∧ d ≤ b) : -(3 * b : Int) ≤ x * d ∧ x * d ≤ 3 * b := by
  have : x = -3 ∨ x = -2 ∨ x = -1 ∨ x = 0 ∨ x = 1 ∨ x = 2 ∨ x = 3 := by omega
  rcases this with h | h | h | h | h | h | h <;> subst h <;> omega
theorem sg_mul {s x : Int} (h : s = 1 ∨ s = -1) : s * x = x ∨ s * x = -x := by
  rcases h with h | h <;> subst h <;> omega
def detB : Nat → Nat
  | 0 => 1
  | n + 1 => (n + 1) * (3 * detB n)
theorem detB_mono : detB 0 = 1 ∧ detB 1 = 3 ∧ detB 2 = 18 ∧ detB 3 = 162 ∧ detB 4 = 1944 := by decide
theorem sumTo_small {f : Nat → Int} {b : Nat} : ∀ k, (∀ j, j < k → -(b : Int) ≤ f j ∧ f j ≤ b) → -((k * b : Nat) : Int) ≤ sumTo f k ∧ sumTo f k ≤ ((k * b : Nat) : Int)
  | 0, _ => by simp [sumTo]
  | k + 1, h => by
    have h1 := sumTo_small k (fun j hj => h j (by omega))
    have h2 := h k (by omega)
    have e : (k + 1) * b = k * b + b := Nat.succ_mul k b
    rw [sumTo, e]
    generalize k * b = q at *
    omega
theorem detZ_small : ∀ (n : Nat) (m : List (List Int)), Sq n m → -(detB n : Int) ≤ detZ n m ∧ detZ n m ≤ detB n
  | 0, m, _ => by simp [detZ, detB]
  | n + 1, m, S => by
    have h := sumTo_small (f := term n m) (b := 3 * detB n) (n + 1) (fun j hj => by
      have h1 := detZ_small n _ (min_sq S hj)
      have h2 := mul_small (S.low 0 j (by omega) hj) h1
      rcases sg_mul (x := ent m 0 j * detZ n (minTo m j n)) (sg_cases j) with e | e <;> unfold term <;> rw [e] <;> omega)
    exact h
theorem term_small {n : Nat} {m : List (List Int)} (hn : n < 4) (S : Sq (n + 1) m) {j : Nat} (hj : j < n + 1) : (-162 ≤ detZ n (minTo m j n) ∧ detZ n (minTo m j n) ≤ 162) ∧ (-486 ≤ ent m 0 j * detZ n (minTo m j n) ∧ ent m 0 j * detZ n (minTo m j n) ≤ 486) ∧ (-486 ≤ term n m j ∧ term n m j ≤ 486) := by
  have h1 := detZ_small n _ (min_sq S hj)
  have hb := detB_mono
  have h3 : n = 0 ∨ n = 1 ∨ n = 2 ∨ n = 3 := by omega
  have h4 : detB n ≤ 162 := by rcases h3 with e | e | e | e <;> subst e <;> omega
  have h2 := mul_small (S.low 0 j (by omega) hj) h1
  refine ⟨by omega, by omega, ?_⟩
  rcases sg_mul (x := ent m 0 j * detZ n (minTo m j n)) (sg_cases j) with e | e <;> unfold term <;> rw [e] <;> omega
theorem sum_small {n : Nat} {m : List (List Int)} (hn : n < 4) (S : Sq (n + 1) m) {k : Nat} (hk : k ≤ n + 1) : -1944 ≤ sumTo (term n m) k ∧ sumTo (term n m) k ≤ 1944 := by
  have h := sumTo_small (f := term n m) (b := 486) k (fun j hj => (term_small hn S (by omega)).2.2)
  omega

def dt (c : List (List Int)) (m : Nat) : Int := detZ (setB m).length (pick c (setB m))
def allPos (c : List (List Int)) : Bool := (List.range (2 ^ c.length - 1)).all fun k => decide (0 < dt c (k + 1))
def isFinite (c : List (List Int)) : Bool := isCartan c && allPos c
theorem allPos_of {c : List (List Int)} (h : ∀ k, k < 2 ^ c.length - 1 → 0 < dt c (k + 1)) : allPos c = true :=
  List.all_eq_true.2 fun k hk => decide_eq_true (h k (List.mem_range.1 hk))
theorem allPos_not {c : List (List Int)} {k : Nat} (hk : k < 2 ^ c.length - 1) (h : dt c (k + 1) ≤ 0) : allPos c = false := by
  rw [Bool.eq_false_iff]
  intro ha
  have := of_decide_eq_true (List.all_eq_true.1 ha k (List.mem_range.2 hk))
  omega

end Go.Proofs.YtgliajcgcbnemaaGreatDoor.Hx
