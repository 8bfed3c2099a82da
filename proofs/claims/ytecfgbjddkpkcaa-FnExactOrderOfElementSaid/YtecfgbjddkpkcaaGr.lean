
/-
  Contracts of the normal form, of the program and of the reference.
-/
import Derived.Test.YtecfgbjddkpkcaaPc
namespace Go.Proofs.Ytecfgbjddkpkcaa.Hx
open Go.RowKit
variable {dm : Bool}

def fdI (v : List Int) : Int := if fd v < v.length then (fd v : Int) else -1
theorem fdI_at {v : List Int} {i : Nat} (hi : i < v.length) (h : v.getD i 0 < 0) (hb : ∀ k, k < i → 0 ≤ v.getD k 0) : fdI v = i := by
  unfold fdI
  rw [fd_at hi h hb, if_pos hi]
theorem fdI_none {v : List Int} (hb : ∀ k, k < v.length → 0 ≤ v.getD k 0) : fdI v = -1 := by
  unfold fdI
  rw [if_neg]
  intro h
  have h1 := fd_lt h
  have := hb _ h
  omega

/-- What is only read: it lay there before, or lies in a row of its own that is not row r. -/
def Rd (h0 : Heap) (r : Nat) (h : Heap) (y : H0) (u : List Int) : Prop := Ints h0 y u ∨ ∃ q, h0.length ≤ q ∧ q ≠ r ∧ OwnR q h y u

theorem Rd.ints {h0 h : Heap} {r : Nat} {y : H0} {u : List Int} (H : Rd h0 r h y u) (E : Ext h0 h) : Ints h y u := by
  rcases H with H | ⟨q, _, _, O⟩
  · exact H.ext E
  · exact O.ints
theorem Rd.but {h0 h h' : Heap} {r r' : Nat} {y : H0} {u : List Int} (H : Rd h0 r h y u) (B : But r h h') (hr : h.length ≤ r') : Rd h0 r' h' y u := by
  rcases H with H | ⟨q, h1, h2, O⟩
  · exact Or.inl H
  · have := O.lt
    exact Or.inr ⟨q, h1, by omega, O.but B h2⟩

def lenAt (vs : List HV) (k : Nat) : Nat := match vs[k]? with
  | some (.s (.sl _ _ n)) => n
  | _ => 0

def normF (c : List (List Int)) (w : List Int) : List Int := nf c 31 (imageOf c w)

/-- A step of the reduction, with fuel to spare. -/
theorem nf_next {c : List (List Int)} (hC : Cartan c) {m i : Nat} {u : List Int} (P : PlayL c (m + 1) u) (hm : m + 1 ≤ 30) (hi : i < u.length) (h : u.getD i 0 < 0) (hb : ∀ k, k < i → 0 ≤ u.getD k 0) :
    nf c 31 u = (i : Int) :: nf c 31 (reflW c i u) ∧ PlayL c m (reflW c i u) := by
  obtain ⟨m', e, P2⟩ := P.down hC hm (i := i) (by rw [← P.1]; exact hi) h
  have : m' = m := by omega
  subst this
  refine ⟨?_, P2⟩
  rw [nf_step hi h hb, nf_more hC m' _ 30 31 P2 (by omega) (by omega) (by omega)]
theorem play_neg {c : List (List Int)} (hC : Cartan c) {m i : Nat} {u : List Int} (P : PlayL c m u) (hm : m ≤ 30) (hi : i < u.length) (h : u.getD i 0 < 0) : ∃ m', m = m' + 1 := by
  obtain ⟨m', e, _⟩ := P.down hC hm (i := i) (by rw [← P.1]; exact hi) h
  exact ⟨m', e⟩


theorem impl_reflectedR (h0 h : Heap) (r : Nat) (x y : H0) (c : List (List Int)) (i : Nat) (v : List Int) (hx : Rows h0 x c) (E : Ext h0 h) (hr : h0.length ≤ r) (O : OwnR r h y v) (hC : Cartan c) (hi : i < c.length) (hl : v.length = c.length) :
    HCalls dm Try.prog 74 [.s x, I i, .s y] h (fun r' h' => r' = .tup [] ∧ But r h h' ∧ OwnR r h' y (reflW c i v)) := by
  have h4 := hC.le
  refine calls_of_hFun (m := 0) kd_ok mixed Try.func74 rfl (by kernel_rfl) rfl rfl (of_decide_eq_true rfl) ?_; unfold hFun; (conv => whnf)
  refine ⟨rfl, Ints.idxN O.ints (by omega) (fun p hp => ?_)⟩
  (conv => whnf)
  refine ⟨rfl, hp.load ?_⟩
  (conv => whnf)
  refine ⟨rfl, O.ints.len ?_⟩
  (conv => whnf)
  refine HLoop.intro [14] [15, 16, 7, 17, 18, 19, 20, 21, 22, 23, 24, 25, 26, 27, 28, 29, 30, 31, 32, 14] (by kernel_rfl) (by kernel_rfl) (fun vs h' => ∃ k : Nat, vs = [I k] ∧ k ≤ v.length ∧ But r h h' ∧ OwnR r h' y (reflTo c i v k)) (fun vs _ => v.length - natAt vs 0) ⟨0, rfl, by omega, But.refl _ _, by rw [reflTo_none]; exact O⟩ ?_
  rintro vs h' ⟨k, rfl, hk, B, O⟩
  have hx := hx.ext (E.but B hr)
  have hlen := reflTo_length c i v k
  (conv => whnf)
  refine HIf.dec (fun hlt => ?_) (fun hge => ?_)
  · have hrow := hC.row k (by omega)
    have hget := reflTo_get c i v k (by omega)
    have hsucc := reflTo_succ c i v k
    obtain ⟨cs, rfl, hq, hql, B2, O2⟩ := OwnR.store (v := reflNew c i v k) O (show k < (reflTo c i v k).length by omega)
    rw [hsucc] at O2
    (conv => whnf)
    refine Or.inr (Or.inl (Exists.intro 15 (And.intro (show Region.lexTailB _ _ _ = true by kernel_rfl) ?_))); (conv => whnf)
    refine ⟨rfl, Ints.idxN O.ints (by omega) (fun p hp => ?_)⟩
    rw [hget] at hp
    (conv => whnf)
    refine ⟨rfl, hp.load ?_⟩
    (conv => whnf)
    refine ⟨rfl, Rows.idxN hx (by omega) (fun p2 z hp2 hz => ?_)⟩
    (conv => whnf)
    refine ⟨rfl, hp2.load ?_⟩
    (conv => whnf)
    refine ⟨rfl, Ints.idxN hz (by omega) (fun p3 hp3 => ?_)⟩
    (conv => whnf)
    refine ⟨rfl, hp3.load ?_⟩
    rw [ent_eq]
    (conv => whnf)
    refine HArith.any ?_
    (conv => whnf)
    refine HArith.any ?_
    (conv => whnf)
    refine ⟨rfl, HIdx.sl (by omega) (by omega) ?_⟩
    (conv => whnf)
    have e0 : 0 + (k : Int).toNat = k := by omega
    rw [e0]
    refine ⟨rfl, HStore.own hq (by omega) rfl ?_⟩
    (conv => whnf)
    refine HArith.fits (by omega) (by omega) ?_
    (conv => whnf)
    exact ⟨⟨k + 1, rfl, by omega, B.trans B2, O2⟩, by show v.length - (k + 1) < v.length - k; omega⟩
  · have e : k = v.length := by omega
    subst e
    rw [reflTo_all] at O
    (conv => whnf)
    exact ⟨rfl, B, O⟩

theorem impl_firstDescent (h : Heap) (x : H0) (v : List Int) (hx : Ints h x v) (hv : v.length ≤ 1048576) : HCalls dm Try.prog 73 [.s x] h (fun r h' => r = I (fdI v) ∧ h' = h) := by
  refine calls_of_hFun (m := 0) kd_ok mixed Try.func73 rfl (by kernel_rfl) rfl rfl (of_decide_eq_true rfl) ?_; unfold hFun; (conv => whnf)
  refine ⟨rfl, hx.len ?_⟩
  (conv => whnf)
  refine HLoop.intro [7] [8, 9, 10, 11, 3, 4, 12, 13, 14, 2, 15, 7] (by kernel_rfl) (by kernel_rfl) (fun vs h' => ∃ i : Nat, vs = [I i] ∧ h' = h ∧ i ≤ v.length ∧ ∀ k, k < i → 0 ≤ v.getD k 0) (fun vs _ => v.length - natAt vs 0) ⟨0, rfl, rfl, by omega, fun k hk => by omega⟩ ?_
  rintro vs h' ⟨i, rfl, hh, hi, hb⟩
  subst h'
  (conv => whnf)
  refine HIf.dec (fun hlt => ?_) (fun hge => ?_)
  · (conv => whnf)
    refine ⟨rfl, Ints.idxN hx (by omega) (fun p hp => ?_)⟩
    (conv => whnf)
    refine ⟨rfl, hp.load ?_⟩
    (conv => whnf)
    refine HIf.dec (fun hneg => ?_) (fun hpos => ?_)
    · rw [fdI_at (by omega) hneg hb]
      (conv => whnf)
      exact ⟨rfl, rfl⟩
    · (conv => whnf)
      refine HArith.fits (by omega) (by omega) ?_
      (conv => whnf)
      refine ⟨⟨i + 1, rfl, rfl, by omega, fun k hk => ?_⟩, by show v.length - (i + 1) < v.length - i; omega⟩
      by_cases e : k = i
      · subst e; omega
      · exact hb k (by omega)
  · rw [fdI_none (fun k hk => hb k (by omega))]
    (conv => whnf)
    exact ⟨rfl, rfl⟩

theorem impl_normal (h : Heap) (x0 : H0) (a0 : List (List Int)) (x1 : H0) (v : List Int) (n : Nat) (hx0 : Rows h x0 a0) (hx1 : Ints h x1 v) (hC : Cartan a0) (P : PlayL a0 n v) (hn : n ≤ 30) :
    HCalls dm Try.prog 51 [.s x0, .s x1] h (fun r h' => ∃ y, r = .s y ∧ Fresh h h' y (nf a0 31 v)) := by
  have h4 := hC.le
  have hvl := P.1
  refine calls_of_hFun (m := 0) kd_ok mixed Try.func51 rfl (by kernel_rfl) rfl rfl (of_decide_eq_true rfl) ?_; unfold hFun; (conv => whnf)
  refine HLit.empty ?_
  (conv => whnf)
  refine ⟨rfl, rfl, HApp.copy hx1 (by omega) (fun h1 y1 E1 O1 => ?_)⟩
  obtain ⟨r2, hr2, hr2l, O2⟩ := O1.row
  have E2 := E1.trans (Ext.push h1 [Row.own []])
  have O3 := OwnR.push h1 []
  have hEl := E1.1
  (conv => whnf)
  refine HLit.empty ?_
  (conv => whnf)
  refine HLoop.intro [5] [11, 12, 6, 13, 14, 15, 4, 16, 17, 18, 19, 5, 20, 21, 22, 23] (by kernel_rfl) (by kernel_rfl) (fun vs h' => ∃ (z : H0) (r1 : Nat) (u l : List Int) (m : Nat), vs = [.s z] ∧ Ext h h' ∧ h.length ≤ r1 ∧ r1 ≠ r2 ∧ OwnR r1 h' z l ∧ OwnR r2 h' y1 u ∧ PlayL a0 m u ∧ m + l.length ≤ 30 ∧ l ++ nf a0 31 u = nf a0 31 v) (fun vs _ => 31 - lenAt vs 0) ⟨_, h1.length, v, [], n, rfl, E2, hEl, by omega, O3, O2.ext (Ext.push _ _), P, by simpa using hn, rfl⟩ ?_
  rintro vs h' ⟨z, r1, u, l, m, rfl, E, hr1, hne, Oz, Oy, Pu, hml, hl⟩
  have hul := Pu.1
  (conv => whnf)
  refine (impl_firstDescent _ _ u Oy.ints (by omega)).mono ?_
  rintro r h3 ⟨rfl, hh⟩
  subst h3
  (conv => whnf)
  by_cases hf : fd u < u.length
  · have hneg := fd_lt hf
    have hb : ∀ k, k < fd u → 0 ≤ u.getD k 0 := fun k hk => by
      have hk2 : k < u.length := by omega
      have := List.not_of_lt_findIdx (xs := u) (p := fun x => decide (x < 0)) (i := k) hk
      simp only [List.getD, List.getElem?_eq_getElem hk2, Option.getD_some]
      simp at this
      omega
    obtain ⟨m, rfl⟩ := play_neg hC Pu (by omega) hf hneg
    obtain ⟨hnx, P2⟩ := nf_next hC Pu (by omega) hf hneg hb
    rw [fdI_at hf hneg hb]
    generalize fd u = i at *
    rw [hnx] at hl
    refine HIf.decF (by omega) ?_
    (conv => whnf)
    refine HLit.one ?_
    (conv => whnf)
    refine ⟨rfl, rfl, HApp.snocR Oz (by omega) (fun h3 r3 y3 B3 hr3 O3 => ?_)⟩
    have := Oy.lt
    have := E.1
    (conv => whnf)
    refine (impl_reflectedR h _ r2 _ _ a0 i u hx0 (E.but B3 hr1) hr2 (Oy.but B3 (Ne.symm hne)) hC (by omega) hul).mono ?_
    rintro r h5 ⟨rfl, B5, O5⟩
    have hzl : z = .sl r1 0 l.length := by obtain ⟨t, e, _⟩ := Oz; exact e
    have hyl : y3 = .sl r3 0 (l ++ [(i : Int)]).length := by obtain ⟨t, e, _⟩ := O3; exact e
    (conv => whnf)
    refine ⟨⟨y3, r3, reflW a0 i u, l ++ [(i : Int)], m, rfl, (E.but B3 hr1).but B5 hr2, by omega, by omega, O3.but B5 (by omega), O5, P2, by simp; omega, by rw [List.append_assoc]; exact hl⟩, ?_⟩
    subst hzl
    subst hyl
    show 31 - (l ++ [(i : Int)]).length < 31 - l.length
    simp
    omega
  · have hb := fd_end hf
    rw [fdI_none hb]
    rw [nf_stop hb, List.append_nil] at hl
    refine HIf.decT (by omega) ?_
    (conv => whnf)
    rw [← hl]
    exact ⟨_, rfl, Fresh.ofRow E Oz hr1⟩

theorem impl_reduced (h : Heap) (x0 : H0) (a0 : List (List Int)) (x1 : H0) (a1 : List Int) (hx0 : Rows h x0 a0) (hx1 : Ints h x1 a1) (hC : Cartan a0) (hw : lettersOk a0 a1 = true) (s1 : a1.length ≤ 30) :
    HCalls dm Try.prog 40 [.s x0, .s x1] h (fun r h' => ∃ y, r = .s y ∧ Fresh h h' y (normF a0 a1)) := by
  obtain ⟨n, hn, P⟩ := play_image hC hw (by omega)
  refine calls_of_hFun (m := 0) kd_ok mixed Try.func40 rfl (by kernel_rfl) rfl rfl (of_decide_eq_true rfl) ?_; unfold hFun; (conv => whnf)
  refine (impl_image _ _ a0 _ a1 hx0 hx1 hC hw (by omega)).mono ?_
  rintro r h1 ⟨y1, rfl, f1⟩
  (conv => whnf)
  refine (impl_normal _ _ a0 _ _ n (hx0.ext f1.1) f1.ints hC P (by omega)).mono ?_
  rintro r h2 ⟨y2, rfl, f2⟩
  have hz := Fresh.inner f1.1 f2
  (conv => whnf)
  exact ⟨_, rfl, Fresh.of hz.1 hz.2⟩

theorem spec_l8Form (h : Heap) (x0 : H0) (a0 : List (List Int)) (x1 : H0) (v : List Int) (n : Nat) (hx0 : Rows h x0 a0) (hx1 : Ints h x1 v) (hC : Cartan a0) (P : PlayL a0 n v) (hn : n ≤ 30) :
    HCalls dm Try.prog 25 [.s x0, .s x1] h (fun r h' => ∃ y, r = .s y ∧ Fresh h h' y (nf a0 31 v)) := by
  have h4 := hC.le
  have hvl := P.1
  have E0 := Ext.push h [Row.own []]
  have O0 := OwnR.push h []
  refine calls_of_hFun (m := 0) kd_ok mixed Try.func25 rfl (by kernel_rfl) rfl rfl (of_decide_eq_true rfl) ?_; unfold hFun; (conv => whnf)
  refine HLit.empty ?_
  (conv => whnf)
  refine HLoop.intro [6, 1, 5] [9, 10, 7, 13, 14, 15, 16, 17, 18, 19, 20, 21, 22, 23, 24, 25, 7, 26, 27, 28, 29, 30, 4, 31, 32, 33, 34, 5, 35, 36, 37, 38, 1, 11, 12, 6] (by kernel_rfl) (by kernel_rfl) (fun vs h' => ∃ (k : Nat) (z : H0) (r1 : Nat) (y : H0) (u l : List Int) (m : Nat), vs = [I k, .s y, .s z] ∧ Ext h h' ∧ h.length ≤ r1 ∧ OwnR r1 h' z l ∧ Rd h r1 h' y u ∧ PlayL a0 m u ∧ m + k ≤ 30 ∧ l.length = k ∧ l ++ nf a0 31 u = nf a0 31 v) (fun vs _ => 31 - natAt vs 0) ⟨0, _, h.length, x1, v, [], n, rfl, E0, Nat.le_refl _, O0, Or.inl hx1, P, hn, rfl, rfl⟩ ?_
  rintro vs h' ⟨k, z, r1, y, u, l, m, rfl, E, hr1, Oz, Ry, Pu, hmk, hlk, hl⟩
  have hul := Pu.1
  have hx00 := hx0
  have hx0 := hx0.ext E
  have hy := Ry.ints E
  (conv => whnf)
  refine HIf.decT (by omega) ?_
  (conv => whnf)
  refine HLoop.intro [7] [13, 14, 15, 16, 17, 18, 19, 20, 21, 22, 23, 24, 25, 7] (by kernel_rfl) (by kernel_rfl) (fun vs h2 => ∃ i : Nat, vs = [I i] ∧ h2 = h' ∧ i ≤ u.length ∧ ∀ t, t < i → 0 ≤ u.getD t 0) (fun vs _ => u.length - natAt vs 0) ⟨0, rfl, rfl, by omega, fun k hk => by omega⟩ ?_
  rintro vs h2 ⟨i, rfl, hh, hi, hb⟩
  subst h2
  have out : i = u.length → nf a0 31 v = l := fun e => by
    subst e
    rw [nf_stop hb, List.append_nil] at hl
    exact hl.symm
  have huy := hy
  (conv => whnf)
  refine ⟨rfl, hy.len ?_⟩
  (conv => whnf)
  refine HIf.dec (fun hlt => ?_) (fun hge => ?_)
  · (conv => whnf)
    (repeat (first | (refine ⟨rfl, Ints.len (by assumption) ?_⟩; conv => whnf) | (refine ⟨rfl, Rows.len (by assumption) ?_⟩; conv => whnf) | (refine ⟨rfl, HLen.sl ?_⟩; conv => whnf) | (refine ⟨rfl, At.load (by assumption) ?_⟩; conv => whnf) | (refine HIf.yes ?_; conv => whnf) | (refine HIf.no ?_; conv => whnf) | (refine HIf.isT (by assumption) ?_; conv => whnf) | (refine HIf.isF (by assumption) ?_; conv => whnf) | (refine HIf.decT (by assumption) ?_; conv => whnf) | (refine HIf.decF (by assumption) ?_; conv => whnf) | (refine HIf.beqT (by assumption) ?_; conv => whnf) | (refine HIf.beqF (by assumption) ?_; conv => whnf) | (refine HIf.bneT (by assumption) ?_; conv => whnf) | (refine HIf.bneF (by assumption) ?_; conv => whnf) | (refine ⟨rfl, Ints.idxN (by assumption) (by omega) (fun p hp => ?_)⟩; conv => whnf) | (refine ⟨rfl, Rows.idxN (by assumption) (by omega) (fun p y hp hy => ?_)⟩; conv => whnf) | (refine And.intro (show Kd.isBool _ = true from rfl) ?_; conv => whnf) | (refine ⟨rfl, Ints.idx (by assumption) (by omega) (by omega) (fun p hp => ?_)⟩; conv => whnf) | (refine ⟨rfl, Rows.idx (by assumption) (by omega) (by omega) (fun p y hp hy => ?_)⟩; conv => whnf) | (refine HArith.fits (by omega) (by omega) ?_; conv => whnf) | (refine Or.inl (And.intro (show Region.lexB _ _ = true by kernel_rfl) ?_); conv => whnf)))
    refine HIf.dec (fun hpos => ?_) (fun hneg0 => ?_)
    · (conv => whnf)
      refine HArith.fits (by omega) (by omega) ?_
      (conv => whnf)
      refine ⟨⟨i + 1, rfl, rfl, by omega, fun t ht => ?_⟩, by show u.length - (i + 1) < u.length - i; omega⟩
      by_cases e : t = i
      · subst e; omega
      · exact hb t (by omega)
    · have hne := Pu.ne hC (i := i) (by omega)
      have hneg : u.getD i 0 < 0 := by omega
      obtain ⟨m, rfl⟩ := play_neg hC Pu (by omega) (by omega) hneg
      obtain ⟨hnx, P2⟩ := nf_next hC Pu (by omega) (by omega) hneg hb
      rw [hnx] at hl
      (conv => whnf)
      refine ⟨rfl, hy.len ?_⟩
      (conv => whnf)
      refine HIf.beqF (by omega) ?_
      (conv => whnf)
      refine HLit.one ?_
      (conv => whnf)
      refine ⟨rfl, rfl, HApp.snocR Oz (by omega) (fun h3 r3 y3 B3 hr3 O3 => ?_)⟩
      have hE := E.1
      have R3 := Ry.but B3 hr3
      have E3 := E.but B3 hr1
      (conv => whnf)
      refine (spec_l6Reflect _ _ _ a0 i u (hx00.ext E3) (R3.ints E3) hC (by omega) hul).mono ?_
      rintro r h5 ⟨y5, rfl, f5⟩
      obtain ⟨r5, hr5, O5⟩ := f5.row
      have := O3.lt
      have hE3 := E3.1
      (conv => whnf)
      refine HArith.fits (by omega) (by omega) ?_
      (conv => whnf)
      exact ⟨⟨k + 1, _, r3, _, _, l ++ [(i : Int)], m, rfl, E3.trans f5.1, by omega, O3.ext f5.1, Or.inr ⟨r5, by omega, by omega, O5⟩, P2, by omega, by simp; omega, by rw [List.append_assoc]; exact hl⟩, by show 31 - (k + 1) < 31 - k; omega⟩
  · (conv => whnf)
    (repeat (first | (refine HIf.decF hge ?_; conv => whnf) | (refine HIf.no ?_; conv => whnf)))
    refine ⟨rfl, hy.len ?_⟩
    (conv => whnf)
    refine HIf.beqT (by omega) ?_
    (conv => whnf)
    rw [out (by omega)]
    exact ⟨_, rfl, Fresh.ofRow E Oz hr1⟩

theorem spec_l8Normal (h : Heap) (x0 : H0) (a0 : List (List Int)) (x1 : H0) (a1 : List Int) (hx0 : Rows h x0 a0) (hx1 : Ints h x1 a1) (hC : Cartan a0) (hw : lettersOk a0 a1 = true) (s1 : a1.length ≤ 30) :
    HCalls dm Try.prog 36 [.s x0, .s x1] h (fun r h' => ∃ y, r = .s y ∧ Fresh h h' y (normF a0 a1)) := by
  obtain ⟨n, hn, P⟩ := play_image hC hw (by omega)
  refine calls_of_hFun (m := 0) kd_ok mixed Try.func36 rfl (by kernel_rfl) rfl rfl (of_decide_eq_true rfl) ?_; unfold hFun; (conv => whnf)
  refine (spec_l8Image _ _ a0 _ a1 hx0 hx1 ((isCartan_iff a0).2 hC) hw (by omega)).mono ?_
  rintro r h1 ⟨y1, rfl, f1⟩
  (conv => whnf)
  refine (spec_l8Form _ _ a0 _ _ n (hx0.ext f1.1) f1.ints hC P (by omega)).mono ?_
  rintro r h2 ⟨y2, rfl, f2⟩
  have hz := Fresh.inner f1.1 f2
  (conv => whnf)
  exact ⟨_, rfl, Fresh.of hz.1 hz.2⟩

end Go.Proofs.Ytecfgbjddkpkcaa.Hx
