
/-
  Contracts of reflections of roots, of the program and of the reference.
-/
import Derived.Test.YtecfgbjddkpkcaaGc
namespace Go.Proofs.Ytecfgbjddkpkcaa.Hx
open Go.RowKit
variable {dm : Bool}

theorem HApp.copy {h : Heap} {x : H0} {l : List Int} {K : HV → Heap → Prop} (hx : Ints h x l) (hl : l.length ≤ 2199023255552) (hK : ∀ h' y, Ext h h' → Own h.length h'.length h' y l → K (.s y) h') : HApp (h ++ [.own []]) (.s (.sl h.length 0 0)) (.s x) K := by
  refine ⟨l.map ci, Shows.ext hx (Ext.push _ _), ci_one l, [], rfl, get_new _ _, Nat.zero_le _, Or.inl ⟨by simpa using hl, ?_⟩⟩
  have e1 : 0 + (l.map ci).length = l.length := by simp
  rw [e1]
  refine hK _ _ (((Ext.push h _).set (Nat.le_refl _) _).pushed _) ⟨_, [], rfl, by simp, by simp, ?_⟩
  rw [List.append_nil, List.take_nil, List.nil_append]
  simp

/-- A literal of one number, appended to what one has. -/
theorem HApp.snoc {hb h : Heap} {y : H0} {l : List Int} {v : Int} {K : HV → Heap → Prop} (E : Ext hb h) (H : Own hb.length h.length h y l) (hl : l.length < 2199023255552) (hK : ∀ h' y', Ext hb h' → Own hb.length h'.length h' y' (l ++ [v]) → K (.s y') h') :
    HApp (h ++ [.own [ci v]]) (.s y) (.s (.sl h.length 0 1)) K := by
  obtain ⟨r, t, rfl, h1, h2, hr⟩ := H
  refine ⟨[ci v], ?_, by simp [H0.one, Value.oneCell'], l.map ci ++ t, rfl, (Ext.push h _).row hr, by simp, Or.inl ⟨by simp; omega, ?_⟩⟩
  · have := Shows.own h.length 0 1 _ (get_new h (.own [ci v])) (by simp)
    simpa using this
  have e1 : l.length + [ci v].length = (l ++ [v]).length := by simp
  have e2 : (l.map ci ++ t).take l.length ++ [ci v] = (l ++ [v]).map ci := by rw [List.take_append_of_le_length (by simp), List.take_of_length_le (by simp)]; simp
  rw [e1, e2]
  refine hK _ _ (((E.pushed _).set h1 _).pushed _) ⟨_, [], rfl, by have := E.1; simp; omega, by simp, ?_⟩
  rw [List.append_nil]
  simp

theorem HLit.one {z : Value} {v : Int} {h : Heap} {K : HV → Heap → Prop} (hK : K (.s (.sl h.length 0 1)) (h ++ [.own [ci v]])) : HLit z 1 (some [ci v]) h K := ⟨[ci v], rfl, rfl, by omega, by simp [H0.one, Value.oneCell'], hK⟩

theorem Fresh.of {h h' : Heap} {x : H0} {l : List Int} (E : Ext h h') (H : Own h.length h'.length h' x l) : Fresh h h' x l := by
  obtain ⟨r, t, g1, g2, _, g4⟩ := H
  exact ⟨E, r, t, g1, g2, g4⟩

theorem HCallF.same {P : Program} {k : FuncId} {args : List HV} {h : Heap} {K : HV → Heap → Prop} {R : HV → Heap → Prop} (v : HV) (hc : HCalls dm P k args (freeze h) R) (hr : ∀ x h', R x h' → x = v ∧ h' = freeze h) (hK : K v h) : HCallF dm P k args h K :=
  ⟨hc.mono fun x h' r => by
    obtain ⟨rfl, rfl⟩ := hr x h' r
    exact ⟨[], by simp, by simp, by simpa using hK⟩⟩

/-- The sum of the first products. -/
def dotTo (a b : List Int) : Nat → Int
  | 0 => 0
  | k + 1 => w64 (dotTo a b k + w64 (a.getD k 0 * b.getD k 0))

def mirror (c : List (List Int)) (i : Nat) (r : List Int) : List Int := r.set i (w64 (r.getD i 0 - dotTo (c.getD i []) r r.length))

theorem mirror_length (c : List (List Int)) (i : Nat) (r : List Int) : (mirror c i r).length = r.length := by simp [mirror]

theorem dotTo_none (a b : List Int) : dotTo a b 0 = 0 := rfl
theorem dotTo_succ (a b : List Int) (k : Nat) : dotTo a b (k + 1) = w64 (dotTo a b k + w64 (a.getD k 0 * b.getD k 0)) := rfl

theorem Own.store {hb h : Heap} {y : H0} {l : List Int} {i : Nat} {v : Int} (E : Ext hb h) (H : Own hb.length h.length h y l) (hi : i < l.length) :
    ∃ r cs, y = .sl r 0 l.length ∧ h[r]? = some (.own cs) ∧ i < cs.length ∧ Ext hb (h.set r (.own (cs.set i (ci v)))) ∧ Own hb.length (h.set r (.own (cs.set i (ci v)))).length (h.set r (.own (cs.set i (ci v)))) y (l.set i v) := by
  obtain ⟨r, t, rfl, h1, h2, hr⟩ := H
  refine ⟨r, _, rfl, hr, by simp; omega, E.set h1 _, r, t, by simp, h1, by simp; omega, ?_⟩
  rw [List.getElem?_set_self h2, List.set_append_left _ _ (by simpa using hi), List.map_set]


theorem impl_pairing (h : Heap) (x y : H0) (a b : List Int) (hx : Ints h x a) (hy : Ints h y b) (hb : b.length ≤ 2199023255552) (hl : b.length ≤ a.length) :
    HCalls dm Try.prog 86 [.s x, .s y] h (fun r h' => r = I (dotTo a b b.length) ∧ h' = h) := by
  refine calls_of_hFun (m := 0) kd_ok mixed Try.func86 rfl (by kernel_rfl) rfl rfl (of_decide_eq_true rfl) ?_; unfold hFun; (conv => whnf)
  (repeat (first | (refine ⟨rfl, Ints.len (by assumption) ?_⟩; conv => whnf) | (refine ⟨rfl, Rows.len (by assumption) ?_⟩; conv => whnf) | (refine ⟨rfl, HLen.sl ?_⟩; conv => whnf) | (refine ⟨rfl, At.load (by assumption) ?_⟩; conv => whnf) | (refine HIf.yes ?_; conv => whnf) | (refine HIf.no ?_; conv => whnf) | (refine HIf.isT (by assumption) ?_; conv => whnf) | (refine HIf.isF (by assumption) ?_; conv => whnf) | (refine HIf.decT (by assumption) ?_; conv => whnf) | (refine HIf.decF (by assumption) ?_; conv => whnf) | (refine HIf.beqT (by assumption) ?_; conv => whnf) | (refine HIf.beqF (by assumption) ?_; conv => whnf) | (refine HIf.bneT (by assumption) ?_; conv => whnf) | (refine HIf.bneF (by assumption) ?_; conv => whnf) | (refine ⟨rfl, Ints.idxN (by assumption) (by omega) (fun p hp => ?_)⟩; conv => whnf) | (refine ⟨rfl, Rows.idxN (by assumption) (by omega) (fun p y hp hy => ?_)⟩; conv => whnf) | (refine And.intro (show Kd.isBool _ = true from rfl) ?_; conv => whnf) | (refine ⟨rfl, Ints.idx (by assumption) (by omega) (by omega) (fun p hp => ?_)⟩; conv => whnf) | (refine ⟨rfl, Rows.idx (by assumption) (by omega) (by omega) (fun p y hp hy => ?_)⟩; conv => whnf) | (refine HArith.fits (by omega) (by omega) ?_; conv => whnf) | (refine Or.inl (And.intro (show Region.lexB _ _ = true by kernel_rfl) ?_); conv => whnf)))
  refine HLoop.intro [10, 5] [11, 12, 13, 14, 6, 7, 15, 16, 17, 18, 19, 20, 21, 22, 5, 23, 10] (by kernel_rfl) (by kernel_rfl) (fun vs h' => ∃ i : Nat, vs = [I i, I (dotTo a b i)] ∧ i ≤ b.length ∧ h' = h) (fun vs _ => b.length - natAt vs 0) ⟨0, rfl, by omega, rfl⟩ ?_
  rintro vs h' ⟨i, rfl, hi, rfl⟩
  (conv => whnf)
  refine HIf.dec (fun hlt => ?_) (fun hge => ?_)
  · (conv => whnf)
    refine ⟨rfl, Ints.idxN hy (by omega) (fun p hp => ?_)⟩
    (conv => whnf)
    refine ⟨rfl, hp.load ?_⟩
    (conv => whnf)
    refine ⟨rfl, Ints.idxN hx (by omega) (fun p2 hp2 => ?_)⟩
    (conv => whnf)
    refine ⟨rfl, hp2.load ?_⟩
    (conv => whnf)
    refine HArith.any ?_
    (conv => whnf)
    refine HArith.any ?_
    (conv => whnf)
    refine HArith.fits (by omega) (by omega) ?_
    (conv => whnf)
    exact ⟨⟨i + 1, by rw [dotTo_succ]; rfl, by omega, rfl⟩, by show b.length - (i + 1) < b.length - i; omega⟩
  · (conv => whnf)
    have e : i = b.length := by omega
    subst e
    exact ⟨rfl, rfl⟩

theorem spec_l7Reflect (h : Heap) (x y : H0) (c : List (List Int)) (i : Nat) (r : List Int) (hx : Rows h x c) (hy : Ints h y r) (hi : i < c.length) (hr : i < r.length) (hl : r.length ≤ (c.getD i []).length) (hb : r.length ≤ 1048576) :
    HCalls dm Try.prog 76 [.s x, I i, .s y] h (fun v h' => ∃ y', v = .s y' ∧ Fresh h h' y' (mirror c i r)) := by
  refine calls_of_hFun (m := 0) kd_ok mixed Try.func76 rfl (by kernel_rfl) rfl rfl (of_decide_eq_true rfl) ?_; unfold hFun; (conv => whnf)
  refine HLit.empty ?_
  (conv => whnf)
  refine ⟨rfl, rfl, HApp.copy hy (by omega) (fun h1 y1 E O => ?_)⟩
  have hx1 := hx.ext E
  have hy1 := hy.ext E
  (conv => whnf)
  refine HLoop.intro [9, 8] [13, 14, 15, 16, 19, 20, 21, 22, 23, 24, 25, 26, 27, 28, 29, 30, 31, 32, 8, 17, 18, 9] (by kernel_rfl) (by kernel_rfl) (fun vs h' => ∃ j : Nat, vs = [I j, I (dotTo (c.getD i []) r j)] ∧ j ≤ r.length ∧ h' = h1) (fun vs _ => r.length - natAt vs 0) ⟨0, rfl, by omega, rfl⟩ ?_
  rintro vs h' ⟨j, rfl, hj, rfl⟩
  (conv => whnf)
  refine ⟨rfl, hy1.len ?_⟩
  (conv => whnf)
  refine HIf.dec (fun hlt => ?_) (fun hge => ?_)
  · (conv => whnf)
    refine Or.inl (And.intro (show Region.lexB _ _ = true by kernel_rfl) ?_); (conv => whnf)
    refine ⟨rfl, Rows.idxN hx1 hi (fun p z hp hz => ?_)⟩
    (conv => whnf)
    refine ⟨rfl, hp.load ?_⟩
    (conv => whnf)
    refine ⟨rfl, Ints.idxN hz (by omega) (fun p2 hp2 => ?_)⟩
    (conv => whnf)
    refine ⟨rfl, hp2.load ?_⟩
    (conv => whnf)
    refine ⟨rfl, Ints.idxN hy1 (by omega) (fun p3 hp3 => ?_)⟩
    (conv => whnf)
    refine ⟨rfl, hp3.load ?_⟩
    (conv => whnf)
    refine HArith.any ?_
    (conv => whnf)
    refine HArith.any ?_
    (conv => whnf)
    refine HArith.fits (by omega) (by omega) ?_
    (conv => whnf)
    exact ⟨⟨j + 1, by rw [dotTo_succ]; rfl, by omega, rfl⟩, by show r.length - (j + 1) < r.length - j; omega⟩
  · have e : j = r.length := by omega
    subst e
    obtain ⟨q, cs, rfl, hq, hql, E2, O2⟩ := Own.store (v := w64 (r.getD i 0 - dotTo (c.getD i []) r r.length)) E O hr
    (conv => whnf)
    refine ⟨rfl, Ints.idxN hy1 hr (fun p hp => ?_)⟩
    (conv => whnf)
    refine ⟨rfl, hp.load ?_⟩
    (conv => whnf)
    refine HArith.any ?_
    (conv => whnf)
    refine ⟨rfl, HIdx.sl (by omega) (by omega) ?_⟩
    (conv => whnf)
    refine ⟨rfl, HStore.own hq (by omega) rfl ?_⟩
    (conv => whnf)
    have e0 : 0 + (i : Int).toNat = i := by omega
    rw [e0]
    exact ⟨_, rfl, Fresh.of E2 O2⟩

theorem impl_mirrored (h : Heap) (x y : H0) (c : List (List Int)) (i : Nat) (r : List Int) (hx : Rows h x c) (hy : Ints h y r) (hi : i < c.length) (hr : i < r.length) (hl : r.length ≤ (c.getD i []).length) (hb : r.length ≤ 1048576) :
    HCalls dm Try.prog 80 [.s x, I i, .s y] h (fun v h' => ∃ y', v = .s y' ∧ Fresh h h' y' (mirror c i r)) := by
  refine calls_of_hFun (m := 0) kd_ok mixed Try.func80 rfl (by kernel_rfl) rfl rfl (of_decide_eq_true rfl) ?_; unfold hFun; (conv => whnf)
  refine HLit.empty ?_
  (conv => whnf)
  refine ⟨rfl, rfl, HApp.copy hy (by omega) (fun h1 y1 E O => ?_)⟩
  have hx1 := hx.ext E
  have hy1 := hy.ext E
  obtain ⟨q, cs, rfl, hq, hql, E2, O2⟩ := Own.store (v := w64 (r.getD i 0 - dotTo (c.getD i []) r r.length)) E O hr
  (conv => whnf)
  refine Or.inr (Or.inr (Or.inl (Exists.intro 12 (Exists.intro [0, 1, 2, 3, 4, 5, 6, 7, 8] (Exists.intro [9, 10, 11, 12] (And.intro (show heldOk _ _ _ _ = true by kernel_rfl) ?_)))))); (conv => whnf)
  refine ⟨rfl, Ints.idxN O.ints hr (fun p hp => ?_)⟩
  (conv => whnf)
  refine ⟨rfl, hp.load ?_⟩
  (conv => whnf)
  refine ⟨rfl, Rows.idxN hx1 hi (fun p2 z hp2 hz => ?_)⟩
  (conv => whnf)
  refine ⟨rfl, hp2.load ?_⟩
  (conv => whnf)
  refine HCallF.same _ (impl_pairing _ _ _ _ _ hz.frz hy1.frz (by omega) hl) (fun x h' e => e) ?_
  (conv => whnf)
  refine HArith.any ?_
  (conv => whnf)
  refine ⟨rfl, HIdx.sl (by omega) (by omega) ?_⟩
  (conv => whnf)
  refine ⟨rfl, HStore.own hq (by omega) rfl ?_⟩
  (conv => whnf)
  have e0 : 0 + (i : Int).toNat = i := by omega
  rw [e0]
  exact ⟨_, rfl, Fresh.of E2 O2⟩

end Go.Proofs.Ytecfgbjddkpkcaa.Hx
