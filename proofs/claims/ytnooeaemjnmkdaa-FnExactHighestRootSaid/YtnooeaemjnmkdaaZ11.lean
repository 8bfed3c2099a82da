/-
  Contracts of reflections of roots, of the program and of the reference.
  Contracts of ReflectRoot, ActOnRoot, WeightOfRoot, of the program and of the reference.
  Contracts of WeightOfRoot, of the program and of the reference.
  Contracts of ActOnRoot, of the program and of the reference.
  Contracts of reflections of weights and of the image of rho, of the program and of the reference.
  Contracts of the image of rho and of equality of slices, of the program and of the reference.
  Contracts of the image of rho: acted, image, RhoOf, l8Image.
  Contracts of equality of slices and of AreSame, of the program and of the reference.
  Contracts of LeftDescents, of the program.
-/
import Derived.Test.YtnooeaemjnmkdaaZ10
namespace Go.Proofs.Ytnooeaemjnmkdaa.Hx
open Go.RowKit
variable {dm : Bool}

theorem HApp.copy {h : Heap} {x : H0} {l : List Int} {K : HV → Heap → Prop} (hx : Ints h x l) (hl : l.length ≤ 2199023255552) (hK : ∀ h' y, Ext h h' → Own h.length h'.length h' y l → K (.s y) h') : HApp (h ++ [.own []]) (.s (.sl h.length 0 0)) (.s x) K := by
  refine ⟨l.map ci, Shows.ext hx (Ext.push _ _), ci_one l, [], rfl, get_new _ _, Nat.zero_le _, Or.inl ⟨by simpa using hl, ?_⟩⟩
  have e1 : 0 + (l.map ci).length = l.length := by simp
  rw [e1]
  refine hK _ _ (((Ext.push h _).set (Nat.le_refl _) _).pushed _) ⟨_, [], rfl, by simp, by simp, ?_⟩
  rw [List.append_nil, List.take_nil, List.nil_append]
  simp

/-- A literal of one number, appended to what one has. -/
theorem HApp.snoc {hb h : Heap} {y : H0} {l : List Int} {v : Int} {K : HV → Heap → Prop} (E : Ext hb h) (H : Own hb.length h.length h y l) (hl : l.length < 2199023255552) (hK : ∀ h' y', Ext hb h' → Own hb.length h'.length h' y' (l ++ [v]) → K (.s y') h') :
    HApp (h ++ [.own [ci v]]) (.s y) (.s (.sl h.length 0 1)) K := by
  obtain ⟨r, t, rfl, h1, h2, hr⟩ := H
  refine ⟨[ci v], ?_, by simp [H0.one, Value.oneCell'], l.map ci ++ t, rfl, (Ext.push h _).row hr, by simp, Or.inl ⟨by simp; omega, ?_⟩⟩
  · have := Shows.own h.length 0 1 _ (get_new h (.own [ci v])) (by simp)
    simpa using this
  have e1 : l.length + [ci v].length = (l ++ [v]).length := by simp
  have e2 : (l.map ci ++ t).take l.length ++ [ci v] = (l ++ [v]).map ci := by rw [List.take_append_of_le_length (by simp), List.take_of_length_le (by simp)]; simp
  rw [e1, e2]
  refine hK _ _ (((E.pushed _).set h1 _).pushed _) ⟨_, [], rfl, by have := E.1; simp; omega, by simp, ?_⟩
  rw [List.append_nil]
  simp

theorem HLit.one {z : Value} {v : Int} {h : Heap} {K : HV → Heap → Prop} (hK : K (.s (.sl h.length 0 1)) (h ++ [.own [ci v]])) : HLit z 1 (some [ci v]) h K := ⟨[ci v], rfl, rfl, by omega, by simp [H0.one, Value.oneCell'], hK⟩

theorem Fresh.of {h h' : Heap} {x : H0} {l : List Int} (E : Ext h h') (H : Own h.length h'.length h' x l) : Fresh h h' x l := by
  obtain ⟨r, t, g1, g2, _, g4⟩ := H
  exact ⟨E, r, t, g1, g2, g4⟩

theorem HCallF.same {P : Program} {k : FuncId} {args : List HV} {h : Heap} {K : HV → Heap → Prop} {R : HV → Heap → Prop} (v : HV) (hc : HCalls dm P k args (freeze h) R) (hr : ∀ x h', R x h' → x = v ∧ h' = freeze h) (hK : K v h) : HCallF dm P k args h K :=
  ⟨hc.mono fun x h' r => by
    obtain ⟨rfl, rfl⟩ := hr x h' r
    exact ⟨[], by simp, by simp, by simpa using hK⟩⟩

/-- The sum of the first products. -/
def dotTo (a b : List Int) : Nat → Int
  | 0 => 0
  | k + 1 => w64 (dotTo a b k + w64 (a.getD k 0 * b.getD k 0))

def mirror (c : List (List Int)) (i : Nat) (r : List Int) : List Int := r.set i (w64 (r.getD i 0 - dotTo (c.getD i []) r r.length))

theorem mirror_length (c : List (List Int)) (i : Nat) (r : List Int) : (mirror c i r).length = r.length := by simp [mirror]

theorem dotTo_none (a b : List Int) : dotTo a b 0 = 0 := rfl
theorem dotTo_succ (a b : List Int) (k : Nat) : dotTo a b (k + 1) = w64 (dotTo a b k + w64 (a.getD k 0 * b.getD k 0)) := rfl

theorem Own.store {hb h : Heap} {y : H0} {l : List Int} {i : Nat} {v : Int} (E : Ext hb h) (H : Own hb.length h.length h y l) (hi : i < l.length) :
    ∃ r cs, y = .sl r 0 l.length ∧ h[r]? = some (.own cs) ∧ i < cs.length ∧ Ext hb (h.set r (.own (cs.set i (ci v)))) ∧ Own hb.length (h.set r (.own (cs.set i (ci v)))).length (h.set r (.own (cs.set i (ci v)))) y (l.set i v) := by
  obtain ⟨r, t, rfl, h1, h2, hr⟩ := H
  refine ⟨r, _, rfl, hr, by simp; omega, E.set h1 _, r, t, by simp, h1, by simp; omega, ?_⟩
  rw [List.getElem?_set_self h2, List.set_append_left _ _ (by simpa using hi), List.map_set]


theorem impl_pairing (h : Heap) (x y : H0) (a b : List Int) (hx : Ints h x a) (hy : Ints h y b) (hb : b.length ≤ 2199023255552) (hl : b.length ≤ a.length) :
    HCalls dm Try.prog 87 [.s x, .s y] h (fun r h' => r = I (dotTo a b b.length) ∧ h' = h) := by
  refine calls_of_hFun (m := 0) kd_ok mixed Try.func87 rfl (by kernel_rfl) rfl rfl (of_decide_eq_true rfl) ?_; unfold hFun; (conv => whnf)
  (repeat (first | (refine ⟨rfl, Ints.len (by assumption) ?_⟩; conv => whnf) | (refine ⟨rfl, Rows.len (by assumption) ?_⟩; conv => whnf) | (refine ⟨rfl, HLen.sl ?_⟩; conv => whnf) | (refine ⟨rfl, At.load (by assumption) ?_⟩; conv => whnf) | (refine HIf.yes ?_; conv => whnf) | (refine HIf.no ?_; conv => whnf) | (refine HIf.isT (by assumption) ?_; conv => whnf) | (refine HIf.isF (by assumption) ?_; conv => whnf) | (refine HIf.decT (by assumption) ?_; conv => whnf) | (refine HIf.decF (by assumption) ?_; conv => whnf) | (refine HIf.beqT (by assumption) ?_; conv => whnf) | (refine HIf.beqF (by assumption) ?_; conv => whnf) | (refine HIf.bneT (by assumption) ?_; conv => whnf) | (refine HIf.bneF (by assumption) ?_; conv => whnf) | (refine ⟨rfl, Ints.idxN (by assumption) (by omega) (fun p hp => ?_)⟩; conv => whnf) | (refine ⟨rfl, Rows.idxN (by assumption) (by omega) (fun p y hp hy => ?_)⟩; conv => whnf) | (refine And.intro (show Kd.isBool _ = true from rfl) ?_; conv => whnf) | (refine ⟨rfl, Ints.idx (by assumption) (by omega) (by omega) (fun p hp => ?_)⟩; conv => whnf) | (refine ⟨rfl, Rows.idx (by assumption) (by omega) (by omega) (fun p y hp hy => ?_)⟩; conv => whnf) | (refine HArith.fits (by omega) (by omega) ?_; conv => whnf) | (refine Or.inl (And.intro (show Region.lexB _ _ = true by kernel_rfl) ?_); conv => whnf)))
  refine HLoop.intro [10, 5] [11, 12, 13, 14, 6, 7, 15, 16, 17, 18, 19, 20, 21, 22, 5, 23, 10] (by kernel_rfl) (by kernel_rfl) (fun vs h' => ∃ i : Nat, vs = [I i, I (dotTo a b i)] ∧ i ≤ b.length ∧ h' = h) (fun vs _ => b.length - natAt vs 0) ⟨0, rfl, by omega, rfl⟩ ?_
  rintro vs h' ⟨i, rfl, hi, rfl⟩
  (conv => whnf)
  refine HIf.dec (fun hlt => ?_) (fun hge => ?_)
  · (conv => whnf)
    refine ⟨rfl, Ints.idxN hy (by omega) (fun p hp => ?_)⟩
    (conv => whnf)
    refine ⟨rfl, hp.load ?_⟩
    (conv => whnf)
    refine ⟨rfl, Ints.idxN hx (by omega) (fun p2 hp2 => ?_)⟩
    (conv => whnf)
    refine ⟨rfl, hp2.load ?_⟩
    (conv => whnf)
    refine HArith.any ?_
    (conv => whnf)
    refine HArith.any ?_
    (conv => whnf)
    refine HArith.fits (by omega) (by omega) ?_
    (conv => whnf)
    exact ⟨⟨i + 1, by rw [dotTo_succ]; rfl, by omega, rfl⟩, by show b.length - (i + 1) < b.length - i; omega⟩
  · (conv => whnf)
    have e : i = b.length := by omega
    subst e
    exact ⟨rfl, rfl⟩

theorem spec_l7Reflect (h : Heap) (x y : H0) (c : List (List Int)) (i : Nat) (r : List Int) (hx : Rows h x c) (hy : Ints h y r) (hi : i < c.length) (hr : i < r.length) (hl : r.length ≤ (c.getD i []).length) (hb : r.length ≤ 1048576) :
    HCalls dm Try.prog 43 [.s x, I i, .s y] h (fun v h' => ∃ y', v = .s y' ∧ Fresh h h' y' (mirror c i r)) := by
  refine calls_of_hFun (m := 0) kd_ok mixed Try.func43 rfl (by kernel_rfl) rfl rfl (of_decide_eq_true rfl) ?_; unfold hFun; (conv => whnf)
  refine HLit.empty ?_
  (conv => whnf)
  refine ⟨rfl, rfl, HApp.copy hy (by omega) (fun h1 y1 E O => ?_)⟩
  have hx1 := hx.ext E
  have hy1 := hy.ext E
  (conv => whnf)
  refine HLoop.intro [9, 8] [13, 14, 15, 16, 19, 20, 21, 22, 23, 24, 25, 26, 27, 28, 29, 30, 31, 32, 8, 17, 18, 9] (by kernel_rfl) (by kernel_rfl) (fun vs h' => ∃ j : Nat, vs = [I j, I (dotTo (c.getD i []) r j)] ∧ j ≤ r.length ∧ h' = h1) (fun vs _ => r.length - natAt vs 0) ⟨0, rfl, by omega, rfl⟩ ?_
  rintro vs h' ⟨j, rfl, hj, rfl⟩
  (conv => whnf)
  refine ⟨rfl, hy1.len ?_⟩
  (conv => whnf)
  refine HIf.dec (fun hlt => ?_) (fun hge => ?_)
  · (conv => whnf)
    refine Or.inl (And.intro (show Region.lexB _ _ = true by kernel_rfl) ?_); (conv => whnf)
    refine ⟨rfl, Rows.idxN hx1 hi (fun p z hp hz => ?_)⟩
    (conv => whnf)
    refine ⟨rfl, hp.load ?_⟩
    (conv => whnf)
    refine ⟨rfl, Ints.idxN hz (by omega) (fun p2 hp2 => ?_)⟩
    (conv => whnf)
    refine ⟨rfl, hp2.load ?_⟩
    (conv => whnf)
    refine ⟨rfl, Ints.idxN hy1 (by omega) (fun p3 hp3 => ?_)⟩
    (conv => whnf)
    refine ⟨rfl, hp3.load ?_⟩
    (conv => whnf)
    refine HArith.any ?_
    (conv => whnf)
    refine HArith.any ?_
    (conv => whnf)
    refine HArith.fits (by omega) (by omega) ?_
    (conv => whnf)
    exact ⟨⟨j + 1, by rw [dotTo_succ]; rfl, by omega, rfl⟩, by show r.length - (j + 1) < r.length - j; omega⟩
  · have e : j = r.length := by omega
    subst e
    obtain ⟨q, cs, rfl, hq, hql, E2, O2⟩ := Own.store (v := w64 (r.getD i 0 - dotTo (c.getD i []) r r.length)) E O hr
    (conv => whnf)
    refine ⟨rfl, Ints.idxN hy1 hr (fun p hp => ?_)⟩
    (conv => whnf)
    refine ⟨rfl, hp.load ?_⟩
    (conv => whnf)
    refine HArith.any ?_
    (conv => whnf)
    refine ⟨rfl, HIdx.sl (by omega) (by omega) ?_⟩
    (conv => whnf)
    refine ⟨rfl, HStore.own hq (by omega) rfl ?_⟩
    (conv => whnf)
    have e0 : 0 + (i : Int).toNat = i := by omega
    rw [e0]
    exact ⟨_, rfl, Fresh.of E2 O2⟩

theorem impl_mirrored (h : Heap) (x y : H0) (c : List (List Int)) (i : Nat) (r : List Int) (hx : Rows h x c) (hy : Ints h y r) (hi : i < c.length) (hr : i < r.length) (hl : r.length ≤ (c.getD i []).length) (hb : r.length ≤ 1048576) :
    HCalls dm Try.prog 71 [.s x, I i, .s y] h (fun v h' => ∃ y', v = .s y' ∧ Fresh h h' y' (mirror c i r)) := by
  refine calls_of_hFun (m := 0) kd_ok mixed Try.func71 rfl (by kernel_rfl) rfl rfl (of_decide_eq_true rfl) ?_; unfold hFun; (conv => whnf)
  refine HLit.empty ?_
  (conv => whnf)
  refine ⟨rfl, rfl, HApp.copy hy (by omega) (fun h1 y1 E O => ?_)⟩
  have hx1 := hx.ext E
  have hy1 := hy.ext E
  obtain ⟨q, cs, rfl, hq, hql, E2, O2⟩ := Own.store (v := w64 (r.getD i 0 - dotTo (c.getD i []) r r.length)) E O hr
  (conv => whnf)
  refine Or.inr (Or.inr (Or.inl (Exists.intro 12 (Exists.intro [0, 1, 2, 3, 4, 5, 6, 7, 8] (Exists.intro [9, 10, 11, 12] (And.intro (show heldOk _ _ _ _ = true by kernel_rfl) ?_)))))); (conv => whnf)
  refine ⟨rfl, Ints.idxN O.ints hr (fun p hp => ?_)⟩
  (conv => whnf)
  refine ⟨rfl, hp.load ?_⟩
  (conv => whnf)
  refine ⟨rfl, Rows.idxN hx1 hi (fun p2 z hp2 hz => ?_)⟩
  (conv => whnf)
  refine ⟨rfl, hp2.load ?_⟩
  (conv => whnf)
  refine HCallF.same _ (impl_pairing _ _ _ _ _ hz.frz hy1.frz (by omega) hl) (fun x h' e => e) ?_
  (conv => whnf)
  refine HArith.any ?_
  (conv => whnf)
  refine ⟨rfl, HIdx.sl (by omega) (by omega) ?_⟩
  (conv => whnf)
  refine ⟨rfl, HStore.own hq (by omega) rfl ?_⟩
  (conv => whnf)
  have e0 : 0 + (i : Int).toNat = i := by omega
  rw [e0]
  exact ⟨_, rfl, Fresh.of E2 O2⟩

end Go.Proofs.Ytnooeaemjnmkdaa.Hx

namespace Go.Proofs.Ytnooeaemjnmkdaa.Hx
open Go.RowKit
variable {dm : Bool}

def reflectRoot (c : List (List Int)) (i : Int) (r : List Int) : List Int := if isCartan c && decide (r.length = c.length) && isPoint c i then mirror c i.toNat r else r

theorem reflectRoot_length (c : List (List Int)) (i : Int) (r : List Int) : (reflectRoot c i r).length = r.length := by
  unfold reflectRoot
  split
  · exact mirror_length _ _ _
  · rfl

theorem reflectRoot_off {c : List (List Int)} {i : Int} {r : List Int} (h : isCartan c = false ∨ r.length ≠ c.length ∨ isPoint c i = false) : reflectRoot c i r = r := by
  unfold reflectRoot
  rcases h with h | h | h <;> simp [h]

theorem reflectRoot_on {c : List (List Int)} {i : Int} {r : List Int} (h1 : isCartan c = true) (h2 : r.length = c.length) (h3 : isPoint c i = true) : reflectRoot c i r = mirror c i.toNat r := by
  unfold reflectRoot
  simp [h1, h2, h3]

/-- A word applied to a root, from its end. -/
def actR (c : List (List Int)) : List Int → List Int → List Int
  | [], r => r
  | i :: w, r => mirror c i.toNat (actR c w r)

theorem actR_length (c : List (List Int)) : ∀ (w r : List Int), (actR c w r).length = r.length
  | [], _ => rfl
  | i :: w, r => by rw [actR, mirror_length, actR_length c w r]

theorem actR_drop (c : List (List Int)) (w r : List Int) {k : Nat} (h : k < w.length) : actR c (w.drop k) r = mirror c (w.getD k 0).toNat (actR c (w.drop (k + 1)) r) := by
  rw [List.drop_eq_getElem_cons h, actR]
  simp [List.getD, h]

def actOnRoot (c : List (List Int)) (w r : List Int) : List Int := if isWord c w && decide (r.length = c.length) then actR c w r else r

theorem actOnRoot_length (c : List (List Int)) (w r : List Int) : (actOnRoot c w r).length = r.length := by
  unfold actOnRoot
  split
  · exact actR_length _ _ _
  · rfl

theorem actOnRoot_off {c : List (List Int)} {w r : List Int} (h : isWord c w = false ∨ r.length ≠ c.length) : actOnRoot c w r = r := by
  unfold actOnRoot
  rcases h with h | h <;> simp [h]

theorem actOnRoot_on {c : List (List Int)} {w r : List Int} (h1 : isWord c w = true) (h2 : r.length = c.length) : actOnRoot c w r = actR c w r := by
  unfold actOnRoot
  simp [h1, h2]

theorem word_cartan {c : List (List Int)} {w : List Int} (h : isWord c w = true) : Cartan c ∧ w.length ≤ 15 ∧ lettersOk c w = true := by
  simp only [isWord, Bool.and_eq_true, decide_eq_true_eq] at h
  exact ⟨(isCartan_iff c).1 h.1.1, h.1.2, h.2⟩

def wrow (c : List (List Int)) (r : List Int) (k : Nat) : Int := dotTo (c.getD k []) r c.length
def weightOf (c : List (List Int)) (r : List Int) : List Int := if isCartan c && decide (r.length = c.length) then (List.range c.length).map (wrow c r) else []

theorem weightOf_length (c : List (List Int)) (r : List Int) : (weightOf c r).length ≤ c.length := by
  unfold weightOf
  split <;> simp

theorem weightOf_off {c : List (List Int)} {r : List Int} (h : isCartan c = false ∨ r.length ≠ c.length) : weightOf c r = [] := by
  unfold weightOf
  rcases h with h | h <;> simp [h]

theorem weightOf_on {c : List (List Int)} {r : List Int} (h1 : isCartan c = true) (h2 : r.length = c.length) : weightOf c r = (List.range c.length).map (wrow c r) := by
  unfold weightOf
  simp [h1, h2]

theorem wrow_snoc (c : List (List Int)) (r : List Int) (k : Nat) : (List.range (k + 1)).map (wrow c r) = (List.range k).map (wrow c r) ++ [wrow c r k] := by rw [List.range_succ, List.map_append]; rfl

theorem eq_nat {n : Int} (h : 0 ≤ n) : ∃ k : Nat, n = k := ⟨n.toNat, by omega⟩


end Go.Proofs.Ytnooeaemjnmkdaa.Hx

namespace Go.Proofs.Ytnooeaemjnmkdaa.Hx
open Go.RowKit
variable {dm : Bool}

theorem Own.none (h : Heap) : Own h.length (h ++ [Row.own []]).length (h ++ [Row.own []]) (.sl h.length 0 0) [] := ⟨h.length, [], rfl, Nat.le_refl _, by simp, get_new _ _⟩
theorem range_none (f : Nat → Int) : (List.range 0).map f = [] := rfl
theorem wrow_len (c : List (List Int)) (r : List Int) (k : Nat) : ((List.range k).map (wrow c r)).length = k := by simp
theorem wrow_dot (c : List (List Int)) (r : List Int) (k : Nat) : dotTo (c.getD k []) r c.length = wrow c r k := rfl


end Go.Proofs.Ytnooeaemjnmkdaa.Hx

namespace Go.Proofs.Ytnooeaemjnmkdaa.Hx
open Go.RowKit
variable {dm : Bool}

theorem lenN (n : Nat) : (((n : Int) - 1 : Int)) = ((n : Int) - 1) := rfl
theorem actR_end (c : List (List Int)) (w r : List Int) : actR c (w.drop w.length) r = r := by rw [List.drop_length]; rfl
theorem actR_all (c : List (List Int)) (w r : List Int) : actR c (w.drop 0) r = actR c w r := by rw [List.drop_zero]

/-- What a letter of a word is. -/
theorem letter {c : List (List Int)} {w : List Int} (h : lettersOk c w = true) {k : Nat} (hk : k < w.length) : ∃ i : Nat, w.getD k 0 = i ∧ i < c.length := by
  have := letters_get h hk
  exact ⟨(w.getD k 0).toNat, by omega, by omega⟩

def intAt (vs : List HV) (k : Nat) : Int := match vs[k]? with
  | some (.s (.pl (.int _ i))) => i
  | _ => 0


end Go.Proofs.Ytnooeaemjnmkdaa.Hx

namespace Go.Proofs.Ytnooeaemjnmkdaa.Hx
open Go.RowKit
variable {dm : Bool}

def reflNew (c : List (List Int)) (i : Nat) (v : List Int) (k : Nat) : Int := w64 (v.getD k 0 - w64 (v.getD i 0 * ent c k i))
/-- The first k numbers reflected, the others not. -/
def reflTo (c : List (List Int)) (i : Nat) (v : List Int) (k : Nat) : List Int := (List.range v.length).map fun j => if j < k then reflNew c i v j else v.getD j 0
def reflW (c : List (List Int)) (i : Nat) (v : List Int) : List Int := (List.range v.length).map (reflNew c i v)

theorem reflTo_length (c : List (List Int)) (i : Nat) (v : List Int) (k : Nat) : (reflTo c i v k).length = v.length := by simp [reflTo]
theorem reflW_length (c : List (List Int)) (i : Nat) (v : List Int) : (reflW c i v).length = v.length := by simp [reflW]
theorem reflTo_none (c : List (List Int)) (i : Nat) (v : List Int) : reflTo c i v 0 = v := by
  apply List.ext_getElem (by simp [reflTo])
  intro k h1 h2
  simp [reflTo, List.getD, h2]
theorem reflTo_all (c : List (List Int)) (i : Nat) (v : List Int) : reflTo c i v v.length = reflW c i v := by
  apply List.map_congr_left
  intro j hj
  rw [if_pos (List.mem_range.1 hj)]
theorem reflTo_get (c : List (List Int)) (i : Nat) (v : List Int) (k : Nat) (h : k < v.length) : (reflTo c i v k).getD k 0 = v.getD k 0 := by
  simp [reflTo, List.getD, h]
theorem reflTo_succ (c : List (List Int)) (i : Nat) (v : List Int) (k : Nat) : (reflTo c i v k).set k (reflNew c i v k) = reflTo c i v (k + 1) := by
  apply List.ext_getElem (by simp [reflTo])
  intro j h1 h2
  simp only [reflTo, List.getElem_set, List.getElem_map, List.getElem_range]
  by_cases hj : k = j
  · subst hj
    simp
  · rw [if_neg hj]
    by_cases hk : j < k
    · rw [if_pos hk, if_pos (by omega)]
    · rw [if_neg hk, if_neg (by omega)]

def actW (c : List (List Int)) : List Int → List Int → List Int
  | [], v => v
  | i :: w, v => reflW c i.toNat (actW c w v)

theorem actW_length (c : List (List Int)) : ∀ (w v : List Int), (actW c w v).length = v.length
  | [], _ => rfl
  | i :: w, v => by rw [actW, reflW_length, actW_length c w v]

theorem actW_drop (c : List (List Int)) (w v : List Int) {k : Nat} (h : k < w.length) : actW c (w.drop k) v = reflW c (w.getD k 0).toNat (actW c (w.drop (k + 1)) v) := by
  rw [List.drop_eq_getElem_cons h, actW]
  simp [List.getD, h]

theorem actW_end (c : List (List Int)) (w v : List Int) : actW c (w.drop w.length) v = v := by rw [List.drop_length]; rfl
theorem actW_all (c : List (List Int)) (w v : List Int) : actW c (w.drop 0) v = actW c w v := by rw [List.drop_zero]

def imageOf (c : List (List Int)) (w : List Int) : List Int := actW c w (List.replicate c.length 1)
theorem imageOf_length (c : List (List Int)) (w : List Int) : (imageOf c w).length = c.length := by rw [imageOf, actW_length, List.length_replicate]

theorem ent_eq (c : List (List Int)) (k i : Nat) : (c.getD k []).getD i 0 = ent c k i := rfl
theorem reflNew_eq (c : List (List Int)) (i : Nat) (v : List Int) (k : Nat) : w64 (v.getD k 0 - w64 (v.getD i 0 * ent c k i)) = reflNew c i v k := rfl
theorem refl_snoc (c : List (List Int)) (i : Nat) (v : List Int) (k : Nat) : (List.range (k + 1)).map (reflNew c i v) = (List.range k).map (reflNew c i v) ++ [reflNew c i v k] := by rw [List.range_succ, List.map_append]; rfl
theorem refl_len (c : List (List Int)) (i : Nat) (v : List Int) (k : Nat) : ((List.range k).map (reflNew c i v)).length = k := by simp
theorem ones_snoc (k : Nat) : List.replicate (k + 1) (1 : Int) = List.replicate k 1 ++ [1] := by rw [List.replicate_succ', ]
theorem ones_len (k : Nat) : (List.replicate k (1 : Int)).length = k := by simp


theorem spec_l6Reflect (h : Heap) (x y : H0) (c : List (List Int)) (i : Nat) (v : List Int) (hx : Rows h x c) (hy : Ints h y v) (hC : Cartan c) (hi : i < c.length) (hl : v.length = c.length) :
    HCalls dm Try.prog 144 [.s x, I i, .s y] h (fun r h' => ∃ y', r = .s y' ∧ Fresh h h' y' (reflW c i v)) := by
  have h4 := hC.le
  have E0 := Ext.push h [Row.own []]
  have O0 := Own.none h
  refine calls_of_hFun (m := 0) kd_ok mixed Try.func144 rfl (by kernel_rfl) rfl rfl (of_decide_eq_true rfl) ?_; unfold hFun; (conv => whnf)
  refine HLit.empty ?_
  (conv => whnf)
  refine HLoop.intro [8, 7] [10, 11, 12, 13, 16, 17, 18, 19, 20, 21, 22, 23, 24, 25, 26, 27, 28, 29, 30, 31, 32, 33, 34, 35, 7, 14, 15, 8] (by kernel_rfl) (by kernel_rfl) (fun vs h' => ∃ (k : Nat) (z : H0), vs = [I k, .s z] ∧ k ≤ v.length ∧ Ext h h' ∧ Own h.length h'.length h' z ((List.range k).map (reflNew c i v))) (fun vs _ => v.length - natAt vs 0) ⟨0, _, rfl, by omega, E0, O0⟩ ?_
  rintro vs h' ⟨k, z, rfl, hk, E, O⟩
  have hx := hx.ext E
  have hy := hy.ext E
  (conv => whnf)
  refine ⟨rfl, hy.len ?_⟩
  (conv => whnf)
  refine HIf.dec (fun hlt => ?_) (fun hge => ?_)
  · have hrow := hC.row k (by omega)
    (conv => whnf)
    refine Or.inr (Or.inr (Or.inl (Exists.intro 19 (Exists.intro [0, 1, 2, 3, 4, 5, 6, 7, 8, 9, 10, 11, 12, 13, 14, 15, 16, 17] (Exists.intro [18, 19, 20] (And.intro (show heldOk _ _ _ _ = true by kernel_rfl) ?_)))))); (conv => whnf)
    refine ⟨rfl, Ints.idxN hy (by omega) (fun p hp => ?_)⟩
    (conv => whnf)
    refine ⟨rfl, hp.load ?_⟩
    (conv => whnf)
    refine ⟨rfl, Ints.idxN hy (by omega) (fun p1 hp1 => ?_)⟩
    (conv => whnf)
    refine ⟨rfl, hp1.load ?_⟩
    (conv => whnf)
    refine ⟨rfl, Rows.idxN hx (by omega) (fun p2 q hp2 hq => ?_)⟩
    (conv => whnf)
    refine ⟨rfl, hp2.load ?_⟩
    (conv => whnf)
    refine ⟨rfl, Ints.idxN hq (by omega) (fun p3 hp3 => ?_)⟩
    (conv => whnf)
    refine ⟨rfl, hp3.load ?_⟩
    rw [ent_eq]
    (conv => whnf)
    refine HArith.any ?_
    (conv => whnf)
    refine HArith.any ?_
    (conv => whnf)
    refine HLit.one (v := reflNew c i v k) ?_
    (conv => whnf)
    refine ⟨rfl, rfl, HApp.snoc E O (by rw [refl_len]; omega) (fun h2 y2 E2 O2 => ?_)⟩
    rw [← refl_snoc] at O2
    (conv => whnf)
    refine HArith.fits (by omega) (by omega) ?_
    (conv => whnf)
    exact ⟨⟨k + 1, y2, rfl, by omega, E2, O2⟩, by show v.length - (k + 1) < v.length - k; omega⟩
  · (conv => whnf)
    have e : k = v.length := by omega
    subst e
    exact ⟨_, rfl, Fresh.of E O⟩

theorem impl_ones (h : Heap) (n : Nat) (hn : n ≤ 1048576) : HCalls dm Try.prog 129 [I n] h (fun r h' => ∃ y, r = .s y ∧ Fresh h h' y (List.replicate n 1)) := by
  have E0 := Ext.push h [Row.own []]
  have O0 := Own.none h
  refine calls_of_hFun (m := 0) kd_ok mixed Try.func129 rfl (by kernel_rfl) rfl rfl (of_decide_eq_true rfl) ?_; unfold hFun; (conv => whnf)
  refine HLit.empty ?_
  (conv => whnf)
  refine HLoop.intro [6, 3] [7, 8, 9, 10, 3, 11, 6] (by kernel_rfl) (by kernel_rfl) (fun vs h' => ∃ (k : Nat) (z : H0), vs = [I k, .s z] ∧ k ≤ n ∧ Ext h h' ∧ Own h.length h'.length h' z (List.replicate k 1)) (fun vs _ => n - natAt vs 0) ⟨0, _, rfl, by omega, E0, O0⟩ ?_
  rintro vs h' ⟨k, z, rfl, hk, E, O⟩
  (conv => whnf)
  refine HIf.dec (fun hlt => ?_) (fun hge => ?_)
  · (conv => whnf)
    refine HLit.one ?_
    (conv => whnf)
    refine ⟨rfl, rfl, HApp.snoc E O (by rw [ones_len]; omega) (fun h2 y2 E2 O2 => ?_)⟩
    rw [← ones_snoc] at O2
    (conv => whnf)
    refine HArith.fits (by omega) (by omega) ?_
    (conv => whnf)
    exact ⟨⟨k + 1, y2, rfl, by omega, E2, O2⟩, by show n - (k + 1) < n - k; omega⟩
  · (conv => whnf)
    have e : k = n := by omega
    subst e
    exact ⟨_, rfl, Fresh.of E O⟩

end Go.Proofs.Ytnooeaemjnmkdaa.Hx

namespace Go.Proofs.Ytnooeaemjnmkdaa.Hx
open Go.RowKit
variable {dm : Bool}

theorem Ext.len {h h' : Heap} (E : Ext h h') : h.length ≤ h'.length := E.1
theorem image_def (c : List (List Int)) (w : List Int) : actW c w (List.replicate c.length 1) = imageOf c w := rfl


theorem impl_reflected (hb h : Heap) (x y : H0) (c : List (List Int)) (i : Nat) (v : List Int) (hx : Rows hb x c) (E : Ext hb h) (O : Own hb.length h.length h y v) (hC : Cartan c) (hi : i < c.length) (hl : v.length = c.length) :
    HCalls dm Try.prog 127 [.s x, I i, .s y] h (fun r h' => r = .tup [] ∧ Ext hb h' ∧ Own hb.length h'.length h' y (reflW c i v)) := by
  have h4 := hC.le
  refine calls_of_hFun (m := 0) kd_ok mixed Try.func127 rfl (by kernel_rfl) rfl rfl (of_decide_eq_true rfl) ?_; unfold hFun; (conv => whnf)
  refine ⟨rfl, Ints.idxN O.ints (by omega) (fun p hp => ?_)⟩
  (conv => whnf)
  refine ⟨rfl, hp.load ?_⟩
  (conv => whnf)
  refine ⟨rfl, O.ints.len ?_⟩
  (conv => whnf)
  refine HLoop.intro [14] [15, 16, 7, 17, 18, 19, 20, 21, 22, 23, 24, 25, 26, 27, 28, 29, 30, 31, 32, 14] (by kernel_rfl) (by kernel_rfl) (fun vs h' => ∃ k : Nat, vs = [I k] ∧ k ≤ v.length ∧ Ext hb h' ∧ Own hb.length h'.length h' y (reflTo c i v k)) (fun vs _ => v.length - natAt vs 0) ⟨0, rfl, by omega, E, by rw [reflTo_none]; exact O⟩ ?_
  rintro vs h' ⟨k, rfl, hk, E, O⟩
  have hx := hx.ext E
  have hlen := reflTo_length c i v k
  (conv => whnf)
  refine HIf.dec (fun hlt => ?_) (fun hge => ?_)
  · have hrow := hC.row k (by omega)
    have hget := reflTo_get c i v k (by omega)
    have hsucc := reflTo_succ c i v k
    obtain ⟨q, cs, rfl, hq, hql, E2, O2⟩ := Own.store (v := reflNew c i v k) E O (show k < (reflTo c i v k).length by omega)
    rw [hsucc] at O2
    (conv => whnf)
    refine Or.inr (Or.inl (Exists.intro 15 (And.intro (show Region.lexTailB _ _ _ = true by kernel_rfl) ?_))); (conv => whnf)
    refine ⟨rfl, Ints.idxN O.ints (by omega) (fun p hp => ?_)⟩
    rw [hget] at hp
    (conv => whnf)
    refine ⟨rfl, hp.load ?_⟩
    (conv => whnf)
    refine ⟨rfl, Rows.idxN hx (by omega) (fun p2 z hp2 hz => ?_)⟩
    (conv => whnf)
    refine ⟨rfl, hp2.load ?_⟩
    (conv => whnf)
    refine ⟨rfl, Ints.idxN hz (by omega) (fun p3 hp3 => ?_)⟩
    (conv => whnf)
    refine ⟨rfl, hp3.load ?_⟩
    rw [ent_eq]
    (conv => whnf)
    refine HArith.any ?_
    (conv => whnf)
    refine HArith.any ?_
    (conv => whnf)
    refine ⟨rfl, HIdx.sl (by omega) (by omega) ?_⟩
    (conv => whnf)
    refine ⟨rfl, HStore.own hq (by omega) rfl ?_⟩
    (conv => whnf)
    refine HArith.fits (by omega) (by omega) ?_
    (conv => whnf)
    have e0 : 0 + (k : Int).toNat = k := by omega
    rw [e0]
    exact ⟨⟨k + 1, rfl, by omega, E2, O2⟩, by show v.length - (k + 1) < v.length - k; omega⟩
  · have e : k = v.length := by omega
    subst e
    rw [reflTo_all] at O
    (conv => whnf)
    exact ⟨rfl, E, O⟩

end Go.Proofs.Ytnooeaemjnmkdaa.Hx

namespace Go.Proofs.Ytnooeaemjnmkdaa.Hx
open Go.RowKit
variable {dm : Bool}

theorem Fresh.inner {hb h h' : Heap} {y : H0} {l : List Int} (E : Ext hb h) (f : Fresh h h' y l) : Ext hb h' ∧ Own hb.length h'.length h' y l := by
  obtain ⟨E2, q, t, rfl, hq1, hq2⟩ := f
  have := E.1
  exact ⟨E.trans E2, q, t, rfl, by omega, get_lt hq2, hq2⟩


theorem impl_acted (h : Heap) (x0 : H0) (a0 : List (List Int)) (x1 : H0) (a1 : List Int) (x2 : H0) (a2 : List Int) (hx0 : Rows h x0 a0) (hx1 : Ints h x1 a1) (hx2 : Ints h x2 a2) (hC : Cartan a0) (hw : lettersOk a0 a1 = true) (hl : a2.length = a0.length) (s1 : a1.length ≤ 1048576) :
    HCalls dm Try.prog 128 [.s x0, .s x1, .s x2] h (fun r h' => ∃ y, r = .s y ∧ Fresh h h' y (actW a0 a1 a2)) := by
  have hp := hC.le
  refine calls_of_hFun (m := 0) kd_ok mixed Try.func128 rfl (by kernel_rfl) rfl rfl (of_decide_eq_true rfl) ?_; unfold hFun; (conv => whnf)
  refine HLit.empty ?_
  (conv => whnf)
  refine ⟨rfl, rfl, HApp.copy hx2 (by omega) (fun h1 y1 E1 O1 => ?_)⟩
  have hx11 := hx1.ext E1
  (conv => whnf)
  refine ⟨rfl, hx11.len ?_⟩
  (conv => whnf)
  refine HArith.fits (by omega) (by omega) ?_
  (conv => whnf)
  refine HLoop.intro [8] [15, 16, 19, 20, 21, 22, 23, 24, 25, 17, 18, 8] (by kernel_rfl) (by kernel_rfl) (fun vs h' => ∃ k : Nat, vs = [I ((k : Int) - 1)] ∧ k ≤ a1.length ∧ Ext h h' ∧ Own h.length h'.length h' y1 (actW a0 (a1.drop k) a2)) (fun vs _ => (intAt vs 0 + 1).toNat) ⟨a1.length, rfl, Nat.le_refl _, E1, by rw [actW_end]; exact O1⟩ ?_
  rintro vs h' ⟨k, rfl, hk, E, O⟩
  have hx1 := hx1.ext E
  have hal := actW_length a0 (a1.drop k) a2
  (conv => whnf)
  refine HIf.dec (fun hlt => ?_) (fun hge => ?_)
  · obtain ⟨m, rfl⟩ : ∃ m, k = m + 1 := ⟨k - 1, by omega⟩
    obtain ⟨i, hi, hic⟩ := letter hw (k := m) (by omega)
    have e1 : (((m + 1 : Nat) : Int) - 1).toNat = m := by omega
    have hd := actW_drop a0 a1 a2 (k := m) (by omega)
    have e2 : (a1.getD m 0).toNat = i := by omega
    rw [e2] at hd
    (conv => whnf)
    refine ⟨rfl, Ints.idx hx1 (by omega) (by omega) (fun p hp => ?_)⟩
    rw [e1, hi] at hp
    (conv => whnf)
    refine ⟨rfl, hp.load ?_⟩
    (conv => whnf)
    refine (impl_reflected h _ _ _ a0 i _ hx0 E O hC hic (by omega)).mono ?_
    rintro r h2 ⟨rfl, E2, O2⟩
    rw [← hd] at O2
    (conv => whnf)
    refine HArith.fits (by omega) (by omega) ?_
    (conv => whnf)
    have e3 : ((m + 1 : Nat) : Int) - 1 - 1 = (m : Int) - 1 := by omega
    exact ⟨⟨m, by rw [← e3]; rfl, by omega, E2, O2⟩, by show (((m + 1 : Nat) : Int) - 1 - 1 + 1).toNat < (((m + 1 : Nat) : Int) - 1 + 1).toNat; omega⟩
  · have e : k = 0 := by omega
    subst e
    rw [actW_all] at O
    (conv => whnf)
    exact ⟨_, rfl, Fresh.of E O⟩

theorem impl_image (h : Heap) (x0 : H0) (a0 : List (List Int)) (x1 : H0) (a1 : List Int) (hx0 : Rows h x0 a0) (hx1 : Ints h x1 a1) (hC : Cartan a0) (hw : lettersOk a0 a1 = true) (s1 : a1.length ≤ 1048576) :
    HCalls dm Try.prog 105 [.s x0, .s x1] h (fun r h' => ∃ y, r = .s y ∧ Fresh h h' y (imageOf a0 a1)) := by
  have hp := hC.le
  refine calls_of_hFun (m := 0) kd_ok mixed Try.func105 rfl (by kernel_rfl) rfl rfl (of_decide_eq_true rfl) ?_; unfold hFun; (conv => whnf)
  refine ⟨rfl, hx0.len ?_⟩
  (conv => whnf)
  refine (impl_ones _ a0.length (by omega)).mono ?_
  rintro r h1 ⟨y1, rfl, hf⟩
  (conv => whnf)
  refine (impl_acted _ _ a0 _ a1 _ _ (hx0.ext hf.1) (hx1.ext hf.1) hf.ints hC hw (by simp) s1).mono ?_
  rintro r h2 ⟨y2, rfl, hf2⟩
  rw [image_def] at hf2
  have hz := Fresh.inner hf.1 hf2
  (conv => whnf)
  exact ⟨_, rfl, Fresh.of hz.1 hz.2⟩

theorem spec_RhoOf (h : Heap) (x0 : H0) (a0 : List (List Int)) (hx0 : Rows h x0 a0) (hC : isCartan a0 = true) :
    HCalls dm Try.prog 145 [.s x0] h (fun r h' => ∃ y, r = .s y ∧ Fresh h h' y (List.replicate a0.length 1)) := by
  have h4 := ((isCartan_iff a0).1 hC).le
  have E0 := Ext.push h [Row.own []]
  have O0 := Own.none h
  refine calls_of_hFun (m := 0) kd_ok mixed Try.func145 rfl (by kernel_rfl) rfl rfl (of_decide_eq_true rfl) ?_; unfold hFun; (conv => whnf)
  refine HLit.empty ?_
  (conv => whnf)
  refine HLoop.intro [4, 3] [6, 7, 8, 9, 10, 11, 12, 13, 16, 17, 18, 3, 14, 15, 4] (by kernel_rfl) (by kernel_rfl) (fun vs h' => ∃ (k : Nat) (z : H0), vs = [I k, .s z] ∧ k ≤ a0.length ∧ Ext h h' ∧ Own h.length h'.length h' z (List.replicate k 1)) (fun vs _ => a0.length - natAt vs 0) ⟨0, _, rfl, by omega, E0, O0⟩ ?_
  rintro vs h' ⟨k, z, rfl, hk, E, O⟩
  have hx0 := hx0.ext E
  (conv => whnf)
  refine ⟨rfl, hx0.len ?_⟩
  (conv => whnf)
  refine HIf.dec (fun hlt => ?_) (fun hge => ?_)
  · (conv => whnf)
    (repeat (first | (refine ⟨rfl, Ints.len (by assumption) ?_⟩; conv => whnf) | (refine ⟨rfl, Rows.len (by assumption) ?_⟩; conv => whnf) | (refine ⟨rfl, HLen.sl ?_⟩; conv => whnf) | (refine ⟨rfl, At.load (by assumption) ?_⟩; conv => whnf) | (refine HIf.yes ?_; conv => whnf) | (refine HIf.no ?_; conv => whnf) | (refine HIf.isT (by assumption) ?_; conv => whnf) | (refine HIf.isF (by assumption) ?_; conv => whnf) | (refine HIf.decT (by assumption) ?_; conv => whnf) | (refine HIf.decF (by assumption) ?_; conv => whnf) | (refine HIf.beqT (by assumption) ?_; conv => whnf) | (refine HIf.beqF (by assumption) ?_; conv => whnf) | (refine HIf.bneT (by assumption) ?_; conv => whnf) | (refine HIf.bneF (by assumption) ?_; conv => whnf) | (refine ⟨rfl, Ints.idxN (by assumption) (by omega) (fun p hp => ?_)⟩; conv => whnf) | (refine ⟨rfl, Rows.idxN (by assumption) (by omega) (fun p y hp hy => ?_)⟩; conv => whnf) | (refine And.intro (show Kd.isBool _ = true from rfl) ?_; conv => whnf) | (refine ⟨rfl, Ints.idx (by assumption) (by omega) (by omega) (fun p hp => ?_)⟩; conv => whnf) | (refine ⟨rfl, Rows.idx (by assumption) (by omega) (by omega) (fun p y hp hy => ?_)⟩; conv => whnf) | (refine HArith.fits (by omega) (by omega) ?_; conv => whnf) | (refine Or.inl (And.intro (show Region.lexB _ _ = true by kernel_rfl) ?_); conv => whnf)))
    refine (spec_IsCartan _ _ _ hx0 (by omega)).mono ?_
    rintro r h1 ⟨rfl, rfl⟩
    rw [hC]
    (conv => whnf)
    (repeat (first | (refine ⟨rfl, Ints.len (by assumption) ?_⟩; conv => whnf) | (refine ⟨rfl, Rows.len (by assumption) ?_⟩; conv => whnf) | (refine ⟨rfl, HLen.sl ?_⟩; conv => whnf) | (refine ⟨rfl, At.load (by assumption) ?_⟩; conv => whnf) | (refine HIf.yes ?_; conv => whnf) | (refine HIf.no ?_; conv => whnf) | (refine HIf.isT (by assumption) ?_; conv => whnf) | (refine HIf.isF (by assumption) ?_; conv => whnf) | (refine HIf.decT (by assumption) ?_; conv => whnf) | (refine HIf.decF (by assumption) ?_; conv => whnf) | (refine HIf.beqT (by assumption) ?_; conv => whnf) | (refine HIf.beqF (by assumption) ?_; conv => whnf) | (refine HIf.bneT (by assumption) ?_; conv => whnf) | (refine HIf.bneF (by assumption) ?_; conv => whnf) | (refine ⟨rfl, Ints.idxN (by assumption) (by omega) (fun p hp => ?_)⟩; conv => whnf) | (refine ⟨rfl, Rows.idxN (by assumption) (by omega) (fun p y hp hy => ?_)⟩; conv => whnf) | (refine And.intro (show Kd.isBool _ = true from rfl) ?_; conv => whnf) | (refine ⟨rfl, Ints.idx (by assumption) (by omega) (by omega) (fun p hp => ?_)⟩; conv => whnf) | (refine ⟨rfl, Rows.idx (by assumption) (by omega) (by omega) (fun p y hp hy => ?_)⟩; conv => whnf) | (refine HArith.fits (by omega) (by omega) ?_; conv => whnf) | (refine Or.inl (And.intro (show Region.lexB _ _ = true by kernel_rfl) ?_); conv => whnf)))
    refine HLit.one ?_
    (conv => whnf)
    refine ⟨rfl, rfl, HApp.snoc E O (by rw [ones_len]; omega) (fun h2 y2 E2 O2 => ?_)⟩
    rw [← ones_snoc] at O2
    (conv => whnf)
    refine HArith.fits (by omega) (by omega) ?_
    (conv => whnf)
    exact ⟨⟨k + 1, y2, rfl, by omega, E2, O2⟩, by show a0.length - (k + 1) < a0.length - k; omega⟩
  · have e : k = a0.length := by omega
    (conv => whnf)
    (repeat (first | (refine HIf.decF hge ?_; conv => whnf) | (refine HIf.no ?_; conv => whnf)))
    subst e
    exact ⟨_, rfl, Fresh.of E O⟩

theorem spec_l8Image (h : Heap) (x0 : H0) (a0 : List (List Int)) (x1 : H0) (a1 : List Int) (hx0 : Rows h x0 a0) (hx1 : Ints h x1 a1) (hic : isCartan a0 = true) (hw : lettersOk a0 a1 = true) (s1 : a1.length ≤ 1048576) :
    HCalls dm Try.prog 125 [.s x0, .s x1] h (fun r h' => ∃ y, r = .s y ∧ Fresh h h' y (imageOf a0 a1)) := by
  have hC := (isCartan_iff a0).1 hic
  have hp := hC.le
  refine calls_of_hFun (m := 0) kd_ok mixed Try.func125 rfl (by kernel_rfl) rfl rfl (of_decide_eq_true rfl) ?_; unfold hFun; (conv => whnf)
  refine (spec_RhoOf _ _ a0 hx0 hic).mono ?_
  rintro r h1 ⟨y1, rfl, hf⟩
  have hx11 := hx1.ext hf.1
  (conv => whnf)
  refine ⟨rfl, hx11.len ?_⟩
  (conv => whnf)
  refine HArith.fits (by omega) (by omega) ?_
  (conv => whnf)
  refine HLoop.intro [6, 5] [12, 13, 16, 17, 18, 19, 20, 21, 22, 5, 14, 15, 6] (by kernel_rfl) (by kernel_rfl) (fun vs h' => ∃ (k : Nat) (y : H0), vs = [I ((k : Int) - 1), .s y] ∧ k ≤ a1.length ∧ Ext h h' ∧ Own h.length h'.length h' y (actW a0 (a1.drop k) (List.replicate a0.length 1))) (fun vs _ => (intAt vs 0 + 1).toNat) ⟨a1.length, _, rfl, Nat.le_refl _, hf.1, by rw [actW_end]; exact hf.own⟩ ?_
  rintro vs h' ⟨k, y, rfl, hk, E, O⟩
  have hx0 := hx0.ext E
  have hx1 := hx1.ext E
  have hal := actW_length a0 (a1.drop k) (List.replicate a0.length 1)
  rw [ones_len] at hal
  (conv => whnf)
  refine HIf.dec (fun hlt => ?_) (fun hge => ?_)
  · obtain ⟨m, rfl⟩ : ∃ m, k = m + 1 := ⟨k - 1, by omega⟩
    obtain ⟨i, hi, hil⟩ := letter hw (k := m) (by omega)
    have e1 : (((m + 1 : Nat) : Int) - 1).toNat = m := by omega
    have hd := actW_drop a0 a1 (List.replicate a0.length 1) (k := m) (by omega)
    have e2 : (a1.getD m 0).toNat = i := by omega
    rw [e2] at hd
    (conv => whnf)
    refine ⟨rfl, Ints.idx hx1 (by omega) (by omega) (fun p hp => ?_)⟩
    rw [e1, hi] at hp
    (conv => whnf)
    refine ⟨rfl, hp.load ?_⟩
    (conv => whnf)
    refine (spec_l6Reflect _ _ _ a0 i _ hx0 O.ints hC hil (by omega)).mono ?_
    rintro r h3 ⟨y2, rfl, hf2⟩
    rw [← hd] at hf2
    have hz := Fresh.inner E hf2
    (conv => whnf)
    refine HArith.fits (by omega) (by omega) ?_
    (conv => whnf)
    have e3 : ((m + 1 : Nat) : Int) - 1 - 1 = (m : Int) - 1 := by omega
    exact ⟨⟨m, _, by rw [← e3]; rfl, by omega, hz.1, hz.2⟩, by show (((m + 1 : Nat) : Int) - 1 - 1 + 1).toNat < (((m + 1 : Nat) : Int) - 1 + 1).toNat; omega⟩
  · have e : k = 0 := by omega
    subst e
    rw [actW_all, image_def] at O
    (conv => whnf)
    exact ⟨_, rfl, Fresh.of E O⟩

end Go.Proofs.Ytnooeaemjnmkdaa.Hx

namespace Go.Proofs.Ytnooeaemjnmkdaa.Hx
open Go.RowKit
variable {dm : Bool}

def areSame (c : List (List Int)) (a b : List Int) : Bool := isWord c a && isWord c b && decide (imageOf c a = imageOf c b)

theorem getD_eq (a : List Int) {i : Nat} (h : i < a.length) : a.getD i 0 = a[i] := by simp [List.getD, h]
theorem take_more {a b : List Int} {i : Nat} (ha : i < a.length) (hb : i < b.length) (h : a.take i = b.take i) (e : a.getD i 0 = b.getD i 0) : a.take (i + 1) = b.take (i + 1) := by
  rw [getD_eq a ha, getD_eq b hb] at e
  rw [List.take_succ_eq_append_getElem ha, List.take_succ_eq_append_getElem hb, h, e]
theorem eq_of_take {a b : List Int} (hl : a.length = b.length) (h : a.take a.length = b.take a.length) : a = b := by
  rw [List.take_length, hl, List.take_length] at h
  exact h


theorem lib_Equal (h : Heap) (x y : H0) (a b : List Int) (hx : Ints h x a) (hy : Ints h y b) (hal : a.length ≤ 2199023255552) :
    HCalls dm Try.prog 63 [.s x, .s y] h (fun r h' => r = B (decide (a = b)) ∧ h' = h) := by
  refine calls_of_hFun (m := 0) kd_ok mixed Try.func63 rfl (by kernel_rfl) rfl rfl (of_decide_eq_true rfl) ?_; unfold hFun; (conv => whnf)
  (repeat (first | (refine ⟨rfl, Ints.len (by assumption) ?_⟩; conv => whnf) | (refine ⟨rfl, Rows.len (by assumption) ?_⟩; conv => whnf) | (refine ⟨rfl, HLen.sl ?_⟩; conv => whnf) | (refine ⟨rfl, At.load (by assumption) ?_⟩; conv => whnf) | (refine HIf.yes ?_; conv => whnf) | (refine HIf.no ?_; conv => whnf) | (refine HIf.isT (by assumption) ?_; conv => whnf) | (refine HIf.isF (by assumption) ?_; conv => whnf) | (refine HIf.decT (by assumption) ?_; conv => whnf) | (refine HIf.decF (by assumption) ?_; conv => whnf) | (refine HIf.beqT (by assumption) ?_; conv => whnf) | (refine HIf.beqF (by assumption) ?_; conv => whnf) | (refine HIf.bneT (by assumption) ?_; conv => whnf) | (refine HIf.bneF (by assumption) ?_; conv => whnf) | (refine ⟨rfl, Ints.idxN (by assumption) (by omega) (fun p hp => ?_)⟩; conv => whnf) | (refine ⟨rfl, Rows.idxN (by assumption) (by omega) (fun p y hp hy => ?_)⟩; conv => whnf) | (refine And.intro (show Kd.isBool _ = true from rfl) ?_; conv => whnf) | (refine ⟨rfl, Ints.idx (by assumption) (by omega) (by omega) (fun p hp => ?_)⟩; conv => whnf) | (refine ⟨rfl, Rows.idx (by assumption) (by omega) (by omega) (fun p y hp hy => ?_)⟩; conv => whnf) | (refine HArith.fits (by omega) (by omega) ?_; conv => whnf) | (refine Or.inl (And.intro (show Region.lexB _ _ = true by kernel_rfl) ?_); conv => whnf)))
  refine HIf.bne (fun hne => ?_) (fun heq => ?_)
  · (conv => whnf)
    exact ⟨bEq (decide_eq_false (fun e => hne (by rw [e]))), rfl⟩
  · (conv => whnf)
    (repeat (first | (refine ⟨rfl, Ints.len (by assumption) ?_⟩; conv => whnf) | (refine ⟨rfl, Rows.len (by assumption) ?_⟩; conv => whnf) | (refine ⟨rfl, HLen.sl ?_⟩; conv => whnf) | (refine ⟨rfl, At.load (by assumption) ?_⟩; conv => whnf) | (refine HIf.yes ?_; conv => whnf) | (refine HIf.no ?_; conv => whnf) | (refine HIf.isT (by assumption) ?_; conv => whnf) | (refine HIf.isF (by assumption) ?_; conv => whnf) | (refine HIf.decT (by assumption) ?_; conv => whnf) | (refine HIf.decF (by assumption) ?_; conv => whnf) | (refine HIf.beqT (by assumption) ?_; conv => whnf) | (refine HIf.beqF (by assumption) ?_; conv => whnf) | (refine HIf.bneT (by assumption) ?_; conv => whnf) | (refine HIf.bneF (by assumption) ?_; conv => whnf) | (refine ⟨rfl, Ints.idxN (by assumption) (by omega) (fun p hp => ?_)⟩; conv => whnf) | (refine ⟨rfl, Rows.idxN (by assumption) (by omega) (fun p y hp hy => ?_)⟩; conv => whnf) | (refine And.intro (show Kd.isBool _ = true from rfl) ?_; conv => whnf) | (refine ⟨rfl, Ints.idx (by assumption) (by omega) (by omega) (fun p hp => ?_)⟩; conv => whnf) | (refine ⟨rfl, Rows.idx (by assumption) (by omega) (by omega) (fun p y hp hy => ?_)⟩; conv => whnf) | (refine HArith.fits (by omega) (by omega) ?_; conv => whnf) | (refine Or.inl (And.intro (show Region.lexB _ _ = true by kernel_rfl) ?_); conv => whnf)))
    refine HLoop.intro [13] [14, 15, 5, 16, 17, 18, 19, 20, 21, 22, 23, 24, 4, 25, 13] (by kernel_rfl) (by kernel_rfl) (fun vs h' => ∃ i : Nat, vs = [I i] ∧ h' = h ∧ i ≤ a.length ∧ a.take i = b.take i) (fun vs _ => a.length - natAt vs 0) ⟨0, rfl, rfl, by omega, by simp⟩ ?_
    rintro vs h' ⟨i, rfl, rfl, hi, hab⟩
    (conv => whnf)
    refine HIf.dec (fun hlt => ?_) (fun hge => ?_)
    · (conv => whnf)
      refine Or.inl (And.intro (show Region.lexB _ _ = true by kernel_rfl) ?_); (conv => whnf)
      refine ⟨rfl, Ints.idxN hx (by omega) (fun p hp => ?_)⟩
      (conv => whnf)
      refine ⟨rfl, hp.load ?_⟩
      (conv => whnf)
      refine ⟨rfl, Ints.idxN hy (by omega) (fun p2 hp2 => ?_)⟩
      (conv => whnf)
      refine ⟨rfl, hp2.load ?_⟩
      (conv => whnf)
      refine HIf.bne (fun hne => ?_) (fun he => ?_)
      · (conv => whnf)
        exact ⟨bEq (decide_eq_false (fun e => hne (by rw [e]))), rfl⟩
      · (conv => whnf)
        refine HArith.fits (by omega) (by omega) ?_
        (conv => whnf)
        exact ⟨⟨i + 1, rfl, rfl, by omega, take_more (by omega) (by omega) hab he⟩, by show a.length - (i + 1) < a.length - i; omega⟩
    · have e : i = a.length := by omega
      subst e
      (conv => whnf)
      exact ⟨bEq (decide_eq_true (eq_of_take (by omega) hab)), rfl⟩

theorem spec_CompareWords (h : Heap) (x y : H0) (a b : List Int) (hx : Ints h x a) (hy : Ints h y b) (hal : a.length ≤ 2199023255552) :
    HCalls dm Try.prog 56 [.s x, .s y] h (fun r h' => ∃ n, r = I n ∧ (n = 0 ↔ a = b) ∧ h' = h) := by
  refine calls_of_hFun (m := 0) kd_ok mixed Try.func56 rfl (by kernel_rfl) rfl rfl (of_decide_eq_true rfl) ?_; unfold hFun; (conv => whnf)
  (repeat (first | (refine ⟨rfl, Ints.len (by assumption) ?_⟩; conv => whnf) | (refine ⟨rfl, Rows.len (by assumption) ?_⟩; conv => whnf) | (refine ⟨rfl, HLen.sl ?_⟩; conv => whnf) | (refine ⟨rfl, At.load (by assumption) ?_⟩; conv => whnf) | (refine HIf.yes ?_; conv => whnf) | (refine HIf.no ?_; conv => whnf) | (refine HIf.isT (by assumption) ?_; conv => whnf) | (refine HIf.isF (by assumption) ?_; conv => whnf) | (refine HIf.decT (by assumption) ?_; conv => whnf) | (refine HIf.decF (by assumption) ?_; conv => whnf) | (refine HIf.beqT (by assumption) ?_; conv => whnf) | (refine HIf.beqF (by assumption) ?_; conv => whnf) | (refine HIf.bneT (by assumption) ?_; conv => whnf) | (refine HIf.bneF (by assumption) ?_; conv => whnf) | (refine ⟨rfl, Ints.idxN (by assumption) (by omega) (fun p hp => ?_)⟩; conv => whnf) | (refine ⟨rfl, Rows.idxN (by assumption) (by omega) (fun p y hp hy => ?_)⟩; conv => whnf) | (refine And.intro (show Kd.isBool _ = true from rfl) ?_; conv => whnf) | (refine ⟨rfl, Ints.idx (by assumption) (by omega) (by omega) (fun p hp => ?_)⟩; conv => whnf) | (refine ⟨rfl, Rows.idx (by assumption) (by omega) (by omega) (fun p y hp hy => ?_)⟩; conv => whnf) | (refine HArith.fits (by omega) (by omega) ?_; conv => whnf) | (refine Or.inl (And.intro (show Region.lexB _ _ = true by kernel_rfl) ?_); conv => whnf)))
  refine HIf.bne (fun hne => ?_) (fun heq => ?_)
  · have hn : ¬ a = b := fun e => hne (by rw [e])
    (conv => whnf)
    (repeat (first | (refine ⟨rfl, Ints.len (by assumption) ?_⟩; conv => whnf) | (refine ⟨rfl, Rows.len (by assumption) ?_⟩; conv => whnf) | (refine ⟨rfl, HLen.sl ?_⟩; conv => whnf) | (refine ⟨rfl, At.load (by assumption) ?_⟩; conv => whnf) | (refine HIf.yes ?_; conv => whnf) | (refine HIf.no ?_; conv => whnf) | (refine HIf.isT (by assumption) ?_; conv => whnf) | (refine HIf.isF (by assumption) ?_; conv => whnf) | (refine HIf.decT (by assumption) ?_; conv => whnf) | (refine HIf.decF (by assumption) ?_; conv => whnf) | (refine HIf.beqT (by assumption) ?_; conv => whnf) | (refine HIf.beqF (by assumption) ?_; conv => whnf) | (refine HIf.bneT (by assumption) ?_; conv => whnf) | (refine HIf.bneF (by assumption) ?_; conv => whnf) | (refine ⟨rfl, Ints.idxN (by assumption) (by omega) (fun p hp => ?_)⟩; conv => whnf) | (refine ⟨rfl, Rows.idxN (by assumption) (by omega) (fun p y hp hy => ?_)⟩; conv => whnf) | (refine And.intro (show Kd.isBool _ = true from rfl) ?_; conv => whnf) | (refine ⟨rfl, Ints.idx (by assumption) (by omega) (by omega) (fun p hp => ?_)⟩; conv => whnf) | (refine ⟨rfl, Rows.idx (by assumption) (by omega) (by omega) (fun p y hp hy => ?_)⟩; conv => whnf) | (refine HArith.fits (by omega) (by omega) ?_; conv => whnf) | (refine Or.inl (And.intro (show Region.lexB _ _ = true by kernel_rfl) ?_); conv => whnf)))
    refine HIf.dec (fun _ => ?_) (fun _ => ?_)
    · (conv => whnf)
      exact ⟨_, rfl, by simp [hn], rfl⟩
    · (conv => whnf)
      exact ⟨_, rfl, by simp [hn], rfl⟩
  · (conv => whnf)
    refine HLoop.intro [5] [16, 17, 18, 19, 22, 23, 24, 25, 26, 27, 28, 29, 30, 4, 31, 32, 33, 34, 35, 36, 37, 38, 39, 4, 20, 21, 5] (by kernel_rfl) (by kernel_rfl) (fun vs h' => ∃ i : Nat, vs = [I i] ∧ h' = h ∧ i ≤ a.length ∧ a.take i = b.take i) (fun vs _ => a.length - natAt vs 0) ⟨0, rfl, rfl, by omega, by simp⟩ ?_
    rintro vs h' ⟨i, rfl, rfl, hi, hab⟩
    (conv => whnf)
    refine ⟨rfl, hx.len ?_⟩
    (conv => whnf)
    refine HIf.dec (fun hlt => ?_) (fun hge => ?_)
    · (conv => whnf)
      refine Or.inl (And.intro (show Region.lexB _ _ = true by kernel_rfl) ?_); (conv => whnf)
      refine ⟨rfl, Ints.idxN hx (by omega) (fun p hp => ?_)⟩
      (conv => whnf)
      refine ⟨rfl, hp.load ?_⟩
      (conv => whnf)
      refine ⟨rfl, Ints.idxN hy (by omega) (fun p2 hp2 => ?_)⟩
      (conv => whnf)
      refine ⟨rfl, hp2.load ?_⟩
      (conv => whnf)
      refine HIf.dec (fun h1 => ?_) (fun h1 => ?_)
      · have hn : ¬ a = b := fun e => by rw [e] at h1; omega
        (conv => whnf)
        exact ⟨_, rfl, by simp [hn], rfl⟩
      · (conv => whnf)
        refine Or.inl (And.intro (show Region.lexB _ _ = true by kernel_rfl) ?_); (conv => whnf)
        refine ⟨rfl, Ints.idxN hx (by omega) (fun p3 hp3 => ?_)⟩
        (conv => whnf)
        refine ⟨rfl, hp3.load ?_⟩
        (conv => whnf)
        refine ⟨rfl, Ints.idxN hy (by omega) (fun p4 hp4 => ?_)⟩
        (conv => whnf)
        refine ⟨rfl, hp4.load ?_⟩
        (conv => whnf)
        refine HIf.dec (fun h2 => ?_) (fun h2 => ?_)
        · have hn : ¬ a = b := fun e => by rw [e] at h2; omega
          (conv => whnf)
          exact ⟨_, rfl, by simp [hn], rfl⟩
        · (conv => whnf)
          refine HArith.fits (by omega) (by omega) ?_
          (conv => whnf)
          exact ⟨⟨i + 1, rfl, rfl, by omega, take_more (by omega) (by omega) hab (by omega)⟩, by show a.length - (i + 1) < a.length - i; omega⟩
    · have e : i = a.length := by omega
      subst e
      (conv => whnf)
      exact ⟨_, rfl, by simp [eq_of_take (by omega) hab], rfl⟩

theorem spec_EqualWords (h : Heap) (x y : H0) (a b : List Int) (hx : Ints h x a) (hy : Ints h y b) (hal : a.length ≤ 2199023255552) :
    HCalls dm Try.prog 29 [.s x, .s y] h (fun r h' => r = B (decide (a = b)) ∧ h' = h) := by
  refine calls_of_hFun (m := 0) kd_ok mixed Try.func29 rfl (by kernel_rfl) rfl rfl (of_decide_eq_true rfl) ?_; unfold hFun; (conv => whnf)
  refine (spec_CompareWords _ _ _ a b hx hy hal).mono ?_
  rintro r h' ⟨n, rfl, hn, rfl⟩
  (conv => whnf)
  refine ⟨bEq ?_, rfl⟩
  by_cases e : a = b
  · simp [e, hn.2 e]
  · simp [e, hn]

end Go.Proofs.Ytnooeaemjnmkdaa.Hx

namespace Go.Proofs.Ytnooeaemjnmkdaa.Hx
open Go.RowKit
variable {dm : Bool}

def descs (v : List Int) (k : Nat) : List Int := ((List.range k).filter fun j => decide (v.getD j 0 < 0)).map fun (j : Nat) => (j : Int)

theorem descs_none (v : List Int) : descs v 0 = [] := rfl
theorem descs_le (v : List Int) (k : Nat) : (descs v k).length ≤ k := by
  have := List.length_filter_le (fun j => decide (v.getD j 0 < 0)) (List.range k)
  simp [descs] at this ⊢
  exact this
theorem descs_in (v : List Int) (k : Nat) (h : v.getD k 0 < 0) : descs v (k + 1) = descs v k ++ [(k : Int)] := by
  unfold descs
  rw [List.range_succ, List.filter_append, List.map_append, List.filter_cons_of_pos (p := fun j => decide (v.getD j 0 < 0)) (decide_eq_true h), List.filter_nil]
  rfl
theorem descs_out (v : List Int) (k : Nat) (h : ¬ v.getD k 0 < 0) : descs v (k + 1) = descs v k := by
  unfold descs
  rw [List.range_succ, List.filter_append, List.map_append, List.filter_cons_of_neg (p := fun j => decide (v.getD j 0 < 0)) (by simp only [decide_eq_true_eq]; exact h), List.filter_nil, List.map_nil, List.append_nil]

def leftDescents (c : List (List Int)) (w : List Int) : List Int := if isWord c w then descs (imageOf c w) c.length else []
theorem leftDescents_length (c : List (List Int)) (w : List Int) : (leftDescents c w).length ≤ c.length := by
  unfold leftDescents
  split
  · exact descs_le _ _
  · simp
theorem leftDescents_off {c : List (List Int)} {w : List Int} (h : isWord c w = false) : leftDescents c w = [] := by simp [leftDescents, h]
theorem leftDescents_on {c : List (List Int)} {w : List Int} (h : isWord c w = true) : leftDescents c w = descs (imageOf c w) (imageOf c w).length := by rw [imageOf_length]; simp [leftDescents, h]

theorem Own.widen {b e e' : Nat} {h : Heap} {x : H0} {l : List Int} (H : Own b e h x l) (k : e ≤ e') : Own b e' h x l := by
  obtain ⟨r, t, g1, g2, g3, hr⟩ := H
  exact ⟨r, t, g1, g2, by omega, hr⟩


end Go.Proofs.Ytnooeaemjnmkdaa.Hx
