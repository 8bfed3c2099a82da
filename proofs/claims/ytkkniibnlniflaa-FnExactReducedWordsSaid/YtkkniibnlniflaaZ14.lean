/-
  Contracts of words one behind the other, of places in lists of words, and of commuting words, of the program and of the reference; calls that make a slice, in a region that draws its order.
-/
import Derived.Test.YtkkniibnlniflaaZ13
namespace Go.Proofs.Ytkkniibnlniflaa.Hx
open Go.RowKit
variable {dm : Bool}

/-- Rows that are given up say nothing. -/
theorem Rep.soft {B0 : Nat} {φ : Plan} {h h' : Heap} {w : World} (R : Rep B0 φ h w) (hl : h'.length = h.length) (h1 : ∀ (r : Nat) (cs : List H0), h'[r]? = some (Row.ro cs) → h[r]? = some (Row.ro cs)) (h2 : ∀ (r : Nat) (cs : List H0), h'[r]? = some (Row.own cs) → h[r]? = some (Row.own cs))
    (h3 : ∀ (r : Nat) (so : Bool) (ks : List Key), h'[r]? = some (Row.keys so ks) → h[r]? = some (Row.keys so ks)) : Rep B0 φ h' w :=
  ⟨R.len.trans hl.symm, R.base, fun r cs p a b => R.ro r cs p (h1 r cs a) b, fun r cs p a b => R.own r cs p (h2 r cs a) b, fun r r' cs cs' p p' n a a' b b' => R.apart r r' cs cs' p p' n (h2 _ _ a) (h2 _ _ a') b b',
    fun r so ks p a b => R.keys r so ks p (h3 _ _ _ a) b, fun r r' so so' ks ks' p p' n a a' b b' => R.apartK r r' so so' ks ks' p p' n (h3 _ _ _ a) (h3 _ _ _ a') b b', R.tab⟩

def softRow : Row → Row
  | .ro _ => .gone
  | x => x

/-- A call that makes a slice, in a region that draws its order. -/
theorem HCallF.fresh {P : Program} {k : FuncId} {args : List HV} {h : Heap} {K : HV → Heap → Prop} {l : List Int} (hc : HCalls dm P k args (freeze h) (fun r h' => ∃ y, r = .s y ∧ Fresh (freeze h) h' y l))
    (hK : ∀ h' y, Fresh h h' y l → K (.s y) h') : HCallF dm P k args h K := by
  refine ⟨⟨hc.enters, fun B0 φ w vargs R a => (hc.out B0 φ w vargs R a).mono ?_⟩⟩
  rintro e w' ⟨v, x, h', φ', rfl, ⟨y, rfl, E, r, t, rfl, hr1, hr2⟩, g2, g3, g4, g5⟩
  have hfl := freeze_length h
  have hEl := E.1
  have hr3 := get_lt hr2
  have hget : ∀ (q : Nat) (x : Row), (freeze h ++ (h'.drop h.length).map softRow)[q]? = some x → x ≠ .gone → h'[q]? = some x := fun q x hx hne => by
    by_cases hq : q < h.length
    · rw [List.getElem?_append_left (by omega)] at hx
      rw [E.2 q (by omega)]
      exact hx
    · rw [List.getElem?_append_right (by omega), List.getElem?_map, List.getElem?_drop] at hx
      have e : h.length + (q - (freeze h).length) = q := by omega
      rw [e] at hx
      cases hh : h'[q]? with
      | none => rw [hh] at hx; cases hx
      | some z =>
        rw [hh] at hx
        cases z <;> simp [softRow] at hx
        · exact absurd hx.symm hne
        · rw [hx]
        · exact absurd hx.symm hne
        · rw [hx]
  have hrow : ∀ g : Heap, g.length = h.length → (g ++ (h'.drop h.length).map softRow)[r]? = some (.own (l.map ci ++ t)) := fun g hg => by
    rw [List.getElem?_append_right (by omega), List.getElem?_map, List.getElem?_drop]
    have e : h.length + (r - g.length) = r := by omega
    rw [e, hr2]
    rfl
  refine ⟨v, _, freeze h ++ (h'.drop h.length).map softRow, φ', rfl, ⟨(h'.drop h.length).map softRow, rfl, fun z hz => ?_, hK _ _ ⟨Ext.push _ _, r, t, rfl, by omega, hrow h rfl⟩⟩, g2, ?_, g4, g5⟩
  · obtain ⟨z0, _, rfl⟩ := List.mem_map.1 hz
    cases z0 <;> rfl
  · exact g3.soft (by simp; omega) (fun q cs hq => hget q _ hq (by simp)) (fun q cs hq => hget q _ hq (by simp)) (fun q so ks hq => hget q _ hq (by simp))

theorem HArith.to {e e' : Int} {K : HV → Prop} (h : e = e') (h1 : -9223372036854775808 ≤ e') (h2 : e' ≤ 9223372036854775807) (hK : K (I e')) : HArith .i64 e K := by
  subst h
  exact HArith.fits h1 h2 hK

theorem At.own {h : Heap} {r : Nat} {x : H0} (hr : h[r]? = some (.own [x])) : At h (.ptr r 0) x := ⟨r, 0, _, [x], rfl, hr, rfl, rfl⟩

def indexOf (L : List (List Int)) (w : List Int) : Int := if L.findIdx (fun l => decide (l = w)) < L.length then (L.findIdx (fun l => decide (l = w)) : Nat) else -1

theorem indexOf_at {L : List (List Int)} {w : List Int} {i : Nat} (hi : i < L.length) (h : L.getD i [] = w) (hb : ∀ k, k < i → L.getD k [] ≠ w) : indexOf L w = i := by
  have e : L.findIdx (fun l => decide (l = w)) = i := by
    rw [List.findIdx_eq hi]
    refine ⟨by simpa [List.getD, hi] using h, fun j hj => ?_⟩
    have := hb j hj
    have hjl : j < L.length := by omega
    simpa [List.getD, hjl] using this
  unfold indexOf
  rw [e, if_pos hi]
theorem indexOf_none {L : List (List Int)} {w : List Int} (hb : ∀ k, k < L.length → L.getD k [] ≠ w) : indexOf L w = -1 := by
  have e : L.findIdx (fun l => decide (l = w)) = L.length := by
    rw [List.findIdx_eq_length]
    intro x hx
    obtain ⟨k, hk, rfl⟩ := List.getElem_of_mem hx
    have := hb k hk
    simpa [List.getD, hk] using this
  unfold indexOf
  rw [e, if_neg (by omega)]

theorem lettersOk_app (c : List (List Int)) (a b : List Int) : lettersOk c (a ++ b) = (lettersOk c a && lettersOk c b) := by simp [lettersOk, List.all_append]

def commute (c : List (List Int)) (a b : List Int) : Bool := isWord c a && isWord c b && decide (imageOf c (a ++ b) = imageOf c (b ++ a))

theorem flat_len : ∀ L : List (List Int), L.flatten.length = tot L
  | [] => rfl
  | l :: L => by rw [List.flatten_cons, List.length_append, flat_len L]; rfl
theorem flat_succ (L : List (List Int)) {k : Nat} (h : k < L.length) : (L.take (k + 1)).flatten = (L.take k).flatten ++ L.getD k [] := by
  rw [List.take_succ_eq_append_getElem h, List.flatten_append]
  simp [List.getD, h]
theorem tot_none_row {L : List (List Int)} (h : tot L = 0) (k : Nat) (hk : k < L.length) : L.getD k [] = [] := by
  have := len_le_tot hk
  exact List.length_eq_zero_iff.1 (by omega)
theorem flat_none {L : List (List Int)} (h : tot L = 0) : L.flatten = [] := List.length_eq_zero_iff.1 (by rw [flat_len]; exact h)

theorem tot_three (a b : List Int) : tot [[], a, b] = a.length + b.length := by simp [tot]

theorem Ints.nil (h : Heap) : Ints h (.pl (.slice none 0 0)) [] := Shows.nils none 0

theorem HApp.nilNil {h : Heap} {x : H0} {K : HV → Heap → Prop} (hx : Ints h x []) (hK : K (.s (.pl (.slice none 0 0))) h) : HApp h (.s (.pl (.slice none 0 0))) (.s x) K :=
  ⟨[], hx, by simp, by simp, by simpa using hK⟩

theorem Own.more {hb h : Heap} {x y : H0} {l m : List Int} {K : HV → Heap → Prop} (E : Ext hb h) (H : Own hb.length h.length h y l) (hx : Ints h x m) (hl : l.length + m.length ≤ 2199023255552)
    (hK : ∀ h' y', Ext hb h' → Own hb.length h'.length h' y' (l ++ m) → K (.s y') h') : HApp h (.s y) (.s x) K := by
  obtain ⟨r, h1, h2, O⟩ := H.row
  refine HApp.moreR O hx hl (fun h' r' y' B hr' O' => hK h' y' (E.but B h1) (O'.own ?_))
  have := E.1
  omega

/-- Slices in a literal. -/
theorem Rows.lit {h : Heap} {xs : List H0} {L : List (List Int)} (hl : xs.length = L.length) (hx : ∀ (i : Nat) (y : H0) (l : List Int), xs[i]? = some y → L[i]? = some l → Ints h y l) : Rows (h ++ [.own xs]) (.sl h.length 0 xs.length) L := by
  refine ⟨xs, ?_, hl, fun i y l a b => (hx i y l a b).ext (Ext.push _ _)⟩
  have := Shows.own h.length 0 xs.length xs (get_new h (.own xs)) (by omega)
  simpa using this

theorem Ints.one {h : Heap} {x : H0} {l : List Int} (H : Ints h x l) : x.one = true := by
  unfold Ints at H
  generalize l.map ci = L at H
  cases H <;> rfl

theorem three_one {r : Nat} {x y : H0} (hx : x.one = true) (hy : y.one = true) : ∀ c ∈ [H0.sl r 0 0, x, y], c.one = true := by
  intro c hc
  simp only [List.mem_cons, List.not_mem_nil, or_false] at hc
  rcases hc with rfl | rfl | rfl
  · rfl
  · exact hx
  · exact hy

theorem Rows.three {h : Heap} {x y z : H0} {a b c : List Int} (hx : Ints h x a) (hy : Ints h y b) (hz : Ints h z c) : Rows (h ++ [.own [x, y, z]]) (.sl h.length 0 3) [a, b, c] := by
  refine Rows.lit (xs := [x, y, z]) rfl (fun i u l h1 h2 => ?_)
  match i with
  | 0 => simp at h1 h2; subst h1; subst h2; exact hx
  | 1 => simp at h1 h2; subst h1; subst h2; exact hy
  | 2 => simp at h1 h2; subst h1; subst h2; exact hz
  | i + 3 => simp at h1



theorem spec_ConcatWords (h : Heap) (x0 : H0) (a0 : List Int) (x1 : H0) (a1 : List Int) (hx0 : Ints h x0 a0) (hx1 : Ints h x1 a1) (s0 : a0.length ≤ 1048576) (s1 : a1.length ≤ 1048576) :
    HCalls dm Try.prog 31 [.s x0, .s x1] h (fun r h' => ∃ y, r = .s y ∧ Fresh h h' y (a0 ++ a1)) := by
  refine calls_of_hFun (m := 0) kd_ok mixed Try.func31 rfl (by kernel_rfl) rfl rfl (of_decide_eq_true rfl) ?_; unfold hFun; (conv => whnf)
  refine HLit.empty ?_
  (conv => whnf)
  refine ⟨rfl, rfl, HApp.copy hx0 (by omega) (fun h1 y1 E1 O1 => ?_)⟩
  (conv => whnf)
  refine ⟨rfl, rfl, Own.more E1 O1 (hx1.ext E1) (by omega) (fun h2 y2 E2 O2 => ?_)⟩
  (conv => whnf)
  exact ⟨_, rfl, Fresh.of E2 O2⟩

theorem lib_Grow (h : Heap) (n : Nat) (hn : n ≤ 2199023255552) :
    HCalls dm Try.prog 165 [.s (.pl (.slice none 0 0)), I n] h (fun r h' => (n = 0 ∧ r = .s (.pl (.slice none 0 0)) ∧ h' = h) ∨ (0 < n ∧ ∃ y, r = .s y ∧ Fresh h h' y [])) := by
  refine calls_of_hFun (m := 0) kd_ok mixed Try.func165 rfl (by kernel_rfl) rfl rfl (of_decide_eq_true rfl) ?_; unfold hFun; (conv => whnf)
  (repeat (first | (refine ⟨rfl, Ints.len (by assumption) ?_⟩; conv => whnf) | (refine ⟨rfl, Rows.len (by assumption) ?_⟩; conv => whnf) | (refine ⟨rfl, HLen.sl ?_⟩; conv => whnf) | (refine ⟨rfl, At.load (by assumption) ?_⟩; conv => whnf) | (refine HIf.yes ?_; conv => whnf) | (refine HIf.no ?_; conv => whnf) | (refine HIf.isT (by assumption) ?_; conv => whnf) | (refine HIf.isF (by assumption) ?_; conv => whnf) | (refine HIf.decT (by assumption) ?_; conv => whnf) | (refine HIf.decF (by assumption) ?_; conv => whnf) | (refine HIf.beqT (by assumption) ?_; conv => whnf) | (refine HIf.beqF (by assumption) ?_; conv => whnf) | (refine HIf.bneT (by assumption) ?_; conv => whnf) | (refine HIf.bneF (by assumption) ?_; conv => whnf) | (refine ⟨rfl, Ints.idxN (by assumption) (by omega) (fun p hp => ?_)⟩; conv => whnf) | (refine ⟨rfl, Rows.idxN (by assumption) (by omega) (fun p y hp hy => ?_)⟩; conv => whnf) | (refine And.intro (show Kd.isBool _ = true from rfl) ?_; conv => whnf) | (refine ⟨rfl, Ints.idx (by assumption) (by omega) (by omega) (fun p hp => ?_)⟩; conv => whnf) | (refine ⟨rfl, Rows.idx (by assumption) (by omega) (by omega) (fun p y hp hy => ?_)⟩; conv => whnf) | (refine HArith.fits (by omega) (by omega) ?_; conv => whnf) | (refine Or.inl (And.intro (show Region.lexB _ _ = true by kernel_rfl) ?_); conv => whnf)))
  refine ⟨rfl, ⟨none, 0, 0, rfl, ?_⟩⟩
  (conv => whnf)
  refine ⟨rfl, ⟨0, rfl, ?_⟩⟩
  (conv => whnf)
  refine HArith.to (e' := 0) (by omega) (by omega) (by omega) ?_
  (conv => whnf)
  refine HArith.to (e' := (n : Int)) (by omega) (by omega) (by omega) ?_
  (conv => whnf)
  refine HIf.dec (fun hlt => ?_) (fun hge => ?_)
  · (conv => whnf)
    refine ⟨rfl, ⟨none, 0, 0, rfl, ?_⟩⟩
    (conv => whnf)
    refine ⟨rfl, ⟨0, 0, 0, rfl, Or.inl ⟨rfl, rfl⟩, Or.inr ⟨.i64, rfl⟩, Nat.le_refl _, Or.inl (Nat.le_refl _), ?_⟩⟩
    (conv => whnf)
    refine ⟨⟨.i64, n, rfl, rfl, by omega, hn, ?_⟩⟩
    (conv => whnf)
    refine ⟨rfl, ⟨0, rfl, ?_⟩⟩
    (conv => whnf)
    refine ⟨rfl, ⟨n, 0, 0, rfl, Or.inl ⟨rfl, rfl⟩, Or.inr ⟨.i64, rfl⟩, Nat.le_refl _, Or.inl (Nat.zero_le _), ?_⟩⟩
    (conv => whnf)
    exact Or.inr ⟨by omega, _, rfl, Ext.push _ _, h.length, List.replicate n (.pl (.int .i64 0)), rfl, Nat.le_refl _, get_new _ _⟩
  · (conv => whnf)
    exact Or.inl ⟨by omega, rfl, rfl⟩

theorem lib_Concat (h : Heap) (x : H0) (L : List (List Int)) (hx : Rows h x L) (hL : L.length ≤ 4194304 ∧ tot L ≤ 4194304) :
    HCalls dm Try.prog 143 [.s x] h (fun r h' => ∃ y, r = .s y ∧ Ext h h' ∧ Ints h' y L.flatten ∧ (0 < tot L → Fresh h h' y L.flatten)) := by
  refine calls_of_hFun (m := 0) kd_ok mixed Try.func143 rfl (by kernel_rfl) rfl rfl (of_decide_eq_true rfl) ?_; unfold hFun; (conv => whnf)
  refine ⟨rfl, hx.len ?_⟩
  (conv => whnf)
  refine HLoop.intro [11, 3] [12, 13, 14, 5, 15, 16, 17, 18, 3, 19, 20, 21, 22, 11] (by kernel_rfl) (by kernel_rfl) (fun vs h' => ∃ k : Nat, vs = [I k, I (tot (L.take k))] ∧ k ≤ L.length ∧ h' = h) (fun vs _ => L.length - natAt vs 0) ⟨0, rfl, by omega, rfl⟩ ?_
  rintro vs h' ⟨k, rfl, hk, hh⟩
  subst h'
  (conv => whnf)
  refine HIf.dec (fun hlt => ?_) (fun hge => ?_)
  · have hle := len_le_tot (L := L) (i := k) (by omega)
    have hs := tot_succ L k (by omega)
    (conv => whnf)
    refine ⟨rfl, Rows.idxN hx (by omega) (fun p z hp hz => ?_)⟩
    (conv => whnf)
    refine ⟨rfl, hp.load ?_⟩
    (conv => whnf)
    refine ⟨rfl, hz.len ?_⟩
    (conv => whnf)
    refine HArith.fits (by omega) (by omega) ?_
    (conv => whnf)
    refine HIf.decF (by omega) ?_
    (conv => whnf)
    refine HArith.fits (by omega) (by omega) ?_
    (conv => whnf)
    have e : ((tot (L.take k) : Nat) : Int) + ((L.getD k []).length : Nat) = ((tot (L.take (k + 1)) : Nat) : Int) := by omega
    rw [e]
    exact ⟨⟨k + 1, rfl, by omega, rfl⟩, by show L.length - (k + 1) < L.length - k; omega⟩
  have e : k = L.length := by omega
  subst e
  rw [List.take_length]
  (conv => whnf)
  refine (lib_Grow _ (tot L) (by omega)).mono ?_
  rintro r h1 (⟨h0, rfl, hh⟩ | ⟨h0, y0, rfl, f0⟩)
  · subst h1
    (conv => whnf)
    refine ⟨rfl, hx.len ?_⟩
    (conv => whnf)
    refine HLoop.intro [27, 6] [28, 29, 30, 8, 31, 32, 33, 6, 34, 27] (by kernel_rfl) (by kernel_rfl) (fun vs h' => ∃ k : Nat, vs = [I k, .s (.pl (.slice none 0 0))] ∧ k ≤ L.length ∧ h' = h) (fun vs _ => L.length - natAt vs 0) ⟨0, rfl, by omega, rfl⟩ ?_
    rintro vs h' ⟨k, rfl, hk, hh⟩
    subst h'
    (conv => whnf)
    refine HIf.dec (fun hlt => ?_) (fun hge => ?_)
    · (conv => whnf)
      refine ⟨rfl, Rows.idxN hx (by omega) (fun p z hp hz => ?_)⟩
      rw [tot_none_row h0 k (by omega)] at hz
      (conv => whnf)
      refine ⟨rfl, hp.load ?_⟩
      (conv => whnf)
      refine ⟨rfl, rfl, HApp.nilNil hz ?_⟩
      (conv => whnf)
      refine HArith.fits (by omega) (by omega) ?_
      (conv => whnf)
      exact ⟨⟨k + 1, rfl, by omega, rfl⟩, by show L.length - (k + 1) < L.length - k; omega⟩
    · (conv => whnf)
      rw [flat_none h0]
      exact ⟨_, rfl, Ext.refl _, Ints.nil _, fun h => by omega⟩
  · have hx1 := hx.ext f0.1
    (conv => whnf)
    refine ⟨rfl, hx1.len ?_⟩
    (conv => whnf)
    refine HLoop.intro [27, 6] [28, 29, 30, 8, 31, 32, 33, 6, 34, 27] (by kernel_rfl) (by kernel_rfl) (fun vs h' => ∃ (k : Nat) (z : H0), vs = [I k, .s z] ∧ k ≤ L.length ∧ Ext h h' ∧ Own h.length h'.length h' z (L.take k).flatten) (fun vs _ => L.length - natAt vs 0) ⟨0, _, rfl, by omega, f0.1, f0.own⟩ ?_
    rintro vs h' ⟨k, z, rfl, hk, E, O⟩
    have hx := hx.ext E
    (conv => whnf)
    refine HIf.dec (fun hlt => ?_) (fun hge => ?_)
    · have hle := len_le_tot (L := L) (i := k) (by omega)
      have hfl := flat_len (L.take k)
      (conv => whnf)
      refine ⟨rfl, Rows.idxN hx (by omega) (fun p y hp hy => ?_)⟩
      (conv => whnf)
      refine ⟨rfl, hp.load ?_⟩
      (conv => whnf)
      refine ⟨rfl, rfl, Own.more E O hy (by omega) (fun h2 y2 E2 O2 => ?_)⟩
      rw [← flat_succ L (by omega)] at O2
      (conv => whnf)
      refine HArith.fits (by omega) (by omega) ?_
      (conv => whnf)
      exact ⟨⟨k + 1, y2, rfl, by omega, E2, O2⟩, by show L.length - (k + 1) < L.length - k; omega⟩
    · have e : k = L.length := by omega
      subst e
      rw [List.take_length] at O
      (conv => whnf)
      exact ⟨_, rfl, E, O.ints, fun _ => Fresh.of E O⟩

theorem impl_ConcatWords (h : Heap) (x0 : H0) (a0 : List Int) (x1 : H0) (a1 : List Int) (hx0 : Ints h x0 a0) (hx1 : Ints h x1 a1) (s0 : a0.length ≤ 1048576) (s1 : a1.length ≤ 1048576) :
    HCalls dm Try.prog 102 [.s x0, .s x1] h (fun r h' => ∃ y, r = .s y ∧ Ext h h' ∧ Ints h' y (a0 ++ a1)) := by
  have E := Ext.push h [Row.own []]
  have O := OwnR.push h []
  have E2 := E.trans (Ext.push (h ++ [Row.own []]) [Row.own [.sl h.length 0 0, x0, x1]])
  have ht := tot_three a0 a1
  refine calls_of_hFun (m := 0) kd_ok mixed Try.func102 rfl (by kernel_rfl) rfl rfl (of_decide_eq_true rfl) ?_; unfold hFun; (conv => whnf)
  refine HLit.empty ?_
  (conv => whnf)
  refine HLit.of (xs := [.sl h.length 0 0, x0, x1]) rfl (three_one hx0.one hx1.one) (by omega) ?_
  (conv => whnf)
  refine (lib_Concat _ _ [[], a0, a1] (Rows.three O.ints (hx0.ext E) (hx1.ext E)) ⟨by simp, by omega⟩).mono ?_
  rintro r h2 ⟨y, rfl, E3, hy, _⟩
  (conv => whnf)
  exact ⟨_, rfl, E2.trans E3, by simpa using hy⟩

end Go.Proofs.Ytkkniibnlniflaa.Hx
