
/-
  The contracts of the laws' own helpers that copy and mark slices of slices of ints.
-/
import Derived.Test.YtecfgbjddkpkcaaLb
namespace Go.Proofs.Ytecfgbjddkpkcaa.Hx
open Go.RowKit
variable {dm : Bool}

/-- The marks of row j. -/
def mrkRow (k : Int) (L : List (List Int)) (j : Nat) : List Int := marks (k + tot (L.take j)) (L.getD j []).length
def mrk (k : Int) (L : List (List Int)) : List (List Int) := (List.range L.length).map (mrkRow k L)

theorem mrk_length (k : Int) (L : List (List Int)) : (mrk k L).length = L.length := by simp [mrk]
theorem mrk_get (k : Int) (L : List (List Int)) {i : Nat} (h : i < L.length) : (mrk k L).getD i [] = mrkRow k L i := by simp [mrk, List.getD, h]

theorem list_eq_of_getD {L M : List (List Int)} (h : L.length = M.length) (k : ∀ i, i < L.length → L.getD i [] = M.getD i []) : L = M := by
  apply List.ext_getElem h
  intro i h1 h2
  have := k i h1
  simpa [List.getD, h1, h2] using this

def nilS : H0 := .pl (.slice none 0 0)

theorem HMake.rows {l : Int} {h : Heap} {K : HV → Heap → Prop} (n : Nat) (hl : l = n) (hn : n ≤ 2 ^ 41) (hK : K (.s (.sl h.length 0 n)) (h ++ [.own (List.replicate n nilS)])) : HMake (.slice none 0 0) (I l) (I l) h K := by
  subst hl
  exact ⟨.i64, .i64, n, n, rfl, rfl, Nat.le_refl _, hn, hK⟩

theorem markIntS_own (b e : Nat) (h : Heap) (x : H0) (l : List Int) (k : Int) (H : Own b e h x l) (hk : 0 ≤ k) (hkn : k ≤ 4611686018427387904) (hn : l.length ≤ 2199023255552) :
    HCalls dm Try.prog 14 [.s x, I k] h (fun r h' => r = I (k + l.length) ∧ Mid h h' b e ∧ Own b e h' x (marks k l.length)) := by
  obtain ⟨r, t, rfl, h1, h2, hr⟩ := H
  refine (markIntS_any h r l.length k _ hr (by simp) hk hkn hn).mono ?_
  rintro x h' ⟨rfl, rfl⟩
  have hrl := get_lt hr
  refine ⟨rfl, Mid.set h h1 h2 _, r, (l.map ci ++ t).drop l.length, by rw [marks_length], h1, h2, by rw [List.getElem?_set_self hrl]⟩


theorem toIntSS_any (h : Heap) (x : H0) (L : List (List Int)) (hx : Rows h x L) (hL : L.length ≤ 2199023255552) (ht : tot L ≤ 2199023255552) :
    HCalls dm Try.prog 9 [.s x] h (fun r h' => ∃ y, r = .s y ∧ Ext h h' ∧ OwnM h.length h'.length h' y L) := by
  refine calls_of_hFun (m := 0) kd_ok mixed Try.func9 rfl (by kernel_rfl) rfl rfl (of_decide_eq_true rfl) ?_; unfold hFun; (conv => whnf)
  (repeat (first | (refine ⟨rfl, Ints.len (by assumption) ?_⟩; conv => whnf) | (refine ⟨rfl, Rows.len (by assumption) ?_⟩; conv => whnf) | (refine ⟨rfl, HLen.sl ?_⟩; conv => whnf) | (refine ⟨rfl, At.load (by assumption) ?_⟩; conv => whnf) | (refine HIf.yes ?_; conv => whnf) | (refine HIf.no ?_; conv => whnf) | (refine HIf.isT (by assumption) ?_; conv => whnf) | (refine HIf.isF (by assumption) ?_; conv => whnf) | (refine HIf.decT (by assumption) ?_; conv => whnf) | (refine HIf.decF (by assumption) ?_; conv => whnf) | (refine HIf.beqT (by assumption) ?_; conv => whnf) | (refine HIf.beqF (by assumption) ?_; conv => whnf) | (refine HIf.bneT (by assumption) ?_; conv => whnf) | (refine HIf.bneF (by assumption) ?_; conv => whnf) | (refine ⟨rfl, Ints.idxN (by assumption) (by omega) (fun p hp => ?_)⟩; conv => whnf) | (refine ⟨rfl, Rows.idxN (by assumption) (by omega) (fun p y hp hy => ?_)⟩; conv => whnf) | (refine And.intro (show Kd.isBool _ = true from rfl) ?_; conv => whnf) | (refine ⟨rfl, Ints.idx (by assumption) (by omega) (by omega) (fun p hp => ?_)⟩; conv => whnf) | (refine ⟨rfl, Rows.idx (by assumption) (by omega) (by omega) (fun p y hp hy => ?_)⟩; conv => whnf) | (refine HArith.fits (by omega) (by omega) ?_; conv => whnf) | (refine Or.inl (And.intro (show Region.lexB _ _ = true by kernel_rfl) ?_); conv => whnf)))
  refine HMake.rows L.length rfl hL ?_
  (conv => whnf)
  refine HLoop.intro [4] [8, 9, 10, 11, 14, 15, 16, 17, 18, 19, 20, 21, 12, 13, 4] (by kernel_rfl) (by kernel_rfl) (fun vs h' => ∃ i : Nat, vs = [I i] ∧ i ≤ L.length ∧ Ext h h' ∧ h'.length = h.length + 1 + i ∧ (∃ cs, h'[h.length]? = some (.own cs) ∧ cs.length = L.length ∧ ∀ j, j < i → cs[j]? = some (.sl (h.length + 1 + j) 0 (L.getD j []).length)) ∧ (∀ j, j < i → h'[h.length + 1 + j]? = some (.own ((L.getD j []).map ci)))) (fun vs _ => L.length - natAt vs 0) ⟨0, rfl, by omega, Ext.push _ _, by simp, ⟨_, get_new _ _, by simp, fun j hj => by omega⟩, fun j hj => by omega⟩ ?_
  rintro vs h' ⟨i, rfl, hi, he, hlen, ⟨cs, hc, hcl, hcs⟩, hin⟩
  have hx' := hx.ext he
  (conv => whnf)
  (repeat (first | (refine ⟨rfl, Ints.len (by assumption) ?_⟩; conv => whnf) | (refine ⟨rfl, Rows.len (by assumption) ?_⟩; conv => whnf) | (refine ⟨rfl, HLen.sl ?_⟩; conv => whnf) | (refine ⟨rfl, At.load (by assumption) ?_⟩; conv => whnf) | (refine HIf.yes ?_; conv => whnf) | (refine HIf.no ?_; conv => whnf) | (refine HIf.isT (by assumption) ?_; conv => whnf) | (refine HIf.isF (by assumption) ?_; conv => whnf) | (refine HIf.decT (by assumption) ?_; conv => whnf) | (refine HIf.decF (by assumption) ?_; conv => whnf) | (refine HIf.beqT (by assumption) ?_; conv => whnf) | (refine HIf.beqF (by assumption) ?_; conv => whnf) | (refine HIf.bneT (by assumption) ?_; conv => whnf) | (refine HIf.bneF (by assumption) ?_; conv => whnf) | (refine ⟨rfl, Ints.idxN (by assumption) (by omega) (fun p hp => ?_)⟩; conv => whnf) | (refine ⟨rfl, Rows.idxN (by assumption) (by omega) (fun p y hp hy => ?_)⟩; conv => whnf) | (refine And.intro (show Kd.isBool _ = true from rfl) ?_; conv => whnf) | (refine ⟨rfl, Ints.idx (by assumption) (by omega) (by omega) (fun p hp => ?_)⟩; conv => whnf) | (refine ⟨rfl, Rows.idx (by assumption) (by omega) (by omega) (fun p y hp hy => ?_)⟩; conv => whnf) | (refine HArith.fits (by omega) (by omega) ?_; conv => whnf) | (refine Or.inl (And.intro (show Region.lexB _ _ = true by kernel_rfl) ?_); conv => whnf)))
  refine HIf.dec (fun hlt => ?_) (fun hge => ?_)
  · have hle := len_le_tot (L := L) (i := i) (by omega)
    (conv => whnf)
    (repeat (first | (refine ⟨rfl, Ints.len (by assumption) ?_⟩; conv => whnf) | (refine ⟨rfl, Rows.len (by assumption) ?_⟩; conv => whnf) | (refine ⟨rfl, HLen.sl ?_⟩; conv => whnf) | (refine ⟨rfl, At.load (by assumption) ?_⟩; conv => whnf) | (refine HIf.yes ?_; conv => whnf) | (refine HIf.no ?_; conv => whnf) | (refine HIf.isT (by assumption) ?_; conv => whnf) | (refine HIf.isF (by assumption) ?_; conv => whnf) | (refine HIf.decT (by assumption) ?_; conv => whnf) | (refine HIf.decF (by assumption) ?_; conv => whnf) | (refine HIf.beqT (by assumption) ?_; conv => whnf) | (refine HIf.beqF (by assumption) ?_; conv => whnf) | (refine HIf.bneT (by assumption) ?_; conv => whnf) | (refine HIf.bneF (by assumption) ?_; conv => whnf) | (refine ⟨rfl, Ints.idxN (by assumption) (by omega) (fun p hp => ?_)⟩; conv => whnf) | (refine ⟨rfl, Rows.idxN (by assumption) (by omega) (fun p y hp hy => ?_)⟩; conv => whnf) | (refine And.intro (show Kd.isBool _ = true from rfl) ?_; conv => whnf) | (refine ⟨rfl, Ints.idx (by assumption) (by omega) (by omega) (fun p hp => ?_)⟩; conv => whnf) | (refine ⟨rfl, Rows.idx (by assumption) (by omega) (by omega) (fun p y hp hy => ?_)⟩; conv => whnf) | (refine HArith.fits (by omega) (by omega) ?_; conv => whnf) | (refine Or.inl (And.intro (show Region.lexB _ _ = true by kernel_rfl) ?_); conv => whnf)))
    refine (toIntS_any _ _ _ (by assumption) (by omega)).mono ?_
    rintro r h2 ⟨rfl, rfl⟩
    (conv => whnf)
    refine ⟨rfl, HIdx.sl (by omega) (by omega) ?_⟩
    (conv => whnf)
    have hc2 : (h' ++ [Row.own ((L.getD i []).map ci)])[h.length]? = some (.own cs) := (Ext.push h' _).row hc
    refine ⟨rfl, HStore.own hc2 (by omega) rfl ?_⟩
    (conv => whnf)
    (repeat (first | (refine ⟨rfl, Ints.len (by assumption) ?_⟩; conv => whnf) | (refine ⟨rfl, Rows.len (by assumption) ?_⟩; conv => whnf) | (refine ⟨rfl, HLen.sl ?_⟩; conv => whnf) | (refine ⟨rfl, At.load (by assumption) ?_⟩; conv => whnf) | (refine HIf.yes ?_; conv => whnf) | (refine HIf.no ?_; conv => whnf) | (refine HIf.isT (by assumption) ?_; conv => whnf) | (refine HIf.isF (by assumption) ?_; conv => whnf) | (refine HIf.decT (by assumption) ?_; conv => whnf) | (refine HIf.decF (by assumption) ?_; conv => whnf) | (refine HIf.beqT (by assumption) ?_; conv => whnf) | (refine HIf.beqF (by assumption) ?_; conv => whnf) | (refine HIf.bneT (by assumption) ?_; conv => whnf) | (refine HIf.bneF (by assumption) ?_; conv => whnf) | (refine ⟨rfl, Ints.idxN (by assumption) (by omega) (fun p hp => ?_)⟩; conv => whnf) | (refine ⟨rfl, Rows.idxN (by assumption) (by omega) (fun p y hp hy => ?_)⟩; conv => whnf) | (refine And.intro (show Kd.isBool _ = true from rfl) ?_; conv => whnf) | (refine ⟨rfl, Ints.idx (by assumption) (by omega) (by omega) (fun p hp => ?_)⟩; conv => whnf) | (refine ⟨rfl, Rows.idx (by assumption) (by omega) (by omega) (fun p y hp hy => ?_)⟩; conv => whnf) | (refine HArith.fits (by omega) (by omega) ?_; conv => whnf) | (refine Or.inl (And.intro (show Region.lexB _ _ = true by kernel_rfl) ?_); conv => whnf)))
    refine ⟨⟨i + 1, rfl, by omega, (he.pushed _).set (by omega) _, by simp; omega, ⟨_, List.getElem?_set_self (get_lt hc2), by simp [hcl], fun j hj => ?_⟩, fun j hj => ?_⟩, by show L.length - (i + 1) < L.length - i; omega⟩
    · have e0 : 0 + (i : Int).toNat = i := by omega
      rw [e0]
      by_cases hji : j = i
      · subst hji
        rw [List.getElem?_set_self (by omega), hlen]
      · rw [List.getElem?_set_ne (by omega)]
        exact hcs j (by omega)
    · rw [List.getElem?_set_ne (by omega)]
      by_cases hji : j = i
      · subst hji
        rw [← hlen]
        exact get_new _ _
      · exact (Ext.push h' _).row (hin j (by omega))
  · (conv => whnf)
    have e : i = L.length := by omega
    subst e
    refine ⟨_, rfl, he, h.length, fun j => h.length + 1 + j, rfl, by omega, by omega, fun j hj => ⟨by dsimp only; omega, by dsimp only; omega⟩, ⟨cs, hc, by omega, hcs⟩, fun j hj => ⟨[], ?_⟩, fun j hj => by omega, fun j j' h1 h2 => by omega⟩
    rw [List.append_nil]
    exact hin j hj

theorem markIntSS_own (b e : Nat) (h : Heap) (x : H0) (L : List (List Int)) (k : Int) (H : OwnM b e h x L) (hk : 0 ≤ k) (hkn : k ≤ 2305843009213693952) (hL : L.length ≤ 2199023255552) (ht : tot L ≤ 2199023255552) :
    HCalls dm Try.prog 13 [.s x, I k] h (fun r h' => r = I (k + tot L) ∧ Mid h h' b e ∧ OwnM b e h' x (mrk k L)) := by
  obtain ⟨r, ρ, rfl, hb, he, hρ, hm⟩ := H
  have hml := mrk_length k L
  refine calls_of_hFun (m := 0) kd_ok mixed Try.func13 rfl (by kernel_rfl) rfl rfl (of_decide_eq_true rfl) ?_; unfold hFun; (conv => whnf)
  (repeat (first | (refine ⟨rfl, Ints.len (by assumption) ?_⟩; conv => whnf) | (refine ⟨rfl, Rows.len (by assumption) ?_⟩; conv => whnf) | (refine ⟨rfl, HLen.sl ?_⟩; conv => whnf) | (refine ⟨rfl, At.load (by assumption) ?_⟩; conv => whnf) | (refine HIf.yes ?_; conv => whnf) | (refine HIf.no ?_; conv => whnf) | (refine HIf.isT (by assumption) ?_; conv => whnf) | (refine HIf.isF (by assumption) ?_; conv => whnf) | (refine HIf.decT (by assumption) ?_; conv => whnf) | (refine HIf.decF (by assumption) ?_; conv => whnf) | (refine HIf.beqT (by assumption) ?_; conv => whnf) | (refine HIf.beqF (by assumption) ?_; conv => whnf) | (refine HIf.bneT (by assumption) ?_; conv => whnf) | (refine HIf.bneF (by assumption) ?_; conv => whnf) | (refine ⟨rfl, Ints.idxN (by assumption) (by omega) (fun p hp => ?_)⟩; conv => whnf) | (refine ⟨rfl, Rows.idxN (by assumption) (by omega) (fun p y hp hy => ?_)⟩; conv => whnf) | (refine And.intro (show Kd.isBool _ = true from rfl) ?_; conv => whnf) | (refine ⟨rfl, Ints.idx (by assumption) (by omega) (by omega) (fun p hp => ?_)⟩; conv => whnf) | (refine ⟨rfl, Rows.idx (by assumption) (by omega) (by omega) (fun p y hp hy => ?_)⟩; conv => whnf) | (refine HArith.fits (by omega) (by omega) ?_; conv => whnf) | (refine Or.inl (And.intro (show Region.lexB _ _ = true by kernel_rfl) ?_); conv => whnf)))
  refine HLoop.intro [5, 1] [6, 7, 8, 9, 12, 13, 14, 15, 16, 17, 1, 10, 11, 5] (by kernel_rfl) (by kernel_rfl) (fun vs h' => ∃ i : Nat, vs = [I i, I (k + tot (L.take i))] ∧ i ≤ L.length ∧ Mid h h' b e ∧ (∀ j, i ≤ j → j < L.length → h'[ρ j]? = h[ρ j]?) ∧ h'[r]? = h[r]? ∧ ∀ j, j < i → ∃ t, h'[ρ j]? = some (.own ((mrkRow k L j).map ci ++ t))) (fun vs _ => L.length - natAt vs 0) ⟨0, by simp [tot_none]; rfl, by omega, Mid.refl _ _ _, fun _ _ _ => rfl, rfl, fun j hj => by omega⟩ ?_
  rintro vs h' ⟨i, rfl, hi, hmid, hrest, hr, hdone⟩
  (conv => whnf)
  refine ⟨rfl, HLen.sl ?_⟩
  (conv => whnf)
  refine HIf.dec (fun hlt => ?_) (fun hge => ?_)
  · have hle := len_le_tot (L := L) (i := i) (by omega)
    obtain ⟨cs, hc1, hc2, hc3⟩ := hm.outer
    obtain ⟨t, hi1⟩ := hm.inner i (by omega)
    rw [← hrest i (Nat.le_refl _) (by omega)] at hi1
    (conv => whnf)
    refine ⟨rfl, HIdx.sl (by omega) (by omega) ?_⟩
    (conv => whnf)
    refine ⟨rfl, At.load (c := .sl (ρ i) 0 (L.getD i []).length) ⟨r, _, .own cs, cs, rfl, by rw [hr]; exact hc1, rfl, ?_⟩ ?_⟩
    · have e0 : 0 + (i : Int).toNat = i := by omega
      rw [e0]
      exact hc3 i (by omega)
    (conv => whnf)
    refine (markIntS_any h' (ρ i) (L.getD i []).length (k + tot (L.take i)) _ hi1 (by simp) (by omega) (by omega) (by omega)).mono ?_
    rintro r' h'' ⟨rfl, rfl⟩
    (conv => whnf)
    (repeat (first | (refine ⟨rfl, Ints.len (by assumption) ?_⟩; conv => whnf) | (refine ⟨rfl, Rows.len (by assumption) ?_⟩; conv => whnf) | (refine ⟨rfl, HLen.sl ?_⟩; conv => whnf) | (refine ⟨rfl, At.load (by assumption) ?_⟩; conv => whnf) | (refine HIf.yes ?_; conv => whnf) | (refine HIf.no ?_; conv => whnf) | (refine HIf.isT (by assumption) ?_; conv => whnf) | (refine HIf.isF (by assumption) ?_; conv => whnf) | (refine HIf.decT (by assumption) ?_; conv => whnf) | (refine HIf.decF (by assumption) ?_; conv => whnf) | (refine HIf.beqT (by assumption) ?_; conv => whnf) | (refine HIf.beqF (by assumption) ?_; conv => whnf) | (refine HIf.bneT (by assumption) ?_; conv => whnf) | (refine HIf.bneF (by assumption) ?_; conv => whnf) | (refine ⟨rfl, Ints.idxN (by assumption) (by omega) (fun p hp => ?_)⟩; conv => whnf) | (refine ⟨rfl, Rows.idxN (by assumption) (by omega) (fun p y hp hy => ?_)⟩; conv => whnf) | (refine And.intro (show Kd.isBool _ = true from rfl) ?_; conv => whnf) | (refine ⟨rfl, Ints.idx (by assumption) (by omega) (by omega) (fun p hp => ?_)⟩; conv => whnf) | (refine ⟨rfl, Rows.idx (by assumption) (by omega) (by omega) (fun p y hp hy => ?_)⟩; conv => whnf) | (refine HArith.fits (by omega) (by omega) ?_; conv => whnf) | (refine Or.inl (And.intro (show Region.lexB _ _ = true by kernel_rfl) ?_); conv => whnf)))
    refine ⟨⟨i + 1, ?_, by omega, hmid.trans (Mid.set h' (hρ i (by omega)).1 (hρ i (by omega)).2 _), fun j h1 h2 => ?_, ?_, fun j hj => ?_⟩, by show L.length - (i + 1) < L.length - i; omega⟩
    · rw [tot_succ L i (by omega)]
      have : k + ((tot (L.take i) + (L.getD i []).length : Nat) : Int) = k + tot (L.take i) + (L.getD i []).length := by omega
      rw [this]
      rfl
    · rw [List.getElem?_set_ne (hm.inj i j (by omega) h2)]
      exact hrest j (by omega) h2
    · rw [List.getElem?_set_ne (hm.ne i (by omega))]
      exact hr
    · by_cases hji : j = i
      · subst hji
        exact ⟨_, List.getElem?_set_self (get_lt hi1)⟩
      · rw [List.getElem?_set_ne (fun e => hm.inj j i (by omega) (by omega) e.symm)]
        exact hdone j (by omega)
  · (conv => whnf)
    have ei : i = L.length := by omega
    subst ei
    rw [List.take_length]
    obtain ⟨cs, hc1, hc2, hc3⟩ := hm.outer
    refine ⟨rfl, hmid, r, ρ, by rw [hml], hb, he, fun j hj => hρ j (by omega), ⟨cs, by rw [hr]; exact hc1, by omega, fun j hj => ?_⟩, fun j hj => ?_, fun j hj => hm.ne j (by omega), fun j j' h1 h2 => hm.inj j j' h1 (by omega)⟩
    · rw [mrk_get k L (by omega), mrkRow, marks_length]
      exact hc3 j (by omega)
    · rw [mrk_get k L (by omega)]
      exact hdone j (by omega)

end Go.Proofs.Ytecfgbjddkpkcaa.Hx
