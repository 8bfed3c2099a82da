/-
  Contracts of InversionsOf and CommonInversions, of the program (slices.SortFunc) and of the reference (insertions).
  The contracts of RootsUpTo, of the program and of the reference.
-/
import Derived.Test.YtnooeaemjnmkdaaZ19
namespace Go.Proofs.Ytnooeaemjnmkdaa.Hx
open Go.RowKit

def inversions (c : List (List Int)) (w : List Int) : List (List Int) := if isWord c w then insR (rootsTo c (normF c w) (normF c w).length) else []

theorem inversions_off {c : List (List Int)} {w : List Int} (h : isWord c w = false) : inversions c w = [] := by simp [inversions, h]
theorem inversions_on {c : List (List Int)} {w : List Int} (h : isWord c w = true) : inversions c w = insR (rootsTo c (normF c w) (normF c w).length) := by simp [inversions, h]
theorem rootsTo_len (c : List (List Int)) (w : List Int) (k : Nat) : ∀ a ∈ rootsTo c w k, a.length = c.length := by
  intro a ha
  obtain ⟨i, _, rfl⟩ := List.mem_map.1 ha
  exact rootAt_length c w i
theorem rootSeq_normal (c : List (List Int)) (w : List Int) : rootSeq c (normalForm c w) = if isWord c w then rootsTo c (normF c w) (normF c w).length else [] := by
  cases h : isWord c w
  · rw [normalForm_off h]
    unfold rootSeq
    split <;> rfl
  · rw [normalForm_on h, rootSeq_on (normF_word h).2]
    rfl
theorem inversions_size (c : List (List Int)) (w : List Int) : (inversions c w).length ≤ 31 ∧ tot (inversions c w) ≤ 4 * 31 := by
  cases h : isWord c w
  · rw [inversions_off h]
    exact ⟨by simp, by simp [tot]⟩
  · have hC := (word_cartan h).1.le
    have hl := normF_le c w
    rw [inversions_on h]
    have e1 : (insR (rootsTo c (normF c w) (normF c w).length)).length = (normF c w).length := by rw [insR_length, rootsTo_length]
    have e2 := tot_le 4 (insR (rootsTo c (normF c w) (normF c w).length)) (fun l hl => by
      rw [rootsTo_len c _ _ l ((insR_perm _).mem_iff.1 hl)]
      exact hC)
    omega

/-- How many of the first are in the second. -/
def commonTo (X Y : List (List Int)) (k : Nat) : Nat := ((X.take k).filter fun x => decide (x ∈ Y)).length
def common (c : List (List Int)) (a b : List Int) : Int := (commonTo (inversions c a) (inversions c b) (inversions c a).length : Nat)
theorem commonTo_le (X Y : List (List Int)) (k : Nat) : commonTo X Y k ≤ k := by
  unfold commonTo
  have h1 := List.length_filter_le (fun x => decide (x ∈ Y)) (X.take k)
  simp at h1
  omega
theorem commonTo_succ {X Y : List (List Int)} {k : Nat} (hk : k < X.length) : commonTo X Y (k + 1) = commonTo X Y k + if X.getD k [] ∈ Y then 1 else 0 := by
  unfold commonTo
  rw [List.take_succ_eq_append_getElem hk, List.filter_append]
  have e : X.getD k [] = X[k] := by simp [List.getD, hk]
  rw [e]
  by_cases h : X[k] ∈ Y
  · simp [h]
  · simp [h]

/-- The sorted matrix is in rows of its own again. -/
theorem sorted_mat {h : Heap} {r : Nat} {ρ : Nat → Nat} {L : List (List Int)} (m : MatAt h r ρ L) {n : Nat} (hn : ∀ a ∈ L, a.length = n) {cs : List H0} (hcs : ∀ i, i < L.length → cs[i]? = some (.sl (ρ i) 0 (L.getD i []).length))
    {σ : List Nat} (hp : σ.Perm (List.range L.length)) (hs : σ.Pairwise (fun i j => ¬ cmpR (L.getD j []) (L.getD i []) < 0)) : ∃ ρ', MatAt (h.set r (.own (sortedRow cs 0 L.length σ))) r ρ' (insR L) ∧ ∀ i, i < L.length → ∃ j, j < L.length ∧ ρ' i = ρ j := by
  have hσl : σ.length = L.length := by simpa using hp.length_eq
  have hlt : ∀ i, i < L.length → σ.getD i 0 < L.length := fun i hi => by
    have : σ.getD i 0 ∈ σ := by
      rw [List.getD, List.getElem?_eq_getElem (by omega)]
      simp
    simpa using hp.mem_iff.1 this
  have hins := sorted_insR hn hp hs
  have hget : ∀ i, i < L.length → (insR L).getD i [] = L.getD (σ.getD i 0) [] := fun i hi => by
    rw [← hins]
    simp [List.getD, show i < σ.length by omega]
  have hil : (insR L).length = L.length := insR_length L
  have hrl := (m.lt).1
  refine ⟨fun i => ρ (σ.getD i 0), ⟨⟨_, List.getElem?_set_self hrl, ?_, fun i hi => ?_⟩, fun i hi => ?_, fun i hi => ?_, fun i j hij hj => ?_⟩, fun i hi => ⟨_, hlt i hi, rfl⟩⟩
  · simp [sortedRow, hσl, hil]
  · have hi' : i < L.length := by omega
    have h1 := hlt i hi'
    rw [hget i hi']
    simp only [sortedRow, List.take_zero, List.nil_append]
    rw [List.getElem?_append_left (by simp; omega), List.getElem?_map, List.getElem?_eq_getElem (show i < σ.length by omega)]
    have e : σ.getD i 0 = σ[i] := by simp [List.getD, show i < σ.length by omega]
    rw [e] at h1 ⊢
    simp only [Option.map_some, Nat.zero_add, Option.some.injEq]
    rw [List.getD, hcs _ h1]
    rfl
  · have hi' : i < L.length := by omega
    have h1 := hlt i hi'
    obtain ⟨t, ht⟩ := m.inner _ h1
    refine ⟨t, ?_⟩
    rw [hget i hi', List.getElem?_set_ne (Ne.symm (m.ne _ h1))]
    exact ht
  · exact m.ne _ (hlt i (by omega))
  · have hi' : i < L.length := by omega
    have hj' : j < L.length := by omega
    have hnd : σ.Nodup := hp.nodup_iff.2 List.nodup_range
    have hne : σ.getD i 0 ≠ σ.getD j 0 := by
      intro e
      rw [List.getD, List.getD, List.getElem?_eq_getElem (by omega), List.getElem?_eq_getElem (by omega)] at e
      exact List.pairwise_iff_getElem.1 hnd i j (by omega) (by omega) hij (by simpa using e)
    rcases Nat.lt_or_gt_of_ne hne with h | h
    · exact m.inj _ _ h (hlt j hj')
    · exact fun e => m.inj _ _ h (hlt i hi') e.symm

set_option smartUnfolding false

set_option maxHeartbeats 1000000 in
theorem spec_l7Put (h : Heap) (r0 : Nat) (ρ : Nat → Nat) (L : List (List Int)) (x1 : H0) (w : List Int) (m0 : MatAt h r0 ρ L) (hx1 : Ints h x1 w) (hL : L.length ≤ 1048576) (hw : w.length ≤ 1048576) (hLl : ∀ i, i < L.length → (L.getD i []).length ≤ 1048576) :
    HCalls Try.prog 41 [.s (.sl r0 0 L.length), .s x1] h (fun r h' => ∃ y, r = .s y ∧ Ext h h' ∧ MatIn h.length (fun q => (∃ m, m < L.length ∧ q = ρ m) ∨ h.length ≤ q) h' y (putR w L)) := by
  have hρ := m0.lt.2
  refine calls_of_hFun (m := 0) kd_ok mixed Try.func41 rfl (by kernel_rfl) rfl rfl (of_decide_eq_true rfl) ?_; unfold hFun; (conv => whnf)
  refine HLit.empty ?_
  (conv => whnf)
  refine HLoop.intro [7, 6, 5] [9, 10, 11, 12, 15, 16, 17, 18, 19, 20, 21, 22, 23, 24, 25, 26, 27, 28, 29, 30, 5, 6, 31, 32, 33, 34, 35, 36, 37, 5, 13, 14, 7] (by kernel_rfl) (by kernel_rfl) (fun vs h' => ∃ (i : Nat) (pl : Bool) (z : H0) (T : List (List Int)), vs = [I i, B pl, .s z] ∧ i ≤ L.length ∧ Ext h h' ∧ MatIn h.length (fun q => (∃ m, m < i ∧ q = ρ m) ∨ (pl = true ∧ h.length ≤ q)) h' z T ∧ (pl = true → T ++ L.drop i = putR w L) ∧ (pl = false → T ++ putR w (L.drop i) = putR w L)) (fun vs _ => L.length - natAt vs 0) ⟨0, false, _, [], rfl, by omega, Ext.push _ _, MatIn.none h _, (fun e => by cases e), (fun _ => rfl)⟩ ?_
  rintro vs h' ⟨i, pl, z, T, rfl, hi, E, M, hT1, hT2⟩
  have hpl := putR_length w L
  have hTl : T.length ≤ 1048577 := by
    cases pl
    · have := congrArg List.length (hT2 rfl)
      rw [List.length_append, putR_length] at this
      omega
    · have := congrArg List.length (hT1 rfl)
      rw [List.length_append] at this
      omega
  have m1 := m0.ext E
  have hx1 := hx1.ext E
  -- the last step of a round: a row of the old slice is appended
  (conv => whnf)
  refine ⟨rfl, m1.rows.len ?_⟩
  (conv => whnf)
  refine HIf.dec (fun hlt => ?_) (fun hge => ?_)
  · have hil : i < L.length := by omega
    have hrow := m1.inner' hil
    have hle := hLl i hil
    have hpa := putR_at (w := w) hil
    have hda := drop_at hil
    have hne : ∀ m, m < i → ρ i ≠ ρ m := fun m hm e => m0.inj m i hm hil e.symm
    have hE := E.1
    cases pl
    · have hT := hT2 rfl
      rw [hpa] at hT
      (conv => whnf)
      (repeat (first | (refine ⟨rfl, Ints.len (by assumption) ?_⟩; conv => whnf) | (refine ⟨rfl, Rows.len (by assumption) ?_⟩; conv => whnf) | (refine ⟨rfl, HLen.sl ?_⟩; conv => whnf) | (refine ⟨rfl, At.load (by assumption) ?_⟩; conv => whnf) | (refine HIf.yes ?_; conv => whnf) | (refine HIf.no ?_; conv => whnf) | (refine HIf.isT (by assumption) ?_; conv => whnf) | (refine HIf.isF (by assumption) ?_; conv => whnf) | (refine HIf.decT (by assumption) ?_; conv => whnf) | (refine HIf.decF (by assumption) ?_; conv => whnf) | (refine HIf.beqT (by assumption) ?_; conv => whnf) | (refine HIf.beqF (by assumption) ?_; conv => whnf) | (refine HIf.bneT (by assumption) ?_; conv => whnf) | (refine HIf.bneF (by assumption) ?_; conv => whnf) | (refine ⟨rfl, Ints.idxN (by assumption) (by omega) (fun p hp => ?_)⟩; conv => whnf) | (refine ⟨rfl, Rows.idxN (by assumption) (by omega) (fun p y hp hy => ?_)⟩; conv => whnf) | (refine And.intro (show Kd.isBool _ = true from rfl) ?_; conv => whnf) | (refine ⟨rfl, Ints.idx (by assumption) (by omega) (by omega) (fun p hp => ?_)⟩; conv => whnf) | (refine ⟨rfl, Rows.idx (by assumption) (by omega) (by omega) (fun p y hp hy => ?_)⟩; conv => whnf) | (refine HArith.fits (by omega) (by omega) ?_; conv => whnf) | (refine Or.inl (And.intro (show Region.lexB _ _ = true by kernel_rfl) ?_); conv => whnf)))
      refine ⟨rfl, m1.idx hil (fun p hp => ?_)⟩
      (conv => whnf)
      (repeat (first | (refine ⟨rfl, Ints.len (by assumption) ?_⟩; conv => whnf) | (refine ⟨rfl, Rows.len (by assumption) ?_⟩; conv => whnf) | (refine ⟨rfl, HLen.sl ?_⟩; conv => whnf) | (refine ⟨rfl, At.load (by assumption) ?_⟩; conv => whnf) | (refine HIf.yes ?_; conv => whnf) | (refine HIf.no ?_; conv => whnf) | (refine HIf.isT (by assumption) ?_; conv => whnf) | (refine HIf.isF (by assumption) ?_; conv => whnf) | (refine HIf.decT (by assumption) ?_; conv => whnf) | (refine HIf.decF (by assumption) ?_; conv => whnf) | (refine HIf.beqT (by assumption) ?_; conv => whnf) | (refine HIf.beqF (by assumption) ?_; conv => whnf) | (refine HIf.bneT (by assumption) ?_; conv => whnf) | (refine HIf.bneF (by assumption) ?_; conv => whnf) | (refine ⟨rfl, Ints.idxN (by assumption) (by omega) (fun p hp => ?_)⟩; conv => whnf) | (refine ⟨rfl, Rows.idxN (by assumption) (by omega) (fun p y hp hy => ?_)⟩; conv => whnf) | (refine And.intro (show Kd.isBool _ = true from rfl) ?_; conv => whnf) | (refine ⟨rfl, Ints.idx (by assumption) (by omega) (by omega) (fun p hp => ?_)⟩; conv => whnf) | (refine ⟨rfl, Rows.idx (by assumption) (by omega) (by omega) (fun p y hp hy => ?_)⟩; conv => whnf) | (refine HArith.fits (by omega) (by omega) ?_; conv => whnf) | (refine Or.inl (And.intro (show Region.lexB _ _ = true by kernel_rfl) ?_); conv => whnf)))
      refine (spec_l7Before _ _ _ _ _ hx1 hrow.ints hw hle).mono ?_
      rintro v h2 ⟨rfl, hh⟩
      subst h2
      cases hbf : beforeR w (L.getD i [])
      · rw [hbf] at hT
        (conv => whnf)
        (repeat (first | (refine ⟨rfl, Ints.len (by assumption) ?_⟩; conv => whnf) | (refine ⟨rfl, Rows.len (by assumption) ?_⟩; conv => whnf) | (refine ⟨rfl, HLen.sl ?_⟩; conv => whnf) | (refine ⟨rfl, At.load (by assumption) ?_⟩; conv => whnf) | (refine HIf.yes ?_; conv => whnf) | (refine HIf.no ?_; conv => whnf) | (refine HIf.isT (by assumption) ?_; conv => whnf) | (refine HIf.isF (by assumption) ?_; conv => whnf) | (refine HIf.decT (by assumption) ?_; conv => whnf) | (refine HIf.decF (by assumption) ?_; conv => whnf) | (refine HIf.beqT (by assumption) ?_; conv => whnf) | (refine HIf.beqF (by assumption) ?_; conv => whnf) | (refine HIf.bneT (by assumption) ?_; conv => whnf) | (refine HIf.bneF (by assumption) ?_; conv => whnf) | (refine ⟨rfl, Ints.idxN (by assumption) (by omega) (fun p hp => ?_)⟩; conv => whnf) | (refine ⟨rfl, Rows.idxN (by assumption) (by omega) (fun p y hp hy => ?_)⟩; conv => whnf) | (refine And.intro (show Kd.isBool _ = true from rfl) ?_; conv => whnf) | (refine ⟨rfl, Ints.idx (by assumption) (by omega) (by omega) (fun p hp => ?_)⟩; conv => whnf) | (refine ⟨rfl, Rows.idx (by assumption) (by omega) (by omega) (fun p y hp hy => ?_)⟩; conv => whnf) | (refine HArith.fits (by omega) (by omega) ?_; conv => whnf) | (refine Or.inl (And.intro (show Region.lexB _ _ = true by kernel_rfl) ?_); conv => whnf)))
        refine ⟨rfl, m1.idx hil (fun p2 hp2 => ?_)⟩
        (conv => whnf)
        refine ⟨rfl, hp2.load ?_⟩
        (conv => whnf)
        refine HLit.row rfl ?_
        (conv => whnf)
        refine ⟨rfl, rfl, HApp.snocS E M (Ext.refl _) hrow (by
          rintro (⟨m, hm, e⟩ | ⟨e, _⟩)
          · exact hne m hm e
          · cases e) (Or.inl (hρ i hil)) (by omega) (fun h3 z3 E3 hl3 M3 => ?_)⟩
        (conv => whnf)
        refine HArith.fits (by omega) (by omega) ?_
        (conv => whnf)
        refine ⟨⟨i + 1, false, z3, _, rfl, by omega, E3, M3.weaken ?_, (fun e => by cases e), (fun _ => by rw [List.append_assoc]; exact hT)⟩, by show L.length - (i + 1) < L.length - i; omega⟩
        rintro q _ ((⟨m, hm, e⟩ | ⟨e, _⟩) | e)
        · exact Or.inl ⟨m, by omega, e⟩
        · cases e
        · exact Or.inl ⟨i, by omega, e⟩
      · rw [hbf] at hT
        (conv => whnf)
        (repeat (first | (refine ⟨rfl, Ints.len (by assumption) ?_⟩; conv => whnf) | (refine ⟨rfl, Rows.len (by assumption) ?_⟩; conv => whnf) | (refine ⟨rfl, HLen.sl ?_⟩; conv => whnf) | (refine ⟨rfl, At.load (by assumption) ?_⟩; conv => whnf) | (refine HIf.yes ?_; conv => whnf) | (refine HIf.no ?_; conv => whnf) | (refine HIf.isT (by assumption) ?_; conv => whnf) | (refine HIf.isF (by assumption) ?_; conv => whnf) | (refine HIf.decT (by assumption) ?_; conv => whnf) | (refine HIf.decF (by assumption) ?_; conv => whnf) | (refine HIf.beqT (by assumption) ?_; conv => whnf) | (refine HIf.beqF (by assumption) ?_; conv => whnf) | (refine HIf.bneT (by assumption) ?_; conv => whnf) | (refine HIf.bneF (by assumption) ?_; conv => whnf) | (refine ⟨rfl, Ints.idxN (by assumption) (by omega) (fun p hp => ?_)⟩; conv => whnf) | (refine ⟨rfl, Rows.idxN (by assumption) (by omega) (fun p y hp hy => ?_)⟩; conv => whnf) | (refine And.intro (show Kd.isBool _ = true from rfl) ?_; conv => whnf) | (refine ⟨rfl, Ints.idx (by assumption) (by omega) (by omega) (fun p hp => ?_)⟩; conv => whnf) | (refine ⟨rfl, Rows.idx (by assumption) (by omega) (by omega) (fun p y hp hy => ?_)⟩; conv => whnf) | (refine HArith.fits (by omega) (by omega) ?_; conv => whnf) | (refine Or.inl (And.intro (show Region.lexB _ _ = true by kernel_rfl) ?_); conv => whnf)))
        refine HLit.empty ?_
        (conv => whnf)
        refine ⟨rfl, rfl, HApp.moreR (OwnR.push h' []) (hx1.ext (Ext.push _ _)) (by simp; omega) (fun h3 r3 y3 B3 hr3 O3 => ?_)⟩
        have E3 : Ext h' h3 := (Ext.push h' [Row.own []]).but B3 (Nat.le_refl _)
        have hl3 : h'.length ≤ r3 := by simp at hr3; omega
        rw [List.nil_append] at O3
        (conv => whnf)
        refine HLit.row (O3.own (b := 0) (by omega)).one ?_
        (conv => whnf)
        refine ⟨rfl, rfl, HApp.snocS E M E3 O3 (by
          rintro (⟨m, hm, e⟩ | ⟨e, _⟩)
          · have := hρ m (by omega)
            omega
          · cases e) (Or.inr hl3) (by omega) (fun h4 z4 E4 hl4 M4 => ?_)⟩
        have m4 := m0.ext E4
        have hrow4 := m4.inner' hil
        (conv => whnf)
        refine ⟨rfl, m4.idx hil (fun p2 hp2 => ?_)⟩
        (conv => whnf)
        refine ⟨rfl, hp2.load ?_⟩
        (conv => whnf)
        refine HLit.row rfl ?_
        (conv => whnf)
        refine ⟨rfl, rfl, HApp.snocS E4 M4 (Ext.refl _) hrow4 (by
          have := hρ i hil
          rintro ((⟨m, hm, e⟩ | ⟨e, _⟩) | e)
          · exact hne m hm e
          · cases e
          · omega) (Or.inl (hρ i hil)) (by simp; omega) (fun h5 z5 E5 hl5 M5 => ?_)⟩
        (conv => whnf)
        refine HArith.fits (by omega) (by omega) ?_
        (conv => whnf)
        refine ⟨⟨i + 1, true, z5, _, rfl, by omega, E5, M5.weaken ?_, (fun _ => by rw [List.append_assoc, List.append_assoc, ← hT, hda]; rfl), (fun e => by cases e)⟩, by show L.length - (i + 1) < L.length - i; omega⟩
        rintro q _ (((⟨m, hm, e⟩ | ⟨e, _⟩) | e) | e)
        · exact Or.inl ⟨m, by omega, e⟩
        · cases e
        · exact Or.inr ⟨rfl, by omega⟩
        · exact Or.inl ⟨i, by omega, e⟩
    · have hT := hT1 rfl
      rw [hda] at hT
      (conv => whnf)
      (repeat (first | (refine ⟨rfl, Ints.len (by assumption) ?_⟩; conv => whnf) | (refine ⟨rfl, Rows.len (by assumption) ?_⟩; conv => whnf) | (refine ⟨rfl, HLen.sl ?_⟩; conv => whnf) | (refine ⟨rfl, At.load (by assumption) ?_⟩; conv => whnf) | (refine HIf.yes ?_; conv => whnf) | (refine HIf.no ?_; conv => whnf) | (refine HIf.isT (by assumption) ?_; conv => whnf) | (refine HIf.isF (by assumption) ?_; conv => whnf) | (refine HIf.decT (by assumption) ?_; conv => whnf) | (refine HIf.decF (by assumption) ?_; conv => whnf) | (refine HIf.beqT (by assumption) ?_; conv => whnf) | (refine HIf.beqF (by assumption) ?_; conv => whnf) | (refine HIf.bneT (by assumption) ?_; conv => whnf) | (refine HIf.bneF (by assumption) ?_; conv => whnf) | (refine ⟨rfl, Ints.idxN (by assumption) (by omega) (fun p hp => ?_)⟩; conv => whnf) | (refine ⟨rfl, Rows.idxN (by assumption) (by omega) (fun p y hp hy => ?_)⟩; conv => whnf) | (refine And.intro (show Kd.isBool _ = true from rfl) ?_; conv => whnf) | (refine ⟨rfl, Ints.idx (by assumption) (by omega) (by omega) (fun p hp => ?_)⟩; conv => whnf) | (refine ⟨rfl, Rows.idx (by assumption) (by omega) (by omega) (fun p y hp hy => ?_)⟩; conv => whnf) | (refine HArith.fits (by omega) (by omega) ?_; conv => whnf) | (refine Or.inl (And.intro (show Region.lexB _ _ = true by kernel_rfl) ?_); conv => whnf)))
      refine ⟨rfl, m1.idx hil (fun p2 hp2 => ?_)⟩
      (conv => whnf)
      refine ⟨rfl, hp2.load ?_⟩
      (conv => whnf)
      refine HLit.row rfl ?_
      (conv => whnf)
      refine ⟨rfl, rfl, HApp.snocS E M (Ext.refl _) hrow (by
        have := hρ i hil
        rintro (⟨m, hm, e⟩ | ⟨_, e⟩)
        · exact hne m hm e
        · omega) (Or.inl (hρ i hil)) (by omega) (fun h3 z3 E3 hl3 M3 => ?_)⟩
      (conv => whnf)
      refine HArith.fits (by omega) (by omega) ?_
      (conv => whnf)
      refine ⟨⟨i + 1, true, z3, _, rfl, by omega, E3, M3.weaken ?_, (fun _ => by rw [List.append_assoc]; exact hT), (fun e => by cases e)⟩, by show L.length - (i + 1) < L.length - i; omega⟩
      rintro q _ ((⟨m, hm, e⟩ | ⟨_, e⟩) | e)
      · exact Or.inl ⟨m, by omega, e⟩
      · exact Or.inr ⟨rfl, e⟩
      · exact Or.inl ⟨i, by omega, e⟩
  · have e : i = L.length := by omega
    have hd : L.drop i = [] := List.drop_eq_nil_of_le (by omega)
    cases pl
    · have hT := hT2 rfl
      rw [hd] at hT
      (conv => whnf)
      (repeat (first | (refine ⟨rfl, Ints.len (by assumption) ?_⟩; conv => whnf) | (refine ⟨rfl, Rows.len (by assumption) ?_⟩; conv => whnf) | (refine ⟨rfl, HLen.sl ?_⟩; conv => whnf) | (refine ⟨rfl, At.load (by assumption) ?_⟩; conv => whnf) | (refine HIf.yes ?_; conv => whnf) | (refine HIf.no ?_; conv => whnf) | (refine HIf.isT (by assumption) ?_; conv => whnf) | (refine HIf.isF (by assumption) ?_; conv => whnf) | (refine HIf.decT (by assumption) ?_; conv => whnf) | (refine HIf.decF (by assumption) ?_; conv => whnf) | (refine HIf.beqT (by assumption) ?_; conv => whnf) | (refine HIf.beqF (by assumption) ?_; conv => whnf) | (refine HIf.bneT (by assumption) ?_; conv => whnf) | (refine HIf.bneF (by assumption) ?_; conv => whnf) | (refine ⟨rfl, Ints.idxN (by assumption) (by omega) (fun p hp => ?_)⟩; conv => whnf) | (refine ⟨rfl, Rows.idxN (by assumption) (by omega) (fun p y hp hy => ?_)⟩; conv => whnf) | (refine And.intro (show Kd.isBool _ = true from rfl) ?_; conv => whnf) | (refine ⟨rfl, Ints.idx (by assumption) (by omega) (by omega) (fun p hp => ?_)⟩; conv => whnf) | (refine ⟨rfl, Rows.idx (by assumption) (by omega) (by omega) (fun p y hp hy => ?_)⟩; conv => whnf) | (refine HArith.fits (by omega) (by omega) ?_; conv => whnf) | (refine Or.inl (And.intro (show Region.lexB _ _ = true by kernel_rfl) ?_); conv => whnf)))
      refine HLit.empty ?_
      (conv => whnf)
      refine ⟨rfl, rfl, HApp.moreR (OwnR.push h' []) (hx1.ext (Ext.push _ _)) (by simp; omega) (fun h3 r3 y3 B3 hr3 O3 => ?_)⟩
      have E3 : Ext h' h3 := (Ext.push h' [Row.own []]).but B3 (Nat.le_refl _)
      have hl3 : h'.length ≤ r3 := by simp at hr3; omega
      have hE := E.1
      rw [List.nil_append] at O3
      (conv => whnf)
      refine HLit.row (O3.own (b := 0) (by omega)).one ?_
      (conv => whnf)
      refine ⟨rfl, rfl, HApp.snocS E M E3 O3 (by
        rintro (⟨m, hm, e⟩ | ⟨e, _⟩)
        · have := hρ m (by omega)
          omega
        · cases e) (Or.inr hl3) (by omega) (fun h4 z4 E4 hl4 M4 => ?_)⟩
      (conv => whnf)
      refine ⟨_, rfl, E4, ?_⟩
      rw [← hT]
      refine M4.weaken ?_
      rintro q _ ((⟨m, hm, e⟩ | ⟨e, _⟩) | e)
      · exact Or.inl ⟨m, by omega, e⟩
      · cases e
      · exact Or.inr (by omega)
    · have hT := hT1 rfl
      rw [hd, List.append_nil] at hT
      (conv => whnf)
      (repeat (first | (refine ⟨rfl, Ints.len (by assumption) ?_⟩; conv => whnf) | (refine ⟨rfl, Rows.len (by assumption) ?_⟩; conv => whnf) | (refine ⟨rfl, HLen.sl ?_⟩; conv => whnf) | (refine ⟨rfl, At.load (by assumption) ?_⟩; conv => whnf) | (refine HIf.yes ?_; conv => whnf) | (refine HIf.no ?_; conv => whnf) | (refine HIf.isT (by assumption) ?_; conv => whnf) | (refine HIf.isF (by assumption) ?_; conv => whnf) | (refine HIf.decT (by assumption) ?_; conv => whnf) | (refine HIf.decF (by assumption) ?_; conv => whnf) | (refine HIf.beqT (by assumption) ?_; conv => whnf) | (refine HIf.beqF (by assumption) ?_; conv => whnf) | (refine HIf.bneT (by assumption) ?_; conv => whnf) | (refine HIf.bneF (by assumption) ?_; conv => whnf) | (refine ⟨rfl, Ints.idxN (by assumption) (by omega) (fun p hp => ?_)⟩; conv => whnf) | (refine ⟨rfl, Rows.idxN (by assumption) (by omega) (fun p y hp hy => ?_)⟩; conv => whnf) | (refine And.intro (show Kd.isBool _ = true from rfl) ?_; conv => whnf) | (refine ⟨rfl, Ints.idx (by assumption) (by omega) (by omega) (fun p hp => ?_)⟩; conv => whnf) | (refine ⟨rfl, Rows.idx (by assumption) (by omega) (by omega) (fun p y hp hy => ?_)⟩; conv => whnf) | (refine HArith.fits (by omega) (by omega) ?_; conv => whnf) | (refine Or.inl (And.intro (show Region.lexB _ _ = true by kernel_rfl) ?_); conv => whnf)))
      refine ⟨_, rfl, E, ?_⟩
      rw [← hT]
      refine M.weaken ?_
      rintro q _ (⟨m, hm, e⟩ | ⟨_, e⟩)
      · exact Or.inl ⟨m, by omega, e⟩
      · exact Or.inr e

end Go.Proofs.Ytnooeaemjnmkdaa.Hx

namespace Go.Proofs.Ytnooeaemjnmkdaa.Hx
open Go.RowKit

def UpAt (c : List (List Int)) (H : Int) (Q : List (List Int)) (r : List Int) (i : Nat) : Prop := rootSign (mirror c i r) = 1 → heightOf (mirror c i r) ≤ H → heightOf r < heightOf (mirror c i r) → mirror c i r ∈ Q

theorem Coll.up_all {c : List (List Int)} {H : Int} {Q : List (List Int)} (C : Coll c H Q) (h : ∀ r ∈ Q, ∀ i, i < c.length → UpAt c H Q r i) (r : List Int) : r ∈ Q ↔ RootUp c H r := by
  refine ⟨C.up r, fun hr => ?_⟩
  induction hr with
  | simple i hi => exact C.simple i hi
  | step i hi _ hs hh hl ih => exact h _ ih i hi hs hh hl

theorem insR_app (A : List (List Int)) (x : List Int) : insR (A ++ [x]) = putR x (insR A) := by simp [insR, List.foldl_append]

theorem putR_keep {w : List Int} : ∀ {k : Nat} {L : List (List Int)}, k < L.length → (∀ j, j ≤ k → beforeR w (L.getD j []) = false) → (putR w L).take (k + 1) = L.take (k + 1)
  | _, [], h, _ => by simp at h
  | 0, a :: L, _, hb => by
    have := hb 0 (Nat.le_refl _)
    simp only [List.getD, List.getElem?_cons_zero, Option.getD_some] at this
    simp [putR, this]
  | k + 1, a :: L, h, hb => by
    have h0 := hb 0 (by omega)
    simp only [List.getD, List.getElem?_cons_zero, Option.getD_some] at h0
    have := putR_keep (w := w) (k := k) (L := L) (by simpa using h) (fun j hj => by
      have := hb (j + 1) (by omega)
      simpa [List.getD] using this)
    simp [putR, h0, this]

theorem getD_take {L : List (List Int)} {k j : Nat} (h : j < k) : (L.take k).getD j [] = L.getD j [] := by
  simp only [List.getD, List.getElem?_take_of_lt h]

theorem not_before {w a : List Int} (h : heightOf a < heightOf w) : beforeR w a = false := by
  unfold beforeR
  rw [if_neg (by omega)]
  exact decide_eq_false (by omega)

theorem sorted_height {L : List (List Int)} (h : SortedR L) {i j : Nat} (hij : i ≤ j) (hj : j < L.length) : heightOf (L.getD i []) ≤ heightOf (L.getD j []) := by
  by_cases e : i = j
  · subst e; exact Int.le_refl _
  · have := List.pairwise_iff_getElem.1 h i j (by omega) hj (by omega)
    rw [cmpR_lt] at this
    simp only [List.getD, show i < L.length by omega, hj, List.getElem?_eq_getElem, Option.getD_some]
    omega

theorem rootSign_pos (a : List Int) : rootSign a > 0 ↔ rootSign a = 1 := by
  rcases rootSign_cases a with h | h | h <;> rw [h] <;> omega

theorem rootsUp_size (c : List (List Int)) (H : Int) : (rootsUp c H).length ≤ 1099511627776 ∧ tot (rootsUp c H) ≤ 1099511627776 := by
  by_cases h : isCartan c = true ∧ 1 ≤ H ∧ H ≤ 12
  · unfold rootsUp
    rw [if_pos h]
    split
    · rename_i hx
      have := (Classical.choose_spec hx).size ((isCartan_iff c).1 h.1) h.2.2 h.2.1
      omega
    · simp [tot]
  · rw [rootsUp_off h]
    simp [tot]

set_option smartUnfolding false

theorem impl_RootsUpTo (h : Heap) (x0 : H0) (a0 : List (List Int)) (n1 : Int) (hx0 : Rows h x0 a0) (s0 : a0.length ≤ 1048576 ∧ tot a0 ≤ 1048576) (s1 : -9223372036854775808 ≤ n1 ∧ n1 ≤ 9223372036854775807) :
    HCalls Try.prog 19 [.s x0, I n1] h (fun r h' => ∃ y, r = .s y ∧ Ext h h' ∧ OwnM h.length h'.length h' y (rootsUp a0 n1)) := by
  refine calls_of_hFun (m := 0) kd_ok mixed Try.func19 rfl (by kernel_rfl) rfl rfl (of_decide_eq_true rfl) ?_; unfold hFun; (conv => whnf)
  refine (impl_IsCartan _ _ _ hx0 (by omega)).mono ?_
  rintro r h1 ⟨rfl, hh⟩
  subst hh
  have off : ¬ (isCartan a0 = true ∧ 1 ≤ n1 ∧ n1 ≤ 12) → ∃ y, HV.s (.sl h1.length 0 0) = .s y ∧ Ext h1 (h1 ++ [.own []]) ∧ OwnM h1.length (h1 ++ [Row.own []]).length (h1 ++ [.own []]) y (rootsUp a0 n1) := fun hn => by
    rw [rootsUp_off hn]
    exact ⟨_, rfl, Ext.push _ _, OwnM.none h1⟩
  cases hic : isCartan a0
  · (conv => whnf)
    (repeat (first | (refine HIf.no ?_; (conv => whnf)) | (refine HIf.isT rfl ?_; (conv => whnf))))
    refine HLit.empty ?_
    (conv => whnf)
    exact off (fun k => by rw [hic] at k; cases k.1)
  · (conv => whnf)
    refine HIf.isF rfl ?_
    (conv => whnf)
    refine HIf.isF rfl ?_
    (conv => whnf)
    refine HIf.isF rfl ?_
    (conv => whnf)
    by_cases c1 : n1 < 1
    · refine HIf.decT c1 ?_
      (conv => whnf)
      refine HIf.decT c1 ?_
      (conv => whnf)
      refine HIf.decT c1 ?_
      (conv => whnf)
      refine HIf.yes ?_
      (conv => whnf)
      refine HLit.empty ?_
      (conv => whnf)
      exact off (fun k => by omega)
    refine HIf.decF c1 ?_
    (conv => whnf)
    refine HIf.decF c1 ?_
    (conv => whnf)
    refine HIf.decF c1 ?_
    (conv => whnf)
    by_cases c2 : n1 > 12
    · refine HIf.decT c2 ?_
      (conv => whnf)
      refine HLit.empty ?_
      (conv => whnf)
      exact off (fun k => by omega)
    refine HIf.decF c2 ?_
    (conv => whnf)
    refine (impl_pairedRoots _ _ _ n1 hx0 ((isCartan_iff a0).1 hic) (by omega) (by omega)).mono ?_
    rintro r h2 ⟨y, z, rfl, E2, L, hL, O⟩
    (conv => whnf)
    rw [rootsUp_on ⟨hic, by omega, by omega⟩ hL]
    exact ⟨_, rfl, E2, O⟩

set_option maxHeartbeats 4000000 in
theorem spec_RootsUpTo (h : Heap) (x0 : H0) (a0 : List (List Int)) (n1 : Int) (hx0 : Rows h x0 a0) (s0 : a0.length ≤ 1048576 ∧ tot a0 ≤ 1048576) (s1 : -9223372036854775808 ≤ n1 ∧ n1 ≤ 9223372036854775807) :
    HCalls Try.prog 18 [.s x0, I n1] h (fun r h' => ∃ y, r = .s y ∧ Ext h h' ∧ OwnM h.length h'.length h' y (rootsUp a0 n1)) := by
  refine calls_of_hFun (m := 0) kd_ok mixed Try.func18 rfl (by kernel_rfl) rfl rfl (of_decide_eq_true rfl) ?_; unfold hFun; (conv => whnf)
  refine HLit.empty ?_
  (conv => whnf)
  have E0 := Ext.push h [Row.own []]
  have O0 := OwnM.none h
  refine (spec_IsCartan _ _ _ (hx0.ext E0) (by omega)).mono ?_
  rintro r h1 ⟨rfl, hh⟩
  subst hh
  have off : ¬ (isCartan a0 = true ∧ 1 ≤ n1 ∧ n1 ≤ 12) → ∃ y, HV.s (.sl h.length 0 0) = .s y ∧ Ext h (h ++ [.own []]) ∧ OwnM h.length (h ++ [Row.own []]).length (h ++ [.own []]) y (rootsUp a0 n1) := fun hn => by
    rw [rootsUp_off hn]
    exact ⟨_, rfl, E0, O0⟩
  cases hic : isCartan a0
  · (conv => whnf)
    (repeat (first | (refine HIf.no ?_; (conv => whnf)) | (refine HIf.isT rfl ?_; (conv => whnf))))
    exact off (fun k => by rw [hic] at k; cases k.1)
  · have hC := (isCartan_iff a0).1 hic
    have h4 := hC.le
    have hpos := hC.pos
    (conv => whnf)
    refine HIf.isF rfl ?_
    (conv => whnf)
    refine HIf.isF rfl ?_
    (conv => whnf)
    refine (spec_l1In _ _ _ _).mono ?_
    rintro r h2 ⟨rfl, hh⟩
    subst hh
    by_cases hcond : 1 ≤ n1 ∧ n1 ≤ 12
    rotate_left
    · have eb : (decide (1 ≤ n1) && decide (n1 ≤ 12)) = false := by
        rw [Bool.eq_false_iff]
        intro hb
        simp only [Bool.and_eq_true, decide_eq_true_eq] at hb
        exact hcond hb
      rw [eb]
      (conv => whnf)
      (repeat (first | (refine HIf.no ?_; (conv => whnf)) | (refine HIf.isF rfl ?_; (conv => whnf)) | (refine HIf.isT rfl ?_; (conv => whnf))))
      exact off (fun k => hcond ⟨k.2.1, k.2.2⟩)
    have eb : (decide (1 ≤ n1) && decide (n1 ≤ 12)) = true := by simp [hcond.1, hcond.2]
    rw [eb]
    (conv => whnf)
    (repeat (first | (refine HIf.yes ?_; (conv => whnf)) | (refine HIf.isF rfl ?_; (conv => whnf))))
    clear off
    generalize h ++ [Row.own []] = h1 at E0 O0 ⊢
    refine HLoop.intro [6, 5] [20, 21, 22, 23, 26, 27, 28, 29, 30, 5, 24, 25, 6] (by kernel_rfl) (by kernel_rfl) (fun vs h' => ∃ (i : Nat) (z : H0), vs = [I i, .s z] ∧ i ≤ a0.length ∧ Ext h h' ∧ OwnM h.length h'.length h' z (insR (simples a0 i))) (fun vs _ => a0.length - natAt vs 0) ⟨0, _, rfl, by omega, E0, O0⟩ ?_
    clear E0 O0
    rintro vs h1 ⟨i, z, rfl, hi, E, O⟩
    (conv => whnf)
    refine ⟨rfl, (hx0.ext E).len ?_⟩
    (conv => whnf)
    refine HIf.dec (fun hlt => ?_) (fun hge => ?_)
    · have hi' : i < a0.length := by omega
      (conv => whnf)
      refine (spec_SimpleRoot _ _ a0 (i : Int) (hx0.ext E) s0 (by omega)).mono ?_
      rintro r h2 ⟨y2, rfl, F2⟩
      have hil : (insR (simples a0 i)).length = i := by rw [insR_length, simples_len]
      have hin : ∀ j, j < (insR (simples a0 i)).length → ((insR (simples a0 i)).getD j []).length ≤ 1048576 := fun j hj => by
        have hm := getD_in hj
        obtain ⟨t, ht, e⟩ := mem_simples.1 ((insR_perm _).mem_iff.1 hm)
        rw [e]
        have := simpleRoot_length a0 (t : Nat)
        omega
      have hsl := simpleRoot_length a0 (i : Nat)
      have O2 := O.ext F2.1
      obtain ⟨r, ρ, rfl, g2, g3, g4, m⟩ := O2
      (conv => whnf)
      refine (spec_l7Put _ _ _ _ _ (simpleRoot a0 (i : Nat)) m F2.ints (by omega) (by omega) hin).mono ?_
      rintro v h3 ⟨y3, rfl, E3, M3⟩
      rw [← insR_app, ← simples_succ] at M3
      have l1 := E.1
      have l2 := F2.1.1
      (conv => whnf)
      refine HArith.fits (by omega) (by omega) ?_
      (conv => whnf)
      refine ⟨⟨i + 1, y3, rfl, by omega, (E.trans F2.1).trans E3, M3.own (by omega) ?_⟩, by show a0.length - (i + 1) < a0.length - i; omega⟩
      rintro q _ (⟨j, hj, e⟩ | e)
      · have := g4 j hj
        omega
      · omega
    have ei : i = a0.length := by omega
    subst ei
    clear hge hi
    have C0 : Coll a0 n1 (insR (simples a0 a0.length)) := ⟨(insR_perm _).nodup_iff.2 (simples_nodup hC _ (Nat.le_refl _)), fun r hr => by
      obtain ⟨j, hj, rfl⟩ := mem_simples.1 ((insR_perm _).mem_iff.1 hr)
      exact .simple j hj, fun j hj => (insR_perm _).mem_iff.2 (mem_simples.2 ⟨j, hj, rfl⟩)⟩
    have hlenOf : ∀ {L : List (List Int)}, Coll a0 n1 L → ∀ a ∈ L, a.length = a0.length := fun C a ha => by
      obtain ⟨n, R, _⟩ := (C.up a ha).facts hC hcond.2 hcond.1
      exact R.len
    have S0 : SortedR (insR (simples a0 a0.length)) := insR_sorted _ (fun a ha => hlenOf C0 a ((insR_perm _).mem_iff.2 ha))
    (conv => whnf)
    refine HLoop.intro [7, 5] [31, 32, 33, 34, 8, 37, 38, 39, 40, 43, 44, 45, 46, 47, 48, 49, 9, 50, 51, 52, 53, 54, 55, 56, 57, 58, 59, 60, 61, 62, 63, 64, 65, 66, 67, 68, 69, 70, 71, 72, 73, 74, 75, 76, 77, 5, 41, 42, 8, 35, 36, 7] (by kernel_rfl) (by kernel_rfl) (fun vs h' => ∃ (k : Nat) (z : H0) (L : List (List Int)), vs = [I k, .s z] ∧ k ≤ L.length ∧ Ext h h' ∧ OwnM h.length h'.length h' z L ∧ Coll a0 n1 L ∧ SortedR L ∧ ∀ j, j < k → ∀ i, i < a0.length → UpAt a0 n1 L (L.getD j []) i) (fun vs _ => 28562 - natAt vs 0) ⟨0, _, _, rfl, by omega, E, O, C0, S0, fun j hj => by omega⟩ ?_
    clear E O C0 S0
    rintro vs h1 ⟨k, z, L, rfl, hk, E, O, C, S, hcl⟩
    have hQ := roots_few hC hcond.2 hcond.1 C.nodup C.up
    (conv => whnf)
    refine ⟨rfl, O.rows.len ?_⟩
    (conv => whnf)
    refine HIf.dec (fun hlt => ?_) (fun hge => ?_)
    · have hk' : k < L.length := by omega
      (conv => whnf)
      refine HLoop.intro [8, 5] [37, 38, 39, 40, 43, 44, 45, 46, 47, 48, 49, 9, 50, 51, 52, 53, 54, 55, 56, 57, 58, 59, 60, 61, 62, 63, 64, 65, 66, 67, 68, 69, 70, 71, 72, 73, 74, 75, 76, 77, 5, 41, 42, 8] (by kernel_rfl) (by kernel_rfl) (fun vs h' => ∃ (i : Nat) (z : H0) (L' : List (List Int)), vs = [I i, .s z] ∧ i ≤ a0.length ∧ Ext h h' ∧ OwnM h.length h'.length h' z L' ∧ Coll a0 n1 L' ∧ SortedR L' ∧ k < L'.length ∧ L'.take (k + 1) = L.take (k + 1) ∧ (∀ j, j < k → ∀ i, i < a0.length → UpAt a0 n1 L' (L'.getD j []) i) ∧ ∀ t, t < i → UpAt a0 n1 L' (L'.getD k []) t) (fun vs _ => a0.length - natAt vs 0)
        ⟨0, z, L, rfl, by omega, E, O, C, S, hk', rfl, hcl, fun t ht => by omega⟩ ?_
      clear E O C S hcl hQ
      rintro vs h1 ⟨i, z, L', rfl, hi, E, O, C, S, hk2, hpre, hcl, hci⟩
      have hQ := roots_few hC hcond.2 hcond.1 C.nodup C.up
      (conv => whnf)
      refine ⟨rfl, (hx0.ext E).len ?_⟩
      (conv => whnf)
      refine HIf.dec (fun hlt2 => ?_) (fun hge2 => ?_)
      · have hi' : i < a0.length := by omega
        have hRl := hlenOf C _ (getD_in hk2)
        have hrow := hC.row i hi'
        (conv => whnf)
        refine ⟨rfl, Rows.idxN O.rows hk2 (fun p y hp hy => ?_)⟩
        (conv => whnf)
        refine ⟨rfl, hp.load ?_⟩
        (conv => whnf)
        refine (spec_l7Reflect _ _ _ a0 i _ (hx0.ext E) hy hi' (by omega) (by omega) (by omega)).mono ?_
        rintro r h2 ⟨y2, rfl, F2⟩
        have hy2 := hy.ext F2.1
        have O2 := (O.ext F2.1).widen F2.1.1
        have RO := O2.rows
        have hml : (mirror a0 i (L'.getD k [])).length = a0.length := by rw [mirror_length, hRl]
        have htot : L'.length ≤ 1048576 ∧ tot L' ≤ 1048576 := by
          have : tot L' ≤ 4 * L'.length := tot_le 4 L' (fun r hr => by have := hlenOf C r hr; omega)
          omega
        generalize hR : L'.getD k [] = R at *
        generalize hM : mirror a0 i R = M at *
        have done : ∀ (hno : UpAt a0 n1 L' R i), (∃ (i_1 : Nat) (z_1 : H0) (L'_1 : List (List Int)), [I ((i : Int) + 1), HV.s z] = [I i_1, .s z_1] ∧ i_1 ≤ a0.length ∧ Ext h h2 ∧ OwnM h.length h2.length h2 z_1 L'_1 ∧ Coll a0 n1 L'_1 ∧ SortedR L'_1 ∧ k < L'_1.length ∧ L'_1.take (k + 1) = L.take (k + 1) ∧ (∀ j, j < k → ∀ i, i < a0.length → UpAt a0 n1 L'_1 (L'_1.getD j []) i) ∧ ∀ t, t < i_1 → UpAt a0 n1 L'_1 (L'_1.getD k []) t) := fun hno =>
          ⟨i + 1, z, L', rfl, by omega, E.trans F2.1, O2, C, S, hk2, hpre, hcl, fun t ht => by
            rw [hR]
            by_cases e : t = i
            · subst e; exact hno
            · exact hci t (by omega)⟩
        (conv => whnf)
        refine Or.inl (And.intro (show Region.lexB _ _ = true by kernel_rfl) ?_); (conv => whnf)
        refine HCallQ.of (.int .i64 (rootSign M)) (spec_RootSign _ _ M F2.ints.frz (by omega)) (fun x h' r => r.1) ?_
        generalize hsg : rootSign M = sg at *
        (conv => whnf)
        by_cases c1 : sg > 0
        rotate_left
        · (repeat (refine HIf.decF c1 ?_; (conv => whnf)))
          (repeat (refine HIf.no ?_; (conv => whnf)))
          refine HArith.fits (by omega) (by omega) ?_
          (conv => whnf)
          exact ⟨done fun z1 => by
            rw [hM, hsg] at z1
            omega, by show a0.length - (i + 1) < a0.length - i; omega⟩
        refine HIf.decT c1 ?_
        (conv => whnf)
        refine HIf.decT c1 ?_
        (conv => whnf)
        refine HCallQ.of (.int .i64 (heightOf M)) (spec_HeightOf _ _ M F2.ints.frz (by omega)) (fun x h' r => r.1) ?_
        generalize hhm : heightOf M = hm at *
        (conv => whnf)
        refine HIf.decT c1 ?_
        (conv => whnf)
        refine HIf.decT c1 ?_
        (conv => whnf)
        refine HIf.decT c1 ?_
        (conv => whnf)
        by_cases c2 : hm ≤ n1
        rotate_left
        · (repeat (refine HIf.decF c2 ?_; (conv => whnf)))
          (repeat (refine HIf.no ?_; (conv => whnf)))
          refine HArith.fits (by omega) (by omega) ?_
          (conv => whnf)
          exact ⟨done fun _ z2 => by
            rw [hM, hhm] at z2
            omega, by show a0.length - (i + 1) < a0.length - i; omega⟩
        (repeat (refine HIf.decT c2 ?_; (conv => whnf)))
        refine HCallQ.of (.bool (decide (M ∈ L'))) (spec_l7In _ _ L' _ M RO.frz F2.ints.frz htot) (fun x h' r => r.1) ?_
        cases hbb : decide (M ∈ L') with
        | true =>
          (conv => whnf)
          (repeat (refine HIf.decT c2 ?_; (conv => whnf)))
          (repeat (first | (refine HIf.no ?_; (conv => whnf)) | (refine HIf.isF rfl ?_; (conv => whnf))))
          refine HArith.fits (by omega) (by omega) ?_
          (conv => whnf)
          exact ⟨done fun _ _ _ => by
            rw [hM]
            exact of_decide_eq_true hbb, by show a0.length - (i + 1) < a0.length - i; omega⟩
        | false =>
          have hnin : M ∉ L' := of_decide_eq_false hbb
          (conv => whnf)
          (repeat (refine HIf.decT c2 ?_; (conv => whnf)))
          (repeat (refine HIf.isT rfl ?_; (conv => whnf)))
          refine HCallQ.of (.int .i64 hm) (spec_HeightOf _ _ M F2.ints.frz (by omega)) (fun x h' r => by rw [← hhm]; exact r.1) ?_
          (conv => whnf)
          (repeat (refine HIf.isT rfl ?_; (conv => whnf)))
          refine ⟨rfl, Rows.idxN RO hk2 (fun p2 y3 hp2 hy3 => ?_)⟩
          rw [hR] at hy3
          (conv => whnf)
          (repeat (refine HIf.isT rfl ?_; (conv => whnf)))
          refine ⟨rfl, hp2.load ?_⟩
          (conv => whnf)
          (repeat (refine HIf.isT rfl ?_; (conv => whnf)))
          refine HCallQ.of (.int .i64 (heightOf R)) (spec_HeightOf _ _ R hy3.frz (by omega)) (fun x h' r => r.1) ?_
          generalize hhr : heightOf R = hr at *
          (conv => whnf)
          (repeat (refine HIf.isT rfl ?_; (conv => whnf)))
          refine HIf.dec (fun c4 => ?_) (fun c4 => ?_)
          rotate_left
          · (conv => whnf)
            refine HArith.fits (by omega) (by omega) ?_
            (conv => whnf)
            exact ⟨done fun _ _ z3 => by
              rw [hM, hhm, hhr] at z3
              omega, by show a0.length - (i + 1) < a0.length - i; omega⟩
          have hin : ∀ j, j < L'.length → (L'.getD j []).length ≤ 1048576 := fun j hj => by
            have := hlenOf C _ (getD_in hj)
            omega
          have hup : RootUp a0 n1 M := by
            rw [← hM]
            refine .step i hi' (C.up R (hR ▸ getD_in hk2)) ?_ ?_ ?_
            · rw [hM, hsg]
              have := (rootSign_pos M).1 (by rw [hsg]; exact c1)
              omega
            · rw [hM, hhm]; exact c2
            · rw [hM, hhm, hhr]; omega
          obtain ⟨r, ρ, rfl, g2, g3, g4, m⟩ := O2
          (conv => whnf)
          refine (spec_l7Put _ _ _ _ _ M m F2.ints (by omega) (by omega) hin).mono ?_
          rintro v h3 ⟨y4, rfl, E3, M3⟩
          have l1 := E.1
          have l2 := F2.1.1
          have O3 := M3.own (c := h.length) (by omega) (by
            rintro q _ (⟨j, hj, e⟩ | e)
            · have := g4 j hj
              omega
            · omega)
          (conv => whnf)
          refine HArith.fits (by omega) (by omega) ?_
          (conv => whnf)
          have hbef : ∀ j, j ≤ k → beforeR M (L'.getD j []) = false := fun j hj => not_before (by
            have := sorted_height S hj hk2
            rw [hR, hhr] at this
            rw [hhm]
            omega)
          have hkeep := putR_keep (w := M) hk2 hbef
          have hget : ∀ j, j ≤ k → (putR M L').getD j [] = L'.getD j [] := fun j hj => by
            rw [← getD_take (L := putR M L') (k := k + 1) (by omega), ← getD_take (L := L') (k := k + 1) (by omega), hkeep]
          have hsub : ∀ x, x ∈ L' → x ∈ putR M L' := fun x hx => (putR_perm M L').mem_iff.2 (List.mem_cons_of_mem _ hx)
          have hpl := putR_length M L'
          refine ⟨⟨i + 1, y4, putR M L', rfl, by omega, (E.trans F2.1).trans E3, O3, ⟨?_, fun r hr => ?_, fun t ht => hsub _ (C.simple t ht)⟩, putR_sorted (n := a0.length) hml (hlenOf C) S, by omega, by rw [hkeep]; exact hpre, fun j hj t ht => ?_, fun t ht => ?_⟩, by show a0.length - (i + 1) < a0.length - i; omega⟩
          · exact (putR_perm M L').nodup_iff.2 (List.nodup_cons.2 ⟨hnin, C.nodup⟩)
          · rcases List.mem_cons.1 ((putR_perm M L').mem_iff.1 hr) with rfl | hr
            · exact hup
            · exact C.up r hr
          · rw [hget j (by omega)]
            exact fun a b d => hsub _ (hcl j hj t ht a b d)
          · rw [hget k (Nat.le_refl _), hR]
            by_cases e : t = i
            · subst e
              exact fun _ _ _ => by rw [hM]; exact (putR_perm M L').mem_iff.2 (by simp)
            · exact fun a b d => hsub _ (hci t (by omega) a b d)
      · have ei : i = a0.length := by omega
        subst ei
        (conv => whnf)
        refine HArith.fits (by omega) (by omega) ?_
        (conv => whnf)
        refine ⟨⟨k + 1, z, L', rfl, by omega, E, O, C, S, fun j hj t ht => ?_⟩, (by show 28562 - (k + 1) < 28562 - k; omega)⟩
        by_cases e : j = k
        · subst e
          exact hci t ht
        · exact hcl j (by omega) t ht
    · have ek : k = L.length := by omega
      subst ek
      have hall := C.up_all fun r hr i hi => by
        obtain ⟨j, hj, rfl⟩ := List.getElem_of_mem hr
        have := hcl j hj i hi
        simpa [List.getD, hj] using this
      (conv => whnf)
      rw [rootsUp_on ⟨hic, hcond.1, hcond.2⟩ ⟨S, C.nodup, hall⟩]
      exact ⟨_, rfl, E, O⟩

end Go.Proofs.Ytnooeaemjnmkdaa.Hx
