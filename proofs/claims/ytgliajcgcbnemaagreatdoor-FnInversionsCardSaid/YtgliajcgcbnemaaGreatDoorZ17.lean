/-
  Contracts of InversionsOf and CommonInversions, of the program (slices.SortFunc) and of the reference (insertions).
  Contracts of the word of a set of inversions, of the program and of the reference.
-/
import Derived.Test.YtgliajcgcbnemaaGreatDoorZ16
namespace Go.Proofs.YtgliajcgcbnemaaGreatDoor.Hx
open Go.RowKit
variable {dm : Bool}

def inversions (c : List (List Int)) (w : List Int) : List (List Int) := if isWord c w then insR (rootsTo c (normF c w) (normF c w).length) else []

theorem inversions_off {c : List (List Int)} {w : List Int} (h : isWord c w = false) : inversions c w = [] := by simp [inversions, h]
theorem inversions_on {c : List (List Int)} {w : List Int} (h : isWord c w = true) : inversions c w = insR (rootsTo c (normF c w) (normF c w).length) := by simp [inversions, h]
theorem rootsTo_len (c : List (List Int)) (w : List Int) (k : Nat) : ∀ a ∈ rootsTo c w k, a.length = c.length := by
  intro a ha
  obtain ⟨i, _, rfl⟩ := List.mem_map.1 ha
  exact rootAt_length c w i
theorem rootSeq_normal (c : List (List Int)) (w : List Int) : rootSeq c (normalForm c w) = if isWord c w then rootsTo c (normF c w) (normF c w).length else [] := by
  cases h : isWord c w
  · rw [normalForm_off h]
    unfold rootSeq
    split <;> rfl
  · rw [normalForm_on h, rootSeq_on (normF_word h).2]
    rfl
theorem inversions_size (c : List (List Int)) (w : List Int) : (inversions c w).length ≤ 31 ∧ tot (inversions c w) ≤ 4 * 31 := by
  cases h : isWord c w
  · rw [inversions_off h]
    exact ⟨by simp, by simp [tot]⟩
  · have hC := (word_cartan h).1.le
    have hl := normF_le c w
    rw [inversions_on h]
    have e1 : (insR (rootsTo c (normF c w) (normF c w).length)).length = (normF c w).length := by rw [insR_length, rootsTo_length]
    have e2 := tot_le 4 (insR (rootsTo c (normF c w) (normF c w).length)) (fun l hl => by
      rw [rootsTo_len c _ _ l ((insR_perm _).mem_iff.1 hl)]
      exact hC)
    omega

/-- How many of the first are in the second. -/
def commonTo (X Y : List (List Int)) (k : Nat) : Nat := ((X.take k).filter fun x => decide (x ∈ Y)).length
def common (c : List (List Int)) (a b : List Int) : Int := (commonTo (inversions c a) (inversions c b) (inversions c a).length : Nat)
theorem commonTo_le (X Y : List (List Int)) (k : Nat) : commonTo X Y k ≤ k := by
  unfold commonTo
  have h1 := List.length_filter_le (fun x => decide (x ∈ Y)) (X.take k)
  simp at h1
  omega
theorem commonTo_succ {X Y : List (List Int)} {k : Nat} (hk : k < X.length) : commonTo X Y (k + 1) = commonTo X Y k + if X.getD k [] ∈ Y then 1 else 0 := by
  unfold commonTo
  rw [List.take_succ_eq_append_getElem hk, List.filter_append]
  have e : X.getD k [] = X[k] := by simp [List.getD, hk]
  rw [e]
  by_cases h : X[k] ∈ Y
  · simp [h]
  · simp [h]

/-- The sorted matrix is in rows of its own again. -/
theorem sorted_mat {h : Heap} {r : Nat} {ρ : Nat → Nat} {L : List (List Int)} (m : MatAt h r ρ L) {n : Nat} (hn : ∀ a ∈ L, a.length = n) {cs : List H0} (hcs : ∀ i, i < L.length → cs[i]? = some (.sl (ρ i) 0 (L.getD i []).length))
    {σ : List Nat} (hp : σ.Perm (List.range L.length)) (hs : σ.Pairwise (fun i j => ¬ cmpR (L.getD j []) (L.getD i []) < 0)) : ∃ ρ', MatAt (h.set r (.own (sortedRow cs 0 L.length σ))) r ρ' (insR L) ∧ ∀ i, i < L.length → ∃ j, j < L.length ∧ ρ' i = ρ j := by
  have hσl : σ.length = L.length := by simpa using hp.length_eq
  have hlt : ∀ i, i < L.length → σ.getD i 0 < L.length := fun i hi => by
    have : σ.getD i 0 ∈ σ := by
      rw [List.getD, List.getElem?_eq_getElem (by omega)]
      simp
    simpa using hp.mem_iff.1 this
  have hins := sorted_insR hn hp hs
  have hget : ∀ i, i < L.length → (insR L).getD i [] = L.getD (σ.getD i 0) [] := fun i hi => by
    rw [← hins]
    simp [List.getD, show i < σ.length by omega]
  have hil : (insR L).length = L.length := insR_length L
  have hrl := (m.lt).1
  refine ⟨fun i => ρ (σ.getD i 0), ⟨⟨_, List.getElem?_set_self hrl, ?_, fun i hi => ?_⟩, fun i hi => ?_, fun i hi => ?_, fun i j hij hj => ?_⟩, fun i hi => ⟨_, hlt i hi, rfl⟩⟩
  · simp [sortedRow, hσl, hil]
  · have hi' : i < L.length := by omega
    have h1 := hlt i hi'
    rw [hget i hi']
    simp only [sortedRow, List.take_zero, List.nil_append]
    rw [List.getElem?_append_left (by simp; omega), List.getElem?_map, List.getElem?_eq_getElem (show i < σ.length by omega)]
    have e : σ.getD i 0 = σ[i] := by simp [List.getD, show i < σ.length by omega]
    rw [e] at h1 ⊢
    simp only [Option.map_some, Nat.zero_add, Option.some.injEq]
    rw [List.getD, hcs _ h1]
    rfl
  · have hi' : i < L.length := by omega
    have h1 := hlt i hi'
    obtain ⟨t, ht⟩ := m.inner _ h1
    refine ⟨t, ?_⟩
    rw [hget i hi', List.getElem?_set_ne (Ne.symm (m.ne _ h1))]
    exact ht
  · exact m.ne _ (hlt i (by omega))
  · have hi' : i < L.length := by omega
    have hj' : j < L.length := by omega
    have hnd : σ.Nodup := hp.nodup_iff.2 List.nodup_range
    have hne : σ.getD i 0 ≠ σ.getD j 0 := by
      intro e
      rw [List.getD, List.getD, List.getElem?_eq_getElem (by omega), List.getElem?_eq_getElem (by omega)] at e
      exact List.pairwise_iff_getElem.1 hnd i j (by omega) (by omega) hij (by simpa using e)
    rcases Nat.lt_or_gt_of_ne hne with h | h
    · exact m.inj _ _ h (hlt j hj')
    · exact fun e => m.inj _ _ h (hlt i hi') e.symm


set_option maxHeartbeats 1000000 in
theorem spec_l7Put (h : Heap) (r0 : Nat) (ρ : Nat → Nat) (L : List (List Int)) (x1 : H0) (w : List Int) (m0 : MatAt h r0 ρ L) (hx1 : Ints h x1 w) (hL : L.length ≤ 1048576) (hw : w.length ≤ 1048576) (hLl : ∀ i, i < L.length → (L.getD i []).length ≤ 1048576) :
    HCalls dm Tryz.prog 89 [.s (.sl r0 0 L.length), .s x1] h (fun r h' => ∃ y, r = .s y ∧ Ext h h' ∧ MatIn h.length (fun q => (∃ m, m < L.length ∧ q = ρ m) ∨ h.length ≤ q) h' y (putR w L)) := by
  have hρ := m0.lt.2
  refine calls_of_hFun (m := 0) kd_ok mixed Tryz.func89 rfl (by kernel_rfl) rfl rfl (of_decide_eq_true rfl) ?_; unfold hFun; (conv => whnf)
  refine HLit.empty ?_
  (conv => whnf)
  refine HLoop.intro [7, 6, 5] [9, 10, 11, 12, 15, 16, 17, 18, 19, 20, 21, 22, 23, 24, 25, 26, 27, 28, 29, 30, 5, 6, 31, 32, 33, 34, 35, 36, 37, 5, 13, 14, 7] (by kernel_rfl) (by kernel_rfl) (fun vs h' => ∃ (i : Nat) (pl : Bool) (z : H0) (T : List (List Int)), vs = [I i, B pl, .s z] ∧ i ≤ L.length ∧ Ext h h' ∧ MatIn h.length (fun q => (∃ m, m < i ∧ q = ρ m) ∨ (pl = true ∧ h.length ≤ q)) h' z T ∧ (pl = true → T ++ L.drop i = putR w L) ∧ (pl = false → T ++ putR w (L.drop i) = putR w L)) (fun vs _ => L.length - natAt vs 0) ⟨0, false, _, [], rfl, by omega, Ext.push _ _, MatIn.none h _, (fun e => by cases e), (fun _ => rfl)⟩ ?_
  rintro vs h' ⟨i, pl, z, T, rfl, hi, E, M, hT1, hT2⟩
  have hpl := putR_length w L
  have hTl : T.length ≤ 1048577 := by
    cases pl
    · have := congrArg List.length (hT2 rfl)
      rw [List.length_append, putR_length] at this
      omega
    · have := congrArg List.length (hT1 rfl)
      rw [List.length_append] at this
      omega
  have m1 := m0.ext E
  have hx1 := hx1.ext E
  -- the last step of a round: a row of the old slice is appended
  (conv => whnf)
  refine ⟨rfl, m1.rows.len ?_⟩
  (conv => whnf)
  refine HIf.dec (fun hlt => ?_) (fun hge => ?_)
  · have hil : i < L.length := by omega
    have hrow := m1.inner' hil
    have hle := hLl i hil
    have hpa := putR_at (w := w) hil
    have hda := drop_at hil
    have hne : ∀ m, m < i → ρ i ≠ ρ m := fun m hm e => m0.inj m i hm hil e.symm
    have hE := E.1
    cases pl
    · have hT := hT2 rfl
      rw [hpa] at hT
      (conv => whnf)
      (repeat (first | (refine ⟨rfl, Ints.len (by assumption) ?_⟩; conv => whnf) | (refine ⟨rfl, Rows.len (by assumption) ?_⟩; conv => whnf) | (refine ⟨rfl, HLen.sl ?_⟩; conv => whnf) | (refine ⟨rfl, At.load (by assumption) ?_⟩; conv => whnf) | (refine HIf.yes ?_; conv => whnf) | (refine HIf.no ?_; conv => whnf) | (refine HIf.isT (by assumption) ?_; conv => whnf) | (refine HIf.isF (by assumption) ?_; conv => whnf) | (refine HIf.decT (by assumption) ?_; conv => whnf) | (refine HIf.decF (by assumption) ?_; conv => whnf) | (refine HIf.beqT (by assumption) ?_; conv => whnf) | (refine HIf.beqF (by assumption) ?_; conv => whnf) | (refine HIf.bneT (by assumption) ?_; conv => whnf) | (refine HIf.bneF (by assumption) ?_; conv => whnf) | (refine ⟨rfl, Ints.idxN (by assumption) (by omega) (fun p hp => ?_)⟩; conv => whnf) | (refine ⟨rfl, Rows.idxN (by assumption) (by omega) (fun p y hp hy => ?_)⟩; conv => whnf) | (refine And.intro (show Kd.isBool _ = true from rfl) ?_; conv => whnf) | (refine ⟨rfl, Ints.idx (by assumption) (by omega) (by omega) (fun p hp => ?_)⟩; conv => whnf) | (refine ⟨rfl, Rows.idx (by assumption) (by omega) (by omega) (fun p y hp hy => ?_)⟩; conv => whnf) | (refine HArith.fits (by omega) (by omega) ?_; conv => whnf) | (refine Or.inl (And.intro (show Region.lexB _ _ = true by kernel_rfl) ?_); conv => whnf)))
      refine ⟨rfl, m1.idx hil (fun p hp => ?_)⟩
      (conv => whnf)
      (repeat (first | (refine ⟨rfl, Ints.len (by assumption) ?_⟩; conv => whnf) | (refine ⟨rfl, Rows.len (by assumption) ?_⟩; conv => whnf) | (refine ⟨rfl, HLen.sl ?_⟩; conv => whnf) | (refine ⟨rfl, At.load (by assumption) ?_⟩; conv => whnf) | (refine HIf.yes ?_; conv => whnf) | (refine HIf.no ?_; conv => whnf) | (refine HIf.isT (by assumption) ?_; conv => whnf) | (refine HIf.isF (by assumption) ?_; conv => whnf) | (refine HIf.decT (by assumption) ?_; conv => whnf) | (refine HIf.decF (by assumption) ?_; conv => whnf) | (refine HIf.beqT (by assumption) ?_; conv => whnf) | (refine HIf.beqF (by assumption) ?_; conv => whnf) | (refine HIf.bneT (by assumption) ?_; conv => whnf) | (refine HIf.bneF (by assumption) ?_; conv => whnf) | (refine ⟨rfl, Ints.idxN (by assumption) (by omega) (fun p hp => ?_)⟩; conv => whnf) | (refine ⟨rfl, Rows.idxN (by assumption) (by omega) (fun p y hp hy => ?_)⟩; conv => whnf) | (refine And.intro (show Kd.isBool _ = true from rfl) ?_; conv => whnf) | (refine ⟨rfl, Ints.idx (by assumption) (by omega) (by omega) (fun p hp => ?_)⟩; conv => whnf) | (refine ⟨rfl, Rows.idx (by assumption) (by omega) (by omega) (fun p y hp hy => ?_)⟩; conv => whnf) | (refine HArith.fits (by omega) (by omega) ?_; conv => whnf) | (refine Or.inl (And.intro (show Region.lexB _ _ = true by kernel_rfl) ?_); conv => whnf)))
      refine (spec_l7Before _ _ _ _ _ hx1 hrow.ints hw hle).mono ?_
      rintro v h2 ⟨rfl, hh⟩
      subst h2
      cases hbf : beforeR w (L.getD i [])
      · rw [hbf] at hT
        (conv => whnf)
        (repeat (first | (refine ⟨rfl, Ints.len (by assumption) ?_⟩; conv => whnf) | (refine ⟨rfl, Rows.len (by assumption) ?_⟩; conv => whnf) | (refine ⟨rfl, HLen.sl ?_⟩; conv => whnf) | (refine ⟨rfl, At.load (by assumption) ?_⟩; conv => whnf) | (refine HIf.yes ?_; conv => whnf) | (refine HIf.no ?_; conv => whnf) | (refine HIf.isT (by assumption) ?_; conv => whnf) | (refine HIf.isF (by assumption) ?_; conv => whnf) | (refine HIf.decT (by assumption) ?_; conv => whnf) | (refine HIf.decF (by assumption) ?_; conv => whnf) | (refine HIf.beqT (by assumption) ?_; conv => whnf) | (refine HIf.beqF (by assumption) ?_; conv => whnf) | (refine HIf.bneT (by assumption) ?_; conv => whnf) | (refine HIf.bneF (by assumption) ?_; conv => whnf) | (refine ⟨rfl, Ints.idxN (by assumption) (by omega) (fun p hp => ?_)⟩; conv => whnf) | (refine ⟨rfl, Rows.idxN (by assumption) (by omega) (fun p y hp hy => ?_)⟩; conv => whnf) | (refine And.intro (show Kd.isBool _ = true from rfl) ?_; conv => whnf) | (refine ⟨rfl, Ints.idx (by assumption) (by omega) (by omega) (fun p hp => ?_)⟩; conv => whnf) | (refine ⟨rfl, Rows.idx (by assumption) (by omega) (by omega) (fun p y hp hy => ?_)⟩; conv => whnf) | (refine HArith.fits (by omega) (by omega) ?_; conv => whnf) | (refine Or.inl (And.intro (show Region.lexB _ _ = true by kernel_rfl) ?_); conv => whnf)))
        refine ⟨rfl, m1.idx hil (fun p2 hp2 => ?_)⟩
        (conv => whnf)
        refine ⟨rfl, hp2.load ?_⟩
        (conv => whnf)
        refine HLit.row rfl ?_
        (conv => whnf)
        refine ⟨rfl, rfl, HApp.snocS E M (Ext.refl _) hrow (by
          rintro (⟨m, hm, e⟩ | ⟨e, _⟩)
          · exact hne m hm e
          · cases e) (Or.inl (hρ i hil)) (by omega) (fun h3 z3 E3 hl3 M3 => ?_)⟩
        (conv => whnf)
        refine HArith.fits (by omega) (by omega) ?_
        (conv => whnf)
        refine ⟨⟨i + 1, false, z3, _, rfl, by omega, E3, M3.weaken ?_, (fun e => by cases e), (fun _ => by rw [List.append_assoc]; exact hT)⟩, by show L.length - (i + 1) < L.length - i; omega⟩
        rintro q _ ((⟨m, hm, e⟩ | ⟨e, _⟩) | e)
        · exact Or.inl ⟨m, by omega, e⟩
        · cases e
        · exact Or.inl ⟨i, by omega, e⟩
      · rw [hbf] at hT
        (conv => whnf)
        (repeat (first | (refine ⟨rfl, Ints.len (by assumption) ?_⟩; conv => whnf) | (refine ⟨rfl, Rows.len (by assumption) ?_⟩; conv => whnf) | (refine ⟨rfl, HLen.sl ?_⟩; conv => whnf) | (refine ⟨rfl, At.load (by assumption) ?_⟩; conv => whnf) | (refine HIf.yes ?_; conv => whnf) | (refine HIf.no ?_; conv => whnf) | (refine HIf.isT (by assumption) ?_; conv => whnf) | (refine HIf.isF (by assumption) ?_; conv => whnf) | (refine HIf.decT (by assumption) ?_; conv => whnf) | (refine HIf.decF (by assumption) ?_; conv => whnf) | (refine HIf.beqT (by assumption) ?_; conv => whnf) | (refine HIf.beqF (by assumption) ?_; conv => whnf) | (refine HIf.bneT (by assumption) ?_; conv => whnf) | (refine HIf.bneF (by assumption) ?_; conv => whnf) | (refine ⟨rfl, Ints.idxN (by assumption) (by omega) (fun p hp => ?_)⟩; conv => whnf) | (refine ⟨rfl, Rows.idxN (by assumption) (by omega) (fun p y hp hy => ?_)⟩; conv => whnf) | (refine And.intro (show Kd.isBool _ = true from rfl) ?_; conv => whnf) | (refine ⟨rfl, Ints.idx (by assumption) (by omega) (by omega) (fun p hp => ?_)⟩; conv => whnf) | (refine ⟨rfl, Rows.idx (by assumption) (by omega) (by omega) (fun p y hp hy => ?_)⟩; conv => whnf) | (refine HArith.fits (by omega) (by omega) ?_; conv => whnf) | (refine Or.inl (And.intro (show Region.lexB _ _ = true by kernel_rfl) ?_); conv => whnf)))
        refine HLit.empty ?_
        (conv => whnf)
        refine ⟨rfl, rfl, HApp.moreR (OwnR.push h' []) (hx1.ext (Ext.push _ _)) (by simp; omega) (fun h3 r3 y3 B3 hr3 O3 => ?_)⟩
        have E3 : Ext h' h3 := (Ext.push h' [Row.own []]).but B3 (Nat.le_refl _)
        have hl3 : h'.length ≤ r3 := by simp at hr3; omega
        rw [List.nil_append] at O3
        (conv => whnf)
        refine HLit.row (O3.own (b := 0) (by omega)).one ?_
        (conv => whnf)
        refine ⟨rfl, rfl, HApp.snocS E M E3 O3 (by
          rintro (⟨m, hm, e⟩ | ⟨e, _⟩)
          · have := hρ m (by omega)
            omega
          · cases e) (Or.inr hl3) (by omega) (fun h4 z4 E4 hl4 M4 => ?_)⟩
        have m4 := m0.ext E4
        have hrow4 := m4.inner' hil
        (conv => whnf)
        refine ⟨rfl, m4.idx hil (fun p2 hp2 => ?_)⟩
        (conv => whnf)
        refine ⟨rfl, hp2.load ?_⟩
        (conv => whnf)
        refine HLit.row rfl ?_
        (conv => whnf)
        refine ⟨rfl, rfl, HApp.snocS E4 M4 (Ext.refl _) hrow4 (by
          have := hρ i hil
          rintro ((⟨m, hm, e⟩ | ⟨e, _⟩) | e)
          · exact hne m hm e
          · cases e
          · omega) (Or.inl (hρ i hil)) (by simp; omega) (fun h5 z5 E5 hl5 M5 => ?_)⟩
        (conv => whnf)
        refine HArith.fits (by omega) (by omega) ?_
        (conv => whnf)
        refine ⟨⟨i + 1, true, z5, _, rfl, by omega, E5, M5.weaken ?_, (fun _ => by rw [List.append_assoc, List.append_assoc, ← hT, hda]; rfl), (fun e => by cases e)⟩, by show L.length - (i + 1) < L.length - i; omega⟩
        rintro q _ (((⟨m, hm, e⟩ | ⟨e, _⟩) | e) | e)
        · exact Or.inl ⟨m, by omega, e⟩
        · cases e
        · exact Or.inr ⟨rfl, by omega⟩
        · exact Or.inl ⟨i, by omega, e⟩
    · have hT := hT1 rfl
      rw [hda] at hT
      (conv => whnf)
      (repeat (first | (refine ⟨rfl, Ints.len (by assumption) ?_⟩; conv => whnf) | (refine ⟨rfl, Rows.len (by assumption) ?_⟩; conv => whnf) | (refine ⟨rfl, HLen.sl ?_⟩; conv => whnf) | (refine ⟨rfl, At.load (by assumption) ?_⟩; conv => whnf) | (refine HIf.yes ?_; conv => whnf) | (refine HIf.no ?_; conv => whnf) | (refine HIf.isT (by assumption) ?_; conv => whnf) | (refine HIf.isF (by assumption) ?_; conv => whnf) | (refine HIf.decT (by assumption) ?_; conv => whnf) | (refine HIf.decF (by assumption) ?_; conv => whnf) | (refine HIf.beqT (by assumption) ?_; conv => whnf) | (refine HIf.beqF (by assumption) ?_; conv => whnf) | (refine HIf.bneT (by assumption) ?_; conv => whnf) | (refine HIf.bneF (by assumption) ?_; conv => whnf) | (refine ⟨rfl, Ints.idxN (by assumption) (by omega) (fun p hp => ?_)⟩; conv => whnf) | (refine ⟨rfl, Rows.idxN (by assumption) (by omega) (fun p y hp hy => ?_)⟩; conv => whnf) | (refine And.intro (show Kd.isBool _ = true from rfl) ?_; conv => whnf) | (refine ⟨rfl, Ints.idx (by assumption) (by omega) (by omega) (fun p hp => ?_)⟩; conv => whnf) | (refine ⟨rfl, Rows.idx (by assumption) (by omega) (by omega) (fun p y hp hy => ?_)⟩; conv => whnf) | (refine HArith.fits (by omega) (by omega) ?_; conv => whnf) | (refine Or.inl (And.intro (show Region.lexB _ _ = true by kernel_rfl) ?_); conv => whnf)))
      refine ⟨rfl, m1.idx hil (fun p2 hp2 => ?_)⟩
      (conv => whnf)
      refine ⟨rfl, hp2.load ?_⟩
      (conv => whnf)
      refine HLit.row rfl ?_
      (conv => whnf)
      refine ⟨rfl, rfl, HApp.snocS E M (Ext.refl _) hrow (by
        have := hρ i hil
        rintro (⟨m, hm, e⟩ | ⟨_, e⟩)
        · exact hne m hm e
        · omega) (Or.inl (hρ i hil)) (by omega) (fun h3 z3 E3 hl3 M3 => ?_)⟩
      (conv => whnf)
      refine HArith.fits (by omega) (by omega) ?_
      (conv => whnf)
      refine ⟨⟨i + 1, true, z3, _, rfl, by omega, E3, M3.weaken ?_, (fun _ => by rw [List.append_assoc]; exact hT), (fun e => by cases e)⟩, by show L.length - (i + 1) < L.length - i; omega⟩
      rintro q _ ((⟨m, hm, e⟩ | ⟨_, e⟩) | e)
      · exact Or.inl ⟨m, by omega, e⟩
      · exact Or.inr ⟨rfl, e⟩
      · exact Or.inl ⟨i, by omega, e⟩
  · have e : i = L.length := by omega
    have hd : L.drop i = [] := List.drop_eq_nil_of_le (by omega)
    cases pl
    · have hT := hT2 rfl
      rw [hd] at hT
      (conv => whnf)
      (repeat (first | (refine ⟨rfl, Ints.len (by assumption) ?_⟩; conv => whnf) | (refine ⟨rfl, Rows.len (by assumption) ?_⟩; conv => whnf) | (refine ⟨rfl, HLen.sl ?_⟩; conv => whnf) | (refine ⟨rfl, At.load (by assumption) ?_⟩; conv => whnf) | (refine HIf.yes ?_; conv => whnf) | (refine HIf.no ?_; conv => whnf) | (refine HIf.isT (by assumption) ?_; conv => whnf) | (refine HIf.isF (by assumption) ?_; conv => whnf) | (refine HIf.decT (by assumption) ?_; conv => whnf) | (refine HIf.decF (by assumption) ?_; conv => whnf) | (refine HIf.beqT (by assumption) ?_; conv => whnf) | (refine HIf.beqF (by assumption) ?_; conv => whnf) | (refine HIf.bneT (by assumption) ?_; conv => whnf) | (refine HIf.bneF (by assumption) ?_; conv => whnf) | (refine ⟨rfl, Ints.idxN (by assumption) (by omega) (fun p hp => ?_)⟩; conv => whnf) | (refine ⟨rfl, Rows.idxN (by assumption) (by omega) (fun p y hp hy => ?_)⟩; conv => whnf) | (refine And.intro (show Kd.isBool _ = true from rfl) ?_; conv => whnf) | (refine ⟨rfl, Ints.idx (by assumption) (by omega) (by omega) (fun p hp => ?_)⟩; conv => whnf) | (refine ⟨rfl, Rows.idx (by assumption) (by omega) (by omega) (fun p y hp hy => ?_)⟩; conv => whnf) | (refine HArith.fits (by omega) (by omega) ?_; conv => whnf) | (refine Or.inl (And.intro (show Region.lexB _ _ = true by kernel_rfl) ?_); conv => whnf)))
      refine HLit.empty ?_
      (conv => whnf)
      refine ⟨rfl, rfl, HApp.moreR (OwnR.push h' []) (hx1.ext (Ext.push _ _)) (by simp; omega) (fun h3 r3 y3 B3 hr3 O3 => ?_)⟩
      have E3 : Ext h' h3 := (Ext.push h' [Row.own []]).but B3 (Nat.le_refl _)
      have hl3 : h'.length ≤ r3 := by simp at hr3; omega
      have hE := E.1
      rw [List.nil_append] at O3
      (conv => whnf)
      refine HLit.row (O3.own (b := 0) (by omega)).one ?_
      (conv => whnf)
      refine ⟨rfl, rfl, HApp.snocS E M E3 O3 (by
        rintro (⟨m, hm, e⟩ | ⟨e, _⟩)
        · have := hρ m (by omega)
          omega
        · cases e) (Or.inr hl3) (by omega) (fun h4 z4 E4 hl4 M4 => ?_)⟩
      (conv => whnf)
      refine ⟨_, rfl, E4, ?_⟩
      rw [← hT]
      refine M4.weaken ?_
      rintro q _ ((⟨m, hm, e⟩ | ⟨e, _⟩) | e)
      · exact Or.inl ⟨m, by omega, e⟩
      · cases e
      · exact Or.inr (by omega)
    · have hT := hT1 rfl
      rw [hd, List.append_nil] at hT
      (conv => whnf)
      (repeat (first | (refine ⟨rfl, Ints.len (by assumption) ?_⟩; conv => whnf) | (refine ⟨rfl, Rows.len (by assumption) ?_⟩; conv => whnf) | (refine ⟨rfl, HLen.sl ?_⟩; conv => whnf) | (refine ⟨rfl, At.load (by assumption) ?_⟩; conv => whnf) | (refine HIf.yes ?_; conv => whnf) | (refine HIf.no ?_; conv => whnf) | (refine HIf.isT (by assumption) ?_; conv => whnf) | (refine HIf.isF (by assumption) ?_; conv => whnf) | (refine HIf.decT (by assumption) ?_; conv => whnf) | (refine HIf.decF (by assumption) ?_; conv => whnf) | (refine HIf.beqT (by assumption) ?_; conv => whnf) | (refine HIf.beqF (by assumption) ?_; conv => whnf) | (refine HIf.bneT (by assumption) ?_; conv => whnf) | (refine HIf.bneF (by assumption) ?_; conv => whnf) | (refine ⟨rfl, Ints.idxN (by assumption) (by omega) (fun p hp => ?_)⟩; conv => whnf) | (refine ⟨rfl, Rows.idxN (by assumption) (by omega) (fun p y hp hy => ?_)⟩; conv => whnf) | (refine And.intro (show Kd.isBool _ = true from rfl) ?_; conv => whnf) | (refine ⟨rfl, Ints.idx (by assumption) (by omega) (by omega) (fun p hp => ?_)⟩; conv => whnf) | (refine ⟨rfl, Rows.idx (by assumption) (by omega) (by omega) (fun p y hp hy => ?_)⟩; conv => whnf) | (refine HArith.fits (by omega) (by omega) ?_; conv => whnf) | (refine Or.inl (And.intro (show Region.lexB _ _ = true by kernel_rfl) ?_); conv => whnf)))
      refine ⟨_, rfl, E, ?_⟩
      rw [← hT]
      refine M.weaken ?_
      rintro q _ (⟨m, hm, e⟩ | ⟨_, e⟩)
      · exact Or.inl ⟨m, by omega, e⟩
      · exact Or.inr e

theorem impl_InversionsOf (h : Heap) (x0 : H0) (a0 : List (List Int)) (x1 : H0) (a1 : List Int) (hx0 : Rows h x0 a0) (hx1 : Ints h x1 a1) (s0 : a0.length ≤ 1048576 ∧ tot a0 ≤ 1048576) (s1 : a1.length ≤ 1048576) :
    HCalls dm Tryz.prog 24 [.s x0, .s x1] h (fun r h' => ∃ y, r = .s y ∧ Ext h h' ∧ OwnM h.length h'.length h' y (inversions a0 a1)) := by
  refine calls_of_hFun (m := 0) kd_ok mixed Tryz.func24 rfl (by kernel_rfl) rfl rfl (of_decide_eq_true rfl) ?_; unfold hFun; (conv => whnf)
  refine (impl_IsWord _ _ _ a0 a1 hx0 hx1 (by omega) (by omega)).mono ?_
  rintro r h1 ⟨rfl, hh⟩
  subst h1
  (conv => whnf)
  cases hic : isWord a0 a1
  · (repeat (first | (refine ⟨rfl, Ints.len (by assumption) ?_⟩; conv => whnf) | (refine ⟨rfl, Rows.len (by assumption) ?_⟩; conv => whnf) | (refine ⟨rfl, HLen.sl ?_⟩; conv => whnf) | (refine ⟨rfl, At.load (by assumption) ?_⟩; conv => whnf) | (refine HIf.yes ?_; conv => whnf) | (refine HIf.no ?_; conv => whnf) | (refine HIf.isT (by assumption) ?_; conv => whnf) | (refine HIf.isF (by assumption) ?_; conv => whnf) | (refine HIf.decT (by assumption) ?_; conv => whnf) | (refine HIf.decF (by assumption) ?_; conv => whnf) | (refine HIf.beqT (by assumption) ?_; conv => whnf) | (refine HIf.beqF (by assumption) ?_; conv => whnf) | (refine HIf.bneT (by assumption) ?_; conv => whnf) | (refine HIf.bneF (by assumption) ?_; conv => whnf) | (refine ⟨rfl, Ints.idxN (by assumption) (by omega) (fun p hp => ?_)⟩; conv => whnf) | (refine ⟨rfl, Rows.idxN (by assumption) (by omega) (fun p y hp hy => ?_)⟩; conv => whnf) | (refine And.intro (show Kd.isBool _ = true from rfl) ?_; conv => whnf) | (refine ⟨rfl, Ints.idx (by assumption) (by omega) (by omega) (fun p hp => ?_)⟩; conv => whnf) | (refine ⟨rfl, Rows.idx (by assumption) (by omega) (by omega) (fun p y hp hy => ?_)⟩; conv => whnf) | (refine HArith.fits (by omega) (by omega) ?_; conv => whnf) | (refine Or.inl (And.intro (show Region.lexB _ _ = true by kernel_rfl) ?_); conv => whnf)))
    refine HLit.empty ?_
    (conv => whnf)
    rw [inversions_off hic]
    exact ⟨_, rfl, Ext.push _ _, OwnM.none _⟩
  obtain ⟨hC, h15, hw⟩ := word_cartan hic
  obtain ⟨n15, nw⟩ := normF_word hic
  obtain ⟨_, _, nl⟩ := word_cartan nw
  have hC4 := hC.le
  rw [inversions_on hic]
  (repeat (first | (refine ⟨rfl, Ints.len (by assumption) ?_⟩; conv => whnf) | (refine ⟨rfl, Rows.len (by assumption) ?_⟩; conv => whnf) | (refine ⟨rfl, HLen.sl ?_⟩; conv => whnf) | (refine ⟨rfl, At.load (by assumption) ?_⟩; conv => whnf) | (refine HIf.yes ?_; conv => whnf) | (refine HIf.no ?_; conv => whnf) | (refine HIf.isT (by assumption) ?_; conv => whnf) | (refine HIf.isF (by assumption) ?_; conv => whnf) | (refine HIf.decT (by assumption) ?_; conv => whnf) | (refine HIf.decF (by assumption) ?_; conv => whnf) | (refine HIf.beqT (by assumption) ?_; conv => whnf) | (refine HIf.beqF (by assumption) ?_; conv => whnf) | (refine HIf.bneT (by assumption) ?_; conv => whnf) | (refine HIf.bneF (by assumption) ?_; conv => whnf) | (refine ⟨rfl, Ints.idxN (by assumption) (by omega) (fun p hp => ?_)⟩; conv => whnf) | (refine ⟨rfl, Rows.idxN (by assumption) (by omega) (fun p y hp hy => ?_)⟩; conv => whnf) | (refine And.intro (show Kd.isBool _ = true from rfl) ?_; conv => whnf) | (refine ⟨rfl, Ints.idx (by assumption) (by omega) (by omega) (fun p hp => ?_)⟩; conv => whnf) | (refine ⟨rfl, Rows.idx (by assumption) (by omega) (by omega) (fun p y hp hy => ?_)⟩; conv => whnf) | (refine HArith.fits (by omega) (by omega) ?_; conv => whnf) | (refine Or.inl (And.intro (show Region.lexB _ _ = true by kernel_rfl) ?_); conv => whnf)))
  refine (impl_reduced _ _ a0 _ a1 hx0 hx1 hC hw (by omega)).mono ?_
  rintro r h2 ⟨y1, rfl, f1⟩
  (conv => whnf)
  refine (impl_sequence _ _ a0 _ _ (hx0.ext f1.1) f1.ints hC nl (by omega)).mono ?_
  rintro r h3 ⟨y2, rfl, E3, O3⟩
  have hlen := rootsTo_len a0 (normF a0 a1) (normF a0 a1).length
  have hrl := rootsTo_length a0 (normF a0 a1) (normF a0 a1).length
  generalize rootsTo a0 (normF a0 a1) (normF a0 a1).length = L at O3 hlen hrl ⊢
  obtain ⟨r, ρ, rfl, g2, g3, g4, m⟩ := O3
  obtain ⟨cs, c1, c2, c3⟩ := m.outer
  have cell : ∀ (i : Nat) (x : H0) (l : List Int), i < L.length → cs[0 + i]? = some x → L[i]? = some l → x = .sl (ρ i) 0 l.length ∧ Ints (h3.set r .gone) x l ∧ l.length ≤ 4 := fun i x l hi hx hl => by
    have e : L.getD i [] = l := by simp [List.getD, hl]
    rw [Nat.zero_add, c3 i hi, e] at hx
    cases hx
    refine ⟨rfl, ?_, ?_⟩
    · obtain ⟨t, ht⟩ := m.inner i hi
      rw [e] at ht
      exact Ints.ofOwn (t := t) (by rw [List.getElem?_set_ne (Ne.symm (m.ne i hi))]; exact ht)
    · rw [hlen l (List.mem_of_getElem? hl)]
      exact hC4
  have hsort := sort_calls (dm := dm) (P := Tryz.prog) Tryz.sortL (CR := 87) (enters_of Tryz.func87 (by kernel_rfl) rfl) cmpR cmpR_swo (h := h3) (r := r) (off := 0) (len := L.length) (cs := cs) (Ls := L) c1 (by omega) rfl (by omega)
    (fun i x l hi hx hl => (cell i x l hi hx hl).2.1)
    (fun i j x y a b hi hj hx hy ha hb => by
      have kx := cell i x a hi hx ha
      have ky := cell j y b hj hy hb
      exact (impl_compareRoots _ _ _ _ _ kx.2.1.frz ky.2.1.frz (by omega) (by omega)).mono (fun z h' hz => hz.1))
  change HCalls dm Tryz.prog 86 _ _ _ at hsort
  (conv => whnf)
  refine hsort.mono ?_
  rintro z h4 ⟨rfl, σ, hp, hs, rfl⟩
  obtain ⟨ρ', m', hρ'⟩ := sorted_mat m hlen c3 hp hs
  have E4 : Ext h (h3.set r (.own (sortedRow cs 0 L.length σ))) := (f1.1.trans E3).set (by have := f1.1.1; omega) _
  have hil := insR_length L
  (conv => whnf)
  refine ⟨_, rfl, E4, r, ρ', by rw [hil], by have := f1.1.1; omega, by simpa using g3, fun i hi => ?_, m'⟩
  obtain ⟨j, hj, e⟩ := hρ' i (by omega)
  have := g4 j hj
  have := f1.1.1
  rw [e, List.length_set]
  omega

theorem spec_InversionsOf (h : Heap) (x0 : H0) (a0 : List (List Int)) (x1 : H0) (a1 : List Int) (hx0 : Rows h x0 a0) (hx1 : Ints h x1 a1) (s0 : a0.length ≤ 1048576 ∧ tot a0 ≤ 1048576) (s1 : a1.length ≤ 1048576) :
    HCalls dm Tryz.prog 26 [.s x0, .s x1] h (fun r h' => ∃ y, r = .s y ∧ Ext h h' ∧ OwnM h.length h'.length h' y (inversions a0 a1)) := by
  have hnl := normalForm_le a0 a1
  refine calls_of_hFun (m := 0) kd_ok mixed Tryz.func26 rfl (by kernel_rfl) rfl rfl (of_decide_eq_true rfl) ?_; unfold hFun; (conv => whnf)
  refine HLit.empty ?_
  (conv => whnf)
  have E0 := Ext.push h [Row.own []]
  refine (spec_NormalForm _ _ a0 _ a1 (hx0.ext E0) (hx1.ext E0) s0 s1).mono ?_
  rintro r h1 ⟨y1, rfl, f1⟩
  (conv => whnf)
  refine (spec_RootSequence _ _ a0 _ _ ((hx0.ext E0).ext f1.1) f1.ints s0 (by omega)).mono ?_
  rintro r h2 ⟨y2, rfl, E2, O2⟩
  rw [rootSeq_normal] at O2
  have E02 : Ext h h2 := (E0.trans f1.1).trans E2
  (conv => whnf)
  cases hic : isWord a0 a1
  · rw [hic] at O2
    rw [inversions_off hic]
    have R2 := O2.rows
    have ON : OwnM h.length h2.length h2 (.sl h.length 0 0) [] := ((OwnM.none h).ext (f1.1.trans E2)).widen (f1.1.trans E2).1
    refine HLoop.intro [9, 5] [20, 21, 22, 23, 24, 25, 26, 29, 30, 31, 32, 33, 34, 5, 27, 28, 9] (by kernel_rfl) (by kernel_rfl) (fun vs h' => vs = [I 0, .s (.sl h.length 0 0)] ∧ h' = h2) (fun vs _ => 0) ⟨rfl, rfl⟩ ?_
    rintro vs h' ⟨rfl, hh⟩
    subst h'
    (conv => whnf)
    refine ⟨rfl, R2.len ?_⟩
    (conv => whnf)
    refine HIf.no ?_
    (conv => whnf)
    (repeat (first | (refine ⟨rfl, Ints.len (by assumption) ?_⟩; conv => whnf) | (refine ⟨rfl, Rows.len (by assumption) ?_⟩; conv => whnf) | (refine ⟨rfl, HLen.sl ?_⟩; conv => whnf) | (refine ⟨rfl, At.load (by assumption) ?_⟩; conv => whnf) | (refine HIf.yes ?_; conv => whnf) | (refine HIf.no ?_; conv => whnf) | (refine HIf.isT (by assumption) ?_; conv => whnf) | (refine HIf.isF (by assumption) ?_; conv => whnf) | (refine HIf.decT (by assumption) ?_; conv => whnf) | (refine HIf.decF (by assumption) ?_; conv => whnf) | (refine HIf.beqT (by assumption) ?_; conv => whnf) | (refine HIf.beqF (by assumption) ?_; conv => whnf) | (refine HIf.bneT (by assumption) ?_; conv => whnf) | (refine HIf.bneF (by assumption) ?_; conv => whnf) | (refine ⟨rfl, Ints.idxN (by assumption) (by omega) (fun p hp => ?_)⟩; conv => whnf) | (refine ⟨rfl, Rows.idxN (by assumption) (by omega) (fun p y hp hy => ?_)⟩; conv => whnf) | (refine And.intro (show Kd.isBool _ = true from rfl) ?_; conv => whnf) | (refine ⟨rfl, Ints.idx (by assumption) (by omega) (by omega) (fun p hp => ?_)⟩; conv => whnf) | (refine ⟨rfl, Rows.idx (by assumption) (by omega) (by omega) (fun p y hp hy => ?_)⟩; conv => whnf) | (refine HArith.fits (by omega) (by omega) ?_; conv => whnf) | (refine Or.inl (And.intro (show Region.lexB _ _ = true by kernel_rfl) ?_); conv => whnf)))
    exact ⟨_, rfl, E02, ON⟩
  · obtain ⟨n15, nw⟩ := normF_word hic
    have hC4 := (word_cartan hic).1.le
    rw [hic, if_pos rfl] at O2
    rw [inversions_on hic]
    have hlen := rootsTo_len a0 (normF a0 a1) (normF a0 a1).length
    have hrl := rootsTo_length a0 (normF a0 a1) (normF a0 a1).length
    generalize rootsTo a0 (normF a0 a1) (normF a0 a1).length = L at O2 hlen hrl ⊢
    have R2 := O2.rows
    have ON : OwnM h.length h2.length h2 (.sl h.length 0 0) (insR (L.take 0)) := ((OwnM.none h).ext (f1.1.trans E2)).widen (f1.1.trans E2).1
    refine HLoop.intro [9, 5] [20, 21, 22, 23, 24, 25, 26, 29, 30, 31, 32, 33, 34, 5, 27, 28, 9] (by kernel_rfl) (by kernel_rfl) (fun vs h' => ∃ (k : Nat) (z : H0), vs = [I k, .s z] ∧ k ≤ L.length ∧ Ext h2 h' ∧ OwnM h.length h'.length h' z (insR (L.take k))) (fun vs _ => L.length - natAt vs 0) ⟨0, _, rfl, by omega, Ext.refl _, ON⟩ ?_
    rintro vs h' ⟨k, z, rfl, hk, E, O⟩
    have R2 := R2.ext E
    (conv => whnf)
    refine ⟨rfl, R2.len ?_⟩
    (conv => whnf)
    refine HIf.dec (fun hlt => ?_) (fun hge => ?_)
    · have hkl : k < L.length := by omega
      have hlk : (L.getD k []).length ≤ 4 := by
        have e : L.getD k [] = L[k] := by simp [List.getD, hkl]
        rw [e, hlen _ (List.getElem_mem hkl)]
        exact hC4
      have hil : (insR (L.take k)).length ≤ 15 := by rw [insR_length, List.length_take]; omega
      have hin : ∀ i, i < (insR (L.take k)).length → ((insR (L.take k)).getD i []).length ≤ 1048576 := fun i hi => by
        have e : (insR (L.take k)).getD i [] = (insR (L.take k))[i] := by simp [List.getD, hi]
        rw [e, hlen _ (List.mem_of_mem_take ((insR_perm _).mem_iff.1 (List.getElem_mem hi)))]
        omega
      obtain ⟨r, ρ, rfl, g2, g3, g4, m⟩ := O
      (conv => whnf)
      (repeat (first | (refine ⟨rfl, Ints.len (by assumption) ?_⟩; conv => whnf) | (refine ⟨rfl, Rows.len (by assumption) ?_⟩; conv => whnf) | (refine ⟨rfl, HLen.sl ?_⟩; conv => whnf) | (refine ⟨rfl, At.load (by assumption) ?_⟩; conv => whnf) | (refine HIf.yes ?_; conv => whnf) | (refine HIf.no ?_; conv => whnf) | (refine HIf.isT (by assumption) ?_; conv => whnf) | (refine HIf.isF (by assumption) ?_; conv => whnf) | (refine HIf.decT (by assumption) ?_; conv => whnf) | (refine HIf.decF (by assumption) ?_; conv => whnf) | (refine HIf.beqT (by assumption) ?_; conv => whnf) | (refine HIf.beqF (by assumption) ?_; conv => whnf) | (refine HIf.bneT (by assumption) ?_; conv => whnf) | (refine HIf.bneF (by assumption) ?_; conv => whnf) | (refine ⟨rfl, Ints.idxN (by assumption) (by omega) (fun p hp => ?_)⟩; conv => whnf) | (refine ⟨rfl, Rows.idxN (by assumption) (by omega) (fun p y hp hy => ?_)⟩; conv => whnf) | (refine And.intro (show Kd.isBool _ = true from rfl) ?_; conv => whnf) | (refine ⟨rfl, Ints.idx (by assumption) (by omega) (by omega) (fun p hp => ?_)⟩; conv => whnf) | (refine ⟨rfl, Rows.idx (by assumption) (by omega) (by omega) (fun p y hp hy => ?_)⟩; conv => whnf) | (refine HArith.fits (by omega) (by omega) ?_; conv => whnf) | (refine Or.inl (And.intro (show Region.lexB _ _ = true by kernel_rfl) ?_); conv => whnf)))
      refine (spec_l7Put _ _ _ _ _ (L.getD k []) m (by assumption) (by omega) (by omega) hin).mono ?_
      rintro v h4 ⟨y4, rfl, E4, M4⟩
      rw [← insR_snoc L k hkl] at M4
      (conv => whnf)
      refine HArith.fits (by omega) (by omega) ?_
      (conv => whnf)
      have l1 := E02.1
      have l2 := E.1
      refine ⟨⟨k + 1, y4, rfl, by omega, E.trans E4, M4.own (by omega) ?_⟩, by show L.length - (k + 1) < L.length - k; omega⟩
      rintro q _ (⟨j, hj, e⟩ | e)
      · have := g4 j hj
        omega
      · omega
    · have e : k = L.length := by omega
      subst e
      rw [List.take_length] at O
      (conv => whnf)
      (repeat (first | (refine ⟨rfl, Ints.len (by assumption) ?_⟩; conv => whnf) | (refine ⟨rfl, Rows.len (by assumption) ?_⟩; conv => whnf) | (refine ⟨rfl, HLen.sl ?_⟩; conv => whnf) | (refine ⟨rfl, At.load (by assumption) ?_⟩; conv => whnf) | (refine HIf.yes ?_; conv => whnf) | (refine HIf.no ?_; conv => whnf) | (refine HIf.isT (by assumption) ?_; conv => whnf) | (refine HIf.isF (by assumption) ?_; conv => whnf) | (refine HIf.decT (by assumption) ?_; conv => whnf) | (refine HIf.decF (by assumption) ?_; conv => whnf) | (refine HIf.beqT (by assumption) ?_; conv => whnf) | (refine HIf.beqF (by assumption) ?_; conv => whnf) | (refine HIf.bneT (by assumption) ?_; conv => whnf) | (refine HIf.bneF (by assumption) ?_; conv => whnf) | (refine ⟨rfl, Ints.idxN (by assumption) (by omega) (fun p hp => ?_)⟩; conv => whnf) | (refine ⟨rfl, Rows.idxN (by assumption) (by omega) (fun p y hp hy => ?_)⟩; conv => whnf) | (refine And.intro (show Kd.isBool _ = true from rfl) ?_; conv => whnf) | (refine ⟨rfl, Ints.idx (by assumption) (by omega) (by omega) (fun p hp => ?_)⟩; conv => whnf) | (refine ⟨rfl, Rows.idx (by assumption) (by omega) (by omega) (fun p y hp hy => ?_)⟩; conv => whnf) | (refine HArith.fits (by omega) (by omega) ?_; conv => whnf) | (refine Or.inl (And.intro (show Region.lexB _ _ = true by kernel_rfl) ?_); conv => whnf)))
      exact ⟨_, rfl, E02.trans E, O⟩

theorem impl_CommonInversions (h : Heap) (x0 : H0) (a0 : List (List Int)) (x1 : H0) (a1 : List Int) (x2 : H0) (a2 : List Int) (hx0 : Rows h x0 a0) (hx1 : Ints h x1 a1) (hx2 : Ints h x2 a2) (s0 : a0.length ≤ 1048576 ∧ tot a0 ≤ 1048576) (s1 : a1.length ≤ 1048576) (s2 : a2.length ≤ 1048576) :
    HCalls dm Tryz.prog 43 [.s x0, .s x1, .s x2] h (fun r h' => r = I (common a0 a1 a2) ∧ Ext h h') := by
  have z1 := inversions_size a0 a1
  have z2 := inversions_size a0 a2
  refine calls_of_hFun (m := 0) kd_ok mixed Tryz.func43 rfl (by kernel_rfl) rfl rfl (of_decide_eq_true rfl) ?_; unfold hFun; (conv => whnf)
  refine (impl_InversionsOf _ _ a0 _ a2 hx0 hx2 s0 s2).mono ?_
  rintro r h1 ⟨y1, rfl, E1, O1⟩
  (conv => whnf)
  refine (impl_InversionsOf _ _ a0 _ a1 (hx0.ext E1) (hx1.ext E1) s0 s1).mono ?_
  rintro r h2 ⟨y2, rfl, E2, O2⟩
  have e : common a0 a1 a2 = (commonTo (inversions a0 a1) (inversions a0 a2) (inversions a0 a1).length : Nat) := rfl
  rw [e]
  generalize inversions a0 a1 = X at z1 O2 ⊢
  generalize inversions a0 a2 = Y at z2 O1 ⊢
  have RX := O2.rows
  have RY := O1.rows.ext E2
  (conv => whnf)
  refine ⟨rfl, RX.len ?_⟩
  (conv => whnf)
  refine HLoop.intro [18, 7] [19, 20, 21, 10, 22, 23, 24, 25, 26, 7, 27, 18] (by kernel_rfl) (by kernel_rfl) (fun vs h' => ∃ k : Nat, vs = [I k, I (commonTo X Y k : Nat)] ∧ k ≤ X.length ∧ Ext h2 h') (fun vs _ => X.length - natAt vs 0) ⟨0, rfl, by omega, Ext.refl _⟩ ?_
  rintro vs h' ⟨k, rfl, hk, E⟩
  have RX := RX.ext E
  have RY := RY.ext E
  have hcl := commonTo_le X Y k
  (conv => whnf)
  refine HIf.dec (fun hlt => ?_) (fun hge => ?_)
  · have hkl : k < X.length := by omega
    have hle := len_le_tot hkl
    have hsu := commonTo_succ (Y := Y) hkl
    (conv => whnf)
    refine ⟨rfl, Rows.idxN RX hkl (fun p z hp hz => ?_)⟩
    (conv => whnf)
    refine ⟨rfl, hp.load ?_⟩
    (conv => whnf)
    refine (impl_hasRoot _ _ Y _ _ RY hz (by omega) (by omega)).mono ?_
    rintro v h3 ⟨rfl, E3⟩
    (conv => whnf)
    refine HIf.dec (fun hin => ?_) (fun hni => ?_)
    · rw [if_pos hin] at hsu
      (conv => whnf)
      refine HArith.fits (by omega) (by omega) ?_
      (conv => whnf)
      refine HArith.fits (by omega) (by omega) ?_
      (conv => whnf)
      exact ⟨⟨k + 1, by rw [hsu]; rfl, by omega, E.trans E3⟩, by show X.length - (k + 1) < X.length - k; omega⟩
    · rw [if_neg hni] at hsu
      (conv => whnf)
      refine HArith.fits (by omega) (by omega) ?_
      (conv => whnf)
      exact ⟨⟨k + 1, by rw [hsu]; rfl, by omega, E.trans E3⟩, by show X.length - (k + 1) < X.length - k; omega⟩
  · have e : k = X.length := by omega
    subst e
    (conv => whnf)
    exact ⟨rfl, (E1.trans E2).trans E⟩

theorem spec_CommonInversions (h : Heap) (x0 : H0) (a0 : List (List Int)) (x1 : H0) (a1 : List Int) (x2 : H0) (a2 : List Int) (hx0 : Rows h x0 a0) (hx1 : Ints h x1 a1) (hx2 : Ints h x2 a2) (s0 : a0.length ≤ 1048576 ∧ tot a0 ≤ 1048576) (s1 : a1.length ≤ 1048576) (s2 : a2.length ≤ 1048576) :
    HCalls dm Tryz.prog 44 [.s x0, .s x1, .s x2] h (fun r h' => r = I (common a0 a1 a2) ∧ Ext h h') := by
  have z1 := inversions_size a0 a1
  have z2 := inversions_size a0 a2
  refine calls_of_hFun (m := 0) kd_ok mixed Tryz.func44 rfl (by kernel_rfl) rfl rfl (of_decide_eq_true rfl) ?_; unfold hFun; (conv => whnf)
  refine (spec_InversionsOf _ _ a0 _ a1 hx0 hx1 s0 s1).mono ?_
  rintro r h1 ⟨y1, rfl, E1, O1⟩
  (conv => whnf)
  refine (spec_InversionsOf _ _ a0 _ a2 (hx0.ext E1) (hx2.ext E1) s0 s2).mono ?_
  rintro r h2 ⟨y2, rfl, E2, O2⟩
  have e : common a0 a1 a2 = (commonTo (inversions a0 a1) (inversions a0 a2) (inversions a0 a1).length : Nat) := rfl
  rw [e]
  generalize inversions a0 a1 = X at z1 O1 ⊢
  generalize inversions a0 a2 = Y at z2 O2 ⊢
  have RX := O1.rows.ext E2
  have RY := O2.rows
  (conv => whnf)
  refine HLoop.intro [10, 9] [17, 18, 19, 20, 23, 24, 25, 26, 27, 28, 29, 30, 9, 21, 22, 10] (by kernel_rfl) (by kernel_rfl) (fun vs h' => ∃ k : Nat, vs = [I k, I (commonTo X Y k : Nat)] ∧ k ≤ X.length ∧ h' = h2) (fun vs _ => X.length - natAt vs 0) ⟨0, rfl, by omega, rfl⟩ ?_
  rintro vs h' ⟨k, rfl, hk, hh⟩
  subst h'
  have hcl := commonTo_le X Y k
  (conv => whnf)
  refine ⟨rfl, RX.len ?_⟩
  (conv => whnf)
  refine HIf.dec (fun hlt => ?_) (fun hge => ?_)
  · have hkl : k < X.length := by omega
    have hle := len_le_tot hkl
    have hsu := commonTo_succ (Y := Y) hkl
    (conv => whnf)
    refine ⟨rfl, Rows.idxN RX hkl (fun p z hp hz => ?_)⟩
    (conv => whnf)
    refine ⟨rfl, hp.load ?_⟩
    (conv => whnf)
    refine (spec_l7In _ _ Y _ _ RY hz (by omega)).mono ?_
    rintro v h3 ⟨rfl, hh⟩
    subst h3
    (conv => whnf)
    refine HIf.dec (fun hin => ?_) (fun hni => ?_)
    · rw [if_pos hin] at hsu
      (conv => whnf)
      refine HArith.fits (by omega) (by omega) ?_
      (conv => whnf)
      refine HArith.fits (by omega) (by omega) ?_
      (conv => whnf)
      exact ⟨⟨k + 1, by rw [hsu]; rfl, by omega, rfl⟩, by show X.length - (k + 1) < X.length - k; omega⟩
    · rw [if_neg hni] at hsu
      (conv => whnf)
      refine HArith.fits (by omega) (by omega) ?_
      (conv => whnf)
      exact ⟨⟨k + 1, by rw [hsu]; rfl, by omega, rfl⟩, by show X.length - (k + 1) < X.length - k; omega⟩
  · have e : k = X.length := by omega
    subst e
    (conv => whnf)
    exact ⟨rfl, E1.trans E2⟩

end Go.Proofs.YtgliajcgcbnemaaGreatDoor.Hx

namespace Go.Proofs.YtgliajcgcbnemaaGreatDoor.Hx
open Go.RowKit
variable {dm : Bool}


set_option maxHeartbeats 1000000 in
theorem impl_WordOfInversions (h : Heap) (x0 : H0) (a0 : List (List Int)) (x1 : H0) (a1 : List (List Int)) (hx0 : Rows h x0 a0) (hx1 : Rows h x1 a1) (s0 : a0.length ≤ 1048576 ∧ tot a0 ≤ 1048576) (s1 : a1.length ≤ 1048576 ∧ tot a1 ≤ 1048576) :
    HCalls dm Tryz.prog 30 [.s x0, .s x1] h (fun r h' => ∃ y, r = T2 y (woiOk a0 a1) ∧ Fresh h h' y (woiW a0 a1)) := by
  obtain ⟨V, hV⟩ : ∃ V, V = woiOk a0 a1 := ⟨_, rfl⟩
  obtain ⟨W, hW⟩ : ∃ W, W = woiW a0 a1 := ⟨_, rfl⟩
  rw [← hV, ← hW]
  refine calls_of_hFun (m := 8) kd_ok mixed Tryz.func30 rfl (by kernel_rfl) rfl rfl (of_decide_eq_true rfl) ?_; unfold hFun; (conv => whnf)
  refine (impl_IsCartan _ _ _ hx0 (by omega)).mono ?_
  rintro r h1 ⟨rfl, hh⟩
  subst h1
  (conv => whnf)
  have bad : ∀ h2, Ext h h2 → woiOk a0 a1 = false ∧ woiW a0 a1 = [] → V = false ∧ Fresh h (h2 ++ [Row.own []]) (.sl h2.length 0 0) W := fun h2 E hb => by
    rw [hV, hW, hb.1, hb.2]
    exact ⟨rfl, Fresh.of (E.trans (Ext.push _ _)) ((OwnR.push h2 []).own E.1)⟩
  cases hic : isCartan a0
  · obtain ⟨g1, g2⟩ := bad h (Ext.refl _) (woi_off hic)
    subst g1
    refine HIf.yes ?_
    (conv => whnf)
    refine HLit.empty ?_
    (conv => whnf)
    exact ⟨_, rfl, g2⟩
  have hC := (isCartan_iff a0).1 hic
  have h4 := hC.le
  have h4p := hC.pos
  refine HIf.no ?_
  (conv => whnf)
  refine HLit.empty ?_
  (conv => whnf)
  refine HLoop.intro [1, 6, 7, 4, 5] [19, 20, 21, 7, 22, 23, 24, 8, 25, 26, 29, 30, 31, 32, 33, 34, 35, 7, 27, 28, 8, 36, 37, 38, 39, 40, 41, 42, 43, 4, 5, 44, 45, 46, 47, 6, 48, 49, 50, 51, 9, 52, 10, 53, 54, 55, 56, 57, 58, 12, 59, 60, 61, 62, 63, 64, 65, 13, 66, 67, 68, 69, 70, 71, 72, 73, 74, 4, 5, 75, 76, 77, 78, 10, 79, 55, 80, 1] (by kernel_rfl) (by kernel_rfl) (fun vs h' => ∃ (x z : H0) (r1 : Nat) (left : List (List Int)) (out : List Int) (g7 g4 g5 : HV), vs = [.s x, .s z, g7, g4, g5] ∧ Ext h h' ∧ h.length ≤ r1 ∧ OwnR r1 h' z out ∧ RdM h r1 h' x left ∧ out.length ≤ 15 ∧ left.length ≤ a1.length ∧ tot left ≤ tot a1 ∧ woi a0 (16 - out.length) left out = woi a0 16 a1 []) (fun vs _ => 16 - lenAt vs 1) ⟨x1, _, h.length, a1, [], _, _, _, rfl, Ext.push _ _, Nat.le_refl _, OwnR.push h [], Or.inl hx1, by simp, Nat.le_refl _, Nat.le_refl _, rfl⟩ ?_
  rintro vs h' ⟨x, z, r1, left, out, g7, g4, g5, rfl, E, hr1, Oz, RL, ho15, hll, hlt, hw⟩
  have hE := E.1
  have hRL := RL.rows E
  obtain ⟨f, hf⟩ : ∃ f, 16 - out.length = f + 1 := ⟨15 - out.length, by omega⟩
  rw [hf] at hw
  (conv => whnf)
  refine ⟨rfl, hRL.len ?_⟩
  (conv => whnf)
  refine HIf.dec (fun hpos => ?_) (fun hzero => ?_)
  rotate_left
  · rw [woi_done (by omega)] at hw
    have hs := woi_some hic hw.symm
    have g1 : V = true := hV.trans hs.1
    have g2 : W = out := hW.trans hs.2
    subst g1
    subst g2
    (conv => whnf)
    exact ⟨_, rfl, Fresh.ofRow E Oz hr1⟩
  have hne : left.length ≠ 0 := by omega
  have hx0' := hx0.ext E
  (conv => whnf)
  refine ⟨rfl, hx0'.len ?_⟩
  (conv => whnf)
  refine HArith.fits (by omega) (by omega) ?_
  (conv => whnf)
  refine HLoop.intro [8, 7] [25, 26, 29, 30, 31, 32, 33, 34, 35, 7, 27, 28, 8] (by kernel_rfl) (by kernel_rfl) (fun vs h2 => ∃ (k : Nat) (n : Int), vs = [I ((k : Int) - 1), I n] ∧ k ≤ a0.length ∧ Ext h' h2 ∧ ((n = -1 ∧ ∀ t : Nat, k ≤ t → t < a0.length → simpleRoot a0 (t : Nat) ∉ left) ∨ ∃ i : Nat, n = (i : Int) ∧ k ≤ i ∧ i < a0.length ∧ simpleRoot a0 (i : Nat) ∈ left ∧ ∀ t : Nat, k ≤ t → t < i → simpleRoot a0 (t : Nat) ∉ left)) (fun vs _ => (intAt vs 0 + 1).toNat) ⟨a0.length, -1, rfl, Nat.le_refl _, Ext.refl _, Or.inl ⟨rfl, fun t h1 h2 => by omega⟩⟩ ?_
  rintro vs h2 ⟨k, n, rfl, hk, E2, hn⟩
  have hx02 := hx0'.ext E2
  (conv => whnf)
  refine HIf.dec (fun hge => ?_) (fun hlt0 => ?_)
  · obtain ⟨m, rfl⟩ : ∃ m, k = m + 1 := ⟨k - 1, by omega⟩
    have em : ((m + 1 : Nat) : Int) - 1 = (m : Int) := by omega
    rw [em]
    (conv => whnf)
    refine ⟨rfl, hx02.len ?_⟩
    (conv => whnf)
    refine (impl_simple _ a0.length (m : Int) (by omega) (by omega) (by omega)).mono ?_
    rintro r h3 ⟨y3, rfl, f3⟩
    rw [← letter_root hic (by omega)] at f3
    have hsl := simpleRoot_length a0 (m : Int)
    (conv => whnf)
    refine (impl_hasRoot _ _ left _ _ ((RL.ext (E2.trans f3.1)).rows (E.trans (E2.trans f3.1))) f3.ints (by omega) (by omega)).mono ?_
    rintro r h5 ⟨rfl, E5⟩
    have Eb := (E2.trans f3.1).trans E5
    have em2 : (m : Int) - 1 = (m : Int) - 1 := rfl
    (conv => whnf)
    refine HIf.dec (fun hin => ?_) (fun hnin => ?_)
    · (conv => whnf)
      refine HArith.fits (by omega) (by omega) ?_
      (conv => whnf)
      exact ⟨⟨m, _, rfl, by omega, Eb, Or.inr ⟨m, rfl, Nat.le_refl _, by omega, hin, fun t h1 h2 => by omega⟩⟩, by show ((m : Int) - 1 + 1).toNat < ((m : Int) + 1).toNat; omega⟩
    · (conv => whnf)
      refine HArith.fits (by omega) (by omega) ?_
      (conv => whnf)
      refine ⟨⟨m, n, rfl, by omega, Eb, ?_⟩, by show ((m : Int) - 1 + 1).toNat < ((m : Int) + 1).toNat; omega⟩
      have ext : ∀ t : Nat, m ≤ t → ¬ m + 1 ≤ t → simpleRoot a0 (t : Nat) ∉ left := fun t h1 h2 => by
        have : t = m := by omega
        subst this
        exact hnin
      rcases hn with ⟨e, ha⟩ | ⟨i, e, h1, h2, h3, ha⟩
      · refine Or.inl ⟨e, fun t t1 t2 => ?_⟩
        by_cases hc : m + 1 ≤ t
        · exact ha t hc t2
        · exact ext t t1 hc
      · refine Or.inr ⟨i, e, by omega, h2, h3, fun t t1 t2 => ?_⟩
        by_cases hc : m + 1 ≤ t
        · exact ha t hc t2
        · exact ext t t1 hc
  have ek : k = 0 := by omega
  subst ek
  have hE2 := E2.1
  have Oz2 := Oz.ext E2
  have EA := E.trans E2
  (conv => whnf)
  rcases hn with ⟨rfl, ha⟩ | ⟨i, rfl, _, hi, hin, ha⟩
  · rw [woi_nofirst hne (firstS_none fun t ht => ha t (Nat.zero_le _) ht)] at hw
    obtain ⟨g1, g2⟩ := bad h2 EA (woi_none hw.symm)
    subst g1
    have hd : (-1 : Int) < 0 := by omega
    (repeat (first | (refine HIf.decT hd ?_; conv => whnf) | (refine HIf.yes ?_; conv => whnf)))
    refine HLit.empty ?_
    (conv => whnf)
    exact ⟨_, rfl, g2⟩
  have hfs := firstS_at hi hin (fun t ht => ha t (Nat.zero_le _) ht)
  have hd : ¬ (i : Int) < 0 := by omega
  refine HIf.decF hd ?_
  (conv => whnf)
  refine HIf.decF hd ?_
  (conv => whnf)
  refine ⟨rfl, Oz2.ints.len ?_⟩
  (conv => whnf)
  refine HIf.decF hd ?_
  (conv => whnf)
  refine HIf.decF hd ?_
  (conv => whnf)
  refine HIf.beq (fun h15 => ?_) (fun hn15 => ?_)
  · have ef : f = 0 := by omega
    subst ef
    rw [woi_one hne] at hw
    obtain ⟨g1, g2⟩ := bad h2 EA (woi_none hw.symm)
    subst g1
    (conv => whnf)
    refine HLit.empty ?_
    (conv => whnf)
    exact ⟨_, rfl, g2⟩
  (conv => whnf)
  refine HLit.one ?_
  (conv => whnf)
  refine ⟨rfl, rfl, HApp.snocR Oz2 (by omega) (fun h3 r3 y3 B3 hr3 O3 => ?_)⟩
  have RL3 := (RL.ext E2).but B3 hr3
  have E3 := EA.but B3 hr1
  have hx03 := hx0.ext E3
  (conv => whnf)
  refine ⟨rfl, hx03.len ?_⟩
  (conv => whnf)
  refine (impl_simple _ a0.length (i : Int) (by omega) (by omega) (by omega)).mono ?_
  rintro r h5 ⟨y5, rfl, f5⟩
  rw [← letter_root hic hi] at f5
  have hsl := simpleRoot_length a0 (i : Int)
  have E5 := E3.trans f5.1
  have RL5 := RL3.ext f5.1
  have O5 := O3.ext f5.1
  have hr3l := O5.lt
  have E5p := Ext.push h5 [Row.own []]
  have RL6 := (RL5.ext E5p).rows (E5.trans E5p)
  (conv => whnf)
  refine HLit.empty ?_
  (conv => whnf)
  refine ⟨rfl, RL6.len ?_⟩
  (conv => whnf)
  refine HLoop.intro [55, 10, 4, 5] [56, 57, 58, 12, 59, 60, 61, 62, 63, 64, 65, 13, 66, 67, 68, 69, 70, 71, 72, 73, 74, 4, 5, 75, 76, 77, 78, 10, 79, 55] (by kernel_rfl) (by kernel_rfl) (fun vs h' => ∃ (k : Nat) (y : H0) (R : List (List Int)) (g4 g5 : HV), vs = [I k, .s y, g4, g5] ∧ k ≤ left.length ∧ Ext h5 h' ∧ OwnM h5.length h'.length h' y R ∧ nextTo a0 i left k = some R ∧ R.length ≤ k ∧ tot R ≤ tot (left.take k)) (fun vs _ => left.length - natAt vs 0) ⟨0, _, [], _, _, rfl, by omega, E5p, OwnM.none h5, rfl, by simp, by simp⟩ ?_
  rintro vs h6 ⟨k, y, R, g4, g5, rfl, hk, E6, OM, hnx, hRl, hRt⟩
  have E56 := E5.trans E6
  have RLr := (RL5.ext E6).rows E56
  have htl := tot_take_le left k
  (conv => whnf)
  refine HIf.dec (fun hlt => ?_) (fun hge => ?_)
  · have hle := len_le_tot (L := left) (i := k) (by omega)
    have hts := tot_succ left k (by omega)
    (conv => whnf)
    refine ⟨rfl, Rows.idxN RLr (by omega) (fun p z hp hz => ?_)⟩
    (conv => whnf)
    refine ⟨rfl, hp.load ?_⟩
    (conv => whnf)
    refine (lib_Equal _ _ _ _ _ hz (f5.ints.ext E6) (by omega)).mono ?_
    rintro v h7 ⟨rfl, hh⟩
    subst h7
    (conv => whnf)
    refine HIf.dec (fun heq => ?_) (fun hneq => ?_)
    · have hs := nextTo_skip hnx heq
      (conv => whnf)
      refine HArith.fits (by omega) (by omega) ?_
      (conv => whnf)
      exact ⟨⟨k + 1, y, R, _, _, rfl, by omega, E6, OM, hs, by omega, by omega⟩, by show left.length - (k + 1) < left.length - k; omega⟩
    have hrr := reflectRoot_length a0 (i : Int) (left.getD k [])
    (conv => whnf)
    refine (impl_ReflectRoot _ _ a0 (i : Int) _ _ (hx0.ext E56) hz s0 (by omega) (by omega)).mono ?_
    rintro v h7 ⟨y7, rfl, f7⟩
    (conv => whnf)
    refine (impl_RootSign _ _ _ f7.ints (by omega)).mono ?_
    rintro v h8 ⟨rfl, hh⟩
    subst h8
    (conv => whnf)
    by_cases hsg : rootSign (reflectRoot a0 (i : Int) (left.getD k [])) = 1
    · refine HIf.bneF hsg ?_
      (conv => whnf)
      refine HIf.bneF hsg ?_
      (conv => whnf)
      refine HIf.bneF hsg ?_
      (conv => whnf)
      refine (impl_hasRoot _ _ R _ _ (OM.ext f7.1).rows f7.ints (by omega) (by omega)).mono ?_
      rintro v h8 ⟨rfl, E8⟩
      have E78 := f7.1.trans E8
      (conv => whnf)
      refine HIf.bneF hsg ?_
      (conv => whnf)
      refine HIf.dec (fun hmem => ?_) (fun hnmem => ?_)
      · rw [woi_nonext hne hfs (nextTo_none (nextTo_bad hnx hneq (Or.inr hmem)) _ (by omega))] at hw
        obtain ⟨g1, g2⟩ := bad h8 (E56.trans E78) (woi_none hw.symm)
        subst g1
        (conv => whnf)
        refine HLit.empty ?_
        (conv => whnf)
        exact ⟨_, rfl, g2⟩
      · have hs := nextTo_add hnx hneq hsg hnmem
        have O8 := f7.own.ext E8
        have hE8 := E8.1
        have hta := tot_app R (reflectRoot a0 (i : Int) (left.getD k []))
        (conv => whnf)
        refine HLit.row O8.one ?_
        (conv => whnf)
        refine ⟨rfl, rfl, HApp.snocM E6 OM E78 (O8.widen hE8) (by omega) (fun h9 y9 E9 O9 => ?_)⟩
        (conv => whnf)
        refine HArith.fits (by omega) (by omega) ?_
        (conv => whnf)
        exact ⟨⟨k + 1, y9, _, _, _, rfl, by omega, E9, O9, hs, by simp; omega, by omega⟩, by show left.length - (k + 1) < left.length - k; omega⟩
    · rw [woi_nonext hne hfs (nextTo_none (nextTo_bad hnx hneq (Or.inl hsg)) _ (by omega))] at hw
      obtain ⟨g1, g2⟩ := bad h7 (E56.trans f7.1) (woi_none hw.symm)
      subst g1
      (repeat (first | (refine HIf.bneT hsg ?_; conv => whnf) | (refine HIf.yes ?_; conv => whnf)))
      refine HLit.empty ?_
      (conv => whnf)
      exact ⟨_, rfl, g2⟩
  · have e : k = left.length := by omega
    subst e
    rw [List.take_length] at hRt
    rw [woi_next hne hfs hnx] at hw
    have O6 := O5.ext E6
    have hE6 := E6.1
    have hyl : z = .sl r1 0 out.length := by obtain ⟨t, e, _⟩ := Oz; exact e
    have hyl3 : y3 = .sl r3 0 (out ++ [(i : Int)]).length := by obtain ⟨t, e, _⟩ := O3; exact e
    have hol : (out ++ [(i : Int)]).length = out.length + 1 := by simp
    (conv => whnf)
    refine ⟨⟨y, y3, r3, R, out ++ [(i : Int)], _, _, _, rfl, E56, by omega, O6, Or.inr ⟨h5.length, h6.length, Nat.le_refl _, Or.inl hr3l, OM⟩, by omega, by omega, by omega, by rw [← hw, hol]; congr 1; omega⟩, ?_⟩
    subst hyl
    subst hyl3
    show 16 - (out ++ [(i : Int)]).length < 16 - out.length
    omega

end Go.Proofs.YtgliajcgcbnemaaGreatDoor.Hx
