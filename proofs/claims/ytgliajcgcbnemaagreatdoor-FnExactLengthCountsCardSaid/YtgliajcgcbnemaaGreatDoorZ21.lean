/-
  Contracts of ReducedWords, of the reference: a search by braid moves, and insertions in the order of words.
  All elements of a small finite group, of the reference.
  The game of signs from whatever places above zero, and that the numbers of a root all have one sign. Plain theory.
  Roots as maps of places: a root's numbers all have one sign, and the sign is told by the length of a word. Plain theory.
  The matrix turned over: the same words are reduced, so a root and its coroot have one sign; a root above zero that is not simple goes down at some letter. Plain theory.
  The roots up to a height: whatever way leads to a root above zero, a way that only goes up leads to it too. Plain theory on lists.
  Lists of pairs of roots in the program's memory, with the keys that were seen: what one more pair does.
  DERIVED: THE SHELF's CONTRACTS AT THIS DUMP, IN PLAIN WORDS (tools/lay-plain.mjs out of 'YtgliajcgcbnemaaGreatDoorSl.lean', which tools/lay-shelf.mjs wrote): THE SAME DECLARATIONS UNDER THE SAME NAMES: 'import', 'namespace', 'open', 'def', 'theorem' AND NOTHING ELSE: no command of the shelf's: FOR A HAND-IN. Each laying: the table of numbers ('.._ren') and one theorem, a field a fact of the dump's own or the kernel's comparison; each contract: ONE APPLICATION.
-/
import Derived.Test.YtgliajcgcbnemaaGreatDoorZ20
import Derived.Shelf.SlSortCmp.NoneTotal
import Derived.Shelf.SlGeneric
import Derived.Ground.SlsfProg
import Derived.Test.YtgliajcgcbnemaaGreatDoorProg
namespace Go.Proofs.YtgliajcgcbnemaaGreatDoor.Hx
open Go.RowKit
variable {dm : Bool}

theorem putW_at {w : List Int} {L : List (List Int)} {i : Nat} (hi : i < L.length) : putW w (L.drop i) = if cmpW w (L.getD i []) = 0 then L.drop i else if cmpW w (L.getD i []) < 0 then w :: L.drop i else L.getD i [] :: putW w (L.drop (i + 1)) := by
  rw [List.drop_eq_getElem_cons hi]
  simp [putW, List.getD, hi]

theorem getD_mem {L : List (List Int)} {i : Nat} (h : i < L.length) : L.getD i [] ∈ L := by
  have e : L.getD i [] = L[i] := by simp [List.getD, h]
  rw [e]
  exact List.getElem_mem h

theorem spec_CompareWordsW (h : Heap) (x y : H0) (a b : List Int) (hx : Ints h x a) (hy : Ints h y b) (hal : a.length ≤ 1048576) :
    HCalls dm Tryz.prog 166 [.s x, .s y] h (fun r h' => r = I (cmpW a b) ∧ h' = h) := by
  refine calls_of_hFun (m := 0) kd_ok mixed Tryz.func166 rfl (by kernel_rfl) rfl rfl (of_decide_eq_true rfl) ?_; unfold hFun; (conv => whnf)
  refine ⟨rfl, hx.len ?_⟩
  (conv => whnf)
  refine ⟨rfl, hy.len ?_⟩
  (conv => whnf)
  refine HIf.bne (fun hne => ?_) (fun heq => ?_)
  · (conv => whnf)
    refine ⟨rfl, hx.len ?_⟩
    (conv => whnf)
    refine ⟨rfl, hy.len ?_⟩
    (conv => whnf)
    refine HIf.dec (fun h1 => ?_) (fun h1 => ?_)
    · (conv => whnf)
      exact ⟨iEq' (by rw [cmpW, if_pos (by omega)]), rfl⟩
    · (conv => whnf)
      exact ⟨iEq' (by rw [cmpW, if_neg (by omega), if_pos (by omega)]), rfl⟩
  · have hcw : cmpW a b = lexC a b := by rw [cmpW, if_neg (by omega), if_neg (by omega)]
    (conv => whnf)
    refine HLoop.intro [5] [16, 17, 18, 19, 22, 23, 24, 25, 26, 27, 28, 29, 30, 4, 31, 32, 33, 34, 35, 36, 37, 38, 39, 4, 20, 21, 5] (by kernel_rfl) (by kernel_rfl) (fun vs h' => ∃ i : Nat, vs = [I i] ∧ h' = h ∧ i ≤ a.length ∧ lexC a b = lexC (a.drop i) (b.drop i)) (fun vs _ => a.length - natAt vs 0) ⟨0, rfl, rfl, by omega, rfl⟩ ?_
    rintro vs h' ⟨i, rfl, hh, hi, hb⟩
    subst h'
    (conv => whnf)
    refine ⟨rfl, hx.len ?_⟩
    (conv => whnf)
    refine HIf.dec (fun hlt => ?_) (fun hge => ?_)
    · have hd := lexC_drop (a := a) (b := b) (i := i) (by omega) (by omega)
      (conv => whnf)
      refine Or.inl (And.intro (show Region.lexB _ _ = true by kernel_rfl) ?_); (conv => whnf)
      refine ⟨rfl, Ints.idxN hx (by omega) (fun p hp => ?_)⟩
      (conv => whnf)
      refine ⟨rfl, hp.load ?_⟩
      (conv => whnf)
      refine ⟨rfl, Ints.idxN hy (by omega) (fun p2 hp2 => ?_)⟩
      (conv => whnf)
      refine ⟨rfl, hp2.load ?_⟩
      (conv => whnf)
      refine HIf.dec (fun h1 => ?_) (fun h1 => ?_)
      · rw [if_pos h1] at hd
        (conv => whnf)
        exact ⟨iEq' (by rw [hcw, hb, hd]), rfl⟩
      · rw [if_neg h1] at hd
        (conv => whnf)
        refine Or.inl (And.intro (show Region.lexB _ _ = true by kernel_rfl) ?_); (conv => whnf)
        refine ⟨rfl, Ints.idxN hx (by omega) (fun p3 hp3 => ?_)⟩
        (conv => whnf)
        refine ⟨rfl, hp3.load ?_⟩
        (conv => whnf)
        refine ⟨rfl, Ints.idxN hy (by omega) (fun p4 hp4 => ?_)⟩
        (conv => whnf)
        refine ⟨rfl, hp4.load ?_⟩
        (conv => whnf)
        refine HIf.dec (fun h2 => ?_) (fun h2 => ?_)
        · rw [if_pos (by omega)] at hd
          (conv => whnf)
          exact ⟨iEq' (by rw [hcw, hb, hd]), rfl⟩
        · rw [if_neg (by omega)] at hd
          (conv => whnf)
          refine HArith.fits (by omega) (by omega) ?_
          (conv => whnf)
          exact ⟨⟨i + 1, rfl, rfl, by omega, hb.trans hd⟩, by show a.length - (i + 1) < a.length - i; omega⟩
    · have he := lexC_end (a := a) (b := b) (i := i) (by omega)
      rw [if_neg (by omega)] at he
      (conv => whnf)
      exact ⟨iEq' (by rw [hcw, hb, he]), rfl⟩

set_option maxHeartbeats 1000000 in
theorem spec_l11Put (h : Heap) (r0 : Nat) (ρ : Nat → Nat) (L : List (List Int)) (x1 : H0) (w : List Int) (m0 : MatAt h r0 ρ L) (hx1 : Ints h x1 w) (hL : L.length ≤ 1048576) (hw : w.length ≤ 1048576) :
    HCalls dm Tryz.prog 142 [.s (.sl r0 0 L.length), .s x1] h (fun r h' => ∃ y, r = .s y ∧ Ext h h' ∧ MatIn h.length (fun q => (∃ m, m < L.length ∧ q = ρ m) ∨ h.length ≤ q) h' y (putW w L)) := by
  have hρ := m0.lt.2
  refine calls_of_hFun (m := 0) kd_ok mixed Tryz.func142 rfl (by kernel_rfl) rfl rfl (of_decide_eq_true rfl) ?_; unfold hFun; (conv => whnf)
  refine HLit.empty ?_
  (conv => whnf)
  refine HLoop.intro [7, 6, 5] [10, 11, 12, 13, 16, 17, 18, 19, 20, 21, 8, 22, 23, 6, 24, 25, 26, 27, 28, 29, 30, 31, 32, 33, 34, 35, 5, 6, 36, 37, 38, 39, 40, 41, 42, 5, 14, 15, 7] (by kernel_rfl) (by kernel_rfl) (fun vs h' => ∃ (i : Nat) (pl : Bool) (z : H0) (T : List (List Int)), vs = [I i, B pl, .s z] ∧ i ≤ L.length ∧ Ext h h' ∧ MatIn h.length (fun q => (∃ m, m < i ∧ q = ρ m) ∨ (pl = true ∧ h.length ≤ q)) h' z T ∧ (pl = true → T ++ L.drop i = putW w L) ∧ (pl = false → T ++ putW w (L.drop i) = putW w L)) (fun vs _ => L.length - natAt vs 0) ⟨0, false, _, [], rfl, by omega, Ext.push _ _, MatIn.none h _, (fun e => by cases e), (fun _ => rfl)⟩ ?_
  rintro vs h' ⟨i, pl, z, T, rfl, hi, E, M, hT1, hT2⟩
  have hpl := putW_le w L
  have hTl : T.length ≤ 1048577 := by
    cases pl
    · have := congrArg List.length (hT2 rfl)
      have := putW_le w (L.drop i)
      rw [List.length_append] at *
      omega
    · have := congrArg List.length (hT1 rfl)
      rw [List.length_append] at this
      omega
  have m1 := m0.ext E
  have hx1 := hx1.ext E
  (conv => whnf)
  refine ⟨rfl, m1.rows.len ?_⟩
  (conv => whnf)
  refine HIf.dec (fun hlt => ?_) (fun hge => ?_)
  · have hil : i < L.length := by omega
    have hrow := m1.inner' hil
    have hpa := putW_at (w := w) hil
    have hda := drop_at hil
    have hne : ∀ m, m < i → ρ i ≠ ρ m := fun m hm e => m0.inj m i hm hil e.symm
    have hE := E.1
    (conv => whnf)
    refine ⟨rfl, m1.idx hil (fun p hp => ?_)⟩
    (conv => whnf)
    refine ⟨rfl, hp.load ?_⟩
    (conv => whnf)
    refine (spec_CompareWordsW _ _ _ _ _ hx1 hrow.ints hw).mono ?_
    rintro v h2 ⟨rfl, hh⟩
    subst h2
    (conv => whnf)
    generalize hcv : cmpW w (L.getD i []) = cv at *
    refine HIf.beq (fun h0 => ?_) (fun h0 => ?_)
    · rw [if_pos h0] at hpa
      have hT : T ++ L.drop i = putW w L := by
        cases pl
        · rw [← hpa]; exact hT2 rfl
        · exact hT1 rfl
      rw [hda] at hT
      subst h0
      (conv => whnf)
      refine HIf.decF (by omega) ?_
      (conv => whnf)
      refine HIf.no ?_
      (conv => whnf)
      refine HIf.no ?_
      (conv => whnf)
      refine HIf.no ?_
      (conv => whnf)
      refine ⟨rfl, m1.idx hil (fun p2 hp2 => ?_)⟩
      (conv => whnf)
      refine ⟨rfl, hp2.load ?_⟩
      (conv => whnf)
      refine HLit.row rfl ?_
      (conv => whnf)
      refine ⟨rfl, rfl, HApp.snocS E M (Ext.refl _) hrow (by
        have := hρ i hil
        rintro (⟨m, hm, e⟩ | ⟨_, e⟩)
        · exact hne m hm e
        · omega) (Or.inl (hρ i hil)) (by omega) (fun h3 z3 E3 hl3 M3 => ?_)⟩
      (conv => whnf)
      refine HArith.fits (by omega) (by omega) ?_
      (conv => whnf)
      refine ⟨⟨i + 1, true, z3, _, rfl, by omega, E3, M3.weaken ?_, (fun _ => by rw [List.append_assoc]; exact hT), (fun e => by cases e)⟩, by show L.length - (i + 1) < L.length - i; omega⟩
      rintro q _ ((⟨m, hm, e⟩ | ⟨_, e⟩) | e)
      · exact Or.inl ⟨m, by omega, e⟩
      · exact Or.inr ⟨rfl, e⟩
      · exact Or.inl ⟨i, by omega, e⟩
    · rw [if_neg h0] at hpa
      by_cases hneg : cv < 0
      · rw [if_pos hneg] at hpa
        cases pl
        · have hT := hT2 rfl
          rw [hpa] at hT
          (conv => whnf)
          (repeat (first | (refine ⟨rfl, Ints.len (by assumption) ?_⟩; conv => whnf) | (refine ⟨rfl, Rows.len (by assumption) ?_⟩; conv => whnf) | (refine ⟨rfl, HLen.sl ?_⟩; conv => whnf) | (refine ⟨rfl, At.load (by assumption) ?_⟩; conv => whnf) | (refine HIf.yes ?_; conv => whnf) | (refine HIf.no ?_; conv => whnf) | (refine HIf.isT (by assumption) ?_; conv => whnf) | (refine HIf.isF (by assumption) ?_; conv => whnf) | (refine HIf.decT (by assumption) ?_; conv => whnf) | (refine HIf.decF (by assumption) ?_; conv => whnf) | (refine HIf.beqT (by assumption) ?_; conv => whnf) | (refine HIf.beqF (by assumption) ?_; conv => whnf) | (refine HIf.bneT (by assumption) ?_; conv => whnf) | (refine HIf.bneF (by assumption) ?_; conv => whnf) | (refine ⟨rfl, Ints.idxN (by assumption) (by omega) (fun p hp => ?_)⟩; conv => whnf) | (refine ⟨rfl, Rows.idxN (by assumption) (by omega) (fun p y hp hy => ?_)⟩; conv => whnf) | (refine And.intro (show Kd.isBool _ = true from rfl) ?_; conv => whnf) | (refine ⟨rfl, Ints.idx (by assumption) (by omega) (by omega) (fun p hp => ?_)⟩; conv => whnf) | (refine ⟨rfl, Rows.idx (by assumption) (by omega) (by omega) (fun p y hp hy => ?_)⟩; conv => whnf) | (refine HArith.fits (by omega) (by omega) ?_; conv => whnf) | (refine Or.inl (And.intro (show Region.lexB _ _ = true by kernel_rfl) ?_); conv => whnf)))
          refine HLit.empty ?_
          (conv => whnf)
          refine ⟨rfl, rfl, HApp.moreR (OwnR.push h' []) (hx1.ext (Ext.push _ _)) (by simp; omega) (fun h3 r3 y3 B3 hr3 O3 => ?_)⟩
          have E3 : Ext h' h3 := (Ext.push h' [Row.own []]).but B3 (Nat.le_refl _)
          have hl3 : h'.length ≤ r3 := by simp at hr3; omega
          rw [List.nil_append] at O3
          (conv => whnf)
          refine HLit.row (O3.own (b := 0) (by omega)).one ?_
          (conv => whnf)
          refine ⟨rfl, rfl, HApp.snocS E M E3 O3 (by
            rintro (⟨m, hm, e⟩ | ⟨e, _⟩)
            · have := hρ m (by omega)
              omega
            · cases e) (Or.inr hl3) (by omega) (fun h4 z4 E4 hl4 M4 => ?_)⟩
          have m4 := m0.ext E4
          have hrow4 := m4.inner' hil
          (conv => whnf)
          refine ⟨rfl, m4.idx hil (fun p2 hp2 => ?_)⟩
          (conv => whnf)
          refine ⟨rfl, hp2.load ?_⟩
          (conv => whnf)
          refine HLit.row rfl ?_
          (conv => whnf)
          refine ⟨rfl, rfl, HApp.snocS E4 M4 (Ext.refl _) hrow4 (by
            have := hρ i hil
            rintro ((⟨m, hm, e⟩ | ⟨e, _⟩) | e)
            · exact hne m hm e
            · cases e
            · omega) (Or.inl (hρ i hil)) (by simp; omega) (fun h5 z5 E5 hl5 M5 => ?_)⟩
          (conv => whnf)
          refine HArith.fits (by omega) (by omega) ?_
          (conv => whnf)
          refine ⟨⟨i + 1, true, z5, _, rfl, by omega, E5, M5.weaken ?_, (fun _ => by rw [List.append_assoc, List.append_assoc, ← hT, hda]; rfl), (fun e => by cases e)⟩, by show L.length - (i + 1) < L.length - i; omega⟩
          rintro q _ (((⟨m, hm, e⟩ | ⟨e, _⟩) | e) | e)
          · exact Or.inl ⟨m, by omega, e⟩
          · cases e
          · exact Or.inr ⟨rfl, by omega⟩
          · exact Or.inl ⟨i, by omega, e⟩
        · have hT := hT1 rfl
          rw [hda] at hT
          (conv => whnf)
          (repeat (first | (refine ⟨rfl, Ints.len (by assumption) ?_⟩; conv => whnf) | (refine ⟨rfl, Rows.len (by assumption) ?_⟩; conv => whnf) | (refine ⟨rfl, HLen.sl ?_⟩; conv => whnf) | (refine ⟨rfl, At.load (by assumption) ?_⟩; conv => whnf) | (refine HIf.yes ?_; conv => whnf) | (refine HIf.no ?_; conv => whnf) | (refine HIf.isT (by assumption) ?_; conv => whnf) | (refine HIf.isF (by assumption) ?_; conv => whnf) | (refine HIf.decT (by assumption) ?_; conv => whnf) | (refine HIf.decF (by assumption) ?_; conv => whnf) | (refine HIf.beqT (by assumption) ?_; conv => whnf) | (refine HIf.beqF (by assumption) ?_; conv => whnf) | (refine HIf.bneT (by assumption) ?_; conv => whnf) | (refine HIf.bneF (by assumption) ?_; conv => whnf) | (refine ⟨rfl, Ints.idxN (by assumption) (by omega) (fun p hp => ?_)⟩; conv => whnf) | (refine ⟨rfl, Rows.idxN (by assumption) (by omega) (fun p y hp hy => ?_)⟩; conv => whnf) | (refine And.intro (show Kd.isBool _ = true from rfl) ?_; conv => whnf) | (refine ⟨rfl, Ints.idx (by assumption) (by omega) (by omega) (fun p hp => ?_)⟩; conv => whnf) | (refine ⟨rfl, Rows.idx (by assumption) (by omega) (by omega) (fun p y hp hy => ?_)⟩; conv => whnf) | (refine HArith.fits (by omega) (by omega) ?_; conv => whnf) | (refine Or.inl (And.intro (show Region.lexB _ _ = true by kernel_rfl) ?_); conv => whnf)))
          refine ⟨rfl, m1.idx hil (fun p2 hp2 => ?_)⟩
          (conv => whnf)
          refine ⟨rfl, hp2.load ?_⟩
          (conv => whnf)
          refine HLit.row rfl ?_
          (conv => whnf)
          refine ⟨rfl, rfl, HApp.snocS E M (Ext.refl _) hrow (by
            have := hρ i hil
            rintro (⟨m, hm, e⟩ | ⟨_, e⟩)
            · exact hne m hm e
            · omega) (Or.inl (hρ i hil)) (by omega) (fun h3 z3 E3 hl3 M3 => ?_)⟩
          (conv => whnf)
          refine HArith.fits (by omega) (by omega) ?_
          (conv => whnf)
          refine ⟨⟨i + 1, true, z3, _, rfl, by omega, E3, M3.weaken ?_, (fun _ => by rw [List.append_assoc]; exact hT), (fun e => by cases e)⟩, by show L.length - (i + 1) < L.length - i; omega⟩
          rintro q _ ((⟨m, hm, e⟩ | ⟨_, e⟩) | e)
          · exact Or.inl ⟨m, by omega, e⟩
          · exact Or.inr ⟨rfl, e⟩
          · exact Or.inl ⟨i, by omega, e⟩
      · rw [if_neg hneg] at hpa
        have hT3 : pl = true → T ++ (L.getD i [] :: L.drop (i + 1)) = putW w L := fun e => by rw [← hda]; exact hT1 e
        have hT4 : pl = false → T ++ (L.getD i [] :: putW w (L.drop (i + 1))) = putW w L := fun e => by rw [← hpa]; exact hT2 e
        (conv => whnf)
        (repeat (first | (refine ⟨rfl, Ints.len (by assumption) ?_⟩; conv => whnf) | (refine ⟨rfl, Rows.len (by assumption) ?_⟩; conv => whnf) | (refine ⟨rfl, HLen.sl ?_⟩; conv => whnf) | (refine ⟨rfl, At.load (by assumption) ?_⟩; conv => whnf) | (refine HIf.yes ?_; conv => whnf) | (refine HIf.no ?_; conv => whnf) | (refine HIf.isT (by assumption) ?_; conv => whnf) | (refine HIf.isF (by assumption) ?_; conv => whnf) | (refine HIf.decT (by assumption) ?_; conv => whnf) | (refine HIf.decF (by assumption) ?_; conv => whnf) | (refine HIf.beqT (by assumption) ?_; conv => whnf) | (refine HIf.beqF (by assumption) ?_; conv => whnf) | (refine HIf.bneT (by assumption) ?_; conv => whnf) | (refine HIf.bneF (by assumption) ?_; conv => whnf) | (refine ⟨rfl, Ints.idxN (by assumption) (by omega) (fun p hp => ?_)⟩; conv => whnf) | (refine ⟨rfl, Rows.idxN (by assumption) (by omega) (fun p y hp hy => ?_)⟩; conv => whnf) | (refine And.intro (show Kd.isBool _ = true from rfl) ?_; conv => whnf) | (refine ⟨rfl, Ints.idx (by assumption) (by omega) (by omega) (fun p hp => ?_)⟩; conv => whnf) | (refine ⟨rfl, Rows.idx (by assumption) (by omega) (by omega) (fun p y hp hy => ?_)⟩; conv => whnf) | (refine HArith.fits (by omega) (by omega) ?_; conv => whnf) | (refine Or.inl (And.intro (show Region.lexB _ _ = true by kernel_rfl) ?_); conv => whnf)))
        refine ⟨rfl, m1.idx hil (fun p2 hp2 => ?_)⟩
        (conv => whnf)
        refine ⟨rfl, hp2.load ?_⟩
        (conv => whnf)
        refine HLit.row rfl ?_
        (conv => whnf)
        refine ⟨rfl, rfl, HApp.snocS E M (Ext.refl _) hrow (by
          have := hρ i hil
          rintro (⟨m, hm, e⟩ | ⟨_, e⟩)
          · exact hne m hm e
          · omega) (Or.inl (hρ i hil)) (by omega) (fun h3 z3 E3 hl3 M3 => ?_)⟩
        (conv => whnf)
        refine HArith.fits (by omega) (by omega) ?_
        (conv => whnf)
        refine ⟨⟨i + 1, pl, z3, _, rfl, by omega, E3, M3.weaken ?_, (fun e => by rw [List.append_assoc]; exact hT3 e), (fun e => by rw [List.append_assoc]; exact hT4 e)⟩, by show L.length - (i + 1) < L.length - i; omega⟩
        rintro q _ ((⟨m, hm, e⟩ | e) | e)
        · exact Or.inl ⟨m, by omega, e⟩
        · exact Or.inr e
        · exact Or.inl ⟨i, by omega, e⟩
  · have e : i = L.length := by omega
    have hd : L.drop i = [] := List.drop_eq_nil_of_le (by omega)
    cases pl
    · have hT := hT2 rfl
      rw [hd] at hT
      (conv => whnf)
      (repeat (first | (refine ⟨rfl, Ints.len (by assumption) ?_⟩; conv => whnf) | (refine ⟨rfl, Rows.len (by assumption) ?_⟩; conv => whnf) | (refine ⟨rfl, HLen.sl ?_⟩; conv => whnf) | (refine ⟨rfl, At.load (by assumption) ?_⟩; conv => whnf) | (refine HIf.yes ?_; conv => whnf) | (refine HIf.no ?_; conv => whnf) | (refine HIf.isT (by assumption) ?_; conv => whnf) | (refine HIf.isF (by assumption) ?_; conv => whnf) | (refine HIf.decT (by assumption) ?_; conv => whnf) | (refine HIf.decF (by assumption) ?_; conv => whnf) | (refine HIf.beqT (by assumption) ?_; conv => whnf) | (refine HIf.beqF (by assumption) ?_; conv => whnf) | (refine HIf.bneT (by assumption) ?_; conv => whnf) | (refine HIf.bneF (by assumption) ?_; conv => whnf) | (refine ⟨rfl, Ints.idxN (by assumption) (by omega) (fun p hp => ?_)⟩; conv => whnf) | (refine ⟨rfl, Rows.idxN (by assumption) (by omega) (fun p y hp hy => ?_)⟩; conv => whnf) | (refine And.intro (show Kd.isBool _ = true from rfl) ?_; conv => whnf) | (refine ⟨rfl, Ints.idx (by assumption) (by omega) (by omega) (fun p hp => ?_)⟩; conv => whnf) | (refine ⟨rfl, Rows.idx (by assumption) (by omega) (by omega) (fun p y hp hy => ?_)⟩; conv => whnf) | (refine HArith.fits (by omega) (by omega) ?_; conv => whnf) | (refine Or.inl (And.intro (show Region.lexB _ _ = true by kernel_rfl) ?_); conv => whnf)))
      refine HLit.empty ?_
      (conv => whnf)
      refine ⟨rfl, rfl, HApp.moreR (OwnR.push h' []) (hx1.ext (Ext.push _ _)) (by simp; omega) (fun h3 r3 y3 B3 hr3 O3 => ?_)⟩
      have E3 : Ext h' h3 := (Ext.push h' [Row.own []]).but B3 (Nat.le_refl _)
      have hl3 : h'.length ≤ r3 := by simp at hr3; omega
      have hE := E.1
      rw [List.nil_append] at O3
      (conv => whnf)
      refine HLit.row (O3.own (b := 0) (by omega)).one ?_
      (conv => whnf)
      refine ⟨rfl, rfl, HApp.snocS E M E3 O3 (by
        rintro (⟨m, hm, e⟩ | ⟨e, _⟩)
        · have := hρ m (by omega)
          omega
        · cases e) (Or.inr hl3) (by omega) (fun h4 z4 E4 hl4 M4 => ?_)⟩
      (conv => whnf)
      refine ⟨_, rfl, E4, ?_⟩
      rw [← hT]
      refine M4.weaken ?_
      rintro q _ ((⟨m, hm, e⟩ | ⟨e, _⟩) | e)
      · exact Or.inl ⟨m, by omega, e⟩
      · cases e
      · exact Or.inr (by omega)
    · have hT := hT1 rfl
      rw [hd, List.append_nil] at hT
      (conv => whnf)
      (repeat (first | (refine ⟨rfl, Ints.len (by assumption) ?_⟩; conv => whnf) | (refine ⟨rfl, Rows.len (by assumption) ?_⟩; conv => whnf) | (refine ⟨rfl, HLen.sl ?_⟩; conv => whnf) | (refine ⟨rfl, At.load (by assumption) ?_⟩; conv => whnf) | (refine HIf.yes ?_; conv => whnf) | (refine HIf.no ?_; conv => whnf) | (refine HIf.isT (by assumption) ?_; conv => whnf) | (refine HIf.isF (by assumption) ?_; conv => whnf) | (refine HIf.decT (by assumption) ?_; conv => whnf) | (refine HIf.decF (by assumption) ?_; conv => whnf) | (refine HIf.beqT (by assumption) ?_; conv => whnf) | (refine HIf.beqF (by assumption) ?_; conv => whnf) | (refine HIf.bneT (by assumption) ?_; conv => whnf) | (refine HIf.bneF (by assumption) ?_; conv => whnf) | (refine ⟨rfl, Ints.idxN (by assumption) (by omega) (fun p hp => ?_)⟩; conv => whnf) | (refine ⟨rfl, Rows.idxN (by assumption) (by omega) (fun p y hp hy => ?_)⟩; conv => whnf) | (refine And.intro (show Kd.isBool _ = true from rfl) ?_; conv => whnf) | (refine ⟨rfl, Ints.idx (by assumption) (by omega) (by omega) (fun p hp => ?_)⟩; conv => whnf) | (refine ⟨rfl, Rows.idx (by assumption) (by omega) (by omega) (fun p y hp hy => ?_)⟩; conv => whnf) | (refine HArith.fits (by omega) (by omega) ?_; conv => whnf) | (refine Or.inl (And.intro (show Region.lexB _ _ = true by kernel_rfl) ?_); conv => whnf)))
      refine ⟨_, rfl, E, ?_⟩
      rw [← hT]
      refine M.weaken ?_
      rintro q _ (⟨m, hm, e⟩ | ⟨_, e⟩)
      · exact Or.inl ⟨m, by omega, e⟩
      · exact Or.inr e

end Go.Proofs.YtgliajcgcbnemaaGreatDoor.Hx

namespace Go.Proofs.YtgliajcgcbnemaaGreatDoor.Hx
open Go.RowKit
variable {dm : Bool}

theorem tot_le_of {b : Nat} : ∀ {L : List (List Int)}, (∀ w ∈ L, w.length ≤ b) → tot L ≤ b * L.length
  | [], _ => by simp [tot]
  | a :: t, h => by
    have h1 := tot_le_of (L := t) fun w hw => h w (List.mem_cons_of_mem _ hw)
    have h2 := h a (by simp)
    have e : tot (a :: t) = a.length + tot t := rfl
    rw [e, List.length_cons, Nat.mul_add]
    omega
theorem take_getD {L M : List (List Int)} {k j : Nat} (h : L.take (k + 1) = M.take (k + 1)) (hj : j ≤ k) : L.getD j [] = M.getD j [] := by
  have e1 : (L.take (k + 1)).getD j [] = L.getD j [] := by simp [List.getD, show j < k + 1 by omega]
  have e2 : (M.take (k + 1)).getD j [] = M.getD j [] := by simp [List.getD, show j < k + 1 by omega]
  rw [← e1, ← e2, h]

/-- Where the search of all elements stands. -/
structure AllSt (c : List (List Int)) (k i : Nat) (L : List (List Int)) : Prop where
  srt : SortedW L
  nil : [] ∈ L
  sub : ∀ w ∈ L, w ∈ elems c
  full : ∀ j, j < k → ∀ t : Nat, t < c.length → (L.getD j []).length < (normF c (L.getD j [] ++ [(t : Int)])).length → normF c (L.getD j [] ++ [(t : Int)]) ∈ L
  part : ∀ t : Nat, t < i → (L.getD k []).length < (normF c (L.getD k [] ++ [(t : Int)])).length → normF c (L.getD k [] ++ [(t : Int)]) ∈ L
theorem AllSt.len {c : List (List Int)} {k i : Nat} {L : List (List Int)} (A : AllSt c k i L) (hN : cntT c 30 (List.replicate c.length 1) ≤ 200) : L.length ≤ 200 :=
  Nat.le_trans (nodup_le A.srt.nodup A.sub) (elems_len hN)
theorem AllSt.start {c : List (List Int)} (hC : Cartan c) (hN : cntT c 30 (List.replicate c.length 1) ≤ 200) : AllSt c 0 0 [[]] := by
  have h0 := mem_elems hC hN (PlayL.ones c) (by omega)
  have e : nf c 31 (List.replicate c.length 1) = [] := List.length_eq_zero_iff.1 (nf_len hC 0 _ 31 (PlayL.ones c) (by omega) (by omega))
  rw [e] at h0
  refine ⟨List.pairwise_singleton _ _, by simp, fun w hw => ?_, fun j hj => by omega, fun t ht => by omega⟩
  obtain rfl : w = [] := by simpa using hw
  exact h0
theorem AllSt.skip {c : List (List Int)} {k i : Nat} {L : List (List Int)} (A : AllSt c k i L) (h : ¬ ((L.getD k []).length < (normF c (L.getD k [] ++ [(i : Int)])).length ∧ normF c (L.getD k [] ++ [(i : Int)]) ∉ L)) : AllSt c k (i + 1) L := by
  refine ⟨A.srt, A.nil, A.sub, A.full, fun t ht hl => ?_⟩
  by_cases e : t = i
  · subst e
    exact Classical.byContradiction fun hn => h ⟨hl, hn⟩
  · exact A.part t (by omega) hl
theorem AllSt.put {c : List (List Int)} {k i : Nat} {L : List (List Int)} (A : AllSt c k i L) (hk : k < L.length) {x : List Int} (hx : x = normF c (L.getD k [] ++ [(i : Int)])) (hl : (L.getD k []).length < x.length) (hm : x ∈ elems c) : AllSt c k (i + 1) (putW x L) ∧ k < (putW x L).length := by
  have hkeep : (putW x L).take (k + 1) = L.take (k + 1) := putW_keep hk fun j hj => by
    have := sorted_len A.srt hj hk
    have h2 : cmpW (L.getD j []) x < 0 := cmpW_lt.2 (Or.inl (by omega))
    rw [cmpW_neg] at h2
    omega
  have hg := fun j hj => take_getD hkeep (j := j) hj
  refine ⟨⟨putW_sorted x A.srt, (mem_putW _ _ _).2 (Or.inr A.nil), fun w hw => ?_, fun j hj t ht hlt => ?_, fun t ht hlt => ?_⟩, ?_⟩
  · rcases (mem_putW _ _ _).1 hw with rfl | hw
    · exact hm
    · exact A.sub w hw
  · rw [hg j (by omega)] at hlt ⊢
    exact (mem_putW _ _ _).2 (Or.inr (A.full j hj t ht hlt))
  · rw [hg k (Nat.le_refl _)] at hlt ⊢
    by_cases e : t = i
    · subst e
      exact (mem_putW _ _ _).2 (Or.inl hx.symm)
    · exact (mem_putW _ _ _).2 (Or.inr (A.part t (by omega) hlt))
  · have := (putW_le x L).1
    omega
theorem AllSt.next {c : List (List Int)} {k : Nat} {L : List (List Int)} (A : AllSt c k c.length L) : AllSt c (k + 1) 0 L := by
  refine ⟨A.srt, A.nil, A.sub, fun j hj t ht hl => ?_, fun t ht => by omega⟩
  by_cases e : j = k
  · subst e
    exact A.part t ht hl
  · exact A.full j (by omega) t ht hl
theorem AllSt.done {c : List (List Int)} (hC : Cartan c) {L : List (List Int)} (A : AllSt c L.length 0 L) : L = elems c := by
  refine sortedW_one A.srt (elemsTo_sorted hC 30 (Nat.le_refl _)) fun w => ⟨A.sub w, fun h => ?_⟩
  obtain ⟨n, v, hn, P, rfl⟩ := (mem_elemsTo hC (Nat.le_refl _)).1 h
  refine elems_all hC A.nil (fun w hw i hi hl => ?_) n hn v P
  obtain ⟨j, hj, rfl⟩ := List.getElem_of_mem hw
  have e : L.getD j [] = L[j] := by simp [List.getD, hj]
  have := A.full j hj i hi
  rw [e] at this
  exact this hl


set_option maxHeartbeats 2000000 in
theorem spec_l13All (h : Heap) (x0 : H0) (c : List (List Int)) (hx0 : Rows h x0 c) (hC : Cartan c) (hN : cntT c 30 (List.replicate c.length 1) ≤ 200) :
    HCalls dm Tryz.prog 80 [.s x0] h (fun r h' => ∃ y, r = .s y ∧ Ext h h' ∧ OwnM h.length h'.length h' y (elems c)) := by
  have h4 := hC.le
  refine calls_of_hFun (m := 0) kd_ok mixed Tryz.func80 rfl (by kernel_rfl) rfl rfl (of_decide_eq_true rfl) ?_; unfold hFun; (conv => whnf)
  refine HLit.empty ?_
  (conv => whnf)
  refine HLit.row (y := .sl h.length 0 0) rfl ?_
  (conv => whnf)
  have E1 := Ext.push h [Row.own []]
  have M1 : MatP (fun p => h.length ≤ p) (h ++ [Row.own []] ++ [Row.own [.sl h.length 0 0]]) (.sl (h ++ [Row.own []]).length 0 1) [[]] := by
    refine ⟨(h ++ [Row.own []]).length, fun _ => h.length, rfl, by simp, fun i _ => Nat.le_refl _, ⟨_, get_new _ _, by simp, fun i hi => ?_⟩, fun i hi => ?_, fun i _ => by simp, fun i j hij hj => ?_⟩
    · have : i = 0 := by simp at hi; omega
      subst this
      rfl
    · have : i = 0 := by simp at hi; omega
      subst this
      exact ⟨[], by rw [List.getElem?_append_left (by simp)]; exact get_new h _⟩
    · simp at hj
      omega
  have E2 := E1.pushed [Row.own [.sl h.length 0 0]]
  have M1 := M1.own (b := h.length) (fun p _ hp => hp)
  generalize h ++ [Row.own []] ++ [Row.own [.sl h.length 0 0]] = h2 at *
  generalize H0.sl (h ++ [Row.own []]).length 0 1 = z0 at *
  refine HLoop.intro [4, 3] [9, 10, 11, 12, 5, 15, 16, 17, 18, 21, 22, 23, 24, 25, 26, 27, 28, 29, 6, 30, 31, 32, 33, 34, 35, 36, 37, 38, 39, 40, 41, 42, 43, 44, 45, 46, 3, 19, 20, 5, 13, 14, 4] (by kernel_rfl) (by kernel_rfl) (fun vs h' => ∃ (k : Nat) (z : H0) (L : List (List Int)), vs = [I k, .s z] ∧ Ext h h' ∧ OwnM h.length h'.length h' z L ∧ AllSt c k 0 L ∧ k ≤ L.length) (fun vs _ => 201 - natAt vs 0) ⟨0, z0, [[]], rfl, E2, M1, AllSt.start hC hN, Nat.zero_le _⟩ ?_
  clear E1 E2 M1
  rintro vs h' ⟨k, z, L, rfl, E, O, A, hkL⟩
  have hL := A.len hN
  (conv => whnf)
  refine ⟨rfl, O.rows.len ?_⟩
  (conv => whnf)
  refine HIf.dec (fun hlt => ?_) (fun hge => ?_)
  rotate_left
  · have ek : k = L.length := by omega
    subst ek
    have hd := A.done hC
    rw [hd] at O
    (conv => whnf)
    exact ⟨_, rfl, E, O⟩
  have hkl : k < L.length := by omega
  (conv => whnf)
  refine HLoop.intro [5, 3] [15, 16, 17, 18, 21, 22, 23, 24, 25, 26, 27, 28, 29, 6, 30, 31, 32, 33, 34, 35, 36, 37, 38, 39, 40, 41, 42, 43, 44, 45, 46, 3, 19, 20, 5] (by kernel_rfl) (by kernel_rfl) (fun vs h2 => ∃ (i : Nat) (z : H0) (L : List (List Int)), vs = [I i, .s z] ∧ i ≤ c.length ∧ Ext h h2 ∧ OwnM h.length h2.length h2 z L ∧ AllSt c k i L ∧ k < L.length) (fun vs _ => c.length - natAt vs 0) ⟨0, z, L, rfl, Nat.zero_le _, E, O, A, hkl⟩ ?_
  clear E O A hkl hL hkL hlt
  rintro vs h2 ⟨i, z, L, rfl, hi, E, O, A, hkl⟩
  have hL := A.len hN
  (conv => whnf)
  refine ⟨rfl, (hx0.ext E).len ?_⟩
  (conv => whnf)
  refine HIf.dec (fun hlt => ?_) (fun hge => ?_)
  rotate_left
  · have ei : i = c.length := by omega
    subst ei
    (conv => whnf)
    refine HArith.fits (by omega) (by omega) ?_
    (conv => whnf)
    exact ⟨⟨k + 1, z, L, rfl, E, O, A.next, by omega⟩, by show 201 - (k + 1) < 201 - k; omega⟩
  have hil : i < c.length := by omega
  have hmem : L.getD k [] ∈ elems c := A.sub _ (getD_mem hkl)
  obtain ⟨w1, w2, w3⟩ := elems_word hC hmem
  have hpt : isPoint c (i : Int) = true := by simp only [isPoint, inRange, Bool.and_eq_true, decide_eq_true_eq]; omega
  have hnx := elems_next hC hN w1 w2 hpt
  have hskip := A.skip
  have hput := A.put hkl (x := normF c (L.getD k [] ++ [(i : Int)])) rfl
  have hwi : lettersOk c (L.getD k [] ++ [(i : Int)]) = true := letters_app.2 ⟨w2, letters_cons.2 ⟨hpt, rfl⟩⟩
  have hwl : (L.getD k [] ++ [(i : Int)]).length ≤ 30 := by rw [List.length_append, List.length_singleton]; omega
  have hxl := (elems_word hC hnx).1
  have htot : tot L ≤ 29 * L.length := tot_le_of fun w hw => (elems_word hC (A.sub w hw)).1
  (conv => whnf)
  refine ⟨rfl, O.rows.idxN hkl (fun p y1 hp hy1 => ?_)⟩
  have hy1k := hy1
  generalize hw : L.getD k [] = w at *
  generalize hx : normF c (w ++ [(i : Int)]) = x at *
  (conv => whnf)
  refine ⟨rfl, hp.load ?_⟩
  (conv => whnf)
  refine HLit.oneG (Ext.refl h2) (fun h3 y3 r3 E3 _ O3 hr3 => ?_)
  (conv => whnf)
  refine (spec_ConcatWords _ _ w _ _ (hy1.ext E3) O3.ints (by omega) (by simp)).mono ?_
  rintro r h4' ⟨y4, rfl, F4⟩
  have E4 := E3.trans F4.1
  (conv => whnf)
  refine (spec_l8Normal _ _ c _ _ (hx0.ext (E.trans E4)) F4.ints hC hwi hwl).mono ?_
  rintro r h5 ⟨y5, rfl, F5⟩
  rw [hx] at F5
  have E5 := E4.trans F5.1
  have O5 := (O.ext E5).widen E5.1
  have I5 := F5.ints
  have Eh := E.trans E5
  (conv => whnf)
  refine ⟨rfl, I5.len ?_⟩
  (conv => whnf)
  refine ⟨rfl, O5.rows.idxN hkl (fun p6 y6 hp6 hy6 => ?_)⟩
  rw [hw] at hy6
  (conv => whnf)
  refine ⟨rfl, hp6.load ?_⟩
  (conv => whnf)
  refine ⟨rfl, hy6.len ?_⟩
  (conv => whnf)
  by_cases hgt : (w.length : Int) < (x.length : Int)
  rotate_left
  · rw [decide_eq_false hgt]
    (repeat (refine HIf.no ?_; conv => whnf))
    refine HArith.fits (by omega) (by omega) ?_
    (conv => whnf)
    exact ⟨⟨i + 1, z, L, rfl, by omega, Eh, O5, hskip (fun k => hgt (by omega)), hkl⟩, by show c.length - (i + 1) < c.length - i; omega⟩
  rw [decide_eq_true hgt]
  (repeat (refine HIf.yes ?_; conv => whnf))
  refine (spec_l7In _ _ L _ x O5.rows I5 (by omega)).mono ?_
  rintro r h6 ⟨rfl, hh⟩
  subst h6
  (conv => whnf)
  (repeat (refine HIf.yes ?_; conv => whnf))
  by_cases hin : x ∈ L
  · rw [decide_eq_true hin]
    (repeat (refine HIf.no ?_; conv => whnf))
    refine HArith.fits (by omega) (by omega) ?_
    (conv => whnf)
    exact ⟨⟨i + 1, z, L, rfl, by omega, Eh, O5, hskip (fun k => k.2 hin), hkl⟩, by show c.length - (i + 1) < c.length - i; omega⟩
  rw [decide_eq_false hin]
  (repeat (refine HIf.yes ?_; conv => whnf))
  obtain ⟨hp1, hp2⟩ := hput (by omega) hnx
  obtain ⟨r5, ρ5, rfl, g1, g2, g3, m5⟩ := O5
  refine (spec_l11Put _ r5 ρ5 L _ x m5 I5 (by omega) (by omega)).mono ?_
  rintro r h7 ⟨y7, rfl, E7, M7⟩
  have hE5 := Eh.1
  have O7 := M7.own (c := h.length) hE5 (fun q hq hs => by
    rcases hs with ⟨m, hm, rfl⟩ | hs
    · exact (g3 m hm).1
    · omega)
  (conv => whnf)
  refine HArith.fits (by omega) (by omega) ?_
  (conv => whnf)
  exact ⟨⟨i + 1, y7, putW x L, rfl, by omega, Eh.trans E7, O7, hp1, hp2⟩, by show c.length - (i + 1) < c.length - i; omega⟩

theorem elems_pos {c : List (List Int)} (hC : Cartan c) (hN : cntT c 30 (List.replicate c.length 1) ≤ 200) : 0 < (elems c).length :=
  List.length_pos_of_mem (AllSt.start hC hN |>.sub _ (List.mem_singleton.2 rfl))

end Go.Proofs.YtgliajcgcbnemaaGreatDoor.Hx

namespace Go.Proofs.YtgliajcgcbnemaaGreatDoor.Hx.Lam
open Go.Proofs.YtgliajcgcbnemaaGreatDoor.Hx

/-- n steps, each at a negative number, lead from v to lam. -/
inductive Play (lam : Pos) (N : Nat) (c : Nat → Nat → Int) : Nat → Pos → Prop where
  | done {v : Pos} (h : ∀ i, i < N → v i = lam i) : Play lam N c 0 v
  | step {n : Nat} {v : Pos} (i : Nat) (hi : i < N) (h : v i < 0) (p : Play lam N c n (sr c i v)) : Play lam N c (n + 1) v

theorem Play.up {lam : Pos} {N : Nat} {c : Nat → Nat → Int} (M : MatOk N c) {n i : Nat} {v : Pos} (p : Play lam N c n v) (hi : i < N) (h : 0 < v i) : Play lam N c (n + 1) (sr c i v) :=
  .step i hi (by rw [sr_at (M.diag i hi)]; omega) (by rw [sr_sr (M.diag i hi)]; exact p)

def Good (lam : Pos) (N : Nat) (c : Nat → Nat → Int) (n : Nat) (v : Pos) : Prop := ∀ i, i < N → v i ≠ 0 ∧ (v i < 0 → ∃ m, n = m + 1 ∧ Play lam N c m (sr c i v))

theorem play_inf {lam : Pos} {N : Nat} {c : Nat → Nat → Int} (M : MatOk N c) (n : Nat) (IH : ∀ m, m ≤ n → ∀ v, Play lam N c m v → Good lam N c m v) :
    ∀ k, k ≤ n → ∀ (v : Pos) (i j : Nat), Play lam N c k v → i < N → j < N → (c i j ≤ -2 ∧ c j i ≤ -2) → -3 ≤ c i j → -3 ≤ c j i → v i < 0 → 0 < v j → - c i j * v j ≤ 2 * (- v i) → False := by
  intro k
  induction k with
  | zero =>
    intro _ v i j p hi _ _ _ _ h1 _ _
    obtain ⟨m, hm, _⟩ := (IH 0 (by omega) v p i hi).2 h1
    omega
  | succ k ih =>
    intro hk v i j p hi hj hc h3 h4 h1 h2 hb
    obtain ⟨m, hm, q⟩ := (IH (k + 1) hk v p i hi).2 h1
    have : m = k := by omega
    subst this
    refine ih (by omega) (sr c i v) j i q hj hi ⟨hc.2, hc.1⟩ h4 h3 ?_ ?_ ?_
    · show v j - v i * c j i < 0
      have e1 : c i j = -2 ∨ c i j = -3 := by omega
      have e2 : c j i = -2 ∨ c j i = -3 := by omega
      rcases e1 with e1 | e1 <;> rcases e2 with e2 | e2 <;> rw [e1] at hb <;> rw [e2] <;> omega
    · rw [sr_at (M.diag i hi)]
      omega
    · rw [sr_at (M.diag i hi)]
      show - c j i * - v i ≤ 2 * -(v j - v i * c j i)
      have e1 : c i j = -2 ∨ c i j = -3 := by omega
      have e2 : c j i = -2 ∨ c j i = -3 := by omega
      rcases e1 with e1 | e1 <;> rcases e2 with e2 | e2 <;> rw [e1] at hb <;> rw [e2] <;> omega

section
variable {lam : Pos} {N : Nat} {c : Nat → Nat → Int} {n i j : Nat} {v : Pos}

theorem down_i (M : MatOk N c) (IH : ∀ m, m ≤ n → ∀ v, Play lam N c m v → Good lam N c m v) (hi : i < N) (a b a' : Int) {m : Nat} (hm : m ≤ n) (p : Play lam N c m (cb c i j v a b)) (h : a' - a = v i - 2 * a - b * c i j) (hl : a' ≤ a) :
    a' < a ∧ ∃ k, m = k + 1 ∧ Play lam N c k (cb c i j v a' b) := by
  have e : cb c i j v a b i = a' - a := by
    show v i - a * c i i - b * c i j = a' - a
    rw [M.diag i hi]
    omega
  have g := IH m hm _ p i hi
  rw [e] at g
  refine ⟨by omega, ?_⟩
  obtain ⟨k, hk, q⟩ := g.2 (by omega)
  rw [cb_i c i j v a b a' (by omega)] at q
  exact ⟨k, hk, q⟩
theorem down_j (M : MatOk N c) (IH : ∀ m, m ≤ n → ∀ v, Play lam N c m v → Good lam N c m v) (hj : j < N) (a b b' : Int) {m : Nat} (hm : m ≤ n) (p : Play lam N c m (cb c i j v a b)) (h : b' - b = v j - a * c j i - 2 * b) (hl : b' ≤ b) :
    b' < b ∧ ∃ k, m = k + 1 ∧ Play lam N c k (cb c i j v a b') := by
  have e : cb c i j v a b j = b' - b := by
    show v j - a * c j i - b * c j j = b' - b
    rw [M.diag j hj]
    omega
  have g := IH m hm _ p j hj
  rw [e] at g
  refine ⟨by omega, ?_⟩
  obtain ⟨k, hk, q⟩ := g.2 (by omega)
  rw [cb_j c i j v a b b' (by omega)] at q
  exact ⟨k, hk, q⟩
theorem up_i (M : MatOk N c) (hi : i < N) (a b a' : Int) {m : Nat} (p : Play lam N c m (cb c i j v a b)) (h : a' - a = v i - 2 * a - b * c i j) (hl : a < a') : Play lam N c (m + 1) (cb c i j v a' b) := by
  have e : cb c i j v a b i = a' - a := by
    show v i - a * c i i - b * c i j = a' - a
    rw [M.diag i hi]
    omega
  have := p.up M hi (by rw [e]; omega)
  rwa [cb_i c i j v a b a' (by omega)] at this
theorem up_j (M : MatOk N c) (hj : j < N) (a b b' : Int) {m : Nat} (p : Play lam N c m (cb c i j v a b)) (h : b' - b = v j - a * c j i - 2 * b) (hl : b < b') : Play lam N c (m + 1) (cb c i j v a b') := by
  have e : cb c i j v a b j = b' - b := by
    show v j - a * c j i - b * c j j = b' - b
    rw [M.diag j hj]
    omega
  have := p.up M hj (by rw [e]; omega)
  rwa [cb_j c i j v a b b' (by omega)] at this


theorem play_pair (M : MatOk N c) (IH : ∀ m, m ≤ n → ∀ v, Play lam N c m v → Good lam N c m v) (hi : i < N) (hj : j < N) (hij : i ≠ j) (hb : v j < 0) (p : Play lam N c n (sr c j v)) (ha : v i ≤ 0) :
    v i < 0 ∧ Play lam N c n (sr c i v) := by
  have o1 := M.off i j hi hj hij
  have o2 := M.off j i hj hi (Ne.symm hij)
  have z1 := M.zero i j hi hj
  have z2 := M.zero j i hj hi
  by_cases inf : c i j ≤ -2 ∧ c j i ≤ -2
  · exfalso
    refine play_inf M n IH n (Nat.le_refl _) (sr c j v) i j p hi hj inf o1.1 o2.1 ?_ ?_ ?_
    · show v i - v j * c i j < 0
      have e1 : c i j = -2 ∨ c i j = -3 := by omega
      rcases e1 with e1 | e1 <;> rw [e1] <;> omega
    · rw [sr_at (M.diag j hj)]
      omega
    · rw [sr_at (M.diag j hj)]
      show - c i j * - v j ≤ 2 * - (v i - v j * c i j)
      have e1 : c i j = -2 ∨ c i j = -3 := by omega
      rcases e1 with e1 | e1 <;> rw [e1] <;> omega
  rw [sr_cb' c i j v] at p
  rw [sr_cb c i j v]
  generalize hA : v i = a at *
  generalize hB : v j = b at *
  have fin : (c i j = 0 ∧ c j i = 0) ∨ (c i j = -1 ∧ c j i = -1) ∨ (c i j = -2 ∧ c j i = -1) ∨ (c i j = -1 ∧ c j i = -2) ∨ (c i j = -3 ∧ c j i = -1) ∨ (c i j = -1 ∧ c j i = -3) := by omega
  rcases fin with ⟨e1, e2⟩ | ⟨e1, e2⟩ | ⟨e1, e2⟩ | ⟨e1, e2⟩ | ⟨e1, e2⟩ | ⟨e1, e2⟩
  · obtain ⟨d1, k1, m1, p⟩ := down_i M IH hi 0 b a (by omega) p (by rw [e1, hA]; omega) (by omega)
    refine ⟨by omega, ?_⟩
    have p := up_j M hj a b 0 p (by rw [e2, hB]; omega) (by omega)
    rw [m1]
    exact p
  · obtain ⟨d1, k1, m1, p⟩ := down_i M IH hi 0 b (a + b) (by omega) p (by rw [e1, hA]; omega) (by omega)
    obtain ⟨d2, k2, m2, p⟩ := down_j M IH hj (a + b) b (a + b) (by omega) p (by rw [e2, hB]; omega) (by omega)
    refine ⟨by omega, ?_⟩
    have p := up_i M hi (a + b) (a + b) a p (by rw [e1, hA]; omega) (by omega)
    have p := up_j M hj a (a + b) 0 p (by rw [e2, hB]; omega) (by omega)
    rw [m1, m2]
    exact p
  · obtain ⟨d1, k1, m1, p⟩ := down_i M IH hi 0 b (a + 2 * b) (by omega) p (by rw [e1, hA]; omega) (by omega)
    obtain ⟨d2, k2, m2, p⟩ := down_j M IH hj (a + 2 * b) b (a + 2 * b) (by omega) p (by rw [e2, hB]; omega) (by omega)
    obtain ⟨d3, k3, m3, p⟩ := down_i M IH hi (a + 2 * b) (a + 2 * b) (2 * a + 2 * b) (by omega) p (by rw [e1, hA]; omega) (by omega)
    refine ⟨by omega, ?_⟩
    have p := up_j M hj (2 * a + 2 * b) (a + 2 * b) (a + b) p (by rw [e2, hB]; omega) (by omega)
    have p := up_i M hi (2 * a + 2 * b) (a + b) a p (by rw [e1, hA]; omega) (by omega)
    have p := up_j M hj a (a + b) 0 p (by rw [e2, hB]; omega) (by omega)
    rw [m1, m2, m3]
    exact p
  · obtain ⟨d1, k1, m1, p⟩ := down_i M IH hi 0 b (a + b) (by omega) p (by rw [e1, hA]; omega) (by omega)
    obtain ⟨d2, k2, m2, p⟩ := down_j M IH hj (a + b) b (2 * a + 2 * b) (by omega) p (by rw [e2, hB]; omega) (by omega)
    obtain ⟨d3, k3, m3, p⟩ := down_i M IH hi (a + b) (2 * a + 2 * b) (2 * a + b) (by omega) p (by rw [e1, hA]; omega) (by omega)
    refine ⟨by omega, ?_⟩
    have p := up_j M hj (2 * a + b) (2 * a + 2 * b) (2 * a + b) p (by rw [e2, hB]; omega) (by omega)
    have p := up_i M hi (2 * a + b) (2 * a + b) a p (by rw [e1, hA]; omega) (by omega)
    have p := up_j M hj a (2 * a + b) 0 p (by rw [e2, hB]; omega) (by omega)
    rw [m1, m2, m3]
    exact p
  · obtain ⟨d1, k1, m1, p⟩ := down_i M IH hi 0 b (a + 3 * b) (by omega) p (by rw [e1, hA]; omega) (by omega)
    obtain ⟨d2, k2, m2, p⟩ := down_j M IH hj (a + 3 * b) b (a + 3 * b) (by omega) p (by rw [e2, hB]; omega) (by omega)
    obtain ⟨d3, k3, m3, p⟩ := down_i M IH hi (a + 3 * b) (a + 3 * b) (3 * a + 6 * b) (by omega) p (by rw [e1, hA]; omega) (by omega)
    obtain ⟨d4, k4, m4, p⟩ := down_j M IH hj (3 * a + 6 * b) (a + 3 * b) (2 * a + 4 * b) (by omega) p (by rw [e2, hB]; omega) (by omega)
    obtain ⟨d5, k5, m5, p⟩ := down_i M IH hi (3 * a + 6 * b) (2 * a + 4 * b) (4 * a + 6 * b) (by omega) p (by rw [e1, hA]; omega) (by omega)
    refine ⟨by omega, ?_⟩
    have p := up_j M hj (4 * a + 6 * b) (2 * a + 4 * b) (2 * a + 3 * b) p (by rw [e2, hB]; omega) (by omega)
    have p := up_i M hi (4 * a + 6 * b) (2 * a + 3 * b) (3 * a + 3 * b) p (by rw [e1, hA]; omega) (by omega)
    have p := up_j M hj (3 * a + 3 * b) (2 * a + 3 * b) (a + b) p (by rw [e2, hB]; omega) (by omega)
    have p := up_i M hi (3 * a + 3 * b) (a + b) a p (by rw [e1, hA]; omega) (by omega)
    have p := up_j M hj a (a + b) 0 p (by rw [e2, hB]; omega) (by omega)
    rw [m1, m2, m3, m4, m5]
    exact p
  · obtain ⟨d1, k1, m1, p⟩ := down_i M IH hi 0 b (a + b) (by omega) p (by rw [e1, hA]; omega) (by omega)
    obtain ⟨d2, k2, m2, p⟩ := down_j M IH hj (a + b) b (3 * a + 3 * b) (by omega) p (by rw [e2, hB]; omega) (by omega)
    obtain ⟨d3, k3, m3, p⟩ := down_i M IH hi (a + b) (3 * a + 3 * b) (3 * a + 2 * b) (by omega) p (by rw [e1, hA]; omega) (by omega)
    obtain ⟨d4, k4, m4, p⟩ := down_j M IH hj (3 * a + 2 * b) (3 * a + 3 * b) (6 * a + 4 * b) (by omega) p (by rw [e2, hB]; omega) (by omega)
    obtain ⟨d5, k5, m5, p⟩ := down_i M IH hi (3 * a + 2 * b) (6 * a + 4 * b) (4 * a + 2 * b) (by omega) p (by rw [e1, hA]; omega) (by omega)
    refine ⟨by omega, ?_⟩
    have p := up_j M hj (4 * a + 2 * b) (6 * a + 4 * b) (6 * a + 3 * b) p (by rw [e2, hB]; omega) (by omega)
    have p := up_i M hi (4 * a + 2 * b) (6 * a + 3 * b) (3 * a + b) p (by rw [e1, hA]; omega) (by omega)
    have p := up_j M hj (3 * a + b) (6 * a + 3 * b) (3 * a + b) p (by rw [e2, hB]; omega) (by omega)
    have p := up_i M hi (3 * a + b) (3 * a + b) a p (by rw [e1, hA]; omega) (by omega)
    have p := up_j M hj a (3 * a + b) 0 p (by rw [e2, hB]; omega) (by omega)
    rw [m1, m2, m3, m4, m5]
    exact p
end

theorem play_good {lam : Pos} (hp : ∀ i, 0 < lam i) {N : Nat} {c : Nat → Nat → Int} (M : MatOk N c) : ∀ (n : Nat) (v : Pos), Play lam N c n v → Good lam N c n v := by
  intro n
  induction n using Nat.strongRecOn with
  | ind n ih =>
    intro v p i hi
    cases p with
    | done h =>
      rw [h i hi]
      have := hp i
      exact ⟨by omega, fun h => absurd h (by omega)⟩
    | step j hj hb p =>
      rename_i n
      by_cases e : i = j
      · subst e
        exact ⟨by omega, fun _ => ⟨n, rfl, p⟩⟩
      · by_cases ha : v i ≤ 0
        · obtain ⟨h1, h2⟩ := play_pair M (fun m hm => ih m (by omega)) hi hj e hb p ha
          exact ⟨by omega, fun _ => ⟨n, rfl, h2⟩⟩
        · exact ⟨by omega, fun h => absurd h (by omega)⟩

theorem Play.down {lam : Pos} {N : Nat} {c : Nat → Nat → Int} (hp : ∀ i, 0 < lam i) (M : MatOk N c) {n i : Nat} {v : Pos} (p : Play lam N c n v) (hi : i < N) (h : v i < 0) : ∃ m, n = m + 1 ∧ Play lam N c m (sr c i v) := (play_good hp M n v p i hi).2 h
theorem Play.ne {lam : Pos} {N : Nat} {c : Nat → Nat → Int} (hp : ∀ i, 0 < lam i) (M : MatOk N c) {n i : Nat} {v : Pos} (p : Play lam N c n v) (hi : i < N) : v i ≠ 0 := (play_good hp M n v p i hi).1

/-- Whatever step: at most one more. -/
theorem Play.any {lam : Pos} {N : Nat} {c : Nat → Nat → Int} (hp : ∀ i, 0 < lam i) (M : MatOk N c) {n i : Nat} {v : Pos} (p : Play lam N c n v) (hi : i < N) : ∃ m, m ≤ n + 1 ∧ Play lam N c m (sr c i v) := by
  by_cases h : v i < 0
  · obtain ⟨m, hm, q⟩ := p.down hp M hi h
    exact ⟨m, by omega, q⟩
  · have := p.ne hp M hi
    exact ⟨n + 1, Nat.le_refl _, p.up M hi (by omega)⟩

theorem Play.stop {lam : Pos} {N : Nat} {c : Nat → Nat → Int} {n : Nat} {v : Pos} (p : Play lam N c n v) (h : ∀ i, i < N → 0 ≤ v i) : n = 0 ∧ ∀ i, i < N → v i = lam i := by
  cases p with
  | done h => exact ⟨rfl, h⟩
  | step i hi hl _ => exact absurd (h i hi) (by omega)


end Go.Proofs.YtgliajcgcbnemaaGreatDoor.Hx.Lam

namespace Go.Proofs.YtgliajcgcbnemaaGreatDoor.Hx
open Go.RowKit

/-- The sum of products over the first places. -/
def dotP : Nat → Pos → Pos → Int
  | 0, _, _ => 0
  | n + 1, f, g => dotP n f g + f n * g n

/-- The place at which one number is 1. -/
def unitP (i : Nat) : Pos := fun k => if k = i then 1 else 0

/-- The mirror at i, of a root. -/
def mr (N : Nat) (c : Nat → Nat → Int) (i : Nat) (r : Pos) : Pos := fun k => r k - dotP N (c i) r * unitP i k

def tr (c : Nat → Nat → Int) : Nat → Nat → Int := fun a b => c b a

def actP (N : Nat) (c : Nat → Nat → Int) : List Int → Pos → Pos
  | [], r => r
  | i :: w, r => mr N c i.toNat (actP N c w r)

def sumPos (r : Pos) : Nat → Int
  | 0 => 0
  | n + 1 => sumPos r n + (if 0 < r n then r n else 0)
def sumNeg (r : Pos) : Nat → Int
  | 0 => 0
  | n + 1 => sumNeg r n + (if r n < 0 then - r n else 0)

def PosR (N : Nat) (r : Pos) : Prop := ∀ k, k < N → 0 ≤ r k

end Go.Proofs.YtgliajcgcbnemaaGreatDoor.Hx

namespace Go.Proofs.YtgliajcgcbnemaaGreatDoor.Hx
open Go.RowKit

def transp (c : List (List Int)) : List (List Int) := (List.range c.length).map fun i => (List.range c.length).map fun j => ent c j i

/-- The root of a word and a letter, its coroot. -/
def rootP (c : List (List Int)) (w : List Int) (i : Nat) : Pos := actP c.length (ent c) w (unitP i)

/-- The pairing of a coroot's numbers with a root's. -/
def pairP (N : Nat) (c : Nat → Nat → Int) (n r : Pos) : Int := dotP N n (fun j => dotP N (c j) r)

end Go.Proofs.YtgliajcgcbnemaaGreatDoor.Hx

namespace Go.Proofs.YtgliajcgcbnemaaGreatDoor.Hx
open Go.RowKit

def Tame (n : Int) (r : List Int) : Prop := ∀ k, - n ≤ r.getD k 0 ∧ r.getD k 0 ≤ n

/-- The roots to which ways that only go up lead. -/
inductive RootUp (c : List (List Int)) (H : Int) : List Int → Prop where
  | simple (i : Nat) (hi : i < c.length) : RootUp c H (simpleRoot c (i : Nat))
  | step {r : List Int} (i : Nat) (hi : i < c.length) (h : RootUp c H r) (hs : rootSign (mirror c i r) = 1) (hh : heightOf (mirror c i r) ≤ H) (hl : heightOf r < heightOf (mirror c i r)) : RootUp c H (mirror c i r)

/-- What is known of such a root. -/
structure RootIs (c : List (List Int)) (r : List Int) (n : Nat) : Prop where
  len : r.length = c.length
  nonneg : ∀ k, 0 ≤ r.getD k 0
  le : ∀ k, r.getD k 0 ≤ n
  height : heightOf r = n
  word : ∃ (w : List Int) (i : Nat), lettersOk c w = true ∧ i < c.length ∧ w.length + 1 ≤ n ∧ posOf r = rootP c w i

/-! ### The list of them -/

def RootList (c : List (List Int)) (H : Int) (L : List (List Int)) : Prop := SortedR L ∧ L.Nodup ∧ ∀ r, r ∈ L ↔ RootUp c H r

open Classical in
noncomputable def rootsUp (c : List (List Int)) (H : Int) : List (List Int) :=
  if isCartan c = true ∧ 1 ≤ H ∧ H ≤ 12 then (if h : ∃ L, RootList c H L then Classical.choose h else []) else []

/-! ### There are not too many -/

def boxes : Nat → List (List Int)
  | 0 => [[]]
  | n + 1 => (List.range 13).flatMap fun (x : Nat) => (boxes n).map fun l => (x : Int) :: l

end Go.Proofs.YtgliajcgcbnemaaGreatDoor.Hx

namespace Go.Proofs.YtgliajcgcbnemaaGreatDoor.Hx
open Go.RowKit
variable {dm : Bool}

theorem HLitW.none {k : Nat} {h : Heap} {K : HV → Heap → Prop} (hk : k ≤ 4096) (hK : K (.s (.sw k h.length 0 0)) (h ++ [.own []])) : HLitW k 0 (some []) h K := ⟨hk, [], rfl, rfl, by omega, fun c hc => by simp at hc, hK⟩
theorem HLitW.one {k : Nat} {xs : List H0} {h : Heap} {K : HV → Heap → Prop} (hk : k ≤ 4096) (hl : xs.length = k) (h1 : ∀ c ∈ xs, c.one = true) (hK : K (.s (.sw k h.length 0 1)) (h ++ [.own xs])) : HLitW k 1 (some [xs]) h K :=
  ⟨hk, [xs], rfl, rfl, by omega, fun c hc => by
    obtain rfl : c = xs := by simpa using hc
    exact ⟨hl, h1⟩, by simpa using hK⟩
theorem HAppW.snoc {k r len q : Nat} {cs xs : List H0} {h : Heap} {K : HV → Heap → Prop} (hr : h[r]? = some (.own cs)) (hcs : cs.length = k * len) (hq : h[q]? = some (.own xs)) (hx : xs.length = k) (hone : ∀ c ∈ xs, c.one = true) (hlen : len ≤ 1048576)
    (hK : K (.s (.sw k h.length 0 (len + 1))) (h.set r .gone ++ [.own (cs ++ xs)])) : HAppW k h (.s (.sw k r 0 len)) (.s (.sw k q 0 1)) K := by
  have hs : ShowsW k h (.s (.sw k q 0 1)) 1 xs := by
    have := ShowsW.own (k := k) q 0 1 xs hq (by omega)
    have e : (xs.drop 0).take (k * 1) = xs := by rw [List.drop_zero, Nat.mul_one, ← hx, List.take_length]
    rwa [e] at this
  refine ⟨1, xs, r, len, cs, hs, by omega, hone, rfl, hr, by omega, by omega, ?_⟩
  have e : cs.take (k * len) = cs := by rw [← hcs, List.take_length]
  rw [e]
  exact hK
theorem HLoadA.row {n r o : Nat} {cs : List H0} {h : Heap} {K : HV → Prop} (hr : h[r]? = some (.own cs)) (ho : o + n ≤ cs.length) (hK : K (.agg ((cs.drop o).take n))) : HLoadA n h (.s (.ptr r o)) K := ⟨r, o, _, cs, Or.inl rfl, hr, rfl, ho, hK⟩
theorem HLoadA.arr {n r m : Nat} {cs : List H0} {h : Heap} {K : HV → Prop} (hr : h[r]? = some (.own cs)) (ho : cs.length = n) (hK : K (.agg cs)) : HLoadA n h (.s (.pa r m)) K :=
  ⟨r, 0, _, cs, Or.inr ⟨⟨m, rfl⟩, rfl⟩, hr, rfl, by omega, by rw [List.drop_zero, ← ho, List.take_length]; exact hK⟩
theorem HStoreA.all {n r : Nat} {cs xs : List H0} {h : Heap} {p : H0} {K : HV → Heap → Prop} (hp : p = .ptr r 0 ∨ ∃ m, p = .pa r m) (hr : h[r]? = some (.own cs)) (hc : cs.length = n) (hx : xs.length = n) (h1 : ∀ c ∈ xs, c.one = true) (hK : K .dead (h.set r (.own xs))) : HStoreA n h (.s p) (.agg xs) K := by
  refine ⟨r, 0, cs, xs, ?_, rfl, hx, h1, hr, by omega, ?_⟩
  · rcases hp with rfl | ⟨m, rfl⟩
    · exact Or.inl rfl
    · exact Or.inr ⟨⟨m, rfl⟩, rfl⟩
  · have e : cs.take 0 ++ xs ++ cs.drop (0 + n) = xs := by rw [List.take_zero, List.nil_append, Nat.zero_add, ← hc, List.drop_length, List.append_nil]
    rw [e]
    exact hK
theorem HLenW.at {k r off n : Nat} {K : HV → Prop} (hK : K (I n)) : HLenW (.s (.sw k r off n)) K := ⟨k, r, off, n, rfl, hK⟩

/-- The key of a list of at most four numbers. -/
def keyL (l : List Int) : Key := .arr (l.getD 0 0) (l.getD 1 0) (l.getD 2 0) (l.getD 3 0)
def key4 (l : List Int) : List H0 := l.map ci ++ List.replicate (4 - l.length) (ci 0)

theorem key4_length {l : List Int} (h : l.length ≤ 4) : (key4 l).length = 4 := by simp [key4]; omega
theorem keyAt_key4 {l : List Int} (h : l.length ≤ 4) : keyAt (.agg (key4 l)) = some (keyL l) := by
  match l, h with
  | [], _ => rfl
  | [a], _ => rfl
  | [a, b], _ => rfl
  | [a, b, c], _ => rfl
  | [a, b, c, d], _ => rfl
  | a :: b :: c :: d :: e :: r, h => simp at h
theorem keyL_inj {a b : List Int} (h : a.length = b.length) (h4 : a.length ≤ 4) (e : keyL a = keyL b) : a = b := by
  simp only [keyL, Key.arr.injEq] at e
  obtain ⟨e0, e1, e2, e3⟩ := e
  apply List.ext_getElem? fun k => ?_
  by_cases hk : k < a.length
  · have f : k = 0 ∨ k = 1 ∨ k = 2 ∨ k = 3 := by omega
    have g : a.getD k 0 = b.getD k 0 := by rcases f with rfl | rfl | rfl | rfl <;> assumption
    rw [List.getElem?_eq_getElem hk, List.getElem?_eq_getElem (by omega)]
    simpa [List.getD, hk, show k < b.length by omega] using g
  · rw [List.getElem?_eq_none (by omega), List.getElem?_eq_none (by omega)]

/-- A row of zeros and a short list over it. -/
theorem HCopy.key {h : Heap} {r : Nat} {x : H0} {l : List Int} {K : HV → Heap → Prop} (hr : h[r]? = some (.own (List.replicate 4 (ci 0)))) (hx : Ints h x l) (hl : l.length ≤ 4) (hK : K (I l.length) (h.set r (.own (key4 l)))) : HCopy h (.s (.sl r 0 4)) (.s x) K := by
  refine ⟨r, 0, 4, l.length, _, l.map ci, rfl, hr, by simp, hx, fun c hc => ?_, by simp; omega, ?_⟩
  · obtain ⟨v, _, rfl⟩ := List.mem_map.1 hc
    rfl
  · have e : (List.replicate 4 (ci 0)).take 0 ++ (l.map ci).take l.length ++ (List.replicate 4 (ci 0)).drop (0 + l.length) = key4 l := by
      have e1 : (l.map ci).take l.length = l.map ci := by
        have := List.take_length (l := l.map ci)
        rwa [List.length_map] at this
      rw [List.take_zero, List.nil_append, e1, Nat.zero_add, List.drop_replicate]
      rfl
    rw [e]
    exact hK

def prCells (N : Nat) (ρ τ : Nat → Nat) (n : Nat) : List H0 := (List.range n).flatMap fun i => [.sl (ρ i) 0 N, .sl (τ i) 0 N]
def upd (ρ : Nat → Nat) (n a : Nat) : Nat → Nat := fun i => if i = n then a else ρ i
/-- The program's memory while it collects roots: the box of the map, the box of the height, the box of the list; the map; the list; the roots' and the coroots' rows. -/
structure Prs (b bm bh bl m q : Nat) (ht : Int) (N : Nat) (ρ τ : Nat → Nat) (Q T : List (List Int)) (h : Heap) : Prop where
  gm : h[bm]? = some (.own [.mp m])
  gh : h[bh]? = some (.own [ci ht])
  gl : h[bl]? = some (.own [.sw 2 q 0 Q.length])
  mp : ∃ ks, h[m]? = some (.keys false ks) ∧ ∀ k, k ∈ ks ↔ ∃ l ∈ Q, k = keyL l
  ls : h[q]? = some (.own (prCells N ρ τ Q.length))
  rt : ∀ i, i < Q.length → (Q.getD i []).length = N ∧ ∃ t, h[ρ i]? = some (.own ((Q.getD i []).map ci ++ t))
  ct : ∀ i, i < Q.length → (T.getD i []).length = N ∧ ∃ t, h[τ i]? = some (.own ((T.getD i []).map ci ++ t))
  inj : ∀ i j, i < j → j < Q.length → ρ i ≠ ρ j
  tl : T.length = Q.length
  low : b ≤ bm ∧ b ≤ bl ∧ b ≤ m ∧ b ≤ q ∧ ∀ i, i < Q.length → b ≤ ρ i

end Go.Proofs.YtgliajcgcbnemaaGreatDoor.Hx

namespace Go.Proofs
open Go.Shelf
def Tryz.sortL_ren : Go.Shelf.Ren := ⟨fun | 6 => 86 | 15 => 151 | 14 => 150 | 28 => 207 | 29 => 208 | 20 => 199 | 21 => 200 | 22 => 201 | 23 => 202 | 24 => 203 | 25 => 204 | 26 => 205 | 27 => 206 | 46 => 234 | 47 => 235 | 48 => 236 | 49 => 237 | 50 => 238 | 57 => 264 | n => n, fun | 22 => 22 | 24 => 30 | 25 => 71 | 3 => 3 | 39 => 99 | 0 => 0 | 53 => 139 | 55 => 141 | 4 => 4 | 46 => 133 | 45 => 132 | 50 => 116 | 5 => 5 | 9 => 9 | 66 => 154 | 70 => 158 | 76 => 181 | 77 => 182 | n => n, fun | n => n⟩
theorem Tryz.sortL : Go.Proofs.SlLaysF.n6 Tryz.prog Tryz.sortL_ren := {
  mixed := by kernel_rfl
  f6 := ⟨Tryz.f86.name, by decide, Tryz.func86.trans (congrArg some (by kernel_rfl))⟩
  f14 := ⟨Tryz.f150.name, by decide, Tryz.func150.trans (congrArg some (by kernel_rfl))⟩
  f15 := Tryz.func151.trans (congrArg some (by kernel_rfl))
  f20 := ⟨Tryz.f199.name, by decide, Tryz.func199.trans (congrArg some (by kernel_rfl))⟩
  f21 := ⟨Tryz.f200.name, by decide, Tryz.func200.trans (congrArg some (by kernel_rfl))⟩
  f22 := ⟨Tryz.f201.name, by decide, Tryz.func201.trans (congrArg some (by kernel_rfl))⟩
  f23 := ⟨Tryz.f202.name, by decide, Tryz.func202.trans (congrArg some (by kernel_rfl))⟩
  f24 := ⟨Tryz.f203.name, by decide, Tryz.func203.trans (congrArg some (by kernel_rfl))⟩
  f25 := ⟨Tryz.f204.name, by decide, Tryz.func204.trans (congrArg some (by kernel_rfl))⟩
  f26 := ⟨Tryz.f205.name, by decide, Tryz.func205.trans (congrArg some (by kernel_rfl))⟩
  f27 := ⟨Tryz.f206.name, by decide, Tryz.func206.trans (congrArg some (by kernel_rfl))⟩
  f28 := Tryz.func207.trans (congrArg some (by kernel_rfl))
  f29 := Tryz.func208.trans (congrArg some (by kernel_rfl))
  f46 := ⟨Tryz.f234.name, by decide, Tryz.func234.trans (congrArg some (by kernel_rfl))⟩
  f47 := Tryz.func235.trans (congrArg some (by kernel_rfl))
  f48 := Tryz.func236.trans (congrArg some (by kernel_rfl))
  f49 := ⟨Tryz.f237.name, by decide, Tryz.func237.trans (congrArg some (by kernel_rfl))⟩
  f50 := ⟨Tryz.f238.name, by decide, Tryz.func238.trans (congrArg some (by kernel_rfl))⟩
  f57 := ⟨Tryz.f264.name, by decide, Tryz.func264.trans (congrArg some (by kernel_rfl))⟩
  t0 := Tryz.underlying0
  a0 := Tryz.isAgg0
  z0 := Tryz.sizeOf0
  v0 := Tryz.zeroValue0
  t3 := Tryz.underlying3
  a3 := Tryz.isAgg3
  z3 := Tryz.sizeOf3
  v3 := Tryz.zeroValue3
  t4 := Tryz.underlying4
  a4 := Tryz.isAgg4
  z4 := Tryz.sizeOf4
  v4 := Tryz.zeroValue4
  t5 := Tryz.underlying5
  a5 := Tryz.isAgg5
  z5 := Tryz.sizeOf5
  v5 := Tryz.zeroValue5
  t9 := Tryz.underlying9
  a9 := Tryz.isAgg9
  z9 := Tryz.sizeOf9
  v9 := Tryz.zeroValue9
  t22 := Tryz.underlying22
  a22 := Tryz.isAgg22
  z22 := Tryz.sizeOf22
  v22 := Tryz.zeroValue22
  a24 := Tryz.isAgg30
  z24 := Tryz.sizeOf30
  t25 := Tryz.underlying71
  a25 := Tryz.isAgg71
  z25 := Tryz.sizeOf71
  v25 := Tryz.zeroValue71
  t39 := Tryz.underlying99
  a39 := Tryz.isAgg99
  z39 := Tryz.sizeOf99
  v39 := Tryz.zeroValue99
  t45 := Tryz.underlying132
  a45 := Tryz.isAgg132
  z45 := Tryz.sizeOf132
  v45 := Tryz.zeroValue132
  t46 := Tryz.underlying133
  a46 := Tryz.isAgg133
  z46 := Tryz.sizeOf133
  v46 := Tryz.zeroValue133
  t50 := Tryz.underlying116
  a50 := Tryz.isAgg116
  z50 := Tryz.sizeOf116
  v50 := Tryz.zeroValue116
  t53 := Tryz.underlying139
  a53 := Tryz.isAgg139
  z53 := Tryz.sizeOf139
  v53 := Tryz.zeroValue139
  t55 := Tryz.underlying141
  a55 := Tryz.isAgg141
  z55 := Tryz.sizeOf141
  v55 := Tryz.zeroValue141
  t66 := Tryz.underlying154
  a66 := Tryz.isAgg154
  z66 := Tryz.sizeOf154
  v66 := Tryz.zeroValue154
  t70 := Tryz.underlying158
  a70 := Tryz.isAgg158
  z70 := Tryz.sizeOf158
  v70 := Tryz.zeroValue158
  t76 := Tryz.underlying181
  a76 := Tryz.isAgg181
  z76 := Tryz.sizeOf181
  v76 := Tryz.zeroValue181
  t77 := Tryz.underlying182
  a77 := Tryz.isAgg182
  z77 := Tryz.sizeOf182
  v77 := Tryz.zeroValue182 }
end Go.Proofs
