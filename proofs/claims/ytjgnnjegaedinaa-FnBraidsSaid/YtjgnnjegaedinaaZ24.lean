/-
  The contract of BraidPath of the program.
  The reference's draws for the laws of elements; letters that a code spells.
  What the law of braid moves draws.
  What the law of braid moves says, in plain words; lists of words compared.
-/
import Derived.Test.YtjgnnjegaedinaaZ23
namespace Go.Proofs.Ytjgnnjegaedinaa.Hx
open Go.RowKit
variable {dm : Bool}

def bpCells (N : Nat) (ρ : Nat → Nat) (f : Nat → Int × Int) (n : Nat) : List H0 := (List.range n).flatMap fun i => [.sl (ρ i) 0 N, ci (f i).1, ci (f i).2]
theorem bpCells_succ (N : Nat) (ρ : Nat → Nat) (f : Nat → Int × Int) (n : Nat) : bpCells N ρ f (n + 1) = bpCells N ρ f n ++ [.sl (ρ n) 0 N, ci (f n).1, ci (f n).2] := by
  unfold bpCells
  rw [List.range_succ, List.flatMap_append]
  simp
theorem bpCells_length (N : Nat) (ρ : Nat → Nat) (f : Nat → Int × Int) : ∀ n, (bpCells N ρ f n).length = 3 * n
  | 0 => rfl
  | n + 1 => by
    rw [bpCells_succ, List.length_append, bpCells_length N ρ f n]
    simp
    omega
theorem bpCells_get (N : Nat) (ρ : Nat → Nat) (f : Nat → Int × Int) {n i : Nat} (hi : i < n) : (bpCells N ρ f n)[0 + 3 * i + 0]? = some (.sl (ρ i) 0 N) ∧ (bpCells N ρ f n)[0 + 3 * i + 1]? = some (ci (f i).1) ∧ (bpCells N ρ f n)[0 + 3 * i + 2]? = some (ci (f i).2) := by
  induction n with
  | zero => omega
  | succ n ih =>
    have hl := bpCells_length N ρ f n
    rw [bpCells_succ]
    by_cases h : i < n
    · rw [List.getElem?_append_left (by omega), List.getElem?_append_left (by omega), List.getElem?_append_left (by omega)]
      exact ih h
    · have : i = n := by omega
      subst this
      rw [List.getElem?_append_right (by omega), List.getElem?_append_right (by omega), List.getElem?_append_right (by omega), hl]
      have e0 : 0 + 3 * i + 0 - 3 * i = 0 := by omega
      have e1 : 0 + 3 * i + 1 - 3 * i = 1 := by omega
      have e2 : 0 + 3 * i + 2 - 3 * i = 2 := by omega
      rw [e0, e1, e2]
      exact ⟨rfl, rfl, rfl⟩
theorem bpCells_congr {N : Nat} {ρ ρ' : Nat → Nat} {f f' : Nat → Int × Int} : ∀ {n : Nat}, (∀ i, i < n → ρ i = ρ' i ∧ f i = f' i) → bpCells N ρ f n = bpCells N ρ' f' n
  | 0, _ => rfl
  | n + 1, h => by
    rw [bpCells_succ, bpCells_succ, bpCells_congr (n := n) (fun i hi => h i (by omega)), (h n (by omega)).1, (h n (by omega)).2]

/-- The program's memory while it searches: the map of the words' texts in row m, the list of steps in row q. -/
structure Bps (b m q N : Nat) (ρ : Nat → Nat) (f : Nat → Int × Int) (Q P : List (List Int)) (h : Heap) : Prop where
  mp : ∃ ks, h[m]? = some (.keys true ks) ∧ ∀ k, k ∈ ks ↔ ∃ l ∈ Q, k = .str (fmtW l)
  ls : h[q]? = some (.own (bpCells N ρ f Q.length))
  rt : ∀ i, i < Q.length → (Q.getD i []).length = N ∧ ∃ t, h[ρ i]? = some (.own ((Q.getD i []).map ci ++ t))
  nq : ∀ i, i < Q.length → ρ i ≠ q ∧ ρ i ≠ m
  qm : q ≠ m
  low : b ≤ m ∧ b ≤ q
  lk : ∀ i, i < Q.length → ((f i).1 = -1 ∧ P.getD i [] = []) ∨ ∃ j : Nat, j < i ∧ (f i).1 = j ∧ P.getD i [] = P.getD j [] ++ [(f i).2]

theorem Bps.keep {b m q N : Nat} {ρ : Nat → Nat} {f : Nat → Int × Int} {Q P : List (List Int)} {h h' : Heap} (S : Bps b m q N ρ f Q P h) (k : ∀ z x, h[z]? = some x → z = m ∨ z = q ∨ (∃ i, i < Q.length ∧ z = ρ i) → h'[z]? = some x) : Bps b m q N ρ f Q P h' := by
  obtain ⟨ks, k1, k2⟩ := S.mp
  exact ⟨⟨ks, k _ _ k1 (Or.inl rfl), k2⟩, k _ _ S.ls (Or.inr (Or.inl rfl)), fun i hi => by
    obtain ⟨e, t, g⟩ := S.rt i hi
    exact ⟨e, t, k _ _ g (Or.inr (Or.inr ⟨i, hi, rfl⟩))⟩, S.nq, S.qm, S.low, S.lk⟩
theorem Bps.ext {b m q N : Nat} {ρ : Nat → Nat} {f : Nat → Int × Int} {Q P : List (List Int)} {h h' : Heap} (S : Bps b m q N ρ f Q P h) (E : Ext h h') : Bps b m q N ρ f Q P h' := S.keep fun _ _ g _ => E.row g
theorem Bps.but {b m q N r : Nat} {ρ : Nat → Nat} {f : Nat → Int × Int} {Q P : List (List Int)} {h h' : Heap} (S : Bps b m q N ρ f Q P h) (B : But r h h') (hr : r ≠ m ∧ r ≠ q ∧ ∀ i, i < Q.length → r ≠ ρ i) : Bps b m q N ρ f Q P h' := S.keep fun z x g hz => by
  rw [B.2 z (get_lt g) (by
    rcases hz with rfl | rfl | ⟨i, hi, rfl⟩
    · exact Ne.symm hr.1
    · exact Ne.symm hr.2.1
    · exact Ne.symm (hr.2.2 i hi))]
  exact g
theorem Bps.ints {b m q N : Nat} {ρ : Nat → Nat} {f : Nat → Int × Int} {Q P : List (List Int)} {h : Heap} (S : Bps b m q N ρ f Q P h) {i : Nat} (hi : i < Q.length) : Ints h (.sl (ρ i) 0 N) (Q.getD i []) := by
  obtain ⟨e, t, g⟩ := S.rt i hi
  have := Ints.ofOwn g
  rwa [e] at this
theorem Bps.lt {b m q N : Nat} {ρ : Nat → Nat} {f : Nat → Int × Int} {Q P : List (List Int)} {h : Heap} (S : Bps b m q N ρ f Q P h) : m < h.length ∧ q < h.length ∧ ∀ i, i < Q.length → ρ i < h.length := by
  obtain ⟨ks, k1, _⟩ := S.mp
  exact ⟨get_lt k1, get_lt S.ls, fun i hi => by obtain ⟨_, t, g⟩ := S.rt i hi; exact get_lt g⟩
theorem Bps.at0 {b m q N : Nat} {ρ : Nat → Nat} {f : Nat → Int × Int} {Q P : List (List Int)} {h : Heap} (S : Bps b m q N ρ f Q P h) {i : Nat} (hi : i < Q.length) : At h (.ptr q (0 + 3 * i + 0)) (.sl (ρ i) 0 N) ∧ At h (.ptr q (0 + 3 * i + 1)) (ci (f i).1) ∧ At h (.ptr q (0 + 3 * i + 2)) (ci (f i).2) := by
  obtain ⟨g0, g1, g2⟩ := bpCells_get N ρ f hi
  exact ⟨⟨q, _, _, _, rfl, S.ls, rfl, g0⟩, ⟨q, _, _, _, rfl, S.ls, rfl, g1⟩, ⟨q, _, _, _, rfl, S.ls, rfl, g2⟩⟩

/-- One more step: the memory after the map, the step and the longer list are written. -/
theorem Bps.add {b m q N a : Nat} {ρ : Nat → Nat} {f : Nat → Int × Int} {Q P : List (List Int)} {h : Heap} (S : Bps b m q N ρ f Q P h) {ks : List Key} (hk2 : ∀ k, k ∈ ks ↔ ∃ l ∈ Q, k = .str (fmtW l)) {l : List Int} {t : List H0} (ha : h[a]? = some (.own (l.map ci ++ t))) (hl : l.length = N) (haq : a ≠ q) (ham : a ≠ m) (hPl : P.length = Q.length) {k : Nat} (hk : k < Q.length) (pl : Int) :
    ∃ h', h' = ((h.set m (.keys true (.str (fmtW l) :: ks)) ++ [Row.own [.sl a 0 N, ci k, ci pl]]).set q .gone ++ [Row.own (bpCells N ρ f Q.length ++ [.sl a 0 N, ci k, ci pl])]) ∧ KeepN (fun z => z = m ∨ z = q) h h' ∧
      Bps b m (h.length + 1) N (fun i => if i = Q.length then a else ρ i) (fun i => if i = Q.length then ((k : Int), pl) else f i) (Q ++ [l]) (P ++ [P.getD k [] ++ [pl]]) h' := by
  refine ⟨_, rfl, ?_⟩
  have hlt := S.lt
  have hqm := S.qm
  have halt := get_lt ha
  have hL : ((h.set m (.keys true (.str (fmtW l) :: ks)) ++ [Row.own [.sl a 0 N, ci k, ci pl]]).set q .gone).length = h.length + 1 := by simp
  have same : ∀ z, z < h.length → z ≠ m → z ≠ q → ((h.set m (.keys true (.str (fmtW l) :: ks)) ++ [Row.own [.sl a 0 N, ci k, ci pl]]).set q .gone ++ [Row.own (bpCells N ρ f Q.length ++ [.sl a 0 N, ci k, ci pl])])[z]? = h[z]? := fun z hz n1 n2 => by
    rw [List.getElem?_append_left (by omega), List.getElem?_set_ne (Ne.symm n2), List.getElem?_append_left (by rw [List.length_set]; exact hz), List.getElem?_set_ne (Ne.symm n1)]
  have gm : ((h.set m (.keys true (.str (fmtW l) :: ks)) ++ [Row.own [.sl a 0 N, ci k, ci pl]]).set q .gone ++ [Row.own (bpCells N ρ f Q.length ++ [.sl a 0 N, ci k, ci pl])])[m]? = some (.keys true (.str (fmtW l) :: ks)) := by
    rw [List.getElem?_append_left (by omega), List.getElem?_set_ne hqm, List.getElem?_append_left (by rw [List.length_set]; exact hlt.1), List.getElem?_set_self hlt.1]
  have gq : ((h.set m (.keys true (.str (fmtW l) :: ks)) ++ [Row.own [.sl a 0 N, ci k, ci pl]]).set q .gone ++ [Row.own (bpCells N ρ f Q.length ++ [.sl a 0 N, ci k, ci pl])])[h.length + 1]? = some (.own (bpCells N ρ f Q.length ++ [.sl a 0 N, ci k, ci pl])) := by
    rw [← hL]
    exact get_new _ _
  have hlen : ((h.set m (.keys true (.str (fmtW l) :: ks)) ++ [Row.own [.sl a 0 N, ci k, ci pl]]).set q .gone ++ [Row.own (bpCells N ρ f Q.length ++ [.sl a 0 N, ci k, ci pl])]).length = h.length + 2 := by simp
  generalize (h.set m (.keys true (.str (fmtW l) :: ks)) ++ [Row.own [.sl a 0 N, ci k, ci pl]]).set q .gone ++ [Row.own (bpCells N ρ f Q.length ++ [.sl a 0 N, ci k, ci pl])] = h2 at *
  refine ⟨⟨by omega, fun z hz hn => same z hz (fun e => hn (Or.inl e)) (fun e => hn (Or.inr e))⟩, ⟨_, gm, fun key => ?_⟩, ?_, fun i hi => ?_, fun i hi => ?_, by omega, ⟨S.low.1, by have := S.low; omega⟩, fun i hi => ?_⟩
  · rw [List.mem_cons, hk2]
    constructor
    · rintro (e | ⟨l2, h2, e⟩)
      · exact ⟨l, by simp, e⟩
      · exact ⟨l2, by simp [h2], e⟩
    · rintro ⟨l2, h2, e⟩
      rcases List.mem_append.1 h2 with h2 | h2
      · exact Or.inr ⟨l2, h2, e⟩
      · obtain rfl : l2 = l := by simpa using h2
        exact Or.inl e
  · have e : (Q ++ [l]).length = Q.length + 1 := by simp
    rw [e, bpCells_succ, gq]
    simp only [if_true]
    rw [bpCells_congr (N := N) (n := Q.length) (ρ := fun i => if i = Q.length then a else ρ i) (f := fun i => if i = Q.length then ((k : Int), pl) else f i) (ρ' := ρ) (f' := f) (fun i hi => ⟨if_neg (Nat.ne_of_lt hi), if_neg (Nat.ne_of_lt hi)⟩)]
  · by_cases e : i < Q.length
    · obtain ⟨e1, t1, g1⟩ := S.rt i e
      have hnq := S.nq i e
      rw [getD_app e]
      simp only [if_neg (Nat.ne_of_lt e)]
      exact ⟨e1, t1, by rw [same _ (get_lt g1) hnq.2 hnq.1]; exact g1⟩
    · have ei : i = Q.length := by simp at hi; omega
      subst ei
      rw [getD_snoc]
      simp only [if_true]
      exact ⟨hl, t, by rw [same _ halt ham haq]; exact ha⟩
  · by_cases e : i < Q.length
    · have hnq := S.nq i e
      have := hlt.2.2 i e
      simp only [if_neg (Nat.ne_of_lt e)]
      exact ⟨by omega, hnq.2⟩
    · have ei : i = Q.length := by simp at hi; omega
      subst ei
      simp only [if_true]
      exact ⟨by omega, ham⟩
  · by_cases e : i < Q.length
    · simp only [if_neg (Nat.ne_of_lt e)]
      rw [getD_app (by omega)]
      rcases S.lk i e with g | ⟨j, j1, j2, j3⟩
      · exact Or.inl g
      · exact Or.inr ⟨j, j1, j2, by rw [j3, getD_app (by omega)]⟩
    · have ei : i = Q.length := by simp at hi; omega
      subst ei
      simp only [if_true]
      refine Or.inr ⟨k, hk, rfl, ?_⟩
      rw [← hPl, getD_snoc, getD_app (by omega)]

theorem Bps.first {h0 h : Heap} {r : Nat} {a : List Int} {t : List H0} (hr : h[r]? = some (.own (a.map ci ++ t))) {m q : Nat} (hq : h[q]? = some (.own [.sl r 0 a.length, ci (-1), ci 0])) (hm : h[m]? = some (.keys true [.str (fmtW a)])) (hmq : m ≠ q) (hrq : r ≠ q) (hb : h0.length ≤ m ∧ h0.length ≤ q) :
    Bps h0.length m q a.length (fun _ => r) (fun _ => (-1, 0)) [a] [[]] h := by
  refine ⟨⟨_, hm, fun k => by simp⟩, hq, fun i hi => ?_, fun i _ => ⟨hrq, fun e => ?_⟩, Ne.symm hmq, hb, fun i hi => Or.inl ⟨rfl, ?_⟩⟩
  · have : i = 0 := by simp at hi; omega
    subst this
    exact ⟨rfl, t, hr⟩
  · have e : r = m := e
    rw [e, hm] at hr
    cases hr
  · have : i = 0 := by simp at hi; omega
    subst this
    rfl


set_option maxHeartbeats 4000000 in
theorem impl_BraidPath (h : Heap) (x0 : H0) (a0 : List (List Int)) (x1 : H0) (a1 : List Int) (x2 : H0) (a2 : List Int) (hx0 : Rows h x0 a0) (hx1 : Ints h x1 a1) (hx2 : Ints h x2 a2) (s0 : a0.length ≤ 1048576 ∧ tot a0 ≤ 1048576) (s1 : a1.length ≤ 1048576) (s2 : a2.length ≤ 1048576) :
    HCalls dm Try.prog 15 [.s x0, .s x1, .s x2] h (fun r h' => ∃ y, r = T2 y (bpOk a0 a1 a2) ∧ Fresh h h' y (bpPath a0 a1 a2)) := by
  obtain ⟨V, hV⟩ : ∃ V, V = bpOk a0 a1 a2 := ⟨_, rfl⟩
  obtain ⟨W, hW⟩ : ∃ W, W = bpPath a0 a1 a2 := ⟨_, rfl⟩
  rw [← hV, ← hW]
  refine calls_of_hFun (m := 0) kd_ok mixed Try.func15 rfl (by kernel_rfl) rfl rfl (of_decide_eq_true rfl) ?_; unfold hFun; (conv => whnf)
  have bad : ∀ h2, Ext h h2 → bpOk a0 a1 a2 = false ∧ bpPath a0 a1 a2 = [] → V = false ∧ Fresh h (h2 ++ [Row.own []]) (.sl h2.length 0 0) W := fun h2 E hb => by
    rw [hV, hW, hb.1, hb.2]
    exact ⟨rfl, Fresh.of (E.trans (Ext.push _ _)) ((OwnR.push h2 []).own E.1)⟩
  refine (impl_IsReduced _ _ a0 _ a1 hx0 hx1 s0 s1).mono ?_
  rintro r h1 ⟨rfl, E1⟩
  cases hr1 : isReduced a0 a1
  · obtain ⟨g1, g2⟩ := bad h1 E1 (bp_off fun k => by rw [hr1] at k; cases k.1)
    subst g1
    (conv => whnf)
    (repeat (first | (refine HIf.yes ?_; conv => whnf) | (refine HIf.no ?_; conv => whnf)))
    refine HLit.empty ?_
    (conv => whnf)
    exact ⟨_, rfl, g2⟩
  (conv => whnf)
  (repeat (first | (refine HIf.yes ?_; conv => whnf) | (refine HIf.no ?_; conv => whnf)))
  refine (impl_IsReduced _ _ a0 _ a2 (hx0.ext E1) (hx2.ext E1) s0 s2).mono ?_
  rintro r h2 ⟨rfl, E2⟩
  replace E2 := E1.trans E2
  cases hr2 : isReduced a0 a2
  · obtain ⟨g1, g2⟩ := bad h2 E2 (bp_off fun k => by rw [hr2] at k; cases k.2)
    subst g1
    (conv => whnf)
    (repeat (first | (refine HIf.yes ?_; conv => whnf) | (refine HIf.no ?_; conv => whnf)))
    refine HLit.empty ?_
    (conv => whnf)
    exact ⟨_, rfl, g2⟩
  have hw1 := isRed_word hr1
  obtain ⟨hC, hl1, hle1⟩ := word_cartan hw1
  have hres : ∀ {r : Bool × List Int}, bpOut a0 a2 121 0 ([a1], [[]]) = r → V = r.1 ∧ W = r.2 := fun {r} e => by
    rw [hV, hW]
    exact bp_on hr1 hr2 e
  (conv => whnf)
  (repeat (first | (refine HIf.yes ?_; conv => whnf) | (refine HIf.no ?_; conv => whnf)))
  have B0 := BpS.start a0 a1 hle1
  have hsm1 := small4 hC (B0.red a1 (by simp))
  refine HLit.empty ?_
  (conv => whnf)
  refine ⟨rfl, rfl, HApp.moreR (OwnR.push h2 []) ((hx1.ext E2).ext (Ext.push _ _)) (by rw [List.length_nil]; omega) (fun h3 r3 y3 B3 hr3 O3 => ?_)⟩
  rw [List.nil_append] at O3
  have E3 := E2.trans ((Ext.push h2 [Row.own []]).but B3 (Nat.le_refl _))
  obtain ⟨t3, rfl, g3⟩ := O3
  have hlt3 := get_lt g3
  (conv => whnf)
  have hone3 : ∀ c ∈ [H0.sl r3 0 a1.length, ci (-1), ci 0], c.one = true := fun c hc => by
    simp only [List.mem_cons, List.not_mem_nil, or_false] at hc
    rcases hc with rfl | rfl | rfl <;> rfl
  refine HRec.of (xs := [.sl r3 0 a1.length, ci (-1), ci 0]) (cs := [.sl r3 0 a1.length, ci (-1), ci 0]) hone3 ?_
  (conv => whnf)
  refine HLitW.one' (by decide) rfl hone3 ?_
  (conv => whnf)
  have E4 := Ext.push h3 ([Row.own [H0.sl r3 0 a1.length, ci (-1), ci 0]] ++ [Row.keys true []])
  rw [← List.append_assoc] at E4
  have gq4 : (h3 ++ [Row.own [H0.sl r3 0 a1.length, ci (-1), ci 0]] ++ [Row.keys true []])[h3.length]? = some (.own [H0.sl r3 0 a1.length, ci (-1), ci 0]) := by
    rw [List.getElem?_append_left (by simp)]
    exact get_new _ _
  have gm4 := get_new (h3 ++ [Row.own [H0.sl r3 0 a1.length, ci (-1), ci 0]]) (Row.keys true [])
  have em : (h3 ++ [Row.own [H0.sl r3 0 a1.length, ci (-1), ci 0]]).length = h3.length + 1 := by simp
  rw [em] at gm4
  rw [em]
  generalize h3 ++ [Row.own [H0.sl r3 0 a1.length, ci (-1), ci 0]] ++ [Row.keys true []] = h4 at E4 gq4 gm4 ⊢
  (conv => whnf)
  refine (impl_FormatWord _ _ a1 ((hx1.ext E3).ext E4) hsm1 s1).mono ?_
  rintro rr h5 ⟨rfl, E5⟩
  have gq5 := E5.row gq4
  have gm5 := E5.row gm4
  have gr5 := E5.row (E4.row g3)
  have hmlt := get_lt gm5
  have hl3 := E3.1
  (conv => whnf)
  refine ⟨h3.length + 1, [], .str (fmtW a1), rfl, rfl, gm5, rfl, rfl, by simp, ?_⟩
  have gm6 : (h5.set (h3.length + 1) (Row.keys true [.str (fmtW a1)]))[h3.length + 1]? = some (.keys true [.str (fmtW a1)]) := by rw [List.getElem?_set_self hmlt]
  have gq6 : (h5.set (h3.length + 1) (Row.keys true [.str (fmtW a1)]))[h3.length]? = _ := (List.getElem?_set_ne (by omega)).trans gq5
  have gr6 : (h5.set (h3.length + 1) (Row.keys true [.str (fmtW a1)]))[r3]? = _ := (List.getElem?_set_ne (by omega)).trans gr5
  have E6 : Ext h (h5.set (h3.length + 1) (Row.keys true [.str (fmtW a1)])) := ((E3.trans E4).trans E5).set (by omega) _
  generalize h5.set (h3.length + 1) (Row.keys true [.str (fmtW a1)]) = h6 at gm6 gq6 gr6 E6 ⊢
  have S0 := Bps.first (h0 := h) gr6 gq6 gm6 (by omega) (by omega) ⟨by omega, by omega⟩
  clear gm6 gq6 gr6 gm5 gq5 gr5 E5 E4 gq4 gm4 E3 g3 hmlt hone3 B3 hr3 E2 E1
  generalize h3.length + 1 = m at *
  (conv => whnf)
  refine HLoop.intro [10, 8] [38, 39, 40, 41, 44, 45, 46, 47, 48, 49, 50, 51, 11, 52, 12, 53, 54, 55, 56, 57, 58, 64, 65, 66, 67, 68, 69, 70, 71, 11, 59, 60, 61, 62, 63, 12, 72, 73, 74, 6, 7, 75, 76, 77, 78, 79, 80, 81, 82, 83, 84, 85, 86, 14, 88, 89, 90, 91, 92, 93, 94, 95, 87, 96, 97, 15, 16, 98, 99, 17, 100, 101, 102, 103, 104, 105, 106, 107, 108, 109, 110, 111, 112, 113, 114, 115, 116, 117, 8, 118, 83, 42, 43, 10] (by kernel_rfl) (by kernel_rfl) (fun vs h' => ∃ (k q : Nat) (ρ : Nat → Nat) (f : Nat → Int × Int) (Q P : List (List Int)), vs = [I k, .s (.sw 3 q 0 Q.length)] ∧ k ≤ Q.length ∧ Ext h h' ∧ Bps h.length m q a1.length ρ f Q P h' ∧ BpS a0 a1.length (imageOf a0 a1) Q P ∧ bpOut a0 a2 (121 - k) k (Q, P) = bpOut a0 a2 121 0 ([a1], [[]])) (fun vs _ => 121 - natAt vs 0) ⟨0, _, _, _, [a1], [[]], rfl, by omega, E6, S0, B0, rfl⟩ ?_
  clear E6 S0 B0
  rintro vs h' ⟨k, q, ρ, f, Q, P, rfl, hk, E, M, S, hout⟩
  have hfew := S.few
  have hPl := S.len
  (conv => whnf)
  refine HLenW.at' ?_
  (conv => whnf)
  refine HIf.dec (fun hlt => ?_) (fun hge => ?_)
  rotate_left
  · (conv => whnf)
    obtain ⟨g1, g2⟩ := hres (r := (false, [])) (by rw [← hout]; exact bpOut_end (by show ¬ k < Q.length; omega))
    subst g1 g2
    refine HLit.empty ?_
    (conv => whnf)
    exact ⟨_, rfl, Fresh.of (E.trans (Ext.push _ _)) ((OwnR.push h' []).own E.1)⟩
  have hkl : k < Q.length := by omega
  have hkp : k < P.length := by omega
  have hRq := S.red _ (getD_mem hkl)
  have hql : (Q.getD k []).length ≤ 15 := by rw [hRq.1]; exact hl1
  have hpl120 := S.path k hkp
  have efu : 121 - k = (121 - (k + 1)) + 1 := by omega
  rw [efu] at hout
  have eki : ((k : Nat) : Int).toNat = k := by omega
  (conv => whnf)
  refine HIdxW.at' (by omega) (by omega) ?_
  rw [eki]
  (conv => whnf)
  refine HField.at2 (by decide) ?_
  (conv => whnf)
  refine ⟨rfl, (M.at0 hkl).1.load ?_⟩
  (conv => whnf)
  refine (impl_EqualWords _ _ _ _ a2 (M.ints hkl) (hx2.ext E) (by omega)).mono ?_
  rintro v h3' ⟨rfl, hh⟩
  subst h3'
  (conv => whnf)
  refine HIf.dec (fun he => ?_) (fun hne => ?_)
  · (conv => whnf)
    obtain ⟨g1, g2⟩ := hres (r := (true, P.getD k [])) (by rw [← hout]; exact bpOut_hit hkl he)
    subst g1 g2
    refine HLit.empty ?_
    (conv => whnf)
    have hMlt := M.lt
    have hE := E.1
    refine HLoop.intro [12, 11] [53, 54, 55, 56, 57, 58, 64, 65, 66, 67, 68, 69, 70, 71, 11, 59, 60, 61, 62, 63, 12] (by kernel_rfl) (by kernel_rfl) (fun vs h'' => ∃ (i r : Nat) (z : H0) (out : List Int), vs = [I i, .s z] ∧ i ≤ k ∧ Ext h h'' ∧ Bps h.length m q a1.length ρ f Q P h'' ∧ OwnR r h'' z out ∧ h'.length ≤ r ∧ P.getD k [] = P.getD i [] ++ out.reverse) (fun vs _ => natAt vs 0) ⟨k, _, _, [], rfl, Nat.le_refl _, E.trans (Ext.push _ _), M.ext (Ext.push _ _), OwnR.push h' [], Nat.le_refl _, by simp⟩ ?_
    rintro vs h4 ⟨i, r, z, out, rfl, hi, E4, M4, O4, hr4, hout4⟩
    have hil : i < Q.length := by omega
    have eii : ((i : Nat) : Int).toNat = i := by omega
    have holen : out.length ≤ 120 := by
      have := congrArg List.length hout4
      rw [List.length_append, List.length_reverse] at this
      omega
    have hrne : r ≠ m ∧ r ≠ q ∧ ∀ i, i < Q.length → r ≠ ρ i := ⟨by omega, by omega, fun i hi => by have := hMlt.2.2 i hi; omega⟩
    have hlk := M4.lk i hil
    have hat := M4.at0 hil
    generalize hfi : f i = fi at *
    obtain ⟨fa, fp⟩ := fi
    simp only at hlk hat
    (conv => whnf)
    refine HIdxW.at' (by omega) (by omega) ?_
    rw [eii]
    (conv => whnf)
    refine HField.at2 (by decide) ?_
    (conv => whnf)
    refine ⟨rfl, hat.2.1.load ?_⟩
    (conv => whnf)
    rcases hlk with ⟨h1', h2'⟩ | ⟨j, hj, h1', h2'⟩
    · have hneg : ¬ fa ≥ 0 := by omega
      refine HIf.decF hneg ?_
      (conv => whnf)
      refine (lib_Reverse _ r _ out O4 (by omega)).mono ?_
      rintro v h5 ⟨B5, O5⟩
      rw [h2', List.nil_append] at hout4
      (conv => whnf)
      rw [hout4]
      exact ⟨_, rfl, Fresh.ofRow (E4.but B5 (by omega)) O5 (by omega)⟩
    · subst h1'
      have hpos : (j : Int) ≥ 0 := by omega
      refine HIf.decT hpos ?_
      (conv => whnf)
      refine HIdxW.at' (by omega) (by omega) ?_
      rw [eii]
      (conv => whnf)
      refine HField.at2 (by decide) ?_
      (conv => whnf)
      refine ⟨rfl, hat.2.2.load ?_⟩
      (conv => whnf)
      refine HLit.one ?_
      (conv => whnf)
      refine ⟨rfl, rfl, HApp.snocR O4 (by omega) (fun h5 r5 z5 B5 hr5 O5 => ?_)⟩
      have M5 := M4.but B5 hrne
      have hat5 := M5.at0 hil
      rw [hfi] at hat5
      simp only at hat5
      have hl5 := O4.lt
      (conv => whnf)
      refine HIdxW.at' (by omega) (by omega) ?_
      rw [eii]
      (conv => whnf)
      refine HField.at2 (by decide) ?_
      (conv => whnf)
      refine ⟨rfl, hat5.2.1.load ?_⟩
      (conv => whnf)
      exact ⟨⟨j, r5, z5, _, rfl, by omega, E4.but B5 (by omega), M5, O5, by omega, by rw [hout4, h2']; simp⟩, hj⟩
  (conv => whnf)
  refine HIdxW.at' (by omega) (by omega) ?_
  rw [eki]
  (conv => whnf)
  refine HField.at2 (by decide) ?_
  (conv => whnf)
  refine ⟨rfl, (M.at0 hkl).1.load ?_⟩
  (conv => whnf)
  refine (impl_BraidPlaces _ _ a0 _ _ (hx0.ext E) (M.ints hkl) s0 (by omega)).mono ?_
  rintro rr h4 ⟨y4, rfl, f4⟩
  obtain ⟨rp, hrp, Op⟩ := f4.row
  have E4 := E.trans f4.1
  have M4 := M.ext f4.1
  have hMlt := M.lt
  have hpl := brTo_le a0 (Q.getD k []) (Q.getD k []).length
  have hmem : ∀ i : Int, i ∈ brTo a0 (Q.getD k []) (Q.getD k []).length → ∃ t : Nat, i = t ∧ t < (Q.getD k []).length ∧ brOk a0 (Q.getD k []) t = true := fun i hi => mem_brTo.1 hi
  have hnext := bpOut_next (f := 121 - (k + 1)) (b := a2) (c := a0) (S := (Q, P)) hkl hne
  have hall : bpAll a0 (Q, P) k = bpIn a0 (Q.getD k []) (P.getD k []) (Q, P) (brTo a0 (Q.getD k []) (Q.getD k []).length) := rfl
  rw [hall] at hnext
  clear hall
  generalize brTo a0 (Q.getD k []) (Q.getD k []).length = pl at *
  generalize hw : Q.getD k [] = w at *
  generalize hpk : P.getD k [] = pk at *
  (conv => whnf)
  refine ⟨rfl, Op.ints.len ?_⟩
  (conv => whnf)
  refine HLoop.intro [83, 8] [84, 85, 86, 14, 88, 89, 90, 91, 92, 93, 94, 95, 87, 96, 97, 15, 16, 98, 99, 17, 100, 101, 102, 103, 104, 105, 106, 107, 108, 109, 110, 111, 112, 113, 114, 115, 116, 117, 8, 118, 83] (by kernel_rfl) (by kernel_rfl) (fun vs h'' => ∃ (n q : Nat) (ρ : Nat → Nat) (f : Nat → Int × Int) (Q' P' : List (List Int)), vs = [I n, .s (.sw 3 q 0 Q'.length)] ∧ n ≤ pl.length ∧ Ext h h'' ∧ Bps h.length m q a1.length ρ f Q' P' h'' ∧ BpS a0 a1.length (imageOf a0 a1) Q' P' ∧ OwnR rp h'' y4 pl ∧ rp ≠ q ∧ rp ≠ m ∧ (Q', P') = bpIn a0 w pk (Q, P) (pl.take n) ∧ k < Q'.length ∧ Q'.getD k [] = w ∧ P'.getD k [] = pk) (fun vs _ => pl.length - natAt vs 0) ⟨0, q, ρ, f, Q, P, rfl, by omega, E4, M4, S, Op, by omega, by omega, rfl, hkl, hw, hpk⟩ ?_
  clear E4 M4 S Op hrp f4 M E hMlt hkl hkp hw hpk
  rintro vs h4 ⟨n, q, ρ, f, Q', P', rfl, hn, E, M, S, Op, hrp1, hrp2, hstate, hkl, hw, hpk⟩
  have hfew' := S.few
  have hPl' := S.len
  (conv => whnf)
  refine HIf.dec (fun hlt2 => ?_) (fun hge2 => ?_)
  rotate_left
  · have en : n = pl.length := by omega
    subst en
    rw [List.take_length] at hstate
    (conv => whnf)
    refine HArith.fits (by omega) (by omega) ?_
    (conv => whnf)
    exact ⟨⟨k + 1, q, ρ, f, Q', P', rfl, by omega, E, M, S, by rw [hstate, ← hnext]; exact hout⟩, by show 121 - (k + 1) < 121 - k; omega⟩
  have hnl : n < pl.length := by omega
  have hin : pl.getD n 0 ∈ pl := by
    have e : pl.getD n 0 = pl[n] := by simp [List.getD, hnl]
    rw [e]
    exact List.getElem_mem hnl
  obtain ⟨t, et, htq, htok⟩ := hmem _ hin
  have hsn := take_snoc' hnl
  rw [et] at hsn
  have hRw := S.red _ (getD_mem hkl)
  have hMk := M.ints hkl
  rw [hw] at hRw hMk
  have hRb := (br_of_braid htok).red (by omega) hRw
  (conv => whnf)
  refine ⟨rfl, Ints.idxN Op.ints hnl (fun p5 hp5 => ?_)⟩
  rw [et] at hp5
  (conv => whnf)
  refine ⟨rfl, hp5.load ?_⟩
  (conv => whnf)
  refine HIdxW.at' (by omega) (by omega) ?_
  rw [eki]
  (conv => whnf)
  refine HField.at2 (by decide) ?_
  (conv => whnf)
  refine ⟨rfl, (M.at0 hkl).1.load ?_⟩
  (conv => whnf)
  refine (impl_BraidAt0 _ _ a0 _ w (t : Int) (hx0.ext E) hMk s0 (by omega)).mono ?_
  rintro rr h5 ⟨y5, rfl, f5⟩
  obtain ⟨r5, hr5, O5⟩ := f5.row
  have hMlt := M.lt
  (conv => whnf)
  refine (impl_FormatWord _ _ _ f5.ints (small4 hC hRb) (by rw [hRb.1]; omega)).mono ?_
  rintro rr h6 ⟨rfl, E6⟩
  have F6 := f5.1.trans E6
  have E5 := E.trans F6
  have M6 := M.ext F6
  have Op6 := Op.ext F6
  have O6 := O5.ext E6
  have hoplt := Op.lt
  obtain ⟨ks, hm6, hk6⟩ := M6.mp
  have hmemk : Key.str (fmtW (braid a0 w (t : Int))) ∈ ks ↔ braid a0 w (t : Int) ∈ Q' := by
    rw [hk6]
    constructor
    · rintro ⟨l2, h2', e⟩
      have hl2 := S.red l2 h2'
      rw [fmtW_inj (small4 hC hRb) (small4 hC hl2) (by rw [hRb.1, hl2.1]) (Key.str.inj e)]
      exact h2'
    · exact fun e => ⟨_, e, rfl⟩
  have same : ¬ (braid a0 w (t : Int) ∉ Q' ∧ Q'.length < 120) → ∃ (n_1 q_1 : Nat) (ρ_1 : Nat → Nat) (f_1 : Nat → Int × Int) (Q'_1 P'_1 : List (List Int)), [I ((n : Int) + 1), .s (.sw 3 q 0 Q'.length)] = [I n_1, .s (.sw 3 q_1 0 Q'_1.length)] ∧ n_1 ≤ pl.length ∧ Ext h h6 ∧ Bps h.length m q_1 a1.length ρ_1 f_1 Q'_1 P'_1 h6 ∧ BpS a0 a1.length (imageOf a0 a1) Q'_1 P'_1 ∧ OwnR rp h6 y4 pl ∧ rp ≠ q_1 ∧ rp ≠ m ∧ (Q'_1, P'_1) = bpIn a0 w pk (Q, P) (pl.take n_1) ∧ k < Q'_1.length ∧ Q'_1.getD k [] = w ∧ P'_1.getD k [] = pk := fun hno =>
    ⟨n + 1, q, ρ, f, Q', P', rfl, by omega, E5, M6, S, Op6, hrp1, hrp2, by rw [hsn, bpIn_snoc, ← hstate, bpStep_old hno], hkl, hw, hpk⟩
  (conv => whnf)
  refine ⟨m, ks, .str (fmtW (braid a0 w (t : Int))), rfl, hm6, rfl, rfl, ?_⟩
  (conv => whnf)
  by_cases hold : braid a0 w (t : Int) ∈ Q'
  · rw [decide_eq_true (hmemk.2 hold)]
    (repeat (first | (refine HIf.no ?_; (conv => whnf)) | (refine HIf.isF rfl ?_; (conv => whnf))))
    refine HArith.fits (by omega) (by omega) ?_
    (conv => whnf)
    exact ⟨same fun k => k.1 hold, by show pl.length - (n + 1) < pl.length - n; omega⟩
  rw [decide_eq_false (fun k => hold (hmemk.1 k))]
  refine HIf.isT rfl ?_
  (conv => whnf)
  refine HIf.isT rfl ?_
  (conv => whnf)
  refine HLenW.at' ?_
  (conv => whnf)
  refine HIf.isT rfl ?_
  (conv => whnf)
  refine HIf.isT rfl ?_
  (conv => whnf)
  refine HIf.dec (fun hroom => ?_) (fun hfull => ?_)
  rotate_left
  · (conv => whnf)
    refine HArith.fits (by omega) (by omega) ?_
    (conv => whnf)
    exact ⟨same fun k => by omega, by show pl.length - (n + 1) < pl.length - n; omega⟩
  have hroom' : Q'.length < 120 := by omega
  have S2 := S.step (t := t) (by omega) hkl (by rw [hw]; exact htok) hroom'
  obtain ⟨t6, e6, g6⟩ := O6
  rw [hRb.1] at e6
  subst e6
  have hone6 : ∀ c ∈ [H0.sl r5 0 a1.length, ci (k : Int), ci (t : Int)], c.one = true := fun c hc => by
    simp only [List.mem_cons, List.not_mem_nil, or_false] at hc
    rcases hc with rfl | rfl | rfl <;> rfl
  have hadd := M6.add hk6 g6 hRb.1 (by omega) (by omega) hPl' hkl (t : Int)
  rw [hpk] at hadd
  obtain ⟨h7, e7, K7, M7⟩ := hadd
  have hlt6 := M6.lt
  have hF6 := F6.1
  (conv => whnf)
  refine ⟨m, ks, .str (fmtW (braid a0 w (t : Int))), rfl, rfl, hm6, rfl, rfl, fun k => hold (hmemk.1 k), ?_⟩
  (conv => whnf)
  refine HRec.of (xs := [.sl r5 0 a1.length, ci (k : Int), ci (t : Int)]) (cs := [.sl r5 0 a1.length, ci (k : Int), ci (t : Int)]) hone6 ?_
  (conv => whnf)
  refine HLitW.one' (by decide) rfl hone6 ?_
  (conv => whnf)
  refine ⟨rfl, HAppW.snoc' (cs := bpCells a1.length ρ f Q'.length) (xs := [.sl r5 0 a1.length, ci (k : Int), ci (t : Int)]) ?_ (bpCells_length _ _ _ _) (get_new _ _) rfl hone6 (by omega) ?_⟩
  · rw [List.getElem?_append_left (by rw [List.length_set]; omega), List.getElem?_set_ne (Ne.symm M6.qm)]
    exact M6.ls
  have hL : (h6.set m (Row.keys true (Key.str (fmtW (braid a0 w (t : Int))) :: ks)) ++ [Row.own [H0.sl r5 0 a1.length, ci (k : Int), ci (t : Int)]]).length = h6.length + 1 := by simp
  rw [hL, ← e7]
  clear same hmem hmemk hk6
  have hlow6 := M6.low
  have E7 : Ext h h7 := K7.ext (fun z e => by rcases e with rfl | rfl; exact hlow6.1; exact hlow6.2) E5
  have Op7 := Op6.keep K7 (fun e => e.elim hrp2 hrp1)
  (conv => whnf)
  refine HArith.fits (by omega) (by omega) ?_
  (conv => whnf)
  rw [hw, hpk] at S2
  refine ⟨⟨n + 1, h6.length + 1, _, _, _, _, ?_, by omega, E7, M7, S2, Op7, by omega, hrp2, ?_, by rw [List.length_append]; omega, ?_, ?_⟩, by show pl.length - (n + 1) < pl.length - n; omega⟩
  · rw [List.length_append]
    rfl
  · rw [hsn, bpIn_snoc, ← hstate, bpStep_new ⟨hold, hroom'⟩]
  · rw [getD_app hkl]
    exact hw
  · rw [getD_app (by omega)]
    exact hpk

end Go.Proofs.Ytjgnnjegaedinaa.Hx

namespace Go.Proofs.Ytjgnnjegaedinaa.Hx
open Go.RowKit
variable {dm : Bool}

theorem Bytes.lenB {h : Heap} {x : H0} {l : List Int} (H : Bytes h x l) : l.length ≤ 1048576 := H.2.1


end Go.Proofs.Ytjgnnjegaedinaa.Hx

namespace Go.Proofs.Ytjgnnjegaedinaa.Hx
open Go.RowKit
variable {dm : Bool}


theorem spec_DrawBraidAt (h : Heap) (y : H0) (l : List Int) (hy : Bytes h y l) : HCalls dm Try.prog 6 [.s y] h (fun v h' => ∃ x L z w n, v = .tup [x, z, ci n] ∧ Ext h h' ∧ Rows h' x L ∧ Ints h' z w ∧ Small L ∧ w.length ≤ 7 ∧ -1 ≤ n ∧ n ≤ 5) := by
  refine calls_of_hFun (m := 0) kd_ok mixed Try.func6 rfl (by kernel_rfl) rfl rfl (of_decide_eq_true rfl) ?_; unfold hFun; (conv => whnf)
  refine (spec_l8Two _ _ _ hy).mono ?_
  rintro v h1 ⟨x, L, z, w, u, t, rfl, E, R, I1, I2, S, h2, h3⟩
  (conv => whnf)
  refine ⟨rfl, (hy.ext E).len ?_⟩
  (conv => whnf)
  refine HRem.of (by decide) ?_
  (conv => whnf)
  refine HIf.beq (fun h0 => ?_) (fun h0 => ?_)
  · (conv => whnf)
    refine ⟨rfl, (hy.ext E).len ?_⟩
    (conv => whnf)
    refine HRem.of (by decide) ?_
    have hm := tmod_pos (a := (l.length : Int)) (b := 5) (by omega) (by omega)
    (conv => whnf)
    refine HArith.fits (by omega) (by omega) ?_
    (conv => whnf)
    exact ⟨_, _, _, _, _, rfl, E, R, I1, S, h2, by omega, by omega⟩
  · (conv => whnf)
    refine ⟨rfl, (hy.ext E).len ?_⟩
    (conv => whnf)
    refine HRem.of (by decide) ?_
    have hm := tmod_pos (a := (l.length : Int)) (b := 4) (by omega) (by omega)
    (conv => whnf)
    exact ⟨_, _, _, _, _, rfl, E, R, I2, S, h3, by omega, by omega⟩

theorem spec_l11Small (h : Heap) (y : H0) (l : List Int) (hy : Bytes h y l) : HCalls dm Try.prog 54 [.s y] h (fun v h' => ∃ x L z w, v = .tup [x, z] ∧ Ext h h' ∧ RowsN (fun q => q < h.length) h' x L ∧ IntsN (fun q => q < h.length) h' z w ∧ Small L ∧ w.length ≤ 7) := by
  refine calls_of_hFun (m := 0) kd_ok mixed Try.func54 rfl (by kernel_rfl) rfl rfl (of_decide_eq_true rfl) ?_; unfold hFun; (conv => whnf)
  refine (spec_l1New _ _ _ hy).mono ?_
  rintro v h1 ⟨c, r, rfl, E1, hr, C1⟩
  have r1 := C1.lt
  (conv => whnf)
  refine (spec_l2Any _ r _ C1).mono ?_
  rintro v h2 ⟨x, L, rfl, K2, C2, R2, S⟩
  replace R2 : RowsN (fun p => p = r ∨ p < h.length) h2 x L := R2.more (fun p hp g => by have := E1.1; omega)
  have n2 := K2.1
  (conv => whnf)
  refine (spec_l5Word _ r _ _ L 7 C2 (R2.more (fun p hp g => Or.inl g)) S.sz.1 (by omega)).mono ?_
  rintro v h3 ⟨z, w, q, rfl, K3, C3, hq, O3, hw⟩
  replace R2 := R2.keep (G := fun p => p < h.length) (KeepN.weaken K3 (fun p e => Or.inl e)) (fun _ _ g => Or.inr g)
  have K3 := K2.then K3
  have hE := E1.1
  (conv => whnf)
  exact ⟨_, _, _, _, rfl, KeepN.ext K3 (fun p e => by omega) E1, R2, ⟨O3.ints, fun p o n e g => by obtain ⟨t, e2, _⟩ := O3; rw [e2] at e; cases e; omega⟩, S, hw⟩

theorem spec_DrawReducedWords (h : Heap) (y : H0) (l : List Int) (hy : Bytes h y l) : HCalls dm Try.prog 11 [.s y] h (fun v h' => ∃ x L z w, v = .tup [x, z] ∧ Ext h h' ∧ RowsN (fun q => q < h.length) h' x L ∧ IntsN (fun q => q < h.length) h' z w ∧ Small L ∧ w.length ≤ 7) := by
  refine calls_of_hFun (m := 0) kd_ok mixed Try.func11 rfl (by kernel_rfl) rfl rfl (of_decide_eq_true rfl) ?_; unfold hFun; (conv => whnf)
  refine (spec_l11Small _ _ _ hy).mono ?_
  rintro v h1 ⟨x, L, z, w, rfl, rest⟩
  (conv => whnf)
  exact ⟨_, _, _, _, rfl, rest⟩

theorem spec_DrawBraidPath (h : Heap) (y : H0) (l : List Int) (hy : Bytes h y l) : HCalls dm Try.prog 18 [.s y] h (fun v h' => ∃ x L z w u t, v = .tup [x, z, u] ∧ Ext h h' ∧ RowsN (fun q => q < h.length) h' x L ∧ IntsN (fun q => q < h.length) h' z w ∧ IntsN (fun q => q < h.length) h' u t ∧ Small L ∧ w.length ≤ 15 ∧ t.length ≤ 15) := by
  refine calls_of_hFun (m := 0) kd_ok mixed Try.func18 rfl (by kernel_rfl) rfl rfl (of_decide_eq_true rfl) ?_; unfold hFun; (conv => whnf)
  refine (spec_l1New _ _ _ hy).mono ?_
  rintro v h1 ⟨c, r, rfl, E1, hr, C1⟩
  have r1 := C1.lt
  (conv => whnf)
  refine (spec_l11Small _ _ _ (hy.ext E1)).mono ?_
  rintro v h2 ⟨x, L, z, w, rfl, E2, R2, I2, S, hw⟩
  have hE1 := E1.1
  replace R2 : RowsN (fun p => p = r ∨ p < h.length) h2 x L := R2.more (fun p hp g => by omega)
  replace I2 : IntsN (fun p => p = r ∨ p < h.length) h2 z w := ⟨I2.1, fun q o n e g => I2.2 q o n e (by have g : q = r ∨ q < h.length := g; show q < h1.length; omega)⟩
  have kp : ∀ {a b : Heap} {x : H0} {L : List (List Int)}, RowsN (fun p => p = r ∨ p < h.length) a x L → KeepR r a b → RowsN (fun p => p = r ∨ p < h.length) b x L := fun R k => R.keep (KeepN.weaken k (fun p e => Or.inl e)) (fun _ _ g => g)
  have ki : ∀ {a b : Heap} {x : H0} {l : List Int}, IntsN (fun p => p = r ∨ p < h.length) a x l → KeepR r a b → IntsN (fun p => p = r ∨ p < h.length) b x l := fun R k => R.keep (KeepN.weaken k (fun p e => Or.inl e)) (fun _ _ g => g)
  have fr : ∀ {a : Heap} {x : H0} {L : List (List Int)}, RowsN (fun p => p = r ∨ p < h.length) a x L → RowsN (fun p => p < h.length) a x L := fun R => R.more (fun _ _ g => Or.inr g)
  have fi : ∀ {a : Heap} {x : H0} {l : List Int}, IntsN (fun p => p = r ∨ p < h.length) a x l → IntsN (fun p => p < h.length) a x l := fun R => ⟨R.1, fun q o n e g => R.2 q o n e (Or.inr g)⟩
  have fo : ∀ {a : Heap} {q : Nat} {x : H0} {l : List Int}, h.length ≤ q → OwnR q a x l → IntsN (fun p => p < h.length) a x l := fun {_ q _ _} hq O => ⟨O.ints, fun p o n e g => by
    obtain ⟨t, e2, _⟩ := O
    rw [e2] at e
    cases e
    have g : q < h.length := g
    omega⟩
  have C2 := C1.ext E2
  have n2 := E2.1
  (conv => whnf)
  refine (spec_ReducedWords _ _ _ _ _ R2.rows I2.1 S.sz (by omega)).mono ?_
  rintro v h3 ⟨y3, rfl, E3, O3⟩
  have R3 := R2.keep (G := fun p => p = r ∨ p < h.length) (KeepN.ofExt E3) (fun _ _ g => g)
  have I3 := I2.keep (G := fun p => p = r ∨ p < h.length) (KeepN.ofExt E3) (fun _ _ g => g)
  have C3 := C2.ext E3
  have n3 := E3.1
  have E13 := (E1.trans E2).trans E3
  cases hok : redOk L w with
  | false =>
    (conv => whnf)
    (repeat (refine HIf.no ?_; (conv => whnf)))
    refine (spec_l5Word _ r _ _ L 5 C3 (R3.more (fun _ _ g => Or.inl g)) S.sz.1 (by omega)).mono ?_
    rintro v h4 ⟨u, t, q, rfl, K4, C4, hq, O4, ht⟩
    (conv => whnf)
    exact ⟨_, _, _, _, _, _, rfl, KeepN.ext K4 (fun p e => by omega) E13, fr (kp R3 K4), fi (ki I3 K4), fo (by omega) O4, S, by omega, by omega⟩
  | true =>
    obtain ⟨tl, htl⟩ := reduced_head hok
    have hsz := reducedWords_size L w
    have hin15 : ∀ i, i < (reducedWords L w).length → ((reducedWords L w).getD i []).length ≤ 15 := fun i hi => by
      have hm := getD_mem hi
      have h2 := hok
      simp only [redOk, Bool.and_eq_true, decide_eq_true_eq] at h2
      obtain ⟨P, hn, R⟩ := normF_red h2.1
      rw [reducedWords_on hok] at hm ⊢
      have := ((spell_mem (word_cartan h2.1).1 _ _ P (by omega) _).1 hm).1
      omega
    have hne : 0 < (reducedWords L w).length := by rw [htl]; simp
    generalize reducedWords L w = M at *
    obtain ⟨rm, ρ, rfl, g1, g2, g3, m⟩ := O3
    (conv => whnf)
    (repeat (refine HIf.yes ?_; (conv => whnf)))
    refine (spec_l1Once _ r _ 6 C3 (by omega)).mono ?_
    rintro v h4 ⟨b, rfl, K4, C4⟩
    have R4 := kp R3 K4
    have I4 := ki I3 K4
    have m4 := m.keep K4 (by omega) (fun k hk => by have := g3 k hk; omega)
    have n4 := K4.1
    cases b with
    | true =>
      (conv => whnf)
      (repeat (first | (refine HIf.yes ?_; (conv => whnf)) | (refine HIf.no ?_; (conv => whnf))))
      refine (spec_l5Word _ r _ _ L 5 C4 (R4.more (fun _ _ g => Or.inl g)) S.sz.1 (by omega)).mono ?_
      rintro v h5 ⟨u, t, q, rfl, K5, C5, hq, O5, ht⟩
      (conv => whnf)
      exact ⟨_, _, _, _, _, _, rfl, KeepN.ext (K4.then K5) (fun p e => by omega) E13, fr (kp R4 K5), fi (ki I4 K5), fo (by omega) O5, S, by omega, by omega⟩
    | false =>
      (conv => whnf)
      (repeat (first | (refine HIf.yes ?_; (conv => whnf)) | (refine HIf.no ?_; (conv => whnf))))
      refine ⟨rfl, m4.rows.len ?_⟩
      (conv => whnf)
      refine (spec_l1Below _ r _ _ C4 (by omega)).mono ?_
      rintro v h5 ⟨a, rfl, a0, a1, _, K5, C5⟩
      obtain ⟨a, rfl⟩ : ∃ k : Nat, a = k := ⟨a.toNat, by omega⟩
      have ha : a < M.length := by have := a1 (by omega); omega
      have R5 := kp R4 K5
      have m5 := m4.keep K5 (by omega) (fun k hk => by have := g3 k hk; omega)
      have n5 := K5.1
      (conv => whnf)
      refine ⟨rfl, m5.idx ha (fun p hp => ?_)⟩
      (conv => whnf)
      refine ⟨rfl, hp.load ?_⟩
      (conv => whnf)
      refine Or.inr (Or.inr (Or.inr (Exists.intro [0, 1, 2, 3, 4] (Exists.intro (Tr.one 5 (Tr.one 6 (Tr.two 7 (Tr.two 8 (Tr.one 9 (Tr.one 10 (Tr.one 11 Tr.done))) 9 (Tr.two 8 (Tr.one 10 (Tr.one 11 Tr.done)) 10 (Tr.one 8 (Tr.one 11 Tr.done)))) 9 (Tr.two 7 (Tr.two 8 (Tr.one 10 (Tr.one 11 Tr.done)) 10 (Tr.one 8 (Tr.one 11 Tr.done))) 10 (Tr.one 7 (Tr.one 8 (Tr.one 11 Tr.done))))))) (And.intro (show treeAll _ _ _ = true by kernel_rfl) ?_))))); (conv => whnf)
      refine ⟨rfl, m5.rows.len ?_⟩
      (conv => whnf)
      refine (spec_l1Below _ r _ _ C5 (by omega)).mono ?_
      rintro v h6 ⟨b, rfl, b0, b1, _, K6, C6⟩
      obtain ⟨b, rfl⟩ : ∃ k : Nat, b = k := ⟨b.toNat, by omega⟩
      have hb : b < M.length := by have := b1 (by omega); omega
      have R6 := kp R5 K6
      have m6 := m5.keep K6 (by omega) (fun k hk => by have := g3 k hk; omega)
      (conv => whnf)
      (repeat' (first
        | (refine ⟨rfl, m6.idx hb (fun p2 hp2 => ?_)⟩; (conv => whnf))
        | (refine ⟨rfl, hp2.load ?_⟩; (conv => whnf))
        | (refine And.intro ?_ ?_ <;> (conv => whnf))))
      all_goals exact ⟨_, _, _, _, _, _, rfl, KeepN.ext ((K4.then K5).then K6) (fun p e => by omega) E13, fr R6, fo (by have := g3 a ha; omega) (m6.inner' ha), fo (by have := g3 b hb; omega) (m6.inner' hb), S, hin15 a ha, hin15 b hb⟩

theorem spec_DrawApplyBraids (h : Heap) (y : H0) (l : List Int) (hy : Bytes h y l) : HCalls dm Try.prog 20 [.s y] h (fun v h' => ∃ x L z w u t, v = .tup [x, z, u] ∧ Ext h h' ∧ Rows h' x L ∧ Ints h' z w ∧ Ints h' u t ∧ Small L ∧ w.length ≤ 15 ∧ t.length ≤ 121) := by
  refine calls_of_hFun (m := 0) kd_ok mixed Try.func20 rfl (by kernel_rfl) rfl rfl (of_decide_eq_true rfl) ?_; unfold hFun; (conv => whnf)
  refine (spec_l1New _ _ _ hy).mono ?_
  rintro v h1 ⟨c, r, rfl, E1, hr, C1⟩
  have r1 := C1.lt
  (conv => whnf)
  refine (spec_DrawBraidPath _ _ _ (hy.ext E1)).mono ?_
  rintro v h2 ⟨x, L, z, w, u, t, rfl, E2, R2, I2, J2, S, hw, ht⟩
  replace R2 : RowsN (fun p => p = r) h2 x L := R2.more (fun p hp g => by omega)
  replace I2 : IntsN (fun p => p = r) h2 z w := ⟨I2.1, fun q o n e g => I2.2 q o n e (by have g : q = r := g; show q < h1.length; omega)⟩
  have C2 := C1.ext E2
  have n2 := E2.1
  (conv => whnf)
  refine (spec_BraidPath _ _ _ _ _ _ _ R2.rows I2.1 J2.1 S.sz (by omega) (by omega)).mono ?_
  rintro v h3 ⟨y3, rfl, f3⟩
  have hpl := bpPath_len L w t
  obtain ⟨q, hq, O3⟩ := f3.row
  generalize bpPath L w t = P at *
  generalize bpOk L w t = ok at *
  have E3 := f3.1
  have R3 := R2.keep (G := fun p => p = r) (KeepN.ofExt E3) (fun _ _ g => g)
  have I3 := I2.keep (G := fun p => p = r) (KeepN.ofExt E3) (fun _ _ g => g)
  have C3 := C2.ext E3
  have n3 := E3.1
  have E13 := (E1.trans E2).trans E3
  (conv => whnf)
  refine (spec_l1Once _ r _ 4 C3 (by omega)).mono ?_
  rintro v h4 ⟨b, rfl, K4, C4⟩
  have R4 := R3.keep K4 (fun _ _ g => g)
  have I4 := I3.keep K4 (fun _ _ g => g)
  have O4 := O3.keep K4 (by omega)
  have n4 := K4.1
  (conv => whnf)
  refine HIf.split (fun hb => ?_) (fun hb => ?_)
  · (conv => whnf)
    refine (spec_l1Below _ r _ 5 C4 (by omega)).mono ?_
    rintro v h5 ⟨m, rfl, m0, m1, _, K5, C5⟩
    have m1 := m1 (by omega)
    have R5 := R4.keep K5 (fun _ _ g => g)
    have I5 := I4.keep K5 (fun _ _ g => g)
    have O5 := O4.keep K5 (by omega)
    have n5 := K5.1
    have hIz : ∀ p o n, z = .sl p o n → p < h2.length := fun p o n e => by
      have := I2.1
      subst e
      exact Shows.in_lt this
    have RQ : RowsN (fun p => p = r ∨ p = q) h2 x L := R2.more (fun p hp g => by omega)
    have IQ : IntsN (fun p => p = r ∨ p = q) h2 z w := ⟨I2.1, fun p o n e g => by
      have g : p = r ∨ p = q := g
      have := hIz p o n e
      rcases g with g | g
      · exact I2.2 p o n e g
      · omega⟩
    have K35 : KeepN (fun p => p = r ∨ p = q) h2 h5 := ⟨by omega, fun p hp hn => by
      have e1 := E3.2 p hp
      have e2 := K4.2 p (by omega) (fun e => hn (Or.inl e))
      have e3 := K5.2 p (by omega) (fun e => hn (Or.inl e))
      rw [e3, e2, e1]⟩
    replace RQ := RQ.keep (G := fun p => p = r ∨ p = q) K35 (fun _ _ g => g)
    replace IQ := IQ.keep (G := fun p => p = r ∨ p = q) K35 (fun _ _ g => g)
    (conv => whnf)
    refine HArith.fits (by omega) (by omega) ?_
    (conv => whnf)
    refine HLit.one ?_
    (conv => whnf)
    refine ⟨rfl, rfl, HApp.snocR O5 (by omega) (fun h6 r6 y6 B6 hr6 O6 => ?_)⟩
    have B6' : KeepN (fun p => p = r ∨ p = q) h5 h6 := KeepN.weaken (F := fun p => p = q) B6 (fun p e => Or.inr e)
    (conv => whnf)
    exact ⟨_, _, _, _, _, _, rfl, KeepN.ext (F := fun p => p = q) B6 (fun p e => by omega) (KeepN.ext (K4.then K5) (fun p e => by omega) E13), (RQ.keep B6' (fun _ _ g => g)).rows, (IQ.keep B6' (fun _ _ g => g)).1, O6.ints, S, hw, by rw [List.length_append, List.length_cons, List.length_nil]; omega⟩
  · (conv => whnf)
    exact ⟨_, _, _, _, _, _, rfl, KeepN.ext K4 (fun p e => by omega) E13, R4.rows, I4.1, O4.ints, S, hw, by omega⟩

end Go.Proofs.Ytjgnnjegaedinaa.Hx

namespace Go.Proofs.Ytjgnnjegaedinaa.Hx
open Go.RowKit
variable {dm : Bool}

theorem red_isReduced {c : List (List Int)} {n : Nat} {v x : List Int} (hC : Cartan c) (P : PlayL c n v) (hn : n ≤ 15) (R : Red c n v x) : isReduced c x = true := by
  have P2 : PlayL c n (imageOf c x) := by rw [R.2.2]; exact P
  have := normF_play hC P2 (by omega)
  simp only [isReduced, isWord, Bool.and_eq_true, decide_eq_true_eq]
  exact ⟨⟨⟨(isCartan_iff c).2 hC, by rw [R.1]; exact hn⟩, R.2.1⟩, by rw [this, R.1]⟩

/-- Every reduced word: it is one, it is the element's, and a path of braid moves leads to it. -/
theorem red_words {c : List (List Int)} {u : List Int} (h : redOk c u = true) {i : Nat} (hi : i < (reducedWords c u).length) :
    isReduced c ((reducedWords c u).getD i []) = true ∧ areSame c ((reducedWords c u).getD i []) u = true ∧
      bpOk c ((reducedWords c u).getD 0 []) ((reducedWords c u).getD i []) = true ∧ apOk c ((reducedWords c u).getD 0 []) (bpPath c ((reducedWords c u).getD 0 []) ((reducedWords c u).getD i [])) = true ∧
      apW c ((reducedWords c u).getD 0 []) (bpPath c ((reducedWords c u).getD 0 []) ((reducedWords c u).getD i [])) = (reducedWords c u).getD i [] ∧ ((reducedWords c u).getD i []).length ≤ 15 := by
  have h2 := h
  simp only [redOk, Bool.and_eq_true, decide_eq_true_eq] at h2
  obtain ⟨hu, hl⟩ := h2
  obtain ⟨P, hn, R⟩ := normF_red hu
  obtain ⟨hC, hul, hule⟩ := word_cartan hu
  have hmi := getD_mem hi
  have hm0 := getD_mem (show 0 < (reducedWords c u).length by omega)
  rw [reducedWords_on h] at hmi hm0 ⊢
  have Ri := (spell_mem hC _ _ P (by omega) _).1 hmi
  have R0 := (spell_mem hC _ _ P (by omega) _).1 hm0
  have hi1 := red_isReduced hC P hn Ri
  have h01 := red_isReduced hC P hn R0
  have hwi := isRed_word hi1
  have hw0 := isRed_word h01
  generalize (redAll c u).getD i [] = b at *
  generalize (redAll c u).getD 0 [] = a at *
  obtain ⟨p, hp1, hp2⟩ := bp_found hC P hn R0 Ri hl 121 0 [a] [[]] rfl (by simp) ⟨fun q hq => by
    obtain rfl : q = a := by simpa using hq
    exact R0, by simp, by simp⟩ rfl (fun i hi => by
    have : i = 0 := by simp at hi; omega
    subst this
    rfl) (fun j hj => by omega) (fun j hj => by omega)
  obtain ⟨g1, g2⟩ := bp_on h01 hi1 hp1
  refine ⟨hi1, ?_, g1, ?_, ?_, by rw [Ri.1]; exact hn⟩
  · simp only [areSame, Bool.and_eq_true, decide_eq_true_eq]
    exact ⟨⟨hwi, hu⟩, Ri.2.2⟩
  · rw [g2]
    simp [apOk, hw0, hp2]
  · rw [g2]
    simp [apW, hp2]


theorem laws_sameWords (h : Heap) (x y : H0) (L M : List (List Int)) (hx : Rows h x L) (hy : Rows h y M) (hL : L = M) (hs : L.length ≤ 1048576 ∧ tot L ≤ 1048576) : HCalls dm Try.prog 14 [.s x, .s y] h (fun r h' => r = B true ∧ h' = h) := by
  subst hL
  refine calls_of_hFun (m := 0) kd_ok mixed Try.func14 rfl (by kernel_rfl) rfl rfl (of_decide_eq_true rfl) ?_; unfold hFun; (conv => whnf)
  refine ⟨rfl, hx.len ?_⟩
  (conv => whnf)
  refine ⟨rfl, hy.len ?_⟩
  (conv => whnf)
  refine HIf.bneF rfl ?_
  (conv => whnf)
  refine HLoop.intro [5] [11, 12, 13, 14, 17, 18, 19, 20, 21, 22, 23, 24, 25, 26, 4, 15, 16, 5] (by kernel_rfl) (by kernel_rfl) (fun vs h' => ∃ i : Nat, vs = [I i] ∧ h' = h ∧ i ≤ L.length) (fun vs _ => L.length - natAt vs 0) ⟨0, rfl, rfl, by omega⟩ ?_
  rintro vs h' ⟨i, rfl, hh, hi⟩
  subst h'
  (conv => whnf)
  refine ⟨rfl, hx.len ?_⟩
  (conv => whnf)
  refine HIf.dec (fun hlt => ?_) (fun hge => ?_)
  · have hle := len_le_tot (L := L) (i := i) (by omega)
    (conv => whnf)
    refine Or.inl (And.intro (show Region.lexB _ _ = true by kernel_rfl) ?_); (conv => whnf)
    refine ⟨rfl, Rows.idxN hx (by omega) (fun p z hp hz => ?_)⟩
    (conv => whnf)
    refine ⟨rfl, hp.load ?_⟩
    (conv => whnf)
    refine ⟨rfl, Rows.idxN hy (by omega) (fun p2 z2 hp2 hz2 => ?_)⟩
    (conv => whnf)
    refine ⟨rfl, hp2.load ?_⟩
    (conv => whnf)
    refine HCallQ.of (.bool (decide (L.getD i [] = L.getD i []))) (laws_sameInts _ _ _ _ _ hz.frz hz2.frz (by omega)) (fun x h' r => r.1) ?_
    rw [decide_eq_true rfl]
    (conv => whnf)
    refine HIf.no ?_
    (conv => whnf)
    refine HArith.fits (by omega) (by omega) ?_
    (conv => whnf)
    exact ⟨⟨i + 1, rfl, rfl, by omega⟩, by show L.length - (i + 1) < L.length - i; omega⟩
  · (conv => whnf)
    exact ⟨rfl, rfl⟩

end Go.Proofs.Ytjgnnjegaedinaa.Hx
