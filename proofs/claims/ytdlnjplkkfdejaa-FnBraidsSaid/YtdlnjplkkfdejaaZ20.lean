/-
  The contract of BraidPath of the program.
  The reference's draws: a cursor over bytes (a struct behind a pointer), and what it draws: numbers, one of some numbers, one of some texts.
-/
import Derived.Test.YtdlnjplkkfdejaaZ19
import Derived.Laws.Strings
namespace Go.Proofs.Ytdlnjplkkfdejaa.Hx
open Go.RowKit

def bpCells (N : Nat) (ρ : Nat → Nat) (f : Nat → Int × Int) (n : Nat) : List H0 := (List.range n).flatMap fun i => [.sl (ρ i) 0 N, ci (f i).1, ci (f i).2]
theorem bpCells_succ (N : Nat) (ρ : Nat → Nat) (f : Nat → Int × Int) (n : Nat) : bpCells N ρ f (n + 1) = bpCells N ρ f n ++ [.sl (ρ n) 0 N, ci (f n).1, ci (f n).2] := by
  unfold bpCells
  rw [List.range_succ, List.flatMap_append]
  simp
theorem bpCells_length (N : Nat) (ρ : Nat → Nat) (f : Nat → Int × Int) : ∀ n, (bpCells N ρ f n).length = 3 * n
  | 0 => rfl
  | n + 1 => by
    rw [bpCells_succ, List.length_append, bpCells_length N ρ f n]
    simp
    omega
theorem bpCells_get (N : Nat) (ρ : Nat → Nat) (f : Nat → Int × Int) {n i : Nat} (hi : i < n) : (bpCells N ρ f n)[0 + 3 * i + 0]? = some (.sl (ρ i) 0 N) ∧ (bpCells N ρ f n)[0 + 3 * i + 1]? = some (ci (f i).1) ∧ (bpCells N ρ f n)[0 + 3 * i + 2]? = some (ci (f i).2) := by
  induction n with
  | zero => omega
  | succ n ih =>
    have hl := bpCells_length N ρ f n
    rw [bpCells_succ]
    by_cases h : i < n
    · rw [List.getElem?_append_left (by omega), List.getElem?_append_left (by omega), List.getElem?_append_left (by omega)]
      exact ih h
    · have : i = n := by omega
      subst this
      rw [List.getElem?_append_right (by omega), List.getElem?_append_right (by omega), List.getElem?_append_right (by omega), hl]
      have e0 : 0 + 3 * i + 0 - 3 * i = 0 := by omega
      have e1 : 0 + 3 * i + 1 - 3 * i = 1 := by omega
      have e2 : 0 + 3 * i + 2 - 3 * i = 2 := by omega
      rw [e0, e1, e2]
      exact ⟨rfl, rfl, rfl⟩
theorem bpCells_congr {N : Nat} {ρ ρ' : Nat → Nat} {f f' : Nat → Int × Int} : ∀ {n : Nat}, (∀ i, i < n → ρ i = ρ' i ∧ f i = f' i) → bpCells N ρ f n = bpCells N ρ' f' n
  | 0, _ => rfl
  | n + 1, h => by
    rw [bpCells_succ, bpCells_succ, bpCells_congr (n := n) (fun i hi => h i (by omega)), (h n (by omega)).1, (h n (by omega)).2]

/-- The program's memory while it searches: the map of the words' texts in row m, the list of steps in row q. -/
structure Bps (b m q N : Nat) (ρ : Nat → Nat) (f : Nat → Int × Int) (Q P : List (List Int)) (h : Heap) : Prop where
  mp : ∃ ks, h[m]? = some (.keys true ks) ∧ ∀ k, k ∈ ks ↔ ∃ l ∈ Q, k = .str (fmtW l)
  ls : h[q]? = some (.own (bpCells N ρ f Q.length))
  rt : ∀ i, i < Q.length → (Q.getD i []).length = N ∧ ∃ t, h[ρ i]? = some (.own ((Q.getD i []).map ci ++ t))
  nq : ∀ i, i < Q.length → ρ i ≠ q ∧ ρ i ≠ m
  qm : q ≠ m
  low : b ≤ m ∧ b ≤ q
  lk : ∀ i, i < Q.length → ((f i).1 = -1 ∧ P.getD i [] = []) ∨ ∃ j : Nat, j < i ∧ (f i).1 = j ∧ P.getD i [] = P.getD j [] ++ [(f i).2]

theorem Bps.keep {b m q N : Nat} {ρ : Nat → Nat} {f : Nat → Int × Int} {Q P : List (List Int)} {h h' : Heap} (S : Bps b m q N ρ f Q P h) (k : ∀ z x, h[z]? = some x → z = m ∨ z = q ∨ (∃ i, i < Q.length ∧ z = ρ i) → h'[z]? = some x) : Bps b m q N ρ f Q P h' := by
  obtain ⟨ks, k1, k2⟩ := S.mp
  exact ⟨⟨ks, k _ _ k1 (Or.inl rfl), k2⟩, k _ _ S.ls (Or.inr (Or.inl rfl)), fun i hi => by
    obtain ⟨e, t, g⟩ := S.rt i hi
    exact ⟨e, t, k _ _ g (Or.inr (Or.inr ⟨i, hi, rfl⟩))⟩, S.nq, S.qm, S.low, S.lk⟩
theorem Bps.ext {b m q N : Nat} {ρ : Nat → Nat} {f : Nat → Int × Int} {Q P : List (List Int)} {h h' : Heap} (S : Bps b m q N ρ f Q P h) (E : Ext h h') : Bps b m q N ρ f Q P h' := S.keep fun _ _ g _ => E.row g
theorem Bps.but {b m q N r : Nat} {ρ : Nat → Nat} {f : Nat → Int × Int} {Q P : List (List Int)} {h h' : Heap} (S : Bps b m q N ρ f Q P h) (B : But r h h') (hr : r ≠ m ∧ r ≠ q ∧ ∀ i, i < Q.length → r ≠ ρ i) : Bps b m q N ρ f Q P h' := S.keep fun z x g hz => by
  rw [B.2 z (get_lt g) (by
    rcases hz with rfl | rfl | ⟨i, hi, rfl⟩
    · exact Ne.symm hr.1
    · exact Ne.symm hr.2.1
    · exact Ne.symm (hr.2.2 i hi))]
  exact g
theorem Bps.ints {b m q N : Nat} {ρ : Nat → Nat} {f : Nat → Int × Int} {Q P : List (List Int)} {h : Heap} (S : Bps b m q N ρ f Q P h) {i : Nat} (hi : i < Q.length) : Ints h (.sl (ρ i) 0 N) (Q.getD i []) := by
  obtain ⟨e, t, g⟩ := S.rt i hi
  have := Ints.ofOwn g
  rwa [e] at this
theorem Bps.lt {b m q N : Nat} {ρ : Nat → Nat} {f : Nat → Int × Int} {Q P : List (List Int)} {h : Heap} (S : Bps b m q N ρ f Q P h) : m < h.length ∧ q < h.length ∧ ∀ i, i < Q.length → ρ i < h.length := by
  obtain ⟨ks, k1, _⟩ := S.mp
  exact ⟨get_lt k1, get_lt S.ls, fun i hi => by obtain ⟨_, t, g⟩ := S.rt i hi; exact get_lt g⟩
theorem Bps.at0 {b m q N : Nat} {ρ : Nat → Nat} {f : Nat → Int × Int} {Q P : List (List Int)} {h : Heap} (S : Bps b m q N ρ f Q P h) {i : Nat} (hi : i < Q.length) : At h (.ptr q (0 + 3 * i + 0)) (.sl (ρ i) 0 N) ∧ At h (.ptr q (0 + 3 * i + 1)) (ci (f i).1) ∧ At h (.ptr q (0 + 3 * i + 2)) (ci (f i).2) := by
  obtain ⟨g0, g1, g2⟩ := bpCells_get N ρ f hi
  exact ⟨⟨q, _, _, _, rfl, S.ls, rfl, g0⟩, ⟨q, _, _, _, rfl, S.ls, rfl, g1⟩, ⟨q, _, _, _, rfl, S.ls, rfl, g2⟩⟩

/-- One more step: the memory after the map, the step and the longer list are written. -/
theorem Bps.add {b m q N a : Nat} {ρ : Nat → Nat} {f : Nat → Int × Int} {Q P : List (List Int)} {h : Heap} (S : Bps b m q N ρ f Q P h) {ks : List Key} (hk2 : ∀ k, k ∈ ks ↔ ∃ l ∈ Q, k = .str (fmtW l)) {l : List Int} {t : List H0} (ha : h[a]? = some (.own (l.map ci ++ t))) (hl : l.length = N) (haq : a ≠ q) (ham : a ≠ m) (hPl : P.length = Q.length) {k : Nat} (hk : k < Q.length) (pl : Int) :
    ∃ h', h' = ((h.set m (.keys true (.str (fmtW l) :: ks)) ++ [Row.own [.sl a 0 N, ci k, ci pl]]).set q .gone ++ [Row.own (bpCells N ρ f Q.length ++ [.sl a 0 N, ci k, ci pl])]) ∧ KeepN (fun z => z = m ∨ z = q) h h' ∧
      Bps b m (h.length + 1) N (fun i => if i = Q.length then a else ρ i) (fun i => if i = Q.length then ((k : Int), pl) else f i) (Q ++ [l]) (P ++ [P.getD k [] ++ [pl]]) h' := by
  refine ⟨_, rfl, ?_⟩
  have hlt := S.lt
  have hqm := S.qm
  have halt := get_lt ha
  have hL : ((h.set m (.keys true (.str (fmtW l) :: ks)) ++ [Row.own [.sl a 0 N, ci k, ci pl]]).set q .gone).length = h.length + 1 := by simp
  have same : ∀ z, z < h.length → z ≠ m → z ≠ q → ((h.set m (.keys true (.str (fmtW l) :: ks)) ++ [Row.own [.sl a 0 N, ci k, ci pl]]).set q .gone ++ [Row.own (bpCells N ρ f Q.length ++ [.sl a 0 N, ci k, ci pl])])[z]? = h[z]? := fun z hz n1 n2 => by
    rw [List.getElem?_append_left (by omega), List.getElem?_set_ne (Ne.symm n2), List.getElem?_append_left (by rw [List.length_set]; exact hz), List.getElem?_set_ne (Ne.symm n1)]
  have gm : ((h.set m (.keys true (.str (fmtW l) :: ks)) ++ [Row.own [.sl a 0 N, ci k, ci pl]]).set q .gone ++ [Row.own (bpCells N ρ f Q.length ++ [.sl a 0 N, ci k, ci pl])])[m]? = some (.keys true (.str (fmtW l) :: ks)) := by
    rw [List.getElem?_append_left (by omega), List.getElem?_set_ne hqm, List.getElem?_append_left (by rw [List.length_set]; exact hlt.1), List.getElem?_set_self hlt.1]
  have gq : ((h.set m (.keys true (.str (fmtW l) :: ks)) ++ [Row.own [.sl a 0 N, ci k, ci pl]]).set q .gone ++ [Row.own (bpCells N ρ f Q.length ++ [.sl a 0 N, ci k, ci pl])])[h.length + 1]? = some (.own (bpCells N ρ f Q.length ++ [.sl a 0 N, ci k, ci pl])) := by
    rw [← hL]
    exact get_new _ _
  have hlen : ((h.set m (.keys true (.str (fmtW l) :: ks)) ++ [Row.own [.sl a 0 N, ci k, ci pl]]).set q .gone ++ [Row.own (bpCells N ρ f Q.length ++ [.sl a 0 N, ci k, ci pl])]).length = h.length + 2 := by simp
  generalize (h.set m (.keys true (.str (fmtW l) :: ks)) ++ [Row.own [.sl a 0 N, ci k, ci pl]]).set q .gone ++ [Row.own (bpCells N ρ f Q.length ++ [.sl a 0 N, ci k, ci pl])] = h2 at *
  refine ⟨⟨by omega, fun z hz hn => same z hz (fun e => hn (Or.inl e)) (fun e => hn (Or.inr e))⟩, ⟨_, gm, fun key => ?_⟩, ?_, fun i hi => ?_, fun i hi => ?_, by omega, ⟨S.low.1, by have := S.low; omega⟩, fun i hi => ?_⟩
  · rw [List.mem_cons, hk2]
    constructor
    · rintro (e | ⟨l2, h2, e⟩)
      · exact ⟨l, by simp, e⟩
      · exact ⟨l2, by simp [h2], e⟩
    · rintro ⟨l2, h2, e⟩
      rcases List.mem_append.1 h2 with h2 | h2
      · exact Or.inr ⟨l2, h2, e⟩
      · obtain rfl : l2 = l := by simpa using h2
        exact Or.inl e
  · have e : (Q ++ [l]).length = Q.length + 1 := by simp
    rw [e, bpCells_succ, gq]
    simp only [if_true]
    rw [bpCells_congr (N := N) (n := Q.length) (ρ := fun i => if i = Q.length then a else ρ i) (f := fun i => if i = Q.length then ((k : Int), pl) else f i) (ρ' := ρ) (f' := f) (fun i hi => ⟨if_neg (Nat.ne_of_lt hi), if_neg (Nat.ne_of_lt hi)⟩)]
  · by_cases e : i < Q.length
    · obtain ⟨e1, t1, g1⟩ := S.rt i e
      have hnq := S.nq i e
      rw [getD_app e]
      simp only [if_neg (Nat.ne_of_lt e)]
      exact ⟨e1, t1, by rw [same _ (get_lt g1) hnq.2 hnq.1]; exact g1⟩
    · have ei : i = Q.length := by simp at hi; omega
      subst ei
      rw [getD_snoc]
      simp only [if_true]
      exact ⟨hl, t, by rw [same _ halt ham haq]; exact ha⟩
  · by_cases e : i < Q.length
    · have hnq := S.nq i e
      have := hlt.2.2 i e
      simp only [if_neg (Nat.ne_of_lt e)]
      exact ⟨by omega, hnq.2⟩
    · have ei : i = Q.length := by simp at hi; omega
      subst ei
      simp only [if_true]
      exact ⟨by omega, ham⟩
  · by_cases e : i < Q.length
    · simp only [if_neg (Nat.ne_of_lt e)]
      rw [getD_app (by omega)]
      rcases S.lk i e with g | ⟨j, j1, j2, j3⟩
      · exact Or.inl g
      · exact Or.inr ⟨j, j1, j2, by rw [j3, getD_app (by omega)]⟩
    · have ei : i = Q.length := by simp at hi; omega
      subst ei
      simp only [if_true]
      refine Or.inr ⟨k, hk, rfl, ?_⟩
      rw [← hPl, getD_snoc, getD_app (by omega)]

theorem Bps.first {h0 h : Heap} {r : Nat} {a : List Int} {t : List H0} (hr : h[r]? = some (.own (a.map ci ++ t))) {m q : Nat} (hq : h[q]? = some (.own [.sl r 0 a.length, ci (-1), ci 0])) (hm : h[m]? = some (.keys true [.str (fmtW a)])) (hmq : m ≠ q) (hrq : r ≠ q) (hb : h0.length ≤ m ∧ h0.length ≤ q) :
    Bps h0.length m q a.length (fun _ => r) (fun _ => (-1, 0)) [a] [[]] h := by
  refine ⟨⟨_, hm, fun k => by simp⟩, hq, fun i hi => ?_, fun i _ => ⟨hrq, fun e => ?_⟩, Ne.symm hmq, hb, fun i hi => Or.inl ⟨rfl, ?_⟩⟩
  · have : i = 0 := by simp at hi; omega
    subst this
    exact ⟨rfl, t, hr⟩
  · have e : r = m := e
    rw [e, hm] at hr
    cases hr
  · have : i = 0 := by simp at hi; omega
    subst this
    rfl

set_option smartUnfolding false

set_option maxHeartbeats 4000000 in
theorem impl_BraidPath (h : Heap) (x0 : H0) (a0 : List (List Int)) (x1 : H0) (a1 : List Int) (x2 : H0) (a2 : List Int) (hx0 : Rows h x0 a0) (hx1 : Ints h x1 a1) (hx2 : Ints h x2 a2) (s0 : a0.length ≤ 1048576 ∧ tot a0 ≤ 1048576) (s1 : a1.length ≤ 1048576) (s2 : a2.length ≤ 1048576) :
    HCalls Try.prog 35 [.s x0, .s x1, .s x2] h (fun r h' => ∃ y, r = T2 y (bpOk a0 a1 a2) ∧ Fresh h h' y (bpPath a0 a1 a2)) := by
  obtain ⟨V, hV⟩ : ∃ V, V = bpOk a0 a1 a2 := ⟨_, rfl⟩
  obtain ⟨W, hW⟩ : ∃ W, W = bpPath a0 a1 a2 := ⟨_, rfl⟩
  rw [← hV, ← hW]
  refine calls_of_hFun (m := 0) kd_ok mixed Try.func35 rfl (by kernel_rfl) rfl rfl (of_decide_eq_true rfl) ?_; unfold hFun; (conv => whnf)
  have bad : ∀ h2, Ext h h2 → bpOk a0 a1 a2 = false ∧ bpPath a0 a1 a2 = [] → V = false ∧ Fresh h (h2 ++ [Row.own []]) (.sl h2.length 0 0) W := fun h2 E hb => by
    rw [hV, hW, hb.1, hb.2]
    exact ⟨rfl, Fresh.of (E.trans (Ext.push _ _)) ((OwnR.push h2 []).own E.1)⟩
  refine (impl_IsReduced _ _ a0 _ a1 hx0 hx1 s0 s1).mono ?_
  rintro r h1 ⟨rfl, E1⟩
  cases hr1 : isReduced a0 a1
  · obtain ⟨g1, g2⟩ := bad h1 E1 (bp_off fun k => by rw [hr1] at k; cases k.1)
    subst g1
    (conv => whnf)
    (repeat (first | (refine HIf.yes ?_; conv => whnf) | (refine HIf.no ?_; conv => whnf)))
    refine HLit.empty ?_
    (conv => whnf)
    exact ⟨_, rfl, g2⟩
  (conv => whnf)
  (repeat (first | (refine HIf.yes ?_; conv => whnf) | (refine HIf.no ?_; conv => whnf)))
  refine (impl_IsReduced _ _ a0 _ a2 (hx0.ext E1) (hx2.ext E1) s0 s2).mono ?_
  rintro r h2 ⟨rfl, E2⟩
  replace E2 := E1.trans E2
  cases hr2 : isReduced a0 a2
  · obtain ⟨g1, g2⟩ := bad h2 E2 (bp_off fun k => by rw [hr2] at k; cases k.2)
    subst g1
    (conv => whnf)
    (repeat (first | (refine HIf.yes ?_; conv => whnf) | (refine HIf.no ?_; conv => whnf)))
    refine HLit.empty ?_
    (conv => whnf)
    exact ⟨_, rfl, g2⟩
  have hw1 := isRed_word hr1
  obtain ⟨hC, hl1, hle1⟩ := word_cartan hw1
  have hres : ∀ {r : Bool × List Int}, bpOut a0 a2 121 0 ([a1], [[]]) = r → V = r.1 ∧ W = r.2 := fun {r} e => by
    rw [hV, hW]
    exact bp_on hr1 hr2 e
  (conv => whnf)
  (repeat (first | (refine HIf.yes ?_; conv => whnf) | (refine HIf.no ?_; conv => whnf)))
  have B0 := BpS.start a0 a1 hle1
  have hsm1 := small4 hC (B0.red a1 (by simp))
  refine HLit.empty ?_
  (conv => whnf)
  refine ⟨rfl, rfl, HApp.moreR (OwnR.push h2 []) ((hx1.ext E2).ext (Ext.push _ _)) (by rw [List.length_nil]; omega) (fun h3 r3 y3 B3 hr3 O3 => ?_)⟩
  rw [List.nil_append] at O3
  have E3 := E2.trans ((Ext.push h2 [Row.own []]).but B3 (Nat.le_refl _))
  obtain ⟨t3, rfl, g3⟩ := O3
  have hlt3 := get_lt g3
  (conv => whnf)
  have hone3 : ∀ c ∈ [H0.sl r3 0 a1.length, ci (-1), ci 0], c.one = true := fun c hc => by
    simp only [List.mem_cons, List.not_mem_nil, or_false] at hc
    rcases hc with rfl | rfl | rfl <;> rfl
  refine HRec.of (xs := [.sl r3 0 a1.length, ci (-1), ci 0]) (cs := [.sl r3 0 a1.length, ci (-1), ci 0]) hone3 ?_
  (conv => whnf)
  refine HLitW.one' (by decide) rfl hone3 ?_
  (conv => whnf)
  have E4 := Ext.push h3 ([Row.own [H0.sl r3 0 a1.length, ci (-1), ci 0]] ++ [Row.keys true []])
  rw [← List.append_assoc] at E4
  have gq4 : (h3 ++ [Row.own [H0.sl r3 0 a1.length, ci (-1), ci 0]] ++ [Row.keys true []])[h3.length]? = some (.own [H0.sl r3 0 a1.length, ci (-1), ci 0]) := by
    rw [List.getElem?_append_left (by simp)]
    exact get_new _ _
  have gm4 := get_new (h3 ++ [Row.own [H0.sl r3 0 a1.length, ci (-1), ci 0]]) (Row.keys true [])
  have em : (h3 ++ [Row.own [H0.sl r3 0 a1.length, ci (-1), ci 0]]).length = h3.length + 1 := by simp
  rw [em] at gm4
  rw [em]
  generalize h3 ++ [Row.own [H0.sl r3 0 a1.length, ci (-1), ci 0]] ++ [Row.keys true []] = h4 at E4 gq4 gm4 ⊢
  (conv => whnf)
  refine (impl_FormatWord _ _ a1 ((hx1.ext E3).ext E4) hsm1 s1).mono ?_
  rintro rr h5 ⟨rfl, E5⟩
  have gq5 := E5.row gq4
  have gm5 := E5.row gm4
  have gr5 := E5.row (E4.row g3)
  have hmlt := get_lt gm5
  have hl3 := E3.1
  (conv => whnf)
  refine ⟨h3.length + 1, [], .str (fmtW a1), rfl, rfl, gm5, rfl, rfl, by simp, ?_⟩
  have gm6 : (h5.set (h3.length + 1) (Row.keys true [.str (fmtW a1)]))[h3.length + 1]? = some (.keys true [.str (fmtW a1)]) := by rw [List.getElem?_set_self hmlt]
  have gq6 : (h5.set (h3.length + 1) (Row.keys true [.str (fmtW a1)]))[h3.length]? = _ := (List.getElem?_set_ne (by omega)).trans gq5
  have gr6 : (h5.set (h3.length + 1) (Row.keys true [.str (fmtW a1)]))[r3]? = _ := (List.getElem?_set_ne (by omega)).trans gr5
  have E6 : Ext h (h5.set (h3.length + 1) (Row.keys true [.str (fmtW a1)])) := ((E3.trans E4).trans E5).set (by omega) _
  generalize h5.set (h3.length + 1) (Row.keys true [.str (fmtW a1)]) = h6 at gm6 gq6 gr6 E6 ⊢
  have S0 := Bps.first (h0 := h) gr6 gq6 gm6 (by omega) (by omega) ⟨by omega, by omega⟩
  clear gm6 gq6 gr6 gm5 gq5 gr5 E5 E4 gq4 gm4 E3 g3 hmlt hone3 B3 hr3 E2 E1
  generalize h3.length + 1 = m at *
  (conv => whnf)
  refine HLoop.intro [10, 8] [38, 39, 40, 41, 44, 45, 46, 47, 48, 49, 50, 51, 11, 52, 12, 53, 54, 55, 56, 57, 58, 64, 65, 66, 67, 68, 69, 70, 71, 11, 59, 60, 61, 62, 63, 12, 72, 73, 74, 6, 7, 75, 76, 77, 78, 79, 80, 81, 82, 83, 84, 85, 86, 14, 88, 89, 90, 91, 92, 93, 94, 95, 87, 96, 97, 15, 16, 98, 99, 17, 100, 101, 102, 103, 104, 105, 106, 107, 108, 109, 110, 111, 112, 113, 114, 115, 116, 117, 8, 118, 83, 42, 43, 10] (by kernel_rfl) (by kernel_rfl) (fun vs h' => ∃ (k q : Nat) (ρ : Nat → Nat) (f : Nat → Int × Int) (Q P : List (List Int)), vs = [I k, .s (.sw 3 q 0 Q.length)] ∧ k ≤ Q.length ∧ Ext h h' ∧ Bps h.length m q a1.length ρ f Q P h' ∧ BpS a0 a1.length (imageOf a0 a1) Q P ∧ bpOut a0 a2 (121 - k) k (Q, P) = bpOut a0 a2 121 0 ([a1], [[]])) (fun vs _ => 121 - natAt vs 0) ⟨0, _, _, _, [a1], [[]], rfl, by omega, E6, S0, B0, rfl⟩ ?_
  clear E6 S0 B0
  rintro vs h' ⟨k, q, ρ, f, Q, P, rfl, hk, E, M, S, hout⟩
  have hfew := S.few
  have hPl := S.len
  (conv => whnf)
  refine HLenW.at' ?_
  (conv => whnf)
  refine HIf.dec (fun hlt => ?_) (fun hge => ?_)
  rotate_left
  · (conv => whnf)
    obtain ⟨g1, g2⟩ := hres (r := (false, [])) (by rw [← hout]; exact bpOut_end (by show ¬ k < Q.length; omega))
    subst g1 g2
    refine HLit.empty ?_
    (conv => whnf)
    exact ⟨_, rfl, Fresh.of (E.trans (Ext.push _ _)) ((OwnR.push h' []).own E.1)⟩
  have hkl : k < Q.length := by omega
  have hkp : k < P.length := by omega
  have hRq := S.red _ (getD_mem hkl)
  have hql : (Q.getD k []).length ≤ 15 := by rw [hRq.1]; exact hl1
  have hpl120 := S.path k hkp
  have efu : 121 - k = (121 - (k + 1)) + 1 := by omega
  rw [efu] at hout
  have eki : ((k : Nat) : Int).toNat = k := by omega
  (conv => whnf)
  refine HIdxW.at' (by omega) (by omega) ?_
  rw [eki]
  (conv => whnf)
  refine HField.at2 (by decide) ?_
  (conv => whnf)
  refine ⟨rfl, (M.at0 hkl).1.load ?_⟩
  (conv => whnf)
  refine (impl_EqualWords _ _ _ _ a2 (M.ints hkl) (hx2.ext E) (by omega)).mono ?_
  rintro v h3' ⟨rfl, hh⟩
  subst h3'
  (conv => whnf)
  refine HIf.dec (fun he => ?_) (fun hne => ?_)
  · (conv => whnf)
    obtain ⟨g1, g2⟩ := hres (r := (true, P.getD k [])) (by rw [← hout]; exact bpOut_hit hkl he)
    subst g1 g2
    refine HLit.empty ?_
    (conv => whnf)
    have hMlt := M.lt
    have hE := E.1
    refine HLoop.intro [12, 11] [53, 54, 55, 56, 57, 58, 64, 65, 66, 67, 68, 69, 70, 71, 11, 59, 60, 61, 62, 63, 12] (by kernel_rfl) (by kernel_rfl) (fun vs h'' => ∃ (i r : Nat) (z : H0) (out : List Int), vs = [I i, .s z] ∧ i ≤ k ∧ Ext h h'' ∧ Bps h.length m q a1.length ρ f Q P h'' ∧ OwnR r h'' z out ∧ h'.length ≤ r ∧ P.getD k [] = P.getD i [] ++ out.reverse) (fun vs _ => natAt vs 0) ⟨k, _, _, [], rfl, Nat.le_refl _, E.trans (Ext.push _ _), M.ext (Ext.push _ _), OwnR.push h' [], Nat.le_refl _, by simp⟩ ?_
    rintro vs h4 ⟨i, r, z, out, rfl, hi, E4, M4, O4, hr4, hout4⟩
    have hil : i < Q.length := by omega
    have eii : ((i : Nat) : Int).toNat = i := by omega
    have holen : out.length ≤ 120 := by
      have := congrArg List.length hout4
      rw [List.length_append, List.length_reverse] at this
      omega
    have hrne : r ≠ m ∧ r ≠ q ∧ ∀ i, i < Q.length → r ≠ ρ i := ⟨by omega, by omega, fun i hi => by have := hMlt.2.2 i hi; omega⟩
    have hlk := M4.lk i hil
    have hat := M4.at0 hil
    generalize hfi : f i = fi at *
    obtain ⟨fa, fp⟩ := fi
    simp only at hlk hat
    (conv => whnf)
    refine HIdxW.at' (by omega) (by omega) ?_
    rw [eii]
    (conv => whnf)
    refine HField.at2 (by decide) ?_
    (conv => whnf)
    refine ⟨rfl, hat.2.1.load ?_⟩
    (conv => whnf)
    rcases hlk with ⟨h1', h2'⟩ | ⟨j, hj, h1', h2'⟩
    · have hneg : ¬ fa ≥ 0 := by omega
      refine HIf.decF hneg ?_
      (conv => whnf)
      refine (lib_Reverse _ r _ out O4 (by omega)).mono ?_
      rintro v h5 ⟨B5, O5⟩
      rw [h2', List.nil_append] at hout4
      (conv => whnf)
      rw [hout4]
      exact ⟨_, rfl, Fresh.ofRow (E4.but B5 (by omega)) O5 (by omega)⟩
    · subst h1'
      have hpos : (j : Int) ≥ 0 := by omega
      refine HIf.decT hpos ?_
      (conv => whnf)
      refine HIdxW.at' (by omega) (by omega) ?_
      rw [eii]
      (conv => whnf)
      refine HField.at2 (by decide) ?_
      (conv => whnf)
      refine ⟨rfl, hat.2.2.load ?_⟩
      (conv => whnf)
      refine HLit.one ?_
      (conv => whnf)
      refine ⟨rfl, rfl, HApp.snocR O4 (by omega) (fun h5 r5 z5 B5 hr5 O5 => ?_)⟩
      have M5 := M4.but B5 hrne
      have hat5 := M5.at0 hil
      rw [hfi] at hat5
      simp only at hat5
      have hl5 := O4.lt
      (conv => whnf)
      refine HIdxW.at' (by omega) (by omega) ?_
      rw [eii]
      (conv => whnf)
      refine HField.at2 (by decide) ?_
      (conv => whnf)
      refine ⟨rfl, hat5.2.1.load ?_⟩
      (conv => whnf)
      exact ⟨⟨j, r5, z5, _, rfl, by omega, E4.but B5 (by omega), M5, O5, by omega, by rw [hout4, h2']; simp⟩, hj⟩
  (conv => whnf)
  refine HIdxW.at' (by omega) (by omega) ?_
  rw [eki]
  (conv => whnf)
  refine HField.at2 (by decide) ?_
  (conv => whnf)
  refine ⟨rfl, (M.at0 hkl).1.load ?_⟩
  (conv => whnf)
  refine (impl_BraidPlaces _ _ a0 _ _ (hx0.ext E) (M.ints hkl) s0 (by omega)).mono ?_
  rintro rr h4 ⟨y4, rfl, f4⟩
  obtain ⟨rp, hrp, Op⟩ := f4.row
  have E4 := E.trans f4.1
  have M4 := M.ext f4.1
  have hMlt := M.lt
  have hpl := brTo_le a0 (Q.getD k []) (Q.getD k []).length
  have hmem : ∀ i : Int, i ∈ brTo a0 (Q.getD k []) (Q.getD k []).length → ∃ t : Nat, i = t ∧ t < (Q.getD k []).length ∧ brOk a0 (Q.getD k []) t = true := fun i hi => mem_brTo.1 hi
  have hnext := bpOut_next (f := 121 - (k + 1)) (b := a2) (c := a0) (S := (Q, P)) hkl hne
  have hall : bpAll a0 (Q, P) k = bpIn a0 (Q.getD k []) (P.getD k []) (Q, P) (brTo a0 (Q.getD k []) (Q.getD k []).length) := rfl
  rw [hall] at hnext
  clear hall
  generalize brTo a0 (Q.getD k []) (Q.getD k []).length = pl at *
  generalize hw : Q.getD k [] = w at *
  generalize hpk : P.getD k [] = pk at *
  (conv => whnf)
  refine ⟨rfl, Op.ints.len ?_⟩
  (conv => whnf)
  refine HLoop.intro [83, 8] [84, 85, 86, 14, 88, 89, 90, 91, 92, 93, 94, 95, 87, 96, 97, 15, 16, 98, 99, 17, 100, 101, 102, 103, 104, 105, 106, 107, 108, 109, 110, 111, 112, 113, 114, 115, 116, 117, 8, 118, 83] (by kernel_rfl) (by kernel_rfl) (fun vs h'' => ∃ (n q : Nat) (ρ : Nat → Nat) (f : Nat → Int × Int) (Q' P' : List (List Int)), vs = [I n, .s (.sw 3 q 0 Q'.length)] ∧ n ≤ pl.length ∧ Ext h h'' ∧ Bps h.length m q a1.length ρ f Q' P' h'' ∧ BpS a0 a1.length (imageOf a0 a1) Q' P' ∧ OwnR rp h'' y4 pl ∧ rp ≠ q ∧ rp ≠ m ∧ (Q', P') = bpIn a0 w pk (Q, P) (pl.take n) ∧ k < Q'.length ∧ Q'.getD k [] = w ∧ P'.getD k [] = pk) (fun vs _ => pl.length - natAt vs 0) ⟨0, q, ρ, f, Q, P, rfl, by omega, E4, M4, S, Op, by omega, by omega, rfl, hkl, hw, hpk⟩ ?_
  clear E4 M4 S Op hrp f4 M E hMlt hkl hkp hw hpk
  rintro vs h4 ⟨n, q, ρ, f, Q', P', rfl, hn, E, M, S, Op, hrp1, hrp2, hstate, hkl, hw, hpk⟩
  have hfew' := S.few
  have hPl' := S.len
  (conv => whnf)
  refine HIf.dec (fun hlt2 => ?_) (fun hge2 => ?_)
  rotate_left
  · have en : n = pl.length := by omega
    subst en
    rw [List.take_length] at hstate
    (conv => whnf)
    refine HArith.fits (by omega) (by omega) ?_
    (conv => whnf)
    exact ⟨⟨k + 1, q, ρ, f, Q', P', rfl, by omega, E, M, S, by rw [hstate, ← hnext]; exact hout⟩, by show 121 - (k + 1) < 121 - k; omega⟩
  have hnl : n < pl.length := by omega
  have hin : pl.getD n 0 ∈ pl := by
    have e : pl.getD n 0 = pl[n] := by simp [List.getD, hnl]
    rw [e]
    exact List.getElem_mem hnl
  obtain ⟨t, et, htq, htok⟩ := hmem _ hin
  have hsn := take_snoc' hnl
  rw [et] at hsn
  have hRw := S.red _ (getD_mem hkl)
  have hMk := M.ints hkl
  rw [hw] at hRw hMk
  have hRb := (br_of_braid htok).red (by omega) hRw
  (conv => whnf)
  refine ⟨rfl, Ints.idxN Op.ints hnl (fun p5 hp5 => ?_)⟩
  rw [et] at hp5
  (conv => whnf)
  refine ⟨rfl, hp5.load ?_⟩
  (conv => whnf)
  refine HIdxW.at' (by omega) (by omega) ?_
  rw [eki]
  (conv => whnf)
  refine HField.at2 (by decide) ?_
  (conv => whnf)
  refine ⟨rfl, (M.at0 hkl).1.load ?_⟩
  (conv => whnf)
  refine (impl_BraidAt0 _ _ a0 _ w (t : Int) (hx0.ext E) hMk s0 (by omega)).mono ?_
  rintro rr h5 ⟨y5, rfl, f5⟩
  obtain ⟨r5, hr5, O5⟩ := f5.row
  have hMlt := M.lt
  (conv => whnf)
  refine (impl_FormatWord _ _ _ f5.ints (small4 hC hRb) (by rw [hRb.1]; omega)).mono ?_
  rintro rr h6 ⟨rfl, E6⟩
  have F6 := f5.1.trans E6
  have E5 := E.trans F6
  have M6 := M.ext F6
  have Op6 := Op.ext F6
  have O6 := O5.ext E6
  have hoplt := Op.lt
  obtain ⟨ks, hm6, hk6⟩ := M6.mp
  have hmemk : Key.str (fmtW (braid a0 w (t : Int))) ∈ ks ↔ braid a0 w (t : Int) ∈ Q' := by
    rw [hk6]
    constructor
    · rintro ⟨l2, h2', e⟩
      have hl2 := S.red l2 h2'
      rw [fmtW_inj (small4 hC hRb) (small4 hC hl2) (by rw [hRb.1, hl2.1]) (Key.str.inj e)]
      exact h2'
    · exact fun e => ⟨_, e, rfl⟩
  have same : ¬ (braid a0 w (t : Int) ∉ Q' ∧ Q'.length < 120) → ∃ (n_1 q_1 : Nat) (ρ_1 : Nat → Nat) (f_1 : Nat → Int × Int) (Q'_1 P'_1 : List (List Int)), [I ((n : Int) + 1), .s (.sw 3 q 0 Q'.length)] = [I n_1, .s (.sw 3 q_1 0 Q'_1.length)] ∧ n_1 ≤ pl.length ∧ Ext h h6 ∧ Bps h.length m q_1 a1.length ρ_1 f_1 Q'_1 P'_1 h6 ∧ BpS a0 a1.length (imageOf a0 a1) Q'_1 P'_1 ∧ OwnR rp h6 y4 pl ∧ rp ≠ q_1 ∧ rp ≠ m ∧ (Q'_1, P'_1) = bpIn a0 w pk (Q, P) (pl.take n_1) ∧ k < Q'_1.length ∧ Q'_1.getD k [] = w ∧ P'_1.getD k [] = pk := fun hno =>
    ⟨n + 1, q, ρ, f, Q', P', rfl, by omega, E5, M6, S, Op6, hrp1, hrp2, by rw [hsn, bpIn_snoc, ← hstate, bpStep_old hno], hkl, hw, hpk⟩
  (conv => whnf)
  refine ⟨m, ks, .str (fmtW (braid a0 w (t : Int))), rfl, hm6, rfl, rfl, ?_⟩
  (conv => whnf)
  by_cases hold : braid a0 w (t : Int) ∈ Q'
  · rw [decide_eq_true (hmemk.2 hold)]
    (repeat (first | (refine HIf.no ?_; (conv => whnf)) | (refine HIf.isF rfl ?_; (conv => whnf))))
    refine HArith.fits (by omega) (by omega) ?_
    (conv => whnf)
    exact ⟨same fun k => k.1 hold, by show pl.length - (n + 1) < pl.length - n; omega⟩
  rw [decide_eq_false (fun k => hold (hmemk.1 k))]
  refine HIf.isT rfl ?_
  (conv => whnf)
  refine HIf.isT rfl ?_
  (conv => whnf)
  refine HLenW.at' ?_
  (conv => whnf)
  refine HIf.isT rfl ?_
  (conv => whnf)
  refine HIf.isT rfl ?_
  (conv => whnf)
  refine HIf.dec (fun hroom => ?_) (fun hfull => ?_)
  rotate_left
  · (conv => whnf)
    refine HArith.fits (by omega) (by omega) ?_
    (conv => whnf)
    exact ⟨same fun k => by omega, by show pl.length - (n + 1) < pl.length - n; omega⟩
  have hroom' : Q'.length < 120 := by omega
  have S2 := S.step (t := t) (by omega) hkl (by rw [hw]; exact htok) hroom'
  obtain ⟨t6, e6, g6⟩ := O6
  rw [hRb.1] at e6
  subst e6
  have hone6 : ∀ c ∈ [H0.sl r5 0 a1.length, ci (k : Int), ci (t : Int)], c.one = true := fun c hc => by
    simp only [List.mem_cons, List.not_mem_nil, or_false] at hc
    rcases hc with rfl | rfl | rfl <;> rfl
  have hadd := M6.add hk6 g6 hRb.1 (by omega) (by omega) hPl' hkl (t : Int)
  rw [hpk] at hadd
  obtain ⟨h7, e7, K7, M7⟩ := hadd
  have hlt6 := M6.lt
  have hF6 := F6.1
  (conv => whnf)
  refine ⟨m, ks, .str (fmtW (braid a0 w (t : Int))), rfl, rfl, hm6, rfl, rfl, fun k => hold (hmemk.1 k), ?_⟩
  (conv => whnf)
  refine HRec.of (xs := [.sl r5 0 a1.length, ci (k : Int), ci (t : Int)]) (cs := [.sl r5 0 a1.length, ci (k : Int), ci (t : Int)]) hone6 ?_
  (conv => whnf)
  refine HLitW.one' (by decide) rfl hone6 ?_
  (conv => whnf)
  refine ⟨rfl, HAppW.snoc' (cs := bpCells a1.length ρ f Q'.length) (xs := [.sl r5 0 a1.length, ci (k : Int), ci (t : Int)]) ?_ (bpCells_length _ _ _ _) (get_new _ _) rfl hone6 (by omega) ?_⟩
  · rw [List.getElem?_append_left (by rw [List.length_set]; omega), List.getElem?_set_ne (Ne.symm M6.qm)]
    exact M6.ls
  have hL : (h6.set m (Row.keys true (Key.str (fmtW (braid a0 w (t : Int))) :: ks)) ++ [Row.own [H0.sl r5 0 a1.length, ci (k : Int), ci (t : Int)]]).length = h6.length + 1 := by simp
  rw [hL, ← e7]
  clear same hmem hmemk hk6
  have hlow6 := M6.low
  have E7 : Ext h h7 := K7.ext (fun z e => by rcases e with rfl | rfl; exact hlow6.1; exact hlow6.2) E5
  have Op7 := Op6.keep K7 (fun e => e.elim hrp2 hrp1)
  (conv => whnf)
  refine HArith.fits (by omega) (by omega) ?_
  (conv => whnf)
  rw [hw, hpk] at S2
  refine ⟨⟨n + 1, h6.length + 1, _, _, _, _, ?_, by omega, E7, M7, S2, Op7, by omega, hrp2, ?_, by rw [List.length_append]; omega, ?_, ?_⟩, by show pl.length - (n + 1) < pl.length - n; omega⟩
  · rw [List.length_append]
    rfl
  · rw [hsn, bpIn_snoc, ← hstate, bpStep_new ⟨hold, hroom'⟩]
  · rw [getD_app hkl]
    exact hw
  · rw [getD_app (by omega)]
    exact hpk

end Go.Proofs.Ytdlnjplkkfdejaa.Hx

namespace Go.Proofs.Ytdlnjplkkfdejaa.Hx
open Go.RowKit

/-- A cell that holds a byte; a cell that holds a text. -/
abbrev cby (n : Int) : H0 := .pl (.int .u8 n)
abbrev cst (s : ByteArray) : H0 := .pl (.string s)
abbrev St (s : ByteArray) : HV := .s (.pl (.string s))

def Bytes (h : Heap) (x : H0) (l : List Int) : Prop := Shows h (.s x) (l.map cby) ∧ l.length ≤ 1048576 ∧ ∀ y ∈ l, 0 ≤ y ∧ y < 256

/-- The cursor: a struct of a slice of bytes and two numbers, in row r. -/
def Cur (r : Nat) (h : Heap) (x : H0) : Prop := x = .ptr r 0 ∧ ∃ (b : H0) (l : List Int) (i hh : Int), h[r]? = some (.own [b, ci i, ci hh]) ∧ Bytes h b l ∧ (∀ q o n, b = .sl q o n → q < r) ∧ 0 ≤ i ∧ i ≤ 1048576

theorem HField.at {n r o f : Nat} {K : HV → Prop} (h : f < n) (hK : K (.s (.ptr r (o + f)))) : HField n (.s (.ptr r o)) f K := ⟨r, o, rfl, h, hK⟩
theorem At.here {h : Heap} {r o : Nat} {cs : List H0} {c : H0} (hr : h[r]? = some (.own cs)) (hc : cs[o]? = some c) : At h (.ptr r o) c := ⟨r, o, _, cs, rfl, hr, rfl, hc⟩
theorem HConv.of {k k' : IntKind} {n : Int} {K : HV → Prop} (hK : K (.s (.pl (.int k (k.wrap n))))) : HConv k (.s (.pl (.int k' n))) K := ⟨k', n, rfl, hK⟩
theorem HMax.of {k : IntKind} {a b : Int} {K : HV → Prop} (hK : K (.s (.pl (.int k (if b > a then b else a))))) : HMax (.s (.pl (.int k a))) (.s (.pl (.int k b))) K := ⟨k, a, b, rfl, rfl, hK⟩

theorem two_ok {a b : H0} (ha : a.one = true) (hb : b.one = true) : ∀ c ∈ [a, b], c.one = true := by
  intro c hc
  simp only [List.mem_cons, List.not_mem_nil, or_false] at hc
  rcases hc with rfl | rfl
  · exact ha
  · exact hb
theorem three_ok {a b d : H0} (ha : a.one = true) (hb : b.one = true) (hd : d.one = true) : ∀ c ∈ [a, b, d], c.one = true := by
  intro c hc
  simp only [List.mem_cons, List.not_mem_nil, or_false] at hc
  rcases hc with rfl | rfl | rfl
  · exact ha
  · exact hb
  · exact hd

theorem wrap_byte {n : Int} (h : 0 ≤ n ∧ n < 256) : IntKind.i64.wrap n = n := IntWalk.i64_in n ⟨by omega, by omega⟩

/-- And with 255 leaves a byte. -/
theorem and_byte (a : Int) : ∃ n : Int, 0 ≤ n ∧ n ≤ 255 ∧ IntKind.i64.wrap ((BitVec.ofInt IntKind.i64.bits a &&& BitVec.ofInt IntKind.i64.bits 255).toNat : Int) = n := by
  have e : (BitVec.ofInt IntKind.i64.bits a &&& BitVec.ofInt IntKind.i64.bits 255).toNat ≤ 255 := by
    rw [BitVec.toNat_and]
    have : (BitVec.ofInt IntKind.i64.bits 255).toNat = 255 := by decide
    rw [this]
    exact Nat.and_le_right
  refine ⟨_, ?_, ?_, rfl⟩
  · rw [wrap_byte (by omega)]; omega
  · rw [wrap_byte (by omega)]; omega

theorem HAnd.byte {a : Int} {K : HV → Prop} (hK : ∀ n : Int, 0 ≤ n → n ≤ 255 → K (I n)) : HAnd .i64 a 255 K := by
  obtain ⟨n, h1, h2, e⟩ := and_byte a
  refine ⟨?_⟩
  rw [e]
  exact hK n h1 h2
theorem HAnd.any {k : IntKind} {a b : Int} {K : HV → Prop} (hK : ∀ n : Int, K (.s (.pl (.int k n)))) : HAnd k a b K := ⟨hK _⟩
theorem HShr.any {k : IntKind} {a b : Int} {K : HV → Prop} (h : 0 ≤ b) (hK : ∀ n : Int, K (.s (.pl (.int k n)))) : HShr k a b K := ⟨h, hK _⟩
theorem HXor.any {k : IntKind} {a b : Int} {K : HV → Prop} (hK : ∀ n : Int, K (.s (.pl (.int k n)))) : HXor k a b K := ⟨hK _⟩
theorem HArith.some {k : IntKind} {e : Int} {K : HV → Prop} (hK : ∀ n : Int, K (.s (.pl (.int k n)))) : HArith k e K := ⟨hK _⟩

theorem Bytes.len {h : Heap} {x : H0} {l : List Int} (H : Bytes h x l) {K : HV → Prop} (hK : K (I l.length)) : HLen (.s x) K := by
  have := Shows.len H.1 (K := K)
  simp only [List.length_map] at this
  exact this hK

theorem getD_map_cby {l : List Int} {n : Nat} (h : n < l.length) (d : H0) : (l.map cby).getD n d = cby (l.getD n 0) := by
  simp [List.getD, h]

theorem Bytes.idx {h : Heap} {x : H0} {l : List Int} (H : Bytes h x l) {j : Int} (h0 : 0 ≤ j) (h1 : j < l.length) {k : IntKind} {K : HV → Prop} (hK : ∀ p n, 0 ≤ n → n < 256 → At h p (cby n) → K (.s p)) : HIdx h (.s x) (.s (.pl (.int k j))) K := by
  refine Shows.idx H.1 h0 (by simpa using h1) (fun p hp => ?_)
  rw [getD_map_cby (by omega)] at hp
  have hm : l.getD j.toNat 0 ∈ l := by
    have e : l.getD j.toNat 0 = l[j.toNat]'(by omega) := by simp [List.getD, show j.toNat < l.length by omega]
    rw [e]
    exact List.getElem_mem _
  exact hK p _ (H.2.2 _ hm).1 (H.2.2 _ hm).2 hp

theorem Bytes.keep {F : Nat → Prop} {h h' : Heap} {x : H0} {l : List Int} (H : Bytes h x l) (hf : ∀ q o n, x = .sl q o n → ¬ F q) (k : KeepN F h h') : Bytes h' x l := ⟨H.1.keep hf k, H.2⟩
theorem Bytes.ext {h h' : Heap} {x : H0} {l : List Int} (H : Bytes h x l) (E : Ext h h') : Bytes h' x l := ⟨H.1.ext E, H.2⟩

theorem Cur.lt {r : Nat} {h : Heap} {x : H0} (C : Cur r h x) : r < h.length := by
  obtain ⟨_, b, l, i, hh, hr, _⟩ := C
  exact get_lt hr
theorem Cur.ext {r : Nat} {h h' : Heap} {x : H0} (C : Cur r h x) (E : Ext h h') : Cur r h' x := by
  obtain ⟨e, b, l, i, hh, hr, B, hb, hi⟩ := C
  exact ⟨e, b, l, i, hh, E.row hr, B.ext E, hb, hi⟩

theorem Cur.low {r : Nat} {h h' : Heap} {x : H0} (C : Cur r h x) (hl : ∀ q, q ≤ r → h'[q]? = h[q]?) : Cur r h' x := by
  obtain ⟨e, b, l, i, hh, hr, B, hb, hi⟩ := C
  refine ⟨e, b, l, i, hh, by rw [hl r (Nat.le_refl _)]; exact hr, ⟨?_, B.2⟩, hb, hi⟩
  have B1 := B.1
  generalize l.map cby = L at B1
  cases B1 with
  | nils a c => exact .nils a c
  | ro q off len cs hq hlen => exact .ro q off len cs (by rw [hl q (Nat.le_of_lt (hb _ _ _ rfl))]; exact hq) hlen
  | own q off len cs hq hlen => exact .own q off len cs (by rw [hl q (Nat.le_of_lt (hb _ _ _ rfl))]; exact hq) hlen
theorem Cur.keep {F : Nat → Prop} {r : Nat} {h h' : Heap} {x : H0} (C : Cur r h x) (k : KeepN F h h') (hf : ∀ q, F q → r < q) : Cur r h' x :=
  C.low (fun q hq => k.2 q (Nat.lt_of_le_of_lt hq C.lt) (fun f => by have := hf q f; omega))

/-- Only row r has changed. -/
abbrev KeepR (r : Nat) : Heap → Heap → Prop := KeepN (fun q => q = r)

theorem KeepR.set {r : Nat} {h : Heap} (x : Row) : KeepR r h (h.set r x) := ⟨by simp, fun q hq hn => by rw [List.getElem?_set_ne (fun e => hn e.symm)]⟩

theorem HStore.cur {h : Heap} {r o : Nat} {cs : List H0} {c : H0} {K : HV → Heap → Prop} (hr : h[r]? = some (.own cs)) (ho : o < cs.length) (hc : c.one = true) (hK : K .dead (h.set r (.own (cs.set o c)))) : HStore h (.s (.ptr r o)) (.s c) K := HStore.own hr ho hc hK

set_option smartUnfolding false

set_option maxHeartbeats 1000000 in
theorem spec_l1Byte (h : Heap) (r : Nat) (x : H0) (C : Cur r h x) : HCalls Try.prog 97 [.s x] h (fun v h' => ∃ n : Int, v = I n ∧ 0 ≤ n ∧ n ≤ 255 ∧ KeepR r h h' ∧ Cur r h' x) := by
  obtain ⟨rfl, b, l, i, hh, hr, B, hb, hi, hi2⟩ := C
  have hrl := get_lt hr
  refine calls_of_hFun (m := 0) kd_ok mixed Try.func97 rfl (by kernel_rfl) rfl rfl (of_decide_eq_true rfl) ?_; unfold hFun; (conv => whnf)
  refine HField.at (by decide) ?_
  (conv => whnf)
  refine ⟨rfl, (At.here hr rfl).load ?_⟩
  (conv => whnf)
  refine HArith.some (fun n1 => ?_)
  (conv => whnf)
  refine HArith.some (fun n2 => ?_)
  (conv => whnf)
  refine HField.at (by decide) ?_
  (conv => whnf)
  refine ⟨rfl, HStore.cur hr (by simp) rfl ?_⟩
  have hr1 : (h.set r (.own ([b, ci i, ci hh].set (0 + 2) (ci n2))))[r]? = some (.own [b, ci i, ci n2]) := List.getElem?_set_self hrl
  have K1 : KeepR r h (h.set r (.own ([b, ci i, ci hh].set (0 + 2) (ci n2)))) := KeepR.set _
  generalize h.set r (.own ([b, ci i, ci hh].set (0 + 2) (ci n2))) = h1 at hr1 K1 ⊢
  have B1 := B.keep (fun q o n e g => by have := hb q o n e; omega) K1
  have hrl1 := get_lt hr1
  (conv => whnf)
  refine Or.inl (And.intro (show Region.lexB _ _ = true by kernel_rfl) ?_); (conv => whnf)
  refine HField.at (by decide) ?_
  (conv => whnf)
  refine ⟨rfl, (At.here hr1 rfl).load ?_⟩
  (conv => whnf)
  refine HShr.any (by decide) (fun n3 => ?_)
  (conv => whnf)
  refine HField.at (by decide) ?_
  (conv => whnf)
  refine ⟨rfl, (At.here hr1 rfl).load ?_⟩
  (conv => whnf)
  refine HShr.any (by decide) (fun n4 => ?_)
  (conv => whnf)
  refine HXor.any (fun n5 => ?_)
  (conv => whnf)
  refine HAnd.byte (fun n6 h6 h6' => ?_)
  (conv => whnf)
  refine Or.inl (And.intro (show Region.lexB _ _ = true by kernel_rfl) ?_); (conv => whnf)
  refine HField.at (by decide) ?_
  (conv => whnf)
  refine ⟨rfl, (At.here hr1 rfl).load ?_⟩
  (conv => whnf)
  refine HField.at (by decide) ?_
  (conv => whnf)
  refine ⟨rfl, (At.here hr1 rfl).load ?_⟩
  (conv => whnf)
  refine ⟨rfl, B1.len ?_⟩
  (conv => whnf)
  refine HIf.dec (fun hlt => ?_) (fun hge => ?_)
  · (conv => whnf)
    refine Or.inl (And.intro (show Region.lexB _ _ = true by kernel_rfl) ?_); (conv => whnf)
    refine HField.at (by decide) ?_
    (conv => whnf)
    refine ⟨rfl, (At.here hr1 rfl).load ?_⟩
    (conv => whnf)
    refine HField.at (by decide) ?_
    (conv => whnf)
    refine ⟨rfl, (At.here hr1 rfl).load ?_⟩
    (conv => whnf)
    refine ⟨rfl, B1.idx hi hlt (fun p n7 h7 h7' hp => ?_)⟩
    (conv => whnf)
    refine ⟨rfl, hp.load ?_⟩
    (conv => whnf)
    refine HConv.of ?_
    (conv => whnf)
    refine HArith.some (fun n8 => ?_)
    (conv => whnf)
    refine HAnd.byte (fun n9 h9 h9' => ?_)
    (conv => whnf)
    refine HField.at (by decide) ?_
    (conv => whnf)
    refine ⟨rfl, (At.here hr1 rfl).load ?_⟩
    (conv => whnf)
    refine HArith.fits (by omega) (by omega) ?_
    (conv => whnf)
    refine HField.at (by decide) ?_
    (conv => whnf)
    refine ⟨rfl, HStore.cur hr1 (by simp) rfl ?_⟩
    have hr2 : (h1.set r (.own ([b, ci i, ci n2].set (0 + 1) (ci (i + 1)))))[r]? = some (.own [b, ci (i + 1), ci n2]) := List.getElem?_set_self hrl1
    have K2 : KeepR r h1 (h1.set r (.own ([b, ci i, ci n2].set (0 + 1) (ci (i + 1))))) := KeepR.set _
    generalize h1.set r (.own ([b, ci i, ci n2].set (0 + 1) (ci (i + 1)))) = h2 at hr2 K2 ⊢
    have hBl := B.2.1
    (conv => whnf)
    exact ⟨n9, rfl, h9, h9', K1.trans K2 (fun q _ g => g), rfl, b, l, i + 1, n2, hr2, B1.keep (fun q o n e g => by have := hb q o n e; omega) K2, hb, by omega, by omega⟩
  · (conv => whnf)
    exact ⟨n6, rfl, h6, h6', K1, rfl, b, l, i, n2, hr1, B1, hb, hi, hi2⟩

theorem tmod_pos {a b : Int} (ha : 0 ≤ a) (hb : 0 < b) : 0 ≤ a.tmod b ∧ a.tmod b < b := ⟨Int.tmod_nonneg _ ha, Int.tmod_lt_of_pos _ hb⟩

theorem spec_l1Below (h : Heap) (r : Nat) (x : H0) (n : Int) (C : Cur r h x) (hn : n ≤ 9223372036854775807) : HCalls Try.prog 75 [.s x, I n] h (fun v h' => ∃ m : Int, v = I m ∧ 0 ≤ m ∧ (0 < n → m < n) ∧ m ≤ 9223372036854775807 ∧ KeepR r h h' ∧ Cur r h' x) := by
  refine calls_of_hFun (m := 0) kd_ok mixed Try.func75 rfl (by kernel_rfl) rfl rfl (of_decide_eq_true rfl) ?_; unfold hFun; (conv => whnf)
  refine HIf.dec (fun h0 => ?_) (fun h0 => ?_)
  · (conv => whnf)
    exact ⟨0, rfl, by omega, fun h => by omega, by omega, KeepN.refl _ _, C⟩
  · (conv => whnf)
    refine HIf.dec (fun h256 => ?_) (fun h256 => ?_)
    · (conv => whnf)
      refine (spec_l1Byte _ r _ C).mono ?_
      rintro v h1 ⟨b, rfl, b1, b2, K1, C1⟩
      have ht := tmod_pos b1 (show 0 < n by omega)
      (conv => whnf)
      refine HRem.of (by omega) ?_
      (conv => whnf)
      exact ⟨_, rfl, ht.1, fun _ => ht.2, by omega, K1, C1⟩
    · (conv => whnf)
      refine (spec_l1Byte _ r _ C).mono ?_
      rintro v h1 ⟨b, rfl, b1, b2, K1, C1⟩
      (conv => whnf)
      refine (spec_l1Byte _ r _ C1).mono ?_
      rintro v h2 ⟨d, rfl, d1, d2, K2, C2⟩
      (conv => whnf)
      refine (spec_l1Byte _ r _ C2).mono ?_
      rintro v h3 ⟨e, rfl, e1, e2, K3, C3⟩
      (conv => whnf)
      refine (spec_l1Byte _ r _ C3).mono ?_
      rintro v h4 ⟨f, rfl, f1, f2, K4, C4⟩
      (conv => whnf)
      refine HArith.fits (by omega) (by omega) ?_
      (conv => whnf)
      refine HArith.fits (by omega) (by omega) ?_
      (conv => whnf)
      refine HArith.fits (by omega) (by omega) ?_
      (conv => whnf)
      refine HArith.fits (by omega) (by omega) ?_
      (conv => whnf)
      refine HArith.fits (by omega) (by omega) ?_
      (conv => whnf)
      refine HArith.fits (by omega) (by omega) ?_
      have ht := tmod_pos (a := b * 16777216 + d * 65536 + e * 256 + f) (b := n) (by omega) (by omega)
      (conv => whnf)
      refine HRem.of (by omega) ?_
      (conv => whnf)
      exact ⟨_, rfl, ht.1, fun _ => ht.2, by omega, ((K1.trans K2 (fun q _ g => g)).trans K3 (fun q _ g => g)).trans K4 (fun q _ g => g), C4⟩

theorem spec_l1Once (h : Heap) (r : Nat) (x : H0) (n : Int) (C : Cur r h x) (hn : n ≤ 9223372036854775807) : HCalls Try.prog 74 [.s x, I n] h (fun v h' => ∃ b : Bool, v = B b ∧ KeepR r h h' ∧ Cur r h' x) := by
  refine calls_of_hFun (m := 0) kd_ok mixed Try.func74 rfl (by kernel_rfl) rfl rfl (of_decide_eq_true rfl) ?_; unfold hFun; (conv => whnf)
  refine (spec_l1Below _ r _ n C hn).mono ?_
  rintro v h1 ⟨m, rfl, m1, m2, m3, K1, C1⟩
  (conv => whnf)
  exact ⟨_, rfl, K1, C1⟩

theorem spec_l1PickInt (h : Heap) (r : Nat) (x y : H0) (l : List Int) (C : Cur r h x) (hy : IntsN (fun q => q = r) h y l) (h0 : 0 < l.length) (hl : l.length ≤ 1048576) :
    HCalls Try.prog 78 [.s x, .s y] h (fun v h' => ∃ n : Int, v = I n ∧ n ∈ l ∧ KeepR r h h' ∧ Cur r h' x) := by
  refine calls_of_hFun (m := 0) kd_ok mixed Try.func78 rfl (by kernel_rfl) rfl rfl (of_decide_eq_true rfl) ?_; unfold hFun; (conv => whnf)
  refine ⟨rfl, hy.1.len ?_⟩
  (conv => whnf)
  refine (spec_l1Below _ r _ _ C (by omega)).mono ?_
  rintro v h1 ⟨m, rfl, m1, m2, m3, K1, C1⟩
  have hm := m2 (by omega)
  have hy1 := (hy.keep K1 (fun q _ g => g)).1
  (conv => whnf)
  refine ⟨rfl, hy1.idx m1 hm (fun p hp => ?_)⟩
  (conv => whnf)
  refine ⟨rfl, hp.load ?_⟩
  (conv => whnf)
  refine ⟨_, rfl, ?_, K1, C1⟩
  have e : l.getD m.toNat 0 = l[m.toNat]'(by omega) := by simp [List.getD, show m.toNat < l.length by omega]
  rw [e]
  exact List.getElem_mem _

/-- A slice of texts. -/
def Strs (h : Heap) (x : H0) (l : List ByteArray) : Prop := Shows h (.s x) (l.map cst)

theorem spec_l1Pick (h : Heap) (r : Nat) (x y : H0) (l : List ByteArray) (C : Cur r h x) (hy : Strs h y l) (hn : ∀ q o n, y = .sl q o n → q ≠ r) (h0 : 0 < l.length) (hl : l.length ≤ 1048576) :
    HCalls Try.prog 114 [.s x, .s y] h (fun v h' => ∃ s, v = St s ∧ s ∈ l ∧ KeepR r h h' ∧ Cur r h' x) := by
  have hlm : (l.map cst).length = l.length := by simp
  refine calls_of_hFun (m := 0) kd_ok mixed Try.func114 rfl (by kernel_rfl) rfl rfl (of_decide_eq_true rfl) ?_; unfold hFun; (conv => whnf)
  refine ⟨rfl, Shows.len hy ?_⟩
  rw [hlm]
  (conv => whnf)
  refine (spec_l1Below _ r _ _ C (by omega)).mono ?_
  rintro v h1 ⟨m, rfl, m1, m2, m3, K1, C1⟩
  have hm := m2 (by omega)
  have hy1 : Shows h1 (.s y) (l.map cst) := Shows.keep hy hn K1
  (conv => whnf)
  refine ⟨rfl, Shows.idx hy1 m1 (by rw [hlm]; exact hm) (fun p hp => ?_)⟩
  have hml : m.toNat < l.length := by omega
  have e : (l.map cst).getD m.toNat (.pl (.int .i64 0)) = cst l[m.toNat] := by simp [List.getD, hml]
  rw [e] at hp
  (conv => whnf)
  refine ⟨rfl, hp.load ?_⟩
  (conv => whnf)
  exact ⟨_, rfl, List.getElem_mem _, K1, C1⟩

theorem spec_l1New (h : Heap) (y : H0) (l : List Int) (hy : Bytes h y l) : HCalls Try.prog 73 [.s y] h (fun v h' => ∃ x r, v = .s x ∧ Ext h h' ∧ h.length ≤ r ∧ Cur r h' x) := by
  have hl := hy.2.1
  refine calls_of_hFun (m := 0) kd_ok mixed Try.func73 rfl (by kernel_rfl) rfl rfl (of_decide_eq_true rfl) ?_; unfold hFun; (conv => whnf)
  refine ⟨rfl, hy.len ?_⟩
  (conv => whnf)
  refine HArith.fits (by omega) (by omega) ?_
  (conv => whnf)
  refine HLoop.intro [4, 3] [8, 9, 10, 11, 12, 13, 14, 15, 18, 19, 20, 21, 22, 23, 24, 25, 26, 27, 3, 16, 17, 4] (by kernel_rfl) (by kernel_rfl) (fun vs h' => ∃ (i : Nat) (n : Int), vs = [I i, I n] ∧ i ≤ l.length ∧ h' = h) (fun vs _ => l.length - natAt vs 0) ⟨0, _, rfl, by omega, rfl⟩ ?_
  rintro vs h' ⟨i, n, rfl, hi, hh⟩
  subst h'
  have fin : ∀ n : Int, Cur h.length (h ++ [.own [y, ci 0, ci n]]) (.ptr h.length 0) := fun n =>
    ⟨rfl, y, l, 0, n, get_new _ _, hy.ext (Ext.push _ _), fun q o m e => by
      have := hy.1
      rw [e] at this
      exact Shows.in_lt this, by omega, by omega⟩
  have hyone : y.one = true := by
    have := hy.1
    cases y with
    | pl v =>
      generalize l.map cby = L at this
      cases this
      rfl
    | sl r o n => rfl
    | ptr r o => cases this
    | sw k r o n => cases this
    | mp r => cases this
    | pa r n => cases this
  (conv => whnf)
  refine ⟨rfl, hy.len ?_⟩
  (conv => whnf)
  refine HIf.dec (fun hlt => ?_) (fun hge => ?_)
  · (conv => whnf)
    refine HIf.decT hlt ?_
    (conv => whnf)
    refine HIf.decT hlt ?_
    (conv => whnf)
    refine HIf.dec (fun h4 => ?_) (fun h4 => ?_)
    · (conv => whnf)
      refine HArith.some (fun n1 => ?_)
      (conv => whnf)
      refine ⟨rfl, hy.idx (by omega) hlt (fun p n7 h7 h7' hp => ?_)⟩
      (conv => whnf)
      refine ⟨rfl, hp.load ?_⟩
      (conv => whnf)
      refine HConv.of ?_
      (conv => whnf)
      refine HArith.some (fun n2 => ?_)
      (conv => whnf)
      refine HArith.some (fun n3 => ?_)
      (conv => whnf)
      refine HAnd.any (fun n4 => ?_)
      (conv => whnf)
      refine HArith.fits (by omega) (by omega) ?_
      (conv => whnf)
      exact ⟨⟨i + 1, n4, rfl, by omega, rfl⟩, by show l.length - (i + 1) < l.length - i; omega⟩
    · (conv => whnf)
      refine HRec.of (two_ok hyone rfl) ?_
      (conv => whnf)
      refine ⟨three_ok hyone rfl rfl, ?_⟩
      (conv => whnf)
      exact ⟨_, _, rfl, Ext.push _ _, Nat.le_refl _, fin n⟩
  · (conv => whnf)
    refine HIf.decF hge ?_
    (conv => whnf)
    refine HIf.decF hge ?_
    (conv => whnf)
    refine HIf.no ?_
    (conv => whnf)
    refine HRec.of (two_ok hyone rfl) ?_
    (conv => whnf)
    refine ⟨three_ok hyone rfl rfl, ?_⟩
    (conv => whnf)
    exact ⟨_, _, rfl, Ext.push _ _, Nat.le_refl _, fin n⟩

end Go.Proofs.Ytdlnjplkkfdejaa.Hx
