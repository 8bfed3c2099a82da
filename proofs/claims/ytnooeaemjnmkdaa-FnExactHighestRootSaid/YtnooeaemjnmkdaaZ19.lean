/-
  The roots up to a height as the program collects them.
  The roots up to a height as the program collects them: the whole function.
  Contracts of membership in lists of roots and of copies of matrices; a word read off its inversions, as plain functions.
-/
import Derived.Test.YtnooeaemjnmkdaaZ18
namespace Go.Proofs.Ytnooeaemjnmkdaa.Hx
open Go.RowKit

def trRow (c : List (List Int)) (i k : Nat) : List Int := (List.range k).map fun j => ent c j i
def trTo (c : List (List Int)) (k : Nat) : List (List Int) := (List.range k).map fun i => trRow c i c.length
theorem trRow_len (c : List (List Int)) (i k : Nat) : (trRow c i k).length = k := by simp [trRow]
theorem trRow_succ (c : List (List Int)) (i k : Nat) : trRow c i (k + 1) = trRow c i k ++ [ent c k i] := by simp [trRow, List.range_succ]
theorem trTo_len (c : List (List Int)) (k : Nat) : (trTo c k).length = k := by simp [trTo]
theorem trTo_succ (c : List (List Int)) (k : Nat) : trTo c (k + 1) = trTo c k ++ [trRow c k c.length] := by simp [trTo, List.range_succ]
theorem trTo_all (c : List (List Int)) : trTo c c.length = transp c := rfl

def simples (c : List (List Int)) (k : Nat) : List (List Int) := (List.range k).map fun i => simpleRoot c (i : Nat)
theorem simples_len (c : List (List Int)) (k : Nat) : (simples c k).length = k := by simp [simples]
theorem simples_succ (c : List (List Int)) (k : Nat) : simples c (k + 1) = simples c k ++ [simpleRoot c (k : Nat)] := by simp [simples, List.range_succ]
theorem simple_inj {c : List (List Int)} (hC : Cartan c) {i j : Nat} (hi : i < c.length) (hj : j < c.length) (h : simpleRoot c (i : Nat) = simpleRoot c (j : Nat)) : i = j := by
  have e1 := (simple_pos hC hi).2
  have e2 := (simple_pos hC hj).2
  rw [h, e2] at e1
  have := congrFun e1 i
  simp only [unitP, if_true] at this
  by_cases e : i = j
  · exact e
  · rw [if_neg e] at this
    cases this
theorem simples_nodup {c : List (List Int)} (hC : Cartan c) : ∀ k, k ≤ c.length → (simples c k).Nodup
  | 0, _ => by simp [simples]
  | k + 1, hk => by
    rw [simples_succ, List.nodup_append]
    refine ⟨simples_nodup hC k (by omega), by simp, fun a ha b hb e => ?_⟩
    obtain ⟨i, hi, rfl⟩ := List.mem_map.1 ha
    have hi := List.mem_range.1 hi
    obtain rfl : b = _ := by simpa using hb
    have := simple_inj hC (i := i) (j := k) (by omega) (by omega) e
    omega
theorem mem_simples {c : List (List Int)} {k : Nat} {r : List Int} : r ∈ simples c k ↔ ∃ i, i < k ∧ r = simpleRoot c (i : Nat) := by
  simp only [simples, List.mem_map, List.mem_range]
  constructor
  · rintro ⟨i, h, rfl⟩; exact ⟨i, h, rfl⟩
  · rintro ⟨i, h, rfl⟩; exact ⟨i, h, rfl⟩

theorem HIdxW.nat {n r len j : Nat} {k : IntKind} {K : HV → Prop} (h1 : j < len) (hK : K (.s (.ptr r (n * j)))) : HIdxW n (.s (.sw n r 0 len)) (.s (.pl (.int k (j : Int)))) K :=
  ⟨r, 0, len, k, j, rfl, rfl, by omega, by omega, by rw [Int.toNat_natCast, Nat.zero_add]; exact hK⟩
theorem prCells_chunk (N : Nat) (ρ τ : Nat → Nat) {n i : Nat} (hi : i < n) : ((prCells N ρ τ n).drop (2 * i)).take 2 = [.sl (ρ i) 0 N, .sl (τ i) 0 N] := by
  obtain ⟨g1, g2⟩ := prCells_get N ρ τ hi
  apply List.ext_getElem?
  intro t
  by_cases ht : t < 2
  · rw [List.getElem?_take_of_lt ht, List.getElem?_drop]
    have f : t = 0 ∨ t = 1 := by omega
    rcases f with rfl | rfl
    · rw [Nat.add_zero, g1]; rfl
    · rw [g2]; rfl
  · rw [List.getElem?_eq_none (by simp; omega), List.getElem?_eq_none (by simp; omega)]

set_option smartUnfolding false

theorem impl_TransposeCartan (h : Heap) (x0 : H0) (c : List (List Int)) (hx0 : Rows h x0 c) (hC : Cartan c) :
    HCalls Try.prog 66 [.s x0] h (fun r h' => ∃ y, r = .s y ∧ Ext h h' ∧ OwnM h.length h'.length h' y (transp c)) := by
  have h4 := hC.le
  refine calls_of_hFun (m := 0) kd_ok mixed Try.func66 rfl (by kernel_rfl) rfl rfl (of_decide_eq_true rfl) ?_; unfold hFun; (conv => whnf)
  refine (impl_IsCartan _ _ _ hx0 (by omega)).mono ?_
  rintro r h1 ⟨rfl, rfl⟩
  rw [(isCartan_iff c).2 hC]
  (conv => whnf)
  refine HIf.isF rfl ?_
  (conv => whnf)
  have hx10 := hx0.ext (Ext.push h1 [Row.own []])
  refine HLit.empty ?_
  (conv => whnf)
  refine ⟨rfl, hx10.len ?_⟩
  (conv => whnf)
  refine HLoop.intro [14, 3] [15, 16, 4, 17, 5, 18, 19, 20, 21, 22, 6, 23, 24, 25, 26, 27, 28, 29, 30, 31, 32, 5, 33, 20, 34, 35, 36, 37, 3, 38, 14] (by kernel_rfl) (by kernel_rfl) (fun vs h' => ∃ (a : Nat) (z : H0), vs = [I a, .s z] ∧ a ≤ c.length ∧ Ext h1 h' ∧ OwnM h1.length h'.length h' z (trTo c a)) (fun vs _ => c.length - natAt vs 0) ⟨0, _, rfl, by omega, Ext.push _ _, OwnM.none h1⟩ ?_
  rintro vs h' ⟨a, z, rfl, ha, E, OM⟩
  have hpl := trTo_len c a
  have hx1 := hx0.ext E
  (conv => whnf)
  refine HIf.dec (fun hlt => ?_) (fun hge => ?_)
  · have Ep := Ext.push h' [Row.own []]
    have hx1p := hx1.ext Ep
    (conv => whnf)
    refine HLit.empty ?_
    (conv => whnf)
    refine ⟨rfl, hx1p.len ?_⟩
    (conv => whnf)
    refine HLoop.intro [20, 5] [21, 22, 6, 23, 24, 25, 26, 27, 28, 29, 30, 31, 32, 5, 33, 20] (by kernel_rfl) (by kernel_rfl) (fun vs h2 => ∃ (b : Nat) (y : H0) (r : Nat), vs = [I b, .s y] ∧ b ≤ c.length ∧ Ext h' h2 ∧ h'.length ≤ r ∧ OwnR r h2 y (trRow c a b)) (fun vs _ => c.length - natAt vs 0) ⟨0, _, h'.length, rfl, by omega, Ep, Nat.le_refl _, OwnR.push h' []⟩ ?_
    rintro vs h2 ⟨b, y, r, rfl, hb, E2, hr, O⟩
    have hrl := trRow_len c a b
    have hE2 := E2.1
    (conv => whnf)
    refine HIf.dec (fun hltb => ?_) (fun hgeb => ?_)
    · have hrow := hC.row b (by omega)
      (conv => whnf)
      refine ⟨rfl, Rows.idxN (hx1.ext E2) (by omega) (fun p3 y3 hp3 hy3 => ?_)⟩
      (conv => whnf)
      refine ⟨rfl, hp3.load ?_⟩
      (conv => whnf)
      refine ⟨rfl, Ints.idxN hy3 (by omega) (fun p4 hp4 => ?_)⟩
      (conv => whnf)
      refine ⟨rfl, hp4.load ?_⟩
      rw [ent_eq]
      (conv => whnf)
      refine HLit.one ?_
      (conv => whnf)
      refine ⟨rfl, rfl, HApp.snocR O (by omega) (fun h3 r3 y5 B3 hr3 O3 => ?_)⟩
      rw [← trRow_succ] at O3
      (conv => whnf)
      refine HArith.fits (by omega) (by omega) ?_
      (conv => whnf)
      exact ⟨⟨b + 1, y5, r3, rfl, by omega, E2.but B3 hr, by omega, O3⟩, by show c.length - (b + 1) < c.length - b; omega⟩
    · have e : b = c.length := by omega
      subst e
      have F := O.own hr
      (conv => whnf)
      refine HLit.row F.one ?_
      (conv => whnf)
      refine ⟨rfl, rfl, HApp.snocM E OM E2 F (by omega) (fun h5 y5 E5 O5 => ?_)⟩
      rw [← trTo_succ] at O5
      (conv => whnf)
      refine HArith.fits (by omega) (by omega) ?_
      (conv => whnf)
      exact ⟨⟨a + 1, y5, rfl, by omega, E5, O5⟩, by show c.length - (a + 1) < c.length - a; omega⟩
  · have e : a = c.length := by omega
    subst e
    (conv => whnf)
    exact ⟨_, rfl, E, OM⟩

theorem impl_cmpPair (h : Heap) (x x' y y' : H0) (a b : List Int) (hx : Ints h x a) (hy : Ints h y b) (h1 : x.one = true) (h2 : x'.one = true) (h3 : y.one = true) (h4 : y'.one = true) (hal : a.length ≤ 1048576) (hbl : b.length ≤ 1048576) :
    HCalls Try.prog 73 [.agg [x, x'], .agg [y, y']] h (fun r _ => r = I (cmpR a b)) := by
  have o1 : ∀ c ∈ [x, x'], c.one = true := fun c hc => by
    simp only [List.mem_cons, List.not_mem_nil, or_false] at hc
    rcases hc with rfl | rfl <;> assumption
  have o2 : ∀ c ∈ [y, y'], c.one = true := fun c hc => by
    simp only [List.mem_cons, List.not_mem_nil, or_false] at hc
    rcases hc with rfl | rfl <;> assumption
  refine calls_of_hFun (m := 0) kd_ok mixed Try.func73 rfl (by kernel_rfl) rfl rfl (of_decide_eq_true rfl) ?_; unfold hFun; (conv => whnf)
  refine ⟨o1, ?_⟩
  (conv => whnf)
  refine ⟨o2, ?_⟩
  have E1 := Ext.push h [Row.own [x, x']]
  have g1 := get_new h (Row.own [x, x'])
  have E2 := Ext.push (h ++ [Row.own [x, x']]) [Row.own [y, y']]
  have g2 := get_new (h ++ [Row.own [x, x']]) (Row.own [y, y'])
  have g1' := E2.row g1
  have E := E1.trans E2
  generalize (h ++ [Row.own [x, x']]) ++ [Row.own [y, y']] = h2 at E g2 g1' ⊢
  generalize (h ++ [Row.own [x, x']]).length = n2 at g2 ⊢
  (conv => whnf)
  refine HField.at' (by decide) ?_
  (conv => whnf)
  refine ⟨rfl, At.load ⟨_, 0, _, [x, x'], rfl, g1', rfl, rfl⟩ ?_⟩
  (conv => whnf)
  refine HField.at' (by decide) ?_
  (conv => whnf)
  refine ⟨rfl, At.load ⟨_, 0, _, [y, y'], rfl, g2, rfl, rfl⟩ ?_⟩
  (conv => whnf)
  refine (impl_compareRoots _ _ _ _ _ (hx.ext E) (hy.ext E) hal hbl).mono ?_
  rintro r h3 ⟨rfl, _⟩
  (conv => whnf)
  rfl

end Go.Proofs.Ytnooeaemjnmkdaa.Hx

namespace Go.Proofs.Ytnooeaemjnmkdaa.Hx
open Go.RowKit

/-- What the list holds while the roots are mirrored one after the other. -/
structure Coll (c : List (List Int)) (H : Int) (Q : List (List Int)) : Prop where
  nodup : Q.Nodup
  up : ∀ r ∈ Q, RootUp c H r
  simple : ∀ i, i < c.length → simpleRoot c (i : Nat) ∈ Q

def ClosedAt (c : List (List Int)) (H : Int) (Q : List (List Int)) (r : List Int) (i : Nat) : Prop := rootSign (mirror c i r) = 1 → heightOf (mirror c i r) ≤ H → mirror c i r ∈ Q

theorem Coll.all {c : List (List Int)} {H : Int} {Q : List (List Int)} (C : Coll c H Q) (h : ∀ r ∈ Q, ∀ i, i < c.length → ClosedAt c H Q r i) (r : List Int) : r ∈ Q ↔ RootUp c H r := by
  refine ⟨C.up r, fun hr => ?_⟩
  induction hr with
  | simple i hi => exact C.simple i hi
  | step i hi _ hs hh _ ih => exact h _ ih i hi hs hh

/-- A state of the memory with some list. -/
def St (b bm bh bl m : Nat) (ht : Int) (N : Nat) (Q : List (List Int)) (h : Heap) : Prop := ∃ q ρ τ T, Prs b bm bh bl m q ht N ρ τ Q T h

theorem simple_facts {c : List (List Int)} (hC : Cartan c) {i : Nat} (hi : i < c.length) : rootSign (simpleRoot c (i : Nat)) = 1 ∧ heightOf (simpleRoot c (i : Nat)) = 1 ∧ (simpleRoot c (i : Nat)).length = c.length := by
  obtain ⟨n, R, g1, g2⟩ := (RootUp.simple (c := c) (H := 1) i hi).facts hC (by omega) (by omega)
  have e := (simple_pos hC hi).2
  have hn : n = 1 := by omega
  subst hn
  refine ⟨rootSign_one.2 ⟨R.nonneg, i, ?_⟩, R.height, R.len⟩
  have : (simpleRoot c (i : Nat)).getD i 0 = 1 := by
    have := congrFun e i
    rw [show unitP i i = 1 by unfold unitP; rw [if_pos rfl]] at this
    exact this
  omega

theorem HApp.rawS {h : Heap} {r q n : Nat} {cs : List H0} {y : H0} {K : HV → Heap → Prop} (hr : h[r]? = some (.own cs)) (hq : h[q]? = some (.own [y])) (hn : cs.length = n) (h1 : y.one = true) (hl : n ≤ 1048576) (hK : K (.s (.sl h.length 0 (n + 1))) (h.set r .gone ++ [.own (cs ++ [y])])) : HApp h (.s (.sl r 0 n)) (.s (.sl q 0 1)) K := by
  have hs : Shows h (.s (.sl q 0 1)) [y] := Shows.own q 0 1 [y] hq (by simp)
  refine ⟨[y], hs, fun c hc => ?_, cs, rfl, hr, by omega, Or.inl ⟨by simp; omega, ?_⟩⟩
  · obtain rfl : c = y := by simpa using hc
    exact h1
  · have e : cs.take n = cs := by rw [← hn, List.take_length]
    rw [e]
    exact hK

theorem rawS_facts {h : Heap} {r : Nat} {x y : Row} (hr : r < h.length) : ((h ++ [x]).set r .gone ++ [y]).length = h.length + 2 ∧ ((h ++ [x]).set r .gone ++ [y])[h.length + 1]? = some y ∧ ∀ z, z < h.length → z ≠ r → ((h ++ [x]).set r .gone ++ [y])[z]? = h[z]? := by
  have hL : ((h ++ [x]).set r Row.gone).length = h.length + 1 := by simp
  refine ⟨by simp, ?_, fun z hz hn => ?_⟩
  · have := get_new ((h ++ [x]).set r .gone) y
    rwa [hL] at this
  · rw [List.getElem?_append_left (by omega), List.getElem?_set_ne (Ne.symm hn), List.getElem?_append_left hz]

def slCells (N : Nat) (ρ : Nat → Nat) (n : Nat) : List H0 := (List.range n).map fun j => .sl (ρ j) 0 N
theorem slCells_length (N : Nat) (ρ : Nat → Nat) (n : Nat) : (slCells N ρ n).length = n := by simp [slCells]
theorem slCells_succ (N : Nat) (ρ : Nat → Nat) (n : Nat) : slCells N ρ (n + 1) = slCells N ρ n ++ [.sl (ρ n) 0 N] := by simp [slCells, List.range_succ]
theorem slCells_get (N : Nat) (ρ : Nat → Nat) {n i : Nat} (hi : i < n) : (slCells N ρ n)[i]? = some (.sl (ρ i) 0 N) := by simp [slCells, hi]

theorem flatMap_range (f : Nat → List H0) : ∀ (σ : List Nat), σ.flatMap f = (List.range σ.length).flatMap fun j => f (σ.getD j 0)
  | [] => rfl
  | a :: σ => by
    rw [List.length_cons, List.range_succ_eq_map, List.flatMap_cons, List.flatMap_cons, List.flatMap_map, flatMap_range f σ]
    rfl

theorem sorted_cells {N n : Nat} {ρ τ : Nat → Nat} {σ : List Nat} (hp : σ.Perm (List.range n)) : σ.flatMap (chunk 2 (prCells N ρ τ n)) = prCells N (fun j => ρ (σ.getD j 0)) (fun j => τ (σ.getD j 0)) n := by
  have hl : σ.length = n := by simpa using hp.length_eq
  rw [flatMap_range, hl]
  unfold prCells
  rw [List.flatMap_def, List.flatMap_def]
  refine congrArg List.flatten (List.map_congr_left fun j hj => ?_)
  have hj := List.mem_range.1 hj
  have hm : σ.getD j 0 ∈ σ := by simp [List.getD, show j < σ.length by omega]
  have hlt : σ.getD j 0 < n := by simpa using hp.mem_iff.1 hm
  exact prCells_chunk N ρ τ hlt

theorem getD_in {L : List (List Int)} {i : Nat} (h : i < L.length) : L.getD i [] ∈ L := by
  simp [List.getD, h]
theorem getD_pre {Q X : List (List Int)} {i : Nat} (h : i < Q.length) : (Q ++ X).getD i [] = Q.getD i [] := by
  simp only [List.getD]
  rw [List.getElem?_append_left h]
theorem ClosedAt.more {c : List (List Int)} {H : Int} {Q X : List (List Int)} {r : List Int} {i : Nat} (h : ClosedAt c H Q r i) : ClosedAt c H (Q ++ X) r i := fun a b => List.mem_append.2 (Or.inl (h a b))

set_option smartUnfolding false

set_option maxHeartbeats 4000000 in
theorem impl_pairedRoots (h : Heap) (x0 : H0) (c : List (List Int)) (H : Int) (hx0 : Rows h x0 c) (hC : Cartan c) (hH1 : 1 ≤ H) (hH : H ≤ 12) :
    HCalls Try.prog 47 [.s x0, I H] h (fun r h' => ∃ y z, r = .tup [y, z] ∧ Ext h h' ∧ ∃ L, RootList c H L ∧ OwnM h.length h'.length h' y L) := by
  have h4 := hC.le
  have hpos := hC.pos
  refine calls_of_hFun (m := 0) kd_ok mixed Try.func47 rfl (by kernel_rfl) rfl rfl (of_decide_eq_true rfl) ?_; unfold hFun; (conv => whnf)
  refine ⟨rfl, ci H, rfl, rfl, ?_⟩
  have E1 := Ext.push h [Row.own [ci H]]
  have gh := get_new h (Row.own [ci H])
  generalize h ++ [Row.own [ci H]] = h1 at E1 gh ⊢
  (conv => whnf)
  refine (impl_TransposeCartan _ _ _ (hx0.ext E1) hC).mono ?_
  rintro r hT ⟨yt, rfl, ET, OT⟩
  have RT := OT.rows
  have gh := ET.row gh
  have E := E1.trans ET
  have hx := hx0.ext E
  (conv => whnf)
  refine HLitW.none (by decide) ?_
  (conv => whnf)
  refine ⟨rfl, HStore.own (get_new _ _) Nat.zero_lt_one rfl ?_⟩
  rw [set_new]
  (conv => whnf)
  refine ⟨rfl, HStore.own (get_new _ _) Nat.zero_lt_one rfl ?_⟩
  rw [set_new]
  have e0 : ∀ (v : H0) (z : Value), ([z].map H0.pl).set 0 v = [v] := fun _ _ => rfl
  rw [e0, e0]
  have P0 : Prs hT.length (hT.length + 3) h.length (hT.length + 1) (hT.length + 2) hT.length H c.length id id [] [] (hT ++ [Row.own []] ++ [Row.own [H0.sw 2 hT.length 0 0]] ++ [Row.keys false []] ++ [Row.own [H0.mp (hT.length + 2)]]) := by
    have hl := get_lt gh
    refine ⟨by simp, ?_, by simp, ⟨[], by simp, by simp⟩, by simp [prCells], fun i hi => by simp at hi, fun i hi => by simp at hi, fun i j _ hj => by simp at hj, rfl, by omega, by omega, by omega, by omega, fun i hi => by simp at hi⟩
    rw [List.getElem?_append_left (by simp; omega), List.getElem?_append_left (by simp; omega), List.getElem?_append_left (by simp; omega), List.getElem?_append_left hl]
    exact gh
  have n1 : (hT ++ [Row.own []]).length = hT.length + 1 := by simp
  have n2 : (hT ++ [Row.own []] ++ [Row.own [H0.sw [Value.slice none 0 0, Value.slice none 0 0].length hT.length 0 0]]).length = hT.length + 2 := by simp
  have n3 : (hT ++ [Row.own []] ++ [Row.own [H0.sw [Value.slice none 0 0, Value.slice none 0 0].length hT.length 0 0]] ++ [Row.keys false []]).length = hT.length + 3 := by simp
  rw [n3, n2, n1]
  have E2 : Ext hT (hT ++ [Row.own []] ++ [Row.own [H0.sw 2 hT.length 0 0]] ++ [Row.keys false []] ++ [Row.own [H0.mp (hT.length + 2)]]) := (((Ext.push hT _).pushed _).pushed _).pushed _
  have e2 : ([Value.slice none 0 0, Value.slice none 0 0] : List Value).length = 2 := rfl
  rw [e2]
  generalize hT ++ [Row.own []] ++ [Row.own [H0.sw 2 hT.length 0 0]] ++ [Row.keys false []] ++ [Row.own [H0.mp (hT.length + 2)]] = h2 at P0 E2 ⊢
  clear n1 n2 n3 e0 e2 gh
  (conv => whnf)
  refine ⟨rfl, (hx.ext E2).len ?_⟩
  (conv => whnf)
  generalize hT.length + 3 = bm at P0 ⊢
  generalize hT.length + 2 = m at P0 ⊢
  generalize hT.length + 1 = bl at P0 ⊢
  generalize hbh : h.length = bh at P0 ⊢
  refine HLoop.intro [25] [26, 27, 10, 28, 29, 30, 31, 32, 33, 34, 35, 36, 37, 38, 25] (by kernel_rfl) (by kernel_rfl) (fun vs h' => ∃ i : Nat, vs = [I i] ∧ i ≤ c.length ∧ Ext hT h' ∧ St hT.length bm bh bl m H c.length (simples c i) h') (fun vs _ => c.length - natAt vs 0) ⟨0, rfl, by omega, E2, _, _, _, _, P0⟩ ?_
  rintro vs h3 ⟨i, rfl, hi, E3, q, ρ, τ, T, P⟩
  (conv => whnf)
  refine HIf.dec (fun hlt => ?_) (fun hge => ?_)
  · have hi' : i < c.length := by omega
    (conv => whnf)
    refine ⟨rfl, (hx.ext E3).len ?_⟩
    (conv => whnf)
    refine (impl_simple _ c.length (i : Int) (by omega) (by omega) (by omega)).mono ?_
    rintro r h5 ⟨y5, rfl, E5, a, t, rfl, ha0, ha⟩
    (conv => whnf)
    refine ⟨rfl, (hx.ext (E3.trans E5)).len ?_⟩
    (conv => whnf)
    refine (impl_simple _ c.length (i : Int) (by omega) (by omega) (by omega)).mono ?_
    rintro r h6 ⟨y6, rfl, E6, a', t', rfl, ha0', ha'⟩
    have es : (List.replicate c.length (0 : Int)).set (i : Int).toNat 1 = simpleRoot c (i : Nat) := ((simple_pos hC hi').1).symm
    rw [es] at ha ha' ⊢
    obtain ⟨s1, s2, s3⟩ := simple_facts hC hi'
    rw [s3]
    have E56 := E5.trans E6
    have P6 := P.ext E56
    have hl3 := P.rt
    have hfr : ∀ k, k < (simples c i).length → ρ k ≠ a := fun k hk e => by
      obtain ⟨_, t, g⟩ := P.rt k hk
      have := get_lt g
      omega
    have hsl := simples_len c i
    have hE3 := E3.1
    (conv => whnf)
    refine (impl_add _ P6 hpos h4 (by omega) s3 s3 (E6.row ha) ha' hfr (by omega)).mono ?_
    rintro r h7 ⟨rfl, K7, h7⟩
    have E7 := P6.change rfl (E3.trans E56) K7
    (conv => whnf)
    refine HArith.fits (by omega) (by omega) ?_
    (conv => whnf)
    refine ⟨⟨i + 1, rfl, by omega, E7, ?_⟩, by show c.length - (i + 1) < c.length - i; omega⟩
    rw [simples_succ]
    have hnin : simpleRoot c (i : Nat) ∉ simples c i := fun hm => by
      obtain ⟨j, hj, e⟩ := mem_simples.1 hm
      have := simple_inj hC hi' (by omega) e
      omega
    rcases h7 with ⟨hno, _⟩ | ⟨_, q', _, P7⟩
    · exact absurd ⟨hnin, s1, by rw [s2]; exact hH1⟩ hno
    · exact ⟨q', _, _, _, P7⟩
  have ei : i = c.length := by omega
  subst ei
  clear hge hi
  have C0 : Coll c H (simples c c.length) := ⟨simples_nodup hC _ (Nat.le_refl _), fun r hr => by
    obtain ⟨j, hj, rfl⟩ := mem_simples.1 hr
    exact .simple j hj, fun j hj => mem_simples.2 ⟨j, hj, rfl⟩⟩
  (conv => whnf)
  refine HLoop.intro [11] [39, 40, 41, 42, 45, 46, 47, 48, 12, 49, 50, 51, 52, 53, 13, 54, 55, 56, 57, 58, 59, 60, 61, 62, 63, 64, 65, 66, 51, 43, 44, 11] (by kernel_rfl) (by kernel_rfl) (fun vs h' => ∃ (k : Nat) (Q : List (List Int)), vs = [I k] ∧ k ≤ Q.length ∧ Ext hT h' ∧ St hT.length bm bh bl m H c.length Q h' ∧ Coll c H Q ∧ ∀ j, j < k → ∀ i, i < c.length → ClosedAt c H Q (Q.getD j []) i) (fun vs _ => 28562 - natAt vs 0) ⟨0, _, rfl, by omega, E3, ⟨q, ρ, τ, T, P⟩, C0, fun j hj => by omega⟩ ?_
  clear P C0 E3 q ρ τ T h3
  rintro vs h3 ⟨k, Q, rfl, hk, E3, ⟨q, ρ, τ, T, P⟩, C, hcl⟩
  have hQ := roots_few hC hH hH1 C.nodup C.up
  (conv => whnf)
  refine ⟨rfl, At.load ⟨bl, 0, _, [.sw 2 q 0 Q.length], rfl, P.gl, rfl, rfl⟩ ?_⟩
  (conv => whnf)
  refine HLenW.at ?_
  (conv => whnf)
  refine HIf.dec (fun hlt => ?_) (fun hge => ?_)
  · have hk' : k < Q.length := by omega
    (conv => whnf)
    refine ⟨rfl, At.load ⟨bl, 0, _, [.sw 2 q 0 Q.length], rfl, P.gl, rfl, rfl⟩ ?_⟩
    (conv => whnf)
    refine HIdxW.nat (n := 2) hk' ?_
    (conv => whnf)
    refine HLoadA.row (n := 2) P.ls (by rw [prCells_length]; omega) ?_
    rw [prCells_chunk _ _ _ hk']
    (conv => whnf)
    have hone : ∀ c' ∈ [H0.sl (ρ k) 0 c.length, H0.sl (τ k) 0 c.length], c'.one = true := fun c' hc => by
      simp only [List.mem_cons, List.not_mem_nil, or_false] at hc
      rcases hc with rfl | rfl <;> rfl
    refine HStoreA.all (Or.inl rfl) (get_new _ _) rfl rfl hone ?_
    rw [set_new]
    have Ep := Ext.push h3 [Row.own [H0.sl (ρ k) 0 c.length, H0.sl (τ k) 0 c.length]]
    have gp := get_new h3 (Row.own [H0.sl (ρ k) 0 c.length, H0.sl (τ k) 0 c.length])
    have hqp : q ≠ h3.length := fun e => by have := get_lt P.ls; omega
    have P1 := P.ext Ep
    have E4 := E3.trans Ep
    obtain ⟨rl, rt, hrk⟩ := P1.rt k hk'
    obtain ⟨cl, ct, hck⟩ := P1.ct k hk'
    have hup : RootUp c H (Q.getD k []) := C.up _ (getD_in hk')
    generalize h3 ++ [Row.own [H0.sl (ρ k) 0 c.length, H0.sl (τ k) 0 c.length]] = h5 at Ep gp P1 E4 hrk hck ⊢
    generalize h3.length = rp at gp hqp ⊢
    generalize hRk : Q.getD k [] = R at *
    generalize T.getD k [] = U at *
    (conv => whnf)
    refine ⟨rfl, (hx.ext E4).len ?_⟩
    (conv => whnf)
    generalize ρ k = A at gp hrk ⊢
    generalize τ k = B' at gp hck ⊢
    refine HLoop.intro [51] [52, 53, 13, 54, 55, 56, 57, 58, 59, 60, 61, 62, 63, 64, 65, 66, 51] (by kernel_rfl) (by kernel_rfl) (fun vs h' => ∃ (i : Nat) (X : List (List Int)), vs = [I i] ∧ i ≤ c.length ∧ Ext hT h' ∧ (∃ q ρ τ T, Prs hT.length bm bh bl m q H c.length ρ τ (Q ++ X) T h' ∧ q ≠ rp) ∧ Coll c H (Q ++ X) ∧ (∀ t, t < i → ClosedAt c H (Q ++ X) R t) ∧
      h'[rp]? = some (.own [H0.sl A 0 c.length, H0.sl B' 0 c.length]) ∧ h'[A]? = some (.own (R.map ci ++ rt)) ∧ h'[B']? = some (.own (U.map ci ++ ct))) (fun vs _ => c.length - natAt vs 0) ⟨0, [], rfl, by omega, E4, ⟨q, ρ, τ, T, by rw [List.append_nil]; exact P1, hqp⟩, by rw [List.append_nil]; exact C, fun t ht => by omega, gp, hrk, hck⟩ ?_
    clear P1 P C hqp gp hrk hck E4 E3 Ep hone ρ τ T
    rintro vs h5 ⟨i, X, rfl, hi, E5, ⟨q, ρ, τ, T, P, hqp⟩, C, hci, gp, hrk, hck⟩
    (conv => whnf)
    refine HIf.dec (fun hlt2 => ?_) (fun hge2 => ?_)
    · have hi' : i < c.length := by omega
      have hiR : Ints h5 (.sl A 0 c.length) R := by have := Ints.ofOwn hrk; rwa [rl] at this
      have hiU : Ints h5 (.sl B' 0 c.length) U := by have := Ints.ofOwn hck; rwa [cl] at this
      have hrow1 := hC.row i hi'
      have hrow2 := (transp_cartan hC).row i (by rw [transp_length]; exact hi')
      rw [transp_length] at hrow2
      (conv => whnf)
      refine Or.inr (Or.inr (Or.inl (Exists.intro 11 (Exists.intro [0, 1, 2, 3, 4, 6, 7, 8, 9] (Exists.intro [5, 10, 11] (And.intro (show heldOk _ _ _ _ = true by kernel_rfl) ?_))))))
      (conv => whnf)
      refine HField.at' (by decide) ?_
      (conv => whnf)
      refine ⟨rfl, At.load ⟨rp, 0, _, _, rfl, gp, rfl, rfl⟩ ?_⟩
      (conv => whnf)
      refine HField.at' (by decide) ?_
      (conv => whnf)
      refine ⟨rfl, At.load ⟨rp, 1, _, _, rfl, gp, rfl, rfl⟩ ?_⟩
      (conv => whnf)
      refine HCallF.fresh (impl_mirrored _ _ _ c i R (hx.ext E5).frz hiR.frz hi' (by omega) (by omega) (by omega)) (fun h6 y6 F6 => ?_)
      (conv => whnf)
      refine HCallF.fresh (impl_mirrored _ _ _ (transp c) i U ((RT.ext E5).ext F6.1).frz (hiU.ext F6.1).frz (by rw [transp_length]; exact hi') (by omega) (by omega) (by omega)) (fun h7 y7 F7 => ?_)
      (conv => whnf)
      have E57 := F6.1.trans F7.1
      obtain ⟨E6, a, t6, rfl, ha0, ha⟩ := F6
      obtain ⟨E7, a', t7, rfl, ha0', ha'⟩ := F7
      have el : (mirror c i R).length = c.length := by rw [mirror_length, rl]
      have el' : (mirror (transp c) i U).length = c.length := by rw [mirror_length, cl]
      rw [el, el']
      have hQX := roots_few hC hH hH1 C.nodup C.up
      have P7 := P.ext E57
      have hfr : ∀ t, t < (Q ++ X).length → ρ t ≠ a := fun t ht e => by
        obtain ⟨_, u, g⟩ := P.rt t ht
        have := get_lt g
        omega
      have hE5 := E5.1
      have hE57 := E57.1
      refine (impl_add _ P7 hpos h4 (by omega) el el' (E7.row ha) ha' hfr (by omega)).mono ?_
      rintro r h8 ⟨rfl, K8, hcase⟩
      have E8 := P7.change rfl (E5.trans E57) K8
      have hrpl := get_lt gp
      have hrp : rp ≠ m ∧ rp ≠ bl := by
        obtain ⟨ks, hm1, _⟩ := P.mp
        refine ⟨fun e => ?_, fun e => ?_⟩
        · rw [e, hm1] at gp; cases gp
        · rw [e, P.gl] at gp; simp at gp
      have kp : ∀ {z : Nat} {x : Row}, h5[z]? = some x → z ≠ m ∧ z ≠ q ∧ z ≠ bl → h8[z]? = some x := fun {z x} g hn => by
        rw [K8.2 z (get_lt (E57.row g)) (fun e => e.elim hn.1 fun e => e.elim hn.2.1 hn.2.2)]
        exact E57.row g
      have gp8 := kp gp ⟨hrp.1, Ne.symm hqp, hrp.2⟩
      have hrk8 := kp hrk (P.nrow hpos rl hrk)
      have hck8 := kp hck (P.nrow hpos cl hck)
      (conv => whnf)
      refine HArith.fits (by omega) (by omega) ?_
      (conv => whnf)
      rcases hcase with ⟨hno, P8⟩ | ⟨⟨y1, y2, y3⟩, q', hq', P8⟩
      · refine ⟨⟨i + 1, X, rfl, by omega, E8, ⟨q, _, _, _, P8, hqp⟩, C, fun t ht => ?_, gp8, hrk8, hck8⟩, by show c.length - (i + 1) < c.length - i; omega⟩
        by_cases e : t = i
        · subst e
          intro z1 z2
          refine Classical.byContradiction fun z3 => hno ⟨z3, z1, z2⟩
        · exact hci t (by omega)
      · refine ⟨⟨i + 1, X ++ [mirror c i R], rfl, by omega, E8, ⟨q', _, _, _, by rw [← List.append_assoc]; exact P8, by omega⟩, ?_, fun t ht => ?_, gp8, hrk8, hck8⟩, by show c.length - (i + 1) < c.length - i; omega⟩
        · rw [← List.append_assoc]
          refine ⟨?_, fun r hr => ?_, fun t ht => List.mem_append.2 (Or.inl (C.simple t ht))⟩
          · rw [List.nodup_append]
            exact ⟨C.nodup, by simp, fun x hx y hy e => by
              obtain rfl : y = _ := by simpa using hy
              exact y1 (e ▸ hx)⟩
          · rcases List.mem_append.1 hr with hr | hr
            · exact C.up r hr
            · obtain rfl : r = _ := by simpa using hr
              exact hup.close hC hH hH1 hi' y2 y3
        · rw [← List.append_assoc]
          by_cases e : t = i
          · subst e
            exact fun _ _ => List.mem_append.2 (Or.inr (by simp))
          · exact (hci t (by omega)).more
    · have ei : i = c.length := by omega
      subst ei
      (conv => whnf)
      refine HArith.fits (by omega) (by omega) ?_
      (conv => whnf)
      refine ⟨⟨k + 1, Q ++ X, rfl, by simp; omega, E5, ⟨q, ρ, τ, T, P⟩, C, fun t ht i hi => ?_⟩, by show 28562 - (k + 1) < 28562 - k; omega⟩
      rw [getD_pre (by omega)]
      by_cases e : t = k
      · subst e
        rw [hRk]
        exact hci i hi
      · exact (hcl t (by omega) i hi).more
  have ek : k = Q.length := by omega
  subst ek
  clear hge hk
  have hall : ∀ r, r ∈ Q ↔ RootUp c H r := C.all fun r hr i hi => by
    obtain ⟨j, hj, rfl⟩ := List.getElem_of_mem hr
    have := hcl j hj i hi
    simpa [List.getD, hj] using this
  have hlen : ∀ a ∈ Q, a.length = c.length := fun a ha => by
    obtain ⟨n, R, _⟩ := (C.up a ha).facts hC hH hH1
    exact R.len
  have hL : RootList c H (insR Q) := ⟨insR_sorted Q hlen, (insR_perm Q).nodup_iff.2 C.nodup, fun r => (insR_perm Q).mem_iff.trans (hall r)⟩
  obtain ⟨aE, ti, hti, hts⟩ := agg_rcd (P := Try.prog) (t := 65) (zs := [.slice none 0 0, .slice none 0 0]) (kd_ok _)
  have hnb : ∀ {z : Nat} {l : List Int} {t : List H0}, l.length = c.length → h3[z]? = some (.own (l.map ci ++ t)) → z ≠ q := fun hl g => (P.nrow hpos hl g).2.1
  have hsort := sortW_calls (P := Try.prog) Try.sortP (k := 2) (by omega) aE (fun w => by show (Go.sizeOf 65).run Try.prog w = _; simp [sizeOf, typeInfo, hti, hts]) (CR := 73) (enters_of Try.func73 (by kernel_rfl) rfl)
    (fun i j => cmpR (Q.getD i []) (Q.getD j [])) ⟨fun x => cmpR_swo.irrefl _, fun x y z => cmpR_swo.trans _ _ _, fun x y z => cmpR_swo.ntrans _ _ _⟩ (h := h3) (r := q) (len := Q.length) P.ls (prCells_length _ _ _ _) (prCells_one _ _ _ _) (by omega)
    (fun i j hi hj => by
      have ci : chunk 2 (prCells c.length ρ τ Q.length) i = [.sl (ρ i) 0 c.length, .sl (τ i) 0 c.length] := prCells_chunk _ _ _ hi
      have cj : chunk 2 (prCells c.length ρ τ Q.length) j = [.sl (ρ j) 0 c.length, .sl (τ j) 0 c.length] := prCells_chunk _ _ _ hj
      rw [ci, cj]
      obtain ⟨e1, t1, g1⟩ := P.rt i hi
      obtain ⟨e2, t2, g2⟩ := P.rt j hj
      have i1 : Ints (h3.set q .gone) (.sl (ρ i) 0 c.length) (Q.getD i []) := by
        have := Ints.ofOwn (h := h3.set q .gone) (r := ρ i) (t := t1) (by rw [List.getElem?_set_ne (Ne.symm (hnb e1 g1))]; exact g1)
        rwa [e1] at this
      have i2 : Ints (h3.set q .gone) (.sl (ρ j) 0 c.length) (Q.getD j []) := by
        have := Ints.ofOwn (h := h3.set q .gone) (r := ρ j) (t := t2) (by rw [List.getElem?_set_ne (Ne.symm (hnb e2 g2))]; exact g2)
        rwa [e2] at this
      exact impl_cmpPair _ _ _ _ _ _ _ i1.frz i2.frz rfl rfl rfl rfl (by omega) (by omega))
  change HCalls Try.prog 72 _ _ _ at hsort
  (conv => whnf)
  refine ⟨rfl, At.load ⟨bl, 0, _, [.sw 2 q 0 Q.length], rfl, P.gl, rfl, rfl⟩ ?_⟩
  (conv => whnf)
  refine hsort.mono ?_
  rintro z hS ⟨rfl, σ, hp, hs, hSe⟩
  have hσl : σ.length = Q.length := by simpa using hp.length_eq
  have hσm : ∀ j, j < Q.length → σ.getD j 0 < Q.length := fun j hj => by
    have hm : σ.getD j 0 ∈ σ := by simp [List.getD, show j < σ.length by omega]
    simpa using hp.mem_iff.1 hm
  have hσi : ∀ i j, i < j → j < Q.length → σ.getD i 0 ≠ σ.getD j 0 := fun i j hij hj e => by
    have hnd : σ.Nodup := hp.nodup_iff.2 List.nodup_range
    have := (List.pairwise_iff_getElem.1 hnd) i j (by omega) (by omega) hij
    simp only [List.getD, show i < σ.length by omega, show j < σ.length by omega, List.getElem?_eq_getElem, Option.getD_some] at e
    exact this e
  have hQs := sorted_insR hlen hp hs
  have hLl := insR_length Q
  have hLg : ∀ j, j < Q.length → (insR Q).getD j [] = Q.getD (σ.getD j 0) [] := fun j hj => by
    rw [← hQs]
    simp [List.getD, show j < σ.length by omega]
  rw [sorted_cells hp] at hSe
  obtain ⟨ρ', hρ⟩ : ∃ f : Nat → Nat, ∀ j, f j = ρ (σ.getD j 0) := ⟨_, fun _ => rfl⟩
  obtain ⟨τ', hτ⟩ : ∃ f : Nat → Nat, ∀ j, f j = τ (σ.getD j 0) := ⟨_, fun _ => rfl⟩
  rw [show (fun j => ρ (σ.getD j 0)) = ρ' from funext fun j => (hρ j).symm, show (fun j => τ (σ.getD j 0)) = τ' from funext fun j => (hτ j).symm] at hSe
  obtain ⟨w1, w3, w4, w5, w6⟩ := P.low
  have hE3 := E3.1
  have hET := E.1
  have ES : Ext hT hS := by rw [hSe]; exact E3.set (by omega) _
  have gq : hS[q]? = some (.own (prCells c.length ρ' τ' Q.length)) := by
    rw [hSe, List.getElem?_set_self (get_lt P.ls)]
  have hqb : q ≠ bl := fun e => by
    have g1 := P.gl
    rw [← e, P.ls] at g1
    simp only [Option.some.injEq, Row.own.injEq] at g1
    have := prCells_length c.length ρ τ Q.length
    rw [g1] at this
    simp at this
    omega
  have gbl : hS[bl]? = some (.own [.sw 2 q 0 Q.length]) := by
    rw [hSe, List.getElem?_set_ne hqb]
    exact P.gl
  have grow : ∀ j, j < Q.length → ∃ t, hS[ρ' j]? = some (.own (((insR Q).getD j []).map ci ++ t)) := fun j hj => by
    obtain ⟨e, t, g⟩ := P.rt _ (hσm j hj)
    rw [hLg j hj, hSe, hρ]
    exact ⟨t, by rw [List.getElem?_set_ne (Ne.symm (hnb e g))]; exact g⟩
  have hSl : hS.length = h3.length := by rw [hSe]; simp
  have hinj : ∀ i j, i < j → j < Q.length → ρ' i ≠ ρ' j := fun i j hij hj e => by
    rw [hρ, hρ] at e
    have := hσi i j hij hj
    rcases Nat.lt_or_gt_of_ne this with h | h
    · exact P.inj _ _ h (hσm j hj) e
    · exact P.inj _ _ h (hσm i (by omega)) e.symm
  have hlow : ∀ j, j < Q.length → hT.length ≤ ρ' j := fun j hj => by rw [hρ]; exact w6 _ (hσm j hj)
  have hLen := hL.1
  clear hsort hnb P hs hp hSe aE hti hts hρ hτ hσi hσm hLg hQs
  (conv => whnf)
  refine HLit.empty ?_
  (conv => whnf)
  refine HLit.empty ?_
  (conv => whnf)
  have Ea : Ext hS (hS ++ [Row.own []] ++ [Row.own []]) := (Ext.push hS _).pushed _
  have ga : (hS ++ [Row.own []] ++ [Row.own []])[hS.length]? = some (.own []) := by simp
  have gb : (hS ++ [Row.own []] ++ [Row.own []])[hS.length + 1]? = some (.own []) := by simp
  have n1 : (hS ++ [Row.own []]).length = hS.length + 1 := by simp
  rw [n1]
  generalize hS ++ [Row.own []] ++ [Row.own []] = h6 at Ea ga gb ⊢
  refine ⟨rfl, At.load ⟨bl, 0, _, [.sw 2 q 0 Q.length], rfl, Ea.row gbl, rfl, rfl⟩ ?_⟩
  (conv => whnf)
  refine HLenW.at ?_
  (conv => whnf)
  refine HLoop.intro [73, 14, 15] [74, 75, 76, 17, 77, 78, 79, 80, 81, 14, 82, 83, 84, 85, 86, 15, 87, 73] (by kernel_rfl) (by kernel_rfl) (fun vs h' => ∃ (i r1 r2 : Nat), vs = [I i, .s (.sl r1 0 i), .s (.sl r2 0 i)] ∧ i ≤ Q.length ∧ Ext hS h' ∧ hS.length ≤ r1 ∧ hS.length ≤ r2 ∧ r1 ≠ r2 ∧ h'[r1]? = some (.own (slCells c.length ρ' i)) ∧ h'[r2]? = some (.own (slCells c.length τ' i))) (fun vs _ => Q.length - natAt vs 0)
    ⟨0, hS.length, hS.length + 1, rfl, by omega, Ea, Nat.le_refl _, by omega, by omega, ga, gb⟩ ?_
  clear Ea ga gb n1 h6
  rintro vs h6 ⟨i, r1, r2, rfl, hi, E6, hr1, hr2, hr12, g1, g2⟩
  (conv => whnf)
  refine HIf.dec (fun hlt => ?_) (fun hge => ?_)
  · have hi' : i < Q.length := by omega
    (conv => whnf)
    refine HIdxW.nat (n := 2) hi' ?_
    (conv => whnf)
    refine HLoadA.row (n := 2) (E6.row gq) (by rw [prCells_length]; omega) ?_
    rw [prCells_chunk _ _ _ hi']
    (conv => whnf)
    have hone : ∀ c' ∈ [H0.sl (ρ' i) 0 c.length, H0.sl (τ' i) 0 c.length], c'.one = true := fun c' hc => by
      simp only [List.mem_cons, List.not_mem_nil, or_false] at hc
      rcases hc with rfl | rfl <;> rfl
    refine HStoreA.all (Or.inl rfl) (get_new _ _) rfl rfl hone ?_
    rw [set_new]
    have Ep := Ext.push h6 [Row.own [H0.sl (ρ' i) 0 c.length, H0.sl (τ' i) 0 c.length]]
    have gp := get_new h6 (Row.own [H0.sl (ρ' i) 0 c.length, H0.sl (τ' i) 0 c.length])
    have l1 := get_lt g1
    have l2 := get_lt g2
    have g1 := Ep.row g1
    have g2 := Ep.row g2
    have E7 := E6.trans Ep
    generalize hrp : h6.length = rp at gp l1 l2 ⊢
    generalize h6 ++ [Row.own [H0.sl (ρ' i) 0 c.length, H0.sl (τ' i) 0 c.length]] = h7 at Ep gp g1 g2 E7 ⊢
    (conv => whnf)
    refine HField.at' (by decide) ?_
    (conv => whnf)
    refine ⟨rfl, At.load ⟨rp, 0, _, _, rfl, gp, rfl, rfl⟩ ?_⟩
    (conv => whnf)
    refine HLit.row rfl ?_
    (conv => whnf)
    refine ⟨rfl, rfl, HApp.rawS ((Ext.push h7 _).row g1) (get_new _ _) (slCells_length _ _ _) rfl (by omega) ?_⟩
    have l1' := get_lt g1
    have l2' := get_lt g2
    have hE7 := E7.1
    obtain ⟨n8, a8, k8⟩ := rawS_facts (h := h7) (x := Row.own [H0.sl (ρ' i) 0 c.length]) (y := Row.own (slCells c.length ρ' i ++ [H0.sl (ρ' i) 0 c.length])) l1'
    have nl : (h7 ++ [Row.own [H0.sl (ρ' i) 0 c.length]]).length = h7.length + 1 := by simp
    rw [nl, ← slCells_succ]
    rw [← slCells_succ] at n8 a8 k8
    have gp8 := (k8 rp (get_lt gp) (by omega)).trans gp
    have g28 := (k8 r2 l2' (Ne.symm hr12)).trans g2
    have E8 : Ext hS ((h7 ++ [Row.own [H0.sl (ρ' i) 0 c.length]]).set r1 .gone ++ [Row.own (slCells c.length ρ' (i + 1))]) := ⟨by omega, fun z hz => by rw [k8 z (by omega) (by omega)]; exact E7.2 z hz⟩
    generalize (h7 ++ [Row.own [H0.sl (ρ' i) 0 c.length]]).set r1 .gone ++ [Row.own (slCells c.length ρ' (i + 1))] = h8 at n8 a8 k8 gp8 g28 E8 ⊢
    (conv => whnf)
    refine HField.at' (by decide) ?_
    (conv => whnf)
    refine ⟨rfl, At.load ⟨rp, 1, _, _, rfl, gp8, rfl, rfl⟩ ?_⟩
    (conv => whnf)
    refine HLit.row rfl ?_
    (conv => whnf)
    refine ⟨rfl, rfl, HApp.rawS ((Ext.push h8 _).row g28) (get_new _ _) (slCells_length _ _ _) rfl (by omega) ?_⟩
    have l28 := get_lt g28
    obtain ⟨n9, a9, k9⟩ := rawS_facts (h := h8) (x := Row.own [H0.sl (τ' i) 0 c.length]) (y := Row.own (slCells c.length τ' i ++ [H0.sl (τ' i) 0 c.length])) l28
    have nl9 : (h8 ++ [Row.own [H0.sl (τ' i) 0 c.length]]).length = h8.length + 1 := by simp
    rw [nl9, ← slCells_succ]
    rw [← slCells_succ] at n9 a9 k9
    have g19 := (k9 (h7.length + 1) (by omega) (by omega)).trans a8
    have E9 : Ext hS ((h8 ++ [Row.own [H0.sl (τ' i) 0 c.length]]).set r2 .gone ++ [Row.own (slCells c.length τ' (i + 1))]) := ⟨by omega, fun z hz => by rw [k9 z (by omega) (by omega)]; exact E8.2 z hz⟩
    generalize (h8 ++ [Row.own [H0.sl (τ' i) 0 c.length]]).set r2 .gone ++ [Row.own (slCells c.length τ' (i + 1))] = h9 at n9 a9 k9 g19 E9 ⊢
    (conv => whnf)
    refine HArith.fits (by omega) (by omega) ?_
    (conv => whnf)
    exact ⟨⟨i + 1, h7.length + 1, h8.length + 1, rfl, by omega, E9, by omega, by omega, by omega, g19, a9⟩, by show Q.length - (i + 1) < Q.length - i; omega⟩
  have ei : i = Q.length := by omega
  subst ei
  (conv => whnf)
  have EF := (E.trans ES).trans E6
  have hg1 := get_lt g1
  refine ⟨_, _, rfl, EF, _, hL, r1, ρ', by rw [hLl], by omega, hg1, fun j hj => ?_, ⟨_, g1, by rw [slCells_length, hLl]; exact Nat.le_refl _, fun j hj => ?_⟩, fun j hj => ?_, fun j hj => ?_, fun j k hjk hk => hinj j k hjk (by omega)⟩
  · rw [hLl] at hj
    obtain ⟨t, g⟩ := grow j hj
    have := hlow j hj
    have := get_lt (E6.row g)
    omega
  · rw [hLl] at hj
    rw [slCells_get _ _ hj]
    have hm : (insR Q).getD j [] ∈ insR Q := getD_in (by omega)
    have := hlen _ ((insR_perm Q).mem_iff.1 hm)
    rw [this]
  · rw [hLl] at hj
    obtain ⟨t, g⟩ := grow j hj
    exact ⟨t, E6.row g⟩
  · rw [hLl] at hj
    obtain ⟨t, g⟩ := grow j hj
    have := get_lt g
    omega

end Go.Proofs.Ytnooeaemjnmkdaa.Hx

namespace Go.Proofs.Ytnooeaemjnmkdaa.Hx
open Go.RowKit

theorem takeL_snoc (L : List (List Int)) {k : Nat} (h : k < L.length) : L.take (k + 1) = L.take k ++ [L.getD k []] := by
  rw [List.take_succ_eq_append_getElem h]
  simp [List.getD, h]
theorem memL_snoc {L : List (List Int)} {a : List Int} {k : Nat} (hk : k < L.length) (h : a ∉ L.take k) (h2 : L.getD k [] ≠ a) : a ∉ L.take (k + 1) := by
  rw [takeL_snoc L hk]
  simp only [List.mem_append, List.mem_singleton, not_or]
  exact ⟨h, fun e => h2 e.symm⟩
theorem memL_at {L : List (List Int)} {a : List Int} {k : Nat} (hk : k < L.length) (h2 : L.getD k [] = a) : a ∈ L := by
  have : L[k] = a := by simpa [List.getD, hk] using h2
  rw [← this]
  exact List.getElem_mem hk

/-- The first simple root in a list. -/
def firstS (c : List (List Int)) (L : List (List Int)) : Option Nat := (List.range c.length).find? fun i => decide (simpleRoot c (i : Nat) ∈ L)
/-- The first k roots reflected, the simple one left out; nothing if one of them is not positive or comes twice. -/
def nextTo (c : List (List Int)) (i : Nat) (L : List (List Int)) : Nat → Option (List (List Int))
  | 0 => some []
  | k + 1 => match nextTo c i L k with
    | none => none
    | some R => if L.getD k [] = simpleRoot c (i : Nat) then some R else if rootSign (reflectRoot c (i : Nat) (L.getD k [])) = 1 ∧ reflectRoot c (i : Nat) (L.getD k []) ∉ R then some (R ++ [reflectRoot c (i : Nat) (L.getD k [])]) else none
def woi (c : List (List Int)) : Nat → List (List Int) → List Int → Option (List Int)
  | 0, _, _ => none
  | f + 1, L, o => if L.length = 0 then some o else match firstS c L with
    | none => none
    | some i => match nextTo c i L L.length with
      | none => none
      | some R => woi c f R (o ++ [(i : Int)])
def woiOk (c : List (List Int)) (L : List (List Int)) : Bool := isCartan c && (woi c 16 L []).isSome
def woiW (c : List (List Int)) (L : List (List Int)) : List Int := if isCartan c then (woi c 16 L []).getD [] else []

theorem firstS_at {c L : List (List Int)} {i : Nat} (hi : i < c.length) (h : simpleRoot c (i : Nat) ∈ L) (hb : ∀ t : Nat, t < i → simpleRoot c (t : Nat) ∉ L) : firstS c L = some i := by
  unfold firstS
  rw [List.find?_range_eq_some]
  exact ⟨decide_eq_true h, by simpa using hi, fun t ht => by simp [hb t ht]⟩
theorem firstS_none {c L : List (List Int)} (hb : ∀ t : Nat, t < c.length → simpleRoot c (t : Nat) ∉ L) : firstS c L = none := by
  unfold firstS
  rw [List.find?_range_eq_none]
  intro t ht
  simp [hb t ht]
theorem nextTo_skip {c L R : List (List Int)} {i k : Nat} (h : nextTo c i L k = some R) (h2 : L.getD k [] = simpleRoot c (i : Nat)) : nextTo c i L (k + 1) = some R := by
  rw [nextTo, h]
  simp only
  rw [if_pos h2]
theorem nextTo_add {c L R : List (List Int)} {i k : Nat} (h : nextTo c i L k = some R) (h2 : L.getD k [] ≠ simpleRoot c (i : Nat)) (h3 : rootSign (reflectRoot c (i : Nat) (L.getD k [])) = 1) (h4 : reflectRoot c (i : Nat) (L.getD k []) ∉ R) :
    nextTo c i L (k + 1) = some (R ++ [reflectRoot c (i : Nat) (L.getD k [])]) := by
  rw [nextTo, h]
  simp only
  rw [if_neg h2, if_pos ⟨h3, h4⟩]
theorem nextTo_bad {c L R : List (List Int)} {i k : Nat} (h : nextTo c i L k = some R) (h2 : L.getD k [] ≠ simpleRoot c (i : Nat)) (h3 : rootSign (reflectRoot c (i : Nat) (L.getD k [])) ≠ 1 ∨ reflectRoot c (i : Nat) (L.getD k []) ∈ R) : nextTo c i L (k + 1) = none := by
  rw [nextTo, h]
  simp only
  rw [if_neg h2, if_neg]
  rintro ⟨a, b⟩
  rcases h3 with h3 | h3
  · exact h3 a
  · exact b h3
theorem nextTo_none {c L : List (List Int)} {i k : Nat} (h : nextTo c i L k = none) : ∀ m, k ≤ m → nextTo c i L m = none := by
  intro m hm
  induction m with
  | zero =>
    have : k = 0 := by omega
    subst this
    exact h
  | succ m ih =>
    by_cases e : k = m + 1
    · subst e; exact h
    · rw [nextTo, ih (by omega)]
theorem woi_done {c L : List (List Int)} {f : Nat} {o : List Int} (h : L.length = 0) : woi c (f + 1) L o = some o := by
  rw [woi, if_pos h]
theorem woi_nofirst {c L : List (List Int)} {f : Nat} {o : List Int} (h : L.length ≠ 0) (h2 : firstS c L = none) : woi c (f + 1) L o = none := by
  rw [woi, if_neg h, h2]
theorem woi_nonext {c L : List (List Int)} {f i : Nat} {o : List Int} (h : L.length ≠ 0) (h2 : firstS c L = some i) (h3 : nextTo c i L L.length = none) : woi c (f + 1) L o = none := by
  rw [woi, if_neg h, h2]
  simp only
  rw [h3]
theorem woi_next {c L R : List (List Int)} {f i : Nat} {o : List Int} (h : L.length ≠ 0) (h2 : firstS c L = some i) (h3 : nextTo c i L L.length = some R) : woi c (f + 1) L o = woi c f R (o ++ [(i : Int)]) := by
  rw [woi, if_neg h, h2]
  simp only
  rw [h3]
theorem woi_one {c L : List (List Int)} {o : List Int} (h : L.length ≠ 0) : woi c 1 L o = none := by
  cases h2 : firstS c L with
  | none => exact woi_nofirst h h2
  | some i =>
    cases h3 : nextTo c i L L.length with
    | none => exact woi_nonext h h2 h3
    | some R => rw [woi_next h h2 h3, woi]
theorem woi_off {c L : List (List Int)} (h : isCartan c = false) : woiOk c L = false ∧ woiW c L = [] := by simp [woiOk, woiW, h]
theorem woi_some {c L : List (List Int)} {o : List Int} (h : isCartan c = true) (h2 : woi c 16 L [] = some o) : woiOk c L = true ∧ woiW c L = o := by simp [woiOk, woiW, h, h2]
theorem woi_none {c L : List (List Int)} (h2 : woi c 16 L [] = none) : woiOk c L = false ∧ woiW c L = [] := by
  refine ⟨by simp [woiOk, h2], ?_⟩
  unfold woiW
  rw [h2]
  split <;> rfl
theorem woi_len {c : List (List Int)} : ∀ (f : Nat) (L : List (List Int)) (o y : List Int), woi c f L o = some y → y.length ≤ o.length + f
  | 0, _, _, _, h => by rw [woi] at h; cases h
  | f + 1, L, o, y, h => by
    rw [woi] at h
    split at h
    · injection h with h
      subst h
      omega
    · split at h
      · cases h
      · split at h
        · cases h
        · have := woi_len f _ _ y h
          simp only [List.length_append, List.length_cons, List.length_nil] at this
          omega
theorem woiW_len (c L : List (List Int)) : (woiW c L).length ≤ 16 := by
  unfold woiW
  split
  · cases h : woi c 16 L [] with
    | none => simp
    | some y =>
      have := woi_len 16 L [] y h
      simpa using this
  · simp
theorem rootSign_cases (a : List Int) : rootSign a = 0 ∨ rootSign a = 1 ∨ rootSign a = -1 := by
  unfold rootSign
  split
  · exact Or.inl rfl
  · split
    · exact Or.inr (Or.inl rfl)
    · exact Or.inr (Or.inr rfl)
theorem letter_root {c : List (List Int)} (h : isCartan c = true) {i : Nat} (hi : i < c.length) : simpleRoot c (i : Nat) = (List.replicate c.length (0 : Int)).set (i : Int).toNat 1 :=
  simpleRoot_eq h (by simp [isPoint, inRange]; omega)
theorem tot_app (L : List (List Int)) (l : List Int) : tot (L ++ [l]) = tot L + l.length := by
  rw [← flat_len, ← flat_len, List.flatten_append]
  simp

/-- A slice of slices that is only read: it lay there before, or lies in rows of its own, not row r. -/
def RdM (h0 : Heap) (r : Nat) (h : Heap) (y : H0) (L : List (List Int)) : Prop := Rows h0 y L ∨ ∃ b e, e ≤ h.length ∧ (r < b ∨ e ≤ r) ∧ OwnM b e h y L
theorem OwnM.but {b e r : Nat} {h h' : Heap} {x : H0} {L : List (List Int)} (H : OwnM b e h x L) (k : But r h h') (o : r < b ∨ e ≤ r) : OwnM b e h' x L := by
  obtain ⟨q, ρ, g1, g2, g3, g4, m⟩ := H
  refine ⟨q, ρ, g1, g2, g3, g4, m.move ?_ (fun i hi => ?_)⟩
  · obtain ⟨cs, h1, _⟩ := m.outer
    exact k.2 q (get_lt h1) (by omega)
  · obtain ⟨t, h1⟩ := m.inner i hi
    have := g4 i hi
    exact k.2 _ (get_lt h1) (by omega)
theorem RdM.rows {h0 h : Heap} {r : Nat} {y : H0} {L : List (List Int)} (H : RdM h0 r h y L) (E : Ext h0 h) : Rows h y L := by
  rcases H with H | ⟨b, e, _, _, O⟩
  · exact H.ext E
  · exact O.rows
theorem RdM.ext {h0 h h' : Heap} {r : Nat} {y : H0} {L : List (List Int)} (H : RdM h0 r h y L) (E : Ext h h') : RdM h0 r h' y L := by
  rcases H with H | ⟨b, e, g1, g2, O⟩
  · exact Or.inl H
  · have := E.1
    exact Or.inr ⟨b, e, by omega, g2, O.ext E⟩
theorem RdM.but {h0 h h' : Heap} {r r' : Nat} {y : H0} {L : List (List Int)} (H : RdM h0 r h y L) (B : But r h h') (hr : h.length ≤ r') : RdM h0 r' h' y L := by
  rcases H with H | ⟨b, e, g1, g2, O⟩
  · exact Or.inl H
  · have := B.1
    exact Or.inr ⟨b, e, by omega, Or.inr (by omega), O.but B g2⟩

set_option smartUnfolding false

theorem impl_hasRoot_1 (h : Heap) (x : H0) (r : Nat) (y : H0) (a b : List Int) (hx : Ints h x a) (hr : At h (.ptr r 0) y) (hy : Ints h y b) (hbl : b.length ≤ 2199023255552) :
    HCalls Try.prog 80 [.s x, .s (.ptr r 0)] h (fun v h' => v = B (decide (b = a)) ∧ h' = h) := by
  refine calls_of_hFun (m := 0) kd_ok mixed Try.func80 rfl (by kernel_rfl) rfl rfl (of_decide_eq_true rfl) ?_; unfold hFun; (conv => whnf)
  refine ⟨rfl, hr.load ?_⟩
  (conv => whnf)
  refine (lib_Equal _ _ _ b a hy hx hbl).mono ?_
  rintro v h' ⟨rfl, rfl⟩
  (conv => whnf)
  exact ⟨rfl, rfl⟩

theorem lib_IndexFunc_root (h : Heap) (x : H0) (r : Nat) (y : H0) (L : List (List Int)) (w : List Int) (hx : Rows h x L) (hr : At h (.ptr r 0) y) (hy : Ints h y w) (hL : L.length ≤ 1048576) (hw : w.length ≤ 1048576) :
    HCalls Try.prog 101 [.s x, .fn 80 [.ptr r 0]] h (fun v h' => ∃ k : Int, v = I k ∧ (0 ≤ k ↔ w ∈ L) ∧ h' = h) := by
  refine calls_of_hFun (m := 0) kd_ok mixed Try.func101 rfl (by kernel_rfl) rfl rfl (of_decide_eq_true rfl) ?_; unfold hFun; (conv => whnf)
  refine ⟨rfl, hx.len ?_⟩
  (conv => whnf)
  refine HLoop.intro [8] [9, 10, 5, 11, 12, 13, 14, 15, 16, 17, 4, 18, 8] (by kernel_rfl) (by kernel_rfl) (fun vs h' => ∃ i : Nat, vs = [I i] ∧ h' = h ∧ i ≤ L.length ∧ w ∉ L.take i) (fun vs _ => L.length - natAt vs 0) ⟨0, rfl, rfl, by omega, by simp⟩ ?_
  rintro vs h' ⟨i, rfl, hh, hi, hb⟩
  subst h'
  (conv => whnf)
  refine HIf.dec (fun hlt => ?_) (fun hge => ?_)
  · (conv => whnf)
    refine ⟨rfl, Rows.idxN hx (by omega) (fun p z hp hz => ?_)⟩
    (conv => whnf)
    refine ⟨rfl, hp.load ?_⟩
    (conv => whnf)
    refine (impl_hasRoot_1 _ _ r y _ w hz hr hy (by omega)).mono ?_
    rintro v h2 ⟨rfl, hh⟩
    subst h2
    (conv => whnf)
    refine HIf.dec (fun he => ?_) (fun hne => ?_)
    · (conv => whnf)
      exact ⟨_, rfl, ⟨fun _ => memL_at (by omega) he.symm, fun _ => by omega⟩, rfl⟩
    · (conv => whnf)
      refine HArith.fits (by omega) (by omega) ?_
      (conv => whnf)
      exact ⟨⟨i + 1, rfl, rfl, by omega, memL_snoc (by omega) hb (Ne.symm hne)⟩, by show L.length - (i + 1) < L.length - i; omega⟩
  · have e : i = L.length := by omega
    subst e
    rw [List.take_length] at hb
    (conv => whnf)
    exact ⟨_, rfl, ⟨fun h => by omega, fun h => absurd h hb⟩, rfl⟩

theorem impl_hasRoot (h : Heap) (x0 : H0) (L : List (List Int)) (x1 : H0) (w : List Int) (hx0 : Rows h x0 L) (hx1 : Ints h x1 w) (hL : L.length ≤ 1048576) (hw : w.length ≤ 1048576) :
    HCalls Try.prog 53 [.s x0, .s x1] h (fun r h' => r = B (decide (w ∈ L)) ∧ Ext h h') := by
  have index : ∀ (r : Nat) (h2 : Heap), Ext h h2 → At h2 (.ptr r 0) x1 → HCalls Try.prog 79 [.s x0, .fn 80 [.ptr r 0]] h2 (fun v h' => v = B (decide (w ∈ L)) ∧ h' = h2) := by
    intro r h2 E hr
    refine calls_of_hFun (m := 0) kd_ok mixed Try.func79 rfl (by kernel_rfl) rfl rfl (of_decide_eq_true rfl) ?_; unfold hFun; (conv => whnf)
    refine (lib_IndexFunc_root _ _ r x1 L w (hx0.ext E) hr (hx1.ext E) hL hw).mono ?_
    rintro v h3 ⟨k, rfl, hk, hh⟩
    subst h3
    (conv => whnf)
    refine ⟨bEq ?_, rfl⟩
    by_cases h0 : w ∈ L
    · have := hk.2 h0
      simp [h0, this]
    · have : ¬ 0 ≤ k := fun h => h0 (hk.1 h)
      simp [h0]
      omega
  have E := Ext.push h [Row.own [x1]]
  refine calls_of_hFun (m := 0) kd_ok mixed Try.func53 rfl (by kernel_rfl) rfl rfl (of_decide_eq_true rfl) ?_; unfold hFun; (conv => whnf)
  refine ⟨rfl, ⟨x1, rfl, hx1.one, ?_⟩⟩
  (conv => whnf)
  refine (index h.length _ E (At.own (get_new _ _))).mono ?_
  rintro v h2 ⟨rfl, hh⟩
  subst h2
  (conv => whnf)
  exact ⟨rfl, E⟩

theorem spec_l7In (h : Heap) (x0 : H0) (L : List (List Int)) (x1 : H0) (w : List Int) (hx0 : Rows h x0 L) (hx1 : Ints h x1 w) (hL : L.length ≤ 1048576 ∧ tot L ≤ 1048576) :
    HCalls Try.prog 32 [.s x0, .s x1] h (fun r h' => r = B (decide (w ∈ L)) ∧ h' = h) := by
  refine calls_of_hFun (m := 0) kd_ok mixed Try.func32 rfl (by kernel_rfl) rfl rfl (of_decide_eq_true rfl) ?_; unfold hFun; (conv => whnf)
  refine HLoop.intro [5] [6, 7, 8, 9, 12, 13, 14, 15, 16, 17, 4, 10, 11, 5] (by kernel_rfl) (by kernel_rfl) (fun vs h' => ∃ i : Nat, vs = [I i] ∧ h' = h ∧ i ≤ L.length ∧ w ∉ L.take i) (fun vs _ => L.length - natAt vs 0) ⟨0, rfl, rfl, by omega, by simp⟩ ?_
  rintro vs h' ⟨i, rfl, hh, hi, hb⟩
  subst h'
  (conv => whnf)
  refine ⟨rfl, hx0.len ?_⟩
  (conv => whnf)
  refine HIf.dec (fun hlt => ?_) (fun hge => ?_)
  · have hle := len_le_tot (L := L) (i := i) (by omega)
    (conv => whnf)
    refine ⟨rfl, Rows.idxN hx0 (by omega) (fun p z hp hz => ?_)⟩
    (conv => whnf)
    refine ⟨rfl, hp.load ?_⟩
    (conv => whnf)
    refine (spec_EqualWords _ _ _ _ w hz hx1 (by omega)).mono ?_
    rintro v h2 ⟨rfl, hh⟩
    subst h2
    (conv => whnf)
    refine HIf.dec (fun he => ?_) (fun hne => ?_)
    · (conv => whnf)
      exact ⟨bEq (decide_eq_true (memL_at (by omega) he)), rfl⟩
    · (conv => whnf)
      refine HArith.fits (by omega) (by omega) ?_
      (conv => whnf)
      exact ⟨⟨i + 1, rfl, rfl, by omega, memL_snoc (by omega) hb hne⟩, by show L.length - (i + 1) < L.length - i; omega⟩
  · have e : i = L.length := by omega
    subst e
    rw [List.take_length] at hb
    (conv => whnf)
    exact ⟨bEq (decide_eq_false hb), rfl⟩

end Go.Proofs.Ytnooeaemjnmkdaa.Hx
