/-
  Lists of pairs of roots in the program's memory, with the keys that were seen: what one more pair does.
  slices.SortFunc over a slice of elements of several cells, for the calculus of rows.
  DERIVED: THE SHELF's CONTRACTS AT THIS DUMP, IN PLAIN WORDS (tools/lay-plain.mjs out of 'YtnooeaemjnmkdaaSp.lean', which tools/lay-shelf.mjs wrote): THE SAME DECLARATIONS UNDER THE SAME NAMES: 'import', 'namespace', 'open', 'def', 'theorem' AND NOTHING ELSE: no command of the shelf's: FOR A HAND-IN. Each laying: the table of numbers ('.._ren') and one theorem, a field a fact of the dump's own or the kernel's comparison; each contract: ONE APPLICATION.
  The roots up to a height as the program collects them.
-/
import Derived.Test.YtnooeaemjnmkdaaZ23
import Derived.Shelf.SlSortCmp.NoneTotal
import Derived.Shelf.SlGeneric
import Derived.Ground.SlsfProg
import Derived.Test.YtnooeaemjnmkdaaProg
namespace Go.Proofs.Ytnooeaemjnmkdaa.Hx
open Go.RowKit
variable {dm : Bool}

theorem HLitW.none {k : Nat} {h : Heap} {K : HV → Heap → Prop} (hk : k ≤ 4096) (hK : K (.s (.sw k h.length 0 0)) (h ++ [.own []])) : HLitW k 0 (some []) h K := ⟨hk, [], rfl, rfl, by omega, fun c hc => by simp at hc, hK⟩
theorem HLitW.one {k : Nat} {xs : List H0} {h : Heap} {K : HV → Heap → Prop} (hk : k ≤ 4096) (hl : xs.length = k) (h1 : ∀ c ∈ xs, c.one = true) (hK : K (.s (.sw k h.length 0 1)) (h ++ [.own xs])) : HLitW k 1 (some [xs]) h K :=
  ⟨hk, [xs], rfl, rfl, by omega, fun c hc => by
    obtain rfl : c = xs := by simpa using hc
    exact ⟨hl, h1⟩, by simpa using hK⟩
theorem HAppW.snoc {k r len q : Nat} {cs xs : List H0} {h : Heap} {K : HV → Heap → Prop} (hr : h[r]? = some (.own cs)) (hcs : cs.length = k * len) (hq : h[q]? = some (.own xs)) (hx : xs.length = k) (hone : ∀ c ∈ xs, c.one = true) (hlen : len ≤ 1048576)
    (hK : K (.s (.sw k h.length 0 (len + 1))) (h.set r .gone ++ [.own (cs ++ xs)])) : HAppW k h (.s (.sw k r 0 len)) (.s (.sw k q 0 1)) K := by
  have hs : ShowsW k h (.s (.sw k q 0 1)) 1 xs := by
    have := ShowsW.own (k := k) q 0 1 xs hq (by omega)
    have e : (xs.drop 0).take (k * 1) = xs := by rw [List.drop_zero, Nat.mul_one, ← hx, List.take_length]
    rwa [e] at this
  refine ⟨1, xs, r, len, cs, hs, by omega, hone, rfl, hr, by omega, by omega, ?_⟩
  have e : cs.take (k * len) = cs := by rw [← hcs, List.take_length]
  rw [e]
  exact hK
theorem HIdxW.at {n r off len : Nat} {j : Int} {k : IntKind} {K : HV → Prop} (h0 : 0 ≤ j) (h1 : j < len) (hK : K (.s (.ptr r (off + n * j.toNat)))) : HIdxW n (.s (.sw n r off len)) (.s (.pl (.int k j))) K := ⟨r, off, len, k, j, rfl, rfl, h0, h1, hK⟩
theorem HLoadA.row {n r o : Nat} {cs : List H0} {h : Heap} {K : HV → Prop} (hr : h[r]? = some (.own cs)) (ho : o + n ≤ cs.length) (hK : K (.agg ((cs.drop o).take n))) : HLoadA n h (.s (.ptr r o)) K := ⟨r, o, _, cs, Or.inl rfl, hr, rfl, ho, hK⟩
theorem HLoadA.arr {n r m : Nat} {cs : List H0} {h : Heap} {K : HV → Prop} (hr : h[r]? = some (.own cs)) (ho : cs.length = n) (hK : K (.agg cs)) : HLoadA n h (.s (.pa r m)) K :=
  ⟨r, 0, _, cs, Or.inr ⟨⟨m, rfl⟩, rfl⟩, hr, rfl, by omega, by rw [List.drop_zero, ← ho, List.take_length]; exact hK⟩
theorem HStoreA.all {n r : Nat} {cs xs : List H0} {h : Heap} {p : H0} {K : HV → Heap → Prop} (hp : p = .ptr r 0 ∨ ∃ m, p = .pa r m) (hr : h[r]? = some (.own cs)) (hc : cs.length = n) (hx : xs.length = n) (h1 : ∀ c ∈ xs, c.one = true) (hK : K .dead (h.set r (.own xs))) : HStoreA n h (.s p) (.agg xs) K := by
  refine ⟨r, 0, cs, xs, ?_, rfl, hx, h1, hr, by omega, ?_⟩
  · rcases hp with rfl | ⟨m, rfl⟩
    · exact Or.inl rfl
    · exact Or.inr ⟨⟨m, rfl⟩, rfl⟩
  · have e : cs.take 0 ++ xs ++ cs.drop (0 + n) = xs := by rw [List.take_zero, List.nil_append, Nat.zero_add, ← hc, List.drop_length, List.append_nil]
    rw [e]
    exact hK
theorem HField.at' {n r o f : Nat} {K : HV → Prop} (h : f < n) (hK : K (.s (.ptr r (o + f)))) : HField n (.s (.ptr r o)) f K := ⟨r, o, rfl, h, hK⟩
theorem HLenW.at {k r off n : Nat} {K : HV → Prop} (hK : K (I n)) : HLenW (.s (.sw k r off n)) K := ⟨k, r, off, n, rfl, hK⟩

/-- The key of a list of at most four numbers. -/
def keyL (l : List Int) : Key := .arr (l.getD 0 0) (l.getD 1 0) (l.getD 2 0) (l.getD 3 0)
def key4 (l : List Int) : List H0 := l.map ci ++ List.replicate (4 - l.length) (ci 0)

theorem key4_length {l : List Int} (h : l.length ≤ 4) : (key4 l).length = 4 := by simp [key4]; omega
theorem keyAt_key4 {l : List Int} (h : l.length ≤ 4) : keyAt (.agg (key4 l)) = some (keyL l) := by
  match l, h with
  | [], _ => rfl
  | [a], _ => rfl
  | [a, b], _ => rfl
  | [a, b, c], _ => rfl
  | [a, b, c, d], _ => rfl
  | a :: b :: c :: d :: e :: r, h => simp at h
theorem keyL_inj {a b : List Int} (h : a.length = b.length) (h4 : a.length ≤ 4) (e : keyL a = keyL b) : a = b := by
  simp only [keyL, Key.arr.injEq] at e
  obtain ⟨e0, e1, e2, e3⟩ := e
  apply List.ext_getElem? fun k => ?_
  by_cases hk : k < a.length
  · have f : k = 0 ∨ k = 1 ∨ k = 2 ∨ k = 3 := by omega
    have g : a.getD k 0 = b.getD k 0 := by rcases f with rfl | rfl | rfl | rfl <;> assumption
    rw [List.getElem?_eq_getElem hk, List.getElem?_eq_getElem (by omega)]
    simpa [List.getD, hk, show k < b.length by omega] using g
  · rw [List.getElem?_eq_none (by omega), List.getElem?_eq_none (by omega)]

/-- A row of zeros and a short list over it. -/
theorem HCopy.key {h : Heap} {r : Nat} {x : H0} {l : List Int} {K : HV → Heap → Prop} (hr : h[r]? = some (.own (List.replicate 4 (ci 0)))) (hx : Ints h x l) (hl : l.length ≤ 4) (hK : K (I l.length) (h.set r (.own (key4 l)))) : HCopy h (.s (.sl r 0 4)) (.s x) K := by
  refine ⟨r, 0, 4, l.length, _, l.map ci, rfl, hr, by simp, hx, fun c hc => ?_, by simp; omega, ?_⟩
  · obtain ⟨v, _, rfl⟩ := List.mem_map.1 hc
    rfl
  · have e : (List.replicate 4 (ci 0)).take 0 ++ (l.map ci).take l.length ++ (List.replicate 4 (ci 0)).drop (0 + l.length) = key4 l := by
      have e1 : (l.map ci).take l.length = l.map ci := by
        have := List.take_length (l := l.map ci)
        rwa [List.length_map] at this
      rw [List.take_zero, List.nil_append, e1, Nat.zero_add, List.drop_replicate]
      rfl
    rw [e]
    exact hK

def prCells (N : Nat) (ρ τ : Nat → Nat) (n : Nat) : List H0 := (List.range n).flatMap fun i => [.sl (ρ i) 0 N, .sl (τ i) 0 N]
theorem prCells_length (N : Nat) (ρ τ : Nat → Nat) : ∀ n, (prCells N ρ τ n).length = 2 * n
  | 0 => rfl
  | n + 1 => by
    unfold prCells
    rw [List.range_succ, List.flatMap_append, List.length_append]
    have := prCells_length N ρ τ n
    unfold prCells at this
    rw [this]
    simp
    omega
theorem prCells_one (N : Nat) (ρ τ : Nat → Nat) (n : Nat) : ∀ c ∈ prCells N ρ τ n, c.one = true := by
  intro c hc
  obtain ⟨i, _, hi⟩ := List.mem_flatMap.1 hc
  simp only [List.mem_cons, List.not_mem_nil, or_false] at hi
  rcases hi with rfl | rfl <;> rfl
def upd (ρ : Nat → Nat) (n a : Nat) : Nat → Nat := fun i => if i = n then a else ρ i
theorem prCells_snoc (N : Nat) (ρ τ : Nat → Nat) (n a a' : Nat) : prCells N (upd ρ n a) (upd τ n a') (n + 1) = prCells N ρ τ n ++ [.sl a 0 N, .sl a' 0 N] := by
  unfold prCells
  rw [List.range_succ, List.flatMap_append]
  congr 1
  · rw [List.flatMap_def, List.flatMap_def]
    refine congrArg List.flatten (List.map_congr_left fun i hi => ?_)
    have : i ≠ n := by have := List.mem_range.1 hi; omega
    simp [upd, this]
  · simp [upd]
theorem prCells_get (N : Nat) (ρ τ : Nat → Nat) {n i : Nat} (hi : i < n) : (prCells N ρ τ n)[2 * i]? = some (.sl (ρ i) 0 N) ∧ (prCells N ρ τ n)[2 * i + 1]? = some (.sl (τ i) 0 N) := by
  induction n with
  | zero => omega
  | succ n ih =>
    have e : prCells N ρ τ (n + 1) = prCells N ρ τ n ++ [.sl (ρ n) 0 N, .sl (τ n) 0 N] := by
      unfold prCells
      rw [List.range_succ, List.flatMap_append]
      simp
    have hl := prCells_length N ρ τ n
    rw [e]
    by_cases h : i < n
    · rw [List.getElem?_append_left (by omega), List.getElem?_append_left (by omega)]
      exact ih h
    · have : i = n := by omega
      subst this
      rw [List.getElem?_append_right (by omega), List.getElem?_append_right (by omega), hl]
      simp

/-- The program's memory while it collects roots: the box of the map, the box of the height, the box of the list; the map; the list; the roots' and the coroots' rows. -/
structure Prs (b bm bh bl m q : Nat) (ht : Int) (N : Nat) (ρ τ : Nat → Nat) (Q T : List (List Int)) (h : Heap) : Prop where
  gm : h[bm]? = some (.own [.mp m])
  gh : h[bh]? = some (.own [ci ht])
  gl : h[bl]? = some (.own [.sw 2 q 0 Q.length])
  mp : ∃ ks, h[m]? = some (.keys false ks) ∧ ∀ k, k ∈ ks ↔ ∃ l ∈ Q, k = keyL l
  ls : h[q]? = some (.own (prCells N ρ τ Q.length))
  rt : ∀ i, i < Q.length → (Q.getD i []).length = N ∧ ∃ t, h[ρ i]? = some (.own ((Q.getD i []).map ci ++ t))
  ct : ∀ i, i < Q.length → (T.getD i []).length = N ∧ ∃ t, h[τ i]? = some (.own ((T.getD i []).map ci ++ t))
  inj : ∀ i j, i < j → j < Q.length → ρ i ≠ ρ j
  tl : T.length = Q.length
  low : b ≤ bm ∧ b ≤ bl ∧ b ≤ m ∧ b ≤ q ∧ ∀ i, i < Q.length → b ≤ ρ i

theorem Prs.ext {b bm bh bl m q : Nat} {ht : Int} {N : Nat} {ρ τ : Nat → Nat} {Q T : List (List Int)} {h h' : Heap} (P : Prs b bm bh bl m q ht N ρ τ Q T h) (E : Ext h h') : Prs b bm bh bl m q ht N ρ τ Q T h' := by
  obtain ⟨ks, k1, k2⟩ := P.mp
  exact ⟨E.row P.gm, E.row P.gh, E.row P.gl, ⟨ks, E.row k1, k2⟩, E.row P.ls, fun i hi => by obtain ⟨e, t, g⟩ := P.rt i hi; exact ⟨e, t, E.row g⟩, fun i hi => by obtain ⟨e, t, g⟩ := P.ct i hi; exact ⟨e, t, E.row g⟩, P.inj, P.tl, P.low⟩

/-- A list of numbers above none is not a row of slices. -/
theorem ints_ne_sl {N : Nat} (hN : 1 ≤ N) {l : List Int} (hl : l.length = N) {t : List H0} {x : H0} {cs : List H0} (hx : ∀ n, x ≠ ci n) : ¬ (l.map ci ++ t = x :: cs) := by
  intro e
  cases l with
  | nil => simp at hl; omega
  | cons a l =>
    simp only [List.map_cons, List.cons_append, List.cons.injEq] at e
    exact hx a e.1.symm

theorem Prs.ints {b bm bh bl m q : Nat} {ht : Int} {N : Nat} {ρ τ : Nat → Nat} {Q T : List (List Int)} {h : Heap} (P : Prs b bm bh bl m q ht N ρ τ Q T h) {i : Nat} (hi : i < Q.length) : Ints h (.sl (ρ i) 0 N) (Q.getD i []) ∧ Ints h (.sl (τ i) 0 N) (T.getD i []) := by
  obtain ⟨e, t, g⟩ := P.rt i hi
  obtain ⟨e', t', g'⟩ := P.ct i hi
  have h1 := Ints.ofOwn g
  have h2 := Ints.ofOwn g'
  rw [e] at h1
  rw [e'] at h2
  exact ⟨h1, h2⟩

/-- A row of numbers is none of the rows that change. -/
theorem Prs.nrow {b bm bh bl m q : Nat} {ht : Int} {N : Nat} {ρ τ : Nat → Nat} {Q T : List (List Int)} {h : Heap} (P : Prs b bm bh bl m q ht N ρ τ Q T h) (hN : 1 ≤ N) {z : Nat} {l : List Int} {t : List H0} (hl : l.length = N) (g : h[z]? = some (.own (l.map ci ++ t))) : z ≠ m ∧ z ≠ q ∧ z ≠ bl := by
  obtain ⟨ks, hm1, _⟩ := P.mp
  refine ⟨fun e => ?_, fun e => ?_, fun e => ?_⟩
  · rw [e, hm1] at g; cases g
  · rw [e, P.ls] at g
    have g := Row.own.inj (Option.some.inj g)
    by_cases hQ0 : Q.length = 0
    · rw [hQ0] at g
      have := congrArg List.length g
      simp [prCells] at this
      omega
    · have h0 := (prCells_get N ρ τ (n := Q.length) (i := 0) (by omega)).1
      rw [g] at h0
      cases l with
      | nil => simp at hl; omega
      | cons x l => simp at h0
  · rw [e, P.gl] at g
    have g := Row.own.inj (Option.some.inj g)
    exact ints_ne_sl hN hl (fun n => by simp) g.symm

theorem Prs.change {b bm bh bl m q : Nat} {ht : Int} {N : Nat} {ρ τ : Nat → Nat} {Q T : List (List Int)} {h0 h h' : Heap} (P : Prs b bm bh bl m q ht N ρ τ Q T h) (hb : b = h0.length) (E : Ext h0 h) (k : KeepN (fun z => z = m ∨ z = q ∨ z = bl) h h') : Ext h0 h' := by
  obtain ⟨w1, w3, w4, w5, w6⟩ := P.low
  have := E.1
  refine ⟨Nat.le_trans E.1 k.1, fun r hr => ?_⟩
  rw [k.2 r (by omega) (fun e => by rcases e with e | e | e <;> omega)]
  exact E.2 r hr


set_option maxHeartbeats 2000000 in
theorem impl_add (h : Heap) {b bm bh bl m q : Nat} {ht : Int} {N : Nat} {ρ τ : Nat → Nat} {Q T : List (List Int)} (P : Prs b bm bh bl m q ht N ρ τ Q T h) (hN : 1 ≤ N) (hN4 : N ≤ 4) (hQ : Q.length ≤ 100000)
    {a a' : Nat} {l l' : List Int} {t t' : List H0} (hl : l.length = N) (hl' : l'.length = N) (ha : h[a]? = some (.own (l.map ci ++ t))) (ha' : h[a']? = some (.own (l'.map ci ++ t'))) (hfr : ∀ i, i < Q.length → ρ i ≠ a) (hb : b ≤ a) :
    HCalls dm Try.prog 67 [.s (.sl a 0 N), .s (.sl a' 0 N), .s (.ptr bm 0), .s (.ptr bh 0), .s (.ptr bl 0)] h
      (fun r h' => r = .tup [] ∧ KeepN (fun z => z = m ∨ z = q ∨ z = bl) h h' ∧
        ((¬ (l ∉ Q ∧ rootSign l = 1 ∧ heightOf l ≤ ht) ∧ Prs b bm bh bl m q ht N ρ τ Q T h') ∨
          ((l ∉ Q ∧ rootSign l = 1 ∧ heightOf l ≤ ht) ∧ ∃ q', h.length ≤ q' ∧ Prs b bm bh bl m q' ht N (upd ρ Q.length a) (upd τ Q.length a') (Q ++ [l]) (T ++ [l']) h'))) := by
  have hx : Ints h (.sl a 0 N) l := by have := Ints.ofOwn ha; rwa [hl] at this
  have hy : Ints h (.sl a' 0 N) l' := by have := Ints.ofOwn ha'; rwa [hl'] at this
  refine calls_of_hFun (m := 0) kd_ok mixed Try.func67 rfl (by kernel_rfl) rfl rfl (of_decide_eq_true rfl) ?_; unfold hFun; (conv => whnf)
  refine HRec.of (fun c hc => by simp at hc) ?_
  (conv => whnf)
  refine HStoreA.all (Or.inr ⟨4, rfl⟩) (get_new _ _) (by simp) (by simp) (fun c hc => by rw [(List.mem_replicate.1 hc).2]; rfl) ?_
  rw [set_new]
  have E1 := Ext.push h [Row.own (List.replicate 4 (ci 0))]
  (conv => whnf)
  refine ⟨by decide, h.length, 0, 4, rfl, Or.inl ⟨rfl, rfl⟩, Or.inl ⟨rfl, rfl⟩, by omega, by omega, ?_⟩
  (conv => whnf)
  refine ⟨rfl, rfl, HCopy.key (get_new _ _) (hx.ext E1) (by omega) ?_⟩
  rw [set_new]
  clear E1
  have E1 := Ext.push h [Row.own (key4 l)]
  have hk := get_new h (Row.own (key4 l))
  generalize h ++ [Row.own (key4 l)] = h1 at E1 hk ⊢
  obtain ⟨ks, hm1, hm2⟩ := P.mp
  have hmem : keyL l ∈ ks ↔ l ∈ Q := by
    rw [hm2]
    constructor
    · rintro ⟨l2, h2, e⟩
      obtain ⟨i, hi, rfl⟩ := List.getElem_of_mem h2
      have := (P.rt i hi).1
      simp only [List.getD, hi, List.getElem?_eq_getElem, Option.getD_some] at this
      rw [keyL_inj (by omega) (by omega) e]
      exact h2
    · exact fun h => ⟨l, h, rfl⟩
  (conv => whnf)
  refine Or.inl (And.intro (show Region.lexB _ _ = true by kernel_rfl) ?_); (conv => whnf)
  refine ⟨rfl, At.load ⟨bm, 0, _, [.mp m], rfl, E1.row P.gm, rfl, rfl⟩ ?_⟩
  (conv => whnf)
  refine HLoadA.arr hk (key4_length (by omega)) ?_
  (conv => whnf)
  refine ⟨m, ks, keyL l, rfl, E1.row hm1, keyAt_key4 (by omega), rfl, ?_⟩
  (conv => whnf)
  have skip : ∀ (hcond : ¬ (l ∉ Q ∧ rootSign l = 1 ∧ heightOf l ≤ ht)), HV.tup [] = .tup [] ∧ KeepN (fun z => z = m ∨ z = q ∨ z = bl) h h1 ∧
        ((¬ (l ∉ Q ∧ rootSign l = 1 ∧ heightOf l ≤ ht) ∧ Prs b bm bh bl m q ht N ρ τ Q T h1) ∨
          ((l ∉ Q ∧ rootSign l = 1 ∧ heightOf l ≤ ht) ∧ ∃ q', h.length ≤ q' ∧ Prs b bm bh bl m q' ht N (upd ρ Q.length a) (upd τ Q.length a') (Q ++ [l]) (T ++ [l']) h1)) :=
    fun hcond => ⟨rfl, KeepN.ofExt E1, Or.inl ⟨hcond, P.ext E1⟩⟩
  by_cases c1 : l ∈ Q
  · rw [decide_eq_true (hmem.2 c1)]
    (repeat (first | (refine HIf.no ?_; (conv => whnf)) | (refine HIf.isF rfl ?_; (conv => whnf))))
    exact skip fun c => c.1 c1
  rw [decide_eq_false (fun k => c1 (hmem.1 k))]
  refine HIf.isT rfl ?_
  (conv => whnf)
  refine HIf.isT rfl ?_
  (conv => whnf)
  refine HCallQ.of (.int .i64 (rootSign l)) (impl_RootSign _ _ _ (hx.ext E1).frz (by omega)) (fun x h' r => r.1) ?_
  (conv => whnf)
  refine HIf.isT rfl ?_
  (conv => whnf)
  refine HIf.isT rfl ?_
  (conv => whnf)
  by_cases c2 : rootSign l = 1
  · have e1 : (rootSign l == 1) = true := by simpa using c2
    (repeat (first | (refine HIf.yes ?_; (conv => whnf)) | (refine HIf.isT e1 ?_; (conv => whnf))))
    refine HCallQ.of (.int .i64 (heightOf l)) (impl_HeightOf _ _ _ (hx.ext E1).frz (by omega)) (fun x h' r => r.1) ?_
    (conv => whnf)
    refine HIf.isT e1 ?_
    (conv => whnf)
    refine ⟨rfl, At.load ⟨bh, 0, _, [ci ht], rfl, E1.row P.gh, rfl, rfl⟩ ?_⟩
    (conv => whnf)
    refine HIf.isT e1 ?_
    (conv => whnf)
    refine HIf.isT e1 ?_
    (conv => whnf)
    refine HIf.dec (fun c3 => ?_) (fun c3 => ?_)
    rotate_left
    · (conv => whnf)
      exact skip fun c => c3 c.2.2
    (conv => whnf)
    refine ⟨rfl, At.load ⟨bm, 0, _, [.mp m], rfl, E1.row P.gm, rfl, rfl⟩ ?_⟩
    (conv => whnf)
    refine HLoadA.arr hk (key4_length (by omega)) ?_
    (conv => whnf)
    refine ⟨m, ks, keyL l, rfl, rfl, E1.row hm1, keyAt_key4 (by omega), rfl, fun k => c1 (hmem.1 k), ?_⟩
    have hlt : ∀ {z : Nat} {x : Row}, h[z]? = some x → h1[z]? = some x := fun g => E1.row g
    have hmb : m ≠ bl := fun e => by have := P.gl; rw [← e, hm1] at this; cases this
    have hmq : m ≠ q := fun e => by have := P.ls; rw [← e, hm1] at this; cases this
    have hqb : q ≠ bl := fun e => by
      have g1 := P.gl
      rw [← e, P.ls] at g1
      simp only [Option.some.injEq, Row.own.injEq] at g1
      have := prCells_length N ρ τ Q.length
      rw [g1] at this
      simp at this
      omega
    (conv => whnf)
    refine ⟨rfl, At.load ⟨bl, 0, _, [.sw 2 q 0 Q.length], rfl, by rw [List.getElem?_set_ne hmb]; exact hlt P.gl, rfl, rfl⟩ ?_⟩
    (conv => whnf)
    have hone2 : ∀ c ∈ [H0.sl a 0 N, H0.sl a' 0 N], c.one = true := fun c hc => by
      simp only [List.mem_cons, List.not_mem_nil, or_false] at hc
      rcases hc with rfl | rfl <;> rfl
    refine HRec.of (xs := [.sl a 0 N, .sl a' 0 N]) (cs := [.sl a 0 N, .sl a' 0 N]) hone2 ?_
    (conv => whnf)
    refine HLitW.one (by decide) rfl hone2 ?_
    (conv => whnf)
    refine ⟨rfl, HAppW.snoc (cs := prCells N ρ τ Q.length) (xs := [.sl a 0 N, .sl a' 0 N]) ?_ (prCells_length N ρ τ _) (get_new _ _) rfl hone2 (by omega) ?_⟩
    · rw [List.getElem?_append_left (by rw [List.length_set]; exact get_lt (hlt P.ls)), List.getElem?_set_ne hmq]
      exact hlt P.ls
    have hlm := get_lt (hlt hm1)
    have hlq := get_lt (hlt P.ls)
    have hlb := get_lt (hlt P.gl)
    have hL : (h1.set m (Row.keys false (keyL l :: ks)) ++ [Row.own [H0.sl a 0 N, H0.sl a' 0 N]]).length = h1.length + 1 := by simp
    rw [hL]
    have hL2 : ((h1.set m (Row.keys false (keyL l :: ks)) ++ [Row.own [H0.sl a 0 N, H0.sl a' 0 N]]).set q .gone).length = h1.length + 1 := by simp
    have gm : ((h1.set m (Row.keys false (keyL l :: ks)) ++ [Row.own [H0.sl a 0 N, H0.sl a' 0 N]]).set q .gone ++ [Row.own (prCells N ρ τ Q.length ++ [H0.sl a 0 N, H0.sl a' 0 N])])[m]? = some (Row.keys false (keyL l :: ks)) := by
      rw [List.getElem?_append_left (by omega), List.getElem?_set_ne (Ne.symm hmq), List.getElem?_append_left (by rw [List.length_set]; exact hlm), List.getElem?_set_self hlm]
    have gz : ∀ {z : Nat} {x : Row}, h1[z]? = some x → z ≠ m → z ≠ q → ((h1.set m (Row.keys false (keyL l :: ks)) ++ [Row.own [H0.sl a 0 N, H0.sl a' 0 N]]).set q .gone ++ [Row.own (prCells N ρ τ Q.length ++ [H0.sl a 0 N, H0.sl a' 0 N])])[z]? = some x := fun {z x} g n1 n2 => by
      have := get_lt g
      rw [List.getElem?_append_left (by omega), List.getElem?_set_ne (Ne.symm n2), List.getElem?_append_left (by rw [List.length_set]; exact this), List.getElem?_set_ne (Ne.symm n1)]
      exact g
    have gq : ((h1.set m (Row.keys false (keyL l :: ks)) ++ [Row.own [H0.sl a 0 N, H0.sl a' 0 N]]).set q .gone ++ [Row.own (prCells N ρ τ Q.length ++ [H0.sl a 0 N, H0.sl a' 0 N])])[h1.length + 1]? = some (Row.own (prCells N ρ τ Q.length ++ [H0.sl a 0 N, H0.sl a' 0 N])) := by
      rw [← hL2]
      exact get_new _ _
    have hkeep : ∀ z, z < h1.length → z ≠ m → z ≠ q → ((h1.set m (Row.keys false (keyL l :: ks)) ++ [Row.own [H0.sl a 0 N, H0.sl a' 0 N]]).set q .gone ++ [Row.own (prCells N ρ τ Q.length ++ [H0.sl a 0 N, H0.sl a' 0 N])])[z]? = h1[z]? := fun z hz n1 n2 => by
      rw [List.getElem?_append_left (by omega), List.getElem?_set_ne (Ne.symm n2), List.getElem?_append_left (by rw [List.length_set]; exact hz), List.getElem?_set_ne (Ne.symm n1)]
    have hlen : ((h1.set m (Row.keys false (keyL l :: ks)) ++ [Row.own [H0.sl a 0 N, H0.sl a' 0 N]]).set q .gone ++ [Row.own (prCells N ρ τ Q.length ++ [H0.sl a 0 N, H0.sl a' 0 N])]).length = h1.length + 2 := by simp
    generalize (h1.set m (Row.keys false (keyL l :: ks)) ++ [Row.own [H0.sl a 0 N, H0.sl a' 0 N]]).set q .gone ++ [Row.own (prCells N ρ τ Q.length ++ [H0.sl a 0 N, H0.sl a' 0 N])] = h2 at gm gz gq hkeep hlen ⊢
    (conv => whnf)
    refine ⟨rfl, HStore.own (gz (hlt P.gl) (Ne.symm hmb) (Ne.symm hqb)) (by simp) rfl ?_⟩
    (conv => whnf)
    have hE1 := E1.1
    have hb2 : bl < h2.length := by omega
    have sz : ∀ {z : Nat} {x : Row}, h[z]? = some x → z ≠ m → z ≠ q → z ≠ bl → (h2.set bl (.own ([H0.sw 2 q 0 Q.length].set 0 (.sw 2 (h1.length + 1) 0 (Q.length + 1)))))[z]? = some x := fun {z x} g n1 n2 n3 => by
      rw [List.getElem?_set_ne (Ne.symm n3)]
      exact gz (hlt g) n1 n2
    have nrow : ∀ {z : Nat} {l : List Int} {t : List H0}, l.length = N → h[z]? = some (.own (l.map ci ++ t)) → z ≠ m ∧ z ≠ q ∧ z ≠ bl := fun hl g => P.nrow hN hl g
    refine ⟨rfl, ⟨by rw [List.length_set]; omega, fun z hz hn => ?_⟩, Or.inr ⟨⟨c1, c2, c3⟩, h1.length + 1, by omega, ?_⟩⟩
    · have n1 : z ≠ m := fun e => hn (Or.inl e)
      have n2 : z ≠ q := fun e => hn (Or.inr (Or.inl e))
      have n3 : z ≠ bl := fun e => hn (Or.inr (Or.inr e))
      rw [List.getElem?_set_ne (Ne.symm n3), hkeep z (by omega) n1 n2]
      exact E1.2 z hz
    have hsnoc : ∀ (A : List (List Int)) (x : List Int), A.length = Q.length → ∀ i, i < Q.length + 1 → (A ++ [x]).getD i [] = if i = Q.length then x else A.getD i [] := fun A x hA i hi => by
      by_cases e : i = Q.length
      · rw [if_pos e, e, ← hA]
        simp [List.getD]
      · rw [if_neg e]
        simp only [List.getD]
        rw [List.getElem?_append_left (by omega)]
    have nbm : bm ≠ m ∧ bm ≠ q ∧ bm ≠ bl := by
      refine ⟨fun e => ?_, fun e => ?_, fun e => ?_⟩
      · have := P.gm; rw [e, hm1] at this; cases this
      · have g := P.gm
        rw [e, P.ls] at g
        have g := congrArg List.length (Row.own.inj (Option.some.inj g))
        rw [prCells_length] at g
        simp at g
        omega
      · have g := P.gm
        rw [e, P.gl] at g
        simp at g
    have nbh : bh ≠ m ∧ bh ≠ q ∧ bh ≠ bl := by
      refine ⟨fun e => ?_, fun e => ?_, fun e => ?_⟩
      · have := P.gh; rw [e, hm1] at this; cases this
      · have g := P.gh
        rw [e, P.ls] at g
        have g := congrArg List.length (Row.own.inj (Option.some.inj g))
        rw [prCells_length] at g
        simp at g
        omega
      · have g := P.gh
        rw [e, P.gl] at g
        simp at g
    have hlenQ : (Q ++ [l]).length = Q.length + 1 := by simp
    obtain ⟨w1, w3, w4, w5, w6⟩ := P.low
    refine ⟨sz P.gm nbm.1 nbm.2.1 nbm.2.2, sz P.gh nbh.1 nbh.2.1 nbh.2.2, ?_, ⟨keyL l :: ks, ?_, fun k => ?_⟩, ?_, fun i hi => ?_, fun i hi => ?_, fun i j hij hj => ?_, by simp [P.tl], w1, w3, w4, by omega, fun i hi => ?_⟩
    · rw [List.getElem?_set_self hb2, hlenQ]
      rfl
    · rw [List.getElem?_set_ne (Ne.symm hmb)]
      exact gm
    · simp only [List.mem_cons, List.mem_append, List.not_mem_nil, or_false]
      rw [hm2]
      constructor
      · rintro (rfl | ⟨x, h1, h2⟩)
        · exact ⟨l, Or.inr rfl, rfl⟩
        · exact ⟨x, Or.inl h1, h2⟩
      · rintro ⟨x, h1 | rfl, h2⟩
        · exact Or.inr ⟨x, h1, h2⟩
        · exact Or.inl h2
    · rw [List.getElem?_set_ne (by omega), hlenQ, prCells_snoc]
      exact gq
    · rw [hlenQ] at hi
      rw [hsnoc Q l rfl i hi]
      by_cases e : i = Q.length
      · rw [if_pos e]
        obtain ⟨n1, n2, n3⟩ := nrow hl ha
        refine ⟨hl, t, ?_⟩
        show _[upd ρ Q.length a i]? = _
        rw [show upd ρ Q.length a i = a by simp [upd, e]]
        exact sz ha n1 n2 n3
      · rw [if_neg e]
        obtain ⟨e1, t1, g1⟩ := P.rt i (by omega)
        obtain ⟨n1, n2, n3⟩ := nrow e1 g1
        refine ⟨e1, t1, ?_⟩
        rw [show upd ρ Q.length a i = ρ i by simp [upd, e]]
        exact sz g1 n1 n2 n3
    · rw [hlenQ] at hi
      rw [hsnoc T l' P.tl i hi]
      by_cases e : i = Q.length
      · rw [if_pos e]
        obtain ⟨n1, n2, n3⟩ := nrow hl' ha'
        refine ⟨hl', t', ?_⟩
        rw [show upd τ Q.length a' i = a' by simp [upd, e]]
        exact sz ha' n1 n2 n3
      · rw [if_neg e]
        obtain ⟨e1, t1, g1⟩ := P.ct i (by omega)
        obtain ⟨n1, n2, n3⟩ := nrow e1 g1
        refine ⟨e1, t1, ?_⟩
        rw [show upd τ Q.length a' i = τ i by simp [upd, e]]
        exact sz g1 n1 n2 n3
    · rw [hlenQ] at hj
      have ei : upd ρ Q.length a i = ρ i := by simp [upd, show i ≠ Q.length by omega]
      rw [ei]
      by_cases e : j = Q.length
      · rw [show upd ρ Q.length a j = a by simp [upd, e]]
        exact hfr i (by omega)
      · rw [show upd ρ Q.length a j = ρ j by simp [upd, e]]
        exact P.inj i j hij (by omega)
    · rw [hlenQ] at hi
      by_cases e : i = Q.length
      · rw [show upd ρ Q.length a i = a by simp [upd, e]]
        exact hb
      · rw [show upd ρ Q.length a i = ρ i by simp [upd, e]]
        exact w6 i (by omega)
  · have e1 : (rootSign l == 1) = false := by simpa using c2
    (repeat (first | (refine HIf.no ?_; (conv => whnf)) | (refine HIf.isF e1 ?_; (conv => whnf))))
    exact skip fun c => c2 c.2.1

end Go.Proofs.Ytnooeaemjnmkdaa.Hx

namespace Go.Proofs.Ytnooeaemjnmkdaa.Hx
open Go.RowKit
variable {dm : Bool}

/-- An element's cells. -/
def chunk (k : Nat) (cs : List H0) (i : Nat) : List H0 := (cs.drop (k * i)).take k

theorem chunk_get {k : Nat} {cs : List H0} {i t : Nat} (ht : t < k) : (chunk k cs i)[t]? = cs[k * i + t]? := by
  unfold chunk
  rw [List.getElem?_take_of_lt ht, List.getElem?_drop]

theorem chunk_length {k : Nat} {cs : List H0} {i n : Nat} (h : cs.length = k * n) (hi : i < n) : (chunk k cs i).length = k := by
  have : k * (i + 1) ≤ k * n := Nat.mul_le_mul_left k hi
  rw [Nat.mul_add, Nat.mul_one] at this
  unfold chunk
  simp
  omega

theorem flat_get {k : Nat} (hk : 0 < k) {f : Nat → List H0} : ∀ (σ : List Nat), (∀ i ∈ σ, (f i).length = k) → ∀ (t : Nat) (x : Nat), σ[t / k]? = some x → (σ.flatMap f)[t]? = (f x)[t % k]?
  | [], _, t, x, h => by simp at h
  | i :: σ, hl, t, x, h => by
    rw [List.flatMap_cons]
    have h1 := hl i (by simp)
    by_cases ht : t < k
    · rw [List.getElem?_append_left (by omega)]
      rw [Nat.div_eq_of_lt ht] at h
      simp at h
      subst h
      rw [Nat.mod_eq_of_lt ht]
    · rw [List.getElem?_append_right (by omega), h1]
      have e1 : t / k = (t - k) / k + 1 := by rw [Nat.div_eq_sub_div hk (by omega)]
      have e2 : t % k = (t - k) % k := Nat.mod_eq_sub_mod (by omega)
      rw [e1] at h
      rw [e2]
      exact flat_get hk σ (fun j hj => hl j (by simp [hj])) (t - k) x (by simpa using h)

theorem flat_length {k : Nat} {f : Nat → List H0} : ∀ (σ : List Nat), (∀ i ∈ σ, (f i).length = k) → (σ.flatMap f).length = k * σ.length
  | [], _ => by simp
  | i :: σ, h => by
    rw [List.flatMap_cons, List.length_append, h i (by simp), flat_length σ (fun j hj => h j (by simp [hj])), List.length_cons, Nat.mul_add, Nat.mul_one]
    omega

theorem repL.of {φ : Plan} : ∀ {xs : List H0} {vs : List Value}, xs.length = vs.length → (∀ (i : Nat) (x : H0) (v : Value), xs[i]? = some x → vs[i]? = some v → rep0 φ x v) → repL φ xs vs
  | [], [], _, _ => trivial
  | x :: xs, v :: vs, h, k => ⟨k 0 x v rfl rfl, repL.of (by simpa using h) fun i y u hy hu => k (i + 1) y u (by simpa using hy) (by simpa using hu)⟩
  | [], _ :: _, h, _ => by simp at h
  | _ :: _, [], h, _ => by simp at h

open Go.Sort Go.Shelf in
set_option maxHeartbeats 1000000 in
/-- slices.SortFunc over a row of elements of k cells. -/
theorem sortW_calls {P : Program} {ρ : Ren} (L : SlLaysF0.n6 P ρ) {k : Nat} (hk0 : 0 < k) (aE : ∀ w, (isAgg (ρ.t 24)).run P w = .ok true w) (zE : ∀ w, (Go.sizeOf (ρ.t 24)).run P w = .ok k w) {CR : FuncId} (eg : ∀ args w, (callFunc CR args).run P w = .ok (.enter CR args) w)
    (cf : Nat → Nat → Int) (hO : SWO (ltOf cf)) {h : Heap} {r len : Nat} {cs : List H0} (hr : h[r]? = some (.own cs)) (hl : cs.length = k * len) (hone : ∀ c ∈ cs, c.one = true) (hlen : len < 4611686018427387904)
    (hc : ∀ (i j : Nat), i < len → j < len → HCalls true P CR [.agg (chunk k cs i), .agg (chunk k cs j)] (freeze (h.set r .gone)) (fun z _ => z = I (cf i j))) :
    HCalls dm P (ρ.f 6) [.s (.sw k r 0 len), .fn CR []] h (fun z h' => z = .tup [] ∧ ∃ σ : List Nat, σ.Perm (List.range len) ∧ σ.Pairwise (fun i j => ¬ cf j i < 0) ∧ h' = h.set r (.own (σ.flatMap (chunk k cs)))) := by
  refine ⟨L.f6.enters rfl, fun B0 φ w vargs R ha => ?_⟩
  obtain ⟨p, hp⟩ := R.place hr
  obtain ⟨q1, q2, q3, cur, e, q4, q5, q6⟩ := R.own r cs p hr hp
  have hvs : ∃ u v, vargs = #[u, v] ∧ rep0 φ (.sw k r 0 len) u ∧ repV φ (.fn CR []) v := by
    rcases vargs with ⟨vs⟩
    match vs, ha with
    | [u, v], hh => exact ⟨u, v, rfl, hh.1, hh.2.1⟩
  obtain ⟨u, v, rfl, hu, hv⟩ := hvs
  obtain ⟨p', a, cap, hp', rfl, hc1, hc2, hc3, hc4⟩ := hu
  obtain rfl : p' = p := Option.some.inj (hp'.symm.trans hp)
  obtain ⟨vs, rfl, hvs⟩ := hv
  obtain rfl : vs = #[] := by
    rcases vs with ⟨vl⟩
    match vl, hvs with
    | [], _ => rfl
  by_cases h0 : len = 0
  · subst h0
    refine (AnyF.slices_SortFunc_none L (some a) cap _ w).mono ?_
    rintro e' w' ⟨rfl, rfl⟩
    have e0 : cs = [] := List.eq_nil_of_length_eq_zero (by omega)
    subst e0
    refine ⟨_, .tup [], _, φ, rfl, ⟨rfl, [], by simp, List.Pairwise.nil, rfl⟩, Sub.refl _, ?_, ⟨#[], rfl, trivial⟩, Lat.refl _ _⟩
    have : h.set r (.own (([] : List Nat).flatMap (chunk k []))) = h := set_same hr
    rw [this]
    exact R
  · have ha : a = ⟨p'.b, 0, none⟩ := by rw [hc4 (by omega), q1]
    subst ha
    let ix : Nat → Nat := fun i => if i < len then i else 0
    have hix : ∀ i, ix i < len := fun i => by simp only [ix]; split <;> omega
    have hixe : ∀ i, i < len → ix i = i := fun i hi => by simp only [ix, if_pos hi]
    let enc : Nat → List Value := fun i => (List.range k).map fun t => cur.getD (k * ix i + t) default
    have hk : ∀ x, (enc x).length = k := fun x => by simp [enc]
    have inb : ∀ i t, i < len → t < k → k * i + t < cs.length := fun i t hi ht => by
      have : k * (i + 1) ≤ k * len := Nat.mul_le_mul_left k hi
      rw [Nat.mul_add, Nat.mul_one] at this
      omega
    have cell : ∀ i t, t < k → ∃ x, cs[k * ix i + t]? = some x ∧ cur[k * ix i + t]? = some (cur.getD (k * ix i + t) default) ∧ rep0 φ x (cur.getD (k * ix i + t) default) ∧ x.one = true := fun i t ht => by
      have hx : cs[k * ix i + t]? = some (cs[k * ix i + t]'(inb _ _ (hix i) ht)) := List.getElem?_eq_getElem (inb _ _ (hix i) ht)
      obtain ⟨v, e1, e2⟩ := q6 _ _ hx
      have hv : cur.getD (k * ix i + t) default = v := by simp only [Array.getD_eq_getD_getElem?, e1]; rfl
      exact ⟨_, hx, by rw [hv]; exact e1, by rw [hv]; exact e2, hone _ (List.mem_of_getElem? hx)⟩
    have encg : ∀ i t, t < k → (enc i)[t]? = some (cur.getD (k * ix i + t) default) := fun i t ht => by simp [enc, ht]
    have h1 : ∀ x, ∀ v ∈ enc x, v.oneCell' = true := fun x v hv => by
      obtain ⟨t, ht, rfl⟩ := List.mem_map.1 hv
      obtain ⟨y, _, _, g3, g4⟩ := cell x t (List.mem_range.1 ht)
      exact one_rep g4 g3
    have hrepc : ∀ i, repL φ (chunk k cs (ix i)) (enc i) := fun i => by
      refine repL.of (by rw [chunk_length hl (hix i), hk]) (fun t x v hx hv => ?_)
      have ht : t < k := by have := (List.getElem?_eq_some_iff.1 hv).1; rw [hk] at this; exact this
      rw [chunk_get ht] at hx
      rw [encg i t ht] at hv
      cases hv
      obtain ⟨y, g1, _, g3, _⟩ := cell i t ht
      rw [hx] at g1
      cases g1
      exact g3
    let cf' : Nat → Nat → Int := fun i j => cf (ix i) (ix j)
    have hOc : SWO (ltOf cf') := ⟨fun x => hO.irrefl _, fun x y z => hO.trans _ _ _, fun x y z => hO.ntrans _ _ _⟩
    have hsz0 : (Array.range len).size = len := by simp
    have getr : ∀ q, q < len → (Array.range len)[q]! = q := fun q hq => by simp [hq]
    have hcur : ∀ i t, i < len → t < k → cur[k * i + t]? = some ((enc i)[t]!) := fun i t hi ht => by
      obtain ⟨y, _, g2, _⟩ := cell i t ht
      rw [hixe i hi] at g2
      rw [g2]
      have := encg i t ht
      rw [hixe i hi] at this
      simp [List.getElem!_eq_getElem?_getD, this]
    have hH : Go.Sort.HoldsK enc k w p'.b 0 (Array.range len) := fun j hj => by
      rw [size_flatK, hsz0] at hj
      have hq : j / k < len := Nat.div_lt_of_lt_mul (by rw [Nat.mul_comm]; exact hj)
      have hmk : j % k < k := Nat.mod_lt _ hk0
      rw [get_flatK _ _ _ _ (by rw [hsz0]; exact hj), getr _ hq]
      have := hcur _ _ hq hmk
      rw [Nat.div_add_mod] at this
      rw [Nat.zero_add]
      exact ⟨by rw [cell_of_row w p'.b j cur e (0, 0) q4]; exact this, by simp [World.frozen?, q4]⟩
    have hblk : p'.b < w.heap.size := (Array.getElem?_eq_some_iff.1 q4).1
    have swk : ∀ m dk os, sortWorldK enc k w p'.b 0 m dk os = Go.Proofs.sortWorld id w p'.b 0 m (flatK enc k dk) os := fun _ _ _ => rfl
    have hcmp : CmpLays P CR #[] enc k cf' p'.b 0 (Array.range len).size w := by
      intro m os dk hdk x y
      have hW := sortWorld_heap id w p'.b 0 m (flatK enc k dk) os
      have RW := (R.beside hr hp hW.1 hW.2).frozen
      have hcall := (hc (ix x) (ix y) (hix x) (hix y)).out _ φ _ #[.agg (enc x).toArray, .agg (enc y).toArray] RW ⟨⟨_, rfl, by simpa using hrepc x⟩, ⟨_, rfl, by simpa using hrepc y⟩, trivial⟩
      refine hcall.mono ?_
      rintro e' w' ⟨v, z, h', φ', rfl, rfl, _, _, g4, g5⟩
      obtain ⟨q, os', hq⟩ := g5.grows
      have hv := rep0_pl g4
      refine ⟨?_, q, os', hq⟩
      rw [hv]
    have hmain := AnyQ.slices_SortFunc L k aE zE enc hk h1 cf' hOc CR #[] p'.b 0 cap (Array.range len) w eg hcmp hH hblk (by simpa using hlen)
    rw [hsz0] at hmain
    refine hmain.mono ?_
    rintro e' w' ⟨rfl, d', n, os, hperm, hsort, rfl⟩
    obtain ⟨hsz, _, hpm⟩ := hperm
    rw [hsz0] at hsz
    have hpm2 : d'.toList.Perm (List.range len) := by
      have e1 : d'.extract 0 len = d' := by rw [← hsz]; exact Array.extract_size
      have e2 : (Array.range len).extract 0 len = Array.range len := by
        have := Array.extract_size (xs := Array.range len)
        rwa [hsz0] at this
      rw [e1, e2] at hpm
      simpa using hpm
    have hlt : ∀ i ∈ d'.toList, i < len := fun i hi => by simpa using hpm2.mem_iff.1 hi
    have hdl : d'.toList.length = len := by simpa using hsz
    have hcl : ∀ i ∈ d'.toList, (chunk k cs i).length = k := fun i hi => chunk_length hl (hlt i hi)
    refine ⟨_, .tup [], _, φ, rfl, ⟨rfl, d'.toList, hpm2, ?_, rfl⟩, Sub.refl _, ?_, ⟨#[], rfl, trivial⟩, ?_⟩
    · rw [List.pairwise_iff_getElem]
      intro i j hi hj hij
      have hs := hsort i j (Nat.zero_le _) hij (by omega)
      have hi' : i < d'.size := by simpa using hi
      have hj' : j < d'.size := by simpa using hj
      have ei : d'[i]! = d'[i] := by simp [hi']
      have ej : d'[j]! = d'[j] := by simp [hj']
      rw [ei, ej] at hs
      have li : d'[i] < len := hlt _ (by simp)
      have lj : d'[j] < len := hlt _ (by simp)
      simp only [ltOf, cf', hixe _ li, hixe _ lj, decide_eq_false_iff_not] at hs
      simpa using hs
    · have hflen := flat_length (k := k) (f := chunk k cs) d'.toList hcl
      rw [hdl] at hflen
      have w1 : Rep B0 φ (h.set r (.own (d'.toList.flatMap (chunk k cs)))) (putRow id (Go.Sort.ahead w n) p'.b 0 (flatK enc k d')) := by
        refine R.rewrite (w' := putRow id (Go.Sort.ahead w n) p'.b 0 (flatK enc k d')) (cur := putCells id 0 (flatK enc k d') cur) (e := e) hr hp ?_ ?_ ?_ ?_ ?_ ?_
        · simp [putRow, mapBlock, Go.Sort.ahead]
        · intro q hq
          simp [putRow, mapBlock, Go.Sort.ahead, Array.getElem?_modify, Ne.symm hq]
        · simp [putRow, mapBlock, Go.Sort.ahead, Array.getElem?_modify, q4, onCells]
        · simp [putCells, q5]
        · rw [hflen, ← hl]
          exact q3
        · intro q c hq
          have hql : q < k * len := by have := (List.getElem?_eq_some_iff.1 hq).1; omega
          have hqd : q / k < len := Nat.div_lt_of_lt_mul hql
          have hqm : q % k < k := Nat.mod_lt _ hk0
          have hdd : q / k < d'.size := by omega
          have hx : d'.toList[q / k]? = some d'[q / k] := by simp [hdd]
          have lx : d'[q / k] < len := hlt _ (by simp)
          rw [flat_get hk0 _ hcl q _ hx, chunk_get hqm] at hq
          obtain ⟨y, g1, g2, g3, _⟩ := cell (d'[q / k]) (q % k) hqm
          rw [hixe _ lx] at g1
          rw [hq] at g1
          cases g1
          refine ⟨_, ?_, g3⟩
          have hcs : q < cur.size := by omega
          have hfs : q < d'.size * k := by rw [hsz, Nat.mul_comm]; exact hql
          have hfl : (flatK enc k d')[q]! = cur.getD (k * ix d'[q / k] + q % k) default := by
            rw [get_flatK _ _ _ _ hfs]
            have e1 : d'[q / k]! = d'[q / k] := by simp [hdd]
            rw [e1, List.getElem!_eq_getElem?_getD, encg _ _ hqm]
            rfl
          simp only [putCells, Array.getElem?_mapIdx, Array.getElem?_eq_getElem hcs, Option.map_some]
          rw [if_pos ⟨by omega, by rw [size_flatK]; omega⟩, Nat.sub_zero, hfl]
          rfl
      exact w1.still (by show (putRow id (Go.Sort.ahead w n) p'.b 0 (flatK enc k d')).heap.size ≤ (grow (putRow id (Go.Sort.ahead w n) p'.b 0 (flatK enc k d')) os).heap.size; rw [size_grow]; omega) (fun q hq => by show (grow _ _).heap[q]? = _; exact heap_grow_old _ _ hq)
    · have hW := sortWorld_heap id w p'.b 0 n (flatK enc k d') os
      exact ⟨⟨rfl, rfl, rfl, hW.1, fun q hq => hW.2 q (by omega) (by have := R.base; omega)⟩, fun _ => by show w.drawn ≤ w.drawn + n; omega⟩

end Go.Proofs.Ytnooeaemjnmkdaa.Hx

namespace Go.Proofs
open Go.Shelf
def Try.sortP_ren : Go.Shelf.Ren := ⟨fun | 6 => 72 | 15 => 89 | 14 => 88 | 28 => 115 | 29 => 116 | 20 => 107 | 21 => 108 | 22 => 109 | 23 => 110 | 24 => 111 | 25 => 112 | 26 => 113 | 27 => 114 | 46 => 130 | 47 => 131 | 48 => 132 | 49 => 133 | 50 => 134 | 57 => 146 | n => n, fun | 22 => 61 | 24 => 65 | 25 => 69 | 3 => 3 | 39 => 77 | 0 => 0 | 53 => 96 | 55 => 98 | 4 => 4 | 46 => 89 | 45 => 88 | 50 => 93 | 5 => 5 | 9 => 9 | 66 => 103 | 70 => 107 | 76 => 115 | 77 => 116 | n => n, fun | n => n⟩
theorem Try.sortP : Go.Proofs.SlLaysF0.n6 Try.prog Try.sortP_ren := {
  mixed := by kernel_rfl
  f6 := ⟨Try.f72.name, by decide, Try.func72.trans (congrArg some (by kernel_rfl))⟩
  f14 := ⟨Try.f88.name, by decide, Try.func88.trans (congrArg some (by kernel_rfl))⟩
  f15 := Try.func89.trans (congrArg some (by kernel_rfl))
  f20 := ⟨Try.f107.name, by decide, Try.func107.trans (congrArg some (by kernel_rfl))⟩
  f21 := ⟨Try.f108.name, by decide, Try.func108.trans (congrArg some (by kernel_rfl))⟩
  f22 := ⟨Try.f109.name, by decide, Try.func109.trans (congrArg some (by kernel_rfl))⟩
  f23 := ⟨Try.f110.name, by decide, Try.func110.trans (congrArg some (by kernel_rfl))⟩
  f24 := ⟨Try.f111.name, by decide, Try.func111.trans (congrArg some (by kernel_rfl))⟩
  f25 := ⟨Try.f112.name, by decide, Try.func112.trans (congrArg some (by kernel_rfl))⟩
  f26 := ⟨Try.f113.name, by decide, Try.func113.trans (congrArg some (by kernel_rfl))⟩
  f27 := ⟨Try.f114.name, by decide, Try.func114.trans (congrArg some (by kernel_rfl))⟩
  f28 := Try.func115.trans (congrArg some (by kernel_rfl))
  f29 := Try.func116.trans (congrArg some (by kernel_rfl))
  f46 := ⟨Try.f130.name, by decide, Try.func130.trans (congrArg some (by kernel_rfl))⟩
  f47 := Try.func131.trans (congrArg some (by kernel_rfl))
  f48 := Try.func132.trans (congrArg some (by kernel_rfl))
  f49 := ⟨Try.f133.name, by decide, Try.func133.trans (congrArg some (by kernel_rfl))⟩
  f50 := ⟨Try.f134.name, by decide, Try.func134.trans (congrArg some (by kernel_rfl))⟩
  f57 := ⟨Try.f146.name, by decide, Try.func146.trans (congrArg some (by kernel_rfl))⟩
  t0 := Try.underlying0
  a0 := Try.isAgg0
  z0 := Try.sizeOf0
  v0 := Try.zeroValue0
  t3 := Try.underlying3
  a3 := Try.isAgg3
  z3 := Try.sizeOf3
  v3 := Try.zeroValue3
  t4 := Try.underlying4
  a4 := Try.isAgg4
  z4 := Try.sizeOf4
  v4 := Try.zeroValue4
  t5 := Try.underlying5
  a5 := Try.isAgg5
  z5 := Try.sizeOf5
  v5 := Try.zeroValue5
  t9 := Try.underlying9
  a9 := Try.isAgg9
  z9 := Try.sizeOf9
  v9 := Try.zeroValue9
  t22 := Try.underlying61
  a22 := Try.isAgg61
  z22 := Try.sizeOf61
  v22 := Try.zeroValue61
  t25 := Try.underlying69
  a25 := Try.isAgg69
  z25 := Try.sizeOf69
  v25 := Try.zeroValue69
  t39 := Try.underlying77
  a39 := Try.isAgg77
  z39 := Try.sizeOf77
  v39 := Try.zeroValue77
  t45 := Try.underlying88
  a45 := Try.isAgg88
  z45 := Try.sizeOf88
  v45 := Try.zeroValue88
  t46 := Try.underlying89
  a46 := Try.isAgg89
  z46 := Try.sizeOf89
  v46 := Try.zeroValue89
  t50 := Try.underlying93
  a50 := Try.isAgg93
  z50 := Try.sizeOf93
  v50 := Try.zeroValue93
  t53 := Try.underlying96
  a53 := Try.isAgg96
  z53 := Try.sizeOf96
  v53 := Try.zeroValue96
  t55 := Try.underlying98
  a55 := Try.isAgg98
  z55 := Try.sizeOf98
  v55 := Try.zeroValue98
  t66 := Try.underlying103
  a66 := Try.isAgg103
  z66 := Try.sizeOf103
  v66 := Try.zeroValue103
  t70 := Try.underlying107
  a70 := Try.isAgg107
  z70 := Try.sizeOf107
  v70 := Try.zeroValue107
  t76 := Try.underlying115
  a76 := Try.isAgg115
  z76 := Try.sizeOf115
  v76 := Try.zeroValue115
  t77 := Try.underlying116
  a77 := Try.isAgg116
  z77 := Try.sizeOf116
  v77 := Try.zeroValue116 }
end Go.Proofs

namespace Go.Proofs.Ytnooeaemjnmkdaa.Hx
open Go.RowKit
variable {dm : Bool}

def trRow (c : List (List Int)) (i k : Nat) : List Int := (List.range k).map fun j => ent c j i
def trTo (c : List (List Int)) (k : Nat) : List (List Int) := (List.range k).map fun i => trRow c i c.length
theorem trRow_len (c : List (List Int)) (i k : Nat) : (trRow c i k).length = k := by simp [trRow]
theorem trRow_succ (c : List (List Int)) (i k : Nat) : trRow c i (k + 1) = trRow c i k ++ [ent c k i] := by simp [trRow, List.range_succ]
theorem trTo_len (c : List (List Int)) (k : Nat) : (trTo c k).length = k := by simp [trTo]
theorem trTo_succ (c : List (List Int)) (k : Nat) : trTo c (k + 1) = trTo c k ++ [trRow c k c.length] := by simp [trTo, List.range_succ]
theorem trTo_all (c : List (List Int)) : trTo c c.length = transp c := rfl

def simples (c : List (List Int)) (k : Nat) : List (List Int) := (List.range k).map fun i => simpleRoot c (i : Nat)
theorem simples_len (c : List (List Int)) (k : Nat) : (simples c k).length = k := by simp [simples]
theorem simples_succ (c : List (List Int)) (k : Nat) : simples c (k + 1) = simples c k ++ [simpleRoot c (k : Nat)] := by simp [simples, List.range_succ]
theorem simple_inj {c : List (List Int)} (hC : Cartan c) {i j : Nat} (hi : i < c.length) (hj : j < c.length) (h : simpleRoot c (i : Nat) = simpleRoot c (j : Nat)) : i = j := by
  have e1 := (simple_pos hC hi).2
  have e2 := (simple_pos hC hj).2
  rw [h, e2] at e1
  have := congrFun e1 i
  simp only [unitP, if_true] at this
  by_cases e : i = j
  · exact e
  · rw [if_neg e] at this
    cases this
theorem simples_nodup {c : List (List Int)} (hC : Cartan c) : ∀ k, k ≤ c.length → (simples c k).Nodup
  | 0, _ => by simp [simples]
  | k + 1, hk => by
    rw [simples_succ, List.nodup_append]
    refine ⟨simples_nodup hC k (by omega), by simp, fun a ha b hb e => ?_⟩
    obtain ⟨i, hi, rfl⟩ := List.mem_map.1 ha
    have hi := List.mem_range.1 hi
    obtain rfl : b = _ := by simpa using hb
    have := simple_inj hC (i := i) (j := k) (by omega) (by omega) e
    omega
theorem mem_simples {c : List (List Int)} {k : Nat} {r : List Int} : r ∈ simples c k ↔ ∃ i, i < k ∧ r = simpleRoot c (i : Nat) := by
  simp only [simples, List.mem_map, List.mem_range]
  constructor
  · rintro ⟨i, h, rfl⟩; exact ⟨i, h, rfl⟩
  · rintro ⟨i, h, rfl⟩; exact ⟨i, h, rfl⟩

theorem HIdxW.nat {n r len j : Nat} {k : IntKind} {K : HV → Prop} (h1 : j < len) (hK : K (.s (.ptr r (n * j)))) : HIdxW n (.s (.sw n r 0 len)) (.s (.pl (.int k (j : Int)))) K :=
  ⟨r, 0, len, k, j, rfl, rfl, by omega, by omega, by rw [Int.toNat_natCast, Nat.zero_add]; exact hK⟩
theorem prCells_chunk (N : Nat) (ρ τ : Nat → Nat) {n i : Nat} (hi : i < n) : ((prCells N ρ τ n).drop (2 * i)).take 2 = [.sl (ρ i) 0 N, .sl (τ i) 0 N] := by
  obtain ⟨g1, g2⟩ := prCells_get N ρ τ hi
  apply List.ext_getElem?
  intro t
  by_cases ht : t < 2
  · rw [List.getElem?_take_of_lt ht, List.getElem?_drop]
    have f : t = 0 ∨ t = 1 := by omega
    rcases f with rfl | rfl
    · rw [Nat.add_zero, g1]; rfl
    · rw [g2]; rfl
  · rw [List.getElem?_eq_none (by simp; omega), List.getElem?_eq_none (by simp; omega)]


theorem impl_TransposeCartan (h : Heap) (x0 : H0) (c : List (List Int)) (hx0 : Rows h x0 c) (hC : Cartan c) :
    HCalls dm Try.prog 66 [.s x0] h (fun r h' => ∃ y, r = .s y ∧ Ext h h' ∧ OwnM h.length h'.length h' y (transp c)) := by
  have h4 := hC.le
  refine calls_of_hFun (m := 0) kd_ok mixed Try.func66 rfl (by kernel_rfl) rfl rfl (of_decide_eq_true rfl) ?_; unfold hFun; (conv => whnf)
  refine (impl_IsCartan _ _ _ hx0 (by omega)).mono ?_
  rintro r h1 ⟨rfl, rfl⟩
  rw [(isCartan_iff c).2 hC]
  (conv => whnf)
  refine HIf.isF rfl ?_
  (conv => whnf)
  have hx10 := hx0.ext (Ext.push h1 [Row.own []])
  refine HLit.empty ?_
  (conv => whnf)
  refine ⟨rfl, hx10.len ?_⟩
  (conv => whnf)
  refine HLoop.intro [14, 3] [15, 16, 4, 17, 5, 18, 19, 20, 21, 22, 6, 23, 24, 25, 26, 27, 28, 29, 30, 31, 32, 5, 33, 20, 34, 35, 36, 37, 3, 38, 14] (by kernel_rfl) (by kernel_rfl) (fun vs h' => ∃ (a : Nat) (z : H0), vs = [I a, .s z] ∧ a ≤ c.length ∧ Ext h1 h' ∧ OwnM h1.length h'.length h' z (trTo c a)) (fun vs _ => c.length - natAt vs 0) ⟨0, _, rfl, by omega, Ext.push _ _, OwnM.none h1⟩ ?_
  rintro vs h' ⟨a, z, rfl, ha, E, OM⟩
  have hpl := trTo_len c a
  have hx1 := hx0.ext E
  (conv => whnf)
  refine HIf.dec (fun hlt => ?_) (fun hge => ?_)
  · have Ep := Ext.push h' [Row.own []]
    have hx1p := hx1.ext Ep
    (conv => whnf)
    refine HLit.empty ?_
    (conv => whnf)
    refine ⟨rfl, hx1p.len ?_⟩
    (conv => whnf)
    refine HLoop.intro [20, 5] [21, 22, 6, 23, 24, 25, 26, 27, 28, 29, 30, 31, 32, 5, 33, 20] (by kernel_rfl) (by kernel_rfl) (fun vs h2 => ∃ (b : Nat) (y : H0) (r : Nat), vs = [I b, .s y] ∧ b ≤ c.length ∧ Ext h' h2 ∧ h'.length ≤ r ∧ OwnR r h2 y (trRow c a b)) (fun vs _ => c.length - natAt vs 0) ⟨0, _, h'.length, rfl, by omega, Ep, Nat.le_refl _, OwnR.push h' []⟩ ?_
    rintro vs h2 ⟨b, y, r, rfl, hb, E2, hr, O⟩
    have hrl := trRow_len c a b
    have hE2 := E2.1
    (conv => whnf)
    refine HIf.dec (fun hltb => ?_) (fun hgeb => ?_)
    · have hrow := hC.row b (by omega)
      (conv => whnf)
      refine ⟨rfl, Rows.idxN (hx1.ext E2) (by omega) (fun p3 y3 hp3 hy3 => ?_)⟩
      (conv => whnf)
      refine ⟨rfl, hp3.load ?_⟩
      (conv => whnf)
      refine ⟨rfl, Ints.idxN hy3 (by omega) (fun p4 hp4 => ?_)⟩
      (conv => whnf)
      refine ⟨rfl, hp4.load ?_⟩
      rw [ent_eq]
      (conv => whnf)
      refine HLit.one ?_
      (conv => whnf)
      refine ⟨rfl, rfl, HApp.snocR O (by omega) (fun h3 r3 y5 B3 hr3 O3 => ?_)⟩
      rw [← trRow_succ] at O3
      (conv => whnf)
      refine HArith.fits (by omega) (by omega) ?_
      (conv => whnf)
      exact ⟨⟨b + 1, y5, r3, rfl, by omega, E2.but B3 hr, by omega, O3⟩, by show c.length - (b + 1) < c.length - b; omega⟩
    · have e : b = c.length := by omega
      subst e
      have F := O.own hr
      (conv => whnf)
      refine HLit.row F.one ?_
      (conv => whnf)
      refine ⟨rfl, rfl, HApp.snocM E OM E2 F (by omega) (fun h5 y5 E5 O5 => ?_)⟩
      rw [← trTo_succ] at O5
      (conv => whnf)
      refine HArith.fits (by omega) (by omega) ?_
      (conv => whnf)
      exact ⟨⟨a + 1, y5, rfl, by omega, E5, O5⟩, by show c.length - (a + 1) < c.length - a; omega⟩
  · have e : a = c.length := by omega
    subst e
    (conv => whnf)
    exact ⟨_, rfl, E, OM⟩

theorem impl_cmpPair (h : Heap) (x x' y y' : H0) (a b : List Int) (hx : Ints h x a) (hy : Ints h y b) (h1 : x.one = true) (h2 : x'.one = true) (h3 : y.one = true) (h4 : y'.one = true) (hal : a.length ≤ 1048576) (hbl : b.length ≤ 1048576) :
    HCalls dm Try.prog 73 [.agg [x, x'], .agg [y, y']] h (fun r _ => r = I (cmpR a b)) := by
  have o1 : ∀ c ∈ [x, x'], c.one = true := fun c hc => by
    simp only [List.mem_cons, List.not_mem_nil, or_false] at hc
    rcases hc with rfl | rfl <;> assumption
  have o2 : ∀ c ∈ [y, y'], c.one = true := fun c hc => by
    simp only [List.mem_cons, List.not_mem_nil, or_false] at hc
    rcases hc with rfl | rfl <;> assumption
  refine calls_of_hFun (m := 0) kd_ok mixed Try.func73 rfl (by kernel_rfl) rfl rfl (of_decide_eq_true rfl) ?_; unfold hFun; (conv => whnf)
  refine ⟨o1, ?_⟩
  (conv => whnf)
  refine ⟨o2, ?_⟩
  have E1 := Ext.push h [Row.own [x, x']]
  have g1 := get_new h (Row.own [x, x'])
  have E2 := Ext.push (h ++ [Row.own [x, x']]) [Row.own [y, y']]
  have g2 := get_new (h ++ [Row.own [x, x']]) (Row.own [y, y'])
  have g1' := E2.row g1
  have E := E1.trans E2
  generalize (h ++ [Row.own [x, x']]) ++ [Row.own [y, y']] = h2 at E g2 g1' ⊢
  generalize (h ++ [Row.own [x, x']]).length = n2 at g2 ⊢
  (conv => whnf)
  refine HField.at' (by decide) ?_
  (conv => whnf)
  refine ⟨rfl, At.load ⟨_, 0, _, [x, x'], rfl, g1', rfl, rfl⟩ ?_⟩
  (conv => whnf)
  refine HField.at' (by decide) ?_
  (conv => whnf)
  refine ⟨rfl, At.load ⟨_, 0, _, [y, y'], rfl, g2, rfl, rfl⟩ ?_⟩
  (conv => whnf)
  refine (impl_compareRoots _ _ _ _ _ (hx.ext E) (hy.ext E) hal hbl).mono ?_
  rintro r h3 ⟨rfl, _⟩
  (conv => whnf)
  rfl

end Go.Proofs.Ytnooeaemjnmkdaa.Hx
