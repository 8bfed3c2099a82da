/-
  A word's text, and the program's memory while it searches a path of braid moves.
  The contract of BraidPath of the program.
  From the model's readings of arguments to rows: a slice of ints that came in; and the end of a law: true, memory below as it was.
  From the model's readings of arguments to rows: a slice of slices of ints that came in.
-/
import Derived.Test.YtnooeaemjnmkdaaZ18
import Derived.ProofKit
namespace Go.Proofs.Ytnooeaemjnmkdaa.Hx
open Go.RowKit
variable {dm : Bool}

theorem HLitW.one' {k : Nat} {xs : List H0} {h : Heap} {K : HV → Heap → Prop} (hk : k ≤ 4096) (hl : xs.length = k) (h1 : ∀ c ∈ xs, c.one = true) (hK : K (.s (.sw k h.length 0 1)) (h ++ [.own xs])) : HLitW k 1 (some [xs]) h K :=
  ⟨hk, [xs], rfl, rfl, by omega, fun c hc => by
    obtain rfl : c = xs := by simpa using hc
    exact ⟨hl, h1⟩, by simpa using hK⟩
theorem HAppW.snoc' {k r len q : Nat} {cs xs : List H0} {h : Heap} {K : HV → Heap → Prop} (hr : h[r]? = some (.own cs)) (hcs : cs.length = k * len) (hq : h[q]? = some (.own xs)) (hx : xs.length = k) (hone : ∀ c ∈ xs, c.one = true) (hlen : len ≤ 1048576)
    (hK : K (.s (.sw k h.length 0 (len + 1))) (h.set r .gone ++ [.own (cs ++ xs)])) : HAppW k h (.s (.sw k r 0 len)) (.s (.sw k q 0 1)) K := by
  have hs : ShowsW k h (.s (.sw k q 0 1)) 1 xs := by
    have := ShowsW.own (k := k) q 0 1 xs hq (by omega)
    have e : (xs.drop 0).take (k * 1) = xs := by rw [List.drop_zero, Nat.mul_one, ← hx, List.take_length]
    rwa [e] at this
  refine ⟨1, xs, r, len, cs, hs, by omega, hone, rfl, hr, by omega, by omega, ?_⟩
  have e : cs.take (k * len) = cs := by rw [← hcs, List.take_length]
  rw [e]
  exact hK
theorem HIdxW.at' {n r off len : Nat} {j : Int} {k : IntKind} {K : HV → Prop} (h0 : 0 ≤ j) (h1 : j < len) (hK : K (.s (.ptr r (off + n * j.toNat)))) : HIdxW n (.s (.sw n r off len)) (.s (.pl (.int k j))) K := ⟨r, off, len, k, j, rfl, rfl, h0, h1, hK⟩
theorem HField.at2 {n r o f : Nat} {K : HV → Prop} (h : f < n) (hK : K (.s (.ptr r (o + f)))) : HField n (.s (.ptr r o)) f K := ⟨r, o, rfl, h, hK⟩
theorem HLenW.at' {k r off n : Nat} {K : HV → Prop} (hK : K (I n)) : HLenW (.s (.sw k r off n)) K := ⟨k, r, off, n, rfl, hK⟩

theorem HApp.rawS' {h : Heap} {r q n : Nat} {cs : List H0} {y : H0} {K : HV → Heap → Prop} (hr : h[r]? = some (.own cs)) (hq : h[q]? = some (.own [y])) (hn : cs.length = n) (h1 : y.one = true) (hl : n ≤ 1048576) (hK : K (.s (.sl h.length 0 (n + 1))) (h.set r .gone ++ [.own (cs ++ [y])])) : HApp h (.s (.sl r 0 n)) (.s (.sl q 0 1)) K := by
  have hs : Shows h (.s (.sl q 0 1)) [y] := Shows.own q 0 1 [y] hq (by simp)
  refine ⟨[y], hs, fun c hc => ?_, cs, rfl, hr, by omega, Or.inl ⟨by simp; omega, ?_⟩⟩
  · obtain rfl : c = y := by simpa using hc
    exact h1
  · have e : cs.take n = cs := by rw [← hn, List.take_length]
    rw [e]
    exact hK

/-! ### A word's text -/

def fb (i : Int) : UInt8 := if i = 0 then 49 else if i = 1 then 50 else if i = 2 then 51 else 52
def bc (b : UInt8) : H0 := .pl (.int .u8 (b.toNat : Int))
def fmtW (w : List Int) : ByteArray := if w.length = 0 then ⟨[(101 : UInt8)].toArray⟩ else ⟨(w.map fb).toArray⟩
def Small4 (w : List Int) : Prop := ∀ i ∈ w, 0 ≤ i ∧ i < 4

theorem fb_wrap {i : Int} (h : 0 ≤ i ∧ i < 4) : IntKind.u8.wrap (49 + i) = ((fb i).toNat : Int) := by
  have : i = 0 ∨ i = 1 ∨ i = 2 ∨ i = 3 := by omega
  rcases this with rfl | rfl | rfl | rfl <;> decide
theorem fb_inj {i j : Int} (h : 0 ≤ i ∧ i < 4) (h2 : 0 ≤ j ∧ j < 4) (e : fb i = fb j) : i = j := by
  have a : i = 0 ∨ i = 1 ∨ i = 2 ∨ i = 3 := by omega
  have b : j = 0 ∨ j = 1 ∨ j = 2 ∨ j = 3 := by omega
  rcases a with rfl | rfl | rfl | rfl <;> rcases b with rfl | rfl | rfl | rfl <;> first | rfl | (exact absurd e (by decide))
theorem fb_ne {i : Int} (h : 0 ≤ i ∧ i < 4) : fb i ≠ 101 := by
  have : i = 0 ∨ i = 1 ∨ i = 2 ∨ i = 3 := by omega
  rcases this with rfl | rfl | rfl | rfl <;> decide
theorem map_fb_inj : ∀ {a b : List Int}, Small4 a → Small4 b → a.map fb = b.map fb → a = b
  | [], [], _, _, _ => rfl
  | [], _ :: _, _, _, e => by simp at e
  | _ :: _, [], _, _, e => by simp at e
  | x :: a, y :: b, ha, hb, e => by
    simp only [List.map_cons, List.cons.injEq] at e
    rw [fb_inj (ha x (by simp)) (hb y (by simp)) e.1, map_fb_inj (fun i hi => ha i (by simp [hi])) (fun i hi => hb i (by simp [hi])) e.2]
theorem fmtW_inj {a b : List Int} (ha : Small4 a) (hb : Small4 b) (hl : a.length = b.length) (e : fmtW a = fmtW b) : a = b := by
  unfold fmtW at e
  by_cases h0 : a.length = 0
  · have h1 : b.length = 0 := by omega
    rw [List.length_eq_zero_iff.1 h0, List.length_eq_zero_iff.1 h1]
  · rw [if_neg h0, if_neg (by omega)] at e
    have e2 := congrArg ByteArray.data e
    have e3 := congrArg Array.toList e2
    simp only at e3
    exact map_fb_inj ha hb e3

theorem small4 {c : List (List Int)} {n : Nat} {v w : List Int} (hC : Cartan c) (h : Red c n v w) : Small4 w := fun i hi => by
  have h2 := h.2.1
  have h4 := hC.le
  simp only [lettersOk, List.all_eq_true] at h2
  have := point_of (h2 i hi)
  omega


theorem impl_FormatWord (h : Heap) (x : H0) (w : List Int) (hx : Ints h x w) (hw : Small4 w) (hl : w.length ≤ 1048576) :
    HCalls dm Try.prog 34 [.s x] h (fun r h' => r = .s (.pl (.string (fmtW w))) ∧ Ext h h') := by
  refine calls_of_hFun (m := 0) kd_ok mixed Try.func34 rfl (by kernel_rfl) rfl rfl (of_decide_eq_true rfl) ?_; unfold hFun; (conv => whnf)
  refine ⟨rfl, hx.len ?_⟩
  (conv => whnf)
  refine HIf.beq (fun h0 => ?_) (fun h0 => ?_)
  · (conv => whnf)
    exact ⟨by rw [fmtW, if_pos (by omega)]; rfl, Ext.refl _⟩
  (conv => whnf)
  refine HLit.empty ?_
  (conv => whnf)
  refine ⟨rfl, hx.len ?_⟩
  (conv => whnf)
  refine HLoop.intro [12, 3] [13, 14, 15, 5, 16, 17, 18, 19, 20, 21, 2, 22, 23, 24, 25, 26, 27, 3, 28, 12] (by kernel_rfl) (by kernel_rfl) (fun vs h' => ∃ (k r : Nat) (cs : List H0), vs = [I k, .s (.sl r 0 k)] ∧ k ≤ w.length ∧ Ext h h' ∧ h.length ≤ r ∧ h'[r]? = some (.own cs) ∧ cs = (w.take k).map fun i => bc (fb i)) (fun vs _ => w.length - natAt vs 0) ⟨0, _, _, rfl, by omega, Ext.push _ _, Nat.le_refl _, get_new _ _, by simp⟩ ?_
  rintro vs h' ⟨k, r, cs, rfl, hk, E, hr, hcs, hcl⟩
  have hx1 := hx.ext E
  (conv => whnf)
  refine HIf.dec (fun hlt => ?_) (fun hge => ?_)
  · have hkl : k < w.length := by omega
    have hin : w.getD k 0 ∈ w := by
      have e : w.getD k 0 = w[k] := by simp [List.getD, hkl]
      rw [e]
      exact List.getElem_mem hkl
    have hwi := hw _ hin
    have hwr := fb_wrap hwi
    have htk := take_snoc' hkl
    generalize hgi : w.getD k 0 = i at *
    (conv => whnf)
    refine ⟨rfl, hx1.idxN hkl (fun p hp => ?_)⟩
    rw [hgi] at hp
    (conv => whnf)
    refine ⟨rfl, hp.load ?_⟩
    (conv => whnf)
    have c1 : ¬ i < 0 := by omega
    have c2 : ¬ i ≥ 4 := by omega
    refine HIf.decF c1 ?_
    (conv => whnf)
    refine HIf.decF c1 ?_
    (conv => whnf)
    refine HIf.decF c1 ?_
    (conv => whnf)
    refine HIf.decF c2 ?_
    (conv => whnf)
    refine HArith.fits (by omega) (by omega) ?_
    (conv => whnf)
    refine ⟨.i64, _, rfl, ?_⟩
    rw [hwr]
    (conv => whnf)
    refine HLit.row (y := bc (fb i)) rfl ?_
    (conv => whnf)
    have hrl := get_lt hcs
    have hkcs : cs.length = k := by rw [hcl, List.length_map, List.length_take]; omega
    refine ⟨rfl, rfl, HApp.rawS' (y := bc (fb i)) (by rw [List.getElem?_append_left hrl]; exact hcs) (get_new _ _) hkcs rfl (by omega) ?_⟩
    have hE := E.1
    have E2 : Ext h ((h' ++ [Row.own [bc (fb i)]]).set r Row.gone ++ [Row.own (cs ++ [bc (fb i)])]) := ⟨by simp; omega, fun z hz => by
      rw [List.getElem?_append_left (by simp; omega), List.getElem?_set_ne (by omega), List.getElem?_append_left (by omega)]
      exact E.2 z hz⟩
    have hnew := get_new ((h' ++ [Row.own [bc (fb i)]]).set r Row.gone) (Row.own (cs ++ [bc (fb i)]))
    rw [List.length_set] at hnew
    have hnl : h.length ≤ (h' ++ [Row.own [bc (fb i)]]).length := by simp; omega
    generalize (h' ++ [Row.own [bc (fb i)]]).length = N at *
    generalize (h' ++ [Row.own [bc (fb i)]]).set r Row.gone ++ [Row.own (cs ++ [bc (fb i)])] = h2 at *
    (conv => whnf)
    refine HArith.fits (by omega) (by omega) ?_
    (conv => whnf)
    exact ⟨⟨k + 1, N, _, rfl, by omega, E2, hnl, hnew, by rw [htk, List.map_append, hcl]; rfl⟩, by show w.length - (k + 1) < w.length - k; omega⟩
  · have ek : k = w.length := by omega
    subst ek
    rw [List.take_length] at hcl
    (conv => whnf)
    refine ⟨5, w.map fb, by kernel_rfl, by kernel_rfl, by kernel_rfl, ?_, ?_⟩
    · have e : (w.map fb).map (fun b => H0.pl (.int .u8 (b.toNat : Int))) = cs := by rw [hcl, List.map_map]; rfl
      rw [e]
      have := Shows.own (h := h') r 0 w.length cs hcs (by rw [hcl, List.length_map]; omega)
      have e2 : (cs.drop 0).take w.length = cs := by rw [List.drop_zero, hcl, ← List.length_map (f := fun i => bc (fb i)), List.take_length]
      rwa [e2] at this
    · (conv => whnf)
      exact ⟨by rw [fmtW, if_neg (by omega)]; rfl, E⟩

end Go.Proofs.Ytnooeaemjnmkdaa.Hx

namespace Go.Proofs.Ytnooeaemjnmkdaa.Hx
open Go.RowKit
variable {dm : Bool}

def bpCells (N : Nat) (ρ : Nat → Nat) (f : Nat → Int × Int) (n : Nat) : List H0 := (List.range n).flatMap fun i => [.sl (ρ i) 0 N, ci (f i).1, ci (f i).2]
theorem bpCells_succ (N : Nat) (ρ : Nat → Nat) (f : Nat → Int × Int) (n : Nat) : bpCells N ρ f (n + 1) = bpCells N ρ f n ++ [.sl (ρ n) 0 N, ci (f n).1, ci (f n).2] := by
  unfold bpCells
  rw [List.range_succ, List.flatMap_append]
  simp
theorem bpCells_length (N : Nat) (ρ : Nat → Nat) (f : Nat → Int × Int) : ∀ n, (bpCells N ρ f n).length = 3 * n
  | 0 => rfl
  | n + 1 => by
    rw [bpCells_succ, List.length_append, bpCells_length N ρ f n]
    simp
    omega
theorem bpCells_get (N : Nat) (ρ : Nat → Nat) (f : Nat → Int × Int) {n i : Nat} (hi : i < n) : (bpCells N ρ f n)[0 + 3 * i + 0]? = some (.sl (ρ i) 0 N) ∧ (bpCells N ρ f n)[0 + 3 * i + 1]? = some (ci (f i).1) ∧ (bpCells N ρ f n)[0 + 3 * i + 2]? = some (ci (f i).2) := by
  induction n with
  | zero => omega
  | succ n ih =>
    have hl := bpCells_length N ρ f n
    rw [bpCells_succ]
    by_cases h : i < n
    · rw [List.getElem?_append_left (by omega), List.getElem?_append_left (by omega), List.getElem?_append_left (by omega)]
      exact ih h
    · have : i = n := by omega
      subst this
      rw [List.getElem?_append_right (by omega), List.getElem?_append_right (by omega), List.getElem?_append_right (by omega), hl]
      have e0 : 0 + 3 * i + 0 - 3 * i = 0 := by omega
      have e1 : 0 + 3 * i + 1 - 3 * i = 1 := by omega
      have e2 : 0 + 3 * i + 2 - 3 * i = 2 := by omega
      rw [e0, e1, e2]
      exact ⟨rfl, rfl, rfl⟩
theorem bpCells_congr {N : Nat} {ρ ρ' : Nat → Nat} {f f' : Nat → Int × Int} : ∀ {n : Nat}, (∀ i, i < n → ρ i = ρ' i ∧ f i = f' i) → bpCells N ρ f n = bpCells N ρ' f' n
  | 0, _ => rfl
  | n + 1, h => by
    rw [bpCells_succ, bpCells_succ, bpCells_congr (n := n) (fun i hi => h i (by omega)), (h n (by omega)).1, (h n (by omega)).2]

/-- The program's memory while it searches: the map of the words' texts in row m, the list of steps in row q. -/
structure Bps (b m q N : Nat) (ρ : Nat → Nat) (f : Nat → Int × Int) (Q P : List (List Int)) (h : Heap) : Prop where
  mp : ∃ ks, h[m]? = some (.keys true ks) ∧ ∀ k, k ∈ ks ↔ ∃ l ∈ Q, k = .str (fmtW l)
  ls : h[q]? = some (.own (bpCells N ρ f Q.length))
  rt : ∀ i, i < Q.length → (Q.getD i []).length = N ∧ ∃ t, h[ρ i]? = some (.own ((Q.getD i []).map ci ++ t))
  nq : ∀ i, i < Q.length → ρ i ≠ q ∧ ρ i ≠ m
  qm : q ≠ m
  low : b ≤ m ∧ b ≤ q
  lk : ∀ i, i < Q.length → ((f i).1 = -1 ∧ P.getD i [] = []) ∨ ∃ j : Nat, j < i ∧ (f i).1 = j ∧ P.getD i [] = P.getD j [] ++ [(f i).2]

theorem Bps.keep {b m q N : Nat} {ρ : Nat → Nat} {f : Nat → Int × Int} {Q P : List (List Int)} {h h' : Heap} (S : Bps b m q N ρ f Q P h) (k : ∀ z x, h[z]? = some x → z = m ∨ z = q ∨ (∃ i, i < Q.length ∧ z = ρ i) → h'[z]? = some x) : Bps b m q N ρ f Q P h' := by
  obtain ⟨ks, k1, k2⟩ := S.mp
  exact ⟨⟨ks, k _ _ k1 (Or.inl rfl), k2⟩, k _ _ S.ls (Or.inr (Or.inl rfl)), fun i hi => by
    obtain ⟨e, t, g⟩ := S.rt i hi
    exact ⟨e, t, k _ _ g (Or.inr (Or.inr ⟨i, hi, rfl⟩))⟩, S.nq, S.qm, S.low, S.lk⟩
theorem Bps.ext {b m q N : Nat} {ρ : Nat → Nat} {f : Nat → Int × Int} {Q P : List (List Int)} {h h' : Heap} (S : Bps b m q N ρ f Q P h) (E : Ext h h') : Bps b m q N ρ f Q P h' := S.keep fun _ _ g _ => E.row g
theorem Bps.but {b m q N r : Nat} {ρ : Nat → Nat} {f : Nat → Int × Int} {Q P : List (List Int)} {h h' : Heap} (S : Bps b m q N ρ f Q P h) (B : But r h h') (hr : r ≠ m ∧ r ≠ q ∧ ∀ i, i < Q.length → r ≠ ρ i) : Bps b m q N ρ f Q P h' := S.keep fun z x g hz => by
  rw [B.2 z (get_lt g) (by
    rcases hz with rfl | rfl | ⟨i, hi, rfl⟩
    · exact Ne.symm hr.1
    · exact Ne.symm hr.2.1
    · exact Ne.symm (hr.2.2 i hi))]
  exact g
theorem Bps.ints {b m q N : Nat} {ρ : Nat → Nat} {f : Nat → Int × Int} {Q P : List (List Int)} {h : Heap} (S : Bps b m q N ρ f Q P h) {i : Nat} (hi : i < Q.length) : Ints h (.sl (ρ i) 0 N) (Q.getD i []) := by
  obtain ⟨e, t, g⟩ := S.rt i hi
  have := Ints.ofOwn g
  rwa [e] at this
theorem Bps.lt {b m q N : Nat} {ρ : Nat → Nat} {f : Nat → Int × Int} {Q P : List (List Int)} {h : Heap} (S : Bps b m q N ρ f Q P h) : m < h.length ∧ q < h.length ∧ ∀ i, i < Q.length → ρ i < h.length := by
  obtain ⟨ks, k1, _⟩ := S.mp
  exact ⟨get_lt k1, get_lt S.ls, fun i hi => by obtain ⟨_, t, g⟩ := S.rt i hi; exact get_lt g⟩
theorem Bps.at0 {b m q N : Nat} {ρ : Nat → Nat} {f : Nat → Int × Int} {Q P : List (List Int)} {h : Heap} (S : Bps b m q N ρ f Q P h) {i : Nat} (hi : i < Q.length) : At h (.ptr q (0 + 3 * i + 0)) (.sl (ρ i) 0 N) ∧ At h (.ptr q (0 + 3 * i + 1)) (ci (f i).1) ∧ At h (.ptr q (0 + 3 * i + 2)) (ci (f i).2) := by
  obtain ⟨g0, g1, g2⟩ := bpCells_get N ρ f hi
  exact ⟨⟨q, _, _, _, rfl, S.ls, rfl, g0⟩, ⟨q, _, _, _, rfl, S.ls, rfl, g1⟩, ⟨q, _, _, _, rfl, S.ls, rfl, g2⟩⟩

/-- One more step: the memory after the map, the step and the longer list are written. -/
theorem Bps.add {b m q N a : Nat} {ρ : Nat → Nat} {f : Nat → Int × Int} {Q P : List (List Int)} {h : Heap} (S : Bps b m q N ρ f Q P h) {ks : List Key} (hk2 : ∀ k, k ∈ ks ↔ ∃ l ∈ Q, k = .str (fmtW l)) {l : List Int} {t : List H0} (ha : h[a]? = some (.own (l.map ci ++ t))) (hl : l.length = N) (haq : a ≠ q) (ham : a ≠ m) (hPl : P.length = Q.length) {k : Nat} (hk : k < Q.length) (pl : Int) :
    ∃ h', h' = ((h.set m (.keys true (.str (fmtW l) :: ks)) ++ [Row.own [.sl a 0 N, ci k, ci pl]]).set q .gone ++ [Row.own (bpCells N ρ f Q.length ++ [.sl a 0 N, ci k, ci pl])]) ∧ KeepN (fun z => z = m ∨ z = q) h h' ∧
      Bps b m (h.length + 1) N (fun i => if i = Q.length then a else ρ i) (fun i => if i = Q.length then ((k : Int), pl) else f i) (Q ++ [l]) (P ++ [P.getD k [] ++ [pl]]) h' := by
  refine ⟨_, rfl, ?_⟩
  have hlt := S.lt
  have hqm := S.qm
  have halt := get_lt ha
  have hL : ((h.set m (.keys true (.str (fmtW l) :: ks)) ++ [Row.own [.sl a 0 N, ci k, ci pl]]).set q .gone).length = h.length + 1 := by simp
  have same : ∀ z, z < h.length → z ≠ m → z ≠ q → ((h.set m (.keys true (.str (fmtW l) :: ks)) ++ [Row.own [.sl a 0 N, ci k, ci pl]]).set q .gone ++ [Row.own (bpCells N ρ f Q.length ++ [.sl a 0 N, ci k, ci pl])])[z]? = h[z]? := fun z hz n1 n2 => by
    rw [List.getElem?_append_left (by omega), List.getElem?_set_ne (Ne.symm n2), List.getElem?_append_left (by rw [List.length_set]; exact hz), List.getElem?_set_ne (Ne.symm n1)]
  have gm : ((h.set m (.keys true (.str (fmtW l) :: ks)) ++ [Row.own [.sl a 0 N, ci k, ci pl]]).set q .gone ++ [Row.own (bpCells N ρ f Q.length ++ [.sl a 0 N, ci k, ci pl])])[m]? = some (.keys true (.str (fmtW l) :: ks)) := by
    rw [List.getElem?_append_left (by omega), List.getElem?_set_ne hqm, List.getElem?_append_left (by rw [List.length_set]; exact hlt.1), List.getElem?_set_self hlt.1]
  have gq : ((h.set m (.keys true (.str (fmtW l) :: ks)) ++ [Row.own [.sl a 0 N, ci k, ci pl]]).set q .gone ++ [Row.own (bpCells N ρ f Q.length ++ [.sl a 0 N, ci k, ci pl])])[h.length + 1]? = some (.own (bpCells N ρ f Q.length ++ [.sl a 0 N, ci k, ci pl])) := by
    rw [← hL]
    exact get_new _ _
  have hlen : ((h.set m (.keys true (.str (fmtW l) :: ks)) ++ [Row.own [.sl a 0 N, ci k, ci pl]]).set q .gone ++ [Row.own (bpCells N ρ f Q.length ++ [.sl a 0 N, ci k, ci pl])]).length = h.length + 2 := by simp
  generalize (h.set m (.keys true (.str (fmtW l) :: ks)) ++ [Row.own [.sl a 0 N, ci k, ci pl]]).set q .gone ++ [Row.own (bpCells N ρ f Q.length ++ [.sl a 0 N, ci k, ci pl])] = h2 at *
  refine ⟨⟨by omega, fun z hz hn => same z hz (fun e => hn (Or.inl e)) (fun e => hn (Or.inr e))⟩, ⟨_, gm, fun key => ?_⟩, ?_, fun i hi => ?_, fun i hi => ?_, by omega, ⟨S.low.1, by have := S.low; omega⟩, fun i hi => ?_⟩
  · rw [List.mem_cons, hk2]
    constructor
    · rintro (e | ⟨l2, h2, e⟩)
      · exact ⟨l, by simp, e⟩
      · exact ⟨l2, by simp [h2], e⟩
    · rintro ⟨l2, h2, e⟩
      rcases List.mem_append.1 h2 with h2 | h2
      · exact Or.inr ⟨l2, h2, e⟩
      · obtain rfl : l2 = l := by simpa using h2
        exact Or.inl e
  · have e : (Q ++ [l]).length = Q.length + 1 := by simp
    rw [e, bpCells_succ, gq]
    simp only [if_true]
    rw [bpCells_congr (N := N) (n := Q.length) (ρ := fun i => if i = Q.length then a else ρ i) (f := fun i => if i = Q.length then ((k : Int), pl) else f i) (ρ' := ρ) (f' := f) (fun i hi => ⟨if_neg (Nat.ne_of_lt hi), if_neg (Nat.ne_of_lt hi)⟩)]
  · by_cases e : i < Q.length
    · obtain ⟨e1, t1, g1⟩ := S.rt i e
      have hnq := S.nq i e
      rw [getD_app e]
      simp only [if_neg (Nat.ne_of_lt e)]
      exact ⟨e1, t1, by rw [same _ (get_lt g1) hnq.2 hnq.1]; exact g1⟩
    · have ei : i = Q.length := by simp at hi; omega
      subst ei
      rw [getD_snoc]
      simp only [if_true]
      exact ⟨hl, t, by rw [same _ halt ham haq]; exact ha⟩
  · by_cases e : i < Q.length
    · have hnq := S.nq i e
      have := hlt.2.2 i e
      simp only [if_neg (Nat.ne_of_lt e)]
      exact ⟨by omega, hnq.2⟩
    · have ei : i = Q.length := by simp at hi; omega
      subst ei
      simp only [if_true]
      exact ⟨by omega, ham⟩
  · by_cases e : i < Q.length
    · simp only [if_neg (Nat.ne_of_lt e)]
      rw [getD_app (by omega)]
      rcases S.lk i e with g | ⟨j, j1, j2, j3⟩
      · exact Or.inl g
      · exact Or.inr ⟨j, j1, j2, by rw [j3, getD_app (by omega)]⟩
    · have ei : i = Q.length := by simp at hi; omega
      subst ei
      simp only [if_true]
      refine Or.inr ⟨k, hk, rfl, ?_⟩
      rw [← hPl, getD_snoc, getD_app (by omega)]

theorem Bps.first {h0 h : Heap} {r : Nat} {a : List Int} {t : List H0} (hr : h[r]? = some (.own (a.map ci ++ t))) {m q : Nat} (hq : h[q]? = some (.own [.sl r 0 a.length, ci (-1), ci 0])) (hm : h[m]? = some (.keys true [.str (fmtW a)])) (hmq : m ≠ q) (hrq : r ≠ q) (hb : h0.length ≤ m ∧ h0.length ≤ q) :
    Bps h0.length m q a.length (fun _ => r) (fun _ => (-1, 0)) [a] [[]] h := by
  refine ⟨⟨_, hm, fun k => by simp⟩, hq, fun i hi => ?_, fun i _ => ⟨hrq, fun e => ?_⟩, Ne.symm hmq, hb, fun i hi => Or.inl ⟨rfl, ?_⟩⟩
  · have : i = 0 := by simp at hi; omega
    subst this
    exact ⟨rfl, t, hr⟩
  · have e : r = m := e
    rw [e, hm] at hr
    cases hr
  · have : i = 0 := by simp at hi; omega
    subst this
    rfl


set_option maxHeartbeats 4000000 in
theorem impl_BraidPath (h : Heap) (x0 : H0) (a0 : List (List Int)) (x1 : H0) (a1 : List Int) (x2 : H0) (a2 : List Int) (hx0 : Rows h x0 a0) (hx1 : Ints h x1 a1) (hx2 : Ints h x2 a2) (s0 : a0.length ≤ 1048576 ∧ tot a0 ≤ 1048576) (s1 : a1.length ≤ 1048576) (s2 : a2.length ≤ 1048576) :
    HCalls dm Try.prog 12 [.s x0, .s x1, .s x2] h (fun r h' => ∃ y, r = T2 y (bpOk a0 a1 a2) ∧ Fresh h h' y (bpPath a0 a1 a2)) := by
  obtain ⟨V, hV⟩ : ∃ V, V = bpOk a0 a1 a2 := ⟨_, rfl⟩
  obtain ⟨W, hW⟩ : ∃ W, W = bpPath a0 a1 a2 := ⟨_, rfl⟩
  rw [← hV, ← hW]
  refine calls_of_hFun (m := 0) kd_ok mixed Try.func12 rfl (by kernel_rfl) rfl rfl (of_decide_eq_true rfl) ?_; unfold hFun; (conv => whnf)
  have bad : ∀ h2, Ext h h2 → bpOk a0 a1 a2 = false ∧ bpPath a0 a1 a2 = [] → V = false ∧ Fresh h (h2 ++ [Row.own []]) (.sl h2.length 0 0) W := fun h2 E hb => by
    rw [hV, hW, hb.1, hb.2]
    exact ⟨rfl, Fresh.of (E.trans (Ext.push _ _)) ((OwnR.push h2 []).own E.1)⟩
  refine (impl_IsReduced _ _ a0 _ a1 hx0 hx1 s0 s1).mono ?_
  rintro r h1 ⟨rfl, E1⟩
  cases hr1 : isReduced a0 a1
  · obtain ⟨g1, g2⟩ := bad h1 E1 (bp_off fun k => by rw [hr1] at k; cases k.1)
    subst g1
    (conv => whnf)
    (repeat (first | (refine HIf.yes ?_; conv => whnf) | (refine HIf.no ?_; conv => whnf)))
    refine HLit.empty ?_
    (conv => whnf)
    exact ⟨_, rfl, g2⟩
  (conv => whnf)
  (repeat (first | (refine HIf.yes ?_; conv => whnf) | (refine HIf.no ?_; conv => whnf)))
  refine (impl_IsReduced _ _ a0 _ a2 (hx0.ext E1) (hx2.ext E1) s0 s2).mono ?_
  rintro r h2 ⟨rfl, E2⟩
  replace E2 := E1.trans E2
  cases hr2 : isReduced a0 a2
  · obtain ⟨g1, g2⟩ := bad h2 E2 (bp_off fun k => by rw [hr2] at k; cases k.2)
    subst g1
    (conv => whnf)
    (repeat (first | (refine HIf.yes ?_; conv => whnf) | (refine HIf.no ?_; conv => whnf)))
    refine HLit.empty ?_
    (conv => whnf)
    exact ⟨_, rfl, g2⟩
  have hw1 := isRed_word hr1
  obtain ⟨hC, hl1, hle1⟩ := word_cartan hw1
  have hres : ∀ {r : Bool × List Int}, bpOut a0 a2 121 0 ([a1], [[]]) = r → V = r.1 ∧ W = r.2 := fun {r} e => by
    rw [hV, hW]
    exact bp_on hr1 hr2 e
  (conv => whnf)
  (repeat (first | (refine HIf.yes ?_; conv => whnf) | (refine HIf.no ?_; conv => whnf)))
  have B0 := BpS.start a0 a1 hle1
  have hsm1 := small4 hC (B0.red a1 (by simp))
  refine HLit.empty ?_
  (conv => whnf)
  refine ⟨rfl, rfl, HApp.moreR (OwnR.push h2 []) ((hx1.ext E2).ext (Ext.push _ _)) (by rw [List.length_nil]; omega) (fun h3 r3 y3 B3 hr3 O3 => ?_)⟩
  rw [List.nil_append] at O3
  have E3 := E2.trans ((Ext.push h2 [Row.own []]).but B3 (Nat.le_refl _))
  obtain ⟨t3, rfl, g3⟩ := O3
  have hlt3 := get_lt g3
  (conv => whnf)
  have hone3 : ∀ c ∈ [H0.sl r3 0 a1.length, ci (-1), ci 0], c.one = true := fun c hc => by
    simp only [List.mem_cons, List.not_mem_nil, or_false] at hc
    rcases hc with rfl | rfl | rfl <;> rfl
  refine HRec.of (xs := [.sl r3 0 a1.length, ci (-1), ci 0]) (cs := [.sl r3 0 a1.length, ci (-1), ci 0]) hone3 ?_
  (conv => whnf)
  refine HLitW.one' (by decide) rfl hone3 ?_
  (conv => whnf)
  have E4 := Ext.push h3 ([Row.own [H0.sl r3 0 a1.length, ci (-1), ci 0]] ++ [Row.keys true []])
  rw [← List.append_assoc] at E4
  have gq4 : (h3 ++ [Row.own [H0.sl r3 0 a1.length, ci (-1), ci 0]] ++ [Row.keys true []])[h3.length]? = some (.own [H0.sl r3 0 a1.length, ci (-1), ci 0]) := by
    rw [List.getElem?_append_left (by simp)]
    exact get_new _ _
  have gm4 := get_new (h3 ++ [Row.own [H0.sl r3 0 a1.length, ci (-1), ci 0]]) (Row.keys true [])
  have em : (h3 ++ [Row.own [H0.sl r3 0 a1.length, ci (-1), ci 0]]).length = h3.length + 1 := by simp
  rw [em] at gm4
  rw [em]
  generalize h3 ++ [Row.own [H0.sl r3 0 a1.length, ci (-1), ci 0]] ++ [Row.keys true []] = h4 at E4 gq4 gm4 ⊢
  (conv => whnf)
  refine (impl_FormatWord _ _ a1 ((hx1.ext E3).ext E4) hsm1 s1).mono ?_
  rintro rr h5 ⟨rfl, E5⟩
  have gq5 := E5.row gq4
  have gm5 := E5.row gm4
  have gr5 := E5.row (E4.row g3)
  have hmlt := get_lt gm5
  have hl3 := E3.1
  (conv => whnf)
  refine ⟨h3.length + 1, [], .str (fmtW a1), rfl, rfl, gm5, rfl, rfl, by simp, ?_⟩
  have gm6 : (h5.set (h3.length + 1) (Row.keys true [.str (fmtW a1)]))[h3.length + 1]? = some (.keys true [.str (fmtW a1)]) := by rw [List.getElem?_set_self hmlt]
  have gq6 : (h5.set (h3.length + 1) (Row.keys true [.str (fmtW a1)]))[h3.length]? = _ := (List.getElem?_set_ne (by omega)).trans gq5
  have gr6 : (h5.set (h3.length + 1) (Row.keys true [.str (fmtW a1)]))[r3]? = _ := (List.getElem?_set_ne (by omega)).trans gr5
  have E6 : Ext h (h5.set (h3.length + 1) (Row.keys true [.str (fmtW a1)])) := ((E3.trans E4).trans E5).set (by omega) _
  generalize h5.set (h3.length + 1) (Row.keys true [.str (fmtW a1)]) = h6 at gm6 gq6 gr6 E6 ⊢
  have S0 := Bps.first (h0 := h) gr6 gq6 gm6 (by omega) (by omega) ⟨by omega, by omega⟩
  clear gm6 gq6 gr6 gm5 gq5 gr5 E5 E4 gq4 gm4 E3 g3 hmlt hone3 B3 hr3 E2 E1
  generalize h3.length + 1 = m at *
  (conv => whnf)
  refine HLoop.intro [10, 8] [38, 39, 40, 41, 44, 45, 46, 47, 48, 49, 50, 51, 11, 52, 12, 53, 54, 55, 56, 57, 58, 64, 65, 66, 67, 68, 69, 70, 71, 11, 59, 60, 61, 62, 63, 12, 72, 73, 74, 6, 7, 75, 76, 77, 78, 79, 80, 81, 82, 83, 84, 85, 86, 14, 88, 89, 90, 91, 92, 93, 94, 95, 87, 96, 97, 15, 16, 98, 99, 17, 100, 101, 102, 103, 104, 105, 106, 107, 108, 109, 110, 111, 112, 113, 114, 115, 116, 117, 8, 118, 83, 42, 43, 10] (by kernel_rfl) (by kernel_rfl) (fun vs h' => ∃ (k q : Nat) (ρ : Nat → Nat) (f : Nat → Int × Int) (Q P : List (List Int)), vs = [I k, .s (.sw 3 q 0 Q.length)] ∧ k ≤ Q.length ∧ Ext h h' ∧ Bps h.length m q a1.length ρ f Q P h' ∧ BpS a0 a1.length (imageOf a0 a1) Q P ∧ bpOut a0 a2 (121 - k) k (Q, P) = bpOut a0 a2 121 0 ([a1], [[]])) (fun vs _ => 121 - natAt vs 0) ⟨0, _, _, _, [a1], [[]], rfl, by omega, E6, S0, B0, rfl⟩ ?_
  clear E6 S0 B0
  rintro vs h' ⟨k, q, ρ, f, Q, P, rfl, hk, E, M, S, hout⟩
  have hfew := S.few
  have hPl := S.len
  (conv => whnf)
  refine HLenW.at' ?_
  (conv => whnf)
  refine HIf.dec (fun hlt => ?_) (fun hge => ?_)
  rotate_left
  · (conv => whnf)
    obtain ⟨g1, g2⟩ := hres (r := (false, [])) (by rw [← hout]; exact bpOut_end (by show ¬ k < Q.length; omega))
    subst g1 g2
    refine HLit.empty ?_
    (conv => whnf)
    exact ⟨_, rfl, Fresh.of (E.trans (Ext.push _ _)) ((OwnR.push h' []).own E.1)⟩
  have hkl : k < Q.length := by omega
  have hkp : k < P.length := by omega
  have hRq := S.red _ (getD_mem hkl)
  have hql : (Q.getD k []).length ≤ 15 := by rw [hRq.1]; exact hl1
  have hpl120 := S.path k hkp
  have efu : 121 - k = (121 - (k + 1)) + 1 := by omega
  rw [efu] at hout
  have eki : ((k : Nat) : Int).toNat = k := by omega
  (conv => whnf)
  refine HIdxW.at' (by omega) (by omega) ?_
  rw [eki]
  (conv => whnf)
  refine HField.at2 (by decide) ?_
  (conv => whnf)
  refine ⟨rfl, (M.at0 hkl).1.load ?_⟩
  (conv => whnf)
  refine (impl_EqualWords _ _ _ _ a2 (M.ints hkl) (hx2.ext E) (by omega)).mono ?_
  rintro v h3' ⟨rfl, hh⟩
  subst h3'
  (conv => whnf)
  refine HIf.dec (fun he => ?_) (fun hne => ?_)
  · (conv => whnf)
    obtain ⟨g1, g2⟩ := hres (r := (true, P.getD k [])) (by rw [← hout]; exact bpOut_hit hkl he)
    subst g1 g2
    refine HLit.empty ?_
    (conv => whnf)
    have hMlt := M.lt
    have hE := E.1
    refine HLoop.intro [12, 11] [53, 54, 55, 56, 57, 58, 64, 65, 66, 67, 68, 69, 70, 71, 11, 59, 60, 61, 62, 63, 12] (by kernel_rfl) (by kernel_rfl) (fun vs h'' => ∃ (i r : Nat) (z : H0) (out : List Int), vs = [I i, .s z] ∧ i ≤ k ∧ Ext h h'' ∧ Bps h.length m q a1.length ρ f Q P h'' ∧ OwnR r h'' z out ∧ h'.length ≤ r ∧ P.getD k [] = P.getD i [] ++ out.reverse) (fun vs _ => natAt vs 0) ⟨k, _, _, [], rfl, Nat.le_refl _, E.trans (Ext.push _ _), M.ext (Ext.push _ _), OwnR.push h' [], Nat.le_refl _, by simp⟩ ?_
    rintro vs h4 ⟨i, r, z, out, rfl, hi, E4, M4, O4, hr4, hout4⟩
    have hil : i < Q.length := by omega
    have eii : ((i : Nat) : Int).toNat = i := by omega
    have holen : out.length ≤ 120 := by
      have := congrArg List.length hout4
      rw [List.length_append, List.length_reverse] at this
      omega
    have hrne : r ≠ m ∧ r ≠ q ∧ ∀ i, i < Q.length → r ≠ ρ i := ⟨by omega, by omega, fun i hi => by have := hMlt.2.2 i hi; omega⟩
    have hlk := M4.lk i hil
    have hat := M4.at0 hil
    generalize hfi : f i = fi at *
    obtain ⟨fa, fp⟩ := fi
    simp only at hlk hat
    (conv => whnf)
    refine HIdxW.at' (by omega) (by omega) ?_
    rw [eii]
    (conv => whnf)
    refine HField.at2 (by decide) ?_
    (conv => whnf)
    refine ⟨rfl, hat.2.1.load ?_⟩
    (conv => whnf)
    rcases hlk with ⟨h1', h2'⟩ | ⟨j, hj, h1', h2'⟩
    · have hneg : ¬ fa ≥ 0 := by omega
      refine HIf.decF hneg ?_
      (conv => whnf)
      refine (lib_Reverse _ r _ out O4 (by omega)).mono ?_
      rintro v h5 ⟨B5, O5⟩
      rw [h2', List.nil_append] at hout4
      (conv => whnf)
      rw [hout4]
      exact ⟨_, rfl, Fresh.ofRow (E4.but B5 (by omega)) O5 (by omega)⟩
    · subst h1'
      have hpos : (j : Int) ≥ 0 := by omega
      refine HIf.decT hpos ?_
      (conv => whnf)
      refine HIdxW.at' (by omega) (by omega) ?_
      rw [eii]
      (conv => whnf)
      refine HField.at2 (by decide) ?_
      (conv => whnf)
      refine ⟨rfl, hat.2.2.load ?_⟩
      (conv => whnf)
      refine HLit.one ?_
      (conv => whnf)
      refine ⟨rfl, rfl, HApp.snocR O4 (by omega) (fun h5 r5 z5 B5 hr5 O5 => ?_)⟩
      have M5 := M4.but B5 hrne
      have hat5 := M5.at0 hil
      rw [hfi] at hat5
      simp only at hat5
      have hl5 := O4.lt
      (conv => whnf)
      refine HIdxW.at' (by omega) (by omega) ?_
      rw [eii]
      (conv => whnf)
      refine HField.at2 (by decide) ?_
      (conv => whnf)
      refine ⟨rfl, hat5.2.1.load ?_⟩
      (conv => whnf)
      exact ⟨⟨j, r5, z5, _, rfl, by omega, E4.but B5 (by omega), M5, O5, by omega, by rw [hout4, h2']; simp⟩, hj⟩
  (conv => whnf)
  refine HIdxW.at' (by omega) (by omega) ?_
  rw [eki]
  (conv => whnf)
  refine HField.at2 (by decide) ?_
  (conv => whnf)
  refine ⟨rfl, (M.at0 hkl).1.load ?_⟩
  (conv => whnf)
  refine (impl_BraidPlaces _ _ a0 _ _ (hx0.ext E) (M.ints hkl) s0 (by omega)).mono ?_
  rintro rr h4 ⟨y4, rfl, f4⟩
  obtain ⟨rp, hrp, Op⟩ := f4.row
  have E4 := E.trans f4.1
  have M4 := M.ext f4.1
  have hMlt := M.lt
  have hpl := brTo_le a0 (Q.getD k []) (Q.getD k []).length
  have hmem : ∀ i : Int, i ∈ brTo a0 (Q.getD k []) (Q.getD k []).length → ∃ t : Nat, i = t ∧ t < (Q.getD k []).length ∧ brOk a0 (Q.getD k []) t = true := fun i hi => mem_brTo.1 hi
  have hnext := bpOut_next (f := 121 - (k + 1)) (b := a2) (c := a0) (S := (Q, P)) hkl hne
  have hall : bpAll a0 (Q, P) k = bpIn a0 (Q.getD k []) (P.getD k []) (Q, P) (brTo a0 (Q.getD k []) (Q.getD k []).length) := rfl
  rw [hall] at hnext
  clear hall
  generalize brTo a0 (Q.getD k []) (Q.getD k []).length = pl at *
  generalize hw : Q.getD k [] = w at *
  generalize hpk : P.getD k [] = pk at *
  (conv => whnf)
  refine ⟨rfl, Op.ints.len ?_⟩
  (conv => whnf)
  refine HLoop.intro [83, 8] [84, 85, 86, 14, 88, 89, 90, 91, 92, 93, 94, 95, 87, 96, 97, 15, 16, 98, 99, 17, 100, 101, 102, 103, 104, 105, 106, 107, 108, 109, 110, 111, 112, 113, 114, 115, 116, 117, 8, 118, 83] (by kernel_rfl) (by kernel_rfl) (fun vs h'' => ∃ (n q : Nat) (ρ : Nat → Nat) (f : Nat → Int × Int) (Q' P' : List (List Int)), vs = [I n, .s (.sw 3 q 0 Q'.length)] ∧ n ≤ pl.length ∧ Ext h h'' ∧ Bps h.length m q a1.length ρ f Q' P' h'' ∧ BpS a0 a1.length (imageOf a0 a1) Q' P' ∧ OwnR rp h'' y4 pl ∧ rp ≠ q ∧ rp ≠ m ∧ (Q', P') = bpIn a0 w pk (Q, P) (pl.take n) ∧ k < Q'.length ∧ Q'.getD k [] = w ∧ P'.getD k [] = pk) (fun vs _ => pl.length - natAt vs 0) ⟨0, q, ρ, f, Q, P, rfl, by omega, E4, M4, S, Op, by omega, by omega, rfl, hkl, hw, hpk⟩ ?_
  clear E4 M4 S Op hrp f4 M E hMlt hkl hkp hw hpk
  rintro vs h4 ⟨n, q, ρ, f, Q', P', rfl, hn, E, M, S, Op, hrp1, hrp2, hstate, hkl, hw, hpk⟩
  have hfew' := S.few
  have hPl' := S.len
  (conv => whnf)
  refine HIf.dec (fun hlt2 => ?_) (fun hge2 => ?_)
  rotate_left
  · have en : n = pl.length := by omega
    subst en
    rw [List.take_length] at hstate
    (conv => whnf)
    refine HArith.fits (by omega) (by omega) ?_
    (conv => whnf)
    exact ⟨⟨k + 1, q, ρ, f, Q', P', rfl, by omega, E, M, S, by rw [hstate, ← hnext]; exact hout⟩, by show 121 - (k + 1) < 121 - k; omega⟩
  have hnl : n < pl.length := by omega
  have hin : pl.getD n 0 ∈ pl := by
    have e : pl.getD n 0 = pl[n] := by simp [List.getD, hnl]
    rw [e]
    exact List.getElem_mem hnl
  obtain ⟨t, et, htq, htok⟩ := hmem _ hin
  have hsn := take_snoc' hnl
  rw [et] at hsn
  have hRw := S.red _ (getD_mem hkl)
  have hMk := M.ints hkl
  rw [hw] at hRw hMk
  have hRb := (br_of_braid htok).red (by omega) hRw
  (conv => whnf)
  refine ⟨rfl, Ints.idxN Op.ints hnl (fun p5 hp5 => ?_)⟩
  rw [et] at hp5
  (conv => whnf)
  refine ⟨rfl, hp5.load ?_⟩
  (conv => whnf)
  refine HIdxW.at' (by omega) (by omega) ?_
  rw [eki]
  (conv => whnf)
  refine HField.at2 (by decide) ?_
  (conv => whnf)
  refine ⟨rfl, (M.at0 hkl).1.load ?_⟩
  (conv => whnf)
  refine (impl_BraidAt0 _ _ a0 _ w (t : Int) (hx0.ext E) hMk s0 (by omega)).mono ?_
  rintro rr h5 ⟨y5, rfl, f5⟩
  obtain ⟨r5, hr5, O5⟩ := f5.row
  have hMlt := M.lt
  (conv => whnf)
  refine (impl_FormatWord _ _ _ f5.ints (small4 hC hRb) (by rw [hRb.1]; omega)).mono ?_
  rintro rr h6 ⟨rfl, E6⟩
  have F6 := f5.1.trans E6
  have E5 := E.trans F6
  have M6 := M.ext F6
  have Op6 := Op.ext F6
  have O6 := O5.ext E6
  have hoplt := Op.lt
  obtain ⟨ks, hm6, hk6⟩ := M6.mp
  have hmemk : Key.str (fmtW (braid a0 w (t : Int))) ∈ ks ↔ braid a0 w (t : Int) ∈ Q' := by
    rw [hk6]
    constructor
    · rintro ⟨l2, h2', e⟩
      have hl2 := S.red l2 h2'
      rw [fmtW_inj (small4 hC hRb) (small4 hC hl2) (by rw [hRb.1, hl2.1]) (Key.str.inj e)]
      exact h2'
    · exact fun e => ⟨_, e, rfl⟩
  have same : ¬ (braid a0 w (t : Int) ∉ Q' ∧ Q'.length < 120) → ∃ (n_1 q_1 : Nat) (ρ_1 : Nat → Nat) (f_1 : Nat → Int × Int) (Q'_1 P'_1 : List (List Int)), [I ((n : Int) + 1), .s (.sw 3 q 0 Q'.length)] = [I n_1, .s (.sw 3 q_1 0 Q'_1.length)] ∧ n_1 ≤ pl.length ∧ Ext h h6 ∧ Bps h.length m q_1 a1.length ρ_1 f_1 Q'_1 P'_1 h6 ∧ BpS a0 a1.length (imageOf a0 a1) Q'_1 P'_1 ∧ OwnR rp h6 y4 pl ∧ rp ≠ q_1 ∧ rp ≠ m ∧ (Q'_1, P'_1) = bpIn a0 w pk (Q, P) (pl.take n_1) ∧ k < Q'_1.length ∧ Q'_1.getD k [] = w ∧ P'_1.getD k [] = pk := fun hno =>
    ⟨n + 1, q, ρ, f, Q', P', rfl, by omega, E5, M6, S, Op6, hrp1, hrp2, by rw [hsn, bpIn_snoc, ← hstate, bpStep_old hno], hkl, hw, hpk⟩
  (conv => whnf)
  refine ⟨m, ks, .str (fmtW (braid a0 w (t : Int))), rfl, hm6, rfl, rfl, ?_⟩
  (conv => whnf)
  by_cases hold : braid a0 w (t : Int) ∈ Q'
  · rw [decide_eq_true (hmemk.2 hold)]
    (repeat (first | (refine HIf.no ?_; (conv => whnf)) | (refine HIf.isF rfl ?_; (conv => whnf))))
    refine HArith.fits (by omega) (by omega) ?_
    (conv => whnf)
    exact ⟨same fun k => k.1 hold, by show pl.length - (n + 1) < pl.length - n; omega⟩
  rw [decide_eq_false (fun k => hold (hmemk.1 k))]
  refine HIf.isT rfl ?_
  (conv => whnf)
  refine HIf.isT rfl ?_
  (conv => whnf)
  refine HLenW.at' ?_
  (conv => whnf)
  refine HIf.isT rfl ?_
  (conv => whnf)
  refine HIf.isT rfl ?_
  (conv => whnf)
  refine HIf.dec (fun hroom => ?_) (fun hfull => ?_)
  rotate_left
  · (conv => whnf)
    refine HArith.fits (by omega) (by omega) ?_
    (conv => whnf)
    exact ⟨same fun k => by omega, by show pl.length - (n + 1) < pl.length - n; omega⟩
  have hroom' : Q'.length < 120 := by omega
  have S2 := S.step (t := t) (by omega) hkl (by rw [hw]; exact htok) hroom'
  obtain ⟨t6, e6, g6⟩ := O6
  rw [hRb.1] at e6
  subst e6
  have hone6 : ∀ c ∈ [H0.sl r5 0 a1.length, ci (k : Int), ci (t : Int)], c.one = true := fun c hc => by
    simp only [List.mem_cons, List.not_mem_nil, or_false] at hc
    rcases hc with rfl | rfl | rfl <;> rfl
  have hadd := M6.add hk6 g6 hRb.1 (by omega) (by omega) hPl' hkl (t : Int)
  rw [hpk] at hadd
  obtain ⟨h7, e7, K7, M7⟩ := hadd
  have hlt6 := M6.lt
  have hF6 := F6.1
  (conv => whnf)
  refine ⟨m, ks, .str (fmtW (braid a0 w (t : Int))), rfl, rfl, hm6, rfl, rfl, fun k => hold (hmemk.1 k), ?_⟩
  (conv => whnf)
  refine HRec.of (xs := [.sl r5 0 a1.length, ci (k : Int), ci (t : Int)]) (cs := [.sl r5 0 a1.length, ci (k : Int), ci (t : Int)]) hone6 ?_
  (conv => whnf)
  refine HLitW.one' (by decide) rfl hone6 ?_
  (conv => whnf)
  refine ⟨rfl, HAppW.snoc' (cs := bpCells a1.length ρ f Q'.length) (xs := [.sl r5 0 a1.length, ci (k : Int), ci (t : Int)]) ?_ (bpCells_length _ _ _ _) (get_new _ _) rfl hone6 (by omega) ?_⟩
  · rw [List.getElem?_append_left (by rw [List.length_set]; omega), List.getElem?_set_ne (Ne.symm M6.qm)]
    exact M6.ls
  have hL : (h6.set m (Row.keys true (Key.str (fmtW (braid a0 w (t : Int))) :: ks)) ++ [Row.own [H0.sl r5 0 a1.length, ci (k : Int), ci (t : Int)]]).length = h6.length + 1 := by simp
  rw [hL, ← e7]
  clear same hmem hmemk hk6
  have hlow6 := M6.low
  have E7 : Ext h h7 := K7.ext (fun z e => by rcases e with rfl | rfl; exact hlow6.1; exact hlow6.2) E5
  have Op7 := Op6.keep K7 (fun e => e.elim hrp2 hrp1)
  (conv => whnf)
  refine HArith.fits (by omega) (by omega) ?_
  (conv => whnf)
  rw [hw, hpk] at S2
  refine ⟨⟨n + 1, h6.length + 1, _, _, _, _, ?_, by omega, E7, M7, S2, Op7, by omega, hrp2, ?_, by rw [List.length_append]; omega, ?_, ?_⟩, by show pl.length - (n + 1) < pl.length - n; omega⟩
  · rw [List.length_append]
    rfl
  · rw [hsn, bpIn_snoc, ← hstate, bpStep_new ⟨hold, hroom'⟩]
  · rw [getD_app hkl]
    exact hw
  · rw [getD_app (by omega)]
    exact hpk

end Go.Proofs.Ytnooeaemjnmkdaa.Hx

namespace Go.Proofs.Ytnooeaemjnmkdaa.Hx
open Go.RowKit Go.ChangeShapes Go.WideShapes Go.ChangeAt
variable {dm : Bool}

theorem Rep.start (w : World) (ht : TabAt w.heap.size w := by refine ⟨fun x hx => ?_, fun x hx => ?_, fun x hx => ?_⟩ <;> cases hx) : Rep w.heap.size [] [] w :=
  ⟨rfl, Nat.le_refl _, fun r cs p h => by simp at h, fun r cs p h => by simp at h, fun r r' cs cs' p p' _ h => by simp at h, fun r so ks p h => by simp at h, fun r r' so so' ks ks' p p' _ h => by simp at h, ht⟩

/-- A row that is only read. -/
theorem Rep.pushRo {B0 : Nat} {φ : Plan} {h : Heap} {w : World} (R : Rep B0 φ h w) (p : Place) (hb : p.b < B0) (cs : List H0) (hc : ∀ (k : Nat) (c : H0), cs[k]? = some c → ∃ v, w.cell? ⟨p.b, p.o + k, none⟩ = some v ∧ rep0 φ c v) :
    Rep B0 (φ ++ [p]) (h ++ [.ro cs]) w := by
  have hold : ∀ (r : Nat) (x : Row), r < h.length → (h ++ [Row.ro cs])[r]? = some x → h[r]? = some x := fun r x hr hx => by rw [List.getElem?_append_left hr] at hx; exact hx
  have hpl : ∀ (r : Nat) (y : Place), r < h.length → (φ ++ [p])[r]? = some y → φ[r]? = some y := fun r y hr hx => by rw [List.getElem?_append_left (by rw [R.len]; exact hr)] at hx; exact hx
  have hlast : ∀ (r : Nat) (x : Row), ¬ r < h.length → (h ++ [Row.ro cs])[r]? = some x → r = h.length ∧ x = .ro cs := fun r x hr hx => by
    rw [List.getElem?_append_right (by omega)] at hx
    have h0 : r - h.length = 0 := by
      have := (List.getElem?_eq_some_iff.1 hx).1
      simp at this
      omega
    rw [h0] at hx
    simp at hx
    exact ⟨by omega, hx.symm⟩
  have keyq : ∀ (q : Nat) (so : Bool) (ks : List Key), (h ++ [Row.ro cs])[q]? = some (.keys so ks) → q < h.length := fun q so ks hq => by
    by_cases hl : q < h.length
    · exact hl
    · cases (hlast q _ hl hq).2
  refine ⟨by simp [R.len], R.base, fun r xs y h1 h2 => ?_, fun r xs y h1 h2 => ?_, fun r r' xs xs' y y' hne h1 h1' h2 h2' => ?_, fun r so ks y h1 h2 => R.keys r so ks y (hold r _ (keyq _ _ _ h1) h1) (hpl r y (keyq _ _ _ h1) h2),
    fun r r' so so' ks ks' y y' hne h1 h1' h2 h2' => R.apartK r r' so so' ks ks' y y' hne (hold r _ (keyq _ _ _ h1) h1) (hold r' _ (keyq _ _ _ h1') h1') (hpl r y (keyq _ _ _ h1) h2) (hpl r' y' (keyq _ _ _ h1') h2'), R.tab⟩
  · by_cases hr : r < h.length
    · obtain ⟨g1, g2⟩ := R.ro r xs y (hold r _ hr h1) (hpl r y hr h2)
      refine ⟨g1, fun k c hk => ?_⟩
      obtain ⟨v, e1, e2⟩ := g2 k c hk
      exact ⟨v, e1, e2.mono (Sub.push _ _)⟩
    · obtain ⟨e1, e2⟩ := hlast r _ hr h1
      subst e1
      cases e2
      rw [← R.len, List.getElem?_append_right (Nat.le_refl _)] at h2
      simp at h2
      subst h2
      refine ⟨hb, fun k c hk => ?_⟩
      obtain ⟨v, e1, e2⟩ := hc k c hk
      exact ⟨v, e1, e2.mono (Sub.push _ _)⟩
  · by_cases hr : r < h.length
    · obtain ⟨g1, g2, g3, cur', e', g4, g5, g6⟩ := R.own r xs y (hold r _ hr h1) (hpl r y hr h2)
      refine ⟨g1, g2, g3, cur', e', g4, g5, fun k c hk => ?_⟩
      obtain ⟨v, e1, e2⟩ := g6 k c hk
      exact ⟨v, e1, e2.mono (Sub.push _ _)⟩
    · cases (hlast r _ hr h1).2
  · by_cases hr : r < h.length <;> by_cases hr' : r' < h.length
    · exact R.apart r r' xs xs' y y' hne (hold r _ hr h1) (hold r' _ hr' h1') (hpl r y hr h2) (hpl r' y' hr' h2')
    · cases (hlast r' _ hr' h1').2
    · cases (hlast r _ hr h1).2
    · cases (hlast r _ hr h1).2

/-- What opening an argument gives. -/
def Opened (φ : Plan) (h : Heap) (w : World) (v : Value) (T : Heap → H0 → Prop) : Prop := ∃ x φ' h', Sub φ φ' ∧ Ext h h' ∧ Rep w.heap.size φ' h' w ∧ rep0 φ' x v ∧ T h' x

/-- A slice of ints by its cells. -/
theorem open_cells {φ : Plan} {h : Heap} {w : World} (R : Rep w.heap.size φ h w) (ao : Option Addr) (len cap : Nat) (zs : List Int) (hl : len ≤ cap) (hm : cap ≤ maxLen) (hz : zs.length = cap) (hnone : ao = none → cap = 0)
    (hc : ∀ a, ao = some a → ∀ i, i < cap → w.cell? (a.add i) = some (.int .i64 (zs.getD i 0))) : Opened φ h w (.slice ao len cap) (fun h' x => Ints h' x (zs.take len)) := by
  by_cases h0 : len = 0
  · subst h0
    exact ⟨.pl (.slice ao 0 cap), φ, h, Sub.refl _, Ext.refl _, R, rfl, Shows.nils _ _⟩
  · cases ao with
    | none => have := hnone rfl; omega
    | some a =>
      have hc := hc a rfl
      obtain ⟨b, off, spot⟩ := a
      have hspot : spot = none := by simpa [Addr.add] using World.cell?_spot (hc 0 (by omega))
      subst hspot
      have hb : b < w.heap.size := World.block_lt_of_cell? w ⟨b, off, none⟩ (by simpa [Addr.add] using hc 0 (by omega))
      have hlen : ((zs.take len).map ci).length = len := by simp; omega
      refine ⟨.sl h.length 0 len, φ ++ [⟨b, off, cap⟩], h ++ [.ro ((zs.take len).map ci)], Sub.push _ _, Ext.push _ _, R.pushRo ⟨b, off, cap⟩ hb _ (fun k c hk => ?_), ⟨⟨b, off, cap⟩, _, _, ?_, rfl, hl, hm, by simp, fun _ => rfl⟩, ?_⟩
      · have hk2 : k < len := by have := (List.getElem?_eq_some_iff.1 hk).1; omega
        refine ⟨.int .i64 (zs.getD k 0), by rw [← addr_add]; exact hc k (by omega), ?_⟩
        rw [List.getElem?_map, List.getElem?_take_of_lt hk2, List.getElem?_eq_getElem (by omega)] at hk
        simp only [Option.map_some, Option.some.injEq] at hk
        subst hk
        show _ = _
        simp [List.getD, show k < zs.length by omega]
      · rw [← R.len, List.getElem?_append_right (Nat.le_refl _)]
        simp
      · show Shows _ _ ((zs.take len).map ci)
        generalize (zs.take len).map ci = L at hlen ⊢
        have := Shows.ro h.length 0 len _ (get_new h (.ro L)) (by omega)
        simp only [List.drop_zero] at this
        rw [List.take_of_length_le (by omega)] at this
        exact this

/-- An argument that is a slice of ints. -/
theorem open_arg_ints {H : Type} {enc : TypeId × Value → H} {P : Program} {w : World} {t e : TypeId} {v : Value} {d : DataW H} {ps : List MemPlace} {base : Nat} (ht : P.underlying t = some (.slice e)) (he : P.underlying e = some (.int .i64)) (hc : P.cellsOf e = 1)
    (hv : Value.okWide P w .any base t v) (h0 : DataW.Trod enc P w 0 (fun _ => true) true t v d ps) {φ : Plan} {h : Heap} (R : Rep w.heap.size φ h w) : ∃ l, Opened φ h w v (fun h' x => Ints h' x l) := by
  obtain ⟨a0, len, cap, rfl⟩ := okWide_slice ht hv
  obtain ⟨fuel, hf⟩ := h0
  rcases open_ints ht he hc hf with ⟨hcs, hx⟩ | ⟨a, len', cap', zs, hcs, _, hl, hm, hz, hx, hcell, hwz⟩
  · simp [Value.cells] at hcs
    obtain ⟨rfl, rfl, rfl⟩ := hcs
    exact ⟨_, open_cells R none 0 0 [] (Nat.le_refl _) (by unfold maxLen; omega) rfl (fun _ => rfl) (fun a h => by cases h)⟩
  · simp [Value.cells] at hcs
    obtain ⟨rfl, rfl, rfl⟩ := hcs
    simp only [if_true] at hz
    exact ⟨_, open_cells R (some a) len cap zs hl hm hz (fun h => by cases h) (fun a' h => by cases h; exact fun i hi => hcell i (by omega))⟩

/-- The end of a law: it comes back true, and memory that was there is as it was. -/
theorem law_calls {P : Program} {k : FuncId} {args : List HV} {h : Heap} {φ : Plan} {w : World} {vargs : Array Value} (H : HCalls false P k args h (fun r _ => r = B true)) (R : Rep w.heap.size φ h w) (ha : repVs φ args vargs.toList) :
    Calls P k vargs w fun e w' => e = .returned (.bool true) ∧ Below w.heap.size w w' :=
  (H.out _ φ w vargs R ha).mono (by
    rintro e w' ⟨v, x, h', φ', rfl, rfl, g2, g3, g4, g5⟩
    have hv := rep0_pl g4
    subst hv
    exact ⟨rfl, g5.toBelow⟩)

theorem own : ownKnob Try.prog.godebug = none := by kernel_rfl
theorem laidOut : laidOutB Try.prog = true := by kernel_rfl

end Go.Proofs.Ytnooeaemjnmkdaa.Hx

namespace Go.Proofs.Ytnooeaemjnmkdaa.Hx
open Go.RowKit Go.ChangeShapes Go.WideShapes Go.ChangeAt

theorem i64_wf {n : Int} (h : (Lit.int .i64 n).wf = true) : -9223372036854775808 ≤ n ∧ n ≤ 9223372036854775807 := by
  simp only [Lit.wf, Bool.and_eq_true, decide_eq_true_eq] at h
  have h1 : IntKind.i64.min = -9223372036854775808 := by decide
  have h2 : IntKind.i64.max = 9223372036854775807 := by decide
  rw [h1, h2] at h
  exact h

/-- Many values opened, one after the other. -/
theorem open_many {Q : List Int → Prop} {w : World} : ∀ (vs : List Value) {φ : Plan} {h : Heap}, Rep w.heap.size φ h w →
    (∀ v ∈ vs, ∃ l : List Int, Q l ∧ ∀ (φ : Plan) (h : Heap), Rep w.heap.size φ h w → Opened φ h w v (fun h' x => Ints h' x l)) →
    ∃ (xs : List H0) (L : List (List Int)) (φ' : Plan) (h' : Heap), Sub φ φ' ∧ Ext h h' ∧ Rep w.heap.size φ' h' w ∧ xs.length = vs.length ∧ L.length = vs.length ∧
      (∀ (i : Nat) (x : H0) (v : Value), xs[i]? = some x → vs[i]? = some v → rep0 φ' x v) ∧ (∀ (i : Nat) (x : H0) (l : List Int), xs[i]? = some x → L[i]? = some l → Ints h' x l) ∧ ∀ l ∈ L, Q l
  | [], φ, h, R, _ => ⟨[], [], φ, h, Sub.refl _, Ext.refl _, R, rfl, rfl, fun i x v e => by simp at e, fun i x v e => by simp at e, fun l e => by simp at e⟩
  | v :: vs, φ, h, R, each => by
    obtain ⟨l, hl, hop⟩ := each v (by simp)
    obtain ⟨x, φ1, h1, s1, e1, R1, r1, t1⟩ := hop φ h R
    obtain ⟨xs, L, φ2, h2, s2, e2, R2, n1, n2, r2, t2, b2⟩ := open_many vs R1 (fun v hv => each v (by simp [hv]))
    refine ⟨x :: xs, l :: L, φ2, h2, s1.trans s2, e1.trans e2, R2, by simp [n1], by simp [n2], fun i y v' hy hv => ?_, fun i y l' hy hl' => ?_, fun l' hl' => ?_⟩
    · cases i with
      | zero => simp at hy hv; subst hy; subst hv; exact rep0.mono s2 r1
      | succ i => exact r2 i y v' (by simpa using hy) (by simpa using hv)
    · cases i with
      | zero => simp at hy hl'; subst hy; subst hl'; exact t1.ext e2
      | succ i => exact t2 i y l' (by simpa using hy) (by simpa using hl')
    · rcases List.mem_cons.1 hl' with rfl | hm
      · exact hl
      · exact b2 l' hm

theorem Opened.mono {φ : Plan} {h : Heap} {w : World} {v : Value} {T T' : Heap → H0 → Prop} (H : Opened φ h w v T) (k : ∀ h' x, T h' x → T' h' x) : Opened φ h w v T' := by
  obtain ⟨x, φ', h', a, b, c, d, e⟩ := H
  exact ⟨x, φ', h', a, b, c, d, k _ _ e⟩

def Wide (l : List Int) : Prop := ∀ n ∈ l, -9223372036854775808 ≤ n ∧ n ≤ 9223372036854775807

def Sizes (L : List (List Int)) : Prop := L.length ≤ 9223372036854775807 ∧ ∀ i, (L.getD i []).length ≤ 9223372036854775807

/-- An argument that is a slice of slices of ints. -/
theorem open_arg_rowsI {H : Type} {enc : TypeId × Value → H} {P : Program} {w : World} {t u e : TypeId} {v : Value} {d : DataW H} {ps : List MemPlace} {base : Nat} (ht : P.underlying t = some (.slice u)) (hu : P.underlying u = some (.slice e)) (he : P.underlying e = some (.int .i64))
    (hcu : P.cellsOf u = 1) (hc : P.cellsOf e = 1) (hv : Value.okWide P w .any base t v) (h0 : DataW.Trod enc P w 0 (fun _ => true) true t v d ps) {φ : Plan} {h : Heap} (R : Rep w.heap.size φ h w) : ∃ L, Opened φ h w v (fun h' x => Rows h' x L ∧ Sizes L ∧ ∀ l ∈ L, Wide l) := by
  obtain ⟨a0, len, cap, rfl⟩ := okWide_slice ht hv
  obtain ⟨fuel, hf⟩ := h0
  have none_ : ∀ (ao : Option Addr) (cap : Nat), Opened φ h w (.slice ao 0 cap) (fun h' x => Rows h' x [] ∧ Sizes [] ∧ ∀ l ∈ ([] : List (List Int)), Wide l) := fun ao cap =>
    ⟨.pl (.slice ao 0 cap), φ, h, Sub.refl _, Ext.refl _, R, rfl, ⟨[], Shows.nils _ _, rfl, fun i y l e => by simp at e⟩, ⟨by simp, fun i => by simp⟩, fun l hl => by simp at hl⟩
  rcases DataW.trod_slice ht hf with ⟨hcs, hx⟩ | ⟨a, len', cap', elems, rest, n, rfl, hcs, _, _, hl, hm, hlen, hel, _⟩
  · simp [Value.cells] at hcs
    obtain ⟨rfl, rfl, rfl⟩ := hcs
    exact ⟨[], none_ none 0⟩
  · simp [Value.cells] at hcs
    obtain ⟨rfl, rfl, rfl⟩ := hcs
    by_cases hz : len = 0
    · subst hz
      exact ⟨[], none_ (some a) cap⟩
    have cell : ∀ i, i < len → ∃ c, w.cell? (a.add i) = some c ∧ ∃ l : List Int, (l.length ≤ maxLen ∧ Wide l) ∧ ∀ (φ : Plan) (h : Heap), Rep w.heap.size φ h w → Opened φ h w c (fun h' x => Ints h' x l) := by
      intro i hi
      have hE := hel i hi
      rw [hcu, Nat.mul_one, List.getElem?_eq_getElem (by omega), Option.bind_eq_some_iff] at hE
      obtain ⟨cs1, hc1, hy1⟩ := hE
      rcases open_ints hu he hc hy1 with ⟨rfl, _⟩ | ⟨b, l1, c1, zs, rfl, _, hl1, hm1, hz1, _, hcell, hwz⟩
      · exact ⟨_, cell_of_cells?_one hc1, [], ⟨by simp, fun n hn => by simp at hn⟩, fun φ h R => open_cells R none 0 0 [] (Nat.le_refl _) (by unfold maxLen; omega) rfl (fun _ => rfl) (fun a h => by cases h)⟩
      · simp only [if_true] at hz1
        exact ⟨_, cell_of_cells?_one hc1, zs.take l1, ⟨by simp; omega, fun n hn => i64_wf (hwz n (List.mem_of_mem_take hn))⟩, fun φ h R => open_cells R (some b) l1 c1 zs hl1 hm1 hz1 (fun h => by cases h) (fun a' h => by cases h; exact fun i hi => hcell i (by omega))⟩
    let vs : List Value := (List.range len).map fun i => (w.cell? (a.add i)).getD undef
    have hvl : vs.length = len := by simp [vs]
    have hvi : ∀ (i : Nat) (v : Value), vs[i]? = some v → i < len ∧ w.cell? (a.add i) = some v := by
      intro i v hv
      have hi : i < len := by have := (List.getElem?_eq_some_iff.1 hv).1; omega
      obtain ⟨c, hc, _⟩ := cell i hi
      simp only [vs, List.getElem?_map, List.getElem?_range hi, Option.map_some, hc, Option.getD_some, Option.some.injEq] at hv
      subst hv
      exact ⟨hi, hc⟩
    obtain ⟨xs, L, φ2, h2, s2, e2, R2, n1, n2, r2, t2, b2⟩ := open_many vs R (fun v hv => by
      obtain ⟨i, hi⟩ := List.getElem?_of_mem hv
      obtain ⟨hil, hc⟩ := hvi i v hi
      obtain ⟨c, hc2, rest⟩ := cell i hil
      rw [hc] at hc2
      cases hc2
      exact rest)
    obtain ⟨b, off, spot⟩ := a
    obtain ⟨c0, hc0, _⟩ := cell 0 (by omega)
    have hspot : spot = none := by simpa [Addr.add] using World.cell?_spot hc0
    subst hspot
    have hb : b < w.heap.size := World.block_lt_of_cell? w ⟨b, off, none⟩ (by simpa [Addr.add] using hc0)
    refine ⟨L, .sl h2.length 0 len, φ2 ++ [⟨b, off, cap⟩], h2 ++ [.ro xs], s2.trans (Sub.push _ _), e2.trans (Ext.push _ _), R2.pushRo ⟨b, off, cap⟩ hb _ (fun k c hk => ?_), ⟨⟨b, off, cap⟩, _, _, ?_, rfl, hl, hm, by simp, fun _ => rfl⟩, ⟨xs, ?_, by omega, fun i y l hy hl => (t2 i y l hy hl).ext (Ext.push _ _)⟩, ?_, fun l hl => (b2 l hl).2⟩
    · have hk2 : k < vs.length := by have := (List.getElem?_eq_some_iff.1 hk).1; omega
      obtain ⟨_, hc⟩ := hvi k vs[k] (List.getElem?_eq_getElem hk2)
      exact ⟨vs[k], by rw [← addr_add]; exact hc, r2 k c _ hk (List.getElem?_eq_getElem hk2)⟩
    · rw [← R2.len, List.getElem?_append_right (Nat.le_refl _)]
      simp
    · have := Shows.ro h2.length 0 len _ (get_new h2 (.ro xs)) (by omega)
      simp only [List.drop_zero] at this
      rw [List.take_of_length_le (by omega)] at this
      exact this
    · have hml : maxLen ≤ 9223372036854775807 := by unfold maxLen; omega
      refine ⟨by omega, fun i => ?_⟩
      by_cases hi : i < L.length
      · have := (b2 L[i] (List.getElem_mem hi)).1
        simp [List.getD, hi]
        omega
      · simp [List.getD, Nat.le_of_not_lt hi]

theorem open_arg_rows {H : Type} {enc : TypeId × Value → H} {P : Program} {w : World} {t u e : TypeId} {v : Value} {d : DataW H} {ps : List MemPlace} {base : Nat} (ht : P.underlying t = some (.slice u)) (hu : P.underlying u = some (.slice e)) (he : P.underlying e = some (.int .i64))
    (hcu : P.cellsOf u = 1) (hc : P.cellsOf e = 1) (hv : Value.okWide P w .any base t v) (h0 : DataW.Trod enc P w 0 (fun _ => true) true t v d ps) {φ : Plan} {h : Heap} (R : Rep w.heap.size φ h w) : ∃ L, Opened φ h w v (fun h' x => Rows h' x L ∧ Sizes L) := by
  obtain ⟨L, O⟩ := open_arg_rowsI ht hu he hcu hc hv h0 R
  exact ⟨L, O.mono fun h' x k => ⟨k.1, k.2.1⟩⟩

end Go.Proofs.Ytnooeaemjnmkdaa.Hx
