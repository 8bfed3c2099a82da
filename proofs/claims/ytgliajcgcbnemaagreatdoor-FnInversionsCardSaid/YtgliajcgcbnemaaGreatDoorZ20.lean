/-
  Finite types: whatever a look at all matrices of at most four points finds holds of each finite matrix. Plain theory.
  Finite types: no root is higher than twelve. Found by looking at all matrices of at most four points; plain theory.
  Contracts of powers, exchange places, replayed and repeated deletions, of the program and of the reference.
  Contracts of exchange places, replayed and repeated deletions, of the program and of the reference.
  Contracts of ReducedWords, of the program: words are spelled one after the other into a slice of slices that moves.
  The neighbours of a point, of the program and of the reference.
  Parts of a diagram, in plain words: what is reached from a point along bonds.
  A search along bonds, in plain words: what is seen, what stands in the queue.
  Bools in a row of one's own; the parts of a diagram as lists, in plain words.
  Slices of slices whose rows lie in any set; a row that is there, appended to such a slice; slices.Sort at ints, led over to rows.
  The parts of a diagram, of the reference.
  DERIVED: THE SHELF's CONTRACTS AT THIS DUMP, IN PLAIN WORDS (tools/lay-plain.mjs out of 'YtgliajcgcbnemaaGreatDoorSs.lean', which tools/lay-shelf.mjs wrote): THE SAME DECLARATIONS UNDER THE SAME NAMES: 'import', 'namespace', 'open', 'def', 'theorem' AND NOTHING ELSE: no command of the shelf's: FOR A HAND-IN. Each laying: the table of numbers ('.._ren') and one theorem, a field a fact of the dump's own or the kernel's comparison; each contract: ONE APPLICATION.
  The parts of a diagram, of the program; HighestRoot of both sides.
  Lists of pairs of roots in the program's memory, with the keys that were seen: what one more pair does.
-/
import Derived.Test.YtgliajcgcbnemaaGreatDoorZ19
import Derived.Shelf.Sort.Plain
import Derived.Ground.NamesProg
import Derived.Test.YtgliajcgcbnemaaGreatDoorProg
namespace Go.Proofs.YtgliajcgcbnemaaGreatDoor.Hx
open Go.RowKit

/-! ### What holds of all finite matrices -/

def chkA1 (g : Nat → M6 → Bool) : Bool := g 1 ⟨z0, z0, z0, z0, z0, z0⟩
def chkA2 (g : Nat → M6 → Bool) : Bool := opts.all fun p => g 2 ⟨p, z0, z0, z0, z0, z0⟩
def chkA3 (g : Nat → M6 → Bool) : Bool := opts.all fun p => opts.all fun q => opts.all fun r => !decide (0 < d3 p q r) || g 3 ⟨p, q, r, z0, z0, z0⟩
def chkA4 (g : Nat → M6 → Bool) : Bool := opts.all fun p => opts.all fun q => opts.all fun r => !decide (0 < d3 p q r) || opts.all fun s => opts.all fun t => !decide (0 < d3 p s t) || opts.all fun u => !decide (0 < d3 q s u) || !decide (0 < d3 r t u) || !decide (0 < d4 p q r s t u) || g 4 ⟨p, q, r, s, t, u⟩

theorem fin_any {c : List (List Int)} (hC : Cartan c) (hp : allPos c = true) (g : Nat → M6 → Bool) (g1 : chkA1 g = true) (g2 : chkA2 g = true) (g3 : chkA3 g = true) (g4 : chkA4 g = true) : g c.length (m6 c) = true := by
  have h1 := hC.pos
  have h4 := hC.le
  have z : ∀ i j, c.length ≤ j → ent c i j = 0 ∧ ent c j i = 0 := fun i j hj => ⟨ent_col hC hj, ent_off hj⟩
  have hn : c.length = 1 ∨ c.length = 2 ∨ c.length = 3 ∨ c.length = 4 := by omega
  rcases hn with hn | hn | hn | hn
  · have e : m6 c = ⟨z0, z0, z0, z0, z0, z0⟩ := by
      unfold m6 z0
      rw [(z 0 1 (by omega)).1, (z 0 1 (by omega)).2, (z 0 2 (by omega)).1, (z 0 2 (by omega)).2, (z 1 2 (by omega)).1, (z 1 2 (by omega)).2, (z 0 3 (by omega)).1, (z 0 3 (by omega)).2, (z 1 3 (by omega)).1, (z 1 3 (by omega)).2, (z 2 3 (by omega)).1, (z 2 3 (by omega)).2]
    rw [e, hn]
    exact g1
  · have e : m6 c = ⟨(ent c 0 1, ent c 1 0), z0, z0, z0, z0, z0⟩ := by
      unfold m6 z0
      rw [(z 0 2 (by omega)).1, (z 0 2 (by omega)).2, (z 1 2 (by omega)).1, (z 1 2 (by omega)).2, (z 0 3 (by omega)).1, (z 0 3 (by omega)).2, (z 1 3 (by omega)).1, (z 1 3 (by omega)).2, (z 2 3 (by omega)).1, (z 2 3 (by omega)).2]
    rw [e, hn]
    exact List.all_eq_true.1 g2 _ (pair_opts hC hp (i := 0) (j := 1) (m := 3) (by omega) (by omega) (by omega) (by omega) (by rw [hn]; decide) (by decide))
  · have e : m6 c = ⟨(ent c 0 1, ent c 1 0), (ent c 0 2, ent c 2 0), (ent c 1 2, ent c 2 1), z0, z0, z0⟩ := by
      unfold m6 z0
      rw [(z 0 3 (by omega)).1, (z 0 3 (by omega)).2, (z 1 3 (by omega)).1, (z 1 3 (by omega)).2, (z 2 3 (by omega)).1, (z 2 3 (by omega)).2]
    have k := List.all_eq_true.1 (List.all_eq_true.1 (List.all_eq_true.1 g3 _ (pair_opts hC hp (i := 0) (j := 1) (m := 3) (by omega) (by omega) (by omega) (by omega) (by rw [hn]; decide) (by decide))) _ (pair_opts hC hp (i := 0) (j := 2) (m := 5) (by omega) (by omega) (by omega) (by omega) (by rw [hn]; decide) (by decide))) _ (pair_opts hC hp (i := 1) (j := 2) (m := 6) (by omega) (by omega) (by omega) (by omega) (by rw [hn]; decide) (by decide))
    have t := tri_pos hC hp (i := 0) (j := 1) (k := 2) (m := 7) (by omega) (by omega) (by omega) (by omega) (by rw [hn]; decide) (by decide)
    rw [decide_eq_true t, Bool.not_true, Bool.false_or] at k
    rw [e, hn]
    exact k
  · have o := fun (i j m : Nat) (hi : i < 4) (hj : j < 4) (hij : i ≠ j) (h1 : 1 ≤ m) (h2 : m < 16) (h : setB m = [(i : Int), (j : Int)]) => pair_opts hC hp (i := i) (j := j) (m := m) (by omega) (by omega) hij h1 (by rw [hn]; exact h2) h
    have t := fun (i j k m : Nat) (hi : i < 4) (hj : j < 4) (hk : k < 4) (h1 : 1 ≤ m) (h2 : m < 16) (h : setB m = [(i : Int), (j : Int), (k : Int)]) => tri_pos hC hp (i := i) (j := j) (k := k) (m := m) (by omega) (by omega) (by omega) h1 (by rw [hn]; exact h2) h
    have k1 := List.all_eq_true.1 (List.all_eq_true.1 (List.all_eq_true.1 g4 _ (o 0 1 3 (by omega) (by omega) (by omega) (by omega) (by omega) (by decide))) _ (o 0 2 5 (by omega) (by omega) (by omega) (by omega) (by omega) (by decide))) _ (o 1 2 6 (by omega) (by omega) (by omega) (by omega) (by omega) (by decide))
    rw [decide_eq_true (t 0 1 2 7 (by omega) (by omega) (by omega) (by omega) (by omega) (by decide)), Bool.not_true, Bool.false_or] at k1
    have k2 := List.all_eq_true.1 (List.all_eq_true.1 k1 _ (o 0 3 9 (by omega) (by omega) (by omega) (by omega) (by omega) (by decide))) _ (o 1 3 10 (by omega) (by omega) (by omega) (by omega) (by omega) (by decide))
    rw [decide_eq_true (t 0 1 3 11 (by omega) (by omega) (by omega) (by omega) (by omega) (by decide)), Bool.not_true, Bool.false_or] at k2
    have k3 := List.all_eq_true.1 k2 _ (o 2 3 12 (by omega) (by omega) (by omega) (by omega) (by omega) (by decide))
    have q := allPos_get hp 15 (by omega) (by rw [hn]; decide)
    have M := matOk hC
    rw [dt_4, detZ4, M.diag 0 (by omega), M.diag 1 (by omega), M.diag 2 (by omega), M.diag 3 (by omega)] at q
    have q' : 0 < d4 (ent c 0 1, ent c 1 0) (ent c 0 2, ent c 2 0) (ent c 1 2, ent c 2 1) (ent c 0 3, ent c 3 0) (ent c 1 3, ent c 3 1) (ent c 2 3, ent c 3 2) := q
    rw [decide_eq_true (t 0 2 3 13 (by omega) (by omega) (by omega) (by omega) (by omega) (by decide)), decide_eq_true (t 1 2 3 14 (by omega) (by omega) (by omega) (by omega) (by omega) (by decide)), decide_eq_true q', Bool.not_true, Bool.false_or, Bool.false_or, Bool.false_or] at k3
    rw [hn]
    exact k3

end Go.Proofs.YtgliajcgcbnemaaGreatDoor.Hx

namespace Go.Proofs.YtgliajcgcbnemaaGreatDoor.Hx
open Go.RowKit

def row4 (m : M6) : Nat → V4 → Int
  | 0, v => 2 * v.a + m.p.1 * v.b + m.q.1 * v.c + m.s.1 * v.d
  | 1, v => m.p.2 * v.a + 2 * v.b + m.r.1 * v.c + m.t.1 * v.d
  | 2, v => m.q.2 * v.a + m.r.2 * v.b + 2 * v.c + m.u.1 * v.d
  | _, v => m.s.2 * v.a + m.t.2 * v.b + m.u.2 * v.c + 2 * v.d
def mi (m : M6) : Nat → V4 → V4
  | 0, v => ⟨v.a - row4 m 0 v, v.b, v.c, v.d⟩
  | 1, v => ⟨v.a, v.b - row4 m 1 v, v.c, v.d⟩
  | 2, v => ⟨v.a, v.b, v.c - row4 m 2 v, v.d⟩
  | _, v => ⟨v.a, v.b, v.c, v.d - row4 m 3 v⟩
def uV : Nat → V4
  | 0 => ⟨1, 0, 0, 0⟩
  | 1 => ⟨0, 1, 0, 0⟩
  | 2 => ⟨0, 0, 1, 0⟩
  | _ => ⟨0, 0, 0, 1⟩
def hV (n : Nat) (v : V4) : Int := match n with
  | 1 => v.a
  | 2 => v.a + v.b
  | 3 => v.a + v.b + v.c
  | _ => v.a + v.b + v.c + v.d
def memV (v : V4) : List V4 → Bool
  | [] => false
  | x :: L => match eqV v x with
    | true => true
    | false => memV v L
def idx : Nat → List Nat
  | 0 => []
  | 1 => [0]
  | 2 => [0, 1]
  | 3 => [0, 1, 2]
  | _ => [0, 1, 2, 3]
def addV (n : Nat) (m : M6) (v : V4) (K : List V4 → List V4 → Bool) : List Nat → List V4 → List V4 → Bool
  | [], todo, seen => K todo seen
  | i :: l, todo, seen => match negB (hV n (mi m i v)) || memV (mi m i v) seen with
    | true => addV n m v K l todo seen
    | false => addV n m v K l (mi m i v :: todo) (mi m i v :: seen)
def shutV (n : Nat) (m : M6) (L : List V4) : Bool := ((idx n).all fun i => memV (uV i) L) && L.all fun v => !negB (hV n v) && !negB (12 - hV n v) && (idx n).all fun i => eqV v (uV i) || memV (mi m i v) L
def growV (n : Nat) (m : M6) : Nat → List V4 → List V4 → Bool
  | 0, _, _ => false
  | _ + 1, [], seen => shutV n m seen
  | f + 1, v :: todo, seen => addV n m v (growV n m f) (idx n) todo seen
def lowV (n : Nat) (m : M6) : Bool := growV n m 30 ((idx n).map uV) ((idx n).map uV)

set_option maxRecDepth 100000 in
theorem low1_ok : chkA1 lowV = true := by decide +kernel
set_option maxRecDepth 100000 in
theorem low2_ok : chkA2 lowV = true := by decide +kernel
set_option maxRecDepth 100000 in
theorem low3_ok : chkA3 lowV = true := by decide +kernel
set_option maxRecDepth 100000 in
theorem low4_ok : chkA4 lowV = true := by decide +kernel

theorem addV_shut {n : Nat} {m : M6} {v : V4} {K : List V4 → List V4 → Bool} (hK : ∀ a b, K a b = true → ∃ L, shutV n m L = true) : ∀ (l : List Nat) (a b : List V4), addV n m v K l a b = true → ∃ L, shutV n m L = true
  | [], a, b, h => hK a b h
  | i :: l, a, b, h => by
    rw [addV] at h
    split at h
    · exact addV_shut hK l _ _ h
    · exact addV_shut hK l _ _ h
theorem growV_shut {n : Nat} {m : M6} : ∀ (f : Nat) (a b : List V4), growV n m f a b = true → ∃ L, shutV n m L = true
  | 0, _, _, h => by rw [growV] at h; cases h
  | f + 1, [], b, h => ⟨b, h⟩
  | f + 1, v :: a, b, h => addV_shut (fun a b h => growV_shut f a b h) _ _ _ h

theorem memV_iff {v : V4} : ∀ {L : List V4}, memV v L = true → v ∈ L
  | [], h => by cases h
  | x :: L, h => by
    rw [memV] at h
    split at h
    · rename_i e
      rw [eqV_iff e]
      exact List.mem_cons_self
    · exact List.mem_cons_of_mem _ (memV_iff h)
theorem mem_idx {n i : Nat} (h : i < n) (hn : n ≤ 4) : i ∈ idx n := by
  have f : n = 1 ∨ n = 2 ∨ n = 3 ∨ n = 4 := by omega
  rcases f with rfl | rfl | rfl | rfl <;> simp [idx] <;> omega

theorem cvt_uV {n i : Nat} (h : i < n) (hn : n ≤ 4) : cvt n (uV i) = unitP i := by
  funext k
  unfold cvt unitP
  by_cases hk : k < n
  · rw [if_pos hk]
    have f : i = 0 ∨ i = 1 ∨ i = 2 ∨ i = 3 := by omega
    have g : k = 0 ∨ k = 1 ∨ k = 2 ∨ k = 3 := by omega
    rcases f with rfl | rfl | rfl | rfl <;> rcases g with rfl | rfl | rfl | rfl <;> rfl
  · rw [if_neg hk, if_neg (by omega)]

theorem dot4 {N : Nat} (h1 : 1 ≤ N) (h4 : N ≤ 4) {f : Pos} (hf : ∀ k, N ≤ k → f k = 0) (v : V4) : dotP N f (cvt N v) = f 0 * v.a + f 1 * v.b + f 2 * v.c + f 3 * v.d := by
  have g : N = 1 ∨ N = 2 ∨ N = 3 ∨ N = 4 := by omega
  rcases g with rfl | rfl | rfl | rfl
  · rw [hf 1 (by omega), hf 2 (by omega), hf 3 (by omega)]
    simp [dotP, cvt, crd]
  · rw [hf 2 (by omega), hf 3 (by omega)]
    simp [dotP, cvt, crd]
  · rw [hf 3 (by omega)]
    simp [dotP, cvt, crd]
  · simp [dotP, cvt, crd]

theorem mr_cvt {c : List (List Int)} (hC : Cartan c) {i : Nat} (hi : i < c.length) (v : V4) : mr c.length (ent c) i (cvt c.length v) = cvt c.length (mi (m6 c) i v) := by
  have h1 := hC.pos
  have h4 := hC.le
  have d := (matOk hC).diag
  funext k
  show cvt c.length v k - dotP c.length (ent c i) (cvt c.length v) * unitP i k = cvt c.length (mi (m6 c) i v) k
  rw [dot4 h1 h4 (fun k hk => ent_row hC hk)]
  unfold cvt unitP
  by_cases hk : k < c.length
  · rw [if_pos hk, if_pos hk]
    have f : i = 0 ∨ i = 1 ∨ i = 2 ∨ i = 3 := by omega
    have g : k = 0 ∨ k = 1 ∨ k = 2 ∨ k = 3 := by omega
    have di := d i hi
    rcases f with rfl | rfl | rfl | rfl <;> rcases g with rfl | rfl | rfl | rfl <;> simp [crd, mi, row4, m6, di]
  · rw [if_neg hk, if_neg hk, if_neg (by omega)]
    omega

/-- Every root is one of a shut list, or the opposite of one. -/
theorem shut_roots {c : List (List Int)} (hC : Cartan c) {L : List V4} (hL : shutV c.length (m6 c) L = true) : ∀ (w : List Int), lettersOk c w = true → ∀ i, i < c.length → ∃ v ∈ L, rootP c w i = cvt c.length v ∨ rootP c w i = fun k => -1 * cvt c.length v k
  | [], _, i, hi => by
    have h4 := hC.le
    unfold shutV at hL
    rw [Bool.and_eq_true] at hL
    exact ⟨uV i, memV_iff (List.all_eq_true.1 hL.1 i (mem_idx hi h4)), Or.inl (cvt_uV hi h4).symm⟩
  | j :: w, h, i, hi => by
    have h4 := hC.le
    obtain ⟨h1, h2⟩ := letters_cons.1 h
    have p1 := point_of h1
    have hj : j.toNat < c.length := by omega
    obtain ⟨v, hv, e⟩ := shut_roots hC hL w h2 i hi
    have key : ∃ u ∈ L, cvt c.length (mi (m6 c) j.toNat v) = cvt c.length u ∨ cvt c.length (mi (m6 c) j.toNat v) = fun k => -1 * cvt c.length u k := by
      unfold shutV at hL
      rw [Bool.and_eq_true] at hL
      have a := List.all_eq_true.1 hL.2 v hv
      rw [Bool.and_eq_true] at a
      have b := List.all_eq_true.1 a.2 j.toNat (mem_idx hj h4)
      rw [Bool.or_eq_true] at b
      rcases b with b | b
      · refine ⟨v, hv, Or.inr ?_⟩
        rw [← mr_cvt hC hj, eqV_iff b, cvt_uV hj h4]
        exact mr_unit hC hj
      · exact ⟨_, memV_iff b, Or.inl rfl⟩
    obtain ⟨u, hu, e2⟩ := key
    have e3 : rootP c (j :: w) i = mr c.length (ent c) j.toNat (rootP c w i) := rfl
    refine ⟨u, hu, ?_⟩
    rcases e with e | e
    · rw [e3, e, mr_cvt hC hj]
      exact e2
    · rw [e3, e, mr_mul, mr_cvt hC hj]
      rcases e2 with e2 | e2
      · exact Or.inr (by rw [e2])
      · refine Or.inl ?_
        rw [e2]
        funext k
        show -1 * (-1 * cvt c.length u k) = cvt c.length u k
        omega

theorem root_low {c : List (List Int)} (h : isFinite c = true) {p : Pos} (hp : IsRootP c p) : dotP c.length (fun _ => 1) p ≤ 12 := by
  have hf := h
  unfold isFinite at hf
  rw [Bool.and_eq_true] at hf
  have hC := (isCartan_iff c).1 hf.1
  have h1 := hC.pos
  have h4 := hC.le
  have ha : allPos c = true := hf.2
  have hg := fin_any hC ha lowV low1_ok low2_ok low3_ok low4_ok
  obtain ⟨L, hL⟩ := growV_shut _ _ _ hg
  obtain ⟨w, i, hw, hi, rfl⟩ := hp
  obtain ⟨v, hv, e⟩ := shut_roots hC hL w hw i hi
  unfold shutV at hL
  rw [Bool.and_eq_true] at hL
  have a := List.all_eq_true.1 hL.2 v hv
  simp only [Bool.and_eq_true, Bool.not_eq_true'] at a
  have n1 : ∀ x : Int, negB x = false → 0 ≤ x := fun x hx => by
    by_cases hlt : x < 0
    · rw [(negB_iff x).2 hlt] at hx; cases hx
    · omega
  have a1 := n1 _ a.1.1
  have a2 := n1 _ a.1.2
  have hh : dotP c.length (fun _ => 1) (cvt c.length v) = hV c.length v := by
    have g : c.length = 1 ∨ c.length = 2 ∨ c.length = 3 ∨ c.length = 4 := by omega
    rcases g with g | g | g | g <;> rw [g] <;> simp [dotP, cvt, crd, hV]
  rcases e with e | e
  · rw [e, hh]
    omega
  · have e2 : (fun k => -1 * cvt c.length v k) = fun k => unitP c.length k * 0 - 1 * cvt c.length v k := by
      funext k
      omega
    have e3 := dotP_subr (fun _ => 1) (fun k => unitP c.length k * 0) 1 (cvt c.length v) c.length
    have e4 : dotP c.length (fun _ => 1) (fun k => unitP c.length k * 0) = 0 := by
      have g : c.length = 1 ∨ c.length = 2 ∨ c.length = 3 ∨ c.length = 4 := by omega
      rcases g with g | g | g | g <;> rw [g] <;> simp [dotP]
    rw [e, e2, e3, e4, hh]
    omega

end Go.Proofs.YtgliajcgcbnemaaGreatDoor.Hx

namespace Go.Proofs.YtgliajcgcbnemaaGreatDoor.Hx
open Go.RowKit
variable {dm : Bool}

def powTo (c : List (List Int)) (w : List Int) : Nat → Option (List Int)
  | 0 => some []
  | k + 1 => match powTo c w k with
    | none => none
    | some y => if mulOk c y w then some (mul c y w) else none
def in60 (k : Int) : Bool := decide (0 ≤ k) && decide (k ≤ 60)
def powOk (c : List (List Int)) (w : List Int) (k : Int) : Bool := isWord c w && in60 k && (powTo c w k.toNat).isSome
def pow (c : List (List Int)) (w : List Int) (k : Int) : List Int := if powOk c w k then (powTo c w k.toNat).getD [] else []

def exAt (c : List (List Int)) (w : List Int) (n : Int) (k : Nat) : Bool := decide (imageOf c (del w k) = imageOf c (n :: w))
def exIdx (c : List (List Int)) (w : List Int) (n : Int) : Int :=
  if isReduced c w && decide (n ∈ leftDescents c w) then
    match (List.range w.length).find? (exAt c w n) with
    | some k => k
    | none => -1
  else -1
/-- Letters left out at told places, two by two. -/
def replay : List Int → List Int → Option (List Int)
  | x, i :: j :: l => if i < 0 ∨ j ≤ i ∨ (x.length : Int) ≤ j then none else replay (del (del x j) i) l
  | x, _ => some x
def repW (w l : List Int) : List Int := (replay w l).getD w
def repOk (w l : List Int) : Bool := (replay w l).isSome && ((l.length : Int).tmod 2 == 0)
/-- Pairs of letters left out, as often as f. -/
def red (c : List (List Int)) : Nat → List Int → List Int → List Int × List Int
  | 0, x, o => (x, o)
  | f + 1, x, o => if (delPair c x).2.2 then red c f (del (del x (delPair c x).2.1) (delPair c x).1) (o ++ [(delPair c x).1, (delPair c x).2.1]) else (x, o)
end Go.Proofs.YtgliajcgcbnemaaGreatDoor.Hx

namespace Go.Proofs.YtgliajcgcbnemaaGreatDoor.Hx
open Go.RowKit
variable {dm : Bool}

end Go.Proofs.YtgliajcgcbnemaaGreatDoor.Hx

namespace Go.Proofs.YtgliajcgcbnemaaGreatDoor.Hx
open Go.RowKit
variable {dm : Bool}

/-- All rows of which F does not hold are as they were. -/
def KeepN (F : Nat → Prop) (h h' : Heap) : Prop := h.length ≤ h'.length ∧ ∀ q, q < h.length → ¬ F q → h'[q]? = h[q]?

def IntsN (F : Nat → Prop) (h : Heap) (x : H0) (l : List Int) : Prop := Ints h x l ∧ ∀ r off n, x = .sl r off n → ¬ F r

def RowsN (F : Nat → Prop) (h : Heap) (x : H0) (L : List (List Int)) : Prop :=
  ∃ xs : List H0, Shows h (.s x) xs ∧ (∀ r off n, x = .sl r off n → ¬ F r) ∧ xs.length = L.length ∧ ∀ (i : Nat) (y : H0) (l : List Int), xs[i]? = some y → L[i]? = some l → IntsN F h y l

theorem KeepN.refl (F : Nat → Prop) (h : Heap) : KeepN F h h := ⟨Nat.le_refl _, fun _ _ _ => rfl⟩
theorem KeepN.ofExt {F : Nat → Prop} {h h' : Heap} (E : Ext h h') : KeepN F h h' := ⟨E.1, fun q hq _ => E.2 q hq⟩
theorem KeepN.trans {F G : Nat → Prop} {h h' h'' : Heap} (k : KeepN F h h') (m : KeepN G h' h'') (hg : ∀ q, q < h.length → G q → F q) : KeepN F h h'' :=
  ⟨Nat.le_trans k.1 m.1, fun q hq hn => by rw [m.2 q (Nat.lt_of_lt_of_le hq k.1) (fun g => hn (hg q hq g))]; exact k.2 q hq hn⟩

theorem Shows.keep {F : Nat → Prop} {h h' : Heap} {x : H0} {l : List H0} (H : Shows h (.s x) l) (hf : ∀ r off n, x = .sl r off n → ¬ F r) (k : KeepN F h h') : Shows h' (.s x) l := by
  cases H with
  | nils a c => exact .nils a c
  | ro r off len cs hr hl => exact .ro r off len cs (by rw [k.2 r (get_lt hr) (hf _ _ _ rfl)]; exact hr) hl
  | own r off len cs hr hl => exact .own r off len cs (by rw [k.2 r (get_lt hr) (hf _ _ _ rfl)]; exact hr) hl

theorem Shows.in_lt {h : Heap} {r off n : Nat} {l : List H0} (H : Shows h (.s (.sl r off n)) l) : r < h.length := by
  cases H with
  | ro _ _ _ cs hr hl => exact get_lt hr
  | own _ _ _ cs hr hl => exact get_lt hr

theorem IntsN.keep {F G : Nat → Prop} {h h' : Heap} {x : H0} {l : List Int} (H : IntsN F h x l) (k : KeepN F h h') (hg : ∀ q, q < h.length → G q → F q) : IntsN G h' x l :=
  ⟨Shows.keep H.1 H.2 k, fun r off n e g => H.2 r off n e (hg r (by
    have := H.1
    subst e
    exact Shows.in_lt this) g)⟩

theorem RowsN.rows {F : Nat → Prop} {h : Heap} {x : H0} {L : List (List Int)} (H : RowsN F h x L) : Rows h x L := by
  obtain ⟨xs, h1, _, h3, h4⟩ := H
  exact ⟨xs, h1, h3, fun i y l a b => (h4 i y l a b).1⟩

theorem RowsN.keep {F G : Nat → Prop} {h h' : Heap} {x : H0} {L : List (List Int)} (H : RowsN F h x L) (k : KeepN F h h') (hg : ∀ q, q < h.length → G q → F q) : RowsN G h' x L := by
  obtain ⟨xs, h1, h2, h3, h4⟩ := H
  refine ⟨xs, h1.keep h2 k, fun r off n e g => h2 r off n e (hg r (by subst e; exact Shows.in_lt h1) g), h3, fun i y l a b => (h4 i y l a b).keep k hg⟩

theorem OwnR.keep {F : Nat → Prop} {h h' : Heap} {r : Nat} {x : H0} {l : List Int} (H : OwnR r h x l) (k : KeepN F h h') (hf : ¬ F r) : OwnR r h' x l := by
  have hlt := H.lt
  obtain ⟨t, g1, g2⟩ := H
  exact ⟨t, g1, by rw [k.2 r hlt hf]; exact g2⟩
theorem KeepN.ext {F : Nat → Prop} {hb h h' : Heap} (k : KeepN F h h') (hf : ∀ q, F q → hb.length ≤ q) (E : Ext hb h) : Ext hb h' :=
  ⟨Nat.le_trans E.1 k.1, fun q hq => by rw [k.2 q (Nat.lt_of_lt_of_le hq E.1) (fun f => by have := hf q f; omega)]; exact E.2 q hq⟩

/-- Nothing yet, or a slice of slices whose rows are of F. -/
def OutM (F : Nat → Prop) (h : Heap) (x : H0) (L : List (List Int)) : Prop :=
  (x = .pl (.slice none 0 0) ∧ L = []) ∨ ∃ r ρ, x = .sl r 0 L.length ∧ F r ∧ (∀ i, i < L.length → F (ρ i)) ∧ MatAt h r ρ L

theorem OwnM.lower {b c e : Nat} {h : Heap} {x : H0} {L : List (List Int)} (H : OwnM b e h x L) (k : c ≤ b) : OwnM c e h x L := by
  obtain ⟨r, ρ, g1, g2, g3, g4, m⟩ := H
  exact ⟨r, ρ, g1, by omega, g3, fun i hi => by have := g4 i hi; omega, m⟩

/-- What comes of the first k descents. -/
def spellTo (c : List (List Int)) (n : Nat) (v : List Int) (k : Nat) : List (List Int) := ((descs v v.length).take k).flatMap fun i => (spellW c n (reflW c i.toNat v)).map (i :: ·)

set_option maxHeartbeats 1000000 in
abbrev TM (y : H0) (b : Bool) : HV := .tup [y, .pl (.bool b)]

end Go.Proofs.YtgliajcgcbnemaaGreatDoor.Hx

namespace Go.Proofs.YtgliajcgcbnemaaGreatDoor.Hx
open Go.RowKit
variable {dm : Bool}

/-- The neighbours of point i below k. -/
def nbrTo (c : List (List Int)) (i k : Nat) : List Int := ((List.range k).filter fun j => decide (j ≠ i) && decide ((c.getD i []).getD j 0 ≠ 0)).map fun (j : Nat) => (j : Int)
end Go.Proofs.YtgliajcgcbnemaaGreatDoor.Hx

namespace Go.Proofs.YtgliajcgcbnemaaGreatDoor.Hx
open Go.RowKit

def Adj (c : List (List Int)) (i j : Nat) : Prop := j < c.length ∧ j ≠ i ∧ (c.getD i []).getD j 0 ≠ 0

inductive Rch (c : List (List Int)) (a : Nat) : Nat → Prop
  | here : Rch c a a
  | step {j k : Nat} (h : Rch c a j) (s : Adj c j k) : Rch c a k

open Classical in
/-- The first point of its part. -/
noncomputable def isMin (c : List (List Int)) (i : Nat) : Bool := decide (∀ j, j < i → ¬ Rch c j i)
noncomputable def partsN (c : List (List Int)) : Nat := ((List.range c.length).filter (isMin c)).length
noncomputable def isConn (c : List (List Int)) : Bool := isCartan c && decide (partsN c = 1)

end Go.Proofs.YtgliajcgcbnemaaGreatDoor.Hx

namespace Go.Proofs.YtgliajcgcbnemaaGreatDoor.Hx
open Go.RowKit

structure Srch (c : List (List Int)) (a : Nat) (S0 : Nat → Prop) (S : List Bool) (Q : List Int) (k : Nat) : Prop where
  len : S.length = c.length
  seen : ∀ j, j < c.length → (S.getD j false = true ↔ S0 j ∨ (j : Int) ∈ Q)
  rch : ∀ x ∈ Q, ∃ j : Nat, x = j ∧ j < c.length ∧ Rch c a j ∧ ¬ S0 j
  nodup : Q.Nodup
  head : (a : Int) ∈ Q
  done : ∀ t, t < k → ∀ j, Adj c (Q.getD t 0).toNat j → S.getD j false = true

end Go.Proofs.YtgliajcgcbnemaaGreatDoor.Hx

namespace Go.Proofs.YtgliajcgcbnemaaGreatDoor.Hx
open Go.RowKit

abbrev cbo (b : Bool) : H0 := .pl (.bool b)

/-- A slice of bools in row q, one's own. -/
def BitR (q : Nat) (h : Heap) (x : H0) (S : List Bool) : Prop := x = .sl q 0 S.length ∧ h[q]? = some (.own (S.map cbo))

open Classical in
/-- The points that are reached from i, below k, ascending. -/
noncomputable def partTo (c : List (List Int)) (i k : Nat) : List Int := ((List.range k).filter fun j => decide (Rch c i j)).map fun (j : Nat) => (j : Int)
noncomputable def partL (c : List (List Int)) (i : Nat) : List Int := partTo c i c.length
noncomputable def partsTo (c : List (List Int)) (k : Nat) : List (List Int) := ((List.range k).filter (isMin c)).map (partL c)
noncomputable def partsC (c : List (List Int)) : List (List Int) := if isCartan c then partsTo c c.length else []

end Go.Proofs.YtgliajcgcbnemaaGreatDoor.Hx

namespace Go.Proofs.YtgliajcgcbnemaaGreatDoor.Hx
open Go.RowKit
variable {dm : Bool}

/-- A slice of slices of ints, all its rows in a set. -/
def MatP (S : Nat → Prop) (h : Heap) (z : H0) (L : List (List Int)) : Prop := ∃ r ρ, z = .sl r 0 L.length ∧ S r ∧ (∀ i, i < L.length → S (ρ i)) ∧ MatAt h r ρ L

end Go.Proofs.YtgliajcgcbnemaaGreatDoor.Hx

namespace Go.Proofs.YtgliajcgcbnemaaGreatDoor.Hx
open Go.RowKit
variable {dm : Bool}

end Go.Proofs.YtgliajcgcbnemaaGreatDoor.Hx

namespace Go.Proofs
open Go.Shelf
def Tryz.sortI_ren : Go.Shelf.Ren := ⟨fun | 189 => 189 | 125 => 151 | 257 => 230 | 128 => 207 | 129 => 208 | 294 => 253 | 295 => 254 | 296 => 255 | 297 => 256 | 298 => 257 | 299 => 258 | 216 => 259 | 300 => 260 | 301 => 261 | 328 => 277 | 329 => 235 | 330 => 236 | 331 => 278 | 332 => 279 | 215 => 209 | 343 => 298 | n => n, fun | 28 => 30 | 3 => 3 | 46 => 99 | 0 => 0 | 51 => 139 | 53 => 141 | 4 => 4 | 183 => 133 | 182 => 132 | 131 => 116 | 5 => 5 | 9 => 9 | 218 => 154 | 222 => 158 | 228 => 181 | 229 => 182 | n => n, fun | n => n⟩
theorem Tryz.sortI : Go.Proofs.Lays.n189 Tryz.prog Tryz.sortI_ren := {
  mixed := by kernel_rfl
  f125 := Tryz.func151.trans (congrArg some (by kernel_rfl))
  f128 := Tryz.func207.trans (congrArg some (by kernel_rfl))
  f129 := Tryz.func208.trans (congrArg some (by kernel_rfl))
  f189 := Tryz.func189.trans (congrArg some (by kernel_rfl))
  f215 := Tryz.func209.trans (congrArg some (by kernel_rfl))
  f216 := Tryz.func259.trans (congrArg some (by kernel_rfl))
  f257 := Tryz.func230.trans (congrArg some (by kernel_rfl))
  f294 := Tryz.func253.trans (congrArg some (by kernel_rfl))
  f295 := Tryz.func254.trans (congrArg some (by kernel_rfl))
  f296 := Tryz.func255.trans (congrArg some (by kernel_rfl))
  f297 := Tryz.func256.trans (congrArg some (by kernel_rfl))
  f298 := Tryz.func257.trans (congrArg some (by kernel_rfl))
  f299 := Tryz.func258.trans (congrArg some (by kernel_rfl))
  f300 := Tryz.func260.trans (congrArg some (by kernel_rfl))
  f301 := Tryz.func261.trans (congrArg some (by kernel_rfl))
  f328 := Tryz.func277.trans (congrArg some (by kernel_rfl))
  f329 := Tryz.func235.trans (congrArg some (by kernel_rfl))
  f330 := Tryz.func236.trans (congrArg some (by kernel_rfl))
  f331 := Tryz.func278.trans (congrArg some (by kernel_rfl))
  f332 := Tryz.func279.trans (congrArg some (by kernel_rfl))
  f343 := Tryz.func298.trans (congrArg some (by kernel_rfl))
  t0 := Tryz.underlying0
  a0 := Tryz.isAgg0
  z0 := Tryz.sizeOf0
  v0 := Tryz.zeroValue0
  t3 := Tryz.underlying3
  a3 := Tryz.isAgg3
  z3 := Tryz.sizeOf3
  v3 := Tryz.zeroValue3
  t4 := Tryz.underlying4
  a4 := Tryz.isAgg4
  z4 := Tryz.sizeOf4
  v4 := Tryz.zeroValue4
  t5 := Tryz.underlying5
  a5 := Tryz.isAgg5
  z5 := Tryz.sizeOf5
  v5 := Tryz.zeroValue5
  t9 := Tryz.underlying9
  a9 := Tryz.isAgg9
  z9 := Tryz.sizeOf9
  v9 := Tryz.zeroValue9
  t28 := Tryz.underlying30
  a28 := Tryz.isAgg30
  z28 := Tryz.sizeOf30
  v28 := Tryz.zeroValue30
  t46 := Tryz.underlying99
  a46 := Tryz.isAgg99
  z46 := Tryz.sizeOf99
  v46 := Tryz.zeroValue99
  t51 := Tryz.underlying139
  a51 := Tryz.isAgg139
  z51 := Tryz.sizeOf139
  v51 := Tryz.zeroValue139
  t53 := Tryz.underlying141
  a53 := Tryz.isAgg141
  z53 := Tryz.sizeOf141
  v53 := Tryz.zeroValue141
  t131 := Tryz.underlying116
  a131 := Tryz.isAgg116
  z131 := Tryz.sizeOf116
  v131 := Tryz.zeroValue116
  t182 := Tryz.underlying132
  a182 := Tryz.isAgg132
  z182 := Tryz.sizeOf132
  v182 := Tryz.zeroValue132
  t183 := Tryz.underlying133
  a183 := Tryz.isAgg133
  z183 := Tryz.sizeOf133
  v183 := Tryz.zeroValue133
  t218 := Tryz.underlying154
  a218 := Tryz.isAgg154
  z218 := Tryz.sizeOf154
  v218 := Tryz.zeroValue154
  t222 := Tryz.underlying158
  a222 := Tryz.isAgg158
  z222 := Tryz.sizeOf158
  v222 := Tryz.zeroValue158
  t228 := Tryz.underlying181
  a228 := Tryz.isAgg181
  z228 := Tryz.sizeOf181
  v228 := Tryz.zeroValue181
  t229 := Tryz.underlying182
  a229 := Tryz.isAgg182
  z229 := Tryz.sizeOf182
  v229 := Tryz.zeroValue182 }
end Go.Proofs

namespace Go.Proofs.YtgliajcgcbnemaaGreatDoor.Hx
open Go.RowKit
variable {dm : Bool}

/-- What was seen before a point: what some earlier point reaches. -/
def Before (c : List (List Int)) (k j : Nat) : Prop := ∃ m, m < k ∧ Rch c m j

end Go.Proofs.YtgliajcgcbnemaaGreatDoor.Hx

namespace Go.Proofs.YtgliajcgcbnemaaGreatDoor.Hx
open Go.RowKit
variable {dm : Bool}

theorem HLitW.none {k : Nat} {h : Heap} {K : HV → Heap → Prop} (hk : k ≤ 4096) (hK : K (.s (.sw k h.length 0 0)) (h ++ [.own []])) : HLitW k 0 (some []) h K := ⟨hk, [], rfl, rfl, by omega, fun c hc => by simp at hc, hK⟩
theorem HLitW.one {k : Nat} {xs : List H0} {h : Heap} {K : HV → Heap → Prop} (hk : k ≤ 4096) (hl : xs.length = k) (h1 : ∀ c ∈ xs, c.one = true) (hK : K (.s (.sw k h.length 0 1)) (h ++ [.own xs])) : HLitW k 1 (some [xs]) h K :=
  ⟨hk, [xs], rfl, rfl, by omega, fun c hc => by
    obtain rfl : c = xs := by simpa using hc
    exact ⟨hl, h1⟩, by simpa using hK⟩
theorem HAppW.snoc {k r len q : Nat} {cs xs : List H0} {h : Heap} {K : HV → Heap → Prop} (hr : h[r]? = some (.own cs)) (hcs : cs.length = k * len) (hq : h[q]? = some (.own xs)) (hx : xs.length = k) (hone : ∀ c ∈ xs, c.one = true) (hlen : len ≤ 1048576)
    (hK : K (.s (.sw k h.length 0 (len + 1))) (h.set r .gone ++ [.own (cs ++ xs)])) : HAppW k h (.s (.sw k r 0 len)) (.s (.sw k q 0 1)) K := by
  have hs : ShowsW k h (.s (.sw k q 0 1)) 1 xs := by
    have := ShowsW.own (k := k) q 0 1 xs hq (by omega)
    have e : (xs.drop 0).take (k * 1) = xs := by rw [List.drop_zero, Nat.mul_one, ← hx, List.take_length]
    rwa [e] at this
  refine ⟨1, xs, r, len, cs, hs, by omega, hone, rfl, hr, by omega, by omega, ?_⟩
  have e : cs.take (k * len) = cs := by rw [← hcs, List.take_length]
  rw [e]
  exact hK
theorem HLoadA.row {n r o : Nat} {cs : List H0} {h : Heap} {K : HV → Prop} (hr : h[r]? = some (.own cs)) (ho : o + n ≤ cs.length) (hK : K (.agg ((cs.drop o).take n))) : HLoadA n h (.s (.ptr r o)) K := ⟨r, o, _, cs, Or.inl rfl, hr, rfl, ho, hK⟩
theorem HLoadA.arr {n r m : Nat} {cs : List H0} {h : Heap} {K : HV → Prop} (hr : h[r]? = some (.own cs)) (ho : cs.length = n) (hK : K (.agg cs)) : HLoadA n h (.s (.pa r m)) K :=
  ⟨r, 0, _, cs, Or.inr ⟨⟨m, rfl⟩, rfl⟩, hr, rfl, by omega, by rw [List.drop_zero, ← ho, List.take_length]; exact hK⟩
theorem HStoreA.all {n r : Nat} {cs xs : List H0} {h : Heap} {p : H0} {K : HV → Heap → Prop} (hp : p = .ptr r 0 ∨ ∃ m, p = .pa r m) (hr : h[r]? = some (.own cs)) (hc : cs.length = n) (hx : xs.length = n) (h1 : ∀ c ∈ xs, c.one = true) (hK : K .dead (h.set r (.own xs))) : HStoreA n h (.s p) (.agg xs) K := by
  refine ⟨r, 0, cs, xs, ?_, rfl, hx, h1, hr, by omega, ?_⟩
  · rcases hp with rfl | ⟨m, rfl⟩
    · exact Or.inl rfl
    · exact Or.inr ⟨⟨m, rfl⟩, rfl⟩
  · have e : cs.take 0 ++ xs ++ cs.drop (0 + n) = xs := by rw [List.take_zero, List.nil_append, Nat.zero_add, ← hc, List.drop_length, List.append_nil]
    rw [e]
    exact hK
theorem HField.at' {n r o f : Nat} {K : HV → Prop} (h : f < n) (hK : K (.s (.ptr r (o + f)))) : HField n (.s (.ptr r o)) f K := ⟨r, o, rfl, h, hK⟩
theorem HLenW.at {k r off n : Nat} {K : HV → Prop} (hK : K (I n)) : HLenW (.s (.sw k r off n)) K := ⟨k, r, off, n, rfl, hK⟩

/-- The key of a list of at most four numbers. -/
def keyL (l : List Int) : Key := .arr (l.getD 0 0) (l.getD 1 0) (l.getD 2 0) (l.getD 3 0)
def key4 (l : List Int) : List H0 := l.map ci ++ List.replicate (4 - l.length) (ci 0)

theorem key4_length {l : List Int} (h : l.length ≤ 4) : (key4 l).length = 4 := by simp [key4]; omega
theorem keyAt_key4 {l : List Int} (h : l.length ≤ 4) : keyAt (.agg (key4 l)) = some (keyL l) := by
  match l, h with
  | [], _ => rfl
  | [a], _ => rfl
  | [a, b], _ => rfl
  | [a, b, c], _ => rfl
  | [a, b, c, d], _ => rfl
  | a :: b :: c :: d :: e :: r, h => simp at h
theorem keyL_inj {a b : List Int} (h : a.length = b.length) (h4 : a.length ≤ 4) (e : keyL a = keyL b) : a = b := by
  simp only [keyL, Key.arr.injEq] at e
  obtain ⟨e0, e1, e2, e3⟩ := e
  apply List.ext_getElem? fun k => ?_
  by_cases hk : k < a.length
  · have f : k = 0 ∨ k = 1 ∨ k = 2 ∨ k = 3 := by omega
    have g : a.getD k 0 = b.getD k 0 := by rcases f with rfl | rfl | rfl | rfl <;> assumption
    rw [List.getElem?_eq_getElem hk, List.getElem?_eq_getElem (by omega)]
    simpa [List.getD, hk, show k < b.length by omega] using g
  · rw [List.getElem?_eq_none (by omega), List.getElem?_eq_none (by omega)]

/-- A row of zeros and a short list over it. -/
theorem HCopy.key {h : Heap} {r : Nat} {x : H0} {l : List Int} {K : HV → Heap → Prop} (hr : h[r]? = some (.own (List.replicate 4 (ci 0)))) (hx : Ints h x l) (hl : l.length ≤ 4) (hK : K (I l.length) (h.set r (.own (key4 l)))) : HCopy h (.s (.sl r 0 4)) (.s x) K := by
  refine ⟨r, 0, 4, l.length, _, l.map ci, rfl, hr, by simp, hx, fun c hc => ?_, by simp; omega, ?_⟩
  · obtain ⟨v, _, rfl⟩ := List.mem_map.1 hc
    rfl
  · have e : (List.replicate 4 (ci 0)).take 0 ++ (l.map ci).take l.length ++ (List.replicate 4 (ci 0)).drop (0 + l.length) = key4 l := by
      have e1 : (l.map ci).take l.length = l.map ci := by
        have := List.take_length (l := l.map ci)
        rwa [List.length_map] at this
      rw [List.take_zero, List.nil_append, e1, Nat.zero_add, List.drop_replicate]
      rfl
    rw [e]
    exact hK

def prCells (N : Nat) (ρ τ : Nat → Nat) (n : Nat) : List H0 := (List.range n).flatMap fun i => [.sl (ρ i) 0 N, .sl (τ i) 0 N]
theorem prCells_length (N : Nat) (ρ τ : Nat → Nat) : ∀ n, (prCells N ρ τ n).length = 2 * n
  | 0 => rfl
  | n + 1 => by
    unfold prCells
    rw [List.range_succ, List.flatMap_append, List.length_append]
    have := prCells_length N ρ τ n
    unfold prCells at this
    rw [this]
    simp
    omega
theorem prCells_one (N : Nat) (ρ τ : Nat → Nat) (n : Nat) : ∀ c ∈ prCells N ρ τ n, c.one = true := by
  intro c hc
  obtain ⟨i, _, hi⟩ := List.mem_flatMap.1 hc
  simp only [List.mem_cons, List.not_mem_nil, or_false] at hi
  rcases hi with rfl | rfl <;> rfl
def upd (ρ : Nat → Nat) (n a : Nat) : Nat → Nat := fun i => if i = n then a else ρ i
theorem prCells_snoc (N : Nat) (ρ τ : Nat → Nat) (n a a' : Nat) : prCells N (upd ρ n a) (upd τ n a') (n + 1) = prCells N ρ τ n ++ [.sl a 0 N, .sl a' 0 N] := by
  unfold prCells
  rw [List.range_succ, List.flatMap_append]
  congr 1
  · rw [List.flatMap_def, List.flatMap_def]
    refine congrArg List.flatten (List.map_congr_left fun i hi => ?_)
    have : i ≠ n := by have := List.mem_range.1 hi; omega
    simp [upd, this]
  · simp [upd]
theorem prCells_get (N : Nat) (ρ τ : Nat → Nat) {n i : Nat} (hi : i < n) : (prCells N ρ τ n)[2 * i]? = some (.sl (ρ i) 0 N) ∧ (prCells N ρ τ n)[2 * i + 1]? = some (.sl (τ i) 0 N) := by
  induction n with
  | zero => omega
  | succ n ih =>
    have e : prCells N ρ τ (n + 1) = prCells N ρ τ n ++ [.sl (ρ n) 0 N, .sl (τ n) 0 N] := by
      unfold prCells
      rw [List.range_succ, List.flatMap_append]
      simp
    have hl := prCells_length N ρ τ n
    rw [e]
    by_cases h : i < n
    · rw [List.getElem?_append_left (by omega), List.getElem?_append_left (by omega)]
      exact ih h
    · have : i = n := by omega
      subst this
      rw [List.getElem?_append_right (by omega), List.getElem?_append_right (by omega), hl]
      simp

/-- The program's memory while it collects roots: the box of the map, the box of the height, the box of the list; the map; the list; the roots' and the coroots' rows. -/
structure Prs (b bm bh bl m q : Nat) (ht : Int) (N : Nat) (ρ τ : Nat → Nat) (Q T : List (List Int)) (h : Heap) : Prop where
  gm : h[bm]? = some (.own [.mp m])
  gh : h[bh]? = some (.own [ci ht])
  gl : h[bl]? = some (.own [.sw 2 q 0 Q.length])
  mp : ∃ ks, h[m]? = some (.keys false ks) ∧ ∀ k, k ∈ ks ↔ ∃ l ∈ Q, k = keyL l
  ls : h[q]? = some (.own (prCells N ρ τ Q.length))
  rt : ∀ i, i < Q.length → (Q.getD i []).length = N ∧ ∃ t, h[ρ i]? = some (.own ((Q.getD i []).map ci ++ t))
  ct : ∀ i, i < Q.length → (T.getD i []).length = N ∧ ∃ t, h[τ i]? = some (.own ((T.getD i []).map ci ++ t))
  inj : ∀ i j, i < j → j < Q.length → ρ i ≠ ρ j
  tl : T.length = Q.length
  low : b ≤ bm ∧ b ≤ bl ∧ b ≤ m ∧ b ≤ q ∧ ∀ i, i < Q.length → b ≤ ρ i

theorem Prs.ext {b bm bh bl m q : Nat} {ht : Int} {N : Nat} {ρ τ : Nat → Nat} {Q T : List (List Int)} {h h' : Heap} (P : Prs b bm bh bl m q ht N ρ τ Q T h) (E : Ext h h') : Prs b bm bh bl m q ht N ρ τ Q T h' := by
  obtain ⟨ks, k1, k2⟩ := P.mp
  exact ⟨E.row P.gm, E.row P.gh, E.row P.gl, ⟨ks, E.row k1, k2⟩, E.row P.ls, fun i hi => by obtain ⟨e, t, g⟩ := P.rt i hi; exact ⟨e, t, E.row g⟩, fun i hi => by obtain ⟨e, t, g⟩ := P.ct i hi; exact ⟨e, t, E.row g⟩, P.inj, P.tl, P.low⟩

/-- A list of numbers above none is not a row of slices. -/
theorem ints_ne_sl {N : Nat} (hN : 1 ≤ N) {l : List Int} (hl : l.length = N) {t : List H0} {x : H0} {cs : List H0} (hx : ∀ n, x ≠ ci n) : ¬ (l.map ci ++ t = x :: cs) := by
  intro e
  cases l with
  | nil => simp at hl; omega
  | cons a l =>
    simp only [List.map_cons, List.cons_append, List.cons.injEq] at e
    exact hx a e.1.symm

/-- A row of numbers is none of the rows that change. -/
theorem Prs.nrow {b bm bh bl m q : Nat} {ht : Int} {N : Nat} {ρ τ : Nat → Nat} {Q T : List (List Int)} {h : Heap} (P : Prs b bm bh bl m q ht N ρ τ Q T h) (hN : 1 ≤ N) {z : Nat} {l : List Int} {t : List H0} (hl : l.length = N) (g : h[z]? = some (.own (l.map ci ++ t))) : z ≠ m ∧ z ≠ q ∧ z ≠ bl := by
  obtain ⟨ks, hm1, _⟩ := P.mp
  refine ⟨fun e => ?_, fun e => ?_, fun e => ?_⟩
  · rw [e, hm1] at g; cases g
  · rw [e, P.ls] at g
    have g := Row.own.inj (Option.some.inj g)
    by_cases hQ0 : Q.length = 0
    · rw [hQ0] at g
      have := congrArg List.length g
      simp [prCells] at this
      omega
    · have h0 := (prCells_get N ρ τ (n := Q.length) (i := 0) (by omega)).1
      rw [g] at h0
      cases l with
      | nil => simp at hl; omega
      | cons x l => simp at h0
  · rw [e, P.gl] at g
    have g := Row.own.inj (Option.some.inj g)
    exact ints_ne_sl hN hl (fun n => by simp) g.symm

theorem Prs.change {b bm bh bl m q : Nat} {ht : Int} {N : Nat} {ρ τ : Nat → Nat} {Q T : List (List Int)} {h0 h h' : Heap} (P : Prs b bm bh bl m q ht N ρ τ Q T h) (hb : b = h0.length) (E : Ext h0 h) (k : KeepN (fun z => z = m ∨ z = q ∨ z = bl) h h') : Ext h0 h' := by
  obtain ⟨w1, w3, w4, w5, w6⟩ := P.low
  have := E.1
  refine ⟨Nat.le_trans E.1 k.1, fun r hr => ?_⟩
  rw [k.2 r (by omega) (fun e => by rcases e with e | e | e <;> omega)]
  exact E.2 r hr


set_option maxHeartbeats 2000000 in
theorem impl_add (h : Heap) {b bm bh bl m q : Nat} {ht : Int} {N : Nat} {ρ τ : Nat → Nat} {Q T : List (List Int)} (P : Prs b bm bh bl m q ht N ρ τ Q T h) (hN : 1 ≤ N) (hN4 : N ≤ 4) (hQ : Q.length ≤ 100000)
    {a a' : Nat} {l l' : List Int} {t t' : List H0} (hl : l.length = N) (hl' : l'.length = N) (ha : h[a]? = some (.own (l.map ci ++ t))) (ha' : h[a']? = some (.own (l'.map ci ++ t'))) (hfr : ∀ i, i < Q.length → ρ i ≠ a) (hb : b ≤ a) :
    HCalls dm Tryz.prog 240 [.s (.sl a 0 N), .s (.sl a' 0 N), .s (.ptr bm 0), .s (.ptr bh 0), .s (.ptr bl 0)] h
      (fun r h' => r = .tup [] ∧ KeepN (fun z => z = m ∨ z = q ∨ z = bl) h h' ∧
        ((¬ (l ∉ Q ∧ rootSign l = 1 ∧ heightOf l ≤ ht) ∧ Prs b bm bh bl m q ht N ρ τ Q T h') ∨
          ((l ∉ Q ∧ rootSign l = 1 ∧ heightOf l ≤ ht) ∧ ∃ q', h.length ≤ q' ∧ Prs b bm bh bl m q' ht N (upd ρ Q.length a) (upd τ Q.length a') (Q ++ [l]) (T ++ [l']) h'))) := by
  have hx : Ints h (.sl a 0 N) l := by have := Ints.ofOwn ha; rwa [hl] at this
  have hy : Ints h (.sl a' 0 N) l' := by have := Ints.ofOwn ha'; rwa [hl'] at this
  refine calls_of_hFun (m := 0) kd_ok mixed Tryz.func240 rfl (by kernel_rfl) rfl rfl (of_decide_eq_true rfl) ?_; unfold hFun; (conv => whnf)
  refine HRec.of (fun c hc => by simp at hc) ?_
  (conv => whnf)
  refine HStoreA.all (Or.inr ⟨4, rfl⟩) (get_new _ _) (by simp) (by simp) (fun c hc => by rw [(List.mem_replicate.1 hc).2]; rfl) ?_
  rw [set_new]
  have E1 := Ext.push h [Row.own (List.replicate 4 (ci 0))]
  (conv => whnf)
  refine ⟨by decide, h.length, 0, 4, rfl, Or.inl ⟨rfl, rfl⟩, Or.inl ⟨rfl, rfl⟩, by omega, by omega, ?_⟩
  (conv => whnf)
  refine ⟨rfl, rfl, HCopy.key (get_new _ _) (hx.ext E1) (by omega) ?_⟩
  rw [set_new]
  clear E1
  have E1 := Ext.push h [Row.own (key4 l)]
  have hk := get_new h (Row.own (key4 l))
  generalize h ++ [Row.own (key4 l)] = h1 at E1 hk ⊢
  obtain ⟨ks, hm1, hm2⟩ := P.mp
  have hmem : keyL l ∈ ks ↔ l ∈ Q := by
    rw [hm2]
    constructor
    · rintro ⟨l2, h2, e⟩
      obtain ⟨i, hi, rfl⟩ := List.getElem_of_mem h2
      have := (P.rt i hi).1
      simp only [List.getD, hi, List.getElem?_eq_getElem, Option.getD_some] at this
      rw [keyL_inj (by omega) (by omega) e]
      exact h2
    · exact fun h => ⟨l, h, rfl⟩
  (conv => whnf)
  refine Or.inl (And.intro (show Region.lexB _ _ = true by kernel_rfl) ?_); (conv => whnf)
  refine ⟨rfl, At.load ⟨bm, 0, _, [.mp m], rfl, E1.row P.gm, rfl, rfl⟩ ?_⟩
  (conv => whnf)
  refine HLoadA.arr hk (key4_length (by omega)) ?_
  (conv => whnf)
  refine ⟨m, ks, keyL l, rfl, E1.row hm1, keyAt_key4 (by omega), rfl, ?_⟩
  (conv => whnf)
  have skip : ∀ (hcond : ¬ (l ∉ Q ∧ rootSign l = 1 ∧ heightOf l ≤ ht)), HV.tup [] = .tup [] ∧ KeepN (fun z => z = m ∨ z = q ∨ z = bl) h h1 ∧
        ((¬ (l ∉ Q ∧ rootSign l = 1 ∧ heightOf l ≤ ht) ∧ Prs b bm bh bl m q ht N ρ τ Q T h1) ∨
          ((l ∉ Q ∧ rootSign l = 1 ∧ heightOf l ≤ ht) ∧ ∃ q', h.length ≤ q' ∧ Prs b bm bh bl m q' ht N (upd ρ Q.length a) (upd τ Q.length a') (Q ++ [l]) (T ++ [l']) h1)) :=
    fun hcond => ⟨rfl, KeepN.ofExt E1, Or.inl ⟨hcond, P.ext E1⟩⟩
  by_cases c1 : l ∈ Q
  · rw [decide_eq_true (hmem.2 c1)]
    (repeat (first | (refine HIf.no ?_; (conv => whnf)) | (refine HIf.isF rfl ?_; (conv => whnf))))
    exact skip fun c => c.1 c1
  rw [decide_eq_false (fun k => c1 (hmem.1 k))]
  refine HIf.isT rfl ?_
  (conv => whnf)
  refine HIf.isT rfl ?_
  (conv => whnf)
  refine HCallQ.of (.int .i64 (rootSign l)) (impl_RootSign _ _ _ (hx.ext E1).frz (by omega)) (fun x h' r => r.1) ?_
  (conv => whnf)
  refine HIf.isT rfl ?_
  (conv => whnf)
  refine HIf.isT rfl ?_
  (conv => whnf)
  by_cases c2 : rootSign l = 1
  · have e1 : (rootSign l == 1) = true := by simpa using c2
    (repeat (first | (refine HIf.yes ?_; (conv => whnf)) | (refine HIf.isT e1 ?_; (conv => whnf))))
    refine HCallQ.of (.int .i64 (heightOf l)) (impl_HeightOf _ _ _ (hx.ext E1).frz (by omega)) (fun x h' r => r.1) ?_
    (conv => whnf)
    refine HIf.isT e1 ?_
    (conv => whnf)
    refine ⟨rfl, At.load ⟨bh, 0, _, [ci ht], rfl, E1.row P.gh, rfl, rfl⟩ ?_⟩
    (conv => whnf)
    refine HIf.isT e1 ?_
    (conv => whnf)
    refine HIf.isT e1 ?_
    (conv => whnf)
    refine HIf.dec (fun c3 => ?_) (fun c3 => ?_)
    rotate_left
    · (conv => whnf)
      exact skip fun c => c3 c.2.2
    (conv => whnf)
    refine ⟨rfl, At.load ⟨bm, 0, _, [.mp m], rfl, E1.row P.gm, rfl, rfl⟩ ?_⟩
    (conv => whnf)
    refine HLoadA.arr hk (key4_length (by omega)) ?_
    (conv => whnf)
    refine ⟨m, ks, keyL l, rfl, rfl, E1.row hm1, keyAt_key4 (by omega), rfl, fun k => c1 (hmem.1 k), ?_⟩
    have hlt : ∀ {z : Nat} {x : Row}, h[z]? = some x → h1[z]? = some x := fun g => E1.row g
    have hmb : m ≠ bl := fun e => by have := P.gl; rw [← e, hm1] at this; cases this
    have hmq : m ≠ q := fun e => by have := P.ls; rw [← e, hm1] at this; cases this
    have hqb : q ≠ bl := fun e => by
      have g1 := P.gl
      rw [← e, P.ls] at g1
      simp only [Option.some.injEq, Row.own.injEq] at g1
      have := prCells_length N ρ τ Q.length
      rw [g1] at this
      simp at this
      omega
    (conv => whnf)
    refine ⟨rfl, At.load ⟨bl, 0, _, [.sw 2 q 0 Q.length], rfl, by rw [List.getElem?_set_ne hmb]; exact hlt P.gl, rfl, rfl⟩ ?_⟩
    (conv => whnf)
    have hone2 : ∀ c ∈ [H0.sl a 0 N, H0.sl a' 0 N], c.one = true := fun c hc => by
      simp only [List.mem_cons, List.not_mem_nil, or_false] at hc
      rcases hc with rfl | rfl <;> rfl
    refine HRec.of (xs := [.sl a 0 N, .sl a' 0 N]) (cs := [.sl a 0 N, .sl a' 0 N]) hone2 ?_
    (conv => whnf)
    refine HLitW.one (by decide) rfl hone2 ?_
    (conv => whnf)
    refine ⟨rfl, HAppW.snoc (cs := prCells N ρ τ Q.length) (xs := [.sl a 0 N, .sl a' 0 N]) ?_ (prCells_length N ρ τ _) (get_new _ _) rfl hone2 (by omega) ?_⟩
    · rw [List.getElem?_append_left (by rw [List.length_set]; exact get_lt (hlt P.ls)), List.getElem?_set_ne hmq]
      exact hlt P.ls
    have hlm := get_lt (hlt hm1)
    have hlq := get_lt (hlt P.ls)
    have hlb := get_lt (hlt P.gl)
    have hL : (h1.set m (Row.keys false (keyL l :: ks)) ++ [Row.own [H0.sl a 0 N, H0.sl a' 0 N]]).length = h1.length + 1 := by simp
    rw [hL]
    have hL2 : ((h1.set m (Row.keys false (keyL l :: ks)) ++ [Row.own [H0.sl a 0 N, H0.sl a' 0 N]]).set q .gone).length = h1.length + 1 := by simp
    have gm : ((h1.set m (Row.keys false (keyL l :: ks)) ++ [Row.own [H0.sl a 0 N, H0.sl a' 0 N]]).set q .gone ++ [Row.own (prCells N ρ τ Q.length ++ [H0.sl a 0 N, H0.sl a' 0 N])])[m]? = some (Row.keys false (keyL l :: ks)) := by
      rw [List.getElem?_append_left (by omega), List.getElem?_set_ne (Ne.symm hmq), List.getElem?_append_left (by rw [List.length_set]; exact hlm), List.getElem?_set_self hlm]
    have gz : ∀ {z : Nat} {x : Row}, h1[z]? = some x → z ≠ m → z ≠ q → ((h1.set m (Row.keys false (keyL l :: ks)) ++ [Row.own [H0.sl a 0 N, H0.sl a' 0 N]]).set q .gone ++ [Row.own (prCells N ρ τ Q.length ++ [H0.sl a 0 N, H0.sl a' 0 N])])[z]? = some x := fun {z x} g n1 n2 => by
      have := get_lt g
      rw [List.getElem?_append_left (by omega), List.getElem?_set_ne (Ne.symm n2), List.getElem?_append_left (by rw [List.length_set]; exact this), List.getElem?_set_ne (Ne.symm n1)]
      exact g
    have gq : ((h1.set m (Row.keys false (keyL l :: ks)) ++ [Row.own [H0.sl a 0 N, H0.sl a' 0 N]]).set q .gone ++ [Row.own (prCells N ρ τ Q.length ++ [H0.sl a 0 N, H0.sl a' 0 N])])[h1.length + 1]? = some (Row.own (prCells N ρ τ Q.length ++ [H0.sl a 0 N, H0.sl a' 0 N])) := by
      rw [← hL2]
      exact get_new _ _
    have hkeep : ∀ z, z < h1.length → z ≠ m → z ≠ q → ((h1.set m (Row.keys false (keyL l :: ks)) ++ [Row.own [H0.sl a 0 N, H0.sl a' 0 N]]).set q .gone ++ [Row.own (prCells N ρ τ Q.length ++ [H0.sl a 0 N, H0.sl a' 0 N])])[z]? = h1[z]? := fun z hz n1 n2 => by
      rw [List.getElem?_append_left (by omega), List.getElem?_set_ne (Ne.symm n2), List.getElem?_append_left (by rw [List.length_set]; exact hz), List.getElem?_set_ne (Ne.symm n1)]
    have hlen : ((h1.set m (Row.keys false (keyL l :: ks)) ++ [Row.own [H0.sl a 0 N, H0.sl a' 0 N]]).set q .gone ++ [Row.own (prCells N ρ τ Q.length ++ [H0.sl a 0 N, H0.sl a' 0 N])]).length = h1.length + 2 := by simp
    generalize (h1.set m (Row.keys false (keyL l :: ks)) ++ [Row.own [H0.sl a 0 N, H0.sl a' 0 N]]).set q .gone ++ [Row.own (prCells N ρ τ Q.length ++ [H0.sl a 0 N, H0.sl a' 0 N])] = h2 at gm gz gq hkeep hlen ⊢
    (conv => whnf)
    refine ⟨rfl, HStore.own (gz (hlt P.gl) (Ne.symm hmb) (Ne.symm hqb)) (by simp) rfl ?_⟩
    (conv => whnf)
    have hE1 := E1.1
    have hb2 : bl < h2.length := by omega
    have sz : ∀ {z : Nat} {x : Row}, h[z]? = some x → z ≠ m → z ≠ q → z ≠ bl → (h2.set bl (.own ([H0.sw 2 q 0 Q.length].set 0 (.sw 2 (h1.length + 1) 0 (Q.length + 1)))))[z]? = some x := fun {z x} g n1 n2 n3 => by
      rw [List.getElem?_set_ne (Ne.symm n3)]
      exact gz (hlt g) n1 n2
    have nrow : ∀ {z : Nat} {l : List Int} {t : List H0}, l.length = N → h[z]? = some (.own (l.map ci ++ t)) → z ≠ m ∧ z ≠ q ∧ z ≠ bl := fun hl g => P.nrow hN hl g
    refine ⟨rfl, ⟨by rw [List.length_set]; omega, fun z hz hn => ?_⟩, Or.inr ⟨⟨c1, c2, c3⟩, h1.length + 1, by omega, ?_⟩⟩
    · have n1 : z ≠ m := fun e => hn (Or.inl e)
      have n2 : z ≠ q := fun e => hn (Or.inr (Or.inl e))
      have n3 : z ≠ bl := fun e => hn (Or.inr (Or.inr e))
      rw [List.getElem?_set_ne (Ne.symm n3), hkeep z (by omega) n1 n2]
      exact E1.2 z hz
    have hsnoc : ∀ (A : List (List Int)) (x : List Int), A.length = Q.length → ∀ i, i < Q.length + 1 → (A ++ [x]).getD i [] = if i = Q.length then x else A.getD i [] := fun A x hA i hi => by
      by_cases e : i = Q.length
      · rw [if_pos e, e, ← hA]
        simp [List.getD]
      · rw [if_neg e]
        simp only [List.getD]
        rw [List.getElem?_append_left (by omega)]
    have nbm : bm ≠ m ∧ bm ≠ q ∧ bm ≠ bl := by
      refine ⟨fun e => ?_, fun e => ?_, fun e => ?_⟩
      · have := P.gm; rw [e, hm1] at this; cases this
      · have g := P.gm
        rw [e, P.ls] at g
        have g := congrArg List.length (Row.own.inj (Option.some.inj g))
        rw [prCells_length] at g
        simp at g
        omega
      · have g := P.gm
        rw [e, P.gl] at g
        simp at g
    have nbh : bh ≠ m ∧ bh ≠ q ∧ bh ≠ bl := by
      refine ⟨fun e => ?_, fun e => ?_, fun e => ?_⟩
      · have := P.gh; rw [e, hm1] at this; cases this
      · have g := P.gh
        rw [e, P.ls] at g
        have g := congrArg List.length (Row.own.inj (Option.some.inj g))
        rw [prCells_length] at g
        simp at g
        omega
      · have g := P.gh
        rw [e, P.gl] at g
        simp at g
    have hlenQ : (Q ++ [l]).length = Q.length + 1 := by simp
    obtain ⟨w1, w3, w4, w5, w6⟩ := P.low
    refine ⟨sz P.gm nbm.1 nbm.2.1 nbm.2.2, sz P.gh nbh.1 nbh.2.1 nbh.2.2, ?_, ⟨keyL l :: ks, ?_, fun k => ?_⟩, ?_, fun i hi => ?_, fun i hi => ?_, fun i j hij hj => ?_, by simp [P.tl], w1, w3, w4, by omega, fun i hi => ?_⟩
    · rw [List.getElem?_set_self hb2, hlenQ]
      rfl
    · rw [List.getElem?_set_ne (Ne.symm hmb)]
      exact gm
    · simp only [List.mem_cons, List.mem_append, List.not_mem_nil, or_false]
      rw [hm2]
      constructor
      · rintro (rfl | ⟨x, h1, h2⟩)
        · exact ⟨l, Or.inr rfl, rfl⟩
        · exact ⟨x, Or.inl h1, h2⟩
      · rintro ⟨x, h1 | rfl, h2⟩
        · exact Or.inr ⟨x, h1, h2⟩
        · exact Or.inl h2
    · rw [List.getElem?_set_ne (by omega), hlenQ, prCells_snoc]
      exact gq
    · rw [hlenQ] at hi
      rw [hsnoc Q l rfl i hi]
      by_cases e : i = Q.length
      · rw [if_pos e]
        obtain ⟨n1, n2, n3⟩ := nrow hl ha
        refine ⟨hl, t, ?_⟩
        show _[upd ρ Q.length a i]? = _
        rw [show upd ρ Q.length a i = a by simp [upd, e]]
        exact sz ha n1 n2 n3
      · rw [if_neg e]
        obtain ⟨e1, t1, g1⟩ := P.rt i (by omega)
        obtain ⟨n1, n2, n3⟩ := nrow e1 g1
        refine ⟨e1, t1, ?_⟩
        rw [show upd ρ Q.length a i = ρ i by simp [upd, e]]
        exact sz g1 n1 n2 n3
    · rw [hlenQ] at hi
      rw [hsnoc T l' P.tl i hi]
      by_cases e : i = Q.length
      · rw [if_pos e]
        obtain ⟨n1, n2, n3⟩ := nrow hl' ha'
        refine ⟨hl', t', ?_⟩
        rw [show upd τ Q.length a' i = a' by simp [upd, e]]
        exact sz ha' n1 n2 n3
      · rw [if_neg e]
        obtain ⟨e1, t1, g1⟩ := P.ct i (by omega)
        obtain ⟨n1, n2, n3⟩ := nrow e1 g1
        refine ⟨e1, t1, ?_⟩
        rw [show upd τ Q.length a' i = τ i by simp [upd, e]]
        exact sz g1 n1 n2 n3
    · rw [hlenQ] at hj
      have ei : upd ρ Q.length a i = ρ i := by simp [upd, show i ≠ Q.length by omega]
      rw [ei]
      by_cases e : j = Q.length
      · rw [show upd ρ Q.length a j = a by simp [upd, e]]
        exact hfr i (by omega)
      · rw [show upd ρ Q.length a j = ρ j by simp [upd, e]]
        exact P.inj i j hij (by omega)
    · rw [hlenQ] at hi
      by_cases e : i = Q.length
      · rw [show upd ρ Q.length a i = a by simp [upd, e]]
        exact hb
      · rw [show upd ρ Q.length a i = ρ i by simp [upd, e]]
        exact w6 i (by omega)
  · have e1 : (rootSign l == 1) = false := by simpa using c2
    (repeat (first | (refine HIf.no ?_; (conv => whnf)) | (refine HIf.isF e1 ?_; (conv => whnf))))
    exact skip fun c => c2 c.2.1

end Go.Proofs.YtgliajcgcbnemaaGreatDoor.Hx
