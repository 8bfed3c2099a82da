/-
  Finite types: whatever a look at all matrices of at most four points finds holds of each finite matrix. Plain theory.
  Finite types: the size by the names bounds the number of elements. Found by looking at all matrices of at most four points; plain theory.
  slices.SortFunc over a slice of slices of ints, for the calculus of rows: the library's contract (cells sorted by a comparing function) led over to heaps of rows.
  Contracts: cmp.Compare, cmp.Or, slices.Compare, the order of roots of the program and of the reference, and the reference's insertion of a root in its place.
  Contracts of braid moves, of the program.
  Contract of braid moves, of the reference; of the places of braid moves and of braid moves one after the other, of both.
  Contracts of the places of braid moves and of braid moves one after the other, of the program and of the reference.
-/
import Derived.Test.YtgliajcgcbnemaaGreatDoorZ19
import Derived.Shelf.SlSortCmp.NoneTotal
namespace Go.Proofs.YtgliajcgcbnemaaGreatDoor.Hx
open Go.RowKit

/-! ### What holds of all finite matrices -/

def chkA1 (g : Nat → M6 → Bool) : Bool := g 1 ⟨z0, z0, z0, z0, z0, z0⟩
def chkA2 (g : Nat → M6 → Bool) : Bool := opts.all fun p => g 2 ⟨p, z0, z0, z0, z0, z0⟩
def chkA3 (g : Nat → M6 → Bool) : Bool := opts.all fun p => opts.all fun q => opts.all fun r => !decide (0 < d3 p q r) || g 3 ⟨p, q, r, z0, z0, z0⟩
def chkA4 (g : Nat → M6 → Bool) : Bool := opts.all fun p => opts.all fun q => opts.all fun r => !decide (0 < d3 p q r) || opts.all fun s => opts.all fun t => !decide (0 < d3 p s t) || opts.all fun u => !decide (0 < d3 q s u) || !decide (0 < d3 r t u) || !decide (0 < d4 p q r s t u) || g 4 ⟨p, q, r, s, t, u⟩

theorem fin_any {c : List (List Int)} (hC : Cartan c) (hp : allPos c = true) (g : Nat → M6 → Bool) (g1 : chkA1 g = true) (g2 : chkA2 g = true) (g3 : chkA3 g = true) (g4 : chkA4 g = true) : g c.length (m6 c) = true := by
  have h1 := hC.pos
  have h4 := hC.le
  have z : ∀ i j, c.length ≤ j → ent c i j = 0 ∧ ent c j i = 0 := fun i j hj => ⟨ent_col hC hj, ent_off hj⟩
  have hn : c.length = 1 ∨ c.length = 2 ∨ c.length = 3 ∨ c.length = 4 := by omega
  rcases hn with hn | hn | hn | hn
  · have e : m6 c = ⟨z0, z0, z0, z0, z0, z0⟩ := by
      unfold m6 z0
      rw [(z 0 1 (by omega)).1, (z 0 1 (by omega)).2, (z 0 2 (by omega)).1, (z 0 2 (by omega)).2, (z 1 2 (by omega)).1, (z 1 2 (by omega)).2, (z 0 3 (by omega)).1, (z 0 3 (by omega)).2, (z 1 3 (by omega)).1, (z 1 3 (by omega)).2, (z 2 3 (by omega)).1, (z 2 3 (by omega)).2]
    rw [e, hn]
    exact g1
  · have e : m6 c = ⟨(ent c 0 1, ent c 1 0), z0, z0, z0, z0, z0⟩ := by
      unfold m6 z0
      rw [(z 0 2 (by omega)).1, (z 0 2 (by omega)).2, (z 1 2 (by omega)).1, (z 1 2 (by omega)).2, (z 0 3 (by omega)).1, (z 0 3 (by omega)).2, (z 1 3 (by omega)).1, (z 1 3 (by omega)).2, (z 2 3 (by omega)).1, (z 2 3 (by omega)).2]
    rw [e, hn]
    exact List.all_eq_true.1 g2 _ (pair_opts hC hp (i := 0) (j := 1) (m := 3) (by omega) (by omega) (by omega) (by omega) (by rw [hn]; decide) (by decide))
  · have e : m6 c = ⟨(ent c 0 1, ent c 1 0), (ent c 0 2, ent c 2 0), (ent c 1 2, ent c 2 1), z0, z0, z0⟩ := by
      unfold m6 z0
      rw [(z 0 3 (by omega)).1, (z 0 3 (by omega)).2, (z 1 3 (by omega)).1, (z 1 3 (by omega)).2, (z 2 3 (by omega)).1, (z 2 3 (by omega)).2]
    have k := List.all_eq_true.1 (List.all_eq_true.1 (List.all_eq_true.1 g3 _ (pair_opts hC hp (i := 0) (j := 1) (m := 3) (by omega) (by omega) (by omega) (by omega) (by rw [hn]; decide) (by decide))) _ (pair_opts hC hp (i := 0) (j := 2) (m := 5) (by omega) (by omega) (by omega) (by omega) (by rw [hn]; decide) (by decide))) _ (pair_opts hC hp (i := 1) (j := 2) (m := 6) (by omega) (by omega) (by omega) (by omega) (by rw [hn]; decide) (by decide))
    have t := tri_pos hC hp (i := 0) (j := 1) (k := 2) (m := 7) (by omega) (by omega) (by omega) (by omega) (by rw [hn]; decide) (by decide)
    rw [decide_eq_true t, Bool.not_true, Bool.false_or] at k
    rw [e, hn]
    exact k
  · have o := fun (i j m : Nat) (hi : i < 4) (hj : j < 4) (hij : i ≠ j) (h1 : 1 ≤ m) (h2 : m < 16) (h : setB m = [(i : Int), (j : Int)]) => pair_opts hC hp (i := i) (j := j) (m := m) (by omega) (by omega) hij h1 (by rw [hn]; exact h2) h
    have t := fun (i j k m : Nat) (hi : i < 4) (hj : j < 4) (hk : k < 4) (h1 : 1 ≤ m) (h2 : m < 16) (h : setB m = [(i : Int), (j : Int), (k : Int)]) => tri_pos hC hp (i := i) (j := j) (k := k) (m := m) (by omega) (by omega) (by omega) h1 (by rw [hn]; exact h2) h
    have k1 := List.all_eq_true.1 (List.all_eq_true.1 (List.all_eq_true.1 g4 _ (o 0 1 3 (by omega) (by omega) (by omega) (by omega) (by omega) (by decide))) _ (o 0 2 5 (by omega) (by omega) (by omega) (by omega) (by omega) (by decide))) _ (o 1 2 6 (by omega) (by omega) (by omega) (by omega) (by omega) (by decide))
    rw [decide_eq_true (t 0 1 2 7 (by omega) (by omega) (by omega) (by omega) (by omega) (by decide)), Bool.not_true, Bool.false_or] at k1
    have k2 := List.all_eq_true.1 (List.all_eq_true.1 k1 _ (o 0 3 9 (by omega) (by omega) (by omega) (by omega) (by omega) (by decide))) _ (o 1 3 10 (by omega) (by omega) (by omega) (by omega) (by omega) (by decide))
    rw [decide_eq_true (t 0 1 3 11 (by omega) (by omega) (by omega) (by omega) (by omega) (by decide)), Bool.not_true, Bool.false_or] at k2
    have k3 := List.all_eq_true.1 k2 _ (o 2 3 12 (by omega) (by omega) (by omega) (by omega) (by omega) (by decide))
    have q := allPos_get hp 15 (by omega) (by rw [hn]; decide)
    have M := matOk hC
    rw [dt_4, detZ4, M.diag 0 (by omega), M.diag 1 (by omega), M.diag 2 (by omega), M.diag 3 (by omega)] at q
    have q' : 0 < d4 (ent c 0 1, ent c 1 0) (ent c 0 2, ent c 2 0) (ent c 1 2, ent c 2 1) (ent c 0 3, ent c 3 0) (ent c 1 3, ent c 3 1) (ent c 2 3, ent c 3 2) := q
    rw [decide_eq_true (t 0 2 3 13 (by omega) (by omega) (by omega) (by omega) (by omega) (by decide)), decide_eq_true (t 1 2 3 14 (by omega) (by omega) (by omega) (by omega) (by omega) (by decide)), decide_eq_true q', Bool.not_true, Bool.false_or, Bool.false_or, Bool.false_or] at k3
    rw [hn]
    exact k3

end Go.Proofs.YtgliajcgcbnemaaGreatDoor.Hx

namespace Go.Proofs.YtgliajcgcbnemaaGreatDoor.Hx
open Go.RowKit

def matM (n : Nat) (m : M6) : List (List Int) := match n with
  | 1 => [[2]]
  | 2 => [[2, m.p.1], [m.p.2, 2]]
  | 3 => [[2, m.p.1, m.q.1], [m.p.2, 2, m.r.1], [m.q.2, m.r.2, 2]]
  | _ => [[2, m.p.1, m.q.1, m.s.1], [m.p.2, 2, m.r.1, m.t.1], [m.q.2, m.r.2, 2, m.u.1], [m.s.2, m.t.2, m.u.2, 2]]
theorem matM_m6 {c : List (List Int)} (hC : Cartan c) : matM c.length (m6 c) = c := by
  have h1 := hC.pos
  have h4 := hC.le
  have d := (matOk hC).diag
  have rl : ∀ n, n = 1 ∨ n = 2 ∨ n = 3 ∨ n = 4 → (matM n (m6 c)).length = n ∧ ∀ i, i < n → ((matM n (m6 c)).getD i []).length = n := by
    rintro n (rfl | rfl | rfl | rfl)
    · exact ⟨rfl, fun i hi => by
        have : i = 0 := by omega
        subst this; rfl⟩
    · refine ⟨rfl, fun i hi => ?_⟩
      have : i = 0 ∨ i = 1 := by omega
      rcases this with rfl | rfl <;> rfl
    · refine ⟨rfl, fun i hi => ?_⟩
      have : i = 0 ∨ i = 1 ∨ i = 2 := by omega
      rcases this with rfl | rfl | rfl <;> rfl
    · refine ⟨rfl, fun i hi => ?_⟩
      have : i = 0 ∨ i = 1 ∨ i = 2 ∨ i = 3 := by omega
      rcases this with rfl | rfl | rfl | rfl <;> rfl
  have hn : c.length = 1 ∨ c.length = 2 ∨ c.length = 3 ∨ c.length = 4 := by omega
  obtain ⟨e1, e2⟩ := rl c.length hn
  refine mat_ext e1 rfl e2 (fun i hi => hC.row i hi) (fun i hi j hj => ?_)
  have hd := d i hi
  rcases hn with hn | hn | hn | hn <;> rw [hn] at hi hj ⊢
  · have a : i = 0 := by omega
    have b : j = 0 := by omega
    subst a b
    exact hd.symm
  · have a : i = 0 ∨ i = 1 := by omega
    have b : j = 0 ∨ j = 1 := by omega
    rcases a with rfl | rfl <;> rcases b with rfl | rfl <;> first | exact hd.symm | rfl
  · have a : i = 0 ∨ i = 1 ∨ i = 2 := by omega
    have b : j = 0 ∨ j = 1 ∨ j = 2 := by omega
    rcases a with rfl | rfl | rfl <;> rcases b with rfl | rfl | rfl <;> first | exact hd.symm | rfl
  · have a : i = 0 ∨ i = 1 ∨ i = 2 ∨ i = 3 := by omega
    have b : j = 0 ∨ j = 1 ∨ j = 2 ∨ j = 3 := by omega
    rcases a with rfl | rfl | rfl | rfl <;> rcases b with rfl | rfl | rfl | rfl <;> first | exact hd.symm | rfl

/-! ### Parts, names and sizes that can be computed -/

def nbB (c : List (List Int)) (i j : Nat) : Bool := !(Nat.beq j i) && !(decide (ent c i j = 0))
def rB (c : List (List Int)) : Nat → Nat → Nat → Bool
  | 0, i, j => Nat.beq i j
  | k + 1, i, j => rB c k i j || (List.range c.length).any fun x => rB c k i x && nbB c x j
def shutB (c : List (List Int)) : Bool := (List.range c.length).all fun i => (List.range c.length).all fun x => !(rB c 3 i x) || (List.range c.length).all fun j => !(nbB c x j) || rB c 3 i j
theorem nbB_adj {c : List (List Int)} {i j : Nat} (hj : j < c.length) : nbB c i j = true ↔ Adj c i j := by
  unfold nbB Adj
  simp only [Bool.and_eq_true, Bool.not_eq_true', ent]
  constructor
  · rintro ⟨h1, h2⟩
    refine ⟨hj, fun e => ?_, of_decide_eq_false h2⟩
    rw [e, Nat.beq_refl] at h1
    cases h1
  · rintro ⟨_, h1, h2⟩
    refine ⟨?_, decide_eq_false h2⟩
    cases hb : Nat.beq j i
    · rfl
    · exact absurd (Nat.eq_of_beq_eq_true hb) h1
theorem rB_sound {c : List (List Int)} : ∀ (k i j : Nat), i < c.length → j < c.length → rB c k i j = true → Rch c i j
  | 0, i, j, _, _, h => by
    obtain rfl := Nat.eq_of_beq_eq_true h
    exact .here
  | k + 1, i, j, hi, hj, h => by
    rw [rB, Bool.or_eq_true] at h
    rcases h with h | h
    · exact rB_sound k i j hi hj h
    · obtain ⟨x, hx, h⟩ := List.any_eq_true.1 h
      rw [Bool.and_eq_true] at h
      exact (rB_sound k i x hi (List.mem_range.1 hx) h.1).step ((nbB_adj hj).1 h.2)
theorem rB_start {c : List (List Int)} (i : Nat) : ∀ k, rB c k i i = true
  | 0 => Nat.beq_refl i
  | k + 1 => by rw [rB, rB_start i k, Bool.true_or]
theorem rB_iff {c : List (List Int)} (hs : shutB c = true) {i j : Nat} (hi : i < c.length) (hj : j < c.length) : rB c 3 i j = true ↔ Rch c i j := by
  refine ⟨rB_sound 3 i j hi hj, fun h => ?_⟩
  have hall := List.all_eq_true.1 hs i (List.mem_range.2 hi)
  exact (Rch.closed (S := fun x => x < c.length ∧ rB c 3 i x = true) ⟨hi, rB_start i 3⟩ (fun x hx y ha => by
    have h1 := List.all_eq_true.1 hall x (List.mem_range.2 hx.1)
    rw [hx.2, Bool.not_true, Bool.false_or] at h1
    have h2 := List.all_eq_true.1 h1 y (List.mem_range.2 ha.1)
    rw [(nbB_adj ha.1).2 ha, Bool.not_true, Bool.false_or] at h2
    exact ⟨ha.1, h2⟩) h).2

def partM (c : List (List Int)) (i : Nat) : List Int := ((List.range c.length).filter (rB c 3 i)).map fun (j : Nat) => (j : Int)
def partsM (c : List (List Int)) : List (List Int) := ((List.range c.length).filter fun i => (List.range i).all fun j => !rB c 3 j i).map (partM c)
open Classical in
theorem partsM_eq {c : List (List Int)} (hic : isCartan c = true) (hs : shutB c = true) : partsC c = partsM c := by
  rw [partsC_on hic]
  unfold partsTo partsM
  have e1 : (List.range c.length).filter (isMin c) = (List.range c.length).filter fun i => (List.range i).all fun j => !rB c 3 j i := by
    refine List.filter_congr fun i hi => ?_
    have hi := List.mem_range.1 hi
    rw [Bool.eq_iff_iff, isMin_iff, List.all_eq_true]
    constructor
    · intro h j hj
      have hj := List.mem_range.1 hj
      have := h j hj
      rw [← rB_iff hs (by omega) hi] at this
      simpa using this
    · intro h j hj
      have := h j (List.mem_range.2 hj)
      rw [← rB_iff hs (by omega) hi]
      simpa using this
  rw [e1]
  refine List.map_congr_left fun i hi => ?_
  have hi := List.mem_range.1 (List.mem_filter.1 hi).1
  unfold partL partTo partM
  congr 1
  refine List.filter_congr fun j hj => ?_
  have hj := List.mem_range.1 hj
  rw [Bool.eq_iff_iff, decide_eq_true_eq]
  exact (rB_iff hs hi hj).symm

def isoC (a b : List (List Int)) : Bool := decide (a.length = b.length) && (ordL a.length a.length).any fun o => decide (subM a o = b)
theorem isoC_eq {a b : List (List Int)} (ha : isCartan a = true) (hb : isCartan b = true) : isoB a b = isoC a b := by
  unfold isoC
  by_cases hl : a.length = b.length
  · rw [decide_eq_true hl, Bool.true_and, Bool.eq_iff_iff, isoB_on ha hb hl, List.any_eq_true]
    simp only [decide_eq_true_eq]
  · rw [decide_eq_false hl, Bool.false_and]
    exact isoB_offl (Or.inr (Or.inr hl))
theorem nameIn_congr {f g : List (List Int) → Bool} : ∀ T : List (ByteArray × List (List Int)), (∀ p ∈ T, f p.2 = g p.2) → nameIn f T = nameIn g T
  | [], _ => rfl
  | t :: r, h => by rw [nameIn, nameIn, h t (by simp), nameIn_congr r fun p hp => h p (List.mem_cons_of_mem _ hp)]
def sizeM (c : List (List Int)) : Int := sizeL ((partsM c).map fun o => nameIn (isoC (subM c o)) typeL)
theorem sizeM_eq {c : List (List Int)} (hic : isCartan c = true) (hs : shutB c = true) : sizeL (namesL c) = sizeM c := by
  unfold namesL sizeM
  rw [← partsM_eq hic hs]
  congr 1
  refine List.map_congr_left fun o ho => ?_
  obtain ⟨k, hk, e⟩ := List.getElem_of_mem ho
  have ok := part_ok hic hk
  have e2 : (partsC c).getD k [] = o := by simp [List.getD, hk, e]
  rw [e2] at ok
  exact nameIn_congr _ fun p hp => isoC_eq ok.cart (ty_cart p hp)

/-! ### How many elements there are, in numbers -/

def posB (x : Int) : Bool := match x with
  | .ofNat n => Nat.blt 0 n
  | .negSucc _ => false
theorem posB_iff (x : Int) : posB x = true ↔ 0 < x := by
  cases x with
  | ofNat n =>
    show Nat.blt 0 n = true ↔ 0 < (n : Int)
    rw [Nat.blt_eq]
    omega
  | negSucc n => simp [posB]
def cntV (n : Nat) (m : M6) : Nat → V4 → Nat
  | 0, _ => 1000
  | f + 1, v => 1 + ((match Nat.blt 0 n && posB v.a with
    | true => cntV n m f (st1 m v)
    | false => 0) + ((match Nat.blt 1 n && (posB v.b && !negB (st2 m v).a) with
    | true => cntV n m f (st2 m v)
    | false => 0) + ((match Nat.blt 2 n && (posB v.c && (!negB (st3 m v).a && !negB (st3 m v).b)) with
    | true => cntV n m f (st3 m v)
    | false => 0) + (match Nat.blt 3 n && (posB v.d && (!negB (st4 m v).a && (!negB (st4 m v).b && !negB (st4 m v).c))) with
    | true => cntV n m f (st4 m v)
    | false => 0))))
def gE (n : Nat) (m : M6) : Bool := shutB (matM n m) && (decide (1 ≤ sizeM (matM n m)) && (decide (200 < sizeM (matM n m)) || Nat.ble (cntV n m 30 one4) 200))

set_option maxRecDepth 100000 in
theorem gE1 : chkA1 gE = true := by decide +kernel
set_option maxRecDepth 100000 in
theorem gE2 : chkA2 gE = true := by decide +kernel
set_option maxRecDepth 100000 in
theorem gE3 : chkA3 gE = true := by decide +kernel
set_option maxRecDepth 100000 in
theorem gE4 : chkA4 gE = true := by decide +kernel

def kidV (m : M6) (v : V4) (i : Nat) : Bool := posB (crd v i) && (List.range i).all fun k => !negB (crd (stp m i v) k)
theorem cntV_succ (m : M6) (f : Nat) (v : V4) {n : Nat} (h1 : 1 ≤ n) (h4 : n ≤ 4) : cntV n m (f + 1) v = 1 + ((List.range n).map fun i => if kidV m v i = true then cntV n m f (stp m i v) else 0).sum := by
  have mt : ∀ (b : Bool) (x : Nat), (match b with | true => x | false => 0) = if b = true then x else 0 := fun b x => by cases b <;> rfl
  have hn : n = 1 ∨ n = 2 ∨ n = 3 ∨ n = 4 := by omega
  rw [cntV]
  simp only [mt]
  have r1 : List.range 1 = [0] := rfl
  have r2 : List.range 2 = [0, 1] := rfl
  have r3 : List.range 3 = [0, 1, 2] := rfl
  have r4 : List.range 4 = [0, 1, 2, 3] := rfl
  have k0 : kidV m v 0 = (posB v.a && true) := rfl
  have k1 : kidV m v 1 = (posB v.b && (!negB (st2 m v).a && true)) := rfl
  have k2 : kidV m v 2 = (posB v.c && (!negB (st3 m v).a && (!negB (st3 m v).b && true))) := rfl
  have k3 : kidV m v 3 = (posB v.d && (!negB (st4 m v).a && (!negB (st4 m v).b && (!negB (st4 m v).c && true)))) := rfl
  rcases hn with rfl | rfl | rfl | rfl
  · rw [r1]
    simp [k0, stp, Nat.blt]
  · rw [r2]
    simp [k0, k1, stp, Nat.blt]
  · rw [r3]
    simp [k0, k1, k2, stp, Nat.blt]
  · rw [r4]
    simp [k0, k1, k2, k3, stp, Nat.blt]

theorem sum_filter {α : Type} (p : α → Bool) (g : α → Nat) : ∀ l : List α, ((l.filter p).map g).sum = (l.map fun i => if p i = true then g i else 0).sum
  | [] => rfl
  | a :: t => by
    by_cases h : p a = true
    · rw [List.filter_cons_of_pos h, List.map_cons, List.sum_cons, List.map_cons, List.sum_cons, sum_filter p g t, if_pos h]
    · rw [List.filter_cons_of_neg h, List.map_cons, List.sum_cons, sum_filter p g t, if_neg h, Nat.zero_add]

theorem cnt_same {c : List (List Int)} (hC : Cartan c) : ∀ (f n : Nat) (l : List Int) (v : V4), PlayL c n l → n + f ≤ 30 → posOf l = cvt c.length v → cntT c f l = cntV c.length (m6 c) f v
  | 0, _, _, _, _, _, _ => rfl
  | f + 1, n, l, v, P, hn, hp => by
    have at_ : ∀ i, i < c.length → l.getD i 0 = crd v i := fun i hi => by
      have : posOf l i = cvt c.length v i := by rw [hp]
      unfold cvt at this
      rw [if_pos hi] at this
      exact this
    rw [cntT, cntV_succ _ _ _ hC.pos hC.le, kids, List.map_map, sum_filter]
    congr 2
    refine List.map_congr_left fun i hi => ?_
    have hi := List.mem_range.1 hi
    have hq : posOf (reflW c i l) = cvt c.length (stp (m6 c) i v) := by rw [pos_refl hC P (by omega) hi, hp, cvt_step hC i hi]
    have at2 : ∀ k, k < c.length → (reflW c i l).getD k 0 = crd (stp (m6 c) i v) k := fun k hk => by
      have : posOf (reflW c i l) k = cvt c.length (stp (m6 c) i v) k := by rw [hq]
      unfold cvt at this
      rw [if_pos hk] at this
      exact this
    have hlen : (reflW c i l).length = c.length := by rw [reflW_length]; exact P.1
    have hk : kidB c l i = kidV (m6 c) v i := by
      rw [Bool.eq_iff_iff]
      unfold kidB kidV
      rw [Bool.and_eq_true, Bool.and_eq_true, decide_eq_true_eq, decide_eq_true_eq, posB_iff, List.all_eq_true, at_ i hi]
      refine and_congr_right fun h0 => ?_
      have hneg : (reflW c i l).getD i 0 < 0 := by
        have e := congrFun (pos_refl hC P (by omega) hi) i
        rw [sr_at ((matOk hC).diag i hi)] at e
        have e2 : posOf l i = l.getD i 0 := rfl
        have e3 : posOf (reflW c i l) i = (reflW c i l).getD i 0 := rfl
        have := at_ i hi
        omega
      constructor
      · intro hf k hk
        have hk := List.mem_range.1 hk
        rw [Bool.not_eq_true']
        cases hb : negB (crd (stp (m6 c) i v) k)
        · rfl
        · have := (negB_iff _).1 hb
          rw [← at2 k (by omega)] at this
          have h5 : fd (reflW c i l) ≤ k := by
            unfold fd
            refine Nat.le_of_not_lt fun hlt => ?_
            have h6 := List.not_of_lt_findIdx hlt
            have hkl : k < (reflW c i l).length := by omega
            simp only [List.getD, List.getElem?_eq_getElem hkl, Option.getD_some] at this
            simp at h6
            omega
          omega
      · intro h
        refine fd_at (by omega) hneg fun k hk => ?_
        have h5 := h k (List.mem_range.2 hk)
        rw [Bool.not_eq_true'] at h5
        rw [at2 k (by omega)]
        have h6 : ¬ crd (stp (m6 c) i v) k < 0 := fun hl => by
          rw [(negB_iff _).2 hl] at h5
          cases h5
        omega
    rw [hk]
    by_cases hv : kidV (m6 c) v i = true
    · rw [if_pos hv, if_pos hv]
      rw [← hk] at hv
      unfold kidB at hv
      rw [Bool.and_eq_true, decide_eq_true_eq] at hv
      exact cnt_same hC f (n + 1) _ _ (P.upL hC (by omega) hi hv.1) (by omega) hq
    · rw [if_neg hv, if_neg hv]

/-- A finite group has a size, and no more elements than 200 where its size is no more. -/
theorem fin_size {c : List (List Int)} (h : isFinite c = true) : 1 ≤ sizeN c ∧ (sizeN c ≤ 200 → cntT c 30 (List.replicate c.length 1) ≤ 200) := by
  obtain ⟨hC, hp⟩ := fin_parts h
  have hic := (isCartan_iff c).2 hC
  have hg := fin_any hC hp gE gE1 gE2 gE3 gE4
  unfold gE at hg
  rw [matM_m6 hC, Bool.and_eq_true, Bool.and_eq_true] at hg
  obtain ⟨h1, h2, h3⟩ := hg
  rw [sizeN_on h, sizeM_eq hic h1]
  refine ⟨of_decide_eq_true h2, fun hs => ?_⟩
  rw [decide_eq_false (by omega), Bool.false_or] at h3
  rw [cnt_same hC 30 0 _ one4 (PlayL.ones c) (by omega) (pos_one hC)]
  exact Nat.le_of_ble_eq_true h3

end Go.Proofs.YtgliajcgcbnemaaGreatDoor.Hx

namespace Go.Proofs.YtgliajcgcbnemaaGreatDoor.Hx
open Go.RowKit
variable {dm : Bool}

/-- A later world with all old blocks as they were: so many draws, some blocks more. -/
theorem Lat.grows {w w' : World} (b : Lat true w.heap.size w w') : ∃ q os, w' = Go.Sort.grow (w.drewN q) os := by
  refine ⟨w'.drawn - w.drawn, w'.heap.extract w.heap.size w'.heap.size, ?_⟩
  obtain ⟨⟨b1, b2, b3, b4, b5⟩, b60⟩ := b
  have b6 := b60 rfl
  clear b60
  obtain ⟨hp, tp, dr, os, out⟩ := w
  obtain ⟨hp', tp', dr', os', out'⟩ := w'
  simp only at b1 b2 b3 b4 b5 b6
  subst b1 b2 b3
  have hd : dr + (dr' - dr) = dr' := by omega
  have hh : hp' = hp ++ hp'.extract hp.size hp'.size := by
    apply Array.ext_getElem?
    intro k
    rw [Array.getElem?_append]
    by_cases hk : k < hp.size
    · rw [if_pos hk]
      exact b5 k hk
    · rw [if_neg hk, Array.getElem?_extract]
      by_cases h2 : k < hp'.size
      · rw [if_pos (by omega)]
        congr 1
        omega
      · rw [if_neg (by omega)]
        exact Array.getElem?_eq_none (by omega)
  simp only [Go.Sort.grow, World.drewN, hd]
  rw [← hh]

/-- A world that differs from w in one row's block alone bears the heap without that row. -/
theorem Rep.beside {B0 : Nat} {φ : Plan} {h : Heap} {w w' : World} (R : Rep B0 φ h w) {r : Nat} {cs : List H0} {p : Place} (hr : h[r]? = some (.own cs)) (hp : φ[r]? = some p)
    (hs : w.heap.size ≤ w'.heap.size) (hb : ∀ k, k ≠ p.b → k < w.heap.size → w'.heap[k]? = w.heap[k]?) : Rep B0 φ (h.set r .gone) w' := by
  obtain ⟨q1, q2, q3, _⟩ := R.own r cs p hr hp
  have D := R.drop r
  have other : ∀ (q : Nat) (ys : List H0), (h.set r .gone)[q]? = some (.own ys) → q ≠ r ∧ h[q]? = some (.own ys) := fun q ys hq => by
    by_cases e : q = r
    · subst e
      rw [List.getElem?_set_self (List.getElem?_eq_some_iff.1 hr).1] at hq
      cases hq
    · rw [List.getElem?_set_ne (Ne.symm e)] at hq
      exact ⟨e, hq⟩
  refine ⟨D.len, Nat.le_trans D.base hs, fun q xs pq h1 h2 => ?_, fun q xs pq h1 h2 => ?_, D.apart, fun q so ks pq h1 h2 => ?_, D.apartK, D.tab.keep fun k hk => hb k (by omega) (Nat.lt_of_lt_of_le hk D.base)⟩
  · obtain ⟨g1, g2⟩ := D.ro q xs pq h1 h2
    refine ⟨g1, fun k c hk => ?_⟩
    obtain ⟨v, e1, e2⟩ := g2 k c hk
    exact ⟨v, by rw [World.cell?_of_block (w := w) (hb _ (by show pq.b ≠ p.b; omega) (Nat.lt_of_lt_of_le g1 D.base))]; exact e1, e2⟩
  · obtain ⟨g1, g2, g3, cur, e, g4, g5⟩ := D.own q xs pq h1 h2
    obtain ⟨n1, n2⟩ := other q xs h1
    exact ⟨g1, g2, g3, cur, e, by rw [hb _ (R.apart q r xs cs pq p n1 n2 hr h2 hp) (Array.getElem?_eq_some_iff.1 g4).1]; exact g4, g5⟩
  · obtain ⟨g1, ents, clk, g4, g5⟩ := D.keys q so ks pq h1 h2
    have hq : h[q]? = some (.keys so ks) := by
      by_cases e : r = q
      · subst e
        rw [List.getElem?_set_self (List.getElem?_eq_some_iff.1 hr).1] at h1
        cases h1
      · rw [List.getElem?_set_ne e] at h1
        exact h1
    exact ⟨g1, ents, clk, by rw [hb _ (R.apartM hr hq hp h2) (Array.getElem?_eq_some_iff.1 g4).1]; exact g4, g5⟩

open Go.Sort in
theorem sortWorld_heap {α : Type} [Inhabited α] (enc : α → Value) (w : World) (blk off m : Nat) (dk : Array α) (os : Array Obj) :
    w.heap.size ≤ (Go.Proofs.sortWorld enc w blk off m dk os).heap.size ∧ ∀ k, k ≠ blk → k < w.heap.size → (Go.Proofs.sortWorld enc w blk off m dk os).heap[k]? = w.heap[k]? := by
  unfold Go.Proofs.sortWorld
  have hz : (putRow enc (Go.Sort.ahead w m) blk off dk).heap.size = w.heap.size := by simp [putRow, mapBlock, Go.Sort.ahead]
  refine ⟨by rw [size_grow, hz]; omega, fun k hk hl => ?_⟩
  rw [heap_grow_old _ _ (by rw [hz]; exact hl)]
  simp [putRow, mapBlock, Go.Sort.ahead, Array.getElem?_modify, Ne.symm hk]

theorem getD_range (n : Nat) (j : Nat) (hj : j < n) : (Array.range n)[j]! = j := by simp [hj]

theorem Ints.cell1 {h : Heap} {x : H0} {l : List Int} (H : Ints h x l) {φ : Plan} {v : Value} (k : rep0 φ x v) : v.oneCell' = true := by
  have main : ∀ (y : HV) (l : List H0), Shows h y l → y = .s x → v.oneCell' = true := by
    intro y l S e
    cases S with
    | nils a c =>
      cases e
      have : v = .slice a 0 c := k
      rw [this]; rfl
    | ro r off len cs hr hl => cases e; obtain ⟨p, a, cap, _, e, _⟩ := k; rw [e]; rfl
    | own r off len cs hr hl => cases e; obtain ⟨p, a, cap, _, e, _⟩ := k; rw [e]; rfl
  exact main _ _ H rfl

/-- What the sort leaves in the row. -/
def sortedRow (cs : List H0) (off len : Nat) (σ : List Nat) : List H0 := cs.take off ++ σ.map (fun i => cs.getD (off + i) (ci 0)) ++ cs.drop (off + len)

open Go.Sort Go.Shelf in
set_option maxHeartbeats 1000000 in
/-- slices.SortFunc over a row of slices. -/
theorem sort_calls {P : Program} {ρ : Ren} (L : SlLaysF.n6 P ρ) {CR : FuncId} (eg : ∀ args w, (callFunc CR args).run P w = .ok (.enter CR args) w) (cmpL : List Int → List Int → Int) (hO : SWO (ltOf cmpL))
    {h : Heap} {r off len : Nat} {cs : List H0} {Ls : List (List Int)} (hr : h[r]? = some (.own cs)) (hl : off + len ≤ cs.length) (hn : Ls.length = len) (hlen : len < 4611686018427387904)
    (hi : ∀ (i : Nat) (x : H0) (l : List Int), i < len → cs[off + i]? = some x → Ls[i]? = some l → Ints (h.set r .gone) x l)
    (hc : ∀ (i j : Nat) (x y : H0) (a b : List Int), i < len → j < len → cs[off + i]? = some x → cs[off + j]? = some y → Ls[i]? = some a → Ls[j]? = some b →
      HCalls true P CR [.s x, .s y] (freeze (h.set r .gone)) (fun z _ => z = I (cmpL a b))) :
    HCalls dm P (ρ.f 6) [.s (.sl r off len), .fn CR []] h (fun z h' => z = .tup [] ∧ ∃ σ : List Nat, σ.Perm (List.range len) ∧ σ.Pairwise (fun i j => ¬ cmpL (Ls.getD j []) (Ls.getD i []) < 0) ∧ h' = h.set r (.own (sortedRow cs off len σ))) := by
  refine ⟨L.f6.enters rfl, fun B0 φ w vargs R ha => ?_⟩
  obtain ⟨p, hp⟩ := R.place hr
  obtain ⟨q1, q2, q3, cur, e, q4, q5, q6⟩ := R.own r cs p hr hp
  have hvs : ∃ u v, vargs = #[u, v] ∧ rep0 φ (.sl r off len) u ∧ repV φ (.fn CR []) v := by
    rcases vargs with ⟨vs⟩
    match vs, ha with
    | [u, v], hh => exact ⟨u, v, rfl, hh.1, hh.2.1⟩
  obtain ⟨u, v, rfl, hu, hv⟩ := hvs
  obtain ⟨p', a, cap, hp', rfl, hc1, hc2, hc3, hc4⟩ := hu
  obtain rfl : p' = p := Option.some.inj (hp'.symm.trans hp)
  obtain ⟨vs, rfl, hvs⟩ := hv
  obtain rfl : vs = #[] := by
    rcases vs with ⟨vl⟩
    match vl, hvs with
    | [], _ => rfl
  by_cases h0 : len = 0
  · subst h0
    refine (AnyF.slices_SortFunc_none { L with } (some a) cap _ w).mono ?_
    rintro e' w' ⟨rfl, rfl⟩
    refine ⟨_, .tup [], _, φ, rfl, ⟨rfl, [], by simp, List.Pairwise.nil, rfl⟩, Sub.refl _, ?_, ⟨#[], rfl, trivial⟩, Lat.refl _ _⟩
    have : h.set r (.own (sortedRow cs off 0 [])) = h := by
      rw [show sortedRow cs off 0 [] = cs by simp [sortedRow]]
      exact set_same hr
    rw [this]
    exact R
  · have ha : a = ⟨p'.b, off, none⟩ := by rw [hc4 (by omega), q1, Nat.zero_add]
    subst ha
    let ix : Nat → Nat := fun i => if i < len then i else 0
    have hix : ∀ i, ix i < len := fun i => by simp only [ix]; split <;> omega
    have hixe : ∀ i, i < len → ix i = i := fun i hi => by simp only [ix, if_pos hi]
    let enc : Nat → Value := fun i => cur.getD (off + ix i) default
    let cf : Nat → Nat → Int := fun i j => cmpL (Ls.getD (ix i) []) (Ls.getD (ix j) [])
    have cell : ∀ i, ∃ x l, cs[off + ix i]? = some x ∧ Ls[ix i]? = some l ∧ cur[off + ix i]? = some (enc i) ∧ rep0 φ x (enc i) ∧ Ints (h.set r .gone) x l ∧ Ls.getD (ix i) [] = l := fun i => by
      have := hix i
      have hx : cs[off + ix i]? = some cs[off + ix i] := List.getElem?_eq_getElem (by omega)
      have hll : Ls[ix i]? = some Ls[ix i] := List.getElem?_eq_getElem (by omega)
      obtain ⟨v, e1, e2⟩ := q6 _ _ hx
      have hv : enc i = v := by simp only [enc, Array.getD_eq_getD_getElem?, e1]; rfl
      exact ⟨_, _, hx, hll, by rw [hv]; exact e1, by rw [hv]; exact e2, hi _ _ _ this hx hll, by simp [List.getD, hll]⟩
    have h1 : OneCell enc := fun i => by
      obtain ⟨x, l, _, _, _, g4, g5, _⟩ := cell i
      exact g5.cell1 g4
    have hOc : SWO (ltOf cf) := ⟨fun x => hO.irrefl _, fun x y z => hO.trans _ _ _, fun x y z => hO.ntrans _ _ _⟩
    have hH : Go.Sort.Holds enc w p'.b off (Array.range len) := fun j hj => by
      have hj' : j < len := by simpa using hj
      obtain ⟨x, l, g1, g2, g3, g4, g5, g6⟩ := cell j
      rw [getD_range len j hj']
      rw [hixe j hj'] at g3
      exact ⟨by rw [cell_of_row w p'.b (off + j) cur e (0, 0) q4]; exact g3, by simp [World.frozen?, q4]⟩
    have hblk : p'.b < w.heap.size := (Array.getElem?_eq_some_iff.1 q4).1
    have hcmp : CmpLays1 P CR #[] enc cf p'.b off (Array.range len).size w := by
      intro m os dk hdk x y
      have hW := sortWorld_heap enc w p'.b off m dk os
      have RW := (R.beside hr hp hW.1 hW.2).frozen
      obtain ⟨cx, lx, x1, x2, x3, x4, x5, x6⟩ := cell x
      obtain ⟨cy, ly, y1, y2, y3, y4, y5, y6⟩ := cell y
      have hcall := (hc (ix x) (ix y) cx cy lx ly (hix x) (hix y) x1 y1 x2 y2).out _ φ _ #[enc x, enc y] RW ⟨x4, y4, trivial⟩
      refine hcall.mono ?_
      rintro e' w' ⟨v, z, h', φ', rfl, rfl, _, _, g4, g5⟩
      obtain ⟨q, os', hq⟩ := g5.grows
      have hv := rep0_pl g4
      refine ⟨?_, q, os', hq⟩
      rw [hv]
      show _ = Ending.returned (.int .i64 (cmpL (Ls.getD (ix x) []) (Ls.getD (ix y) [])))
      rw [x6, y6]
    have hmain := Any.slices_SortFunc L enc h1 cf hOc CR #[] p'.b off cap (Array.range len) w eg hcmp hH hblk (by simpa using hlen)
    rw [Array.size_range] at hmain
    refine hmain.mono ?_
    rintro e' w' ⟨rfl, d', n, os, hperm, hsort, rfl⟩
    obtain ⟨hsz, _, hpm⟩ := hperm
    rw [Array.size_range] at hsz
    have hpm2 : d'.toList.Perm (List.range len) := by
      have e1 : d'.extract 0 len = d' := by rw [← hsz]; exact Array.extract_size
      have e2 : (Array.range len).extract 0 len = Array.range len := by
        have := Array.extract_size (xs := Array.range len)
        rwa [Array.size_range] at this
      rw [e1, e2] at hpm
      simpa using hpm
    have hlt : ∀ i ∈ d'.toList, i < len := fun i hi => by simpa using hpm2.mem_iff.1 hi
    have hdl : d'.toList.length = len := by simpa using hsz
    have hget : ∀ i, i < len → ∃ x, d'.toList[i]? = some x ∧ d'[i]! = x ∧ x < len := fun i hi => by
      have hi' : i < d'.size := by omega
      refine ⟨d'[i], by simp [hi'], by simp [hi'], ?_⟩
      exact hlt _ (by simp)
    refine ⟨_, .tup [], _, φ, rfl, ⟨rfl, d'.toList, hpm2, ?_, rfl⟩, Sub.refl _, ?_, ⟨#[], rfl, trivial⟩, ?_⟩
    · rw [List.pairwise_iff_getElem]
      intro i j hi hj hij
      have hs := hsort i j (Nat.zero_le _) hij (by omega)
      have hi' : i < d'.size := by simpa using hi
      have hj' : j < d'.size := by simpa using hj
      have ei : d'[i]! = d'[i] := by simp [hi']
      have ej : d'[j]! = d'[j] := by simp [hj']
      rw [ei, ej] at hs
      have li : d'[i] < len := hlt _ (by simp)
      have lj : d'[j] < len := hlt _ (by simp)
      simp only [ltOf, cf, hixe _ li, hixe _ lj, decide_eq_false_iff_not] at hs
      simpa using hs
    · let cur' := putCells enc off d' cur
      have w1 : Rep B0 φ (h.set r (.own (sortedRow cs off len d'.toList))) (putRow enc (Go.Sort.ahead w n) p'.b off d') := by
        refine R.rewrite (w' := putRow enc (Go.Sort.ahead w n) p'.b off d') (cur := cur') (e := e) hr hp ?_ ?_ ?_ ?_ ?_ ?_
        · simp [putRow, mapBlock, Go.Sort.ahead]
        · intro k hk
          simp [putRow, mapBlock, Go.Sort.ahead, Array.getElem?_modify, Ne.symm hk]
        · simp [putRow, mapBlock, Go.Sort.ahead, Array.getElem?_modify, q4, onCells, cur']
        · simp [cur', putCells, q5]
        · simp only [sortedRow, List.length_append, List.length_take, List.length_map, List.length_drop, hdl]
          omega
        · intro k c hk
          have hcur : ∀ k, cur'[k]? = (cur[k]?).map fun x => if off ≤ k ∧ k < off + d'.size then enc d'[k - off]! else x := fun k => by
            simp [cur', putCells, Array.getElem?_mapIdx]
          rw [hcur]
          simp only [sortedRow] at hk
          by_cases k1 : k < off
          · rw [List.append_assoc, List.getElem?_append_left (by simp; omega), List.getElem?_take_of_lt k1] at hk
            obtain ⟨v, e1, e2⟩ := q6 k c hk
            exact ⟨v, by rw [e1]; simp; omega, e2⟩
          · by_cases k2 : k < off + len
            · rw [List.append_assoc, List.getElem?_append_right (by simp; omega), List.getElem?_append_left (by simp [hdl]; omega)] at hk
              have htl : (cs.take off).length = off := by simp; omega
              rw [htl] at hk
              obtain ⟨x, g1, g2, g3⟩ := hget (k - off) (by omega)
              rw [List.getElem?_map, g1] at hk
              obtain ⟨cx, lx, x1, x2, x3, x4, x5, x6⟩ := cell x
              rw [hixe x g3] at x1
              simp only [Option.map_some, Option.some.injEq, List.getD, x1, Option.getD_some] at hk
              subst hk
              have hkc : k < cur.size := by omega
              refine ⟨enc x, ?_, x4⟩
              rw [Array.getElem?_eq_getElem hkc, Option.map_some, if_pos ⟨by omega, by omega⟩, g2]
            · rw [List.getElem?_append_right (by simp [hdl]; omega)] at hk
              have htl : (cs.take off ++ d'.toList.map (fun i => cs.getD (off + i) (ci 0))).length = off + len := by simp [hdl]; omega
              rw [htl, List.getElem?_drop] at hk
              have hk' : cs[k]? = some c := by
                rw [← hk]
                congr 1
                omega
              obtain ⟨v, e1, e2⟩ := q6 k c hk'
              exact ⟨v, by rw [e1]; simp; omega, e2⟩
      exact w1.still (by unfold sortWorld; rw [size_grow]; omega) (fun k hk => by unfold sortWorld; exact heap_grow_old _ _ hk)
    · have hW := sortWorld_heap enc w p'.b off n d' os
      exact ⟨⟨rfl, rfl, rfl, hW.1, fun k hk => hW.2 k (by omega) (by have := R.base; omega)⟩, fun _ => by show w.drawn ≤ w.drawn + n; omega⟩

end Go.Proofs.YtgliajcgcbnemaaGreatDoor.Hx

namespace Go.Proofs.YtgliajcgcbnemaaGreatDoor.Hx
open Go.RowKit
variable {dm : Bool}

def cmp1 (x y : Int) : Int := if x < y then -1 else if y < x then 1 else 0

def orOf : List Int → Int
  | [] => 0
  | a :: t => if a = 0 then orOf t else a

theorem orOf_at : ∀ (l : List Int) (i : Nat), i < l.length → (∀ k, k < i → l.getD k 0 = 0) → l.getD i 0 ≠ 0 → orOf l = l.getD i 0
  | [], _, h, _, _ => by simp at h
  | a :: t, 0, _, _, h => by
    have : a ≠ 0 := by simpa using h
    simp [orOf, this]
  | a :: t, i + 1, h, hb, hn => by
    have h0 : a = 0 := by simpa using hb 0 (by omega)
    have := orOf_at t i (by simpa using h) (fun k hk => by simpa using hb (k + 1) (by omega)) (by simpa using hn)
    simp only [orOf, if_pos h0]
    rw [this]
    simp

theorem orOf_none : ∀ (l : List Int), (∀ k, k < l.length → l.getD k 0 = 0) → orOf l = 0
  | [], _ => rfl
  | a :: t, h => by
    have h0 : a = 0 := by simpa using h 0 (by simp)
    simp only [orOf, if_pos h0]
    exact orOf_none t fun k hk => by simpa using h (k + 1) (by simpa using hk)

theorem lexC_drop {a b : List Int} {i : Nat} (ha : i < a.length) (hb : i < b.length) :
    lexC (a.drop i) (b.drop i) = if a.getD i 0 < b.getD i 0 then -1 else if b.getD i 0 < a.getD i 0 then 1 else lexC (a.drop (i + 1)) (b.drop (i + 1)) := by
  rw [List.drop_eq_getElem_cons ha, List.drop_eq_getElem_cons hb]
  simp [lexC, List.getD, ha, hb]

theorem lexC_end {a b : List Int} {i : Nat} (ha : a.length ≤ i) : lexC (a.drop i) (b.drop i) = if i < b.length then -1 else 0 := by
  rw [List.drop_eq_nil_of_le ha]
  by_cases hb : i < b.length
  · rw [List.drop_eq_getElem_cons hb, if_pos hb]
    rfl
  · rw [List.drop_eq_nil_of_le (by omega), if_neg hb]
    rfl

theorem lexC_over {a b : List Int} {i : Nat} (ha : i < a.length) (hb : b.length ≤ i) : lexC (a.drop i) (b.drop i) = 1 := by
  rw [List.drop_eq_nil_of_le hb, List.drop_eq_getElem_cons ha]
  rfl

theorem drop_at {L : List (List Int)} {i : Nat} (hi : i < L.length) : L.drop i = L.getD i [] :: L.drop (i + 1) := by
  rw [List.drop_eq_getElem_cons hi]
  simp [List.getD, hi]

theorem lib_isNaN (h : Heap) (n : Int) : HCalls dm Tryz.prog 209 [I n] h (fun r h' => r = B false ∧ h' = h) := by
  refine calls_of_hFun (m := 0) kd_ok mixed Tryz.func209 rfl (by kernel_rfl) rfl rfl (of_decide_eq_true rfl) ?_; unfold hFun; (conv => whnf)
  exact ⟨bEq (by simp), rfl⟩

theorem lib_cmp (h : Heap) (x y : Int) : HCalls dm Tryz.prog 153 [I x, I y] h (fun r h' => r = I (cmp1 x y) ∧ h' = h) := by
  refine calls_of_hFun (m := 0) kd_ok mixed Tryz.func153 rfl (by kernel_rfl) rfl rfl (of_decide_eq_true rfl) ?_; unfold hFun; (conv => whnf)
  refine (lib_isNaN _ _).mono ?_
  rintro r h1 ⟨rfl, rfl⟩
  (conv => whnf)
  refine (lib_isNaN _ _).mono ?_
  rintro r h1 ⟨rfl, rfl⟩
  (conv => whnf)
  (repeat (first | (refine ⟨rfl, Ints.len (by assumption) ?_⟩; conv => whnf) | (refine ⟨rfl, Rows.len (by assumption) ?_⟩; conv => whnf) | (refine ⟨rfl, HLen.sl ?_⟩; conv => whnf) | (refine ⟨rfl, At.load (by assumption) ?_⟩; conv => whnf) | (refine HIf.yes ?_; conv => whnf) | (refine HIf.no ?_; conv => whnf) | (refine HIf.isT (by assumption) ?_; conv => whnf) | (refine HIf.isF (by assumption) ?_; conv => whnf) | (refine HIf.decT (by assumption) ?_; conv => whnf) | (refine HIf.decF (by assumption) ?_; conv => whnf) | (refine HIf.beqT (by assumption) ?_; conv => whnf) | (refine HIf.beqF (by assumption) ?_; conv => whnf) | (refine HIf.bneT (by assumption) ?_; conv => whnf) | (refine HIf.bneF (by assumption) ?_; conv => whnf) | (refine ⟨rfl, Ints.idxN (by assumption) (by omega) (fun p hp => ?_)⟩; conv => whnf) | (refine ⟨rfl, Rows.idxN (by assumption) (by omega) (fun p y hp hy => ?_)⟩; conv => whnf) | (refine And.intro (show Kd.isBool _ = true from rfl) ?_; conv => whnf) | (refine ⟨rfl, Ints.idx (by assumption) (by omega) (by omega) (fun p hp => ?_)⟩; conv => whnf) | (refine ⟨rfl, Rows.idx (by assumption) (by omega) (by omega) (fun p y hp hy => ?_)⟩; conv => whnf) | (refine HArith.fits (by omega) (by omega) ?_; conv => whnf) | (refine Or.inl (And.intro (show Region.lexB _ _ = true by kernel_rfl) ?_); conv => whnf)))
  refine HIf.dec (fun h1 => ?_) (fun h1 => ?_)
  · (conv => whnf)
    exact ⟨iEq' (by rw [cmp1, if_pos h1]), rfl⟩
  · (conv => whnf)
    refine HIf.dec (fun h2 => ?_) (fun h2 => ?_)
    · (conv => whnf)
      exact ⟨iEq' (by rw [cmp1, if_neg h1, if_pos h2]), rfl⟩
    · (conv => whnf)
      exact ⟨iEq' (by rw [cmp1, if_neg h1, if_neg h2]), rfl⟩

theorem lib_Or (h : Heap) (x : H0) (l : List Int) (hx : Ints h x l) (hl : l.length ≤ 1048576) : HCalls dm Tryz.prog 152 [.s x] h (fun r h' => r = I (orOf l) ∧ h' = h) := by
  refine calls_of_hFun (m := 0) kd_ok mixed Tryz.func152 rfl (by kernel_rfl) rfl rfl (of_decide_eq_true rfl) ?_; unfold hFun; (conv => whnf)
  refine ⟨rfl, hx.len ?_⟩
  (conv => whnf)
  refine HLoop.intro [8] [9, 10, 11, 5, 12, 13, 14, 15, 2, 16, 8] (by kernel_rfl) (by kernel_rfl) (fun vs h' => ∃ i : Nat, vs = [I i] ∧ h' = h ∧ i ≤ l.length ∧ ∀ k, k < i → l.getD k 0 = 0) (fun vs _ => l.length - natAt vs 0) ⟨0, rfl, rfl, by omega, fun k hk => by omega⟩ ?_
  rintro vs h' ⟨i, rfl, hh, hi, hb⟩
  subst h'
  (conv => whnf)
  refine HIf.dec (fun hlt => ?_) (fun hge => ?_)
  · (conv => whnf)
    refine ⟨rfl, Ints.idxN hx (by omega) (fun p hp => ?_)⟩
    (conv => whnf)
    refine ⟨rfl, hp.load ?_⟩
    (conv => whnf)
    refine HIf.bne (fun hne => ?_) (fun he => ?_)
    · (conv => whnf)
      exact ⟨iEq' (by rw [orOf_at l i (by omega) hb hne]), rfl⟩
    · (conv => whnf)
      refine HArith.fits (by omega) (by omega) ?_
      (conv => whnf)
      exact ⟨⟨i + 1, rfl, rfl, by omega, fun k hk => by
        by_cases e : k = i
        · rw [e]; exact he
        · exact hb k (by omega)⟩, by show l.length - (i + 1) < l.length - i; omega⟩
  · have e : i = l.length := by omega
    subst e
    (conv => whnf)
    exact ⟨iEq' (by rw [orOf_none l hb]), rfl⟩

theorem lib_sCompare (h : Heap) (x y : H0) (a b : List Int) (hx : Ints h x a) (hy : Ints h y b) (hal : a.length ≤ 1048576) : HCalls dm Tryz.prog 155 [.s x, .s y] h (fun r h' => r = I (lexC a b) ∧ h' = h) := by
  refine calls_of_hFun (m := 0) kd_ok mixed Tryz.func155 rfl (by kernel_rfl) rfl rfl (of_decide_eq_true rfl) ?_; unfold hFun; (conv => whnf)
  refine ⟨rfl, hx.len ?_⟩
  (conv => whnf)
  refine HLoop.intro [11] [12, 13, 14, 15, 5, 6, 16, 17, 18, 19, 4, 20, 21, 22, 23, 7, 24, 25, 26, 8, 27, 28, 29, 4, 30, 11] (by kernel_rfl) (by kernel_rfl) (fun vs h' => ∃ i : Nat, vs = [I i] ∧ h' = h ∧ i ≤ a.length ∧ i ≤ b.length ∧ lexC a b = lexC (a.drop i) (b.drop i)) (fun vs _ => a.length - natAt vs 0) ⟨0, rfl, rfl, by omega, by omega, rfl⟩ ?_
  rintro vs h' ⟨i, rfl, hh, hi, hib, hb⟩
  subst h'
  (conv => whnf)
  refine HIf.dec (fun hlt => ?_) (fun hge => ?_)
  · (conv => whnf)
    refine ⟨rfl, Ints.idxN hx (by omega) (fun p hp => ?_)⟩
    (conv => whnf)
    refine ⟨rfl, hp.load ?_⟩
    (conv => whnf)
    refine ⟨rfl, hy.len ?_⟩
    (conv => whnf)
    refine HIf.dec (fun hov => ?_) (fun hin => ?_)
    · (conv => whnf)
      exact ⟨iEq' (by rw [hb, lexC_over (by omega) (by omega)]), rfl⟩
    · have hd := lexC_drop (a := a) (b := b) (i := i) (by omega) (by omega)
      (conv => whnf)
      refine ⟨rfl, Ints.idxN hy (by omega) (fun p2 hp2 => ?_)⟩
      (conv => whnf)
      refine ⟨rfl, hp2.load ?_⟩
      (conv => whnf)
      refine (lib_cmp _ _ _).mono ?_
      rintro r h1 ⟨rfl, rfl⟩
      (conv => whnf)
      refine HIf.bne (fun hne => ?_) (fun he => ?_)
      · have : lexC a b = cmp1 (a.getD i 0) (b.getD i 0) := by
          rw [hb, hd]
          unfold cmp1 at hne ⊢
          by_cases h1 : a.getD i 0 < b.getD i 0
          · rw [if_pos h1, if_pos h1]
          · by_cases h2 : b.getD i 0 < a.getD i 0
            · rw [if_neg h1, if_neg h1, if_pos h2, if_pos h2]
            · rw [if_neg h1, if_neg h2] at hne; omega
        (conv => whnf)
        exact ⟨iEq' (by rw [this]), rfl⟩
      · have h3 : lexC a b = lexC (a.drop (i + 1)) (b.drop (i + 1)) := by
          rw [hb, hd]
          unfold cmp1 at he
          by_cases h1 : a.getD i 0 < b.getD i 0
          · rw [if_pos h1] at he; omega
          · by_cases h2 : b.getD i 0 < a.getD i 0
            · rw [if_neg h1, if_pos h2] at he; omega
            · rw [if_neg h1, if_neg h2]
        (conv => whnf)
        refine HArith.fits (by omega) (by omega) ?_
        (conv => whnf)
        exact ⟨⟨i + 1, rfl, rfl, by omega, by omega, h3⟩, by show a.length - (i + 1) < a.length - i; omega⟩
  · have e : i = a.length := by omega
    have he := lexC_end (a := a) (b := b) (i := i) (by omega)
    (conv => whnf)
    refine ⟨rfl, hx.len ?_⟩
    (conv => whnf)
    refine ⟨rfl, hy.len ?_⟩
    (conv => whnf)
    refine HIf.dec (fun h1 => ?_) (fun h1 => ?_)
    · (conv => whnf)
      exact ⟨iEq' (by rw [hb, he, if_pos (by omega)]), rfl⟩
    · (conv => whnf)
      exact ⟨iEq' (by rw [hb, he, if_neg (by omega)]), rfl⟩

end Go.Proofs.YtgliajcgcbnemaaGreatDoor.Hx

namespace Go.Proofs.YtgliajcgcbnemaaGreatDoor.Hx
open Go.RowKit
variable {dm : Bool}

end Go.Proofs.YtgliajcgcbnemaaGreatDoor.Hx

namespace Go.Proofs.YtgliajcgcbnemaaGreatDoor.Hx
open Go.RowKit
variable {dm : Bool}

/-- The places below k at which a braid move can be made. -/
def brTo (c : List (List Int)) (w : List Int) (k : Nat) : List Int := ((List.range k).filter fun t => brOk c w (t : Nat)).map fun (t : Nat) => (t : Int)
/-- Braid moves at told places, one after the other; nothing where one cannot be made. -/
def braids (c : List (List Int)) : List Int → List Int → Option (List Int)
  | x, [] => some x
  | x, n :: l => if brOk c x n then braids c (braid c x n) l else none
def apOk (c : List (List Int)) (w l : List Int) : Bool := isWord c w && (braids c w l).isSome
def apW (c : List (List Int)) (w l : List Int) : List Int := (braids c w l).getD w
end Go.Proofs.YtgliajcgcbnemaaGreatDoor.Hx

namespace Go.Proofs.YtgliajcgcbnemaaGreatDoor.Hx
open Go.RowKit
variable {dm : Bool}

end Go.Proofs.YtgliajcgcbnemaaGreatDoor.Hx
