/-
  slices.SortFunc over a slice of slices of ints, for the calculus of rows: the library's contract (cells sorted by a comparing function) led over to heaps of rows.
  Contracts: cmp.Compare, cmp.Or, slices.Compare, the order of roots of the program and of the reference, and the reference's insertion of a root in its place.
  Contracts of braid moves, of the program.
  Contract of braid moves, of the reference; of the places of braid moves and of braid moves one after the other, of both.
-/
import Derived.Test.YtjgnnjegaedinaaZ20
import Derived.Shelf.SlSortCmp.NoneTotal
namespace Go.Proofs.Ytjgnnjegaedinaa.Hx
open Go.RowKit
variable {dm : Bool}

/-- A later world with all old blocks as they were: so many draws, some blocks more. -/
theorem Lat.grows {w w' : World} (b : Lat true w.heap.size w w') : ∃ q os, w' = Go.Sort.grow (w.drewN q) os := by
  refine ⟨w'.drawn - w.drawn, w'.heap.extract w.heap.size w'.heap.size, ?_⟩
  obtain ⟨⟨b1, b2, b3, b4, b5⟩, b60⟩ := b
  have b6 := b60 rfl
  clear b60
  obtain ⟨hp, tp, dr, os, out⟩ := w
  obtain ⟨hp', tp', dr', os', out'⟩ := w'
  simp only at b1 b2 b3 b4 b5 b6
  subst b1 b2 b3
  have hd : dr + (dr' - dr) = dr' := by omega
  have hh : hp' = hp ++ hp'.extract hp.size hp'.size := by
    apply Array.ext_getElem?
    intro k
    rw [Array.getElem?_append]
    by_cases hk : k < hp.size
    · rw [if_pos hk]
      exact b5 k hk
    · rw [if_neg hk, Array.getElem?_extract]
      by_cases h2 : k < hp'.size
      · rw [if_pos (by omega)]
        congr 1
        omega
      · rw [if_neg (by omega)]
        exact Array.getElem?_eq_none (by omega)
  simp only [Go.Sort.grow, World.drewN, hd]
  rw [← hh]

/-- A world that differs from w in one row's block alone bears the heap without that row. -/
theorem Rep.beside {B0 : Nat} {φ : Plan} {h : Heap} {w w' : World} (R : Rep B0 φ h w) {r : Nat} {cs : List H0} {p : Place} (hr : h[r]? = some (.own cs)) (hp : φ[r]? = some p)
    (hs : w.heap.size ≤ w'.heap.size) (hb : ∀ k, k ≠ p.b → k < w.heap.size → w'.heap[k]? = w.heap[k]?) : Rep B0 φ (h.set r .gone) w' := by
  obtain ⟨q1, q2, q3, _⟩ := R.own r cs p hr hp
  have D := R.drop r
  have other : ∀ (q : Nat) (ys : List H0), (h.set r .gone)[q]? = some (.own ys) → q ≠ r ∧ h[q]? = some (.own ys) := fun q ys hq => by
    by_cases e : q = r
    · subst e
      rw [List.getElem?_set_self (List.getElem?_eq_some_iff.1 hr).1] at hq
      cases hq
    · rw [List.getElem?_set_ne (Ne.symm e)] at hq
      exact ⟨e, hq⟩
  refine ⟨D.len, Nat.le_trans D.base hs, fun q xs pq h1 h2 => ?_, fun q xs pq h1 h2 => ?_, D.apart, fun q so ks pq h1 h2 => ?_, D.apartK, D.tab.keep fun k hk => hb k (by omega) (Nat.lt_of_lt_of_le hk D.base)⟩
  · obtain ⟨g1, g2⟩ := D.ro q xs pq h1 h2
    refine ⟨g1, fun k c hk => ?_⟩
    obtain ⟨v, e1, e2⟩ := g2 k c hk
    exact ⟨v, by rw [World.cell?_of_block (w := w) (hb _ (by show pq.b ≠ p.b; omega) (Nat.lt_of_lt_of_le g1 D.base))]; exact e1, e2⟩
  · obtain ⟨g1, g2, g3, cur, e, g4, g5⟩ := D.own q xs pq h1 h2
    obtain ⟨n1, n2⟩ := other q xs h1
    exact ⟨g1, g2, g3, cur, e, by rw [hb _ (R.apart q r xs cs pq p n1 n2 hr h2 hp) (Array.getElem?_eq_some_iff.1 g4).1]; exact g4, g5⟩
  · obtain ⟨g1, ents, clk, g4, g5⟩ := D.keys q so ks pq h1 h2
    have hq : h[q]? = some (.keys so ks) := by
      by_cases e : r = q
      · subst e
        rw [List.getElem?_set_self (List.getElem?_eq_some_iff.1 hr).1] at h1
        cases h1
      · rw [List.getElem?_set_ne e] at h1
        exact h1
    exact ⟨g1, ents, clk, by rw [hb _ (R.apartM hr hq hp h2) (Array.getElem?_eq_some_iff.1 g4).1]; exact g4, g5⟩

open Go.Sort in
theorem sortWorld_heap {α : Type} [Inhabited α] (enc : α → Value) (w : World) (blk off m : Nat) (dk : Array α) (os : Array Obj) :
    w.heap.size ≤ (Go.Proofs.sortWorld enc w blk off m dk os).heap.size ∧ ∀ k, k ≠ blk → k < w.heap.size → (Go.Proofs.sortWorld enc w blk off m dk os).heap[k]? = w.heap[k]? := by
  unfold Go.Proofs.sortWorld
  have hz : (putRow enc (Go.Sort.ahead w m) blk off dk).heap.size = w.heap.size := by simp [putRow, mapBlock, Go.Sort.ahead]
  refine ⟨by rw [size_grow, hz]; omega, fun k hk hl => ?_⟩
  rw [heap_grow_old _ _ (by rw [hz]; exact hl)]
  simp [putRow, mapBlock, Go.Sort.ahead, Array.getElem?_modify, Ne.symm hk]

theorem getD_range (n : Nat) (j : Nat) (hj : j < n) : (Array.range n)[j]! = j := by simp [hj]

theorem Ints.cell1 {h : Heap} {x : H0} {l : List Int} (H : Ints h x l) {φ : Plan} {v : Value} (k : rep0 φ x v) : v.oneCell' = true := by
  have main : ∀ (y : HV) (l : List H0), Shows h y l → y = .s x → v.oneCell' = true := by
    intro y l S e
    cases S with
    | nils a c =>
      cases e
      have : v = .slice a 0 c := k
      rw [this]; rfl
    | ro r off len cs hr hl => cases e; obtain ⟨p, a, cap, _, e, _⟩ := k; rw [e]; rfl
    | own r off len cs hr hl => cases e; obtain ⟨p, a, cap, _, e, _⟩ := k; rw [e]; rfl
  exact main _ _ H rfl

/-- What the sort leaves in the row. -/
def sortedRow (cs : List H0) (off len : Nat) (σ : List Nat) : List H0 := cs.take off ++ σ.map (fun i => cs.getD (off + i) (ci 0)) ++ cs.drop (off + len)

open Go.Sort Go.Shelf in
set_option maxHeartbeats 1000000 in
/-- slices.SortFunc over a row of slices. -/
theorem sort_calls {P : Program} {ρ : Ren} (L : SlLaysF.n6 P ρ) {CR : FuncId} (eg : ∀ args w, (callFunc CR args).run P w = .ok (.enter CR args) w) (cmpL : List Int → List Int → Int) (hO : SWO (ltOf cmpL))
    {h : Heap} {r off len : Nat} {cs : List H0} {Ls : List (List Int)} (hr : h[r]? = some (.own cs)) (hl : off + len ≤ cs.length) (hn : Ls.length = len) (hlen : len < 4611686018427387904)
    (hi : ∀ (i : Nat) (x : H0) (l : List Int), i < len → cs[off + i]? = some x → Ls[i]? = some l → Ints (h.set r .gone) x l)
    (hc : ∀ (i j : Nat) (x y : H0) (a b : List Int), i < len → j < len → cs[off + i]? = some x → cs[off + j]? = some y → Ls[i]? = some a → Ls[j]? = some b →
      HCalls true P CR [.s x, .s y] (freeze (h.set r .gone)) (fun z _ => z = I (cmpL a b))) :
    HCalls dm P (ρ.f 6) [.s (.sl r off len), .fn CR []] h (fun z h' => z = .tup [] ∧ ∃ σ : List Nat, σ.Perm (List.range len) ∧ σ.Pairwise (fun i j => ¬ cmpL (Ls.getD j []) (Ls.getD i []) < 0) ∧ h' = h.set r (.own (sortedRow cs off len σ))) := by
  refine ⟨L.f6.enters rfl, fun B0 φ w vargs R ha => ?_⟩
  obtain ⟨p, hp⟩ := R.place hr
  obtain ⟨q1, q2, q3, cur, e, q4, q5, q6⟩ := R.own r cs p hr hp
  have hvs : ∃ u v, vargs = #[u, v] ∧ rep0 φ (.sl r off len) u ∧ repV φ (.fn CR []) v := by
    rcases vargs with ⟨vs⟩
    match vs, ha with
    | [u, v], hh => exact ⟨u, v, rfl, hh.1, hh.2.1⟩
  obtain ⟨u, v, rfl, hu, hv⟩ := hvs
  obtain ⟨p', a, cap, hp', rfl, hc1, hc2, hc3, hc4⟩ := hu
  obtain rfl : p' = p := Option.some.inj (hp'.symm.trans hp)
  obtain ⟨vs, rfl, hvs⟩ := hv
  obtain rfl : vs = #[] := by
    rcases vs with ⟨vl⟩
    match vl, hvs with
    | [], _ => rfl
  by_cases h0 : len = 0
  · subst h0
    refine (AnyF.slices_SortFunc_none { L with } (some a) cap _ w).mono ?_
    rintro e' w' ⟨rfl, rfl⟩
    refine ⟨_, .tup [], _, φ, rfl, ⟨rfl, [], by simp, List.Pairwise.nil, rfl⟩, Sub.refl _, ?_, ⟨#[], rfl, trivial⟩, Lat.refl _ _⟩
    have : h.set r (.own (sortedRow cs off 0 [])) = h := by
      rw [show sortedRow cs off 0 [] = cs by simp [sortedRow]]
      exact set_same hr
    rw [this]
    exact R
  · have ha : a = ⟨p'.b, off, none⟩ := by rw [hc4 (by omega), q1, Nat.zero_add]
    subst ha
    let ix : Nat → Nat := fun i => if i < len then i else 0
    have hix : ∀ i, ix i < len := fun i => by simp only [ix]; split <;> omega
    have hixe : ∀ i, i < len → ix i = i := fun i hi => by simp only [ix, if_pos hi]
    let enc : Nat → Value := fun i => cur.getD (off + ix i) default
    let cf : Nat → Nat → Int := fun i j => cmpL (Ls.getD (ix i) []) (Ls.getD (ix j) [])
    have cell : ∀ i, ∃ x l, cs[off + ix i]? = some x ∧ Ls[ix i]? = some l ∧ cur[off + ix i]? = some (enc i) ∧ rep0 φ x (enc i) ∧ Ints (h.set r .gone) x l ∧ Ls.getD (ix i) [] = l := fun i => by
      have := hix i
      have hx : cs[off + ix i]? = some cs[off + ix i] := List.getElem?_eq_getElem (by omega)
      have hll : Ls[ix i]? = some Ls[ix i] := List.getElem?_eq_getElem (by omega)
      obtain ⟨v, e1, e2⟩ := q6 _ _ hx
      have hv : enc i = v := by simp only [enc, Array.getD_eq_getD_getElem?, e1]; rfl
      exact ⟨_, _, hx, hll, by rw [hv]; exact e1, by rw [hv]; exact e2, hi _ _ _ this hx hll, by simp [List.getD, hll]⟩
    have h1 : OneCell enc := fun i => by
      obtain ⟨x, l, _, _, _, g4, g5, _⟩ := cell i
      exact g5.cell1 g4
    have hOc : SWO (ltOf cf) := ⟨fun x => hO.irrefl _, fun x y z => hO.trans _ _ _, fun x y z => hO.ntrans _ _ _⟩
    have hH : Go.Sort.Holds enc w p'.b off (Array.range len) := fun j hj => by
      have hj' : j < len := by simpa using hj
      obtain ⟨x, l, g1, g2, g3, g4, g5, g6⟩ := cell j
      rw [getD_range len j hj']
      rw [hixe j hj'] at g3
      exact ⟨by rw [cell_of_row w p'.b (off + j) cur e (0, 0) q4]; exact g3, by simp [World.frozen?, q4]⟩
    have hblk : p'.b < w.heap.size := (Array.getElem?_eq_some_iff.1 q4).1
    have hcmp : CmpLays1 P CR #[] enc cf p'.b off (Array.range len).size w := by
      intro m os dk hdk x y
      have hW := sortWorld_heap enc w p'.b off m dk os
      have RW := (R.beside hr hp hW.1 hW.2).frozen
      obtain ⟨cx, lx, x1, x2, x3, x4, x5, x6⟩ := cell x
      obtain ⟨cy, ly, y1, y2, y3, y4, y5, y6⟩ := cell y
      have hcall := (hc (ix x) (ix y) cx cy lx ly (hix x) (hix y) x1 y1 x2 y2).out _ φ _ #[enc x, enc y] RW ⟨x4, y4, trivial⟩
      refine hcall.mono ?_
      rintro e' w' ⟨v, z, h', φ', rfl, rfl, _, _, g4, g5⟩
      obtain ⟨q, os', hq⟩ := g5.grows
      have hv := rep0_pl g4
      refine ⟨?_, q, os', hq⟩
      rw [hv]
      show _ = Ending.returned (.int .i64 (cmpL (Ls.getD (ix x) []) (Ls.getD (ix y) [])))
      rw [x6, y6]
    have hmain := Any.slices_SortFunc L enc h1 cf hOc CR #[] p'.b off cap (Array.range len) w eg hcmp hH hblk (by simpa using hlen)
    rw [Array.size_range] at hmain
    refine hmain.mono ?_
    rintro e' w' ⟨rfl, d', n, os, hperm, hsort, rfl⟩
    obtain ⟨hsz, _, hpm⟩ := hperm
    rw [Array.size_range] at hsz
    have hpm2 : d'.toList.Perm (List.range len) := by
      have e1 : d'.extract 0 len = d' := by rw [← hsz]; exact Array.extract_size
      have e2 : (Array.range len).extract 0 len = Array.range len := by
        have := Array.extract_size (xs := Array.range len)
        rwa [Array.size_range] at this
      rw [e1, e2] at hpm
      simpa using hpm
    have hlt : ∀ i ∈ d'.toList, i < len := fun i hi => by simpa using hpm2.mem_iff.1 hi
    have hdl : d'.toList.length = len := by simpa using hsz
    have hget : ∀ i, i < len → ∃ x, d'.toList[i]? = some x ∧ d'[i]! = x ∧ x < len := fun i hi => by
      have hi' : i < d'.size := by omega
      refine ⟨d'[i], by simp [hi'], by simp [hi'], ?_⟩
      exact hlt _ (by simp)
    refine ⟨_, .tup [], _, φ, rfl, ⟨rfl, d'.toList, hpm2, ?_, rfl⟩, Sub.refl _, ?_, ⟨#[], rfl, trivial⟩, ?_⟩
    · rw [List.pairwise_iff_getElem]
      intro i j hi hj hij
      have hs := hsort i j (Nat.zero_le _) hij (by omega)
      have hi' : i < d'.size := by simpa using hi
      have hj' : j < d'.size := by simpa using hj
      have ei : d'[i]! = d'[i] := by simp [hi']
      have ej : d'[j]! = d'[j] := by simp [hj']
      rw [ei, ej] at hs
      have li : d'[i] < len := hlt _ (by simp)
      have lj : d'[j] < len := hlt _ (by simp)
      simp only [ltOf, cf, hixe _ li, hixe _ lj, decide_eq_false_iff_not] at hs
      simpa using hs
    · let cur' := putCells enc off d' cur
      have w1 : Rep B0 φ (h.set r (.own (sortedRow cs off len d'.toList))) (putRow enc (Go.Sort.ahead w n) p'.b off d') := by
        refine R.rewrite (w' := putRow enc (Go.Sort.ahead w n) p'.b off d') (cur := cur') (e := e) hr hp ?_ ?_ ?_ ?_ ?_ ?_
        · simp [putRow, mapBlock, Go.Sort.ahead]
        · intro k hk
          simp [putRow, mapBlock, Go.Sort.ahead, Array.getElem?_modify, Ne.symm hk]
        · simp [putRow, mapBlock, Go.Sort.ahead, Array.getElem?_modify, q4, onCells, cur']
        · simp [cur', putCells, q5]
        · simp only [sortedRow, List.length_append, List.length_take, List.length_map, List.length_drop, hdl]
          omega
        · intro k c hk
          have hcur : ∀ k, cur'[k]? = (cur[k]?).map fun x => if off ≤ k ∧ k < off + d'.size then enc d'[k - off]! else x := fun k => by
            simp [cur', putCells, Array.getElem?_mapIdx]
          rw [hcur]
          simp only [sortedRow] at hk
          by_cases k1 : k < off
          · rw [List.append_assoc, List.getElem?_append_left (by simp; omega), List.getElem?_take_of_lt k1] at hk
            obtain ⟨v, e1, e2⟩ := q6 k c hk
            exact ⟨v, by rw [e1]; simp; omega, e2⟩
          · by_cases k2 : k < off + len
            · rw [List.append_assoc, List.getElem?_append_right (by simp; omega), List.getElem?_append_left (by simp [hdl]; omega)] at hk
              have htl : (cs.take off).length = off := by simp; omega
              rw [htl] at hk
              obtain ⟨x, g1, g2, g3⟩ := hget (k - off) (by omega)
              rw [List.getElem?_map, g1] at hk
              obtain ⟨cx, lx, x1, x2, x3, x4, x5, x6⟩ := cell x
              rw [hixe x g3] at x1
              simp only [Option.map_some, Option.some.injEq, List.getD, x1, Option.getD_some] at hk
              subst hk
              have hkc : k < cur.size := by omega
              refine ⟨enc x, ?_, x4⟩
              rw [Array.getElem?_eq_getElem hkc, Option.map_some, if_pos ⟨by omega, by omega⟩, g2]
            · rw [List.getElem?_append_right (by simp [hdl]; omega)] at hk
              have htl : (cs.take off ++ d'.toList.map (fun i => cs.getD (off + i) (ci 0))).length = off + len := by simp [hdl]; omega
              rw [htl, List.getElem?_drop] at hk
              have hk' : cs[k]? = some c := by
                rw [← hk]
                congr 1
                omega
              obtain ⟨v, e1, e2⟩ := q6 k c hk'
              exact ⟨v, by rw [e1]; simp; omega, e2⟩
      exact w1.still (by unfold sortWorld; rw [size_grow]; omega) (fun k hk => by unfold sortWorld; exact heap_grow_old _ _ hk)
    · have hW := sortWorld_heap enc w p'.b off n d' os
      exact ⟨⟨rfl, rfl, rfl, hW.1, fun k hk => hW.2 k (by omega) (by have := R.base; omega)⟩, fun _ => by show w.drawn ≤ w.drawn + n; omega⟩

end Go.Proofs.Ytjgnnjegaedinaa.Hx

namespace Go.Proofs.Ytjgnnjegaedinaa.Hx
open Go.RowKit
variable {dm : Bool}

theorem cmpR_swo : Go.Sort.SWO (ltOf cmpR) := ⟨fun x => by
    have := cmpR_neg x x
    simp only [ltOf, decide_eq_false_iff_not]
    omega, fun x y z h k => by
    simp only [ltOf, decide_eq_true_eq] at *
    exact cmpR_trans h k, fun x y z h k => by
    simp only [ltOf, decide_eq_false_iff_not] at *
    exact cmpR_ntrans h k⟩


def cmp1 (x y : Int) : Int := if x < y then -1 else if y < x then 1 else 0

def orOf : List Int → Int
  | [] => 0
  | a :: t => if a = 0 then orOf t else a

theorem orOf_at : ∀ (l : List Int) (i : Nat), i < l.length → (∀ k, k < i → l.getD k 0 = 0) → l.getD i 0 ≠ 0 → orOf l = l.getD i 0
  | [], _, h, _, _ => by simp at h
  | a :: t, 0, _, _, h => by
    have : a ≠ 0 := by simpa using h
    simp [orOf, this]
  | a :: t, i + 1, h, hb, hn => by
    have h0 : a = 0 := by simpa using hb 0 (by omega)
    have := orOf_at t i (by simpa using h) (fun k hk => by simpa using hb (k + 1) (by omega)) (by simpa using hn)
    simp only [orOf, if_pos h0]
    rw [this]
    simp

theorem orOf_none : ∀ (l : List Int), (∀ k, k < l.length → l.getD k 0 = 0) → orOf l = 0
  | [], _ => rfl
  | a :: t, h => by
    have h0 : a = 0 := by simpa using h 0 (by simp)
    simp only [orOf, if_pos h0]
    exact orOf_none t fun k hk => by simpa using h (k + 1) (by simpa using hk)

theorem cmpR_or (a b : List Int) : orOf [cmp1 (heightOf a) (heightOf b), lexC b a] = cmpR a b := by
  unfold cmp1 cmpR
  by_cases h1 : heightOf a < heightOf b
  · simp [orOf, h1]
  · by_cases h2 : heightOf b < heightOf a
    · simp [orOf, h1, h2]
    · simp only [if_neg h1, if_neg h2, orOf, if_true]
      by_cases h3 : lexC b a = 0
      · simp [h3]
      · simp [h3]

theorem lexC_drop {a b : List Int} {i : Nat} (ha : i < a.length) (hb : i < b.length) :
    lexC (a.drop i) (b.drop i) = if a.getD i 0 < b.getD i 0 then -1 else if b.getD i 0 < a.getD i 0 then 1 else lexC (a.drop (i + 1)) (b.drop (i + 1)) := by
  rw [List.drop_eq_getElem_cons ha, List.drop_eq_getElem_cons hb]
  simp [lexC, List.getD, ha, hb]

theorem lexGt_drop {a b : List Int} {i : Nat} (ha : i < a.length) (hb : i < b.length) :
    lexGt (a.drop i) (b.drop i) = if a.getD i 0 = b.getD i 0 then lexGt (a.drop (i + 1)) (b.drop (i + 1)) else decide (b.getD i 0 < a.getD i 0) := by
  rw [List.drop_eq_getElem_cons ha, List.drop_eq_getElem_cons hb]
  simp [lexGt, List.getD, ha, hb]

theorem lexC_end {a b : List Int} {i : Nat} (ha : a.length ≤ i) : lexC (a.drop i) (b.drop i) = if i < b.length then -1 else 0 := by
  rw [List.drop_eq_nil_of_le ha]
  by_cases hb : i < b.length
  · rw [List.drop_eq_getElem_cons hb, if_pos hb]
    rfl
  · rw [List.drop_eq_nil_of_le (by omega), if_neg hb]
    rfl

theorem lexC_over {a b : List Int} {i : Nat} (ha : i < a.length) (hb : b.length ≤ i) : lexC (a.drop i) (b.drop i) = 1 := by
  rw [List.drop_eq_nil_of_le hb, List.drop_eq_getElem_cons ha]
  rfl

theorem lexGt_end {a b : List Int} {i : Nat} (h : a.length ≤ i ∨ b.length ≤ i) : lexGt (a.drop i) (b.drop i) = false := by
  rcases h with h | h
  · rw [List.drop_eq_nil_of_le h]
    rfl
  · rw [List.drop_eq_nil_of_le h]
    cases a.drop i <;> rfl

theorem putR_at {w : List Int} {L : List (List Int)} {i : Nat} (hi : i < L.length) : putR w (L.drop i) = if beforeR w (L.getD i []) then w :: L.drop i else L.getD i [] :: putR w (L.drop (i + 1)) := by
  rw [List.drop_eq_getElem_cons hi]
  simp [putR, List.getD, hi]

theorem drop_at {L : List (List Int)} {i : Nat} (hi : i < L.length) : L.drop i = L.getD i [] :: L.drop (i + 1) := by
  rw [List.drop_eq_getElem_cons hi]
  simp [List.getD, hi]

theorem putR_length (w : List Int) (L : List (List Int)) : (putR w L).length = L.length + 1 := (putR_perm w L).length_eq


end Go.Proofs.Ytjgnnjegaedinaa.Hx

namespace Go.Proofs.Ytjgnnjegaedinaa.Hx
open Go.RowKit
variable {dm : Bool}

theorem Fresh.one {h h' : Heap} {x : H0} {l : List Int} (H : Fresh h h' x l) : x.one = true := H.own.one


set_option maxHeartbeats 2000000 in
theorem impl_braided (h : Heap) (x0 : H0) (a0 : List (List Int)) (x1 : H0) (a1 : List Int) (n2 : Int) (hx0 : Rows h x0 a0) (hx1 : Ints h x1 a1) (hic : isWord a0 a1 = true) :
    HCalls dm Try.prog 47 [.s x0, .s x1, I n2] h (fun r h' => ∃ y, r = T2 y (brOk a0 a1 n2) ∧ Ext h h' ∧ (brOk a0 a1 n2 = true → Fresh h h' y (braid a0 a1 n2))) := by
  obtain ⟨hC, hl, hw⟩ := word_cartan hic
  have h4 := hC.le
  have no : ∀ {b : Bool} {P : Prop}, b = false → (b = true → P) := fun h h' => by rw [h] at h'; cases h'
  refine calls_of_hFun (m := 0) kd_ok mixed Try.func47 rfl (by kernel_rfl) rfl rfl (of_decide_eq_true rfl) ?_; unfold hFun; (conv => whnf)
  by_cases c1 : n2 < 0
  · have hb := brOk_off (c := a0) (w := a1) (Or.inr (Or.inl c1))
    rw [hb]
    refine Or.inl (And.intro (show Region.lexB _ _ = true by kernel_rfl) ?_); (conv => whnf)
    (repeat (first | (refine HArith.fits (by omega) (by omega) ?_; conv => whnf) | (refine HIf.decF (by assumption) ?_; conv => whnf) | (refine HIf.decT (by assumption) ?_; conv => whnf) | (refine HIf.beqF (by assumption) ?_; conv => whnf) | (refine HIf.beqT (by assumption) ?_; conv => whnf) | (refine HIf.yes ?_; conv => whnf) | (refine HIf.no ?_; conv => whnf) | (refine ⟨rfl, At.load (by assumption) ?_⟩; conv => whnf) | (refine ⟨rfl, Ints.len (by assumption) ?_⟩; conv => whnf)))
    exact ⟨_, rfl, Ext.refl _, no rfl⟩
  by_cases c2 : n2 ≥ (a1.length : Int) - 1
  · have hb := brOk_off (c := a0) (w := a1) (n := n2) (Or.inr (Or.inr (by omega)))
    rw [hb]
    refine Or.inl (And.intro (show Region.lexB _ _ = true by kernel_rfl) ?_); (conv => whnf)
    (repeat (first | (refine HArith.fits (by omega) (by omega) ?_; conv => whnf) | (refine HIf.decF (by assumption) ?_; conv => whnf) | (refine HIf.decT (by assumption) ?_; conv => whnf) | (refine HIf.beqF (by assumption) ?_; conv => whnf) | (refine HIf.beqT (by assumption) ?_; conv => whnf) | (refine HIf.yes ?_; conv => whnf) | (refine HIf.no ?_; conv => whnf) | (refine ⟨rfl, At.load (by assumption) ?_⟩; conv => whnf) | (refine ⟨rfl, Ints.len (by assumption) ?_⟩; conv => whnf)))
    exact ⟨_, rfl, Ext.refl _, no rfl⟩
  obtain ⟨k, rfl⟩ : ∃ k : Nat, n2 = k := ⟨n2.toNat, by omega⟩
  have hok := brOk_at (c := a0) (w := a1) (k := k) hic (by omega)
  have idx1 : ∀ {K : HV → Prop}, (∀ p, At h p (ci (a1.getD k 0)) → K (.s p)) → HIdx h (.s x1) (I k) K := fun hK => Ints.idxN hx1 (by omega) hK
  have idx2 : ∀ {K : HV → Prop}, (∀ p, At h p (ci (a1.getD (k + 1) 0)) → K (.s p)) → HIdx h (.s x1) (I ((k + 1 : Nat) : Int)) K := fun hK => Ints.idxN hx1 (by omega) hK
  have idx3 : ∀ {h2 : Heap} {K : HV → Prop}, Ext h h2 → (∀ p, At h2 p (ci (a1.getD k 0)) → K (.s p)) → HIdx h2 (.s x1) (I k) K := fun E hK => Ints.idxN (hx1.ext E) (by omega) hK
  have idx4 : ∀ {h2 : Heap} {K : HV → Prop}, Ext h h2 → (∀ p, At h2 p (ci (a1.getD (k + 1) 0)) → K (.s p)) → HIdx h2 (.s x1) (I ((k + 1 : Nat) : Int)) K := fun E hK => Ints.idxN (hx1.ext E) (by omega) hK
  have pa := letter_point hw (k := k) (by omega)
  have pb := letter_point hw (k := k + 1) (by omega)
  by_cases c3 : a1.getD k 0 = a1.getD (k + 1) 0
  · have hb := hok.trans (brN_eq c3)
    rw [hb]
    refine Or.inl (And.intro (show Region.lexB _ _ = true by kernel_rfl) ?_); (conv => whnf)
    (repeat (first | (refine HArith.to (e' := ((k + 1 : Nat) : Int)) (by omega) (by omega) (by omega) ?_; conv => whnf) | (refine HArith.fits (by omega) (by omega) ?_; conv => whnf) | (refine ⟨rfl, idx1 (fun p hp => ?_)⟩; conv => whnf) | (refine ⟨rfl, idx2 (fun p hp => ?_)⟩; conv => whnf) | (refine HIf.decF (by assumption) ?_; conv => whnf) | (refine HIf.decT (by assumption) ?_; conv => whnf) | (refine HIf.beqF (by assumption) ?_; conv => whnf) | (refine HIf.beqT (by assumption) ?_; conv => whnf) | (refine HIf.yes ?_; conv => whnf) | (refine HIf.no ?_; conv => whnf) | (refine ⟨rfl, At.load (by assumption) ?_⟩; conv => whnf) | (refine ⟨rfl, Ints.len (by assumption) ?_⟩; conv => whnf)))
    exact ⟨_, rfl, Ext.refl _, no rfl⟩
  refine Or.inl (And.intro (show Region.lexB _ _ = true by kernel_rfl) ?_); (conv => whnf)
  (repeat (first | (refine HArith.to (e' := ((k + 1 : Nat) : Int)) (by omega) (by omega) (by omega) ?_; conv => whnf) | (refine HArith.fits (by omega) (by omega) ?_; conv => whnf) | (refine ⟨rfl, idx1 (fun p hp => ?_)⟩; conv => whnf) | (refine ⟨rfl, idx2 (fun p hp => ?_)⟩; conv => whnf) | (refine HIf.decF (by assumption) ?_; conv => whnf) | (refine HIf.decT (by assumption) ?_; conv => whnf) | (refine HIf.beqF (by assumption) ?_; conv => whnf) | (refine HIf.beqT (by assumption) ?_; conv => whnf) | (refine HIf.yes ?_; conv => whnf) | (refine HIf.no ?_; conv => whnf) | (refine ⟨rfl, At.load (by assumption) ?_⟩; conv => whnf) | (refine ⟨rfl, Ints.len (by assumption) ?_⟩; conv => whnf)))
  refine Or.inl (And.intro (show Region.lexB _ _ = true by kernel_rfl) ?_); (conv => whnf)
  (repeat (first | (refine HArith.to (e' := ((k + 1 : Nat) : Int)) (by omega) (by omega) (by omega) ?_; conv => whnf) | (refine HArith.fits (by omega) (by omega) ?_; conv => whnf) | (refine ⟨rfl, idx1 (fun p hp => ?_)⟩; conv => whnf) | (refine ⟨rfl, idx2 (fun p hp => ?_)⟩; conv => whnf) | (refine HIf.decF (by assumption) ?_; conv => whnf) | (refine HIf.decT (by assumption) ?_; conv => whnf) | (refine HIf.beqF (by assumption) ?_; conv => whnf) | (refine HIf.beqT (by assumption) ?_; conv => whnf) | (refine HIf.yes ?_; conv => whnf) | (refine HIf.no ?_; conv => whnf) | (refine ⟨rfl, At.load (by assumption) ?_⟩; conv => whnf) | (refine ⟨rfl, Ints.len (by assumption) ?_⟩; conv => whnf)))
  refine HCallQ.of (.int .i64 (bond a0 (a1.getD k 0) (a1.getD (k + 1) 0))) (impl_BondOf _ _ a0 _ _ hx0.frz (by omega)) (fun x h' hR => hR.1) ?_
  have hbl := bond_le a0 (a1.getD k 0) (a1.getD (k + 1) 0)
  obtain ⟨bd, hbd⟩ : ∃ bd, bd = bond a0 (a1.getD k 0) (a1.getD (k + 1) 0) := ⟨_, rfl⟩
  rw [← hbd] at hbl
  rw [← hbd]
  (conv => whnf)
  by_cases c4 : bd < 2
  · have hb := hok.trans (brN_small (by rw [← hbd]; exact c4))
    rw [hb]
    refine Or.inr (Or.inr (Or.inl (Exists.intro 31 (Exists.intro [0, 1, 2, 3, 4, 5, 6, 7, 8, 9, 10, 11, 12, 13, 14, 15, 16, 17, 18, 19, 20, 21, 22, 23, 24, 25, 26] (Exists.intro [27, 28, 29, 30] (And.intro (show heldOk _ _ _ _ = true by kernel_rfl) ?_)))))); (conv => whnf)
    (repeat (first | (refine HArith.fits (by omega) (by omega) ?_; conv => whnf) | (refine HIf.decF (by assumption) ?_; conv => whnf) | (refine HIf.decT (by assumption) ?_; conv => whnf) | (refine HIf.beqF (by assumption) ?_; conv => whnf) | (refine HIf.beqT (by assumption) ?_; conv => whnf) | (refine HIf.yes ?_; conv => whnf) | (refine HIf.no ?_; conv => whnf) | (refine ⟨rfl, At.load (by assumption) ?_⟩; conv => whnf) | (refine ⟨rfl, Ints.len (by assumption) ?_⟩; conv => whnf)))
    exact ⟨_, rfl, Ext.refl _, no rfl⟩
  obtain ⟨m, rfl⟩ : ∃ m : Nat, bd = m := ⟨bd.toNat, by omega⟩
  by_cases c5 : ((k + m : Nat) : Int) > (a1.length : Int)
  · have hb := hok.trans (brN_long (by unfold brM; rw [← hbd]; omega))
    rw [hb]
    refine Or.inr (Or.inr (Or.inl (Exists.intro 31 (Exists.intro [0, 1, 2, 3, 4, 5, 6, 7, 8, 9, 10, 11, 12, 13, 14, 15, 16, 17, 18, 19, 20, 21, 22, 23, 24, 25, 26] (Exists.intro [27, 28, 29, 30] (And.intro (show heldOk _ _ _ _ = true by kernel_rfl) ?_)))))); (conv => whnf)
    (repeat (first | (refine HArith.to (e' := ((k + 1 : Nat) : Int)) (by omega) (by omega) (by omega) ?_; conv => whnf) | (refine HArith.to (e' := ((k + m : Nat) : Int)) (by omega) (by omega) (by omega) ?_; conv => whnf) | (refine HArith.fits (by omega) (by omega) ?_; conv => whnf) | (refine ⟨rfl, idx1 (fun p hp => ?_)⟩; conv => whnf) | (refine ⟨rfl, idx2 (fun p hp => ?_)⟩; conv => whnf) | (refine HIf.decF (by assumption) ?_; conv => whnf) | (refine HIf.decT (by assumption) ?_; conv => whnf) | (refine HIf.beqF (by assumption) ?_; conv => whnf) | (refine HIf.beqT (by assumption) ?_; conv => whnf) | (refine HIf.yes ?_; conv => whnf) | (refine HIf.no ?_; conv => whnf) | (refine ⟨rfl, At.load (by assumption) ?_⟩; conv => whnf) | (refine ⟨rfl, Ints.len (by assumption) ?_⟩; conv => whnf)))
    exact ⟨_, rfl, Ext.refl _, no rfl⟩
  obtain ⟨hm, hn⟩ := brN_of (c := a0) (w := a1) (k := k) (m := m) c3 hbd.symm (by omega) (by omega)
  rw [hn] at hok
  have ham := alt_length (i := a1.getD (k + 1) 0) (j := a1.getD k 0) (m := m) (by omega)
  have hbw : brW a0 a1 k = a1.take k ++ (alt (a1.getD (k + 1) 0) (a1.getD k 0) m ++ a1.drop (k + m)) := by rw [brW, hm]
  have hbo := fun h => braid_on (c := a0) (w := a1) (k := k) h
  rw [hbw] at hbo
  rw [hok] at hbo ⊢
  clear hn hm hbd hbw hok
  generalize a1.getD k 0 = a at *
  generalize a1.getD (k + 1) 0 = b at *
  refine Or.inr (Or.inr (Or.inl (Exists.intro 31 (Exists.intro [0, 1, 2, 3, 4, 5, 6, 7, 8, 9, 10, 11, 12, 13, 14, 15, 16, 17, 18, 19, 20, 21, 22, 23, 24, 25, 26] (Exists.intro [27, 28, 29, 30] (And.intro (show heldOk _ _ _ _ = true by kernel_rfl) ?_)))))); (conv => whnf)
  (repeat (first | (refine HArith.to (e' := ((k + 1 : Nat) : Int)) (by omega) (by omega) (by omega) ?_; conv => whnf) | (refine HArith.to (e' := ((k + m : Nat) : Int)) (by omega) (by omega) (by omega) ?_; conv => whnf) | (refine HArith.fits (by omega) (by omega) ?_; conv => whnf) | (refine ⟨rfl, idx1 (fun p hp => ?_)⟩; conv => whnf) | (refine ⟨rfl, idx2 (fun p hp => ?_)⟩; conv => whnf) | (refine HIf.decF (by assumption) ?_; conv => whnf) | (refine HIf.decT (by assumption) ?_; conv => whnf) | (refine HIf.beqF (by assumption) ?_; conv => whnf) | (refine HIf.beqT (by assumption) ?_; conv => whnf) | (refine HIf.yes ?_; conv => whnf) | (refine HIf.no ?_; conv => whnf) | (refine ⟨rfl, At.load (by assumption) ?_⟩; conv => whnf) | (refine ⟨rfl, Ints.len (by assumption) ?_⟩; conv => whnf)))
  refine ⟨rfl, Ints.slice hx1 k (k + m) (Or.inr rfl) (Or.inr rfl) (by omega) (by omega) (fun y1 hy1 => ?_)⟩
  (conv => whnf)
  (repeat (first | (refine HArith.to (e' := ((k + 1 : Nat) : Int)) (by omega) (by omega) (by omega) ?_; conv => whnf) | (refine HArith.to (e' := ((k + m : Nat) : Int)) (by omega) (by omega) (by omega) ?_; conv => whnf) | (refine HArith.fits (by omega) (by omega) ?_; conv => whnf) | (refine ⟨rfl, idx1 (fun p hp => ?_)⟩; conv => whnf) | (refine ⟨rfl, idx2 (fun p hp => ?_)⟩; conv => whnf) | (refine HIf.decF (by assumption) ?_; conv => whnf) | (refine HIf.decT (by assumption) ?_; conv => whnf) | (refine HIf.beqF (by assumption) ?_; conv => whnf) | (refine HIf.beqT (by assumption) ?_; conv => whnf) | (refine HIf.yes ?_; conv => whnf) | (refine HIf.no ?_; conv => whnf) | (refine ⟨rfl, At.load (by assumption) ?_⟩; conv => whnf) | (refine ⟨rfl, Ints.len (by assumption) ?_⟩; conv => whnf)))
  refine HCallF.fresh (impl_AlternatingWord _ a b (m : Int)) (fun h2 y2 f2 => ?_)
  (conv => whnf)
  (repeat (first | (refine HArith.to (e' := ((k + 1 : Nat) : Int)) (by omega) (by omega) (by omega) ?_; conv => whnf) | (refine HArith.to (e' := ((k + m : Nat) : Int)) (by omega) (by omega) (by omega) ?_; conv => whnf) | (refine HArith.fits (by omega) (by omega) ?_; conv => whnf) | (refine ⟨rfl, idx1 (fun p hp => ?_)⟩; conv => whnf) | (refine ⟨rfl, idx2 (fun p hp => ?_)⟩; conv => whnf) | (refine HIf.decF (by assumption) ?_; conv => whnf) | (refine HIf.decT (by assumption) ?_; conv => whnf) | (refine HIf.beqF (by assumption) ?_; conv => whnf) | (refine HIf.beqT (by assumption) ?_; conv => whnf) | (refine HIf.yes ?_; conv => whnf) | (refine HIf.no ?_; conv => whnf) | (refine ⟨rfl, At.load (by assumption) ?_⟩; conv => whnf) | (refine ⟨rfl, Ints.len (by assumption) ?_⟩; conv => whnf)))
  refine HCallF.same (B (decide ((a1.take (k + m)).drop k = alt a b (m : Int)))) (impl_EqualWords _ _ _ _ _ (hy1.ext f2.1).frz f2.ints.frz (by simp; omega)) (fun x h' hR => hR) ?_
  (conv => whnf)
  (repeat (first | (refine HArith.to (e' := ((k + 1 : Nat) : Int)) (by omega) (by omega) (by omega) ?_; conv => whnf) | (refine HArith.to (e' := ((k + m : Nat) : Int)) (by omega) (by omega) (by omega) ?_; conv => whnf) | (refine HArith.fits (by omega) (by omega) ?_; conv => whnf) | (refine ⟨rfl, idx1 (fun p hp => ?_)⟩; conv => whnf) | (refine ⟨rfl, idx2 (fun p hp => ?_)⟩; conv => whnf) | (refine HIf.decF (by assumption) ?_; conv => whnf) | (refine HIf.decT (by assumption) ?_; conv => whnf) | (refine HIf.beqF (by assumption) ?_; conv => whnf) | (refine HIf.beqT (by assumption) ?_; conv => whnf) | (refine HIf.yes ?_; conv => whnf) | (refine HIf.no ?_; conv => whnf) | (refine ⟨rfl, At.load (by assumption) ?_⟩; conv => whnf) | (refine ⟨rfl, Ints.len (by assumption) ?_⟩; conv => whnf)))
  refine HIf.bnot (HIf.dec (fun heq => ?_) (fun hne => ?_))
  · rw [decide_eq_true heq] at hbo ⊢
    have hbo := hbo rfl
    rw [hbo]
    have hx2 := hx1.ext f2.1
    have idx5 : ∀ {K : HV → Prop}, (∀ p, At h2 p (ci a) → K (.s p)) → HIdx h2 (.s x1) (I k) K := fun hK => idx3 f2.1 hK
    have idx6 : ∀ {K : HV → Prop}, (∀ p, At h2 p (ci b) → K (.s p)) → HIdx h2 (.s x1) (I ((k + 1 : Nat) : Int)) K := fun hK => idx4 f2.1 hK
    clear idx1 idx2 idx3 idx4
    (conv => whnf)
    refine Or.inr (Or.inr (Or.inl (Exists.intro 23 (Exists.intro [0, 1, 2, 3, 4, 5, 6, 7, 8, 9, 10, 11, 12, 14, 15, 16, 17, 18] (Exists.intro [13, 19, 20, 21, 22] (And.intro (show heldOk _ _ _ _ = true by kernel_rfl) ?_)))))); (conv => whnf)
    refine ⟨rfl, Ints.take hx2 k (by omega) (fun y3 hy3 => ?_)⟩
    (conv => whnf)
    (repeat (first | (refine HArith.to (e' := ((k + 1 : Nat) : Int)) (by omega) (by omega) (by omega) ?_; conv => whnf) | (refine HArith.fits (by omega) (by omega) ?_; conv => whnf) | (refine ⟨rfl, idx5 (fun p hp => ?_)⟩; conv => whnf) | (refine ⟨rfl, idx6 (fun p hp => ?_)⟩; conv => whnf) | (refine HIf.decF (by assumption) ?_; conv => whnf) | (refine HIf.decT (by assumption) ?_; conv => whnf) | (refine HIf.beqF (by assumption) ?_; conv => whnf) | (refine HIf.beqT (by assumption) ?_; conv => whnf) | (refine HIf.yes ?_; conv => whnf) | (refine HIf.no ?_; conv => whnf) | (refine ⟨rfl, At.load (by assumption) ?_⟩; conv => whnf) | (refine ⟨rfl, Ints.len (by assumption) ?_⟩; conv => whnf)))
    refine ⟨rfl, Ints.slice hx2 (k + m) a1.length (Or.inr rfl) (Or.inl ⟨rfl, rfl⟩) (by omega) (Nat.le_refl _) (fun y4 hy4 => ?_)⟩
    rw [List.take_length] at hy4
    (conv => whnf)
    refine HCallF.fresh (impl_AlternatingWord _ b a (m : Int)) (fun h5 y5 f5 => ?_)
    (conv => whnf)
    refine HLit.of (xs := [y3, y5, y4]) rfl (one3 hy3.one f5.own.one hy4.one) (by omega) ?_
    have E5 := f2.1.trans f5.1
    have R5 := (Rows.three (hy3.ext f5.1) f5.ints (hy4.ext f5.1)).frz
    have ht := tot3 (a1.take k) (alt b a (m : Int)) (a1.drop (k + m))
    have hlt : (a1.take k).length ≤ 15 := by simp; omega
    have hld : (a1.drop (k + m)).length ≤ 15 := by simp; omega
    (conv => whnf)
    refine HCallF.fresh ((lib_Concat _ _ _ R5 ⟨by simp, by rw [ht]; omega⟩).mono (fun r h' ⟨y, e, _, _, g⟩ => ⟨y, e, g (by rw [ht]; omega)⟩)) (fun h6 y6 f6 => ?_)
    rw [flat3] at f6
    have hz := Fresh.inner (E5.trans (Ext.push h5 [Row.own [y3, y5, y4]])) f6
    (conv => whnf)
    exact ⟨_, rfl, hz.1, fun _ => Fresh.of hz.1 hz.2⟩
  · rw [decide_eq_false hne] at hbo ⊢
    (conv => whnf)
    exact ⟨_, rfl, f2.1, no rfl⟩

theorem impl_BraidAt0 (h : Heap) (x0 : H0) (a0 : List (List Int)) (x1 : H0) (a1 : List Int) (n2 : Int) (hx0 : Rows h x0 a0) (hx1 : Ints h x1 a1) (s0 : a0.length ≤ 1048576 ∧ tot a0 ≤ 1048576) (s1 : a1.length ≤ 1048576) :
    HCalls dm Try.prog 7 [.s x0, .s x1, I n2] h (fun r h' => ∃ y, r = T2 y (brOk a0 a1 n2) ∧ Fresh h h' y (braid a0 a1 n2)) := by
  refine calls_of_hFun (m := 0) kd_ok mixed Try.func7 rfl (by kernel_rfl) rfl rfl (of_decide_eq_true rfl) ?_; unfold hFun; (conv => whnf)
  refine (impl_IsWord _ _ _ a0 a1 hx0 hx1 (by omega) (by omega)).mono ?_
  rintro r h1 ⟨rfl, rfl⟩
  (conv => whnf)
  cases hic : isWord a0 a1
  · have hb := brOk_off (c := a0) (w := a1) (n := n2) (Or.inl hic)
    rw [hb, braid_off hb]
    refine HIf.no ?_
    (conv => whnf)
    refine HLit.empty ?_
    (conv => whnf)
    refine ⟨rfl, rfl, HApp.copy hx1 (by omega) (fun h2 y2 E2 O2 => ?_)⟩
    (conv => whnf)
    exact ⟨_, rfl, Fresh.of E2 O2⟩
  refine HIf.yes ?_
  (conv => whnf)
  refine (impl_braided _ _ a0 _ a1 n2 hx0 hx1 hic).mono ?_
  rintro r h2 ⟨y2, rfl, E2, hf⟩
  cases hb : brOk a0 a1 n2
  · rw [braid_off hb]
    (conv => whnf)
    refine HIf.no ?_
    (conv => whnf)
    refine HLit.empty ?_
    (conv => whnf)
    refine ⟨rfl, rfl, HApp.copy (hx1.ext E2) (by omega) (fun h3 y3 E3 O3 => ?_)⟩
    obtain ⟨q, hq1, hq2, Oq⟩ := O3.row
    have := E2.1
    (conv => whnf)
    exact ⟨_, rfl, Fresh.ofRow (E2.trans E3) Oq (by omega)⟩
  · have f := hf hb
    (conv => whnf)
    refine HIf.yes ?_
    (conv => whnf)
    exact ⟨_, rfl, f⟩

theorem impl_BraidAt (h : Heap) (x0 : H0) (a0 : List (List Int)) (x1 : H0) (a1 : List Int) (n2 : Int) (hx0 : Rows h x0 a0) (hx1 : Ints h x1 a1) (s0 : a0.length ≤ 1048576 ∧ tot a0 ≤ 1048576) (s1 : a1.length ≤ 1048576) (_s2 : -9223372036854775808 ≤ n2 ∧ n2 ≤ 9223372036854775807) :
    HCalls dm Try.prog 7 [.s x0, .s x1, I n2] h (fun r h' => ∃ y, r = T2 y (brOk a0 a1 n2) ∧ Fresh h h' y (braid a0 a1 n2)) := impl_BraidAt0 h x0 a0 x1 a1 n2 hx0 hx1 s0 s1

end Go.Proofs.Ytjgnnjegaedinaa.Hx

namespace Go.Proofs.Ytjgnnjegaedinaa.Hx
open Go.RowKit
variable {dm : Bool}

theorem in_off {a b : Int} (h : a < 0 ∨ a > b) : (decide (0 ≤ a) && decide (a ≤ b)) = false := by
  rcases h with h | h
  · have : decide (0 ≤ a) = false := decide_eq_false (by omega)
    rw [this]
    rfl
  · have : decide (a ≤ b) = false := decide_eq_false (by omega)
    rw [this, Bool.and_false]
theorem in_on {a b : Int} (h : 0 ≤ a) (h2 : a ≤ b) : (decide (0 ≤ a) && decide (a ≤ b)) = true := by
  rw [decide_eq_true h, decide_eq_true h2]
  rfl

/-- The places below k at which a braid move can be made. -/
def brTo (c : List (List Int)) (w : List Int) (k : Nat) : List Int := ((List.range k).filter fun t => brOk c w (t : Nat)).map fun (t : Nat) => (t : Int)
theorem brTo_none (c : List (List Int)) (w : List Int) : brTo c w 0 = [] := rfl
theorem brTo_le (c : List (List Int)) (w : List Int) (k : Nat) : (brTo c w k).length ≤ k := by
  have := List.length_filter_le (fun t => brOk c w (t : Nat)) (List.range k)
  simp [brTo] at this ⊢
  exact this
theorem brTo_in {c : List (List Int)} {w : List Int} {k : Nat} (h : brOk c w k = true) : brTo c w (k + 1) = brTo c w k ++ [(k : Int)] := by
  unfold brTo
  rw [List.range_succ, List.filter_append, List.map_append, List.filter_cons_of_pos (p := fun t => brOk c w (t : Nat)) h, List.filter_nil]
  rfl
theorem brTo_out {c : List (List Int)} {w : List Int} {k : Nat} (h : brOk c w k = false) : brTo c w (k + 1) = brTo c w k := by
  unfold brTo
  rw [List.range_succ, List.filter_append, List.map_append, List.filter_cons_of_neg (p := fun t => brOk c w (t : Nat)) (by rw [h]; decide), List.filter_nil, List.map_nil, List.append_nil]

/-- Braid moves at told places, one after the other; nothing where one cannot be made. -/
def braids (c : List (List Int)) : List Int → List Int → Option (List Int)
  | x, [] => some x
  | x, n :: l => if brOk c x n then braids c (braid c x n) l else none
def apOk (c : List (List Int)) (w l : List Int) : Bool := isWord c w && (braids c w l).isSome
def apW (c : List (List Int)) (w l : List Int) : List Int := (braids c w l).getD w
theorem braids_end (c : List (List Int)) (x : List Int) : braids c x [] = some x := rfl
theorem braids_step {c : List (List Int)} {x l : List Int} {k : Nat} (h : k < l.length) : braids c x (l.drop k) = if brOk c x (l.getD k 0) then braids c (braid c x (l.getD k 0)) (l.drop (k + 1)) else none := by
  rw [List.drop_eq_getElem_cons h, braids]
  have e : l.getD k 0 = l[k] := by simp [List.getD, h]
  rw [e]
theorem brOk_word {c : List (List Int)} {w : List Int} {n : Int} (h : brOk c w n = true) : isWord c w = true := by
  simp only [brOk, Bool.and_eq_true] at h
  exact h.1.1
theorem braid_same {c : List (List Int)} {w : List Int} {n : Int} (h : brOk c w n = true) : (braid c w n).length = w.length := by
  have hw := brOk_word h
  unfold braid
  rw [if_pos h]
  refine brW_len hw ?_
  simp only [brOk, Bool.and_eq_true] at h
  exact h.2
theorem braids_len (c : List (List Int)) : ∀ (l x y : List Int), braids c x l = some y → y.length = x.length
  | [], x, y, h => by
    rw [braids_end] at h
    injection h with h
    rw [h]
  | n :: l, x, y, h => by
    rw [braids] at h
    split at h
    · rename_i hb
      rw [braids_len c l _ y h, braid_same hb]
    · cases h
theorem apW_len (c : List (List Int)) (w l : List Int) : (apW c w l).length = w.length := by
  unfold apW
  cases h : braids c w l with
  | none => rfl
  | some y => exact braids_len c l w y h
theorem braids_word {c : List (List Int)} {w l : List Int} (hl : 0 < l.length) (h : isWord c w = false) : braids c w l = none := by
  match l, hl with
  | n :: l, _ =>
    rw [braids, brOk_off (Or.inl h)]
    rfl


set_option maxHeartbeats 1000000 in
theorem spec_BraidAt0 (h : Heap) (x0 : H0) (a0 : List (List Int)) (x1 : H0) (a1 : List Int) (n2 : Int) (hx0 : Rows h x0 a0) (hx1 : Ints h x1 a1) (s0 : a0.length ≤ 1048576 ∧ tot a0 ≤ 1048576) (s1 : a1.length ≤ 1048576) :
    HCalls dm Try.prog 8 [.s x0, .s x1, I n2] h (fun r h' => ∃ y, r = T2 y (brOk a0 a1 n2) ∧ Fresh h h' y (braid a0 a1 n2)) := by
  have copy : brOk a0 a1 n2 = false → ∀ {K : HV → Heap → Prop}, (∀ h' y, Fresh h h' y (braid a0 a1 n2) → K (.s y) h') → HApp (h ++ [.own []]) (.s (.sl h.length 0 0)) (.s x1) K := fun hb K hK => by
    rw [braid_off hb] at hK
    exact HApp.copy hx1 (by omega) (fun h2 y2 E2 O2 => hK _ _ (Fresh.of E2 O2))
  refine calls_of_hFun (m := 0) kd_ok mixed Try.func8 rfl (by kernel_rfl) rfl rfl (of_decide_eq_true rfl) ?_; unfold hFun; (conv => whnf)
  refine Or.inl (And.intro (show Region.lexB _ _ = true by kernel_rfl) ?_); (conv => whnf)
  refine HCallQ.of (.bool (isWord a0 a1)) (spec_IsWord _ _ _ a0 a1 hx0.frz hx1.frz (by omega) (by omega)) (fun x h' hR => hR.1) ?_
  (conv => whnf)
  cases hic : isWord a0 a1
  · have hb := brOk_off (c := a0) (w := a1) (n := n2) (Or.inl hic)
    rw [hb]
    (repeat (first | (refine HArith.fits (by omega) (by omega) ?_; conv => whnf) | (refine HIf.decF (by assumption) ?_; conv => whnf) | (refine HIf.decT (by assumption) ?_; conv => whnf) | (refine HIf.beqF (by assumption) ?_; conv => whnf) | (refine HIf.beqT (by assumption) ?_; conv => whnf) | (refine HIf.yes ?_; conv => whnf) | (refine HIf.no ?_; conv => whnf) | (refine ⟨rfl, At.load (by assumption) ?_⟩; conv => whnf) | (refine ⟨rfl, Ints.len (by assumption) ?_⟩; conv => whnf)))
    refine HLit.empty ?_
    (conv => whnf)
    refine ⟨rfl, rfl, copy hb (fun h2 y2 f2 => ?_)⟩
    (conv => whnf)
    exact ⟨_, rfl, f2⟩
  obtain ⟨hC, hl, hw⟩ := word_cartan hic
  have h4 := hC.le
  (repeat (first | (refine HArith.fits (by omega) (by omega) ?_; conv => whnf) | (refine HIf.decF (by assumption) ?_; conv => whnf) | (refine HIf.decT (by assumption) ?_; conv => whnf) | (refine HIf.beqF (by assumption) ?_; conv => whnf) | (refine HIf.beqT (by assumption) ?_; conv => whnf) | (refine HIf.yes ?_; conv => whnf) | (refine HIf.no ?_; conv => whnf) | (refine ⟨rfl, At.load (by assumption) ?_⟩; conv => whnf) | (refine ⟨rfl, Ints.len (by assumption) ?_⟩; conv => whnf)))
  refine HCallQ.of (.bool (decide (0 ≤ n2) && decide (n2 ≤ (a1.length : Int) - 2))) (spec_l1In _ n2 0 ((a1.length : Int) - 2)) (fun x h' hR => hR.1) ?_
  (conv => whnf)
  by_cases c1 : n2 < 0 ∨ n2 > (a1.length : Int) - 2
  · have hb := brOk_off (c := a0) (w := a1) (n := n2) (Or.inr c1)
    rw [hb, in_off c1]
    (repeat (first | (refine HArith.fits (by omega) (by omega) ?_; conv => whnf) | (refine HIf.decF (by assumption) ?_; conv => whnf) | (refine HIf.decT (by assumption) ?_; conv => whnf) | (refine HIf.beqF (by assumption) ?_; conv => whnf) | (refine HIf.beqT (by assumption) ?_; conv => whnf) | (refine HIf.yes ?_; conv => whnf) | (refine HIf.no ?_; conv => whnf) | (refine ⟨rfl, At.load (by assumption) ?_⟩; conv => whnf) | (refine ⟨rfl, Ints.len (by assumption) ?_⟩; conv => whnf)))
    refine HLit.empty ?_
    (conv => whnf)
    refine ⟨rfl, rfl, copy hb (fun h2 y2 f2 => ?_)⟩
    (conv => whnf)
    exact ⟨_, rfl, f2⟩
  rw [in_on (by omega) (by omega)]
  obtain ⟨k, rfl⟩ : ∃ k : Nat, n2 = k := ⟨n2.toNat, by omega⟩
  have hok := brOk_at (c := a0) (w := a1) (k := k) hic (by omega)
  have idx1 : ∀ {K : HV → Prop}, (∀ p, At h p (ci (a1.getD k 0)) → K (.s p)) → HIdx h (.s x1) (I k) K := fun hK => Ints.idxN hx1 (by omega) hK
  have idx2 : ∀ {K : HV → Prop}, (∀ p, At h p (ci (a1.getD (k + 1) 0)) → K (.s p)) → HIdx h (.s x1) (I ((k + 1 : Nat) : Int)) K := fun hK => Ints.idxN hx1 (by omega) hK
  have idx3 : ∀ {h2 : Heap} {K : HV → Prop}, Ext h h2 → (∀ p, At h2 p (ci (a1.getD k 0)) → K (.s p)) → HIdx h2 (.s x1) (I k) K := fun E hK => Ints.idxN (hx1.ext E) (by omega) hK
  have idx4 : ∀ {h2 : Heap} {K : HV → Prop}, Ext h h2 → (∀ p, At h2 p (ci (a1.getD (k + 1) 0)) → K (.s p)) → HIdx h2 (.s x1) (I ((k + 1 : Nat) : Int)) K := fun E hK => Ints.idxN (hx1.ext E) (by omega) hK
  by_cases c3 : a1.getD k 0 = a1.getD (k + 1) 0
  · have hb := hok.trans (brN_eq c3)
    rw [hb]
    (repeat (first | (refine HArith.to (e' := ((k + 1 : Nat) : Int)) (by omega) (by omega) (by omega) ?_; conv => whnf) | (refine HArith.fits (by omega) (by omega) ?_; conv => whnf) | (refine ⟨rfl, idx1 (fun p hp => ?_)⟩; conv => whnf) | (refine ⟨rfl, idx2 (fun p hp => ?_)⟩; conv => whnf) | (refine HIf.decF (by assumption) ?_; conv => whnf) | (refine HIf.decT (by assumption) ?_; conv => whnf) | (refine HIf.beqF (by assumption) ?_; conv => whnf) | (refine HIf.beqT (by assumption) ?_; conv => whnf) | (refine HIf.yes ?_; conv => whnf) | (refine HIf.no ?_; conv => whnf) | (refine ⟨rfl, At.load (by assumption) ?_⟩; conv => whnf) | (refine ⟨rfl, Ints.len (by assumption) ?_⟩; conv => whnf)))
    refine HLit.empty ?_
    (conv => whnf)
    refine ⟨rfl, rfl, copy hb (fun h2 y2 f2 => ?_)⟩
    (conv => whnf)
    exact ⟨_, rfl, f2⟩
  (repeat (first | (refine HArith.to (e' := ((k + 1 : Nat) : Int)) (by omega) (by omega) (by omega) ?_; conv => whnf) | (refine HArith.fits (by omega) (by omega) ?_; conv => whnf) | (refine ⟨rfl, idx1 (fun p hp => ?_)⟩; conv => whnf) | (refine ⟨rfl, idx2 (fun p hp => ?_)⟩; conv => whnf) | (refine HIf.decF (by assumption) ?_; conv => whnf) | (refine HIf.decT (by assumption) ?_; conv => whnf) | (refine HIf.beqF (by assumption) ?_; conv => whnf) | (refine HIf.beqT (by assumption) ?_; conv => whnf) | (refine HIf.yes ?_; conv => whnf) | (refine HIf.no ?_; conv => whnf) | (refine ⟨rfl, At.load (by assumption) ?_⟩; conv => whnf) | (refine ⟨rfl, Ints.len (by assumption) ?_⟩; conv => whnf)))
  refine Or.inl (And.intro (show Region.lexB _ _ = true by kernel_rfl) ?_); (conv => whnf)
  (repeat (first | (refine HArith.to (e' := ((k + 1 : Nat) : Int)) (by omega) (by omega) (by omega) ?_; conv => whnf) | (refine HArith.fits (by omega) (by omega) ?_; conv => whnf) | (refine ⟨rfl, idx1 (fun p hp => ?_)⟩; conv => whnf) | (refine ⟨rfl, idx2 (fun p hp => ?_)⟩; conv => whnf) | (refine HIf.decF (by assumption) ?_; conv => whnf) | (refine HIf.decT (by assumption) ?_; conv => whnf) | (refine HIf.beqF (by assumption) ?_; conv => whnf) | (refine HIf.beqT (by assumption) ?_; conv => whnf) | (refine HIf.yes ?_; conv => whnf) | (refine HIf.no ?_; conv => whnf) | (refine ⟨rfl, At.load (by assumption) ?_⟩; conv => whnf) | (refine ⟨rfl, Ints.len (by assumption) ?_⟩; conv => whnf)))
  refine HCallQ.of (.int .i64 (bond a0 (a1.getD k 0) (a1.getD (k + 1) 0))) (spec_BondOf _ _ a0 _ _ hx0.frz (by omega)) (fun x h' hR => hR.1) ?_
  have hbl := bond_le a0 (a1.getD k 0) (a1.getD (k + 1) 0)
  obtain ⟨bd, hbd⟩ : ∃ bd, bd = bond a0 (a1.getD k 0) (a1.getD (k + 1) 0) := ⟨_, rfl⟩
  rw [← hbd] at hbl
  rw [← hbd]
  (conv => whnf)
  by_cases c4 : bd < 2
  · have hb := hok.trans (brN_small (by rw [← hbd]; exact c4))
    rw [hb]
    refine Or.inr (Or.inr (Or.inl (Exists.intro 31 (Exists.intro [0, 1, 2, 3, 4, 5, 6, 7, 8, 9, 10, 11, 12, 13, 14, 15, 16, 17, 18, 19, 20, 21, 22, 23, 24, 25, 26] (Exists.intro [27, 28, 29, 30] (And.intro (show heldOk _ _ _ _ = true by kernel_rfl) ?_)))))); (conv => whnf)
    (repeat (first | (refine HArith.fits (by omega) (by omega) ?_; conv => whnf) | (refine HIf.decF (by assumption) ?_; conv => whnf) | (refine HIf.decT (by assumption) ?_; conv => whnf) | (refine HIf.beqF (by assumption) ?_; conv => whnf) | (refine HIf.beqT (by assumption) ?_; conv => whnf) | (refine HIf.yes ?_; conv => whnf) | (refine HIf.no ?_; conv => whnf) | (refine ⟨rfl, At.load (by assumption) ?_⟩; conv => whnf) | (refine ⟨rfl, Ints.len (by assumption) ?_⟩; conv => whnf)))
    refine HLit.empty ?_
    (conv => whnf)
    refine ⟨rfl, rfl, copy hb (fun h2 y2 f2 => ?_)⟩
    (conv => whnf)
    exact ⟨_, rfl, f2⟩
  obtain ⟨m, rfl⟩ : ∃ m : Nat, bd = m := ⟨bd.toNat, by omega⟩
  by_cases c5 : (m : Int) > (a1.length : Int) - (k : Int)
  · have hb := hok.trans (brN_long (by unfold brM; rw [← hbd]; omega))
    rw [hb]
    refine Or.inr (Or.inr (Or.inl (Exists.intro 31 (Exists.intro [0, 1, 2, 3, 4, 5, 6, 7, 8, 9, 10, 11, 12, 13, 14, 15, 16, 17, 18, 19, 20, 21, 22, 23, 24, 25, 26] (Exists.intro [27, 28, 29, 30] (And.intro (show heldOk _ _ _ _ = true by kernel_rfl) ?_)))))); (conv => whnf)
    (repeat (first | (refine HArith.fits (by omega) (by omega) ?_; conv => whnf) | (refine HIf.decF (by assumption) ?_; conv => whnf) | (refine HIf.decT (by assumption) ?_; conv => whnf) | (refine HIf.beqF (by assumption) ?_; conv => whnf) | (refine HIf.beqT (by assumption) ?_; conv => whnf) | (refine HIf.yes ?_; conv => whnf) | (refine HIf.no ?_; conv => whnf) | (refine ⟨rfl, At.load (by assumption) ?_⟩; conv => whnf) | (refine ⟨rfl, Ints.len (by assumption) ?_⟩; conv => whnf)))
    refine HLit.empty ?_
    (conv => whnf)
    refine ⟨rfl, rfl, copy hb (fun h2 y2 f2 => ?_)⟩
    (conv => whnf)
    exact ⟨_, rfl, f2⟩
  obtain ⟨hm, hn⟩ := brN_of (c := a0) (w := a1) (k := k) (m := m) c3 hbd.symm (by omega) (by omega)
  rw [hn] at hok
  have ham := alt_length (i := a1.getD (k + 1) 0) (j := a1.getD k 0) (m := m) (by omega)
  have hbw : brW a0 a1 k = a1.take k ++ (alt (a1.getD (k + 1) 0) (a1.getD k 0) m ++ a1.drop (k + m)) := by rw [brW, hm]
  have hbo := fun h => braid_on (c := a0) (w := a1) (k := k) h
  rw [hbw] at hbo
  have hno := fun (h : _ = false) => hok.trans h
  rw [hok] at hbo copy ⊢
  clear hn hm hbd hbw hok
  generalize a1.getD k 0 = a at *
  generalize a1.getD (k + 1) 0 = b at *
  refine Or.inr (Or.inr (Or.inl (Exists.intro 31 (Exists.intro [0, 1, 2, 3, 4, 5, 6, 7, 8, 9, 10, 11, 12, 13, 14, 15, 16, 17, 18, 19, 20, 21, 22, 23, 24, 25, 26] (Exists.intro [27, 28, 29, 30] (And.intro (show heldOk _ _ _ _ = true by kernel_rfl) ?_)))))); (conv => whnf)
  (repeat (first | (refine HArith.to (e' := ((k + 1 : Nat) : Int)) (by omega) (by omega) (by omega) ?_; conv => whnf) | (refine HArith.to (e' := ((k + m : Nat) : Int)) (by omega) (by omega) (by omega) ?_; conv => whnf) | (refine HArith.fits (by omega) (by omega) ?_; conv => whnf) | (refine ⟨rfl, idx1 (fun p hp => ?_)⟩; conv => whnf) | (refine ⟨rfl, idx2 (fun p hp => ?_)⟩; conv => whnf) | (refine HIf.decF (by assumption) ?_; conv => whnf) | (refine HIf.decT (by assumption) ?_; conv => whnf) | (refine HIf.beqF (by assumption) ?_; conv => whnf) | (refine HIf.beqT (by assumption) ?_; conv => whnf) | (refine HIf.yes ?_; conv => whnf) | (refine HIf.no ?_; conv => whnf) | (refine ⟨rfl, At.load (by assumption) ?_⟩; conv => whnf) | (refine ⟨rfl, Ints.len (by assumption) ?_⟩; conv => whnf)))
  refine ⟨rfl, Ints.slice hx1 k (k + m) (Or.inr rfl) (Or.inr rfl) (by omega) (by omega) (fun y1 hy1 => ?_)⟩
  (conv => whnf)
  (repeat (first | (refine HArith.to (e' := ((k + 1 : Nat) : Int)) (by omega) (by omega) (by omega) ?_; conv => whnf) | (refine HArith.to (e' := ((k + m : Nat) : Int)) (by omega) (by omega) (by omega) ?_; conv => whnf) | (refine HArith.fits (by omega) (by omega) ?_; conv => whnf) | (refine ⟨rfl, idx1 (fun p hp => ?_)⟩; conv => whnf) | (refine ⟨rfl, idx2 (fun p hp => ?_)⟩; conv => whnf) | (refine HIf.decF (by assumption) ?_; conv => whnf) | (refine HIf.decT (by assumption) ?_; conv => whnf) | (refine HIf.beqF (by assumption) ?_; conv => whnf) | (refine HIf.beqT (by assumption) ?_; conv => whnf) | (refine HIf.yes ?_; conv => whnf) | (refine HIf.no ?_; conv => whnf) | (refine ⟨rfl, At.load (by assumption) ?_⟩; conv => whnf) | (refine ⟨rfl, Ints.len (by assumption) ?_⟩; conv => whnf)))
  refine HCallF.fresh (spec_AlternatingWord _ a b (m : Int)) (fun h2 y2 f2 => ?_)
  (conv => whnf)
  (repeat (first | (refine HArith.to (e' := ((k + 1 : Nat) : Int)) (by omega) (by omega) (by omega) ?_; conv => whnf) | (refine HArith.to (e' := ((k + m : Nat) : Int)) (by omega) (by omega) (by omega) ?_; conv => whnf) | (refine HArith.fits (by omega) (by omega) ?_; conv => whnf) | (refine ⟨rfl, idx1 (fun p hp => ?_)⟩; conv => whnf) | (refine ⟨rfl, idx2 (fun p hp => ?_)⟩; conv => whnf) | (refine HIf.decF (by assumption) ?_; conv => whnf) | (refine HIf.decT (by assumption) ?_; conv => whnf) | (refine HIf.beqF (by assumption) ?_; conv => whnf) | (refine HIf.beqT (by assumption) ?_; conv => whnf) | (refine HIf.yes ?_; conv => whnf) | (refine HIf.no ?_; conv => whnf) | (refine ⟨rfl, At.load (by assumption) ?_⟩; conv => whnf) | (refine ⟨rfl, Ints.len (by assumption) ?_⟩; conv => whnf)))
  refine HCallF.same (B (decide ((a1.take (k + m)).drop k = alt a b (m : Int)))) (spec_EqualWords _ _ _ _ _ (hy1.ext f2.1).frz f2.ints.frz (by simp; omega)) (fun x h' hR => hR) ?_
  (conv => whnf)
  (repeat (first | (refine HArith.to (e' := ((k + 1 : Nat) : Int)) (by omega) (by omega) (by omega) ?_; conv => whnf) | (refine HArith.to (e' := ((k + m : Nat) : Int)) (by omega) (by omega) (by omega) ?_; conv => whnf) | (refine HArith.fits (by omega) (by omega) ?_; conv => whnf) | (refine ⟨rfl, idx1 (fun p hp => ?_)⟩; conv => whnf) | (refine ⟨rfl, idx2 (fun p hp => ?_)⟩; conv => whnf) | (refine HIf.decF (by assumption) ?_; conv => whnf) | (refine HIf.decT (by assumption) ?_; conv => whnf) | (refine HIf.beqF (by assumption) ?_; conv => whnf) | (refine HIf.beqT (by assumption) ?_; conv => whnf) | (refine HIf.yes ?_; conv => whnf) | (refine HIf.no ?_; conv => whnf) | (refine ⟨rfl, At.load (by assumption) ?_⟩; conv => whnf) | (refine ⟨rfl, Ints.len (by assumption) ?_⟩; conv => whnf)))
  refine HIf.bnot (HIf.dec (fun heq => ?_) (fun hne => ?_))
  · rw [decide_eq_true heq] at hbo ⊢
    have hbo := hbo rfl
    rw [hbo]
    have hx2 := hx1.ext f2.1
    have idx5 : ∀ {K : HV → Prop}, (∀ p, At h2 p (ci a) → K (.s p)) → HIdx h2 (.s x1) (I k) K := fun hK => idx3 f2.1 hK
    have idx6 : ∀ {K : HV → Prop}, (∀ p, At h2 p (ci b) → K (.s p)) → HIdx h2 (.s x1) (I ((k + 1 : Nat) : Int)) K := fun hK => idx4 f2.1 hK
    clear idx1 idx2 idx3 idx4
    (conv => whnf)
    refine Or.inr (Or.inr (Or.inl (Exists.intro 23 (Exists.intro [0, 1, 2, 3, 4, 5, 6, 7, 8, 9, 10, 11, 12, 15, 16, 17, 18, 19] (Exists.intro [13, 14, 20, 21, 22] (And.intro (show heldOk _ _ _ _ = true by kernel_rfl) ?_)))))); (conv => whnf)
    refine ⟨rfl, Ints.take hx2 k (by omega) (fun y3 hy3 => ?_)⟩
    (conv => whnf)
    (repeat (first | (refine HArith.to (e' := ((k + 1 : Nat) : Int)) (by omega) (by omega) (by omega) ?_; conv => whnf) | (refine HArith.fits (by omega) (by omega) ?_; conv => whnf) | (refine ⟨rfl, idx5 (fun p hp => ?_)⟩; conv => whnf) | (refine ⟨rfl, idx6 (fun p hp => ?_)⟩; conv => whnf) | (refine HIf.decF (by assumption) ?_; conv => whnf) | (refine HIf.decT (by assumption) ?_; conv => whnf) | (refine HIf.beqF (by assumption) ?_; conv => whnf) | (refine HIf.beqT (by assumption) ?_; conv => whnf) | (refine HIf.yes ?_; conv => whnf) | (refine HIf.no ?_; conv => whnf) | (refine ⟨rfl, At.load (by assumption) ?_⟩; conv => whnf) | (refine ⟨rfl, Ints.len (by assumption) ?_⟩; conv => whnf)))
    refine ⟨rfl, Ints.slice hx2 (k + m) a1.length (Or.inr rfl) (Or.inl ⟨rfl, rfl⟩) (by omega) (Nat.le_refl _) (fun y4 hy4 => ?_)⟩
    rw [List.take_length] at hy4
    (conv => whnf)
    refine HCallF.fresh (spec_AlternatingWord _ b a (m : Int)) (fun h5 y5 f5 => ?_)
    have hlt : (a1.take k).length ≤ 15 := by simp; omega
    have hld : (a1.drop (k + m)).length ≤ 15 := by simp; omega
    (conv => whnf)
    refine HCallF.fresh (spec_ConcatWords _ _ _ _ _ (hy3.ext f5.1).frz f5.ints.frz (by omega) (by omega)) (fun h6 y6 f6 => ?_)
    have E6 := f5.1.trans f6.1
    (conv => whnf)
    refine HCallF.fresh (spec_ConcatWords _ _ _ _ _ f6.ints.frz (hy4.ext E6).frz (by rw [List.length_append]; omega) (by omega)) (fun h7 y7 f7 => ?_)
    rw [List.append_assoc] at f7
    have hz := Fresh.inner (f2.1.trans E6) f7
    (conv => whnf)
    exact ⟨_, rfl, Fresh.of hz.1 hz.2⟩
  · rw [decide_eq_false hne] at copy ⊢
    (conv => whnf)
    refine HLit.empty ?_
    have E2 := f2.1
    have hE2 := E2.1
    have hb := hno (decide_eq_false hne)
    (conv => whnf)
    refine ⟨rfl, rfl, HApp.copy (hx1.ext E2) (by omega) (fun h3 y3 E3 O3 => ?_)⟩
    obtain ⟨q, hq1, hq2, Oq⟩ := O3.row
    rw [braid_off hb]
    (conv => whnf)
    exact ⟨_, rfl, Fresh.ofRow (E2.trans E3) Oq (by omega)⟩

theorem spec_BraidAt (h : Heap) (x0 : H0) (a0 : List (List Int)) (x1 : H0) (a1 : List Int) (n2 : Int) (hx0 : Rows h x0 a0) (hx1 : Ints h x1 a1) (s0 : a0.length ≤ 1048576 ∧ tot a0 ≤ 1048576) (s1 : a1.length ≤ 1048576) (_s2 : -9223372036854775808 ≤ n2 ∧ n2 ≤ 9223372036854775807) :
    HCalls dm Try.prog 8 [.s x0, .s x1, I n2] h (fun r h' => ∃ y, r = T2 y (brOk a0 a1 n2) ∧ Fresh h h' y (braid a0 a1 n2)) := spec_BraidAt0 h x0 a0 x1 a1 n2 hx0 hx1 s0 s1

end Go.Proofs.Ytjgnnjegaedinaa.Hx
