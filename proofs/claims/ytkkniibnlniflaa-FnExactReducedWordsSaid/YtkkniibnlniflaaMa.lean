
/-
  slices.SortFunc over a slice of slices of ints, for the calculus of rows: the library's contract (cells sorted by a comparing function) led over to heaps of rows.
-/
import Derived.Test.YtkkniibnlniflaaHi
import Derived.Shelf.SlSortCmp.NoneTotal
namespace Go.Proofs.Ytkkniibnlniflaa.Hx
open Go.RowKit

/-- A later world with all old blocks as they were: so many draws, some blocks more. -/
theorem Lat.grows {w w' : World} (b : Lat w.heap.size w w') : ∃ q os, w' = Go.Sort.grow (w.drewN q) os := by
  refine ⟨w'.drawn - w.drawn, w'.heap.extract w.heap.size w'.heap.size, ?_⟩
  obtain ⟨⟨b1, b2, b3, b4, b5⟩, b6⟩ := b
  obtain ⟨hp, tp, dr, os, out⟩ := w
  obtain ⟨hp', tp', dr', os', out'⟩ := w'
  simp only at b1 b2 b3 b4 b5 b6
  subst b1 b2 b3
  have hd : dr + (dr' - dr) = dr' := by omega
  have hh : hp' = hp ++ hp'.extract hp.size hp'.size := by
    apply Array.ext_getElem?
    intro k
    rw [Array.getElem?_append]
    by_cases hk : k < hp.size
    · rw [if_pos hk]
      exact b5 k hk
    · rw [if_neg hk, Array.getElem?_extract]
      by_cases h2 : k < hp'.size
      · rw [if_pos (by omega)]
        congr 1
        omega
      · rw [if_neg (by omega)]
        exact Array.getElem?_eq_none (by omega)
  simp only [Go.Sort.grow, World.drewN, hd]
  rw [← hh]

/-- A world that differs from w in one row's block alone bears the heap without that row. -/
theorem Rep.beside {B0 : Nat} {φ : Plan} {h : Heap} {w w' : World} (R : Rep B0 φ h w) {r : Nat} {cs : List H0} {p : Place} (hr : h[r]? = some (.own cs)) (hp : φ[r]? = some p)
    (hs : w.heap.size ≤ w'.heap.size) (hb : ∀ k, k ≠ p.b → k < w.heap.size → w'.heap[k]? = w.heap[k]?) : Rep B0 φ (h.set r .gone) w' := by
  obtain ⟨q1, q2, q3, _⟩ := R.own r cs p hr hp
  have D := R.drop r
  have other : ∀ (q : Nat) (ys : List H0), (h.set r .gone)[q]? = some (.own ys) → q ≠ r ∧ h[q]? = some (.own ys) := fun q ys hq => by
    by_cases e : q = r
    · subst e
      rw [List.getElem?_set_self (List.getElem?_eq_some_iff.1 hr).1] at hq
      cases hq
    · rw [List.getElem?_set_ne (Ne.symm e)] at hq
      exact ⟨e, hq⟩
  refine ⟨D.len, Nat.le_trans D.base hs, fun q xs pq h1 h2 => ?_, fun q xs pq h1 h2 => ?_, D.apart⟩
  · obtain ⟨g1, g2⟩ := D.ro q xs pq h1 h2
    refine ⟨g1, fun k c hk => ?_⟩
    obtain ⟨v, e1, e2⟩ := g2 k c hk
    exact ⟨v, by rw [World.cell?_of_block (w := w) (hb _ (by show pq.b ≠ p.b; omega) (Nat.lt_of_lt_of_le g1 D.base))]; exact e1, e2⟩
  · obtain ⟨g1, g2, g3, cur, e, g4, g5⟩ := D.own q xs pq h1 h2
    obtain ⟨n1, n2⟩ := other q xs h1
    exact ⟨g1, g2, g3, cur, e, by rw [hb _ (R.apart q r xs cs pq p n1 n2 hr h2 hp) (Array.getElem?_eq_some_iff.1 g4).1]; exact g4, g5⟩

open Go.Sort in
theorem sortWorld_heap {α : Type} [Inhabited α] (enc : α → Value) (w : World) (blk off m : Nat) (dk : Array α) (os : Array Obj) :
    w.heap.size ≤ (Go.Proofs.sortWorld enc w blk off m dk os).heap.size ∧ ∀ k, k ≠ blk → k < w.heap.size → (Go.Proofs.sortWorld enc w blk off m dk os).heap[k]? = w.heap[k]? := by
  unfold Go.Proofs.sortWorld
  have hz : (putRow enc (Go.Sort.ahead w m) blk off dk).heap.size = w.heap.size := by simp [putRow, mapBlock, Go.Sort.ahead]
  refine ⟨by rw [size_grow, hz]; omega, fun k hk hl => ?_⟩
  rw [heap_grow_old _ _ (by rw [hz]; exact hl)]
  simp [putRow, mapBlock, Go.Sort.ahead, Array.getElem?_modify, Ne.symm hk]

theorem getD_range (n : Nat) (j : Nat) (hj : j < n) : (Array.range n)[j]! = j := by simp [hj]

theorem Ints.cell1 {h : Heap} {x : H0} {l : List Int} (H : Ints h x l) {φ : Plan} {v : Value} (k : rep0 φ x v) : v.oneCell' = true := by
  have main : ∀ (y : HV) (l : List H0), Shows h y l → y = .s x → v.oneCell' = true := by
    intro y l S e
    cases S with
    | nils a c =>
      cases e
      have : v = .slice a 0 c := k
      rw [this]; rfl
    | ro r off len cs hr hl => cases e; obtain ⟨p, a, cap, _, e, _⟩ := k; rw [e]; rfl
    | own r off len cs hr hl => cases e; obtain ⟨p, a, cap, _, e, _⟩ := k; rw [e]; rfl
  exact main _ _ H rfl

/-- What the sort leaves in the row. -/
def sortedRow (cs : List H0) (off len : Nat) (σ : List Nat) : List H0 := cs.take off ++ σ.map (fun i => cs.getD (off + i) (ci 0)) ++ cs.drop (off + len)

open Go.Sort Go.Shelf in
set_option maxHeartbeats 1000000 in
/-- slices.SortFunc over a row of slices. -/
theorem sort_calls {P : Program} {ρ : Ren} (L : SlLaysF.n6 P ρ) {CR : FuncId} (eg : ∀ args w, (callFunc CR args).run P w = .ok (.enter CR args) w) (cmpL : List Int → List Int → Int) (hO : SWO (ltOf cmpL))
    {h : Heap} {r off len : Nat} {cs : List H0} {Ls : List (List Int)} (hr : h[r]? = some (.own cs)) (hl : off + len ≤ cs.length) (hn : Ls.length = len) (hlen : len < 4611686018427387904)
    (hi : ∀ (i : Nat) (x : H0) (l : List Int), i < len → cs[off + i]? = some x → Ls[i]? = some l → Ints (h.set r .gone) x l)
    (hc : ∀ (i j : Nat) (x y : H0) (a b : List Int), i < len → j < len → cs[off + i]? = some x → cs[off + j]? = some y → Ls[i]? = some a → Ls[j]? = some b →
      HCalls P CR [.s x, .s y] (freeze (h.set r .gone)) (fun z _ => z = I (cmpL a b))) :
    HCalls P (ρ.f 6) [.s (.sl r off len), .fn CR []] h (fun z h' => z = .tup [] ∧ ∃ σ : List Nat, σ.Perm (List.range len) ∧ σ.Pairwise (fun i j => ¬ cmpL (Ls.getD j []) (Ls.getD i []) < 0) ∧ h' = h.set r (.own (sortedRow cs off len σ))) := by
  refine ⟨L.f6.enters rfl, fun B0 φ w vargs R ha => ?_⟩
  obtain ⟨p, hp⟩ := R.place hr
  obtain ⟨q1, q2, q3, cur, e, q4, q5, q6⟩ := R.own r cs p hr hp
  have hvs : ∃ u v, vargs = #[u, v] ∧ rep0 φ (.sl r off len) u ∧ repV φ (.fn CR []) v := by
    rcases vargs with ⟨vs⟩
    match vs, ha with
    | [u, v], hh => exact ⟨u, v, rfl, hh.1, hh.2.1⟩
  obtain ⟨u, v, rfl, hu, hv⟩ := hvs
  obtain ⟨p', a, cap, hp', rfl, hc1, hc2, hc3, hc4⟩ := hu
  obtain rfl : p' = p := Option.some.inj (hp'.symm.trans hp)
  obtain ⟨vs, rfl, hvs⟩ := hv
  obtain rfl : vs = #[] := by
    rcases vs with ⟨vl⟩
    match vl, hvs with
    | [], _ => rfl
  by_cases h0 : len = 0
  · subst h0
    refine (AnyF.slices_SortFunc_none { L with } (some a) cap _ w).mono ?_
    rintro e' w' ⟨rfl, rfl⟩
    refine ⟨_, .tup [], _, φ, rfl, ⟨rfl, [], by simp, List.Pairwise.nil, rfl⟩, Sub.refl _, ?_, ⟨#[], rfl, trivial⟩, Lat.refl _ _⟩
    have : h.set r (.own (sortedRow cs off 0 [])) = h := by
      rw [show sortedRow cs off 0 [] = cs by simp [sortedRow]]
      exact set_same hr
    rw [this]
    exact R
  · have ha : a = ⟨p'.b, off, none⟩ := by rw [hc4 (by omega), q1, Nat.zero_add]
    subst ha
    let ix : Nat → Nat := fun i => if i < len then i else 0
    have hix : ∀ i, ix i < len := fun i => by simp only [ix]; split <;> omega
    have hixe : ∀ i, i < len → ix i = i := fun i hi => by simp only [ix, if_pos hi]
    let enc : Nat → Value := fun i => cur.getD (off + ix i) default
    let cf : Nat → Nat → Int := fun i j => cmpL (Ls.getD (ix i) []) (Ls.getD (ix j) [])
    have cell : ∀ i, ∃ x l, cs[off + ix i]? = some x ∧ Ls[ix i]? = some l ∧ cur[off + ix i]? = some (enc i) ∧ rep0 φ x (enc i) ∧ Ints (h.set r .gone) x l ∧ Ls.getD (ix i) [] = l := fun i => by
      have := hix i
      have hx : cs[off + ix i]? = some cs[off + ix i] := List.getElem?_eq_getElem (by omega)
      have hll : Ls[ix i]? = some Ls[ix i] := List.getElem?_eq_getElem (by omega)
      obtain ⟨v, e1, e2⟩ := q6 _ _ hx
      have hv : enc i = v := by simp only [enc, Array.getD_eq_getD_getElem?, e1]; rfl
      exact ⟨_, _, hx, hll, by rw [hv]; exact e1, by rw [hv]; exact e2, hi _ _ _ this hx hll, by simp [List.getD, hll]⟩
    have h1 : OneCell enc := fun i => by
      obtain ⟨x, l, _, _, _, g4, g5, _⟩ := cell i
      exact g5.cell1 g4
    have hOc : SWO (ltOf cf) := ⟨fun x => hO.irrefl _, fun x y z => hO.trans _ _ _, fun x y z => hO.ntrans _ _ _⟩
    have hH : Go.Sort.Holds enc w p'.b off (Array.range len) := fun j hj => by
      have hj' : j < len := by simpa using hj
      obtain ⟨x, l, g1, g2, g3, g4, g5, g6⟩ := cell j
      rw [getD_range len j hj']
      rw [hixe j hj'] at g3
      exact ⟨by rw [cell_of_row w p'.b (off + j) cur e (0, 0) q4]; exact g3, by simp [World.frozen?, q4]⟩
    have hblk : p'.b < w.heap.size := (Array.getElem?_eq_some_iff.1 q4).1
    have hcmp : CmpLays1 P CR #[] enc cf p'.b off (Array.range len).size w := by
      intro m os dk hdk x y
      have hW := sortWorld_heap enc w p'.b off m dk os
      have RW := (R.beside hr hp hW.1 hW.2).frozen
      obtain ⟨cx, lx, x1, x2, x3, x4, x5, x6⟩ := cell x
      obtain ⟨cy, ly, y1, y2, y3, y4, y5, y6⟩ := cell y
      have hcall := (hc (ix x) (ix y) cx cy lx ly (hix x) (hix y) x1 y1 x2 y2).out _ φ _ #[enc x, enc y] RW ⟨x4, y4, trivial⟩
      refine hcall.mono ?_
      rintro e' w' ⟨v, z, h', φ', rfl, rfl, _, _, g4, g5⟩
      obtain ⟨q, os', hq⟩ := g5.grows
      have hv := rep0_pl g4
      refine ⟨?_, q, os', hq⟩
      rw [hv]
      show _ = Ending.returned (.int .i64 (cmpL (Ls.getD (ix x) []) (Ls.getD (ix y) [])))
      rw [x6, y6]
    have hmain := Any.slices_SortFunc L enc h1 cf hOc CR #[] p'.b off cap (Array.range len) w eg hcmp hH hblk (by simpa using hlen)
    rw [Array.size_range] at hmain
    refine hmain.mono ?_
    rintro e' w' ⟨rfl, d', n, os, hperm, hsort, rfl⟩
    obtain ⟨hsz, _, hpm⟩ := hperm
    rw [Array.size_range] at hsz
    have hpm2 : d'.toList.Perm (List.range len) := by
      have e1 : d'.extract 0 len = d' := by rw [← hsz]; exact Array.extract_size
      have e2 : (Array.range len).extract 0 len = Array.range len := by
        have := Array.extract_size (xs := Array.range len)
        rwa [Array.size_range] at this
      rw [e1, e2] at hpm
      simpa using hpm
    have hlt : ∀ i ∈ d'.toList, i < len := fun i hi => by simpa using hpm2.mem_iff.1 hi
    have hdl : d'.toList.length = len := by simpa using hsz
    have hget : ∀ i, i < len → ∃ x, d'.toList[i]? = some x ∧ d'[i]! = x ∧ x < len := fun i hi => by
      have hi' : i < d'.size := by omega
      refine ⟨d'[i], by simp [hi'], by simp [hi'], ?_⟩
      exact hlt _ (by simp)
    refine ⟨_, .tup [], _, φ, rfl, ⟨rfl, d'.toList, hpm2, ?_, rfl⟩, Sub.refl _, ?_, ⟨#[], rfl, trivial⟩, ?_⟩
    · rw [List.pairwise_iff_getElem]
      intro i j hi hj hij
      have hs := hsort i j (Nat.zero_le _) hij (by omega)
      have hi' : i < d'.size := by simpa using hi
      have hj' : j < d'.size := by simpa using hj
      have ei : d'[i]! = d'[i] := by simp [hi']
      have ej : d'[j]! = d'[j] := by simp [hj']
      rw [ei, ej] at hs
      have li : d'[i] < len := hlt _ (by simp)
      have lj : d'[j] < len := hlt _ (by simp)
      simp only [ltOf, cf, hixe _ li, hixe _ lj, decide_eq_false_iff_not] at hs
      simpa using hs
    · let cur' := putCells enc off d' cur
      have w1 : Rep B0 φ (h.set r (.own (sortedRow cs off len d'.toList))) (putRow enc (Go.Sort.ahead w n) p'.b off d') := by
        refine R.rewrite (w' := putRow enc (Go.Sort.ahead w n) p'.b off d') (cur := cur') (e := e) hr hp ?_ ?_ ?_ ?_ ?_ ?_
        · simp [putRow, mapBlock, Go.Sort.ahead]
        · intro k hk
          simp [putRow, mapBlock, Go.Sort.ahead, Array.getElem?_modify, Ne.symm hk]
        · simp [putRow, mapBlock, Go.Sort.ahead, Array.getElem?_modify, q4, onCells, cur']
        · simp [cur', putCells, q5]
        · simp only [sortedRow, List.length_append, List.length_take, List.length_map, List.length_drop, hdl]
          omega
        · intro k c hk
          have hcur : ∀ k, cur'[k]? = (cur[k]?).map fun x => if off ≤ k ∧ k < off + d'.size then enc d'[k - off]! else x := fun k => by
            simp [cur', putCells, Array.getElem?_mapIdx]
          rw [hcur]
          simp only [sortedRow] at hk
          by_cases k1 : k < off
          · rw [List.append_assoc, List.getElem?_append_left (by simp; omega), List.getElem?_take_of_lt k1] at hk
            obtain ⟨v, e1, e2⟩ := q6 k c hk
            exact ⟨v, by rw [e1]; simp; omega, e2⟩
          · by_cases k2 : k < off + len
            · rw [List.append_assoc, List.getElem?_append_right (by simp; omega), List.getElem?_append_left (by simp [hdl]; omega)] at hk
              have htl : (cs.take off).length = off := by simp; omega
              rw [htl] at hk
              obtain ⟨x, g1, g2, g3⟩ := hget (k - off) (by omega)
              rw [List.getElem?_map, g1] at hk
              obtain ⟨cx, lx, x1, x2, x3, x4, x5, x6⟩ := cell x
              rw [hixe x g3] at x1
              simp only [Option.map_some, Option.some.injEq, List.getD, x1, Option.getD_some] at hk
              subst hk
              have hkc : k < cur.size := by omega
              refine ⟨enc x, ?_, x4⟩
              rw [Array.getElem?_eq_getElem hkc, Option.map_some, if_pos ⟨by omega, by omega⟩, g2]
            · rw [List.getElem?_append_right (by simp [hdl]; omega)] at hk
              have htl : (cs.take off ++ d'.toList.map (fun i => cs.getD (off + i) (ci 0))).length = off + len := by simp [hdl]; omega
              rw [htl, List.getElem?_drop] at hk
              have hk' : cs[k]? = some c := by
                rw [← hk]
                congr 1
                omega
              obtain ⟨v, e1, e2⟩ := q6 k c hk'
              exact ⟨v, by rw [e1]; simp; omega, e2⟩
      exact w1.still (by unfold sortWorld; rw [size_grow]; omega) (fun k hk => by unfold sortWorld; exact heap_grow_old _ _ hk)
    · have hW := sortWorld_heap enc w p'.b off n d' os
      exact ⟨⟨rfl, rfl, rfl, hW.1, fun k hk => hW.2 k (by omega) (by have := R.base; omega)⟩, by show w.drawn ≤ w.drawn + n; omega⟩

end Go.Proofs.Ytkkniibnlniflaa.Hx
