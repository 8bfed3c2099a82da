/-
  slices.SortFunc over a slice of elements of several cells, for the calculus of rows.
  DERIVED: THE SHELF's CONTRACTS AT THIS DUMP, IN PLAIN WORDS (tools/lay-plain.mjs out of 'YtgliajcgcbnemaaGreatDoorSp.lean', which tools/lay-shelf.mjs wrote): THE SAME DECLARATIONS UNDER THE SAME NAMES: 'import', 'namespace', 'open', 'def', 'theorem' AND NOTHING ELSE: no command of the shelf's: FOR A HAND-IN. Each laying: the table of numbers ('.._ren') and one theorem, a field a fact of the dump's own or the kernel's comparison; each contract: ONE APPLICATION.
  The roots up to a height as the program collects them.
  The roots up to a height as the program collects them: the whole function.
-/
import Derived.Test.YtgliajcgcbnemaaGreatDoorZ20
import Derived.Shelf.SlSortCmp.NoneTotal
import Derived.Shelf.SlGeneric
import Derived.Ground.SlsfProg
import Derived.Test.YtgliajcgcbnemaaGreatDoorProg
namespace Go.Proofs.YtgliajcgcbnemaaGreatDoor.Hx
open Go.RowKit
variable {dm : Bool}

/-- An element's cells. -/
def chunk (k : Nat) (cs : List H0) (i : Nat) : List H0 := (cs.drop (k * i)).take k

theorem chunk_get {k : Nat} {cs : List H0} {i t : Nat} (ht : t < k) : (chunk k cs i)[t]? = cs[k * i + t]? := by
  unfold chunk
  rw [List.getElem?_take_of_lt ht, List.getElem?_drop]

theorem chunk_length {k : Nat} {cs : List H0} {i n : Nat} (h : cs.length = k * n) (hi : i < n) : (chunk k cs i).length = k := by
  have : k * (i + 1) ≤ k * n := Nat.mul_le_mul_left k hi
  rw [Nat.mul_add, Nat.mul_one] at this
  unfold chunk
  simp
  omega

theorem flat_get {k : Nat} (hk : 0 < k) {f : Nat → List H0} : ∀ (σ : List Nat), (∀ i ∈ σ, (f i).length = k) → ∀ (t : Nat) (x : Nat), σ[t / k]? = some x → (σ.flatMap f)[t]? = (f x)[t % k]?
  | [], _, t, x, h => by simp at h
  | i :: σ, hl, t, x, h => by
    rw [List.flatMap_cons]
    have h1 := hl i (by simp)
    by_cases ht : t < k
    · rw [List.getElem?_append_left (by omega)]
      rw [Nat.div_eq_of_lt ht] at h
      simp at h
      subst h
      rw [Nat.mod_eq_of_lt ht]
    · rw [List.getElem?_append_right (by omega), h1]
      have e1 : t / k = (t - k) / k + 1 := by rw [Nat.div_eq_sub_div hk (by omega)]
      have e2 : t % k = (t - k) % k := Nat.mod_eq_sub_mod (by omega)
      rw [e1] at h
      rw [e2]
      exact flat_get hk σ (fun j hj => hl j (by simp [hj])) (t - k) x (by simpa using h)

theorem flat_length {k : Nat} {f : Nat → List H0} : ∀ (σ : List Nat), (∀ i ∈ σ, (f i).length = k) → (σ.flatMap f).length = k * σ.length
  | [], _ => by simp
  | i :: σ, h => by
    rw [List.flatMap_cons, List.length_append, h i (by simp), flat_length σ (fun j hj => h j (by simp [hj])), List.length_cons, Nat.mul_add, Nat.mul_one]
    omega

theorem repL.of {φ : Plan} : ∀ {xs : List H0} {vs : List Value}, xs.length = vs.length → (∀ (i : Nat) (x : H0) (v : Value), xs[i]? = some x → vs[i]? = some v → rep0 φ x v) → repL φ xs vs
  | [], [], _, _ => trivial
  | x :: xs, v :: vs, h, k => ⟨k 0 x v rfl rfl, repL.of (by simpa using h) fun i y u hy hu => k (i + 1) y u (by simpa using hy) (by simpa using hu)⟩
  | [], _ :: _, h, _ => by simp at h
  | _ :: _, [], h, _ => by simp at h

open Go.Sort Go.Shelf in
set_option maxHeartbeats 1000000 in
/-- slices.SortFunc over a row of elements of k cells. -/
theorem sortW_calls {P : Program} {ρ : Ren} (L : SlLaysF0.n6 P ρ) {k : Nat} (hk0 : 0 < k) (aE : ∀ w, (isAgg (ρ.t 24)).run P w = .ok true w) (zE : ∀ w, (Go.sizeOf (ρ.t 24)).run P w = .ok k w) {CR : FuncId} (eg : ∀ args w, (callFunc CR args).run P w = .ok (.enter CR args) w)
    (cf : Nat → Nat → Int) (hO : SWO (ltOf cf)) {h : Heap} {r len : Nat} {cs : List H0} (hr : h[r]? = some (.own cs)) (hl : cs.length = k * len) (hone : ∀ c ∈ cs, c.one = true) (hlen : len < 4611686018427387904)
    (hc : ∀ (i j : Nat), i < len → j < len → HCalls true P CR [.agg (chunk k cs i), .agg (chunk k cs j)] (freeze (h.set r .gone)) (fun z _ => z = I (cf i j))) :
    HCalls dm P (ρ.f 6) [.s (.sw k r 0 len), .fn CR []] h (fun z h' => z = .tup [] ∧ ∃ σ : List Nat, σ.Perm (List.range len) ∧ σ.Pairwise (fun i j => ¬ cf j i < 0) ∧ h' = h.set r (.own (σ.flatMap (chunk k cs)))) := by
  refine ⟨L.f6.enters rfl, fun B0 φ w vargs R ha => ?_⟩
  obtain ⟨p, hp⟩ := R.place hr
  obtain ⟨q1, q2, q3, cur, e, q4, q5, q6⟩ := R.own r cs p hr hp
  have hvs : ∃ u v, vargs = #[u, v] ∧ rep0 φ (.sw k r 0 len) u ∧ repV φ (.fn CR []) v := by
    rcases vargs with ⟨vs⟩
    match vs, ha with
    | [u, v], hh => exact ⟨u, v, rfl, hh.1, hh.2.1⟩
  obtain ⟨u, v, rfl, hu, hv⟩ := hvs
  obtain ⟨p', a, cap, hp', rfl, hc1, hc2, hc3, hc4⟩ := hu
  obtain rfl : p' = p := Option.some.inj (hp'.symm.trans hp)
  obtain ⟨vs, rfl, hvs⟩ := hv
  obtain rfl : vs = #[] := by
    rcases vs with ⟨vl⟩
    match vl, hvs with
    | [], _ => rfl
  by_cases h0 : len = 0
  · subst h0
    refine (AnyF.slices_SortFunc_none L (some a) cap _ w).mono ?_
    rintro e' w' ⟨rfl, rfl⟩
    have e0 : cs = [] := List.eq_nil_of_length_eq_zero (by omega)
    subst e0
    refine ⟨_, .tup [], _, φ, rfl, ⟨rfl, [], by simp, List.Pairwise.nil, rfl⟩, Sub.refl _, ?_, ⟨#[], rfl, trivial⟩, Lat.refl _ _⟩
    have : h.set r (.own (([] : List Nat).flatMap (chunk k []))) = h := set_same hr
    rw [this]
    exact R
  · have ha : a = ⟨p'.b, 0, none⟩ := by rw [hc4 (by omega), q1]
    subst ha
    let ix : Nat → Nat := fun i => if i < len then i else 0
    have hix : ∀ i, ix i < len := fun i => by simp only [ix]; split <;> omega
    have hixe : ∀ i, i < len → ix i = i := fun i hi => by simp only [ix, if_pos hi]
    let enc : Nat → List Value := fun i => (List.range k).map fun t => cur.getD (k * ix i + t) default
    have hk : ∀ x, (enc x).length = k := fun x => by simp [enc]
    have inb : ∀ i t, i < len → t < k → k * i + t < cs.length := fun i t hi ht => by
      have : k * (i + 1) ≤ k * len := Nat.mul_le_mul_left k hi
      rw [Nat.mul_add, Nat.mul_one] at this
      omega
    have cell : ∀ i t, t < k → ∃ x, cs[k * ix i + t]? = some x ∧ cur[k * ix i + t]? = some (cur.getD (k * ix i + t) default) ∧ rep0 φ x (cur.getD (k * ix i + t) default) ∧ x.one = true := fun i t ht => by
      have hx : cs[k * ix i + t]? = some (cs[k * ix i + t]'(inb _ _ (hix i) ht)) := List.getElem?_eq_getElem (inb _ _ (hix i) ht)
      obtain ⟨v, e1, e2⟩ := q6 _ _ hx
      have hv : cur.getD (k * ix i + t) default = v := by simp only [Array.getD_eq_getD_getElem?, e1]; rfl
      exact ⟨_, hx, by rw [hv]; exact e1, by rw [hv]; exact e2, hone _ (List.mem_of_getElem? hx)⟩
    have encg : ∀ i t, t < k → (enc i)[t]? = some (cur.getD (k * ix i + t) default) := fun i t ht => by simp [enc, ht]
    have h1 : ∀ x, ∀ v ∈ enc x, v.oneCell' = true := fun x v hv => by
      obtain ⟨t, ht, rfl⟩ := List.mem_map.1 hv
      obtain ⟨y, _, _, g3, g4⟩ := cell x t (List.mem_range.1 ht)
      exact one_rep g4 g3
    have hrepc : ∀ i, repL φ (chunk k cs (ix i)) (enc i) := fun i => by
      refine repL.of (by rw [chunk_length hl (hix i), hk]) (fun t x v hx hv => ?_)
      have ht : t < k := by have := (List.getElem?_eq_some_iff.1 hv).1; rw [hk] at this; exact this
      rw [chunk_get ht] at hx
      rw [encg i t ht] at hv
      cases hv
      obtain ⟨y, g1, _, g3, _⟩ := cell i t ht
      rw [hx] at g1
      cases g1
      exact g3
    let cf' : Nat → Nat → Int := fun i j => cf (ix i) (ix j)
    have hOc : SWO (ltOf cf') := ⟨fun x => hO.irrefl _, fun x y z => hO.trans _ _ _, fun x y z => hO.ntrans _ _ _⟩
    have hsz0 : (Array.range len).size = len := by simp
    have getr : ∀ q, q < len → (Array.range len)[q]! = q := fun q hq => by simp [hq]
    have hcur : ∀ i t, i < len → t < k → cur[k * i + t]? = some ((enc i)[t]!) := fun i t hi ht => by
      obtain ⟨y, _, g2, _⟩ := cell i t ht
      rw [hixe i hi] at g2
      rw [g2]
      have := encg i t ht
      rw [hixe i hi] at this
      simp [List.getElem!_eq_getElem?_getD, this]
    have hH : Go.Sort.HoldsK enc k w p'.b 0 (Array.range len) := fun j hj => by
      rw [size_flatK, hsz0] at hj
      have hq : j / k < len := Nat.div_lt_of_lt_mul (by rw [Nat.mul_comm]; exact hj)
      have hmk : j % k < k := Nat.mod_lt _ hk0
      rw [get_flatK _ _ _ _ (by rw [hsz0]; exact hj), getr _ hq]
      have := hcur _ _ hq hmk
      rw [Nat.div_add_mod] at this
      rw [Nat.zero_add]
      exact ⟨by rw [cell_of_row w p'.b j cur e (0, 0) q4]; exact this, by simp [World.frozen?, q4]⟩
    have hblk : p'.b < w.heap.size := (Array.getElem?_eq_some_iff.1 q4).1
    have swk : ∀ m dk os, sortWorldK enc k w p'.b 0 m dk os = Go.Proofs.sortWorld id w p'.b 0 m (flatK enc k dk) os := fun _ _ _ => rfl
    have hcmp : CmpLays P CR #[] enc k cf' p'.b 0 (Array.range len).size w := by
      intro m os dk hdk x y
      have hW := sortWorld_heap id w p'.b 0 m (flatK enc k dk) os
      have RW := (R.beside hr hp hW.1 hW.2).frozen
      have hcall := (hc (ix x) (ix y) (hix x) (hix y)).out _ φ _ #[.agg (enc x).toArray, .agg (enc y).toArray] RW ⟨⟨_, rfl, by simpa using hrepc x⟩, ⟨_, rfl, by simpa using hrepc y⟩, trivial⟩
      refine hcall.mono ?_
      rintro e' w' ⟨v, z, h', φ', rfl, rfl, _, _, g4, g5⟩
      obtain ⟨q, os', hq⟩ := g5.grows
      have hv := rep0_pl g4
      refine ⟨?_, q, os', hq⟩
      rw [hv]
    have hmain := AnyQ.slices_SortFunc L k aE zE enc hk h1 cf' hOc CR #[] p'.b 0 cap (Array.range len) w eg hcmp hH hblk (by simpa using hlen)
    rw [hsz0] at hmain
    refine hmain.mono ?_
    rintro e' w' ⟨rfl, d', n, os, hperm, hsort, rfl⟩
    obtain ⟨hsz, _, hpm⟩ := hperm
    rw [hsz0] at hsz
    have hpm2 : d'.toList.Perm (List.range len) := by
      have e1 : d'.extract 0 len = d' := by rw [← hsz]; exact Array.extract_size
      have e2 : (Array.range len).extract 0 len = Array.range len := by
        have := Array.extract_size (xs := Array.range len)
        rwa [hsz0] at this
      rw [e1, e2] at hpm
      simpa using hpm
    have hlt : ∀ i ∈ d'.toList, i < len := fun i hi => by simpa using hpm2.mem_iff.1 hi
    have hdl : d'.toList.length = len := by simpa using hsz
    have hcl : ∀ i ∈ d'.toList, (chunk k cs i).length = k := fun i hi => chunk_length hl (hlt i hi)
    refine ⟨_, .tup [], _, φ, rfl, ⟨rfl, d'.toList, hpm2, ?_, rfl⟩, Sub.refl _, ?_, ⟨#[], rfl, trivial⟩, ?_⟩
    · rw [List.pairwise_iff_getElem]
      intro i j hi hj hij
      have hs := hsort i j (Nat.zero_le _) hij (by omega)
      have hi' : i < d'.size := by simpa using hi
      have hj' : j < d'.size := by simpa using hj
      have ei : d'[i]! = d'[i] := by simp [hi']
      have ej : d'[j]! = d'[j] := by simp [hj']
      rw [ei, ej] at hs
      have li : d'[i] < len := hlt _ (by simp)
      have lj : d'[j] < len := hlt _ (by simp)
      simp only [ltOf, cf', hixe _ li, hixe _ lj, decide_eq_false_iff_not] at hs
      simpa using hs
    · have hflen := flat_length (k := k) (f := chunk k cs) d'.toList hcl
      rw [hdl] at hflen
      have w1 : Rep B0 φ (h.set r (.own (d'.toList.flatMap (chunk k cs)))) (putRow id (Go.Sort.ahead w n) p'.b 0 (flatK enc k d')) := by
        refine R.rewrite (w' := putRow id (Go.Sort.ahead w n) p'.b 0 (flatK enc k d')) (cur := putCells id 0 (flatK enc k d') cur) (e := e) hr hp ?_ ?_ ?_ ?_ ?_ ?_
        · simp [putRow, mapBlock, Go.Sort.ahead]
        · intro q hq
          simp [putRow, mapBlock, Go.Sort.ahead, Array.getElem?_modify, Ne.symm hq]
        · simp [putRow, mapBlock, Go.Sort.ahead, Array.getElem?_modify, q4, onCells]
        · simp [putCells, q5]
        · rw [hflen, ← hl]
          exact q3
        · intro q c hq
          have hql : q < k * len := by have := (List.getElem?_eq_some_iff.1 hq).1; omega
          have hqd : q / k < len := Nat.div_lt_of_lt_mul hql
          have hqm : q % k < k := Nat.mod_lt _ hk0
          have hdd : q / k < d'.size := by omega
          have hx : d'.toList[q / k]? = some d'[q / k] := by simp [hdd]
          have lx : d'[q / k] < len := hlt _ (by simp)
          rw [flat_get hk0 _ hcl q _ hx, chunk_get hqm] at hq
          obtain ⟨y, g1, g2, g3, _⟩ := cell (d'[q / k]) (q % k) hqm
          rw [hixe _ lx] at g1
          rw [hq] at g1
          cases g1
          refine ⟨_, ?_, g3⟩
          have hcs : q < cur.size := by omega
          have hfs : q < d'.size * k := by rw [hsz, Nat.mul_comm]; exact hql
          have hfl : (flatK enc k d')[q]! = cur.getD (k * ix d'[q / k] + q % k) default := by
            rw [get_flatK _ _ _ _ hfs]
            have e1 : d'[q / k]! = d'[q / k] := by simp [hdd]
            rw [e1, List.getElem!_eq_getElem?_getD, encg _ _ hqm]
            rfl
          simp only [putCells, Array.getElem?_mapIdx, Array.getElem?_eq_getElem hcs, Option.map_some]
          rw [if_pos ⟨by omega, by rw [size_flatK]; omega⟩, Nat.sub_zero, hfl]
          rfl
      exact w1.still (by show (putRow id (Go.Sort.ahead w n) p'.b 0 (flatK enc k d')).heap.size ≤ (grow (putRow id (Go.Sort.ahead w n) p'.b 0 (flatK enc k d')) os).heap.size; rw [size_grow]; omega) (fun q hq => by show (grow _ _).heap[q]? = _; exact heap_grow_old _ _ hq)
    · have hW := sortWorld_heap id w p'.b 0 n (flatK enc k d') os
      exact ⟨⟨rfl, rfl, rfl, hW.1, fun q hq => hW.2 q (by omega) (by have := R.base; omega)⟩, fun _ => by show w.drawn ≤ w.drawn + n; omega⟩

end Go.Proofs.YtgliajcgcbnemaaGreatDoor.Hx

namespace Go.Proofs
open Go.Shelf
def Tryz.sortP_ren : Go.Shelf.Ren := ⟨fun | 6 => 241 | 15 => 151 | 14 => 265 | 28 => 207 | 29 => 208 | 20 => 281 | 21 => 282 | 22 => 283 | 23 => 284 | 24 => 285 | 25 => 286 | 26 => 287 | 27 => 288 | 46 => 299 | 47 => 235 | 48 => 236 | 49 => 300 | 50 => 301 | 57 => 308 | n => n, fun | 22 => 160 | 24 => 163 | 25 => 166 | 3 => 3 | 39 => 99 | 0 => 0 | 53 => 139 | 55 => 141 | 4 => 4 | 46 => 133 | 45 => 132 | 50 => 116 | 5 => 5 | 9 => 9 | 66 => 154 | 70 => 158 | 76 => 181 | 77 => 182 | n => n, fun | n => n⟩
theorem Tryz.sortP : Go.Proofs.SlLaysF0.n6 Tryz.prog Tryz.sortP_ren := {
  mixed := by kernel_rfl
  f6 := ⟨Tryz.f241.name, by decide, Tryz.func241.trans (congrArg some (by kernel_rfl))⟩
  f14 := ⟨Tryz.f265.name, by decide, Tryz.func265.trans (congrArg some (by kernel_rfl))⟩
  f15 := Tryz.func151.trans (congrArg some (by kernel_rfl))
  f20 := ⟨Tryz.f281.name, by decide, Tryz.func281.trans (congrArg some (by kernel_rfl))⟩
  f21 := ⟨Tryz.f282.name, by decide, Tryz.func282.trans (congrArg some (by kernel_rfl))⟩
  f22 := ⟨Tryz.f283.name, by decide, Tryz.func283.trans (congrArg some (by kernel_rfl))⟩
  f23 := ⟨Tryz.f284.name, by decide, Tryz.func284.trans (congrArg some (by kernel_rfl))⟩
  f24 := ⟨Tryz.f285.name, by decide, Tryz.func285.trans (congrArg some (by kernel_rfl))⟩
  f25 := ⟨Tryz.f286.name, by decide, Tryz.func286.trans (congrArg some (by kernel_rfl))⟩
  f26 := ⟨Tryz.f287.name, by decide, Tryz.func287.trans (congrArg some (by kernel_rfl))⟩
  f27 := ⟨Tryz.f288.name, by decide, Tryz.func288.trans (congrArg some (by kernel_rfl))⟩
  f28 := Tryz.func207.trans (congrArg some (by kernel_rfl))
  f29 := Tryz.func208.trans (congrArg some (by kernel_rfl))
  f46 := ⟨Tryz.f299.name, by decide, Tryz.func299.trans (congrArg some (by kernel_rfl))⟩
  f47 := Tryz.func235.trans (congrArg some (by kernel_rfl))
  f48 := Tryz.func236.trans (congrArg some (by kernel_rfl))
  f49 := ⟨Tryz.f300.name, by decide, Tryz.func300.trans (congrArg some (by kernel_rfl))⟩
  f50 := ⟨Tryz.f301.name, by decide, Tryz.func301.trans (congrArg some (by kernel_rfl))⟩
  f57 := ⟨Tryz.f308.name, by decide, Tryz.func308.trans (congrArg some (by kernel_rfl))⟩
  t0 := Tryz.underlying0
  a0 := Tryz.isAgg0
  z0 := Tryz.sizeOf0
  v0 := Tryz.zeroValue0
  t3 := Tryz.underlying3
  a3 := Tryz.isAgg3
  z3 := Tryz.sizeOf3
  v3 := Tryz.zeroValue3
  t4 := Tryz.underlying4
  a4 := Tryz.isAgg4
  z4 := Tryz.sizeOf4
  v4 := Tryz.zeroValue4
  t5 := Tryz.underlying5
  a5 := Tryz.isAgg5
  z5 := Tryz.sizeOf5
  v5 := Tryz.zeroValue5
  t9 := Tryz.underlying9
  a9 := Tryz.isAgg9
  z9 := Tryz.sizeOf9
  v9 := Tryz.zeroValue9
  t22 := Tryz.underlying160
  a22 := Tryz.isAgg160
  z22 := Tryz.sizeOf160
  v22 := Tryz.zeroValue160
  t25 := Tryz.underlying166
  a25 := Tryz.isAgg166
  z25 := Tryz.sizeOf166
  v25 := Tryz.zeroValue166
  t39 := Tryz.underlying99
  a39 := Tryz.isAgg99
  z39 := Tryz.sizeOf99
  v39 := Tryz.zeroValue99
  t45 := Tryz.underlying132
  a45 := Tryz.isAgg132
  z45 := Tryz.sizeOf132
  v45 := Tryz.zeroValue132
  t46 := Tryz.underlying133
  a46 := Tryz.isAgg133
  z46 := Tryz.sizeOf133
  v46 := Tryz.zeroValue133
  t50 := Tryz.underlying116
  a50 := Tryz.isAgg116
  z50 := Tryz.sizeOf116
  v50 := Tryz.zeroValue116
  t53 := Tryz.underlying139
  a53 := Tryz.isAgg139
  z53 := Tryz.sizeOf139
  v53 := Tryz.zeroValue139
  t55 := Tryz.underlying141
  a55 := Tryz.isAgg141
  z55 := Tryz.sizeOf141
  v55 := Tryz.zeroValue141
  t66 := Tryz.underlying154
  a66 := Tryz.isAgg154
  z66 := Tryz.sizeOf154
  v66 := Tryz.zeroValue154
  t70 := Tryz.underlying158
  a70 := Tryz.isAgg158
  z70 := Tryz.sizeOf158
  v70 := Tryz.zeroValue158
  t76 := Tryz.underlying181
  a76 := Tryz.isAgg181
  z76 := Tryz.sizeOf181
  v76 := Tryz.zeroValue181
  t77 := Tryz.underlying182
  a77 := Tryz.isAgg182
  z77 := Tryz.sizeOf182
  v77 := Tryz.zeroValue182 }
end Go.Proofs

namespace Go.Proofs.YtgliajcgcbnemaaGreatDoor.Hx
open Go.RowKit
variable {dm : Bool}

def trRow (c : List (List Int)) (i k : Nat) : List Int := (List.range k).map fun j => ent c j i
def trTo (c : List (List Int)) (k : Nat) : List (List Int) := (List.range k).map fun i => trRow c i c.length
theorem trRow_len (c : List (List Int)) (i k : Nat) : (trRow c i k).length = k := by simp [trRow]
theorem trRow_succ (c : List (List Int)) (i k : Nat) : trRow c i (k + 1) = trRow c i k ++ [ent c k i] := by simp [trRow, List.range_succ]
theorem trTo_len (c : List (List Int)) (k : Nat) : (trTo c k).length = k := by simp [trTo]
theorem trTo_succ (c : List (List Int)) (k : Nat) : trTo c (k + 1) = trTo c k ++ [trRow c k c.length] := by simp [trTo, List.range_succ]
def simples (c : List (List Int)) (k : Nat) : List (List Int) := (List.range k).map fun i => simpleRoot c (i : Nat)
theorem simples_len (c : List (List Int)) (k : Nat) : (simples c k).length = k := by simp [simples]
theorem simples_succ (c : List (List Int)) (k : Nat) : simples c (k + 1) = simples c k ++ [simpleRoot c (k : Nat)] := by simp [simples, List.range_succ]
theorem simple_inj {c : List (List Int)} (hC : Cartan c) {i j : Nat} (hi : i < c.length) (hj : j < c.length) (h : simpleRoot c (i : Nat) = simpleRoot c (j : Nat)) : i = j := by
  have e1 := (simple_pos hC hi).2
  have e2 := (simple_pos hC hj).2
  rw [h, e2] at e1
  have := congrFun e1 i
  simp only [unitP, if_true] at this
  by_cases e : i = j
  · exact e
  · rw [if_neg e] at this
    cases this
theorem simples_nodup {c : List (List Int)} (hC : Cartan c) : ∀ k, k ≤ c.length → (simples c k).Nodup
  | 0, _ => by simp [simples]
  | k + 1, hk => by
    rw [simples_succ, List.nodup_append]
    refine ⟨simples_nodup hC k (by omega), by simp, fun a ha b hb e => ?_⟩
    obtain ⟨i, hi, rfl⟩ := List.mem_map.1 ha
    have hi := List.mem_range.1 hi
    obtain rfl : b = _ := by simpa using hb
    have := simple_inj hC (i := i) (j := k) (by omega) (by omega) e
    omega
theorem mem_simples {c : List (List Int)} {k : Nat} {r : List Int} : r ∈ simples c k ↔ ∃ i, i < k ∧ r = simpleRoot c (i : Nat) := by
  simp only [simples, List.mem_map, List.mem_range]
  constructor
  · rintro ⟨i, h, rfl⟩; exact ⟨i, h, rfl⟩
  · rintro ⟨i, h, rfl⟩; exact ⟨i, h, rfl⟩

theorem HIdxW.nat {n r len j : Nat} {k : IntKind} {K : HV → Prop} (h1 : j < len) (hK : K (.s (.ptr r (n * j)))) : HIdxW n (.s (.sw n r 0 len)) (.s (.pl (.int k (j : Int)))) K :=
  ⟨r, 0, len, k, j, rfl, rfl, by omega, by omega, by rw [Int.toNat_natCast, Nat.zero_add]; exact hK⟩
theorem prCells_chunk (N : Nat) (ρ τ : Nat → Nat) {n i : Nat} (hi : i < n) : ((prCells N ρ τ n).drop (2 * i)).take 2 = [.sl (ρ i) 0 N, .sl (τ i) 0 N] := by
  obtain ⟨g1, g2⟩ := prCells_get N ρ τ hi
  apply List.ext_getElem?
  intro t
  by_cases ht : t < 2
  · rw [List.getElem?_take_of_lt ht, List.getElem?_drop]
    have f : t = 0 ∨ t = 1 := by omega
    rcases f with rfl | rfl
    · rw [Nat.add_zero, g1]; rfl
    · rw [g2]; rfl
  · rw [List.getElem?_eq_none (by simp; omega), List.getElem?_eq_none (by simp; omega)]


theorem impl_TransposeCartan (h : Heap) (x0 : H0) (c : List (List Int)) (hx0 : Rows h x0 c) (hC : Cartan c) :
    HCalls dm Tryz.prog 239 [.s x0] h (fun r h' => ∃ y, r = .s y ∧ Ext h h' ∧ OwnM h.length h'.length h' y (transp c)) := by
  have h4 := hC.le
  refine calls_of_hFun (m := 0) kd_ok mixed Tryz.func239 rfl (by kernel_rfl) rfl rfl (of_decide_eq_true rfl) ?_; unfold hFun; (conv => whnf)
  refine (impl_IsCartan _ _ _ hx0 (by omega)).mono ?_
  rintro r h1 ⟨rfl, rfl⟩
  rw [(isCartan_iff c).2 hC]
  (conv => whnf)
  refine HIf.isF rfl ?_
  (conv => whnf)
  have hx10 := hx0.ext (Ext.push h1 [Row.own []])
  refine HLit.empty ?_
  (conv => whnf)
  refine ⟨rfl, hx10.len ?_⟩
  (conv => whnf)
  refine HLoop.intro [14, 3] [15, 16, 4, 17, 5, 18, 19, 20, 21, 22, 6, 23, 24, 25, 26, 27, 28, 29, 30, 31, 32, 5, 33, 20, 34, 35, 36, 37, 3, 38, 14] (by kernel_rfl) (by kernel_rfl) (fun vs h' => ∃ (a : Nat) (z : H0), vs = [I a, .s z] ∧ a ≤ c.length ∧ Ext h1 h' ∧ OwnM h1.length h'.length h' z (trTo c a)) (fun vs _ => c.length - natAt vs 0) ⟨0, _, rfl, by omega, Ext.push _ _, OwnM.none h1⟩ ?_
  rintro vs h' ⟨a, z, rfl, ha, E, OM⟩
  have hpl := trTo_len c a
  have hx1 := hx0.ext E
  (conv => whnf)
  refine HIf.dec (fun hlt => ?_) (fun hge => ?_)
  · have Ep := Ext.push h' [Row.own []]
    have hx1p := hx1.ext Ep
    (conv => whnf)
    refine HLit.empty ?_
    (conv => whnf)
    refine ⟨rfl, hx1p.len ?_⟩
    (conv => whnf)
    refine HLoop.intro [20, 5] [21, 22, 6, 23, 24, 25, 26, 27, 28, 29, 30, 31, 32, 5, 33, 20] (by kernel_rfl) (by kernel_rfl) (fun vs h2 => ∃ (b : Nat) (y : H0) (r : Nat), vs = [I b, .s y] ∧ b ≤ c.length ∧ Ext h' h2 ∧ h'.length ≤ r ∧ OwnR r h2 y (trRow c a b)) (fun vs _ => c.length - natAt vs 0) ⟨0, _, h'.length, rfl, by omega, Ep, Nat.le_refl _, OwnR.push h' []⟩ ?_
    rintro vs h2 ⟨b, y, r, rfl, hb, E2, hr, O⟩
    have hrl := trRow_len c a b
    have hE2 := E2.1
    (conv => whnf)
    refine HIf.dec (fun hltb => ?_) (fun hgeb => ?_)
    · have hrow := hC.row b (by omega)
      (conv => whnf)
      refine ⟨rfl, Rows.idxN (hx1.ext E2) (by omega) (fun p3 y3 hp3 hy3 => ?_)⟩
      (conv => whnf)
      refine ⟨rfl, hp3.load ?_⟩
      (conv => whnf)
      refine ⟨rfl, Ints.idxN hy3 (by omega) (fun p4 hp4 => ?_)⟩
      (conv => whnf)
      refine ⟨rfl, hp4.load ?_⟩
      rw [ent_eq]
      (conv => whnf)
      refine HLit.one ?_
      (conv => whnf)
      refine ⟨rfl, rfl, HApp.snocR O (by omega) (fun h3 r3 y5 B3 hr3 O3 => ?_)⟩
      rw [← trRow_succ] at O3
      (conv => whnf)
      refine HArith.fits (by omega) (by omega) ?_
      (conv => whnf)
      exact ⟨⟨b + 1, y5, r3, rfl, by omega, E2.but B3 hr, by omega, O3⟩, by show c.length - (b + 1) < c.length - b; omega⟩
    · have e : b = c.length := by omega
      subst e
      have F := O.own hr
      (conv => whnf)
      refine HLit.row F.one ?_
      (conv => whnf)
      refine ⟨rfl, rfl, HApp.snocM E OM E2 F (by omega) (fun h5 y5 E5 O5 => ?_)⟩
      rw [← trTo_succ] at O5
      (conv => whnf)
      refine HArith.fits (by omega) (by omega) ?_
      (conv => whnf)
      exact ⟨⟨a + 1, y5, rfl, by omega, E5, O5⟩, by show c.length - (a + 1) < c.length - a; omega⟩
  · have e : a = c.length := by omega
    subst e
    (conv => whnf)
    exact ⟨_, rfl, E, OM⟩

theorem impl_cmpPair (h : Heap) (x x' y y' : H0) (a b : List Int) (hx : Ints h x a) (hy : Ints h y b) (h1 : x.one = true) (h2 : x'.one = true) (h3 : y.one = true) (h4 : y'.one = true) (hal : a.length ≤ 1048576) (hbl : b.length ≤ 1048576) :
    HCalls dm Tryz.prog 242 [.agg [x, x'], .agg [y, y']] h (fun r _ => r = I (cmpR a b)) := by
  have o1 : ∀ c ∈ [x, x'], c.one = true := fun c hc => by
    simp only [List.mem_cons, List.not_mem_nil, or_false] at hc
    rcases hc with rfl | rfl <;> assumption
  have o2 : ∀ c ∈ [y, y'], c.one = true := fun c hc => by
    simp only [List.mem_cons, List.not_mem_nil, or_false] at hc
    rcases hc with rfl | rfl <;> assumption
  refine calls_of_hFun (m := 0) kd_ok mixed Tryz.func242 rfl (by kernel_rfl) rfl rfl (of_decide_eq_true rfl) ?_; unfold hFun; (conv => whnf)
  refine ⟨o1, ?_⟩
  (conv => whnf)
  refine ⟨o2, ?_⟩
  have E1 := Ext.push h [Row.own [x, x']]
  have g1 := get_new h (Row.own [x, x'])
  have E2 := Ext.push (h ++ [Row.own [x, x']]) [Row.own [y, y']]
  have g2 := get_new (h ++ [Row.own [x, x']]) (Row.own [y, y'])
  have g1' := E2.row g1
  have E := E1.trans E2
  generalize (h ++ [Row.own [x, x']]) ++ [Row.own [y, y']] = h2 at E g2 g1' ⊢
  generalize (h ++ [Row.own [x, x']]).length = n2 at g2 ⊢
  (conv => whnf)
  refine HField.at' (by decide) ?_
  (conv => whnf)
  refine ⟨rfl, At.load ⟨_, 0, _, [x, x'], rfl, g1', rfl, rfl⟩ ?_⟩
  (conv => whnf)
  refine HField.at' (by decide) ?_
  (conv => whnf)
  refine ⟨rfl, At.load ⟨_, 0, _, [y, y'], rfl, g2, rfl, rfl⟩ ?_⟩
  (conv => whnf)
  refine (impl_compareRoots _ _ _ _ _ (hx.ext E) (hy.ext E) hal hbl).mono ?_
  rintro r h3 ⟨rfl, _⟩
  (conv => whnf)
  rfl

end Go.Proofs.YtgliajcgcbnemaaGreatDoor.Hx

namespace Go.Proofs.YtgliajcgcbnemaaGreatDoor.Hx
open Go.RowKit
variable {dm : Bool}

/-- What the list holds while the roots are mirrored one after the other. -/
structure Coll (c : List (List Int)) (H : Int) (Q : List (List Int)) : Prop where
  nodup : Q.Nodup
  up : ∀ r ∈ Q, RootUp c H r
  simple : ∀ i, i < c.length → simpleRoot c (i : Nat) ∈ Q

def ClosedAt (c : List (List Int)) (H : Int) (Q : List (List Int)) (r : List Int) (i : Nat) : Prop := rootSign (mirror c i r) = 1 → heightOf (mirror c i r) ≤ H → mirror c i r ∈ Q

theorem Coll.all {c : List (List Int)} {H : Int} {Q : List (List Int)} (C : Coll c H Q) (h : ∀ r ∈ Q, ∀ i, i < c.length → ClosedAt c H Q r i) (r : List Int) : r ∈ Q ↔ RootUp c H r := by
  refine ⟨C.up r, fun hr => ?_⟩
  induction hr with
  | simple i hi => exact C.simple i hi
  | step i hi _ hs hh _ ih => exact h _ ih i hi hs hh

/-- A state of the memory with some list. -/
def StV (b bm bh bl m : Nat) (ht : Int) (N : Nat) (Q : List (List Int)) (h : Heap) : Prop := ∃ q ρ τ T, Prs b bm bh bl m q ht N ρ τ Q T h

theorem simple_facts {c : List (List Int)} (hC : Cartan c) {i : Nat} (hi : i < c.length) : rootSign (simpleRoot c (i : Nat)) = 1 ∧ heightOf (simpleRoot c (i : Nat)) = 1 ∧ (simpleRoot c (i : Nat)).length = c.length := by
  obtain ⟨n, R, g1, g2⟩ := (RootUp.simple (c := c) (H := 1) i hi).facts hC (by omega) (by omega)
  have e := (simple_pos hC hi).2
  have hn : n = 1 := by omega
  subst hn
  refine ⟨rootSign_one.2 ⟨R.nonneg, i, ?_⟩, R.height, R.len⟩
  have : (simpleRoot c (i : Nat)).getD i 0 = 1 := by
    have := congrFun e i
    rw [show unitP i i = 1 by unfold unitP; rw [if_pos rfl]] at this
    exact this
  omega

theorem HApp.rawS {h : Heap} {r q n : Nat} {cs : List H0} {y : H0} {K : HV → Heap → Prop} (hr : h[r]? = some (.own cs)) (hq : h[q]? = some (.own [y])) (hn : cs.length = n) (h1 : y.one = true) (hl : n ≤ 1048576) (hK : K (.s (.sl h.length 0 (n + 1))) (h.set r .gone ++ [.own (cs ++ [y])])) : HApp h (.s (.sl r 0 n)) (.s (.sl q 0 1)) K := by
  have hs : Shows h (.s (.sl q 0 1)) [y] := Shows.own q 0 1 [y] hq (by simp)
  refine ⟨[y], hs, fun c hc => ?_, cs, rfl, hr, by omega, Or.inl ⟨by simp; omega, ?_⟩⟩
  · obtain rfl : c = y := by simpa using hc
    exact h1
  · have e : cs.take n = cs := by rw [← hn, List.take_length]
    rw [e]
    exact hK

theorem rawS_facts {h : Heap} {r : Nat} {x y : Row} (hr : r < h.length) : ((h ++ [x]).set r .gone ++ [y]).length = h.length + 2 ∧ ((h ++ [x]).set r .gone ++ [y])[h.length + 1]? = some y ∧ ∀ z, z < h.length → z ≠ r → ((h ++ [x]).set r .gone ++ [y])[z]? = h[z]? := by
  have hL : ((h ++ [x]).set r Row.gone).length = h.length + 1 := by simp
  refine ⟨by simp, ?_, fun z hz hn => ?_⟩
  · have := get_new ((h ++ [x]).set r .gone) y
    rwa [hL] at this
  · rw [List.getElem?_append_left (by omega), List.getElem?_set_ne (Ne.symm hn), List.getElem?_append_left hz]

def slCells (N : Nat) (ρ : Nat → Nat) (n : Nat) : List H0 := (List.range n).map fun j => .sl (ρ j) 0 N
theorem slCells_length (N : Nat) (ρ : Nat → Nat) (n : Nat) : (slCells N ρ n).length = n := by simp [slCells]
theorem slCells_succ (N : Nat) (ρ : Nat → Nat) (n : Nat) : slCells N ρ (n + 1) = slCells N ρ n ++ [.sl (ρ n) 0 N] := by simp [slCells, List.range_succ]
theorem slCells_get (N : Nat) (ρ : Nat → Nat) {n i : Nat} (hi : i < n) : (slCells N ρ n)[i]? = some (.sl (ρ i) 0 N) := by simp [slCells, hi]

theorem flatMap_range (f : Nat → List H0) : ∀ (σ : List Nat), σ.flatMap f = (List.range σ.length).flatMap fun j => f (σ.getD j 0)
  | [] => rfl
  | a :: σ => by
    rw [List.length_cons, List.range_succ_eq_map, List.flatMap_cons, List.flatMap_cons, List.flatMap_map, flatMap_range f σ]
    rfl

theorem sorted_cells {N n : Nat} {ρ τ : Nat → Nat} {σ : List Nat} (hp : σ.Perm (List.range n)) : σ.flatMap (chunk 2 (prCells N ρ τ n)) = prCells N (fun j => ρ (σ.getD j 0)) (fun j => τ (σ.getD j 0)) n := by
  have hl : σ.length = n := by simpa using hp.length_eq
  rw [flatMap_range, hl]
  unfold prCells
  rw [List.flatMap_def, List.flatMap_def]
  refine congrArg List.flatten (List.map_congr_left fun j hj => ?_)
  have hj := List.mem_range.1 hj
  have hm : σ.getD j 0 ∈ σ := by simp [List.getD, show j < σ.length by omega]
  have hlt : σ.getD j 0 < n := by simpa using hp.mem_iff.1 hm
  exact prCells_chunk N ρ τ hlt

theorem getD_in {L : List (List Int)} {i : Nat} (h : i < L.length) : L.getD i [] ∈ L := by
  simp [List.getD, h]
theorem getD_pre {Q X : List (List Int)} {i : Nat} (h : i < Q.length) : (Q ++ X).getD i [] = Q.getD i [] := by
  simp only [List.getD]
  rw [List.getElem?_append_left h]
theorem ClosedAt.more {c : List (List Int)} {H : Int} {Q X : List (List Int)} {r : List Int} {i : Nat} (h : ClosedAt c H Q r i) : ClosedAt c H (Q ++ X) r i := fun a b => List.mem_append.2 (Or.inl (h a b))


set_option maxHeartbeats 4000000 in
theorem impl_pairedRoots (h : Heap) (x0 : H0) (c : List (List Int)) (H : Int) (hx0 : Rows h x0 c) (hC : Cartan c) (hH1 : 1 ≤ H) (hH : H ≤ 12) :
    HCalls dm Tryz.prog 212 [.s x0, I H] h (fun r h' => ∃ y z, r = .tup [y, z] ∧ Ext h h' ∧ ∃ L, RootList c H L ∧ OwnM h.length h'.length h' y L) := by
  have h4 := hC.le
  have hpos := hC.pos
  refine calls_of_hFun (m := 0) kd_ok mixed Tryz.func212 rfl (by kernel_rfl) rfl rfl (of_decide_eq_true rfl) ?_; unfold hFun; (conv => whnf)
  refine ⟨rfl, ci H, rfl, rfl, ?_⟩
  have E1 := Ext.push h [Row.own [ci H]]
  have gh := get_new h (Row.own [ci H])
  generalize h ++ [Row.own [ci H]] = h1 at E1 gh ⊢
  (conv => whnf)
  refine (impl_TransposeCartan _ _ _ (hx0.ext E1) hC).mono ?_
  rintro r hT ⟨yt, rfl, ET, OT⟩
  have RT := OT.rows
  have gh := ET.row gh
  have E := E1.trans ET
  have hx := hx0.ext E
  (conv => whnf)
  refine HLitW.none (by decide) ?_
  (conv => whnf)
  refine ⟨rfl, HStore.own (get_new _ _) Nat.zero_lt_one rfl ?_⟩
  rw [set_new]
  (conv => whnf)
  refine ⟨rfl, HStore.own (get_new _ _) Nat.zero_lt_one rfl ?_⟩
  rw [set_new]
  have e0 : ∀ (v : H0) (z : Value), ([z].map H0.pl).set 0 v = [v] := fun _ _ => rfl
  rw [e0, e0]
  have P0 : Prs hT.length (hT.length + 3) h.length (hT.length + 1) (hT.length + 2) hT.length H c.length id id [] [] (hT ++ [Row.own []] ++ [Row.own [H0.sw 2 hT.length 0 0]] ++ [Row.keys false []] ++ [Row.own [H0.mp (hT.length + 2)]]) := by
    have hl := get_lt gh
    refine ⟨by simp, ?_, by simp, ⟨[], by simp, by simp⟩, by simp [prCells], fun i hi => by simp at hi, fun i hi => by simp at hi, fun i j _ hj => by simp at hj, rfl, by omega, by omega, by omega, by omega, fun i hi => by simp at hi⟩
    rw [List.getElem?_append_left (by simp; omega), List.getElem?_append_left (by simp; omega), List.getElem?_append_left (by simp; omega), List.getElem?_append_left hl]
    exact gh
  have n1 : (hT ++ [Row.own []]).length = hT.length + 1 := by simp
  have n2 : (hT ++ [Row.own []] ++ [Row.own [H0.sw [Value.slice none 0 0, Value.slice none 0 0].length hT.length 0 0]]).length = hT.length + 2 := by simp
  have n3 : (hT ++ [Row.own []] ++ [Row.own [H0.sw [Value.slice none 0 0, Value.slice none 0 0].length hT.length 0 0]] ++ [Row.keys false []]).length = hT.length + 3 := by simp
  rw [n3, n2, n1]
  have E2 : Ext hT (hT ++ [Row.own []] ++ [Row.own [H0.sw 2 hT.length 0 0]] ++ [Row.keys false []] ++ [Row.own [H0.mp (hT.length + 2)]]) := (((Ext.push hT _).pushed _).pushed _).pushed _
  have e2 : ([Value.slice none 0 0, Value.slice none 0 0] : List Value).length = 2 := rfl
  rw [e2]
  generalize hT ++ [Row.own []] ++ [Row.own [H0.sw 2 hT.length 0 0]] ++ [Row.keys false []] ++ [Row.own [H0.mp (hT.length + 2)]] = h2 at P0 E2 ⊢
  clear n1 n2 n3 e0 e2 gh
  (conv => whnf)
  refine ⟨rfl, (hx.ext E2).len ?_⟩
  (conv => whnf)
  generalize hT.length + 3 = bm at P0 ⊢
  generalize hT.length + 2 = m at P0 ⊢
  generalize hT.length + 1 = bl at P0 ⊢
  generalize hbh : h.length = bh at P0 ⊢
  refine HLoop.intro [25] [26, 27, 10, 28, 29, 30, 31, 32, 33, 34, 35, 36, 37, 38, 25] (by kernel_rfl) (by kernel_rfl) (fun vs h' => ∃ i : Nat, vs = [I i] ∧ i ≤ c.length ∧ Ext hT h' ∧ StV hT.length bm bh bl m H c.length (simples c i) h') (fun vs _ => c.length - natAt vs 0) ⟨0, rfl, by omega, E2, _, _, _, _, P0⟩ ?_
  rintro vs h3 ⟨i, rfl, hi, E3, q, ρ, τ, T, P⟩
  (conv => whnf)
  refine HIf.dec (fun hlt => ?_) (fun hge => ?_)
  · have hi' : i < c.length := by omega
    (conv => whnf)
    refine ⟨rfl, (hx.ext E3).len ?_⟩
    (conv => whnf)
    refine (impl_simple _ c.length (i : Int) (by omega) (by omega) (by omega)).mono ?_
    rintro r h5 ⟨y5, rfl, E5, a, t, rfl, ha0, ha⟩
    (conv => whnf)
    refine ⟨rfl, (hx.ext (E3.trans E5)).len ?_⟩
    (conv => whnf)
    refine (impl_simple _ c.length (i : Int) (by omega) (by omega) (by omega)).mono ?_
    rintro r h6 ⟨y6, rfl, E6, a', t', rfl, ha0', ha'⟩
    have es : (List.replicate c.length (0 : Int)).set (i : Int).toNat 1 = simpleRoot c (i : Nat) := ((simple_pos hC hi').1).symm
    rw [es] at ha ha' ⊢
    obtain ⟨s1, s2, s3⟩ := simple_facts hC hi'
    rw [s3]
    have E56 := E5.trans E6
    have P6 := P.ext E56
    have hl3 := P.rt
    have hfr : ∀ k, k < (simples c i).length → ρ k ≠ a := fun k hk e => by
      obtain ⟨_, t, g⟩ := P.rt k hk
      have := get_lt g
      omega
    have hsl := simples_len c i
    have hE3 := E3.1
    (conv => whnf)
    refine (impl_add _ P6 hpos h4 (by omega) s3 s3 (E6.row ha) ha' hfr (by omega)).mono ?_
    rintro r h7 ⟨rfl, K7, h7⟩
    have E7 := P6.change rfl (E3.trans E56) K7
    (conv => whnf)
    refine HArith.fits (by omega) (by omega) ?_
    (conv => whnf)
    refine ⟨⟨i + 1, rfl, by omega, E7, ?_⟩, by show c.length - (i + 1) < c.length - i; omega⟩
    rw [simples_succ]
    have hnin : simpleRoot c (i : Nat) ∉ simples c i := fun hm => by
      obtain ⟨j, hj, e⟩ := mem_simples.1 hm
      have := simple_inj hC hi' (by omega) e
      omega
    rcases h7 with ⟨hno, _⟩ | ⟨_, q', _, P7⟩
    · exact absurd ⟨hnin, s1, by rw [s2]; exact hH1⟩ hno
    · exact ⟨q', _, _, _, P7⟩
  have ei : i = c.length := by omega
  subst ei
  clear hge hi
  have C0 : Coll c H (simples c c.length) := ⟨simples_nodup hC _ (Nat.le_refl _), fun r hr => by
    obtain ⟨j, hj, rfl⟩ := mem_simples.1 hr
    exact .simple j hj, fun j hj => mem_simples.2 ⟨j, hj, rfl⟩⟩
  (conv => whnf)
  refine HLoop.intro [11] [39, 40, 41, 42, 45, 46, 47, 48, 12, 49, 50, 51, 52, 53, 13, 54, 55, 56, 57, 58, 59, 60, 61, 62, 63, 64, 65, 66, 51, 43, 44, 11] (by kernel_rfl) (by kernel_rfl) (fun vs h' => ∃ (k : Nat) (Q : List (List Int)), vs = [I k] ∧ k ≤ Q.length ∧ Ext hT h' ∧ StV hT.length bm bh bl m H c.length Q h' ∧ Coll c H Q ∧ ∀ j, j < k → ∀ i, i < c.length → ClosedAt c H Q (Q.getD j []) i) (fun vs _ => 28562 - natAt vs 0) ⟨0, _, rfl, by omega, E3, ⟨q, ρ, τ, T, P⟩, C0, fun j hj => by omega⟩ ?_
  clear P C0 E3 q ρ τ T h3
  rintro vs h3 ⟨k, Q, rfl, hk, E3, ⟨q, ρ, τ, T, P⟩, C, hcl⟩
  have hQ := roots_few hC hH hH1 C.nodup C.up
  (conv => whnf)
  refine ⟨rfl, At.load ⟨bl, 0, _, [.sw 2 q 0 Q.length], rfl, P.gl, rfl, rfl⟩ ?_⟩
  (conv => whnf)
  refine HLenW.at ?_
  (conv => whnf)
  refine HIf.dec (fun hlt => ?_) (fun hge => ?_)
  · have hk' : k < Q.length := by omega
    (conv => whnf)
    refine ⟨rfl, At.load ⟨bl, 0, _, [.sw 2 q 0 Q.length], rfl, P.gl, rfl, rfl⟩ ?_⟩
    (conv => whnf)
    refine HIdxW.nat (n := 2) hk' ?_
    (conv => whnf)
    refine HLoadA.row (n := 2) P.ls (by rw [prCells_length]; omega) ?_
    rw [prCells_chunk _ _ _ hk']
    (conv => whnf)
    have hone : ∀ c' ∈ [H0.sl (ρ k) 0 c.length, H0.sl (τ k) 0 c.length], c'.one = true := fun c' hc => by
      simp only [List.mem_cons, List.not_mem_nil, or_false] at hc
      rcases hc with rfl | rfl <;> rfl
    refine HStoreA.all (Or.inl rfl) (get_new _ _) rfl rfl hone ?_
    rw [set_new]
    have Ep := Ext.push h3 [Row.own [H0.sl (ρ k) 0 c.length, H0.sl (τ k) 0 c.length]]
    have gp := get_new h3 (Row.own [H0.sl (ρ k) 0 c.length, H0.sl (τ k) 0 c.length])
    have hqp : q ≠ h3.length := fun e => by have := get_lt P.ls; omega
    have P1 := P.ext Ep
    have E4 := E3.trans Ep
    obtain ⟨rl, rt, hrk⟩ := P1.rt k hk'
    obtain ⟨cl, ct, hck⟩ := P1.ct k hk'
    have hup : RootUp c H (Q.getD k []) := C.up _ (getD_in hk')
    generalize h3 ++ [Row.own [H0.sl (ρ k) 0 c.length, H0.sl (τ k) 0 c.length]] = h5 at Ep gp P1 E4 hrk hck ⊢
    generalize h3.length = rp at gp hqp ⊢
    generalize hRk : Q.getD k [] = R at *
    generalize T.getD k [] = U at *
    (conv => whnf)
    refine ⟨rfl, (hx.ext E4).len ?_⟩
    (conv => whnf)
    generalize ρ k = A at gp hrk ⊢
    generalize τ k = B' at gp hck ⊢
    refine HLoop.intro [51] [52, 53, 13, 54, 55, 56, 57, 58, 59, 60, 61, 62, 63, 64, 65, 66, 51] (by kernel_rfl) (by kernel_rfl) (fun vs h' => ∃ (i : Nat) (X : List (List Int)), vs = [I i] ∧ i ≤ c.length ∧ Ext hT h' ∧ (∃ q ρ τ T, Prs hT.length bm bh bl m q H c.length ρ τ (Q ++ X) T h' ∧ q ≠ rp) ∧ Coll c H (Q ++ X) ∧ (∀ t, t < i → ClosedAt c H (Q ++ X) R t) ∧
      h'[rp]? = some (.own [H0.sl A 0 c.length, H0.sl B' 0 c.length]) ∧ h'[A]? = some (.own (R.map ci ++ rt)) ∧ h'[B']? = some (.own (U.map ci ++ ct))) (fun vs _ => c.length - natAt vs 0) ⟨0, [], rfl, by omega, E4, ⟨q, ρ, τ, T, by rw [List.append_nil]; exact P1, hqp⟩, by rw [List.append_nil]; exact C, fun t ht => by omega, gp, hrk, hck⟩ ?_
    clear P1 P C hqp gp hrk hck E4 E3 Ep hone ρ τ T
    rintro vs h5 ⟨i, X, rfl, hi, E5, ⟨q, ρ, τ, T, P, hqp⟩, C, hci, gp, hrk, hck⟩
    (conv => whnf)
    refine HIf.dec (fun hlt2 => ?_) (fun hge2 => ?_)
    · have hi' : i < c.length := by omega
      have hiR : Ints h5 (.sl A 0 c.length) R := by have := Ints.ofOwn hrk; rwa [rl] at this
      have hiU : Ints h5 (.sl B' 0 c.length) U := by have := Ints.ofOwn hck; rwa [cl] at this
      have hrow1 := hC.row i hi'
      have hrow2 := (transp_cartan hC).row i (by rw [transp_length]; exact hi')
      rw [transp_length] at hrow2
      (conv => whnf)
      refine Or.inr (Or.inr (Or.inl (Exists.intro 11 (Exists.intro [0, 1, 2, 3, 4, 6, 7, 8, 9] (Exists.intro [5, 10, 11] (And.intro (show heldOk _ _ _ _ = true by kernel_rfl) ?_))))))
      (conv => whnf)
      refine HField.at' (by decide) ?_
      (conv => whnf)
      refine ⟨rfl, At.load ⟨rp, 0, _, _, rfl, gp, rfl, rfl⟩ ?_⟩
      (conv => whnf)
      refine HField.at' (by decide) ?_
      (conv => whnf)
      refine ⟨rfl, At.load ⟨rp, 1, _, _, rfl, gp, rfl, rfl⟩ ?_⟩
      (conv => whnf)
      refine HCallF.fresh (impl_mirrored _ _ _ c i R (hx.ext E5).frz hiR.frz hi' (by omega) (by omega) (by omega)) (fun h6 y6 F6 => ?_)
      (conv => whnf)
      refine HCallF.fresh (impl_mirrored _ _ _ (transp c) i U ((RT.ext E5).ext F6.1).frz (hiU.ext F6.1).frz (by rw [transp_length]; exact hi') (by omega) (by omega) (by omega)) (fun h7 y7 F7 => ?_)
      (conv => whnf)
      have E57 := F6.1.trans F7.1
      obtain ⟨E6, a, t6, rfl, ha0, ha⟩ := F6
      obtain ⟨E7, a', t7, rfl, ha0', ha'⟩ := F7
      have el : (mirror c i R).length = c.length := by rw [mirror_length, rl]
      have el' : (mirror (transp c) i U).length = c.length := by rw [mirror_length, cl]
      rw [el, el']
      have hQX := roots_few hC hH hH1 C.nodup C.up
      have P7 := P.ext E57
      have hfr : ∀ t, t < (Q ++ X).length → ρ t ≠ a := fun t ht e => by
        obtain ⟨_, u, g⟩ := P.rt t ht
        have := get_lt g
        omega
      have hE5 := E5.1
      have hE57 := E57.1
      refine (impl_add _ P7 hpos h4 (by omega) el el' (E7.row ha) ha' hfr (by omega)).mono ?_
      rintro r h8 ⟨rfl, K8, hcase⟩
      have E8 := P7.change rfl (E5.trans E57) K8
      have hrpl := get_lt gp
      have hrp : rp ≠ m ∧ rp ≠ bl := by
        obtain ⟨ks, hm1, _⟩ := P.mp
        refine ⟨fun e => ?_, fun e => ?_⟩
        · rw [e, hm1] at gp; cases gp
        · rw [e, P.gl] at gp; simp at gp
      have kp : ∀ {z : Nat} {x : Row}, h5[z]? = some x → z ≠ m ∧ z ≠ q ∧ z ≠ bl → h8[z]? = some x := fun {z x} g hn => by
        rw [K8.2 z (get_lt (E57.row g)) (fun e => e.elim hn.1 fun e => e.elim hn.2.1 hn.2.2)]
        exact E57.row g
      have gp8 := kp gp ⟨hrp.1, Ne.symm hqp, hrp.2⟩
      have hrk8 := kp hrk (P.nrow hpos rl hrk)
      have hck8 := kp hck (P.nrow hpos cl hck)
      (conv => whnf)
      refine HArith.fits (by omega) (by omega) ?_
      (conv => whnf)
      rcases hcase with ⟨hno, P8⟩ | ⟨⟨y1, y2, y3⟩, q', hq', P8⟩
      · refine ⟨⟨i + 1, X, rfl, by omega, E8, ⟨q, _, _, _, P8, hqp⟩, C, fun t ht => ?_, gp8, hrk8, hck8⟩, by show c.length - (i + 1) < c.length - i; omega⟩
        by_cases e : t = i
        · subst e
          intro z1 z2
          refine Classical.byContradiction fun z3 => hno ⟨z3, z1, z2⟩
        · exact hci t (by omega)
      · refine ⟨⟨i + 1, X ++ [mirror c i R], rfl, by omega, E8, ⟨q', _, _, _, by rw [← List.append_assoc]; exact P8, by omega⟩, ?_, fun t ht => ?_, gp8, hrk8, hck8⟩, by show c.length - (i + 1) < c.length - i; omega⟩
        · rw [← List.append_assoc]
          refine ⟨?_, fun r hr => ?_, fun t ht => List.mem_append.2 (Or.inl (C.simple t ht))⟩
          · rw [List.nodup_append]
            exact ⟨C.nodup, by simp, fun x hx y hy e => by
              obtain rfl : y = _ := by simpa using hy
              exact y1 (e ▸ hx)⟩
          · rcases List.mem_append.1 hr with hr | hr
            · exact C.up r hr
            · obtain rfl : r = _ := by simpa using hr
              exact hup.close hC hH hH1 hi' y2 y3
        · rw [← List.append_assoc]
          by_cases e : t = i
          · subst e
            exact fun _ _ => List.mem_append.2 (Or.inr (by simp))
          · exact (hci t (by omega)).more
    · have ei : i = c.length := by omega
      subst ei
      (conv => whnf)
      refine HArith.fits (by omega) (by omega) ?_
      (conv => whnf)
      refine ⟨⟨k + 1, Q ++ X, rfl, by simp; omega, E5, ⟨q, ρ, τ, T, P⟩, C, fun t ht i hi => ?_⟩, by show 28562 - (k + 1) < 28562 - k; omega⟩
      rw [getD_pre (by omega)]
      by_cases e : t = k
      · subst e
        rw [hRk]
        exact hci i hi
      · exact (hcl t (by omega) i hi).more
  have ek : k = Q.length := by omega
  subst ek
  clear hge hk
  have hall : ∀ r, r ∈ Q ↔ RootUp c H r := C.all fun r hr i hi => by
    obtain ⟨j, hj, rfl⟩ := List.getElem_of_mem hr
    have := hcl j hj i hi
    simpa [List.getD, hj] using this
  have hlen : ∀ a ∈ Q, a.length = c.length := fun a ha => by
    obtain ⟨n, R, _⟩ := (C.up a ha).facts hC hH hH1
    exact R.len
  have hL : RootList c H (insR Q) := ⟨insR_sorted Q hlen, (insR_perm Q).nodup_iff.2 C.nodup, fun r => (insR_perm Q).mem_iff.trans (hall r)⟩
  obtain ⟨aE, ti, hti, hts⟩ := agg_rcd (P := Tryz.prog) (t := 163) (zs := [.slice none 0 0, .slice none 0 0]) (kd_ok _)
  have hnb : ∀ {z : Nat} {l : List Int} {t : List H0}, l.length = c.length → h3[z]? = some (.own (l.map ci ++ t)) → z ≠ q := fun hl g => (P.nrow hpos hl g).2.1
  have hsort := sortW_calls (dm := dm) (P := Tryz.prog) Tryz.sortP (k := 2) (by omega) aE (fun w => by show (Go.sizeOf 163).run Tryz.prog w = _; simp [sizeOf, typeInfo, hti, hts]) (CR := 242) (enters_of Tryz.func242 (by kernel_rfl) rfl)
    (fun i j => cmpR (Q.getD i []) (Q.getD j [])) ⟨fun x => cmpR_swo.irrefl _, fun x y z => cmpR_swo.trans _ _ _, fun x y z => cmpR_swo.ntrans _ _ _⟩ (h := h3) (r := q) (len := Q.length) P.ls (prCells_length _ _ _ _) (prCells_one _ _ _ _) (by omega)
    (fun i j hi hj => by
      have ci : chunk 2 (prCells c.length ρ τ Q.length) i = [.sl (ρ i) 0 c.length, .sl (τ i) 0 c.length] := prCells_chunk _ _ _ hi
      have cj : chunk 2 (prCells c.length ρ τ Q.length) j = [.sl (ρ j) 0 c.length, .sl (τ j) 0 c.length] := prCells_chunk _ _ _ hj
      rw [ci, cj]
      obtain ⟨e1, t1, g1⟩ := P.rt i hi
      obtain ⟨e2, t2, g2⟩ := P.rt j hj
      have i1 : Ints (h3.set q .gone) (.sl (ρ i) 0 c.length) (Q.getD i []) := by
        have := Ints.ofOwn (h := h3.set q .gone) (r := ρ i) (t := t1) (by rw [List.getElem?_set_ne (Ne.symm (hnb e1 g1))]; exact g1)
        rwa [e1] at this
      have i2 : Ints (h3.set q .gone) (.sl (ρ j) 0 c.length) (Q.getD j []) := by
        have := Ints.ofOwn (h := h3.set q .gone) (r := ρ j) (t := t2) (by rw [List.getElem?_set_ne (Ne.symm (hnb e2 g2))]; exact g2)
        rwa [e2] at this
      exact impl_cmpPair _ _ _ _ _ _ _ i1.frz i2.frz rfl rfl rfl rfl (by omega) (by omega))
  change HCalls dm Tryz.prog 241 _ _ _ at hsort
  (conv => whnf)
  refine ⟨rfl, At.load ⟨bl, 0, _, [.sw 2 q 0 Q.length], rfl, P.gl, rfl, rfl⟩ ?_⟩
  (conv => whnf)
  refine hsort.mono ?_
  rintro z hS ⟨rfl, σ, hp, hs, hSe⟩
  have hσl : σ.length = Q.length := by simpa using hp.length_eq
  have hσm : ∀ j, j < Q.length → σ.getD j 0 < Q.length := fun j hj => by
    have hm : σ.getD j 0 ∈ σ := by simp [List.getD, show j < σ.length by omega]
    simpa using hp.mem_iff.1 hm
  have hσi : ∀ i j, i < j → j < Q.length → σ.getD i 0 ≠ σ.getD j 0 := fun i j hij hj e => by
    have hnd : σ.Nodup := hp.nodup_iff.2 List.nodup_range
    have := (List.pairwise_iff_getElem.1 hnd) i j (by omega) (by omega) hij
    simp only [List.getD, show i < σ.length by omega, show j < σ.length by omega, List.getElem?_eq_getElem, Option.getD_some] at e
    exact this e
  have hQs := sorted_insR hlen hp hs
  have hLl := insR_length Q
  have hLg : ∀ j, j < Q.length → (insR Q).getD j [] = Q.getD (σ.getD j 0) [] := fun j hj => by
    rw [← hQs]
    simp [List.getD, show j < σ.length by omega]
  rw [sorted_cells hp] at hSe
  obtain ⟨ρ', hρ⟩ : ∃ f : Nat → Nat, ∀ j, f j = ρ (σ.getD j 0) := ⟨_, fun _ => rfl⟩
  obtain ⟨τ', hτ⟩ : ∃ f : Nat → Nat, ∀ j, f j = τ (σ.getD j 0) := ⟨_, fun _ => rfl⟩
  rw [show (fun j => ρ (σ.getD j 0)) = ρ' from funext fun j => (hρ j).symm, show (fun j => τ (σ.getD j 0)) = τ' from funext fun j => (hτ j).symm] at hSe
  obtain ⟨w1, w3, w4, w5, w6⟩ := P.low
  have hE3 := E3.1
  have hET := E.1
  have ES : Ext hT hS := by rw [hSe]; exact E3.set (by omega) _
  have gq : hS[q]? = some (.own (prCells c.length ρ' τ' Q.length)) := by
    rw [hSe, List.getElem?_set_self (get_lt P.ls)]
  have hqb : q ≠ bl := fun e => by
    have g1 := P.gl
    rw [← e, P.ls] at g1
    simp only [Option.some.injEq, Row.own.injEq] at g1
    have := prCells_length c.length ρ τ Q.length
    rw [g1] at this
    simp at this
    omega
  have gbl : hS[bl]? = some (.own [.sw 2 q 0 Q.length]) := by
    rw [hSe, List.getElem?_set_ne hqb]
    exact P.gl
  have grow : ∀ j, j < Q.length → ∃ t, hS[ρ' j]? = some (.own (((insR Q).getD j []).map ci ++ t)) := fun j hj => by
    obtain ⟨e, t, g⟩ := P.rt _ (hσm j hj)
    rw [hLg j hj, hSe, hρ]
    exact ⟨t, by rw [List.getElem?_set_ne (Ne.symm (hnb e g))]; exact g⟩
  have hSl : hS.length = h3.length := by rw [hSe]; simp
  have hinj : ∀ i j, i < j → j < Q.length → ρ' i ≠ ρ' j := fun i j hij hj e => by
    rw [hρ, hρ] at e
    have := hσi i j hij hj
    rcases Nat.lt_or_gt_of_ne this with h | h
    · exact P.inj _ _ h (hσm j hj) e
    · exact P.inj _ _ h (hσm i (by omega)) e.symm
  have hlow : ∀ j, j < Q.length → hT.length ≤ ρ' j := fun j hj => by rw [hρ]; exact w6 _ (hσm j hj)
  have hLen := hL.1
  clear hsort hnb P hs hp hSe aE hti hts hρ hτ hσi hσm hLg hQs
  (conv => whnf)
  refine HLit.empty ?_
  (conv => whnf)
  refine HLit.empty ?_
  (conv => whnf)
  have Ea : Ext hS (hS ++ [Row.own []] ++ [Row.own []]) := (Ext.push hS _).pushed _
  have ga : (hS ++ [Row.own []] ++ [Row.own []])[hS.length]? = some (.own []) := by simp
  have gb : (hS ++ [Row.own []] ++ [Row.own []])[hS.length + 1]? = some (.own []) := by simp
  have n1 : (hS ++ [Row.own []]).length = hS.length + 1 := by simp
  rw [n1]
  generalize hS ++ [Row.own []] ++ [Row.own []] = h6 at Ea ga gb ⊢
  refine ⟨rfl, At.load ⟨bl, 0, _, [.sw 2 q 0 Q.length], rfl, Ea.row gbl, rfl, rfl⟩ ?_⟩
  (conv => whnf)
  refine HLenW.at ?_
  (conv => whnf)
  refine HLoop.intro [73, 14, 15] [74, 75, 76, 17, 77, 78, 79, 80, 81, 14, 82, 83, 84, 85, 86, 15, 87, 73] (by kernel_rfl) (by kernel_rfl) (fun vs h' => ∃ (i r1 r2 : Nat), vs = [I i, .s (.sl r1 0 i), .s (.sl r2 0 i)] ∧ i ≤ Q.length ∧ Ext hS h' ∧ hS.length ≤ r1 ∧ hS.length ≤ r2 ∧ r1 ≠ r2 ∧ h'[r1]? = some (.own (slCells c.length ρ' i)) ∧ h'[r2]? = some (.own (slCells c.length τ' i))) (fun vs _ => Q.length - natAt vs 0)
    ⟨0, hS.length, hS.length + 1, rfl, by omega, Ea, Nat.le_refl _, by omega, by omega, ga, gb⟩ ?_
  clear Ea ga gb n1 h6
  rintro vs h6 ⟨i, r1, r2, rfl, hi, E6, hr1, hr2, hr12, g1, g2⟩
  (conv => whnf)
  refine HIf.dec (fun hlt => ?_) (fun hge => ?_)
  · have hi' : i < Q.length := by omega
    (conv => whnf)
    refine HIdxW.nat (n := 2) hi' ?_
    (conv => whnf)
    refine HLoadA.row (n := 2) (E6.row gq) (by rw [prCells_length]; omega) ?_
    rw [prCells_chunk _ _ _ hi']
    (conv => whnf)
    have hone : ∀ c' ∈ [H0.sl (ρ' i) 0 c.length, H0.sl (τ' i) 0 c.length], c'.one = true := fun c' hc => by
      simp only [List.mem_cons, List.not_mem_nil, or_false] at hc
      rcases hc with rfl | rfl <;> rfl
    refine HStoreA.all (Or.inl rfl) (get_new _ _) rfl rfl hone ?_
    rw [set_new]
    have Ep := Ext.push h6 [Row.own [H0.sl (ρ' i) 0 c.length, H0.sl (τ' i) 0 c.length]]
    have gp := get_new h6 (Row.own [H0.sl (ρ' i) 0 c.length, H0.sl (τ' i) 0 c.length])
    have l1 := get_lt g1
    have l2 := get_lt g2
    have g1 := Ep.row g1
    have g2 := Ep.row g2
    have E7 := E6.trans Ep
    generalize hrp : h6.length = rp at gp l1 l2 ⊢
    generalize h6 ++ [Row.own [H0.sl (ρ' i) 0 c.length, H0.sl (τ' i) 0 c.length]] = h7 at Ep gp g1 g2 E7 ⊢
    (conv => whnf)
    refine HField.at' (by decide) ?_
    (conv => whnf)
    refine ⟨rfl, At.load ⟨rp, 0, _, _, rfl, gp, rfl, rfl⟩ ?_⟩
    (conv => whnf)
    refine HLit.row rfl ?_
    (conv => whnf)
    refine ⟨rfl, rfl, HApp.rawS ((Ext.push h7 _).row g1) (get_new _ _) (slCells_length _ _ _) rfl (by omega) ?_⟩
    have l1' := get_lt g1
    have l2' := get_lt g2
    have hE7 := E7.1
    obtain ⟨n8, a8, k8⟩ := rawS_facts (h := h7) (x := Row.own [H0.sl (ρ' i) 0 c.length]) (y := Row.own (slCells c.length ρ' i ++ [H0.sl (ρ' i) 0 c.length])) l1'
    have nl : (h7 ++ [Row.own [H0.sl (ρ' i) 0 c.length]]).length = h7.length + 1 := by simp
    rw [nl, ← slCells_succ]
    rw [← slCells_succ] at n8 a8 k8
    have gp8 := (k8 rp (get_lt gp) (by omega)).trans gp
    have g28 := (k8 r2 l2' (Ne.symm hr12)).trans g2
    have E8 : Ext hS ((h7 ++ [Row.own [H0.sl (ρ' i) 0 c.length]]).set r1 .gone ++ [Row.own (slCells c.length ρ' (i + 1))]) := ⟨by omega, fun z hz => by rw [k8 z (by omega) (by omega)]; exact E7.2 z hz⟩
    generalize (h7 ++ [Row.own [H0.sl (ρ' i) 0 c.length]]).set r1 .gone ++ [Row.own (slCells c.length ρ' (i + 1))] = h8 at n8 a8 k8 gp8 g28 E8 ⊢
    (conv => whnf)
    refine HField.at' (by decide) ?_
    (conv => whnf)
    refine ⟨rfl, At.load ⟨rp, 1, _, _, rfl, gp8, rfl, rfl⟩ ?_⟩
    (conv => whnf)
    refine HLit.row rfl ?_
    (conv => whnf)
    refine ⟨rfl, rfl, HApp.rawS ((Ext.push h8 _).row g28) (get_new _ _) (slCells_length _ _ _) rfl (by omega) ?_⟩
    have l28 := get_lt g28
    obtain ⟨n9, a9, k9⟩ := rawS_facts (h := h8) (x := Row.own [H0.sl (τ' i) 0 c.length]) (y := Row.own (slCells c.length τ' i ++ [H0.sl (τ' i) 0 c.length])) l28
    have nl9 : (h8 ++ [Row.own [H0.sl (τ' i) 0 c.length]]).length = h8.length + 1 := by simp
    rw [nl9, ← slCells_succ]
    rw [← slCells_succ] at n9 a9 k9
    have g19 := (k9 (h7.length + 1) (by omega) (by omega)).trans a8
    have E9 : Ext hS ((h8 ++ [Row.own [H0.sl (τ' i) 0 c.length]]).set r2 .gone ++ [Row.own (slCells c.length τ' (i + 1))]) := ⟨by omega, fun z hz => by rw [k9 z (by omega) (by omega)]; exact E8.2 z hz⟩
    generalize (h8 ++ [Row.own [H0.sl (τ' i) 0 c.length]]).set r2 .gone ++ [Row.own (slCells c.length τ' (i + 1))] = h9 at n9 a9 k9 g19 E9 ⊢
    (conv => whnf)
    refine HArith.fits (by omega) (by omega) ?_
    (conv => whnf)
    exact ⟨⟨i + 1, h7.length + 1, h8.length + 1, rfl, by omega, E9, by omega, by omega, by omega, g19, a9⟩, by show Q.length - (i + 1) < Q.length - i; omega⟩
  have ei : i = Q.length := by omega
  subst ei
  (conv => whnf)
  have EF := (E.trans ES).trans E6
  have hg1 := get_lt g1
  refine ⟨_, _, rfl, EF, _, hL, r1, ρ', by rw [hLl], by omega, hg1, fun j hj => ?_, ⟨_, g1, by rw [slCells_length, hLl]; exact Nat.le_refl _, fun j hj => ?_⟩, fun j hj => ?_, fun j hj => ?_, fun j k hjk hk => hinj j k hjk (by omega)⟩
  · rw [hLl] at hj
    obtain ⟨t, g⟩ := grow j hj
    have := hlow j hj
    have := get_lt (E6.row g)
    omega
  · rw [hLl] at hj
    rw [slCells_get _ _ hj]
    have hm : (insR Q).getD j [] ∈ insR Q := getD_in (by omega)
    have := hlen _ ((insR_perm Q).mem_iff.1 hm)
    rw [this]
  · rw [hLl] at hj
    obtain ⟨t, g⟩ := grow j hj
    exact ⟨t, E6.row g⟩
  · rw [hLl] at hj
    obtain ⟨t, g⟩ := grow j hj
    have := get_lt g
    omega

end Go.Proofs.YtgliajcgcbnemaaGreatDoor.Hx
