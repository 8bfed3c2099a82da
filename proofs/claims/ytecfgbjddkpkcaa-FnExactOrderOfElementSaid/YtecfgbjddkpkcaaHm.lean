
/-
  The calculus of rows is sound, part 2b: maps of keys, values of several cells, slices of such.
-/
import Derived.Test.YtecfgbjddkpkcaaHd
import Derived.MapKept
import Derived.WideKeyRuns
import Derived.Laws.IdiomCopy
namespace Go.Proofs.Ytecfgbjddkpkcaa.Hx
open Go.RowKit Go.MapKept
variable {dm : Bool}

section
variable {P : Program} {w : World}

theorem set_same' {α : Type} {l : List α} {r : Nat} {x : α} (h : l[r]? = some x) : l.set r x = l := by
  apply List.ext_getElem?
  intro k
  by_cases e : r = k
  · subst e
    rw [List.getElem?_set_self (List.getElem?_eq_some_iff.1 h).1, h]
  · rw [List.getElem?_set_ne e]

theorem run_part_int {e : TypeId} {k : IntKind} (hu : P.underlying e = some (.int k)) {xs : Array Value} {o : Nat} {v : Value} (h : xs[o]? = some v) : (part e xs o).run P w = .ok v w := by
  have hagg : (isAgg e).run P w = .ok false w := by
    unfold isAgg
    simp only [Sem.run_bind, run_underlying hu, Result.andThen_ok]
    rfl
  simp [part, hagg, h]

theorem run_equal_key {kt ke : TypeId} {j : TypeInfo} (h1 : P.underlying kt = some (.array 4 ke)) (h2 : P.info? ke = some j) (h3 : j.size = 1) (h4 : P.underlying ke = some (.int .i64)) (a b c d a' b' c' d' : Int) :
    (Op.equal kt (Key.arr a b c d).val (Key.arr a' b' c' d').val).run P w = .ok (decide (Key.arr a b c d = Key.arr a' b' c' d')) w := by
  have hp : ∀ (xs : Array Value) (o : Nat) (v : Value), xs[o]? = some v → (part ke xs o).run P w = .ok v w := fun xs o v h => run_part_int h4 h
  have e0 : List.range' 0 4 = [0, 1, 2, 3] := by decide
  have q : ∀ x y : Int, (Op.equalIn 9999 ke (.int .i64 x) (.int .i64 y)).run P w = .ok (x == y) w := fun x y => run_equalIn_int w 9998 ke .i64 .i64 x y h4
  unfold Op.equal Op.maxDepth Key.val
  rw [Op.equalIn]
  simp only [Sem.run_bind, run_underlying h1, Result.andThen_ok, sizeOf, typeInfo, run_program, h2, h3, Sem.run_pure, Std.Legacy.Range.forIn_eq_forIn_range', Std.Legacy.Range.size, Nat.sub_zero, Nat.add_one_sub_one, Nat.div_one, e0, Nat.mul_one]
  have p0 := hp #[.int .i64 a, .int .i64 b, .int .i64 c, .int .i64 d] 0 (.int .i64 a) rfl
  have p1 := hp #[.int .i64 a, .int .i64 b, .int .i64 c, .int .i64 d] 1 (.int .i64 b) rfl
  have p2 := hp #[.int .i64 a, .int .i64 b, .int .i64 c, .int .i64 d] 2 (.int .i64 c) rfl
  have p3 := hp #[.int .i64 a, .int .i64 b, .int .i64 c, .int .i64 d] 3 (.int .i64 d) rfl
  have r0 := hp #[.int .i64 a', .int .i64 b', .int .i64 c', .int .i64 d'] 0 (.int .i64 a') rfl
  have r1 := hp #[.int .i64 a', .int .i64 b', .int .i64 c', .int .i64 d'] 1 (.int .i64 b') rfl
  have r2 := hp #[.int .i64 a', .int .i64 b', .int .i64 c', .int .i64 d'] 2 (.int .i64 c') rfl
  have r3 := hp #[.int .i64 a', .int .i64 b', .int .i64 c', .int .i64 d'] 3 (.int .i64 d') rfl
  simp only [List.forIn_cons, List.forIn_nil, Sem.run_bind, p0, r0, q, Result.andThen_ok]
  by_cases h0 : a = a'
  · subst h0
    by_cases h1 : b = b'
    · subst h1
      by_cases h2 : c = c'
      · subst h2
        by_cases h3 : d = d'
        · subst h3
          simp [q, p1, p2, p3]
        · simp [q, p1, p2, p3, r1, r2, r3, h3]
      · simp [q, p1, p2, r1, r2, h2]
    · simp [q, p1, r1, h1]
  · simp [h0]

theorem run_check_key {kt ke : TypeId} {j : TypeInfo} (h1 : P.underlying kt = some (.array 4 ke)) (h2 : P.info? ke = some j) (h3 : j.size = 1) (h4 : P.underlying ke = some (.int .i64)) (a b c d : Int) (em : Bool) :
    (Instr.checkKey em 10000 kt (Key.arr a b c d).val).run P w = .ok () w := by
  have hp : ∀ (xs : Array Value) (o : Nat) (v : Value), xs[o]? = some v → (part ke xs o).run P w = .ok v w := fun xs o v h => run_part_int h4 h
  have e0 : List.range' 0 4 = [0, 1, 2, 3] := by decide
  have q : ∀ x : Int, (Instr.checkKey em 9999 ke (.int .i64 x)).run P w = .ok () w := fun x => by
    rw [Instr.checkKey]
    simp [run_underlying h4]
  unfold Key.val
  rw [Instr.checkKey]
  simp only [Sem.run_bind, run_underlying h1, Result.andThen_ok, sizeOf, typeInfo, Sem.run_pure, Std.Legacy.Range.forIn_eq_forIn_range', Std.Legacy.Range.size, Nat.sub_zero, Nat.add_one_sub_one, Nat.div_one, e0]
  have p0 := hp #[.int .i64 a, .int .i64 b, .int .i64 c, .int .i64 d] 0 (.int .i64 a) rfl
  have p1 := hp #[.int .i64 a, .int .i64 b, .int .i64 c, .int .i64 d] 1 (.int .i64 b) rfl
  have p2 := hp #[.int .i64 a, .int .i64 b, .int .i64 c, .int .i64 d] 2 (.int .i64 c) rfl
  have p3 := hp #[.int .i64 a, .int .i64 b, .int .i64 c, .int .i64 d] 3 (.int .i64 d) rfl
  simp [List.forIn_cons, p0, p1, p2, p3, q, h2, h3]

theorem find_asking {kt ke : TypeId} {j : TypeInfo} (h1 : P.underlying kt = some (.array 4 ke)) (h2 : P.info? ke = some j) (h3 : j.size = 1) (h4 : P.underlying ke = some (.int .i64)) (a b c d : Int) :
    ∀ (es : List MapEntry) (i : Nat), (∀ e ∈ es, e.val = .bool true ∧ ∃ k : Key, e.key = k.val ∧ k.isStr = false) →
      ∃ r, (Instr.findAsking kt (Key.arr a b c d).val es i).run P w = .ok r w ∧ ((∃ e ∈ es, e.key = (Key.arr a b c d).val) → ∃ i, r = some (i, .bool true)) ∧ ((∀ e ∈ es, e.key ≠ (Key.arr a b c d).val) → r = none)
  | [], i, _ => ⟨none, by simp [Instr.findAsking], fun ⟨e, he, _⟩ => by simp at he, fun _ => rfl⟩
  | e :: es, i, h => by
    obtain ⟨hv, k, hk, hs⟩ := h e (by simp)
    obtain ⟨r, q1, q2, q3⟩ := find_asking h1 h2 h3 h4 a b c d es (i + 1) (fun x hx => h x (by simp [hx]))
    cases k with
    | str s => simp [Key.isStr] at hs
    | arr a' b' c' d' =>
      have heq := run_equal_key (P := P) (w := w) h1 h2 h3 h4 a b c d a' b' c' d'
      rw [← hk] at heq
      by_cases hd : Key.arr a b c d = Key.arr a' b' c' d'
      · refine ⟨some (i, .bool true), ?_, fun _ => ⟨i, rfl⟩, fun hn => absurd (by rw [hk, hd]) (hn e (by simp))⟩
        rw [decide_eq_true hd] at heq
        simp [Instr.findAsking, heq, hv]
      · rw [decide_eq_false hd] at heq
        have hne : e.key ≠ (Key.arr a b c d).val := fun x => hd (Key.val_inj (by rw [← x, hk]))
        refine ⟨r, by simp [Instr.findAsking, heq, q1], fun ⟨x, hx, e1⟩ => q2 ?_, fun hn => q3 fun x hx => hn x (by simp [hx])⟩
        rcases List.mem_cons.1 hx with rfl | hx
        · exact absurd e1 hne
        · exact ⟨x, hx, e1⟩

/-- What the search for a key finds. -/
theorem find_says {kt : TypeId} {so : Bool} (hstr : so = true → P.underlying kt = some .string) (harr : so = false → ∃ ke j, P.underlying kt = some (.array 4 ke) ∧ P.info? ke = some j ∧ j.size = 1 ∧ P.underlying ke = some (.int .i64))
    {ks : List Key} {ents : Array MapEntry} (hS : Says so ks ents) {k : Key} (hk : k.isStr = so) :
    (∀ em, (Instr.checkKey em 10000 kt k.val).run P w = .ok () w) ∧ ∃ r, (Instr.findKey kt k.val ents.toList).run P w = .ok r w ∧ (k ∈ ks → ∃ i, r = some (i, .bool true)) ∧ (k ∉ ks → r = none) := by
  have hmem : k ∈ ks → ∃ e ∈ ents.toList, e.key = k.val := fun h => (hS.has k h).2
  have hno : k ∉ ks → ∀ e ∈ ents.toList, e.key ≠ k.val := fun h e he x => by
    obtain ⟨_, k', hk', e'⟩ := hS.all e he
    exact h (by rw [Key.val_inj (x := k) (y := k') (by rw [← x, e'])]; exact hk')
  cases so with
  | true =>
    have hd := hstr rfl
    cases k with
    | arr a b c d => simp [Key.isStr] at hk
    | str s =>
      have kk : IsKey .string (Key.str s).val := trivial
      refine ⟨fun em => run_checkKey hd kk em 9999, ?_⟩
      have hall : ∀ x ∈ ents.toList, IsKey .string x.key := fun x hx => by
        obtain ⟨_, k', hk', e'⟩ := hS.all x hx
        have := (hS.has k' hk').1
        rw [e']
        cases k' with
        | str _ => trivial
        | arr _ _ _ _ => simp [Key.isStr] at this
      rcases findNow_spec kk ents.toList 0 hall with ⟨g1, g2⟩ | ⟨j, e, g1, g2, g3⟩
      · refine ⟨none, run_findKey hd g1, fun h => ?_, fun _ => rfl⟩
        obtain ⟨e, he, e1⟩ := hmem h
        exact absurd e1 (g2 e he)
      · have he : e ∈ ents.toList := List.mem_of_getElem? g2
        refine ⟨_, run_findKey hd g1, fun _ => ⟨0 + j, by rw [(hS.all e he).1]⟩, fun h => absurd g3 (hno h e he)⟩
  | false =>
    obtain ⟨ke, j, h1, h2, h3, h4⟩ := harr rfl
    cases k with
    | str s => simp [Key.isStr] at hk
    | arr a b c d =>
      refine ⟨fun em => run_check_key h1 h2 h3 h4 a b c d em, ?_⟩
      obtain ⟨r, q1, q2, q3⟩ := find_asking (P := P) (w := w) h1 h2 h3 h4 a b c d ents.toList 0 (fun e he => by
        obtain ⟨g1, k', hk', e'⟩ := hS.all e he
        exact ⟨g1, k', e', (hS.has k' hk').1⟩)
      refine ⟨r, ?_, fun h => q2 (hmem h), fun h => q3 (hno h)⟩
      rw [run_findKey_eq w (by rw [h1])]
      exact q1

theorem keyAt_rep {φ : Plan} {x : HV} {u : Value} {k : Key} (hx : repV φ x u) (h : keyAt x = some k) : u = k.val := by
  unfold keyAt at h
  split at h
  · cases h
    exact rep0_pl hx
  · cases h
    obtain ⟨⟨vs⟩, rfl, h⟩ := hx
    match vs, h with
    | [v1, v2, v3, v4], ⟨h1, h2, h3, h4, _⟩ =>
      have h1 : v1 = _ := h1
      have h2 : v2 = _ := h2
      have h3 : v3 = _ := h3
      have h4 : v4 = _ := h4
      rw [h1, h2, h3, h4]
      rfl
  · cases h

theorem hLook_run {B0 : Nat} {φ : Plan} {h : Heap} (R : Rep B0 φ h w) {t : TypeId} {so : Bool} (hd : (Kd.keys so).ok P t) {x i : HV} {u v : Value} (hx : repV φ x u) (hi : repV φ i v) {K : HV → Prop} (H : HLook so h x i K) :
    ∃ r : Value, (∀ w' : World, Lat dm w.heap.size w w' → (Instr.lookup t u v false).run P w' = .ok r w') ∧ K (.s (.pl r)) := by
  obtain ⟨r, ks, k, rfl, hr, hk, hs, hK⟩ := H.out
  obtain ⟨p, hp, rfl⟩ := hx
  obtain rfl := keyAt_rep hi hk
  obtain ⟨⟨kt, et, ti, d1, d2, d3, d4, d5⟩, _⟩ := hd
  refine ⟨_, fun w' hb => ?_, hK⟩
  obtain ⟨_, ents, clk, g1, g2⟩ := (R.below hb).keys r so ks p hr hp
  obtain ⟨c1, f, f1, f2, f3⟩ := find_says (P := P) (w := w') d4 d5 g2 hs
  have hobj := run_getObj_map (P := P) w' p.b ents clk g1
  by_cases hm : k ∈ ks
  · obtain ⟨i, rfl⟩ := f2 hm
    simp [Instr.lookup, run_underlying d1, hobj, c1, f1, hm]
  · obtain rfl := f3 hm
    simp [Instr.lookup, run_underlying d1, hobj, c1, f1, hm, zeroValue, typeInfo, d2, d3]

theorem hSet_run {B0 : Nat} {φ : Plan} {h : Heap} (R : Rep B0 φ h w) {t : TypeId} {so : Bool} (hd : (Kd.keys so).ok P t) {x i y : HV} {u v z : Value} (hx : repV φ x u) (hi : repV φ i v) (hy : repV φ y z) {K : HV → Heap → Prop} (H : HSet so h x i y K) :
    ∃ w', (Instr.mapUpdate t u v z).run P w = .ok () w' ∧ Leaves dm B0 φ w w' undef K := by
  obtain ⟨r, ks, k, rfl, rfl, hr, hk, hs, hm, hK⟩ := H.out
  obtain ⟨p, hp, rfl⟩ := hx
  obtain rfl := keyAt_rep hi hk
  obtain rfl := rep0_pl hy
  obtain ⟨⟨kt, et, ti, d1, d2, d3, d4, d5⟩, _⟩ := hd
  obtain ⟨q1, ents, clk, g1, g2⟩ := R.keys r so ks p hr hp
  obtain ⟨c1, f, f1, f2, f3⟩ := find_says (P := P) (w := w) d4 d5 g2 hs
  obtain rfl := f3 hm
  have hobj := run_getObj_map (P := P) w p.b ents clk g1
  have hset := run_setObj_map (P := P) (.map (ents.push ⟨k.val, .bool true, clk⟩) (clk + 1)) g1
  have hh := heap_set (o' := .map (ents.push ⟨k.val, .bool true, clk⟩) (clk + 1)) g1
  refine ⟨{ w with heap := w.heap.setIfInBounds p.b (.map (ents.push ⟨k.val, .bool true, clk⟩) (clk + 1)) }, ?_, .dead, _, φ, hK, Sub.refl _, ?_, trivial, ?_⟩
  · simp [Instr.mapUpdate, run_underlying d1, hobj, c1, f1, hset]
  · refine R.rewriteMap hr hp (by simp) (fun q hq => hh.2 q hq) hh.1 ⟨fun e he => ?_, fun k' hk' => ?_⟩
    · rw [Array.toList_push] at he
      rcases List.mem_append.1 he with he | he
      · obtain ⟨e1, k', hk', e2⟩ := g2.all e he
        exact ⟨e1, k', by simp [hk'], e2⟩
      · obtain rfl : e = ⟨k.val, .bool true, clk⟩ := by simpa using he
        exact ⟨rfl, k, by simp, rfl⟩
    · rcases List.mem_cons.1 hk' with rfl | hk'
      · exact ⟨hs, ⟨k'.val, .bool true, clk⟩, by simp, rfl⟩
      · obtain ⟨e1, e, he, e2⟩ := g2.has k' hk'
        exact ⟨e1, e, by simp [he], e2⟩
  · refine ⟨⟨rfl, rfl, rfl, by simp, fun q hq => hh.2 q (by omega)⟩, fun _ => Nat.le_refl _⟩

theorem hMakeMap_run {B0 : Nat} {φ : Plan} {h : Heap} (R : Rep B0 φ h w) (t : TypeId) (so : Bool) {K : HV → Heap → Prop} (hK : K (.s (.mp h.length)) (h ++ [.keys so []])) :
    ∃ w' r, (Instr.makeMap t none).run P w = .ok r w' ∧ Leaves dm B0 φ w w' r K := by
  refine ⟨w.alloc (.map #[] 0), .map (some w.heap.size), by simp [Instr.makeMap], _, _, φ ++ [⟨w.heap.size, 0, 0⟩], hK, Sub.push _ _, R.pushMap so, ⟨⟨w.heap.size, 0, 0⟩, ?_, rfl⟩, below_still R _⟩
  rw [← R.len, List.getElem?_append_right (Nat.le_refl _)]
  simp

/-- A value of several cells, read. -/
theorem hLoadA_run {B0 : Nat} {φ : Plan} {h : Heap} (R : Rep B0 φ h w) {t : TypeId} {n : Nat} (hag : ∀ w : World, (isAgg t).run P w = .ok true w) {i : TypeInfo} (hi : P.info? t = some i) (hs : i.size = n) {x : HV} {u : Value} (hx : repV φ x u) {K : HV → Prop} (H : HLoadA n h x K) :
    ∃ (r : Value) (y : HV), (∀ w' : World, Lat dm w.heap.size w w' → (Instr.loadAt t u).run P w' = .ok r w') ∧ repV φ y r ∧ K y := by
  obtain ⟨r, o, row, cs, hp, hr, hc, hl, hK⟩ := H.out
  have hu : ∃ p, φ[r]? = some p ∧ u = .pointer (some ⟨p.b, p.o + o, none⟩) := by
    rcases hp with rfl | ⟨⟨m, rfl⟩, rfl⟩
    · exact hx
    · obtain ⟨p, h1, h2, _⟩ := hx
      exact ⟨p, h1, h2⟩
  obtain ⟨p, hp, rfl⟩ := hu
  obtain ⟨vs, e1, e2⟩ := concrete (φ := φ) (p := fun k v => w.cell? ⟨p.b, p.o + (o + k), none⟩ = some v) (cs := (cs.drop o).take n) (k0 := 0) (fun k c hk => by
    have hk2 : k < n := by have := (List.getElem?_eq_some_iff.1 hk).1; simp at this; omega
    rw [List.getElem?_take_of_lt hk2, List.getElem?_drop] at hk
    obtain ⟨v, e1, e2⟩ := R.cell hr hc hk hp
    exact ⟨v, by simpa using e1, e2⟩)
  have hvl : vs.length = n := by rw [← e1.length]; simp; omega
  refine ⟨.agg vs.toArray, .agg _, fun w' hb => ?_, ⟨vs.toArray, rfl, by simpa using e1⟩, hK⟩
  have hcell : ∀ j v, vs[j]? = some v → w'.cell? ((⟨p.b, p.o + o, none⟩ : Addr).add j) = some v := fun j v hj => by
    have := e2 j v hj
    rw [addr_add, Nat.add_assoc]
    simp only [Nat.zero_add] at this
    rw [hb.cell (World.block_lt_of_cell? w _ this)]
    exact this
  have hld := run_loadCells_list (P := P) (w := w') _ vs hcell
  rw [hvl] at hld
  simp [Instr.loadAt, Instr.sureAddr, loadVar, hag, sizeOf, typeInfo, hi, hs, hld]

theorem part_at {φ : Plan} {p : Place} {r o : Nat} {x : HV} {u : Value} (hx : repV φ x u) (hp : x = .s (.ptr r o) ∨ (∃ m, x = .s (.pa r m)) ∧ o = 0) (hr : φ[r]? = some p) : u = .pointer (some ⟨p.b, p.o + o, none⟩) := by
  rcases hp with rfl | ⟨⟨m, rfl⟩, rfl⟩
  · obtain ⟨q, h1, rfl⟩ := hx
    rw [hr] at h1
    cases h1
    rfl
  · obtain ⟨q, h1, rfl, _⟩ := hx
    rw [hr] at h1
    cases h1
    rfl

/-- A value of several cells, written. -/
theorem hStoreA_run {B0 : Nat} {φ : Plan} {h : Heap} (R : Rep B0 φ h w) {t : TypeId} {n : Nat} {i : TypeInfo} (hi : P.info? t = some i) (hs : i.size = n) {x y : HV} {u v : Value} (hx : repV φ x u) (hy : repV φ y v) {K : HV → Heap → Prop} (H : HStoreA n h x y K) :
    ∃ w', (Instr.storeAt t u v).run P w = .ok () w' ∧ Leaves dm B0 φ w w' undef K := by
  obtain ⟨r, o, cs, xs, hp, rfl, hn, hone, hr, ho, hK⟩ := H.out
  obtain ⟨p, hpl⟩ := R.place hr
  obtain rfl := part_at hx hp hpl
  obtain ⟨vs, rfl, hrep⟩ := hy
  obtain ⟨q1, q2, q3, cur, e, q4, q5, q6⟩ := R.own r cs p hr hpl
  have hvl := hrep.length
  simp only [Array.length_toList] at hvl
  have hpart := set_part R hr hpl q4 q5 q6 hrep (o := o) (by omega)
  rw [hn] at hpart
  have hst := run_storeCells_at P p.b o e vs.toList 0 cur w q4 (by simp; omega) (hrep.one hone)
  simp only [Nat.add_zero, Array.length_toList] at hst
  have hvn : vs.size = n := by omega
  rw [hvn] at hst
  refine ⟨_, ?_, .dead, _, φ, hK, Sub.refl _, hpart, trivial, lat_setRow (Lat.refl B0 w) q2 _⟩
  rw [q1, Nat.zero_add]
  simp [Instr.storeAt, Instr.sureAddr, storeVar, Value.cells, sizeOf, typeInfo, hi, hs, hvn, hst]

/-- A number of an array. -/
theorem hAt_run {φ : Plan} {t : TypeId} {n : Nat} {z : Value} (hd : (Kd.arr n z).ok P t) {x i : HV} {u v : Value} (hx : repV φ x u) (hi : repV φ i v) {K : HV → Prop} (H : HAt n x i K) :
    ∃ (r : Value) (y : HV), (∀ w : World, (Instr.index t u v).run P w = .ok r w) ∧ repV φ y r ∧ K y := by
  obtain ⟨xs, k, j, c, rfl, rfl, hj, hc, hK⟩ := H.out
  obtain ⟨vs, rfl, hr⟩ := hx
  obtain rfl := rep0_pl hi
  obtain ⟨e, ti, tj, h1, h2, h3, h4, h5, h6, ⟨_, d, o2, o3⟩, h8⟩ := hd
  obtain ⟨v, e1, e2⟩ := hr.get j c hc
  have hagg : ∀ w : World, (isAgg e).run P w = .ok false w := fun w => by
    unfold isAgg
    simp only [Sem.run_bind, run_underlying o2, Result.andThen_ok]
    cases d <;> simp [flat] at o3 <;> rfl
  have hv : vs[j]? = some v := by simpa using e1
  refine ⟨v, .s c, fun w => ?_, e2, hK⟩
  simp [Instr.index, asIntOf, run_underlying h1, sizeOf, typeInfo, h5, h6, part, hagg, hv, hj]

theorem hIdxA_run {φ : Plan} {t : TypeId} {n : Nat} {z : Value} (hd : (Kd.arr n z).ok P t) {x i : HV} {u v : Value} (hx : repV φ x u) (hi : repV φ i v) {K : HV → Prop} (H : HIdxA n x i K) :
    ∃ (r : Value) (y : HV), (∀ w : World, (Instr.indexAt t u v).run P w = .ok r w) ∧ repV φ y r ∧ K y := by
  obtain ⟨r, k, j, rfl, rfl, hj, hK⟩ := H.out
  obtain ⟨p, hp, rfl, hpn⟩ := hx
  obtain rfl := rep0_pl hi
  obtain ⟨e, ti, tj, h1, h2, h3, h4, h5, h6, _, h8⟩ := hd
  refine ⟨.pointer (some ⟨p.b, p.o + j, none⟩), .s (.ptr r j), fun w => ?_, ⟨p, hp, rfl⟩, hK⟩
  simp [Instr.indexAt, asIntOf, run_underlying h1, Instr.sureAddr, sizeOf, typeInfo, h5, h6, hj, addr_add]

theorem hSliceA_run {φ : Plan} {t : TypeId} {n : Nat} {z : Value} (hn : n ≤ 4096) (hd : (Kd.arr n z).ok P t) {x : HV} {lo hi : Option HV} {u : Value} {vlo vhi : Option Value} (hx : repV φ x u)
    (hlo : (lo = none ∧ vlo = none) ∨ ∃ y v, lo = some y ∧ vlo = some v ∧ repV φ y v) (hhi : (hi = none ∧ vhi = none) ∨ ∃ y v, hi = some y ∧ vhi = some v ∧ repV φ y v) {K : HV → Prop} (H : HSliceA n x lo hi K) :
    ∃ (r : Value) (y : HV), (∀ w : World, (Instr.sliceAt t u vlo vhi none).run P w = .ok r w) ∧ repV φ y r ∧ K y := by
  obtain ⟨r, l, m, rfl, hl, hm, hlm, hmn, hK⟩ := H.out
  obtain ⟨p, hp, rfl, hpn⟩ := hx
  obtain ⟨e, ti, tj, h1, h2, h3, h4, h5, h6, _, h8⟩ := hd
  have hb : ∀ w : World, (Instr.sliceBounds false n n vlo vhi none).run P w = .ok (l, m, n) w := by
    intro w
    rcases hhi with ⟨rfl, rfl⟩ | ⟨y, v, rfl, rfl, hv⟩
    · have em : m = n := by rcases hm with ⟨_, h⟩ | ⟨k, h⟩; exact h; cases h
      subst em
      rcases hlo with ⟨rfl, rfl⟩ | ⟨y, v, rfl, rfl, hv⟩
      · have el : l = 0 := by rcases hl with ⟨_, h⟩ | ⟨k, h⟩; exact h; cases h
        subst el
        simp [Instr.sliceBounds]
      · rcases hl with ⟨h, _⟩ | ⟨k, h⟩
        · cases h
        · cases h
          obtain rfl := rep0_pl hv
          simp [Instr.sliceBounds, run_sliceBound (P := P) w k (l : Int) m _ (by omega) (by omega)]
    · rcases hm with ⟨h, _⟩ | ⟨k, h⟩
      · cases h
      cases h
      obtain rfl := rep0_pl hv
      have hmc : (m : Int) ≤ n := by omega
      rcases hlo with ⟨rfl, rfl⟩ | ⟨y, v, rfl, rfl, hv⟩
      · have el : l = 0 := by rcases hl with ⟨_, h⟩ | ⟨k, h⟩; exact h; cases h
        subst el
        simp [Instr.sliceBounds, run_sliceBound (P := P) w k (m : Int) n _ (by omega) hmc]
      · rcases hl with ⟨h, _⟩ | ⟨k', h⟩
        · cases h
        · cases h
          obtain rfl := rep0_pl hv
          simp [Instr.sliceBounds, run_sliceBound (P := P) w k (m : Int) n _ (by omega) hmc, run_sliceBound (P := P) w k' (l : Int) m _ (by omega) (by omega)]
  refine ⟨.slice (some (if n = l then ⟨p.b, p.o, none⟩ else (⟨p.b, p.o, none⟩ : Addr).add l)) (m - l) (n - l), .s (.sl r l (m - l)), fun w => ?_, ⟨p, _, n - l, hp, rfl, by omega, by unfold maxLen; omega, by omega, fun h0 => ?_⟩, hK⟩
  · simp [Instr.sliceAt, run_underlying h1, Instr.sureAddr, hb, sizeOf, typeInfo, h5, h6]
  · rw [if_neg (by omega), addr_add]

/-- What is copied. -/
theorem hCopy_run {B0 : Nat} {φ : Plan} {h : Heap} (R : Rep B0 φ h w) {t ty : TypeId} {d : Kd} (hd : d.ok P t) (hs : d.isSl = true) {x y : HV} {u v : Value} (hx : repV φ x u) (hy : repV φ y v) {K : HV → Heap → Prop} (H : HCopy h x y K) :
    ∃ w' r, (Builtin.copy_ #[t, t] ty #[u, v]).run P w = .ok r w' ∧ Leaves dm B0 φ w w' r K := by
  obtain ⟨r, off, len, m, cs, new, rfl, hr, hl, hsh, hone, hm, hK⟩ := H.out
  obtain ⟨p, a, cap, hp, rfl, g1, g2, g4, g3⟩ := hx
  obtain ⟨q1, q2, q3, cur, e', q4, q5, q6⟩ := R.own r cs p hr hp
  obtain ⟨e, i, hu, hi, hsz⟩ := Kd.sl_under hd hs
  have hs1 : (P.info? e).map (·.size) = some 1 := by rw [hi]; simp [hsz]
  have same : m = 0 → K (.s (.pl (.int .i64 (0 : Nat)))) h := fun h0 => by
    subst h0
    have : h.set r (.own (cs.take off ++ new.take 0 ++ cs.drop (off + 0))) = h := by
      have e0 : cs.take off ++ new.take 0 ++ cs.drop (off + 0) = cs := by simp
      rw [e0]
      exact set_same' hr
    rw [this] at hK
    exact hK
  rcases hsh.read R hy with ⟨e0, ya, yc, rfl⟩ | ⟨ya, yc, vs, hpos, rfl, hrep, hcells⟩
  · have h0 : m = 0 := by rw [hm, e0]; simp
    exact ⟨w, _, run_copy_none w t t ty e _ _ _ _ _ _ hu hs1 (by simp), _, _, φ, same h0, Sub.refl _, R, rfl, Lat.refl B0 w⟩
  · by_cases h0 : len = 0
    · subst h0
      have hm0 : m = 0 := by omega
      exact ⟨w, _, run_copy_none w t t ty e _ _ _ _ _ _ hu hs1 (by simp), _, _, φ, same hm0, Sub.refl _, R, rfl, Lat.refl B0 w⟩
    · obtain rfl := g3 (by omega)
      have hvl := hrep.length
      have hrt := hrep.take m
      have htl : (new.take m).length = m := by simp; omega
      have hvt : (vs.take m).length = m := by simp; omega
      have hpart := set_part R hr hp q4 q5 q6 hrt (o := off) (by rw [htl]; omega)
      rw [htl] at hpart
      have hrun := run_copy_row (P := P) w t t ty e p.b off len cap ya new.length yc cur e' (vs.take m) hu hs1 q4 (by rw [hvt, hm]) (fun j v hj => by
        have hjm : j < m := by have := (List.getElem?_eq_some_iff.1 hj).1; omega
        rw [List.getElem?_take_of_lt hjm] at hj
        exact hcells j v hj) (by rw [hvt]; omega) (hrt.one (fun c hc => hone c (List.mem_of_mem_take hc)))
      rw [hvt] at hrun
      rw [q1, Nat.zero_add]
      exact ⟨_, _, hrun, _, _, φ, hK, Sub.refl _, hpart, rfl, lat_setRow (Lat.refl B0 w) q2 _⟩

theorem hBoxP_run {B0 : Nat} {φ : Plan} {h : Heap} (R : Rep B0 φ h w) (t : TypeId) {n : Nat} {xs : List H0} {u : Value} (hx : repV φ (.agg xs) u) {K : HV → Heap → Prop} (H : HBoxP n xs h K) :
    ∃ w' r, (Instr.box t u).run P w = .ok r w' ∧ Leaves dm B0 φ w w' r K := by
  obtain ⟨hn, hone, hK⟩ := H.out
  obtain ⟨vs, rfl, hr⟩ := hx
  have hl := hr.length
  simp only [Array.length_toList] at hl
  refine ⟨w.alloc (.cells vs t), .pointer (some ⟨w.heap.size, 0, none⟩), ?_, _, _, φ ++ [⟨w.heap.size, 0, vs.size⟩], hK, Sub.push _ _, ?_, ⟨⟨w.heap.size, 0, vs.size⟩, ?_, rfl, by show vs.size = n; omega⟩, below_still R _⟩
  · simp [Instr.box, newVar, newRow, Value.cells]
  · exact R.push vs t xs (by omega) (fun k d hk => by
      obtain ⟨v, e1, e2⟩ := hr.get k d hk
      exact ⟨v, by simpa using e1, e2⟩)
  · rw [← R.len, List.getElem?_append_right (Nat.le_refl _)]
    simp

/-- A new variable at zero. -/
theorem hNew_run {B0 : Nat} {φ : Plan} {h : Heap} (R : Rep B0 φ h w) {t : TypeId} {i : TypeInfo} {z : Value} {zs : List Value} (hi : P.info? t = some i) (hz : i.zero = some z) (hc : z.cells = zs.toArray) {K : HV → Heap → Prop} (hK : K (.s (.ptr h.length 0)) (h ++ [.own (zs.map .pl)])) :
    ∃ w' r, (Instr.alloc t true (.tuple #[])).run P w = .ok r w' ∧ Leaves dm B0 φ w w' r K := by
  refine ⟨w.alloc (.cells zs.toArray t), .pointer (some ⟨w.heap.size, 0, none⟩), ?_, _, _, φ ++ [⟨w.heap.size, 0, zs.length⟩], hK, Sub.push _ _, ?_, ⟨⟨w.heap.size, 0, zs.length⟩, ?_, rfl⟩, below_still R _⟩
  · simp [Instr.alloc, zeroValue, typeInfo, hi, hz, newVar, newRow, hc]
  · have := R.push zs.toArray t (zs.map .pl) (by simp) (fun k d hk => by
      rw [List.getElem?_map, Option.map_eq_some_iff] at hk
      obtain ⟨v, e1, rfl⟩ := hk
      exact ⟨v, by simpa using e1, rfl⟩)
    simpa using this
  · rw [← R.len, List.getElem?_append_right (Nat.le_refl _)]
    simp

theorem hNewP_run {B0 : Nat} {φ : Plan} {h : Heap} (R : Rep B0 φ h w) {t : TypeId} {n : Nat} {z : Value} (hd : (Kd.arr n z).ok P t) {K : HV → Heap → Prop} (hK : K (.s (.pa h.length n)) (h ++ [.own (List.replicate n (.pl z))])) :
    ∃ w' r, (Instr.alloc t true (.tuple #[])).run P w = .ok r w' ∧ Leaves dm B0 φ w w' r K := by
  obtain ⟨e, i, j, h1, h2, h3, h4, h5, h6, _, h8⟩ := hd
  refine ⟨w.alloc (.cells (Array.replicate n z) t), .pointer (some ⟨w.heap.size, 0, none⟩), ?_, _, _, φ ++ [⟨w.heap.size, 0, n⟩], hK, Sub.push _ _, ?_, ⟨⟨w.heap.size, 0, n⟩, ?_, rfl, rfl⟩, below_still R _⟩
  · simp [Instr.alloc, zeroValue, typeInfo, h2, h4, newVar, newRow, Value.cells]
  · have := R.push (Array.replicate n z) t (List.replicate n (.pl z)) (by simp) (fun k d hk => by
      have hkn : k < n := by have := (List.getElem?_eq_some_iff.1 hk).1; simpa using this
      rw [List.getElem?_replicate_of_lt hkn] at hk
      cases hk
      exact ⟨z, by simp [hkn], rfl⟩)
    simpa using this
  · rw [← R.len, List.getElem?_append_right (Nat.le_refl _)]
    simp

theorem agg_rcd {t : TypeId} {zs : List Value} (hd : (Kd.rcd zs).ok P t) : (∀ w : World, (isAgg t).run P w = .ok true w) ∧ ∃ i, P.info? t = some i ∧ i.size = zs.length := by
  obtain ⟨fs, i, h1, h2, h3, h4, _⟩ := hd
  exact ⟨fun w => by unfold isAgg; simp only [Sem.run_bind, run_underlying h1, Result.andThen_ok]; rfl, i, h2, h4⟩
theorem agg_arr {t : TypeId} {n : Nat} {z : Value} (hd : (Kd.arr n z).ok P t) : (∀ w : World, (isAgg t).run P w = .ok true w) ∧ ∃ i, P.info? t = some i ∧ i.size = n := by
  obtain ⟨e, i, j, h1, h2, h3, _⟩ := hd
  exact ⟨fun w => by unfold isAgg; simp only [Sem.run_bind, run_underlying h1, Result.andThen_ok]; rfl, i, h2, h3⟩

end
end Go.Proofs.Ytecfgbjddkpkcaa.Hx
