/-
  The calculus of rows is sound, part 2b: maps of keys, values of several cells, slices of such.
  The calculus of rows is sound, part 3: append, a new variable, and each operation as the model carries it out.
-/
import Derived.Test.YtjgnnjegaedinaaZ02
import Derived.MapKept
import Derived.WideKeyRuns
import Derived.Laws.IdiomCopy
import Derived.Lib.AppendZerosOnto
import Derived.Laws.Tables
import Derived.Laws.BytesString
namespace Go.Proofs.Ytjgnnjegaedinaa.Hx
open Go.RowKit Go.MapKept
variable {dm : Bool}

section
variable {P : Program} {w : World}

theorem set_same' {α : Type} {l : List α} {r : Nat} {x : α} (h : l[r]? = some x) : l.set r x = l := by
  apply List.ext_getElem?
  intro k
  by_cases e : r = k
  · subst e
    rw [List.getElem?_set_self (List.getElem?_eq_some_iff.1 h).1, h]
  · rw [List.getElem?_set_ne e]

theorem run_part_int {e : TypeId} {k : IntKind} (hu : P.underlying e = some (.int k)) {xs : Array Value} {o : Nat} {v : Value} (h : xs[o]? = some v) : (part e xs o).run P w = .ok v w := by
  have hagg : (isAgg e).run P w = .ok false w := by
    unfold isAgg
    simp only [Sem.run_bind, run_underlying hu, Result.andThen_ok]
    rfl
  simp [part, hagg, h]

theorem run_equal_key {kt ke : TypeId} {j : TypeInfo} (h1 : P.underlying kt = some (.array 4 ke)) (h2 : P.info? ke = some j) (h3 : j.size = 1) (h4 : P.underlying ke = some (.int .i64)) (a b c d a' b' c' d' : Int) :
    (Op.equal kt (Key.arr a b c d).val (Key.arr a' b' c' d').val).run P w = .ok (decide (Key.arr a b c d = Key.arr a' b' c' d')) w := by
  have hp : ∀ (xs : Array Value) (o : Nat) (v : Value), xs[o]? = some v → (part ke xs o).run P w = .ok v w := fun xs o v h => run_part_int h4 h
  have e0 : List.range' 0 4 = [0, 1, 2, 3] := by decide
  have q : ∀ x y : Int, (Op.equalIn 9999 ke (.int .i64 x) (.int .i64 y)).run P w = .ok (x == y) w := fun x y => run_equalIn_int w 9998 ke .i64 .i64 x y h4
  unfold Op.equal Op.maxDepth Key.val
  rw [Op.equalIn]
  simp only [Sem.run_bind, run_underlying h1, Result.andThen_ok, sizeOf, typeInfo, run_program, h2, h3, Sem.run_pure, Std.Legacy.Range.forIn_eq_forIn_range', Std.Legacy.Range.size, Nat.sub_zero, Nat.add_one_sub_one, Nat.div_one, e0, Nat.mul_one]
  have p0 := hp #[.int .i64 a, .int .i64 b, .int .i64 c, .int .i64 d] 0 (.int .i64 a) rfl
  have p1 := hp #[.int .i64 a, .int .i64 b, .int .i64 c, .int .i64 d] 1 (.int .i64 b) rfl
  have p2 := hp #[.int .i64 a, .int .i64 b, .int .i64 c, .int .i64 d] 2 (.int .i64 c) rfl
  have p3 := hp #[.int .i64 a, .int .i64 b, .int .i64 c, .int .i64 d] 3 (.int .i64 d) rfl
  have r0 := hp #[.int .i64 a', .int .i64 b', .int .i64 c', .int .i64 d'] 0 (.int .i64 a') rfl
  have r1 := hp #[.int .i64 a', .int .i64 b', .int .i64 c', .int .i64 d'] 1 (.int .i64 b') rfl
  have r2 := hp #[.int .i64 a', .int .i64 b', .int .i64 c', .int .i64 d'] 2 (.int .i64 c') rfl
  have r3 := hp #[.int .i64 a', .int .i64 b', .int .i64 c', .int .i64 d'] 3 (.int .i64 d') rfl
  simp only [List.forIn_cons, List.forIn_nil, Sem.run_bind, p0, r0, q, Result.andThen_ok]
  by_cases h0 : a = a'
  · subst h0
    by_cases h1 : b = b'
    · subst h1
      by_cases h2 : c = c'
      · subst h2
        by_cases h3 : d = d'
        · subst h3
          simp [q, p1, p2, p3]
        · simp [q, p1, p2, p3, r1, r2, r3, h3]
      · simp [q, p1, p2, r1, r2, h2]
    · simp [q, p1, r1, h1]
  · simp [h0]

theorem run_check_key {kt ke : TypeId} {j : TypeInfo} (h1 : P.underlying kt = some (.array 4 ke)) (h2 : P.info? ke = some j) (h3 : j.size = 1) (h4 : P.underlying ke = some (.int .i64)) (a b c d : Int) (em : Bool) :
    (Instr.checkKey em 10000 kt (Key.arr a b c d).val).run P w = .ok () w := by
  have hp : ∀ (xs : Array Value) (o : Nat) (v : Value), xs[o]? = some v → (part ke xs o).run P w = .ok v w := fun xs o v h => run_part_int h4 h
  have e0 : List.range' 0 4 = [0, 1, 2, 3] := by decide
  have q : ∀ x : Int, (Instr.checkKey em 9999 ke (.int .i64 x)).run P w = .ok () w := fun x => by
    rw [Instr.checkKey]
    simp [run_underlying h4]
  unfold Key.val
  rw [Instr.checkKey]
  simp only [Sem.run_bind, run_underlying h1, Result.andThen_ok, sizeOf, typeInfo, Sem.run_pure, Std.Legacy.Range.forIn_eq_forIn_range', Std.Legacy.Range.size, Nat.sub_zero, Nat.add_one_sub_one, Nat.div_one, e0]
  have p0 := hp #[.int .i64 a, .int .i64 b, .int .i64 c, .int .i64 d] 0 (.int .i64 a) rfl
  have p1 := hp #[.int .i64 a, .int .i64 b, .int .i64 c, .int .i64 d] 1 (.int .i64 b) rfl
  have p2 := hp #[.int .i64 a, .int .i64 b, .int .i64 c, .int .i64 d] 2 (.int .i64 c) rfl
  have p3 := hp #[.int .i64 a, .int .i64 b, .int .i64 c, .int .i64 d] 3 (.int .i64 d) rfl
  simp [List.forIn_cons, p0, p1, p2, p3, q, h2, h3]

theorem find_asking {kt ke : TypeId} {j : TypeInfo} (h1 : P.underlying kt = some (.array 4 ke)) (h2 : P.info? ke = some j) (h3 : j.size = 1) (h4 : P.underlying ke = some (.int .i64)) (a b c d : Int) :
    ∀ (es : List MapEntry) (i : Nat), (∀ e ∈ es, e.val = .bool true ∧ ∃ k : Key, e.key = k.val ∧ k.isStr = false) →
      ∃ r, (Instr.findAsking kt (Key.arr a b c d).val es i).run P w = .ok r w ∧ ((∃ e ∈ es, e.key = (Key.arr a b c d).val) → ∃ i, r = some (i, .bool true)) ∧ ((∀ e ∈ es, e.key ≠ (Key.arr a b c d).val) → r = none)
  | [], i, _ => ⟨none, by simp [Instr.findAsking], fun ⟨e, he, _⟩ => by simp at he, fun _ => rfl⟩
  | e :: es, i, h => by
    obtain ⟨hv, k, hk, hs⟩ := h e (by simp)
    obtain ⟨r, q1, q2, q3⟩ := find_asking h1 h2 h3 h4 a b c d es (i + 1) (fun x hx => h x (by simp [hx]))
    cases k with
    | str s => simp [Key.isStr] at hs
    | arr a' b' c' d' =>
      have heq := run_equal_key (P := P) (w := w) h1 h2 h3 h4 a b c d a' b' c' d'
      rw [← hk] at heq
      by_cases hd : Key.arr a b c d = Key.arr a' b' c' d'
      · refine ⟨some (i, .bool true), ?_, fun _ => ⟨i, rfl⟩, fun hn => absurd (by rw [hk, hd]) (hn e (by simp))⟩
        rw [decide_eq_true hd] at heq
        simp [Instr.findAsking, heq, hv]
      · rw [decide_eq_false hd] at heq
        have hne : e.key ≠ (Key.arr a b c d).val := fun x => hd (Key.val_inj (by rw [← x, hk]))
        refine ⟨r, by simp [Instr.findAsking, heq, q1], fun ⟨x, hx, e1⟩ => q2 ?_, fun hn => q3 fun x hx => hn x (by simp [hx])⟩
        rcases List.mem_cons.1 hx with rfl | hx
        · exact absurd e1 hne
        · exact ⟨x, hx, e1⟩

/-- What the search for a key finds. -/
theorem find_says {kt : TypeId} {so : Bool} (hstr : so = true → P.underlying kt = some .string) (harr : so = false → ∃ ke j, P.underlying kt = some (.array 4 ke) ∧ P.info? ke = some j ∧ j.size = 1 ∧ P.underlying ke = some (.int .i64))
    {ks : List Key} {ents : Array MapEntry} (hS : Says so ks ents) {k : Key} (hk : k.isStr = so) :
    (∀ em, (Instr.checkKey em 10000 kt k.val).run P w = .ok () w) ∧ ∃ r, (Instr.findKey kt k.val ents.toList).run P w = .ok r w ∧ (k ∈ ks → ∃ i, r = some (i, .bool true)) ∧ (k ∉ ks → r = none) := by
  have hmem : k ∈ ks → ∃ e ∈ ents.toList, e.key = k.val := fun h => (hS.has k h).2
  have hno : k ∉ ks → ∀ e ∈ ents.toList, e.key ≠ k.val := fun h e he x => by
    obtain ⟨_, k', hk', e'⟩ := hS.all e he
    exact h (by rw [Key.val_inj (x := k) (y := k') (by rw [← x, e'])]; exact hk')
  cases so with
  | true =>
    have hd := hstr rfl
    cases k with
    | arr a b c d => simp [Key.isStr] at hk
    | str s =>
      have kk : IsKey .string (Key.str s).val := trivial
      refine ⟨fun em => run_checkKey hd kk em 9999, ?_⟩
      have hall : ∀ x ∈ ents.toList, IsKey .string x.key := fun x hx => by
        obtain ⟨_, k', hk', e'⟩ := hS.all x hx
        have := (hS.has k' hk').1
        rw [e']
        cases k' with
        | str _ => trivial
        | arr _ _ _ _ => simp [Key.isStr] at this
      rcases findNow_spec kk ents.toList 0 hall with ⟨g1, g2⟩ | ⟨j, e, g1, g2, g3⟩
      · refine ⟨none, run_findKey hd g1, fun h => ?_, fun _ => rfl⟩
        obtain ⟨e, he, e1⟩ := hmem h
        exact absurd e1 (g2 e he)
      · have he : e ∈ ents.toList := List.mem_of_getElem? g2
        refine ⟨_, run_findKey hd g1, fun _ => ⟨0 + j, by rw [(hS.all e he).1]⟩, fun h => absurd g3 (hno h e he)⟩
  | false =>
    obtain ⟨ke, j, h1, h2, h3, h4⟩ := harr rfl
    cases k with
    | str s => simp [Key.isStr] at hk
    | arr a b c d =>
      refine ⟨fun em => run_check_key h1 h2 h3 h4 a b c d em, ?_⟩
      obtain ⟨r, q1, q2, q3⟩ := find_asking (P := P) (w := w) h1 h2 h3 h4 a b c d ents.toList 0 (fun e he => by
        obtain ⟨g1, k', hk', e'⟩ := hS.all e he
        exact ⟨g1, k', e', (hS.has k' hk').1⟩)
      refine ⟨r, ?_, fun h => q2 (hmem h), fun h => q3 (hno h)⟩
      rw [run_findKey_eq w (by rw [h1])]
      exact q1

theorem keyAt_rep {φ : Plan} {x : HV} {u : Value} {k : Key} (hx : repV φ x u) (h : keyAt x = some k) : u = k.val := by
  unfold keyAt at h
  split at h
  · cases h
    exact rep0_pl hx
  · cases h
    obtain ⟨⟨vs⟩, rfl, h⟩ := hx
    match vs, h with
    | [v1, v2, v3, v4], ⟨h1, h2, h3, h4, _⟩ =>
      have h1 : v1 = _ := h1
      have h2 : v2 = _ := h2
      have h3 : v3 = _ := h3
      have h4 : v4 = _ := h4
      rw [h1, h2, h3, h4]
      rfl
  · cases h

theorem hLook_run {B0 : Nat} {φ : Plan} {h : Heap} (R : Rep B0 φ h w) {t : TypeId} {so : Bool} (hd : (Kd.keys so).ok P t) {x i : HV} {u v : Value} (hx : repV φ x u) (hi : repV φ i v) {K : HV → Prop} (H : HLook so h x i K) :
    ∃ r : Value, (∀ w' : World, Lat dm w.heap.size w w' → (Instr.lookup t u v false).run P w' = .ok r w') ∧ K (.s (.pl r)) := by
  obtain ⟨r, ks, k, rfl, hr, hk, hs, hK⟩ := H.out
  obtain ⟨p, hp, rfl⟩ := hx
  obtain rfl := keyAt_rep hi hk
  obtain ⟨⟨kt, et, ti, d1, d2, d3, d4, d5⟩, _⟩ := hd
  refine ⟨_, fun w' hb => ?_, hK⟩
  obtain ⟨_, ents, clk, g1, g2⟩ := (R.below hb).keys r so ks p hr hp
  obtain ⟨c1, f, f1, f2, f3⟩ := find_says (P := P) (w := w') d4 d5 g2 hs
  have hobj := run_getObj_map (P := P) w' p.b ents clk g1
  by_cases hm : k ∈ ks
  · obtain ⟨i, rfl⟩ := f2 hm
    simp [Instr.lookup, run_underlying d1, hobj, c1, f1, hm]
  · obtain rfl := f3 hm
    simp [Instr.lookup, run_underlying d1, hobj, c1, f1, hm, zeroValue, typeInfo, d2, d3]

theorem hSet_run {B0 : Nat} {φ : Plan} {h : Heap} (R : Rep B0 φ h w) {t : TypeId} {so : Bool} (hd : (Kd.keys so).ok P t) {x i y : HV} {u v z : Value} (hx : repV φ x u) (hi : repV φ i v) (hy : repV φ y z) {K : HV → Heap → Prop} (H : HSet so h x i y K) :
    ∃ w', (Instr.mapUpdate t u v z).run P w = .ok () w' ∧ Leaves dm B0 φ w w' undef K := by
  obtain ⟨r, ks, k, rfl, rfl, hr, hk, hs, hm, hK⟩ := H.out
  obtain ⟨p, hp, rfl⟩ := hx
  obtain rfl := keyAt_rep hi hk
  obtain rfl := rep0_pl hy
  obtain ⟨⟨kt, et, ti, d1, d2, d3, d4, d5⟩, _⟩ := hd
  obtain ⟨q1, ents, clk, g1, g2⟩ := R.keys r so ks p hr hp
  obtain ⟨c1, f, f1, f2, f3⟩ := find_says (P := P) (w := w) d4 d5 g2 hs
  obtain rfl := f3 hm
  have hobj := run_getObj_map (P := P) w p.b ents clk g1
  have hset := run_setObj_map (P := P) (.map (ents.push ⟨k.val, .bool true, clk⟩) (clk + 1)) g1
  have hh := heap_set (o' := .map (ents.push ⟨k.val, .bool true, clk⟩) (clk + 1)) g1
  refine ⟨{ w with heap := w.heap.setIfInBounds p.b (.map (ents.push ⟨k.val, .bool true, clk⟩) (clk + 1)) }, ?_, .dead, _, φ, hK, Sub.refl _, ?_, trivial, ?_⟩
  · simp [Instr.mapUpdate, run_underlying d1, hobj, c1, f1, hset]
  · refine R.rewriteMap hr hp (by simp) (fun q hq => hh.2 q hq) hh.1 ⟨fun e he => ?_, fun k' hk' => ?_⟩
    · rw [Array.toList_push] at he
      rcases List.mem_append.1 he with he | he
      · obtain ⟨e1, k', hk', e2⟩ := g2.all e he
        exact ⟨e1, k', by simp [hk'], e2⟩
      · obtain rfl : e = ⟨k.val, .bool true, clk⟩ := by simpa using he
        exact ⟨rfl, k, by simp, rfl⟩
    · rcases List.mem_cons.1 hk' with rfl | hk'
      · exact ⟨hs, ⟨k'.val, .bool true, clk⟩, by simp, rfl⟩
      · obtain ⟨e1, e, he, e2⟩ := g2.has k' hk'
        exact ⟨e1, e, by simp [he], e2⟩
  · refine ⟨⟨rfl, rfl, rfl, by simp, fun q hq => hh.2 q (by omega)⟩, fun _ => Nat.le_refl _⟩

theorem hMakeMap_run {B0 : Nat} {φ : Plan} {h : Heap} (R : Rep B0 φ h w) (t : TypeId) (so : Bool) {K : HV → Heap → Prop} (hK : K (.s (.mp h.length)) (h ++ [.keys so []])) :
    ∃ w' r, (Instr.makeMap t none).run P w = .ok r w' ∧ Leaves dm B0 φ w w' r K := by
  refine ⟨w.alloc (.map #[] 0), .map (some w.heap.size), by simp [Instr.makeMap], _, _, φ ++ [⟨w.heap.size, 0, 0⟩], hK, Sub.push _ _, R.pushMap so, ⟨⟨w.heap.size, 0, 0⟩, ?_, rfl⟩, below_still R _⟩
  rw [← R.len, List.getElem?_append_right (Nat.le_refl _)]
  simp

/-- A value of several cells, read. -/
theorem hLoadA_run {B0 : Nat} {φ : Plan} {h : Heap} (R : Rep B0 φ h w) {t : TypeId} {n : Nat} (hag : ∀ w : World, (isAgg t).run P w = .ok true w) {i : TypeInfo} (hi : P.info? t = some i) (hs : i.size = n) {x : HV} {u : Value} (hx : repV φ x u) {K : HV → Prop} (H : HLoadA n h x K) :
    ∃ (r : Value) (y : HV), (∀ w' : World, Lat dm w.heap.size w w' → (Instr.loadAt t u).run P w' = .ok r w') ∧ repV φ y r ∧ K y := by
  obtain ⟨r, o, row, cs, hp, hr, hc, hl, hK⟩ := H.out
  have hu : ∃ p, φ[r]? = some p ∧ u = .pointer (some ⟨p.b, p.o + o, none⟩) := by
    rcases hp with rfl | ⟨⟨m, rfl⟩, rfl⟩
    · exact hx
    · obtain ⟨p, h1, h2, _⟩ := hx
      exact ⟨p, h1, h2⟩
  obtain ⟨p, hp, rfl⟩ := hu
  obtain ⟨vs, e1, e2⟩ := concrete (φ := φ) (p := fun k v => w.cell? ⟨p.b, p.o + (o + k), none⟩ = some v) (cs := (cs.drop o).take n) (k0 := 0) (fun k c hk => by
    have hk2 : k < n := by have := (List.getElem?_eq_some_iff.1 hk).1; simp at this; omega
    rw [List.getElem?_take_of_lt hk2, List.getElem?_drop] at hk
    obtain ⟨v, e1, e2⟩ := R.cell hr hc hk hp
    exact ⟨v, by simpa using e1, e2⟩)
  have hvl : vs.length = n := by rw [← e1.length]; simp; omega
  refine ⟨.agg vs.toArray, .agg _, fun w' hb => ?_, ⟨vs.toArray, rfl, by simpa using e1⟩, hK⟩
  have hcell : ∀ j v, vs[j]? = some v → w'.cell? ((⟨p.b, p.o + o, none⟩ : Addr).add j) = some v := fun j v hj => by
    have := e2 j v hj
    rw [addr_add, Nat.add_assoc]
    simp only [Nat.zero_add] at this
    rw [hb.cell (World.block_lt_of_cell? w _ this)]
    exact this
  have hld := run_loadCells_list (P := P) (w := w') _ vs hcell
  rw [hvl] at hld
  simp [Instr.loadAt, Instr.sureAddr, loadVar, hag, sizeOf, typeInfo, hi, hs, hld]

theorem part_at {φ : Plan} {p : Place} {r o : Nat} {x : HV} {u : Value} (hx : repV φ x u) (hp : x = .s (.ptr r o) ∨ (∃ m, x = .s (.pa r m)) ∧ o = 0) (hr : φ[r]? = some p) : u = .pointer (some ⟨p.b, p.o + o, none⟩) := by
  rcases hp with rfl | ⟨⟨m, rfl⟩, rfl⟩
  · obtain ⟨q, h1, rfl⟩ := hx
    rw [hr] at h1
    cases h1
    rfl
  · obtain ⟨q, h1, rfl, _⟩ := hx
    rw [hr] at h1
    cases h1
    rfl

/-- A value of several cells, written. -/
theorem hStoreA_run {B0 : Nat} {φ : Plan} {h : Heap} (R : Rep B0 φ h w) {t : TypeId} {n : Nat} {i : TypeInfo} (hi : P.info? t = some i) (hs : i.size = n) {x y : HV} {u v : Value} (hx : repV φ x u) (hy : repV φ y v) {K : HV → Heap → Prop} (H : HStoreA n h x y K) :
    ∃ w', (Instr.storeAt t u v).run P w = .ok () w' ∧ Leaves dm B0 φ w w' undef K := by
  obtain ⟨r, o, cs, xs, hp, rfl, hn, hone, hr, ho, hK⟩ := H.out
  obtain ⟨p, hpl⟩ := R.place hr
  obtain rfl := part_at hx hp hpl
  obtain ⟨vs, rfl, hrep⟩ := hy
  obtain ⟨q1, q2, q3, cur, e, q4, q5, q6⟩ := R.own r cs p hr hpl
  have hvl := hrep.length
  simp only [Array.length_toList] at hvl
  have hpart := set_part R hr hpl q4 q5 q6 hrep (o := o) (by omega)
  rw [hn] at hpart
  have hst := run_storeCells_at P p.b o e vs.toList 0 cur w q4 (by simp; omega) (hrep.one hone)
  simp only [Nat.add_zero, Array.length_toList] at hst
  have hvn : vs.size = n := by omega
  rw [hvn] at hst
  refine ⟨_, ?_, .dead, _, φ, hK, Sub.refl _, hpart, trivial, lat_setRow (Lat.refl B0 w) q2 _⟩
  rw [q1, Nat.zero_add]
  simp [Instr.storeAt, Instr.sureAddr, storeVar, Value.cells, sizeOf, typeInfo, hi, hs, hvn, hst]

/-- A number of an array. -/
theorem hAt_run {φ : Plan} {t : TypeId} {n : Nat} {z : Value} (hd : (Kd.arr n z).ok P t) {x i : HV} {u v : Value} (hx : repV φ x u) (hi : repV φ i v) {K : HV → Prop} (H : HAt n x i K) :
    ∃ (r : Value) (y : HV), (∀ w : World, (Instr.index t u v).run P w = .ok r w) ∧ repV φ y r ∧ K y := by
  obtain ⟨xs, k, j, c, rfl, rfl, hj, hc, hK⟩ := H.out
  obtain ⟨vs, rfl, hr⟩ := hx
  obtain rfl := rep0_pl hi
  obtain ⟨e, ti, tj, h1, h2, h3, h4, h5, h6, ⟨_, d, o2, o3⟩, h8⟩ := hd
  obtain ⟨v, e1, e2⟩ := hr.get j c hc
  have hagg : ∀ w : World, (isAgg e).run P w = .ok false w := fun w => by
    unfold isAgg
    simp only [Sem.run_bind, run_underlying o2, Result.andThen_ok]
    cases d <;> simp [flat] at o3 <;> rfl
  have hv : vs[j]? = some v := by simpa using e1
  refine ⟨v, .s c, fun w => ?_, e2, hK⟩
  simp [Instr.index, asIntOf, run_underlying h1, sizeOf, typeInfo, h5, h6, part, hagg, hv, hj]

theorem hIdxA_run {φ : Plan} {t : TypeId} {n : Nat} {z : Value} (hd : (Kd.arr n z).ok P t) {x i : HV} {u v : Value} (hx : repV φ x u) (hi : repV φ i v) {K : HV → Prop} (H : HIdxA n x i K) :
    ∃ (r : Value) (y : HV), (∀ w : World, (Instr.indexAt t u v).run P w = .ok r w) ∧ repV φ y r ∧ K y := by
  obtain ⟨r, k, j, rfl, rfl, hj, hK⟩ := H.out
  obtain ⟨p, hp, rfl, hpn⟩ := hx
  obtain rfl := rep0_pl hi
  obtain ⟨e, ti, tj, h1, h2, h3, h4, h5, h6, _, h8⟩ := hd
  refine ⟨.pointer (some ⟨p.b, p.o + j, none⟩), .s (.ptr r j), fun w => ?_, ⟨p, hp, rfl⟩, hK⟩
  simp [Instr.indexAt, asIntOf, run_underlying h1, Instr.sureAddr, sizeOf, typeInfo, h5, h6, hj, addr_add]

theorem hSliceA_run {φ : Plan} {t : TypeId} {n : Nat} {z : Value} (hn : n ≤ 4096) (hd : (Kd.arr n z).ok P t) {x : HV} {lo hi : Option HV} {u : Value} {vlo vhi : Option Value} (hx : repV φ x u)
    (hlo : (lo = none ∧ vlo = none) ∨ ∃ y v, lo = some y ∧ vlo = some v ∧ repV φ y v) (hhi : (hi = none ∧ vhi = none) ∨ ∃ y v, hi = some y ∧ vhi = some v ∧ repV φ y v) {K : HV → Prop} (H : HSliceA n x lo hi K) :
    ∃ (r : Value) (y : HV), (∀ w : World, (Instr.sliceAt t u vlo vhi none).run P w = .ok r w) ∧ repV φ y r ∧ K y := by
  obtain ⟨r, l, m, rfl, hl, hm, hlm, hmn, hK⟩ := H.out
  obtain ⟨p, hp, rfl, hpn⟩ := hx
  obtain ⟨e, ti, tj, h1, h2, h3, h4, h5, h6, _, h8⟩ := hd
  have hb : ∀ w : World, (Instr.sliceBounds false n n vlo vhi none).run P w = .ok (l, m, n) w := by
    intro w
    rcases hhi with ⟨rfl, rfl⟩ | ⟨y, v, rfl, rfl, hv⟩
    · have em : m = n := by rcases hm with ⟨_, h⟩ | ⟨k, h⟩; exact h; cases h
      subst em
      rcases hlo with ⟨rfl, rfl⟩ | ⟨y, v, rfl, rfl, hv⟩
      · have el : l = 0 := by rcases hl with ⟨_, h⟩ | ⟨k, h⟩; exact h; cases h
        subst el
        simp [Instr.sliceBounds]
      · rcases hl with ⟨h, _⟩ | ⟨k, h⟩
        · cases h
        · cases h
          obtain rfl := rep0_pl hv
          simp [Instr.sliceBounds, run_sliceBound (P := P) w k (l : Int) m _ (by omega) (by omega)]
    · rcases hm with ⟨h, _⟩ | ⟨k, h⟩
      · cases h
      cases h
      obtain rfl := rep0_pl hv
      have hmc : (m : Int) ≤ n := by omega
      rcases hlo with ⟨rfl, rfl⟩ | ⟨y, v, rfl, rfl, hv⟩
      · have el : l = 0 := by rcases hl with ⟨_, h⟩ | ⟨k, h⟩; exact h; cases h
        subst el
        simp [Instr.sliceBounds, run_sliceBound (P := P) w k (m : Int) n _ (by omega) hmc]
      · rcases hl with ⟨h, _⟩ | ⟨k', h⟩
        · cases h
        · cases h
          obtain rfl := rep0_pl hv
          simp [Instr.sliceBounds, run_sliceBound (P := P) w k (m : Int) n _ (by omega) hmc, run_sliceBound (P := P) w k' (l : Int) m _ (by omega) (by omega)]
  refine ⟨.slice (some (if n = l then ⟨p.b, p.o, none⟩ else (⟨p.b, p.o, none⟩ : Addr).add l)) (m - l) (n - l), .s (.sl r l (m - l)), fun w => ?_, ⟨p, _, n - l, hp, rfl, by omega, by unfold maxLen; omega, by omega, fun h0 => ?_⟩, hK⟩
  · simp [Instr.sliceAt, run_underlying h1, Instr.sureAddr, hb, sizeOf, typeInfo, h5, h6]
  · rw [if_neg (by omega), addr_add]

/-- What is copied. -/
theorem hCopy_run {B0 : Nat} {φ : Plan} {h : Heap} (R : Rep B0 φ h w) {t ty : TypeId} {d : Kd} (hd : d.ok P t) (hs : d.isSl = true) {x y : HV} {u v : Value} (hx : repV φ x u) (hy : repV φ y v) {K : HV → Heap → Prop} (H : HCopy h x y K) :
    ∃ w' r, (Builtin.copy_ #[t, t] ty #[u, v]).run P w = .ok r w' ∧ Leaves dm B0 φ w w' r K := by
  obtain ⟨r, off, len, m, cs, new, rfl, hr, hl, hsh, hone, hm, hK⟩ := H.out
  obtain ⟨p, a, cap, hp, rfl, g1, g2, g4, g3⟩ := hx
  obtain ⟨q1, q2, q3, cur, e', q4, q5, q6⟩ := R.own r cs p hr hp
  obtain ⟨e, i, hu, hi, hsz⟩ := Kd.sl_under hd hs
  have hs1 : (P.info? e).map (·.size) = some 1 := by rw [hi]; simp [hsz]
  have same : m = 0 → K (.s (.pl (.int .i64 (0 : Nat)))) h := fun h0 => by
    subst h0
    have : h.set r (.own (cs.take off ++ new.take 0 ++ cs.drop (off + 0))) = h := by
      have e0 : cs.take off ++ new.take 0 ++ cs.drop (off + 0) = cs := by simp
      rw [e0]
      exact set_same' hr
    rw [this] at hK
    exact hK
  rcases hsh.read R hy with ⟨e0, ya, yc, rfl⟩ | ⟨ya, yc, vs, hpos, rfl, hrep, hcells⟩
  · have h0 : m = 0 := by rw [hm, e0]; simp
    exact ⟨w, _, run_copy_none w t t ty e _ _ _ _ _ _ hu hs1 (by simp), _, _, φ, same h0, Sub.refl _, R, rfl, Lat.refl B0 w⟩
  · by_cases h0 : len = 0
    · subst h0
      have hm0 : m = 0 := by omega
      exact ⟨w, _, run_copy_none w t t ty e _ _ _ _ _ _ hu hs1 (by simp), _, _, φ, same hm0, Sub.refl _, R, rfl, Lat.refl B0 w⟩
    · obtain rfl := g3 (by omega)
      have hvl := hrep.length
      have hrt := hrep.take m
      have htl : (new.take m).length = m := by simp; omega
      have hvt : (vs.take m).length = m := by simp; omega
      have hpart := set_part R hr hp q4 q5 q6 hrt (o := off) (by rw [htl]; omega)
      rw [htl] at hpart
      have hrun := run_copy_row (P := P) w t t ty e p.b off len cap ya new.length yc cur e' (vs.take m) hu hs1 q4 (by rw [hvt, hm]) (fun j v hj => by
        have hjm : j < m := by have := (List.getElem?_eq_some_iff.1 hj).1; omega
        rw [List.getElem?_take_of_lt hjm] at hj
        exact hcells j v hj) (by rw [hvt]; omega) (hrt.one (fun c hc => hone c (List.mem_of_mem_take hc)))
      rw [hvt] at hrun
      rw [q1, Nat.zero_add]
      exact ⟨_, _, hrun, _, _, φ, hK, Sub.refl _, hpart, rfl, lat_setRow (Lat.refl B0 w) q2 _⟩

theorem hBoxP_run {B0 : Nat} {φ : Plan} {h : Heap} (R : Rep B0 φ h w) (t : TypeId) {n : Nat} {xs : List H0} {u : Value} (hx : repV φ (.agg xs) u) {K : HV → Heap → Prop} (H : HBoxP n xs h K) :
    ∃ w' r, (Instr.box t u).run P w = .ok r w' ∧ Leaves dm B0 φ w w' r K := by
  obtain ⟨hn, hone, hK⟩ := H.out
  obtain ⟨vs, rfl, hr⟩ := hx
  have hl := hr.length
  simp only [Array.length_toList] at hl
  refine ⟨w.alloc (.cells vs t), .pointer (some ⟨w.heap.size, 0, none⟩), ?_, _, _, φ ++ [⟨w.heap.size, 0, vs.size⟩], hK, Sub.push _ _, ?_, ⟨⟨w.heap.size, 0, vs.size⟩, ?_, rfl, by show vs.size = n; omega⟩, below_still R _⟩
  · simp [Instr.box, newVar, newRow, Value.cells]
  · exact R.push vs t xs (by omega) (fun k d hk => by
      obtain ⟨v, e1, e2⟩ := hr.get k d hk
      exact ⟨v, by simpa using e1, e2⟩)
  · rw [← R.len, List.getElem?_append_right (Nat.le_refl _)]
    simp

/-- A new variable at zero. -/
theorem hNew_run {B0 : Nat} {φ : Plan} {h : Heap} (R : Rep B0 φ h w) {t : TypeId} {i : TypeInfo} {z : Value} {zs : List Value} (hi : P.info? t = some i) (hz : i.zero = some z) (hc : z.cells = zs.toArray) {K : HV → Heap → Prop} (hK : K (.s (.ptr h.length 0)) (h ++ [.own (zs.map .pl)])) :
    ∃ w' r, (Instr.alloc t true (.tuple #[])).run P w = .ok r w' ∧ Leaves dm B0 φ w w' r K := by
  refine ⟨w.alloc (.cells zs.toArray t), .pointer (some ⟨w.heap.size, 0, none⟩), ?_, _, _, φ ++ [⟨w.heap.size, 0, zs.length⟩], hK, Sub.push _ _, ?_, ⟨⟨w.heap.size, 0, zs.length⟩, ?_, rfl⟩, below_still R _⟩
  · simp [Instr.alloc, zeroValue, typeInfo, hi, hz, newVar, newRow, hc]
  · have := R.push zs.toArray t (zs.map .pl) (by simp) (fun k d hk => by
      rw [List.getElem?_map, Option.map_eq_some_iff] at hk
      obtain ⟨v, e1, rfl⟩ := hk
      exact ⟨v, by simpa using e1, rfl⟩)
    simpa using this
  · rw [← R.len, List.getElem?_append_right (Nat.le_refl _)]
    simp

theorem hNewP_run {B0 : Nat} {φ : Plan} {h : Heap} (R : Rep B0 φ h w) {t : TypeId} {n : Nat} {z : Value} (hd : (Kd.arr n z).ok P t) {K : HV → Heap → Prop} (hK : K (.s (.pa h.length n)) (h ++ [.own (List.replicate n (.pl z))])) :
    ∃ w' r, (Instr.alloc t true (.tuple #[])).run P w = .ok r w' ∧ Leaves dm B0 φ w w' r K := by
  obtain ⟨e, i, j, h1, h2, h3, h4, h5, h6, _, h8⟩ := hd
  refine ⟨w.alloc (.cells (Array.replicate n z) t), .pointer (some ⟨w.heap.size, 0, none⟩), ?_, _, _, φ ++ [⟨w.heap.size, 0, n⟩], hK, Sub.push _ _, ?_, ⟨⟨w.heap.size, 0, n⟩, ?_, rfl, rfl⟩, below_still R _⟩
  · simp [Instr.alloc, zeroValue, typeInfo, h2, h4, newVar, newRow, Value.cells]
  · have := R.push (Array.replicate n z) t (List.replicate n (.pl z)) (by simp) (fun k d hk => by
      have hkn : k < n := by have := (List.getElem?_eq_some_iff.1 hk).1; simpa using this
      rw [List.getElem?_replicate_of_lt hkn] at hk
      cases hk
      exact ⟨z, by simp [hkn], rfl⟩)
    simpa using this
  · rw [← R.len, List.getElem?_append_right (Nat.le_refl _)]
    simp

theorem agg_rcd {t : TypeId} {zs : List Value} (hd : (Kd.rcd zs).ok P t) : (∀ w : World, (isAgg t).run P w = .ok true w) ∧ ∃ i, P.info? t = some i ∧ i.size = zs.length := by
  obtain ⟨fs, i, h1, h2, h3, h4, _⟩ := hd
  exact ⟨fun w => by unfold isAgg; simp only [Sem.run_bind, run_underlying h1, Result.andThen_ok]; rfl, i, h2, h4⟩
theorem agg_arr {t : TypeId} {n : Nat} {z : Value} (hd : (Kd.arr n z).ok P t) : (∀ w : World, (isAgg t).run P w = .ok true w) ∧ ∃ i, P.info? t = some i ∧ i.size = n := by
  obtain ⟨e, i, j, h1, h2, h3, _⟩ := hd
  exact ⟨fun w => by unfold isAgg; simp only [Sem.run_bind, run_underlying h1, Result.andThen_ok]; rfl, i, h2, h3⟩

end
end Go.Proofs.Ytjgnnjegaedinaa.Hx

namespace Go.Proofs.Ytjgnnjegaedinaa.Hx
open Go.RowKit
variable {dm : Bool}

section
variable {P : Program} {w : World}

theorem run_app_zero {t ty e : TypeId} {i : TypeInfo} (ht : P.underlying t = some (.slice e)) (hi : P.info? e = some i) (base : Option Addr) (n c : Nat) (xa : Option Addr) (xc : Nat) (hnc : n ≤ c) :
    (Builtin.append_ #[t, t] ty #[.slice base n c, .slice xa 0 xc]).run P w = .ok (.slice base n c) w := by
  have hf : (Builtin.firstCells i.size 0 (.slice xa 0 xc)).run P w = .ok #[] w := by
    cases xa <;> simp [Builtin.firstCells, loadCells, loadCellsFrom]
  cases base <;> simp [Builtin.append_, run_underlying ht, sizeOf, typeInfo, hi, Builtin.lenOf, hnc, hf, storeCells]

theorem run_app_room {t ty e : TypeId} {i : TypeInfo} (ht : P.underlying t = some (.slice e)) (hi : P.info? e = some i) (hs : i.size = 1)
    (g n c : Nat) (cur : Array Value) (e' : TypeId) (hg : w.heap[g]? = some (.cells cur e' (0, 0))) (a : Addr) (m xc : Nat) (news : List Value) (hl : news.length = m)
    (hnews : ∀ j u, news[j]? = some u → w.cell? (a.add j) = some u) (h1 : ∀ u ∈ news, u.oneCell' = true) (hroom : n + m ≤ c) (hfit : n + m ≤ cur.size) :
    (Builtin.append_ #[t, t] ty #[.slice (some ⟨g, 0, none⟩) n c, .slice (some a) m xc]).run P w =
      .ok (.slice (some ⟨g, 0, none⟩) (n + m) c) (w.setRow g (cur.toList.take n ++ news ++ cur.toList.drop (n + m)).toArray) := by
  have hf := run_firstCells_some (P := P) w i.size m a m xc news (by rw [hl, hs, Nat.mul_one]) hnews
  have hst := run_storeCells_at P g n e' news 0 cur w hg (by simpa [hl] using hfit) h1
  simp only [Nat.add_zero, hl] at hst
  rw [hs] at hf
  simp [Builtin.append_, run_underlying ht, sizeOf, typeInfo, hi, hs, Builtin.lenOf, hroom, hf, Addr.add_lit, hst]

/-- Behind an append that finds room. -/
theorem app_room {B0 : Nat} {φ : Plan} {h : Heap} (R : Rep B0 φ h w) {r len : Nat} {cs new : List H0} {news : List Value} {p : Place} (hr : h[r]? = some (.own cs)) (hp : φ[r]? = some p) (hlen : len ≤ cs.length)
    {cur : Array Value} {e : TypeId} (q4 : w.heap[p.b]? = some (.cells cur e (0, 0))) (q5 : cur.size = p.n) (q6 : ∀ (k : Nat) (c : H0), cs[k]? = some c → ∃ v, cur[k]? = some v ∧ rep0 φ c v)
    (hn : repL φ new news) (hfit : len + new.length ≤ p.n) (hm : p.n ≤ maxLen) {K : HV → Heap → Prop} (hK : K (.s (.sl h.length 0 (len + new.length))) (h.set r .gone ++ [.own (cs.take len ++ new)])) :
    Leaves dm B0 φ w (w.setRow p.b (cur.toList.take len ++ news ++ cur.toList.drop (len + new.length)).toArray) (.slice (some ⟨p.b, 0, none⟩) (len + new.length) p.n) K := by
  obtain ⟨q1, q2, q3, _⟩ := R.own r cs p hr hp
  have hln := hn.length
  have hlc : len ≤ cur.size := by omega
  have ht : (cur.toList.take len).length = len := by simp; omega
  have R1 : Rep B0 φ (h.set r (.own (cs.take len ++ new))) (w.setRow p.b (cur.toList.take len ++ news ++ cur.toList.drop (len + new.length)).toArray) := by
    refine R.rewrite (e := e) hr hp (by simp) (fun k hk => setRow_other w p.b k _ hk) (setRow_heap w p.b cur _ e _ q4) (by simp; omega) (by simp; omega) (fun k c hk => ?_)
    simp only [List.getElem?_toArray]
    by_cases hk1 : k < len
    · rw [List.getElem?_append_left (by simp; omega), List.getElem?_take_of_lt hk1] at hk
      obtain ⟨v, e1, e2⟩ := q6 k c hk
      refine ⟨v, ?_, e2⟩
      rw [List.append_assoc, List.getElem?_append_left (by omega), List.getElem?_take_of_lt hk1]
      simpa using e1
    · have ht' : (cs.take len).length = len := by simp; omega
      rw [List.getElem?_append_right (by omega), ht'] at hk
      obtain ⟨v, e1, e2⟩ := hn.get _ _ hk
      refine ⟨v, ?_, e2⟩
      have hk2 : k - len < news.length := (List.getElem?_eq_some_iff.1 e1).1
      rw [List.append_assoc, List.getElem?_append_right (by omega), ht, List.getElem?_append_left hk2]
      exact e1
  have hrl : r < h.length := (List.getElem?_eq_some_iff.1 hr).1
  have R2 := R1.move (r := r) (cs := cs.take len ++ new) (p := p) (by rw [List.getElem?_set_self hrl]) hp
  rw [List.set_set] at R2
  refine ⟨_, _, φ ++ [p], hK, Sub.push _ _, R2, ⟨p, _, _, ?_, rfl, hfit, hm, by simp, fun _ => by rw [q1]⟩, ?_⟩
  · rw [← R.len, List.getElem?_append_right (Nat.le_refl _)]
    simp
  · exact lat_setRow (Lat.refl B0 w) q2 _

theorem size_zero1 (z : Value) (n : Nat) : (Builtin.zeroCells #[z] n).size = n := by simp [Builtin.zeroCells]

theorem hApp_run {B0 : Nat} {φ : Plan} {h : Heap} (R : Rep B0 φ h w) {t ty : TypeId} {d : Kd} (hd : d.ok P t) (hs : d.isSl = true) {x y : HV} {u v : Value} (hx : repV φ x u) (hy : repV φ y v) {K : HV → Heap → Prop} (H : HApp h x y K) :
    ∃ w' r, (Builtin.append_ #[t, t] ty #[u, v]).run P w = .ok r w' ∧ Leaves dm B0 φ w w' r K := by
  obtain ⟨z, rfl⟩ : ∃ z, d = .sl z := by cases d <;> simp [Kd.isSl] at hs; exact ⟨_, rfl⟩
  obtain ⟨e, i, h1, h2, h3, h4, h5, h6, h7⟩ := Kd.sl_all hd rfl
  obtain ⟨new, hsh, hone, hK⟩ := H.out
  have hread := hsh.read R hy
  have grown : ∀ (h0 : Heap) (R0 : Rep B0 φ h0 w) (olds : List H0) (news oldv : List Value) (cap : Nat), h0.length = h.length → repL φ new news → repL φ olds oldv → olds.length + new.length ≤ 2 ^ 41 →
      K (.s (.sl h.length 0 (olds.length + new.length))) (h0 ++ [.own (olds ++ new)]) →
      Leaves dm B0 φ w (w.drew.alloc (.cells (oldv.toArray ++ news.toArray ++ Builtin.zeroCells z.cells (grownCap w (olds.length + new.length) cap e - (olds.length + new.length))) e))
        (.slice (some ⟨w.heap.size, 0, none⟩) (olds.length + new.length) (grownCap w (olds.length + new.length) cap e)) K := by
    intro h0 R0 olds news oldv cap hl0 hn ho hsum hK0
    have hge := grownCap_ge w (olds.length + new.length) cap e
    have hmx := grownCap_le_maxLen w (olds.length + new.length) cap e (by unfold maxLen; omega)
    have R1 : Rep B0 φ h0 w.drew := R0.still (Nat.le_refl _) (fun _ _ => rfl)
    have hL := (ho.append hn)
    have hln := hL.length
    have hsz : (oldv.toArray ++ news.toArray ++ Builtin.zeroCells z.cells (grownCap w (olds.length + new.length) cap e - (olds.length + new.length))).size = grownCap w (olds.length + new.length) cap e := by
      rw [h6]
      simp only [Array.size_append, List.size_toArray, size_zero1]
      simp only [List.length_append] at hln
      omega
    have := new_row (dm := dm) R1 (oldv.toArray ++ news.toArray ++ Builtin.zeroCells z.cells (grownCap w (olds.length + new.length) cap e - (olds.length + new.length))) e (olds ++ new)
      (by rw [hsz]; simpa using hge) (fun k c hk => by
        obtain ⟨v', e1, e2⟩ := hL.get k c hk
        refine ⟨v', ?_, e2⟩
        have hk2 : k < (oldv ++ news).length := (List.getElem?_eq_some_iff.1 e1).1
        rw [Array.getElem?_append_left (by simpa using hk2)]
        simpa using e1) (n := olds.length + new.length) (by rw [hsz]; exact hge) (by rw [hsz]; exact hmx) (K := K) (by rw [hl0]; exact hK0)
    rw [hsz] at this
    obtain ⟨x', h', φ', g1, g2, g3, g4, g5⟩ := this
    exact ⟨x', h', φ', g1, g2, g3, g4, (Lat.refl B0 w).drew.trans g5⟩
  split at hK
  · rename_i r off len
    obtain ⟨cs, rfl, hr, hlen, hK⟩ := hK
    obtain ⟨p, a, cap, hp, rfl, g1, g2, g4, g3⟩ := hx
    obtain ⟨q1, q2, q3, cur, e', q4, q5, q6⟩ := R.own r cs p hr hp
    rcases hK with ⟨hsum, hK⟩ | ⟨hsum, hK⟩
    rotate_left
    · have hcapn : cap = p.n := by omega
      rcases hread with ⟨rfl, xa, xc, rfl⟩ | ⟨xa, xc, news, hpos, rfl, hn, hcells⟩
      · refine ⟨w, _, run_app_zero h1 h2 _ _ _ _ _ g1, _, _, φ, hK, Sub.refl _, ?_, ⟨p, a, cap, hp, by simp, by simpa using g1, g2, g4, g3⟩, Lat.refl B0 w⟩
        have e0 : cs.take len ++ [] ++ cs.drop (len + ([] : List H0).length) = cs := by simp
        rw [e0]
        exact R.rewrite (e := e') hr hp rfl (fun _ _ => rfl) q4 q5 q3 q6
      · have hnl := hn.length
        obtain rfl := g3 (by omega)
        subst hcapn
        have hrun := run_app_room (P := P) (w := w) (ty := ty) h1 h2 h3 p.b len p.n cur e' q4 xa new.length xc news hnl.symm hcells (hn.one hone) (by omega) (by omega)
        rw [q1, Nat.zero_add]
        exact ⟨_, _, hrun, _, _, φ, hK, Sub.refl _, set_part R hr hp q4 q5 q6 hn hsum, ⟨p, _, _, hp, rfl, by omega, g2, by simp, fun _ => by rw [q1]⟩, lat_setRow (Lat.refl B0 w) q2 _⟩
    rcases hread with ⟨rfl, xa, xc, rfl⟩ | ⟨xa, xc, news, hpos, rfl, hn, hcells⟩
    · refine ⟨w, _, run_app_zero h1 h2 _ _ _ _ _ g1, ?_⟩
      by_cases hc0 : cap = 0
      · have hl0 : len = 0 := by omega
        subst hl0
        have R2 := (R.rewrite (cs' := []) (e := e') hr hp rfl (fun _ _ => rfl) q4 q5 (by simp) (fun k c hk => by simp at hk)).move (r := r) (cs := []) (by rw [List.getElem?_set_self (List.getElem?_eq_some_iff.1 hr).1]) hp
        rw [List.set_set] at R2
        refine ⟨_, _, φ ++ [p], hK, Sub.push _ _, by simpa using R2, ⟨p, a, cap, ?_, by simp, by simp, g2, g4, fun hne => absurd hc0 hne⟩, Lat.refl B0 w⟩
        rw [← R.len, List.getElem?_append_right (Nat.le_refl _)]
        simp
      · obtain rfl := g3 hc0
        have hcapn : cap = p.n := by omega
        have R2 := (R.rewrite (cs' := cs.take len) (e := e') hr hp rfl (fun _ _ => rfl) q4 q5 (by simp; omega) (fun k c hk => by
          have hk2 : k < len := by have := (List.getElem?_eq_some_iff.1 hk).1; simp at this; omega
          rw [List.getElem?_take_of_lt hk2] at hk
          exact q6 k c hk)).move (r := r) (cs := cs.take len) (by rw [List.getElem?_set_self (List.getElem?_eq_some_iff.1 hr).1]) hp
        rw [List.set_set] at R2
        refine ⟨_, _, φ ++ [p], hK, Sub.push _ _, by simpa using R2, ⟨p, _, cap, ?_, rfl, by simpa using g1, g2, g4, fun _ => rfl⟩, Lat.refl B0 w⟩
        rw [← R.len, List.getElem?_append_right (Nat.le_refl _)]
        simp
    · have hnl := hn.length
      have hone' := hn.one hone
      by_cases hroom : len + new.length ≤ cap
      · obtain rfl := g3 (by omega)
        have hcapn : cap = p.n := by omega
        subst hcapn
        have hrun := run_app_room (P := P) (w := w) (ty := ty) h1 h2 h3 p.b len p.n cur e' q4 xa new.length xc news hnl.symm hcells hone' hroom (by omega)
        rw [q1, Nat.zero_add]
        exact ⟨_, _, hrun, app_room R hr hp hlen q4 q5 q6 hn hroom g2 hK⟩
      · have hold : ∃ oldv : List Value, repL φ (cs.take len) oldv ∧ ∀ j u, oldv[j]? = some u → w.cell? (a.add j) = some u := by
          by_cases hc0 : cap = 0
          · have hl0 : len = 0 := by omega
            subst hl0
            exact ⟨[], by simp [repL], fun j u hj => by simp at hj⟩
          · obtain rfl := g3 hc0
            obtain ⟨vs, e1, e2⟩ := concrete (φ := φ) (p := fun k v => w.cell? ⟨p.b, p.o + k, none⟩ = some v) (cs := cs.take len) (k0 := 0) (fun k c hk => by
              have hk2 : k < len := by have := (List.getElem?_eq_some_iff.1 hk).1; simp at this; omega
              rw [List.getElem?_take_of_lt hk2] at hk
              obtain ⟨v, e1, e2⟩ := R.cell hr rfl hk hp
              exact ⟨v, by simpa using e1, e2⟩)
            exact ⟨vs, e1, fun j u hj => by have := e2 j u hj; rw [addr_add]; simpa using this⟩
        obtain ⟨oldv, ho, hoc⟩ := hold
        have hol := ho.length
        have htl : (cs.take len).length = len := by simp; omega
        have hb : (len + new.length) * i.bytes ≤ 140737488355328 := by
          have : (len + new.length) * i.bytes ≤ 2 ^ 41 * 64 := Nat.mul_le_mul hsum h5
          omega
        have hrun := run_append_grow (P := P) w t ty e i z h1 h2 h4 a len cap oldv (by rw [h3]; omega) hoc xa new.length xc news (by rw [h3]; omega) hcells (by omega) (by omega) (growslice_fits (by omega) hb)
        refine ⟨_, _, hrun, ?_⟩
        have := grown (h.set r .gone) (R.drop r) (cs.take len) news oldv cap (by simp) hn ho (by rw [htl]; exact hsum) (by rw [htl]; exact hK)
        rw [htl] at this
        exact this
  · have hu := rep0_pl hx
    subst hu
    rcases hread with ⟨rfl, xa, xc, rfl⟩ | ⟨xa, xc, news, hpos, rfl, hn, hcells⟩
    · obtain ⟨_, hK⟩ := hK
      simp only [List.length_nil, if_true] at hK
      exact ⟨w, _, run_app_zero h1 h2 _ _ _ _ _ (Nat.le_refl _), _, _, φ, hK, Sub.refl _, R, rfl, Lat.refl B0 w⟩
    · have hnl := hn.length
      obtain ⟨hsum, hK⟩ := hK
      rw [if_neg (by omega)] at hK
      have hb : new.length * i.bytes ≤ 140737488355328 := by
        have : new.length * i.bytes ≤ 2 ^ 41 * 64 := Nat.mul_le_mul hsum h5
        omega
      have hrun := run_append_nil (P := P) w t ty e i z h1 h2 h4 xa new.length xc news (by rw [h3]; omega) hcells hpos (by omega) (by omega)
      refine ⟨_, _, hrun, ?_⟩
      have := grown h R [] news [] 0 rfl hn trivial (by simpa using hsum) (by simpa using hK)
      simpa using this
  · exact hK.elim

theorem hAppZ_run {B0 : Nat} {φ : Plan} {h : Heap} (R : Rep B0 φ h w) {t tn ty : TypeId} {z : Value} {kn : IntKind} (hd : (Kd.sl z).ok P t) (hu : P.underlying tn = some (.int kn)) {x y : HV} {u v : Value} (hx : repV φ x u) (hy : repV φ y v) {K : HV → Heap → Prop} (H : HAppZ z h x y K) :
    ∃ w' r, (Builtin.append_ #[t, tn] ty #[u, v]).run P w = .ok r w' ∧ Leaves dm B0 φ w w' r K := by
  obtain ⟨e, i, h1, h2, h3, h4, h5, h6, h7⟩ := Kd.sl_all hd rfl
  obtain ⟨k, n, rfl, rfl, h0, hn, hK⟩ := H.out
  have hu1 : u = .slice none 0 0 := hx
  have hv1 : v = .int k (n : Int) := hy
  subst hu1 hv1
  have hb : n * i.bytes ≤ 281474976710656 := by
    have : n * i.bytes ≤ 2 ^ 41 * 64 := Nat.mul_le_mul hn h5
    omega
  refine ⟨_, _, Go.Lib.run_append_nil_zeros w t tn ty e i z k kn h1 hu h2 h4 n h0 (by omega) (by omega) hb, ?_⟩
  have hge := grownCap_ge w n 0 e
  have hmx := grownCap_le_maxLen w n 0 e (by unfold maxLen; omega)
  have R1 : Rep B0 φ h w.drew := R.still (Nat.le_refl _) (fun _ _ => rfl)
  have hsz : (Builtin.zeroCells z.cells n ++ Builtin.zeroCells z.cells (grownCap w n 0 e - n)).size = grownCap w n 0 e := by
    rw [h6]
    simp only [Array.size_append, size_zero1]
    omega
  have := new_row (dm := dm) R1 (Builtin.zeroCells z.cells n ++ Builtin.zeroCells z.cells (grownCap w n 0 e - n)) e (List.replicate n (.pl z)) (by rw [hsz]; simpa using hge) (fun k c hk => by
    have hkn : k < n := by have := (List.getElem?_eq_some_iff.1 hk).1; simpa using this
    have hc : c = .pl z := by
      rw [List.getElem?_replicate] at hk
      simp [hkn] at hk
      exact hk.symm
    subst hc
    refine ⟨z, ?_, rfl⟩
    rw [Array.getElem?_append_left (by rw [h6, size_zero1]; exact hkn), h6, ← Array.getElem?_toList, zero_cells, List.getElem?_replicate]
    simp [hkn]) (n := n) (by rw [hsz]; exact hge) (by rw [hsz]; exact hmx) (K := K) hK
  rw [hsz] at this
  obtain ⟨x', h', φ', g1, g2, g3, g4, g5⟩ := this
  exact ⟨x', h', φ', g1, g2, g3, g4, (Lat.refl B0 w).drew.trans g5⟩

theorem run_appz_room {t tn ty e : TypeId} {i : TypeInfo} {z : Value} (ht : P.underlying t = some (.slice e)) {kn : IntKind} (htn : P.underlying tn = some (.int kn)) (hi : P.info? e = some i) (hs : i.size = 1) (hz : i.zero = some z) (hzc : z.cells = #[z]) (hz1 : z.oneCell' = true)
    (g l c : Nat) (cur : Array Value) (e' : TypeId) (hg : w.heap[g]? = some (.cells cur e' (0, 0))) (k : IntKind) (n : Nat) (h0 : 0 < n) (h63 : (n : Int) ≤ 9223372036854775807) (h48 : n * i.bytes ≤ 281474976710656) (hroom : l + n ≤ c) (hfit : l + n ≤ cur.size) :
    (Builtin.append_ #[t, tn] ty #[.slice (some ⟨g, 0, none⟩) l c, .int k n]).run P w =
      .ok (.slice (some ⟨g, 0, none⟩) (l + n) c) (w.setRow g (cur.toList.take l ++ List.replicate n z ++ cur.toList.drop (l + n)).toArray) := by
  have hst := run_storeCells_at P g l e' (List.replicate n z) 0 cur w hg (by simpa using hfit) (fun v hv => by rw [(List.mem_replicate.1 hv).2]; exact hz1)
  simp only [Nat.add_zero, List.length_replicate] at hst
  have hw : IntKind.i64.wrap (n : Int) = n := by rw [IntKind.wrap_i64]; omega
  have h48i : ¬ (281474976710656 < (n : Int) * (i.bytes : Int)) := by
    rw [← Int.natCast_mul]
    omega
  have hneg : ¬ ((n : Int) < 0) := by omega
  have hn0 : n ≠ 0 := by omega
  simp [Builtin.append_, run_underlying ht, run_underlying htn, sizeOf, typeInfo, zeroValue, hi, hs, hz, hzc, asInt, asIntOf, hw, hn0, hneg, h48i, hroom, zero_cells, Addr.add_lit, hst]

theorem hAppZ2_run {B0 : Nat} {φ : Plan} {h : Heap} (R : Rep B0 φ h w) {t tn ty : TypeId} {z : Value} {kn : IntKind} (hd : (Kd.sl z).ok P t) (hu : P.underlying tn = some (.int kn)) {x y : HV} {u v : Value} (hx : repV φ x u) (hy : repV φ y v) {K : HV → Heap → Prop} (H : HAppZ2 z h x y K) :
    ∃ w' r, (Builtin.append_ #[t, tn] ty #[u, v]).run P w = .ok r w' ∧ Leaves dm B0 φ w w' r K := by
  obtain ⟨e, i, h1, h2, h3, h4, h5, h6, h7⟩ := Kd.sl_all hd rfl
  obtain ⟨k, n, r, len, cs, rfl, rfl, h0, hsum, hr, hlen, hK⟩ := H.out
  have hv1 : v = .int k (n : Int) := hy
  subst hv1
  obtain ⟨p, a, cap, hp, rfl, g1, g2, g4, g3⟩ := hx
  obtain ⟨q1, q2, q3, cur, e', q4, q5, q6⟩ := R.own r cs p hr hp
  have hb : n * i.bytes ≤ 140737488355328 := by
    have : n * i.bytes ≤ 2 ^ 41 * 64 := Nat.mul_le_mul (by omega) h5
    omega
  have hb2 : (len + n) * i.bytes ≤ 140737488355328 := by
    have : (len + n) * i.bytes ≤ 2 ^ 41 * 64 := Nat.mul_le_mul hsum h5
    omega
  have hn := repL.replicate (φ := φ) z n
  have hrl : (List.replicate n (H0.pl z)).length = n := by simp
  by_cases hroom : len + n ≤ cap
  · obtain rfl := g3 (by omega)
    have hcapn : cap = p.n := by omega
    subst hcapn
    have hrun := run_appz_room (P := P) (w := w) (ty := ty) h1 hu h2 h3 h4 h6 h7 p.b len p.n cur e' q4 k n h0 (by omega) (by omega) hroom (by omega)
    have hl := app_room (dm := dm) (new := List.replicate n (.pl z)) (news := List.replicate n z) R hr hp hlen q4 q5 q6 hn (by rw [hrl]; exact hroom) g2 (K := K) (by rw [hrl]; exact hK)
    rw [hrl] at hl
    rw [q1, Nat.zero_add]
    exact ⟨_, _, hrun, hl⟩
  · have hold : ∃ oldv : List Value, repL φ (cs.take len) oldv ∧ (Builtin.firstCells i.size len (.slice (some a) len cap)).run P w.drew = .ok oldv.toArray w.drew := by
      by_cases hc0 : cap = 0
      · have hl0 : len = 0 := by omega
        subst hl0
        exact ⟨[], by simp [repL], by simp [Builtin.firstCells, loadCells, loadCellsFrom]⟩
      · obtain rfl := g3 hc0
        obtain ⟨vs, e1, e2⟩ := concrete (φ := φ) (p := fun k v => w.cell? ⟨p.b, p.o + k, none⟩ = some v) (cs := cs.take len) (k0 := 0) (fun k c hk => by
          have hk2 : k < len := by have := (List.getElem?_eq_some_iff.1 hk).1; simp at this; omega
          rw [List.getElem?_take_of_lt hk2] at hk
          obtain ⟨v, e1, e2⟩ := R.cell hr rfl hk hp
          exact ⟨v, by simpa using e1, e2⟩)
        have hvl := e1.length
        have htl : (cs.take len).length = len := by simp; omega
        refine ⟨vs, e1, run_firstCells_some (P := P) w.drew i.size len _ len cap vs (by rw [h3]; omega) (fun j v hj => ?_)⟩
        have := e2 j v hj
        rw [addr_add]
        simpa using this
    obtain ⟨oldv, ho, hoc⟩ := hold
    have hol := ho.length
    have htl : (cs.take len).length = len := by simp; omega
    have hrun := Go.Lib.run_append_grow_zeros (P := P) w t tn ty e i z k kn h1 hu h2 h4 (some a) len cap oldv hoc n h0 (by omega) (by omega) (by omega) (by omega) (growslice_fits (by omega) (by omega))
    refine ⟨_, _, hrun, ?_⟩
    have hge := grownCap_ge w (len + n) cap e
    have hmx := grownCap_le_maxLen w (len + n) cap e (by unfold maxLen; omega)
    have R1 : Rep B0 φ (h.set r .gone) w.drew := (R.drop r).still (Nat.le_refl _) (fun _ _ => rfl)
    have hL := ho.append hn
    have hsz : (oldv.toArray ++ Builtin.zeroCells z.cells n ++ Builtin.zeroCells z.cells (grownCap w (len + n) cap e - (len + n))).size = grownCap w (len + n) cap e := by
      rw [h6]
      simp only [Array.size_append, List.size_toArray, size_zero1]
      omega
    have := new_row (dm := dm) R1 (oldv.toArray ++ Builtin.zeroCells z.cells n ++ Builtin.zeroCells z.cells (grownCap w (len + n) cap e - (len + n))) e (cs.take len ++ List.replicate n (.pl z))
      (by rw [hsz]; simp; omega) (fun k c hk => by
        obtain ⟨v', e1, e2⟩ := hL.get k c hk
        refine ⟨v', ?_, e2⟩
        have hk2 : k < (oldv ++ List.replicate n z).length := (List.getElem?_eq_some_iff.1 e1).1
        rw [Array.getElem?_append_left (by rw [h6]; simp only [Array.size_append, List.size_toArray, size_zero1]; simpa using hk2), ← Array.getElem?_toList, Array.toList_append, h6, zero_cells]
        simpa using e1) (n := len + n) (by rw [hsz]; exact hge) (by rw [hsz]; exact hmx) (K := K) (by rw [List.length_set]; exact hK)
    rw [hsz] at this
    obtain ⟨x', h', φ', g1, g2, g3, g4, g5⟩ := this
    exact ⟨x', h', φ', g1, g2, g3, g4, (Lat.refl B0 w).drew.trans g5⟩

theorem hBox_run {B0 : Nat} {φ : Plan} {h : Heap} (R : Rep B0 φ h w) (t : TypeId) {x : HV} {u : Value} (hx : repV φ x u) {K : HV → Heap → Prop} (H : HBox x h K) :
    ∃ w' r, (Instr.box t u).run P w = .ok r w' ∧ Leaves dm B0 φ w w' r K := by
  obtain ⟨c, rfl, hone, hK⟩ := H.out
  have hc := cells_one (one_rep hone hx)
  refine ⟨w.alloc (.cells #[u] t), .pointer (some ⟨w.heap.size, 0, none⟩), ?_, _, _, φ ++ [⟨w.heap.size, 0, 1⟩], hK, Sub.push _ _, ?_, ⟨⟨w.heap.size, 0, 1⟩, ?_, rfl⟩, below_still R _⟩
  · simp [Instr.box, newVar, newRow, hc]
  · exact R.push #[u] t [c] (by simp) (fun k d hk => by
      match k, hk with
      | 0, hk => simp at hk; subst hk; exact ⟨u, rfl, hx⟩)
  · rw [← R.len, List.getElem?_append_right (Nat.le_refl _)]
    simp

theorem hBoxA_run {B0 : Nat} {φ : Plan} {h : Heap} (R : Rep B0 φ h w) (t : TypeId) {xs : List H0} {u : Value} (hx : repV φ (.agg xs) u) {K : HV → Heap → Prop} (H : HBoxA xs h K) :
    ∃ w' r, (Instr.box t u).run P w = .ok r w' ∧ Leaves dm B0 φ w w' r K := by
  obtain ⟨hone, hK⟩ := H.out
  obtain ⟨vs, rfl, hr⟩ := hx
  have hl := hr.length
  simp only [Array.length_toList] at hl
  refine ⟨w.alloc (.cells vs t), .pointer (some ⟨w.heap.size, 0, none⟩), ?_, _, _, φ ++ [⟨w.heap.size, 0, vs.size⟩], hK, Sub.push _ _, ?_, ⟨⟨w.heap.size, 0, vs.size⟩, ?_, rfl⟩, below_still R _⟩
  · simp [Instr.box, newVar, newRow, Value.cells]
  · exact R.push vs t xs (by omega) (fun k d hk => by
      obtain ⟨v, e1, e2⟩ := hr.get k d hk
      exact ⟨v, by simpa using e1, e2⟩)
  · rw [← R.len, List.getElem?_append_right (Nat.le_refl _)]
    simp

theorem repL.set {φ : Plan} : ∀ {xs : List H0} {vs : List Value} (i : Nat) {c : H0} {u : Value}, repL φ xs vs → rep0 φ c u → repL φ (xs.set i c) (vs.set i u)
  | [], [], _, _, _, _, _ => trivial
  | _ :: _, _ :: _, 0, _, _, h, k => ⟨k, h.2⟩
  | _ :: _, _ :: _, i + 1, _, _, h, k => ⟨h.1, repL.set i h.2 k⟩

theorem repL.plain {φ : Plan} : ∀ (zs : List Value), repL φ (zs.map .pl) zs
  | [] => trivial
  | _ :: zs => ⟨rfl, repL.plain zs⟩

theorem setParts_fill {φ : Plan} {n m : Nat} {fr : Fr} {a : Act} (F : FrRep φ n fr a) {places : Nat → Option (Nat × Nat)} (hp : ∀ i, i < m → places i = some (i, 1)) :
    ∀ (l : List (Nat × Operand)) (xs : List H0) (vs : Array Value) (ys : List H0), xs.length = m → repL φ xs vs.toList → setParts (hEval fr) xs l = some ys →
      (∀ p ∈ l, ∀ c, hEval fr p.2 = .s c → c.one = true) → ∃ us, Instr.fill places vs (l.map fun p => (p.1, a.eval p.2)) = some us ∧ repL φ ys us.toList
  | [], xs, vs, ys, _, hr, h, _ => by
    simp only [setParts_nil, Option.some.injEq] at h
    subst h
    exact ⟨vs, by simp [Instr.fill], hr⟩
  | (i, x) :: rest, xs, vs, ys, hm, hr, h, h2 => by
    rw [setParts_cons] at h
    split at h
    · rename_i c hc
      cases hb : (Nat.blt i xs.length) with
      | false => rw [hb] at h; cases h
      | true =>
        rw [hb, cond_true] at h
        have hi : i < xs.length := by simpa using hb
        have hl := hr.length
        simp only [Array.length_toList] at hl
        have rx := F.eval x
        rw [hc] at rx
        have hv := cells_one (one_rep (h2 (i, x) (by simp) c hc) rx)
        obtain ⟨us, e1, e2⟩ := setParts_fill F hp rest (xs.set i c) (vs.setIfInBounds i (a.eval x)) ys (by simpa using hm) (by
          rw [Array.toList_setIfInBounds]
          exact hr.set i rx) h (fun p hpm => h2 p (by simp [hpm]))
        refine ⟨us, ?_, e2⟩
        rw [← e1]
        simp only [List.map_cons, Instr.fill]
        rw [hp i (by omega)]
        simp only [hv]
        rw [if_neg (by simp; omega)]
        simp
    · cases h

theorem atoms_one {ev : Operand → HV} : ∀ (l : List (Nat × Operand)) {cs : List H0}, atoms (l.map fun p => ev p.2) = some cs → (∀ c ∈ cs, c.one = true) → ∀ p ∈ l, ∀ c, ev p.2 = .s c → c.one = true
  | [], _, _, _, p, hp, _, _ => by simp at hp
  | q :: l, cs, h, h1, p, hp, c, hc => by
    rw [List.map_cons] at h
    rw [atoms_cons] at h
    split at h
    · rename_i a as e1 e2
      cases h
      rcases List.mem_cons.1 hp with rfl | hp
      · rw [hc] at e1
        cases e1
        exact h1 _ (by simp)
      · exact atoms_one l e2 (fun x hx => h1 x (by simp [hx])) p hp c hc
    · cases h

theorem hRec_run {n : Nat} {φ : Plan} {fr : Fr} {a : Act} (F : FrRep φ n fr a) {t : TypeId} {zs : List Value} (hd : (Kd.rcd zs).ok P t) {parts : Array (Nat × Operand)} {K : HV → Prop}
    (H : HRec (setParts (hEval fr) (zs.map .pl) parts.toList) (atoms (parts.toList.map fun p => hEval fr p.2)) K) :
    ∃ (r : Value) (y : HV), (∀ w : World, (Instr.build t (parts.map fun (i, x) => (i, a.eval x))).run P w = .ok r w) ∧ repV φ y r ∧ K y := by
  obtain ⟨ys, cs, hs, hq, hone, hK⟩ := H.out
  have h1 := atoms_one parts.toList hq hone
  obtain ⟨fs, i, g1, g2, g3, g4, g5, g6, g7⟩ := hd
  have hplaces : fs.toList.mapM (fun f => (P.info? f.type).map fun i => (f.offset, i.size)) = some ((List.range zs.length).map fun k => (k, 1)) := by
    have key : ∀ (l : List Field) (k0 : Nat), (∀ (k : Nat) (f : Field), l[k]? = some f → f.offset = k0 + k ∧ One P f.type) → l.mapM (fun f => (P.info? f.type).map fun i => (f.offset, i.size)) = some ((List.range' k0 l.length).map fun k => (k, 1)) := by
      intro l
      induction l with
      | nil => intro k0 _; rfl
      | cons f l ih =>
        intro k0 hk
        obtain ⟨e1, ⟨j, e2, e3⟩, _⟩ := hk 0 f rfl
        have := ih (k0 + 1) (fun k g hg => by
          obtain ⟨e4, e5⟩ := hk (k + 1) g (by simpa using hg)
          exact ⟨by omega, e5⟩)
        simp only [List.mapM_cons, e2, Option.map_some, this, List.length_cons, List.range'_succ, List.map_cons]
        simp [e1, e3]
    have := key fs.toList 0 (fun k f hf => by
      obtain ⟨e1, e2⟩ := g6 k f (by simpa using hf)
      exact ⟨by omega, e2⟩)
    rw [this]
    simp [g5, List.range_eq_range']
  have hp : ∀ k, k < zs.length → (fun x => ((List.range zs.length).map fun k => (k, 1)).toArray[x]?) k = some (k, 1) := fun k hk => by simp [hk]
  obtain ⟨us, e1, e2⟩ := setParts_fill F hp parts.toList (zs.map .pl) zs.toArray ys (by simp) (by simpa using repL.plain zs) hs h1
  refine ⟨.agg us, .agg ys, fun w => run_build w t _ us ?_, ⟨us, rfl, e2⟩, hK⟩
  unfold Program.built
  simp only [g1, g2, g3, hplaces, Value.cells]
  have hl : (parts.map fun (i, x) => (i, a.eval x)).toList = parts.toList.map fun p => (p.1, a.eval p.2) := by simp
  rw [hl]
  exact e1

theorem hPart_run {φ : Plan} {t : TypeId} {zs : List Value} (hd : (Kd.rcd zs).ok P t) {x : HV} {u : Value} (hx : repV φ x u) {f : Nat} {K : HV → Prop} (H : HPart zs.length x f K) :
    ∃ (r : Value) (y : HV), (∀ w : World, (Instr.field t u f).run P w = .ok r w) ∧ repV φ y r ∧ K y := by
  obtain ⟨xs, c, rfl, hc, hone, hf, hK⟩ := H.out
  obtain ⟨vs, rfl, hr⟩ := hx
  obtain ⟨fs, i, h1, h2, h3, h4, h5, h6, h7⟩ := hd
  obtain ⟨v, e1, e2⟩ := hr.get f c hc
  have hfl : f < fs.size := by omega
  obtain ⟨o1, _, d, o2, o3⟩ := h6 f fs[f] (Array.getElem?_eq_getElem hfl)
  have hagg : ∀ w : World, (isAgg fs[f].type).run P w = .ok false w := fun w => by
    unfold isAgg
    simp only [Sem.run_bind, run_underlying o2, Result.andThen_ok]
    cases d <;> simp [flat] at o3 <;> rfl
  have hv : vs[f]? = some v := by simpa using e1
  refine ⟨v, .s c, fun w => ?_, e2, hK⟩
  simp [Instr.field, run_underlying h1, hfl, asAgg, part, hagg, o1, hv]

theorem foldl_push (bs : List UInt8) : ∀ (s : ByteArray), (bs.map fun b => (b.toNat : Int)).foldl (fun r n => r.push (UInt8.ofNat n.toNat)) s = ⟨s.data ++ bs.toArray⟩ := by
  induction bs with
  | nil => intro s; simp
  | cons b bs ih =>
    intro s
    rw [List.map_cons, List.foldl_cons, ih]
    simp [ByteArray.push]

theorem hText_run {B0 : Nat} {φ : Plan} {h : Heap} (R : Rep B0 φ h w) {s t : TypeId} {x : HV} {u : Value} (hx : repV φ x u) {K : HV → Prop} (H : HText P s t h x K) :
    ∃ r : Value, (convert s t u).run P w = .ok r w ∧ K (.s (.pl r)) := by
  obtain ⟨e, bs, h1, h2, h3, hsh, hK⟩ := H.out
  have hcv : ∀ a l c, (convert s t (.slice a l c)).run P w = (Conv.bytesToString (.slice a l c)).run P w := fun a l c => run_convert_bytes_string w s t e a l c h1 h2 h3
  rcases hsh.read R hx with ⟨e0, a, c, rfl⟩ | ⟨a, c, vs, hpos, rfl, hr, hcells⟩
  · have eb : bs = [] := by simpa using e0
    subst eb
    refine ⟨_, ?_, hK⟩
    rw [hcv]
    cases a with
    | none => rfl
    | some a =>
      exact run_bytesToString (P := P) w a 0 c [] (by simp [loadCells, loadCellsFrom])
  · have hvs : vs = (bs.map fun b => (b.toNat : Int)).map (Value.int .u8) := by
      have : ∀ (bs : List UInt8) (vs : List Value), repL φ (bs.map fun b => .pl (.int .u8 (b.toNat : Int))) vs → vs = (bs.map fun b => (b.toNat : Int)).map (Value.int .u8) := by
        intro bs
        induction bs with
        | nil => intro vs h; cases vs with
          | nil => rfl
          | cons _ _ => exact h.elim
        | cons b bs ih => intro vs h; cases vs with
          | nil => exact h.elim
          | cons v vs =>
            have e1 : v = _ := h.1
            rw [e1, ih vs h.2]
            rfl
      exact this bs vs hr
    refine ⟨_, ?_, hK⟩
    rw [hcv]
    have hl := hr.length
    have hld := run_loadCells_list (P := P) (w := w) a vs hcells
    have hb := run_bytesToString (P := P) w a vs.length c (bs.map fun b => (b.toNat : Int)) (by rw [hld, hvs])
    rw [foldl_push] at hb
    have e0 : ByteArray.empty.data ++ bs.toArray = bs.toArray := by
      show #[] ++ bs.toArray = bs.toArray
      simp
    rw [hl]
    rw [hb, e0]

end
end Go.Proofs.Ytjgnnjegaedinaa.Hx
