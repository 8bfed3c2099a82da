
/-
  The calculus of rows is sound, part 2: operations that write or make memory.
-/
import Derived.Test.YtecfgbjddkpkcaaHc
import Derived.Laws.CopyOwn
namespace Go.Proofs.Ytecfgbjddkpkcaa.Hx
open Go.RowKit
variable {dm : Bool}

theorem lat_setRow {B g : Nat} {w0 w : World} (hb : Lat dm B w0 w) (hBg : B ≤ g) (cs : Array Value) : Lat dm B w0 (w.setRow g cs) := ⟨below_setRow hb.toBelow hBg cs, hb.drawn⟩

/-- What an operation leaves: a value, and a world that bears what K says. -/
def Leaves (dm : Bool) (B0 : Nat) (φ : Plan) (w w' : World) (v : Value) (K : HV → Heap → Prop) : Prop :=
  ∃ x h' φ', K x h' ∧ Sub φ φ' ∧ Rep B0 φ' h' w' ∧ repV φ' x v ∧ Lat dm B0 w w'

theorem one_rep {φ : Plan} {c : H0} {u : Value} (h1 : c.one = true) (h : rep0 φ c u) : u.oneCell' = true := by
  cases c with
  | pl v => have h : u = v := h; subst h; exact h1
  | sl r off len => obtain ⟨p, a, cap, _, rfl, _⟩ := h; rfl
  | ptr r off => obtain ⟨p, _, rfl⟩ := h; rfl
  | sw k r off len => obtain ⟨p, a, cap, _, rfl, _⟩ := h; rfl
  | mp r => obtain ⟨p, _, rfl⟩ := h; rfl
  | pa r n => obtain ⟨p, _, rfl, _⟩ := h; rfl

theorem cells_one {u : Value} (h : u.oneCell' = true) : u.cells = #[u] := by
  cases u <;> first | rfl | simp [Value.oneCell'] at h

theorem concrete {φ : Plan} {p : Nat → Value → Prop} : ∀ {cs : List H0} {k0 : Nat}, (∀ (k : Nat) (c : H0), cs[k]? = some c → ∃ v, p (k0 + k) v ∧ rep0 φ c v) →
    ∃ vs : List Value, repL φ cs vs ∧ ∀ (k : Nat) (v : Value), vs[k]? = some v → p (k0 + k) v
  | [], _, _ => ⟨[], trivial, fun k v h => by simp at h⟩
  | c :: cs, k0, h => by
    obtain ⟨v, h1, h2⟩ := h 0 c rfl
    obtain ⟨vs, h3, h4⟩ := concrete (p := p) (cs := cs) (k0 := k0 + 1) (fun k x hx => by
      obtain ⟨u, e1, e2⟩ := h (k + 1) x (by simpa using hx)
      exact ⟨u, by rw [Nat.add_assoc, Nat.add_comm 1 k]; exact e1, e2⟩)
    refine ⟨v :: vs, ⟨h2, h3⟩, fun k u hu => ?_⟩
    cases k with
    | zero => simp at hu; subst hu; exact h1
    | succ k =>
      have := h4 k u (by simpa using hu)
      rw [Nat.add_assoc, Nat.add_comm 1 k] at this
      exact this

theorem repL.one {φ : Plan} : ∀ {cs : List H0} {vs : List Value}, repL φ cs vs → (∀ c ∈ cs, c.one = true) → ∀ u ∈ vs, u.oneCell' = true
  | [], [], _, _, u, hu => by simp at hu
  | c :: cs, v :: vs, h, k, u, hu => by
    rcases List.mem_cons.1 hu with rfl | hu
    · exact one_rep (k c (by simp)) h.1
    · exact repL.one h.2 (fun x hx => k x (by simp [hx])) u hu

theorem repL.take {φ : Plan} : ∀ {cs : List H0} {vs : List Value} (n : Nat), repL φ cs vs → repL φ (cs.take n) (vs.take n)
  | [], [], n, _ => by simp [repL]
  | _ :: _, _ :: _, 0, _ => by simp [repL]
  | _ :: _, _ :: _, n + 1, h => ⟨h.1, repL.take n h.2⟩

section
variable {P : Program} {w : World}

theorem Shows.read {B0 : Nat} {φ : Plan} {h : Heap} (R : Rep B0 φ h w) {x : HV} {new : List H0} (H : Shows h x new) {u : Value} (hx : repV φ x u) :
    (new = [] ∧ ∃ a c, u = .slice a 0 c) ∨ ∃ (a : Addr) (c : Nat) (vs : List Value), 0 < new.length ∧ u = .slice (some a) new.length c ∧ repL φ new vs ∧ ∀ j v, vs[j]? = some v → w.cell? (a.add j) = some v := by
  have main : ∀ (r off len : Nat) (y : Row) (cs : List H0), h[r]? = some y → y.cells? = some cs → off + len ≤ cs.length → repV φ (.s (.sl r off len)) u →
      ((cs.drop off).take len = [] ∧ ∃ a c, u = .slice a 0 c) ∨ ∃ (a : Addr) (c : Nat) (vs : List Value), 0 < ((cs.drop off).take len).length ∧ u = .slice (some a) ((cs.drop off).take len).length c ∧ repL φ ((cs.drop off).take len) vs ∧ ∀ j v, vs[j]? = some v → w.cell? (a.add j) = some v := by
    intro r off len y cs hr hc hl hx
    obtain ⟨p, a, cap, hp, rfl, h1, h2, _, h3⟩ := hx
    have hlen : ((cs.drop off).take len).length = len := by simp; omega
    by_cases h0 : len = 0
    · subst h0
      exact Or.inl ⟨by simp, _, _, rfl⟩
    · right
      obtain rfl := h3 (by omega)
      obtain ⟨vs, e1, e2⟩ := concrete (φ := φ) (p := fun k v => w.cell? ⟨p.b, p.o + (off + k), none⟩ = some v) (cs := (cs.drop off).take len) (k0 := 0) (fun k c hk => by
        have hk2 : k < len := by have := (List.getElem?_eq_some_iff.1 hk).1; omega
        rw [List.getElem?_take_of_lt hk2, List.getElem?_drop] at hk
        obtain ⟨v, e1, e2⟩ := R.cell hr hc hk hp
        exact ⟨v, by simpa using e1, e2⟩)
      refine ⟨_, _, vs, by omega, by rw [hlen], e1, fun j v hj => ?_⟩
      have := e2 j v hj
      rw [addr_add, Nat.add_assoc]
      simpa using this
  cases H with
  | nils a c =>
    have := rep0_pl hx
    exact Or.inl ⟨rfl, _, _, this⟩
  | ro r off len cs hr hl => exact main r off len _ cs hr rfl hl hx
  | own r off len cs hr hl => exact main r off len _ cs hr rfl hl hx

theorem below_still {B0 : Nat} {φ : Plan} {h : Heap} (R : Rep B0 φ h w) (o : Obj) : Lat dm B0 w (w.alloc o) := (Lat.refl B0 w).alloc R.base o

theorem hStore_run {B0 : Nat} {φ : Plan} {h : Heap} (R : Rep B0 φ h w) {t : TypeId} (h1 : One P t) {x y : HV} {u v : Value} (hx : repV φ x u) (hy : repV φ y v) {K : HV → Heap → Prop} (H : HStore h x y K) :
    ∃ w', (Instr.storeAt t u v).run P w = .ok () w' ∧ Leaves dm B0 φ w w' undef K := by
  obtain ⟨r, o, cs, c, rfl, rfl, hone, hr, ho, hK⟩ := H.out
  obtain ⟨p, hp, rfl⟩ := hx
  obtain ⟨q1, q2, q3, cur, e, q4, q5, q6⟩ := R.own r cs p hr hp
  have hv1 := one_rep hone hy
  obtain ⟨⟨i, hi, hsz⟩, _⟩ := h1
  have hcell : w.cell? ⟨p.b, o, none⟩ = some (cur[o]'(by omega)) := by
    rw [cell_of_row w p.b o cur e (0, 0) q4]
    exact Array.getElem?_eq_getElem _
  have hfr := frozen_of_row w p.b o cur e q4
  refine ⟨w.setCell ⟨p.b, o, none⟩ v, ?_, .dead, _, φ, hK, Sub.refl _, ?_, trivial, ?_⟩
  · have hcs : v.cells = #[v] := cells_one hv1
    rw [q1, Nat.zero_add]
    simp [Instr.storeAt, Instr.sureAddr, storeVar, hcs, sizeOf, typeInfo, hi, hsz, storeCells, addr_add, run_store _ _ _ _ _ hv1, hcell, hfr]
  · refine R.rewrite (cur := cur.setIfInBounds o v) (e := e) hr hp (by simp [World.setCell]) (fun k hk => heap_setCell_other w _ k v hk) (heap_setCell_same w p.b o cur e v q4) (by simpa using q5) (by simpa using q3) (fun k d hk => ?_)
    by_cases hko : k = o
    · subst hko
      rw [List.getElem?_set_self ho] at hk
      cases hk
      exact ⟨v, Array.getElem?_setIfInBounds_self_of_lt (by omega), hy⟩
    · rw [List.getElem?_set_ne (Ne.symm hko)] at hk
      obtain ⟨d', e1, e2⟩ := q6 k d hk
      exact ⟨d', by rw [Array.getElem?_setIfInBounds_ne (Ne.symm hko)]; exact e1, e2⟩
  · exact (Lat.refl B0 w).setCell q2 v

theorem new_row {B0 : Nat} {φ : Plan} {h : Heap} (R : Rep B0 φ h w) (cur : Array Value) (e : TypeId) (cs : List H0) (hl : cs.length ≤ cur.size)
    (hc : ∀ (k : Nat) (c : H0), cs[k]? = some c → ∃ v, cur[k]? = some v ∧ rep0 φ c v) {n : Nat} (hn : n ≤ cur.size) (hm : cur.size ≤ maxLen) {K : HV → Heap → Prop} (hK : K (.s (.sl h.length 0 n)) (h ++ [.own cs])) :
    Leaves dm B0 φ w (w.alloc (.cells cur e)) (.slice (some ⟨w.heap.size, 0, none⟩) n cur.size) K := by
  refine ⟨_, _, φ ++ [⟨w.heap.size, 0, cur.size⟩], hK, Sub.push _ _, R.push cur e cs hl hc, ⟨⟨w.heap.size, 0, cur.size⟩, _, _, ?_, rfl, hn, hm, by simp, fun _ => rfl⟩, below_still R _⟩
  rw [← R.len, List.getElem?_append_right (Nat.le_refl _)]
  simp

theorem Kd.sl_all {d : Kd} {t : TypeId} {z : Value} (hd : d.ok P t) (h : d = .sl z) :
    ∃ e i, P.underlying t = some (.slice e) ∧ P.info? e = some i ∧ i.size = 1 ∧ i.zero = some z ∧ i.bytes ≤ 64 ∧ z.cells = #[z] ∧ z.oneCell' = true := by
  subst h
  exact hd.1

theorem size_made (z : Value) (m : Nat) : (madeCells #[z] m).size = m := size_madeCells _ _

theorem get_made (z : Value) (m k : Nat) (h : k < m) : (madeCells #[z] m)[k]? = some z := by
  simp [madeCells, h, Nat.mod_one]

theorem hMake_run {B0 : Nat} {φ : Plan} {h : Heap} (R : Rep B0 φ h w) {t : TypeId} {z : Value} (hd : (Kd.sl z).ok P t) {x y : HV} {u v : Value} (hx : repV φ x u) (hy : repV φ y v) {K : HV → Heap → Prop} (H : HMake z x y h K) :
    ∃ w' r, (Instr.makeSlice t u v).run P w = .ok r w' ∧ Lat dm w.heap.size w w' ∧ Leaves dm B0 φ w w' r K := by
  obtain ⟨kl, kc, n, m, rfl, rfl, hnm, hm, hK⟩ := H.out
  obtain rfl := rep0_pl hx
  obtain rfl := rep0_pl hy
  obtain ⟨e, i, h1, h2, h3, h4, h5, h6, h7⟩ := Kd.sl_all hd rfl
  have hrun := run_make (P := P) w t e i z h1 h2 h4 kl kc n m (by omega) (by omega) (by
    have : (i.bytes : Int) * m ≤ 64 * m := Int.mul_le_mul_of_nonneg_right (by omega) (by omega)
    omega) (by omega)
  rw [h3, h6] at hrun
  simp only [Int.toNat_natCast, Nat.mul_one] at hrun
  have hs := size_made z m
  refine ⟨_, _, hrun, (Lat.refl _ w).alloc (Nat.le_refl _) _, ?_⟩
  have := new_row (dm := dm) R (madeCells #[z] m) e (List.replicate m (.pl z)) (by simp [hs]) (fun k c hk => by
    have hkm : k < m := by have := (List.getElem?_eq_some_iff.1 hk).1; simpa using this
    rw [List.getElem?_replicate_of_lt hkm] at hk
    cases hk
    exact ⟨z, get_made z m k hkm, rfl⟩) (n := n) (by omega) (by rw [hs]; unfold maxLen; omega) hK
  rw [hs] at this
  exact this

theorem fill_seq : ∀ (vs : List Value) (k : Nat) (cells : Array Value), (∀ v ∈ vs, v.oneCell' = true) → k + vs.length ≤ cells.size →
    ∃ out, Instr.fill (fun i => some (i * 1, 1)) cells ((List.range' k vs.length).zip vs) = some out ∧ out.size = cells.size ∧ (∀ j, j < k → out[j]? = cells[j]?) ∧ (∀ j v, vs[j]? = some v → out[k + j]? = some v)
  | [], k, cells, _, _ => ⟨cells, by simp [Instr.fill], rfl, fun _ _ => rfl, fun j v h => by simp at h⟩
  | v :: vs, k, cells, h1, hl => by
    have hv := cells_one (h1 v (by simp))
    obtain ⟨out, e1, e2, e3, e4⟩ := fill_seq vs (k + 1) (cells.setIfInBounds k v) (fun u hu => h1 u (by simp [hu])) (by simp at hl ⊢; omega)
    refine ⟨out, ?_, by simpa using e2, fun j hj => ?_, fun j u hu => ?_⟩
    · simp only [List.length_cons, List.range'_succ, List.zip_cons_cons, Instr.fill, hv]
      simp only [List.length_cons] at hl
      rw [if_neg (by simp; omega)]
      simpa using e1
    · rw [e3 j (by omega), Array.getElem?_setIfInBounds_ne (by omega)]
    · cases j with
      | zero =>
        simp at hu
        subst hu
        simp only [List.length_cons] at hl
        rw [Nat.add_zero, e3 k (by omega)]
        exact Array.getElem?_setIfInBounds_self_of_lt (by omega)
      | succ j =>
        have := e4 j u (by simpa using hu)
        rw [← this]
        congr 1
        omega

theorem partsOf_rep {φ : Plan} {n : Nat} {fr : Fr} {a : Act} (F : FrRep φ n fr a) : ∀ (l : List (Nat × Operand)) (k : Nat) (xs : List H0), partsOf (hEval fr) k l = some xs →
    ∃ vs : List Value, repL φ xs vs ∧ l.map (fun p => (p.1, a.eval p.2)) = (List.range' k vs.length).zip vs
  | [], k, xs, h => by simp [partsOf_nil] at h; subst h; exact ⟨[], trivial, rfl⟩
  | (i, x) :: rest, k, xs, h => by
    rw [partsOf_cons] at h
    by_cases hi : i = k
    · rw [if_pos hi] at h
      subst hi
      split at h
      · rename_i c cs he hp
        cases h
        obtain ⟨vs, e1, e2⟩ := partsOf_rep F rest (i + 1) cs hp
        have r := F.eval x
        rw [he] at r
        refine ⟨a.eval x :: vs, ⟨r, e1⟩, ?_⟩
        simp [List.range'_succ, e2]
      · cases h
    · rw [if_neg hi] at h; cases h

theorem hLit_run {B0 : Nat} {φ : Plan} {h : Heap} (R : Rep B0 φ h w) {n : Nat} {fr : Fr} {a : Act} (F : FrRep φ n fr a) {t : TypeId} {z : Value} (hd : (Kd.sl z).ok P t) {len : Nat} {parts : Array (Nat × Operand)} {K : HV → Heap → Prop}
    (H : HLit z len (partsOf (hEval fr) 0 parts.toList) h K) : ∃ w' r, (Instr.buildSlice t len (parts.map fun (i, x) => (i, a.eval x))).run P w = .ok r w' ∧ Lat dm w.heap.size w w' ∧ Leaves dm B0 φ w w' r K := by
  obtain ⟨xs, hp, hl, hn, h1x, hK⟩ := H.out
  obtain ⟨vs, r1, r2⟩ := partsOf_rep F _ _ _ hp
  have hlen := r1.length
  obtain ⟨e, i, h1, h2, h3, h4, h5, h6, h7⟩ := Kd.sl_all hd rfl
  have hfill := fill_seq vs 0 (madeCells #[z] len) (r1.one h1x) (by rw [size_made]; omega)
  obtain ⟨out, e1, e2, _, e4⟩ := hfill
  rw [size_made] at e2
  have hpl : (parts.map fun (i, x) => (i, a.eval x)).toList = (List.range' 0 vs.length).zip vs := by
    rw [← r2]
    simp
  refine ⟨w.alloc (.cells out e), .slice (some ⟨w.heap.size, 0, none⟩) len len, ?_, (Lat.refl _ w).alloc (Nat.le_refl _) _, ?_⟩
  · by_cases h0 : len = 0
    · subst h0
      have hvs : vs = [] := List.eq_nil_of_length_eq_zero (by omega)
      subst hvs
      have ho : out = #[] := Array.eq_empty_of_size_eq_zero e2
      subst ho
      have hpl' : (parts.map fun (i, x) => (i, a.eval x)).toList = [] := by simpa using hpl
      simp only [Instr.buildSlice, Sem.run_bind, run_underlying h1, Result.andThen_ok, sizeOf, typeInfo, run_program, h2, h3, Sem.run_pure, Nat.zero_mul, hpl']
      have hr : (Array.map (fun _ => (default : Value)) (Array.range 0)) = #[] := Array.eq_empty_of_size_eq_zero (by simp)
      simp [Instr.fill, newRow, hr]
    · simp only [Instr.buildSlice, Sem.run_bind, run_underlying h1, Result.andThen_ok, sizeOf, typeInfo, run_program, h2, h3, Sem.run_pure, Nat.mul_one, hpl]
      have hm : ((Array.range len).map fun x => [z][x % 1]?.getD default) = madeCells #[z] len := by
        unfold madeCells
        refine congrArg (fun f => Array.map f (Array.range len)) (funext fun x => ?_)
        simp [Nat.mod_one]
      have hf : Instr.fill (fun i => some (i * 1, 1)) (madeCells #[z] len) ((List.range' 0 vs.length).zip vs) = some out := e1
      simp only [Nat.mul_one] at hf
      simp [h0, zeroValue, typeInfo, h2, h4, h6, hm, hf, newRow, show ¬ 16777216 < len by omega]
  · have := new_row (dm := dm) R out e xs (by omega) (fun k c hk => by
      obtain ⟨v, g1, g2⟩ := r1.get k c hk
      exact ⟨v, by have := e4 k v g1; simpa using this, g2⟩) (n := len) (by omega) (by rw [e2]; unfold maxLen; omega) hK
    rw [e2] at this
    exact this

/-- One's own row, written in part. -/
theorem set_part {B0 : Nat} {φ : Plan} {h : Heap} (R : Rep B0 φ h w) {r o : Nat} {cs new : List H0} {news : List Value} {p : Place} (hr : h[r]? = some (.own cs)) (hp : φ[r]? = some p)
    {cur : Array Value} {e : TypeId} (q4 : w.heap[p.b]? = some (.cells cur e (0, 0))) (q5 : cur.size = p.n) (q6 : ∀ (k : Nat) (c : H0), cs[k]? = some c → ∃ v, cur[k]? = some v ∧ rep0 φ c v)
    (hn : repL φ new news) (hfit : o + new.length ≤ cs.length) :
    Rep B0 φ (h.set r (.own (cs.take o ++ new ++ cs.drop (o + new.length)))) (w.setRow p.b (cur.toList.take o ++ news ++ cur.toList.drop (o + new.length)).toArray) := by
  obtain ⟨q1, q2, q3, _⟩ := R.own r cs p hr hp
  have hln := hn.length
  have hls : cs.length ≤ cur.size := by omega
  refine R.rewrite (e := e) hr hp (by simp) (fun k hk => setRow_other w p.b k _ hk) (setRow_heap w p.b cur _ e _ q4) (by simp; omega) (by simp; omega) (fun k c hk => ?_)
  simp only [List.getElem?_toArray]
  have t1 : (cs.take o).length = o := by simp; omega
  have t2 : (cur.toList.take o).length = o := by simp; omega
  rw [List.append_assoc] at hk ⊢
  by_cases hk1 : k < o
  · rw [List.getElem?_append_left (by omega), List.getElem?_take_of_lt hk1] at hk ⊢
    simpa using q6 k c hk
  · rw [List.getElem?_append_right (by omega)] at hk ⊢
    rw [t1] at hk
    rw [t2]
    by_cases hk2 : k - o < new.length
    · rw [List.getElem?_append_left hk2] at hk
      rw [List.getElem?_append_left (by omega)]
      exact hn.get _ _ hk
    · rw [List.getElem?_append_right (by omega), List.getElem?_drop] at hk
      rw [List.getElem?_append_right (by omega), List.getElem?_drop]
      have e1 : o + new.length + (k - o - new.length) = k := by omega
      have e2 : o + new.length + (k - o - news.length) = k := by omega
      rw [e1] at hk
      rw [e2]
      simpa using q6 k c hk

theorem repL.replicate {φ : Plan} (z : Value) : ∀ (n : Nat), repL φ (List.replicate n (.pl z)) (List.replicate n z)
  | 0 => trivial
  | n + 1 => ⟨rfl, repL.replicate z n⟩

theorem zero_cells (z : Value) (n : Nat) : (Builtin.zeroCells #[z] n).toList = List.replicate n z := by
  apply List.ext_getElem?
  intro k
  by_cases h : k < n
  · simp [Builtin.zeroCells, h, Nat.mod_one]
  · simp [Builtin.zeroCells, h]

theorem hClear_run {B0 : Nat} {φ : Plan} {h : Heap} (R : Rep B0 φ h w) {t ty : TypeId} {z : Value} (hd : (Kd.sl z).ok P t) {x : HV} {u : Value} (hx : repV φ x u) {K : HV → Heap → Prop} (H : HClear z h x K) :
    ∃ w' r, (Builtin.clear_ #[t] ty #[u]).run P w = .ok r w' ∧ Leaves dm B0 φ w w' r K := by
  obtain ⟨e, i, h1, h2, h3, h4, h5, h6, h7⟩ := Kd.sl_all hd rfl
  have zero : ∀ a c, (Builtin.clear_ #[t] ty #[.slice a 0 c]).run P w = .ok (.tuple #[]) w := by
    intro a c
    cases a <;> simp [Builtin.clear_, run_underlying h1]
  have nothing : ∀ h', K (.tup []) h' → Rep B0 φ h' w → Leaves dm B0 φ w w (.tuple #[]) K := fun h' hK R' => ⟨.tup [], h', φ, hK, Sub.refl _, R', ⟨#[], rfl, trivial⟩, Lat.refl B0 w⟩
  rcases H.out with ⟨n, hn, rfl, hK⟩ | ⟨r, off, len, cs, rfl, hr, hl, hK⟩
  · obtain ⟨a, c, rfl⟩ := lenOf_rep hx hn
    exact ⟨w, _, zero a c, nothing h hK R⟩
  · obtain ⟨p, a, cap, hp, rfl, g1, g2, g3, g4⟩ := hx
    obtain ⟨q1, q2, q3, cur, e', q4, q5, q6⟩ := R.own r cs p hr hp
    by_cases h0 : len = 0
    · subst h0
      refine ⟨w, _, zero _ _, nothing _ hK ?_⟩
      have e0 : cs.take off ++ List.replicate 0 (.pl z) ++ cs.drop (off + 0) = cs := by simp
      rw [e0]
      exact R.rewrite (e := e') hr hp rfl (fun _ _ => rfl) q4 q5 q3 q6
    · obtain rfl := g4 (by omega)
      have hpart := set_part R hr hp q4 q5 q6 (repL.replicate (φ := φ) z len) (o := off) (by simpa using hl)
      simp only [List.length_replicate] at hpart
      have hst := run_storeCells_at P p.b off e' (List.replicate len z) 0 cur w q4 (by simp; omega) (by
        intro v hv
        rw [(List.mem_replicate.1 hv).2]
        exact h7)
      simp only [Nat.add_zero, List.length_replicate] at hst
      refine ⟨_, .tuple #[], ?_, .tup [], _, φ, hK, Sub.refl _, hpart, ⟨#[], rfl, trivial⟩, lat_setRow (Lat.refl B0 w) q2 _⟩
      obtain ⟨k, rfl⟩ : ∃ k, len = k + 1 := ⟨len - 1, by omega⟩
      rw [q1, Nat.zero_add]
      simp [Builtin.clear_, run_underlying h1, zeroValue, typeInfo, h2, h4, h6, zero_cells, hst]

end
end Go.Proofs.Ytecfgbjddkpkcaa.Hx
