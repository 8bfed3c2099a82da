/-
  The calculus of rows is sound, part 3b: literals of elements of several cells, and append of such.
  The calculus of rows is sound, part 4: lists of operations, regions, code, functions.
-/
import Derived.Test.YtjgnnjegaedinaaZ03
namespace Go.Proofs.Ytjgnnjegaedinaa.Hx
open Go.RowKit
variable {dm : Bool}

section
variable {P : Program} {w : World}

theorem foldl_set (o : Nat) : ∀ (vs : List Value) (j0 : Nat) (cells : Array Value), o + j0 + vs.length ≤ cells.size →
    ∃ out, (vs.zipIdx j0).foldl (fun cs (c, j) => cs.setIfInBounds (o + j) c) cells = out ∧ out.size = cells.size ∧ (∀ j, j < o + j0 → out[j]? = cells[j]?) ∧ (∀ j v, vs[j]? = some v → out[o + j0 + j]? = some v)
  | [], j0, cells, _ => ⟨cells, rfl, rfl, fun _ _ => rfl, fun j v h => by simp at h⟩
  | v :: vs, j0, cells, hl => by
    simp only [List.length_cons] at hl
    obtain ⟨out, e1, e2, e3, e4⟩ := foldl_set o vs (j0 + 1) (cells.setIfInBounds (o + j0) v) (by simp; omega)
    refine ⟨out, by simpa [List.zipIdx_cons] using e1, by simpa using e2, fun j hj => ?_, fun j u hu => ?_⟩
    · rw [e3 j (by omega), Array.getElem?_setIfInBounds_ne (by omega)]
    · cases j with
      | zero =>
        simp at hu
        subst hu
        rw [Nat.add_zero, e3 _ (by omega)]
        exact Array.getElem?_setIfInBounds_self_of_lt (by omega)
      | succ j =>
        have := e4 j u (by simpa using hu)
        rw [← this]
        congr 1
        omega

theorem fill_step {place : Nat → Option (Nat × Nat)} {cells : Array Value} {i : Nat} {v : Value} {rest : List (Nat × Value)} {off size : Nat} (hp : place i = some (off, size)) (h1 : v.cells.size = size) (h2 : off + v.cells.size ≤ cells.size) :
    Instr.fill place cells ((i, v) :: rest) = Instr.fill place (v.cells.zipIdx.foldl (fun cs (c, j) => cs.setIfInBounds (off + j) c) cells) rest := by
  rw [Instr.fill, hp]
  simp only
  rw [if_neg (by simp [h1]; omega)]

theorem fill_wide (n : Nat) : ∀ (vss : List (List Value)) (k : Nat) (cells : Array Value), (∀ vs ∈ vss, vs.length = n) → n * (k + vss.length) ≤ cells.size →
    ∃ out, Instr.fill (fun i => some (i * n, n)) cells ((List.range' k vss.length).zip (vss.map fun vs => Value.agg vs.toArray)) = some out ∧ out.size = cells.size ∧ (∀ j, j < n * k → out[j]? = cells[j]?) ∧ (∀ j v, vss.flatten[j]? = some v → out[n * k + j]? = some v)
  | [], k, cells, _, _ => ⟨cells, by simp [Instr.fill], rfl, fun _ _ => rfl, fun j v h => by simp at h⟩
  | vs :: vss, k, cells, h1, hl => by
    have hv := h1 vs (by simp)
    simp only [List.length_cons] at hl
    have e0 : n * (k + (vss.length + 1)) = n * k + n + n * vss.length := by
      rw [Nat.mul_add, Nat.mul_add, Nat.mul_one]
      omega
    have e1 : n * (k + 1 + vss.length) = n * k + n + n * vss.length := by
      rw [Nat.mul_add, Nat.mul_add, Nat.mul_one]
    have e2 : n * (k + 1) = n * k + n := by rw [Nat.mul_add, Nat.mul_one]
    obtain ⟨mid, m1, m2, m3, m4⟩ := foldl_set (k * n) vs 0 cells (by rw [Nat.mul_comm k n]; omega)
    obtain ⟨out, q1, q2, q3, q4⟩ := fill_wide n vss (k + 1) mid (fun u hu => h1 u (by simp [hu])) (by rw [m2]; omega)
    refine ⟨out, ?_, by omega, fun j hj => ?_, fun j u hu => ?_⟩
    · simp only [List.length_cons, List.range'_succ, List.map_cons, List.zip_cons_cons]
      rw [fill_step (off := k * n) (size := n) rfl (by simp [Value.cells, hv]) (by simp [Value.cells, hv]; rw [Nat.mul_comm k n]; omega)]
      have : ((Value.agg vs.toArray).cells.zipIdx.foldl (fun cs (c, j) => cs.setIfInBounds (k * n + j) c) cells) = mid := by
        rw [← m1, ← Array.foldl_toList]
        simp [Value.cells]
      rw [this]
      exact q1
    · rw [q3 j (by omega), m3 j (by rw [Nat.mul_comm k n]; omega)]
    · rw [List.flatten_cons] at hu
      by_cases hj : j < n
      · rw [List.getElem?_append_left (by omega)] at hu
        rw [q3 _ (by omega)]
        have := m4 j u hu
        rw [Nat.add_zero, Nat.mul_comm k n] at this
        exact this
      · rw [List.getElem?_append_right (by omega), hv] at hu
        have := q4 (j - n) u hu
        rw [← this]
        congr 1
        omega

theorem partsW_rep {φ : Plan} {n : Nat} {fr : Fr} {a : Act} (F : FrRep φ n fr a) : ∀ (l : List (Nat × Operand)) (k : Nat) (xs : List (List H0)), partsW (hEval fr) k l = some xs →
    ∃ vss : List (List Value), repL φ xs.flatten vss.flatten ∧ vss.length = xs.length ∧ (∀ (m : Nat), (∀ c ∈ xs, c.length = m) → ∀ vs ∈ vss, vs.length = m) ∧ l.map (fun p => (p.1, a.eval p.2)) = (List.range' k vss.length).zip (vss.map fun vs => Value.agg vs.toArray)
  | [], k, xs, h => by simp [partsW_nil] at h; subst h; exact ⟨[], trivial, rfl, fun _ _ vs hv => by simp at hv, rfl⟩
  | (i, x) :: rest, k, xs, h => by
    rw [partsW_cons] at h
    by_cases hi : i = k
    · rw [if_pos hi] at h
      subst hi
      split at h
      · rename_i c cs he hp
        cases h
        obtain ⟨vss, e1, e2, e3, e4⟩ := partsW_rep F rest (i + 1) cs hp
        have r := F.eval x
        rw [he] at r
        obtain ⟨vs, hv, hr⟩ := r
        refine ⟨vs.toList :: vss, ?_, by simp [e2], fun m hm u hu => ?_, ?_⟩
        · rw [List.flatten_cons, List.flatten_cons]
          exact hr.append e1
        · rcases List.mem_cons.1 hu with rfl | hu
          · rw [← hr.length]
            exact hm c (by simp)
          · exact e3 m (fun d hd => hm d (by simp [hd])) u hu
        · simp [List.range'_succ, e4, hv]
      · cases h
    · rw [if_neg hi] at h; cases h

theorem repL.oneF {φ : Plan} {cs : List H0} {vs : List Value} (h : repL φ cs vs) (k : ∀ c ∈ cs, c.one = true) : ∀ u ∈ vs, u.oneCell' = true := h.one k

theorem flatW_len {n : Nat} : ∀ {xs : List (List H0)}, (∀ c ∈ xs, c.length = n) → xs.flatten.length = n * xs.length
  | [], _ => by simp
  | c :: xs, h => by
    rw [List.flatten_cons, List.length_append, h c (by simp), flatW_len (fun d hd => h d (by simp [hd])), List.length_cons, Nat.mul_add, Nat.mul_one]
    omega

/-- A new row of elements of several cells. -/
theorem new_rowW {B0 : Nat} {φ : Plan} {h : Heap} (R : Rep B0 φ h w) (k : Nat) (cur : Array Value) (e : TypeId) (cs : List H0) (hl : cs.length ≤ cur.size)
    (hc : ∀ (k : Nat) (c : H0), cs[k]? = some c → ∃ v, cur[k]? = some v ∧ rep0 φ c v) {n m : Nat} (hn : n ≤ m) (hk : k * m = cur.size) (hm : m ≤ maxLen) {K : HV → Heap → Prop} (hK : K (.s (.sw k h.length 0 n)) (h ++ [.own cs])) :
    Leaves dm B0 φ w (w.alloc (.cells cur e)) (.slice (some ⟨w.heap.size, 0, none⟩) n m) K := by
  refine ⟨_, _, φ ++ [⟨w.heap.size, 0, cur.size⟩], hK, Sub.push _ _, R.push cur e cs hl hc, ⟨⟨w.heap.size, 0, cur.size⟩, _, _, ?_, rfl, hn, hm, by simp [hk], fun _ => rfl⟩, below_still R _⟩
  rw [← R.len, List.getElem?_append_right (Nat.le_refl _)]
  simp

theorem hLitW_run {B0 : Nat} {φ : Plan} {h : Heap} (R : Rep B0 φ h w) {n : Nat} {fr : Fr} {a : Act} (F : FrRep φ n fr a) {t : TypeId} {zs : List Value} (hd : (Kd.slw zs).ok P t) (hsmall : zs.length ≤ 4096) {len : Nat} {parts : Array (Nat × Operand)} {K : HV → Heap → Prop}
    (H : HLitW zs.length len (partsW (hEval fr) 0 parts.toList) h K) : ∃ w' r, (Instr.buildSlice t len (parts.map fun (i, x) => (i, a.eval x))).run P w = .ok r w' ∧ Lat dm w.heap.size w w' ∧ Leaves dm B0 φ w w' r K := by
  obtain ⟨xs, hp, hl, hn, h1x, hK⟩ := H.out
  obtain ⟨vss, r1, r2, r3, r4⟩ := partsW_rep F _ _ _ hp
  have hlen := r1.length
  obtain ⟨⟨e, i, h1, h2, h3, h4, h5, h6, h7⟩, _⟩ := hd
  have hvs := r3 zs.length (fun c hc => (h1x c hc).1)
  have hfl := flatW_len (n := zs.length) (fun c hc => (h1x c hc).1)
  have hbig : len * zs.length ≤ 16777216 := by
    have : len * zs.length ≤ 4096 * 4096 := Nat.mul_le_mul hn hsmall
    omega
  obtain ⟨out, e1, e2, _, e4⟩ := fill_wide zs.length vss 0 ((Array.range (len * zs.length)).map fun x => (if len * zs.length = 0 then (#[] : Array Value) else zs.toArray)[x % (if len * zs.length = 0 then (#[] : Array Value) else zs.toArray).size]!) hvs (by simp; rw [r2, hl, Nat.mul_comm]; exact Nat.le_refl _)
  have hpl : (parts.map fun (i, x) => (i, a.eval x)).toList = (List.range' 0 vss.length).zip (vss.map fun vs => Value.agg vs.toArray) := by
    rw [← r4]
    simp
  have hsz : out.size = len * zs.length := by rw [e2]; simp
  refine ⟨w.alloc (.cells out e), .slice (some ⟨w.heap.size, 0, none⟩) len len, ?_, (Lat.refl _ w).alloc (Nat.le_refl _) _, ?_⟩
  · simp only [Instr.buildSlice, Sem.run_bind, run_underlying h1, Result.andThen_ok, sizeOf, typeInfo, run_program, h2, h3, Sem.run_pure, hpl]
    by_cases h0 : len * zs.length = 0
    · have hl0 : len = 0 := by
        rcases Nat.mul_eq_zero.1 h0 with h | h
        · exact h
        · omega
      subst hl0
      have hv0 : vss = [] := List.eq_nil_of_length_eq_zero (by omega)
      subst hv0
      have ho : out = #[] := Array.eq_empty_of_size_eq_zero (by omega)
      subst ho
      have hr : (Array.map (fun _ => (default : Value)) (Array.range 0)) = #[] := Array.eq_empty_of_size_eq_zero (by simp)
      simp [Instr.fill, newRow, hr]
    · rw [if_neg h0] at e1
      simp [h0, show ¬ 16777216 < len * zs.length by omega, zeroValue, typeInfo, h2, h4, Value.cells] at e1 ⊢
      rw [e1]
      simp [newRow]
  · refine new_rowW (dm := dm) R zs.length out e xs.flatten (by rw [hfl, hsz, hl, Nat.mul_comm]; exact Nat.le_refl _) (fun k c hk => ?_) (Nat.le_refl len) (by rw [hsz, Nat.mul_comm]) (by unfold maxLen; omega) hK
    obtain ⟨v, g1, g2⟩ := r1.get k c hk
    exact ⟨v, by have := e4 k v g1; simpa using this, g2⟩

/-- What a slice of elements of several cells reads. -/
theorem ShowsW.read {B0 : Nat} {φ : Plan} {h : Heap} (R : Rep B0 φ h w) {k : Nat} {x : HV} {m : Nat} {new : List H0} (H : ShowsW k h x m new) {u : Value} (hm : 0 < m) (hx : repV φ x u) :
    new.length = k * m ∧ ∃ (a : Addr) (c : Nat) (vs : List Value), u = .slice (some a) m c ∧ repL φ new vs ∧ ∀ j v, vs[j]? = some v → w.cell? (a.add j) = some v := by
  have main : ∀ (r off len : Nat) (y : Row) (cs : List H0), 0 < len → h[r]? = some y → y.cells? = some cs → off + k * len ≤ cs.length → repV φ (.s (.sw k r off len)) u →
      ((cs.drop off).take (k * len)).length = k * len ∧ ∃ (a : Addr) (c : Nat) (vs : List Value), u = .slice (some a) len c ∧ repL φ ((cs.drop off).take (k * len)) vs ∧ ∀ j v, vs[j]? = some v → w.cell? (a.add j) = some v := by
    intro r off len y cs h0 hr hc hl hx
    obtain ⟨p, a, cap, hp, rfl, h1, h2, _, h3⟩ := hx
    obtain rfl := h3 (by omega)
    obtain ⟨vs, e1, e2⟩ := concrete (φ := φ) (p := fun j v => w.cell? ⟨p.b, p.o + (off + j), none⟩ = some v) (cs := (cs.drop off).take (k * len)) (k0 := 0) (fun j c hj => by
      have hk2 : j < k * len := by have := (List.getElem?_eq_some_iff.1 hj).1; simp at this; omega
      rw [List.getElem?_take_of_lt hk2, List.getElem?_drop] at hj
      obtain ⟨v, e1, e2⟩ := R.cell hr hc hj hp
      exact ⟨v, by simpa using e1, e2⟩)
    refine ⟨by simp; omega, _, _, vs, rfl, e1, fun j v hj => ?_⟩
    have := e2 j v hj
    rw [addr_add, Nat.add_assoc]
    simpa using this
  cases H with
  | nils a c => omega
  | ro r off len cs hr hl => exact main r off m _ cs hm hr rfl hl hx
  | own r off len cs hr hl => exact main r off m _ cs hm hr rfl hl hx

theorem run_appw_room {t ty e : TypeId} {i : TypeInfo} (ht : P.underlying t = some (.slice e)) (hi : P.info? e = some i) {k : Nat} (hs : i.size = k)
    (g n c : Nat) (cur : Array Value) (e' : TypeId) (hg : w.heap[g]? = some (.cells cur e' (0, 0))) (a : Addr) (m xc : Nat) (news : List Value) (hl : news.length = m * k)
    (hnews : ∀ j u, news[j]? = some u → w.cell? (a.add j) = some u) (h1 : ∀ u ∈ news, u.oneCell' = true) (hroom : n + m ≤ c) (hfit : n * k + m * k ≤ cur.size) :
    (Builtin.append_ #[t, t] ty #[.slice (some ⟨g, 0, none⟩) n c, .slice (some a) m xc]).run P w =
      .ok (.slice (some ⟨g, 0, none⟩) (n + m) c) (w.setRow g (cur.toList.take (n * k) ++ news ++ cur.toList.drop (n * k + m * k)).toArray) := by
  have hf := run_firstCells_some (P := P) w i.size m a m xc news (by rw [hl, hs]) hnews
  have hst := run_storeCells_at P g (n * k) e' news 0 cur w hg (by rw [hl]; omega) h1
  simp only [Nat.add_zero, hl] at hst
  rw [hs] at hf
  simp [Builtin.append_, run_underlying ht, sizeOf, typeInfo, hi, hs, Builtin.lenOf, hroom, hf, rec_add, hst]

theorem size_zeroK (zs : List Value) (n : Nat) : (Builtin.zeroCells zs.toArray n).size = n * zs.length := by simp [Builtin.zeroCells]

theorem hAppW_run {B0 : Nat} {φ : Plan} {h : Heap} (R : Rep B0 φ h w) {t ty : TypeId} {zs : List Value} (hd : (Kd.slw zs).ok P t) {x y : HV} {u v : Value} (hx : repV φ x u) (hy : repV φ y v) {K : HV → Heap → Prop} (H : HAppW zs.length h x y K) :
    ∃ w' r, (Builtin.append_ #[t, t] ty #[u, v]).run P w = .ok r w' ∧ Leaves dm B0 φ w w' r K := by
  obtain ⟨⟨e, i, h1, h2, h3, h4, h5, h6, h7⟩, _⟩ := hd
  obtain ⟨m, new, r, len, cs, hsh, hm, hone, rfl, hr, hlen, hsum, hK⟩ := H.out
  obtain ⟨hnl, xa, xc, news, rfl, hn, hcells⟩ := hsh.read R hm hy
  obtain ⟨p, a, cap, hp, rfl, g1, g2, g4, g3⟩ := hx
  obtain ⟨q1, q2, q3, cur, e', q4, q5, q6⟩ := R.own r cs p hr hp
  have hln := hn.length
  generalize hkk : zs.length = k at *
  have hmul : ∀ a b : Nat, k * (a + b) = k * a + k * b := fun a b => Nat.mul_add k a b
  by_cases hroom : len + m ≤ cap
  · obtain rfl := g3 (by omega)
    have hfit : k * len + k * m ≤ p.n := by
      have : k * (len + m) ≤ k * cap := Nat.mul_le_mul_left k hroom
      rw [hmul] at this
      omega
    have hrun := run_appw_room (P := P) (w := w) (ty := ty) h1 h2 h3 p.b len cap cur e' q4 xa m xc news (by rw [← hln, hnl, Nat.mul_comm]) hcells (hn.one hone) hroom (by rw [Nat.mul_comm len, Nat.mul_comm m]; omega)
    have e0 : (⟨p.b, p.o + 0, none⟩ : Addr) = ⟨p.b, 0, none⟩ := by rw [q1]
    rw [e0]
    refine ⟨_, _, hrun, ?_⟩
    rw [Nat.mul_comm len, Nat.mul_comm m]
    have hlc : k * len ≤ cur.size := by omega
    have ht : (cur.toList.take (k * len)).length = k * len := by simp; omega
    have ht' : (cs.take (k * len)).length = k * len := by simp; omega
    have R1 : Rep B0 φ (h.set r (.own (cs.take (k * len) ++ new))) (w.setRow p.b (cur.toList.take (k * len) ++ news ++ cur.toList.drop (k * len + k * m)).toArray) := by
      refine R.rewrite (e := e') hr hp (by simp) (fun k hk => setRow_other w p.b k _ hk) (setRow_heap w p.b cur _ e' _ q4) (by simp; omega) (by simp; omega) (fun j c hj => ?_)
      simp only [List.getElem?_toArray]
      by_cases hk1 : j < k * len
      · rw [List.getElem?_append_left (by omega), List.getElem?_take_of_lt hk1] at hj
        obtain ⟨v, e1, e2⟩ := q6 j c hj
        refine ⟨v, ?_, e2⟩
        rw [List.append_assoc, List.getElem?_append_left (by omega), List.getElem?_take_of_lt hk1]
        simpa using e1
      · rw [List.getElem?_append_right (by omega), ht'] at hj
        obtain ⟨v, e1, e2⟩ := hn.get _ _ hj
        refine ⟨v, ?_, e2⟩
        have hk2 : j - k * len < news.length := (List.getElem?_eq_some_iff.1 e1).1
        rw [List.append_assoc, List.getElem?_append_right (by omega), ht, List.getElem?_append_left hk2]
        exact e1
    have hrl : r < h.length := (List.getElem?_eq_some_iff.1 hr).1
    have R2 := R1.move (r := r) (cs := cs.take (k * len) ++ new) (p := p) (by rw [List.getElem?_set_self hrl]) hp
    rw [List.set_set] at R2
    refine ⟨_, _, φ ++ [p], hK, Sub.push _ _, R2, ⟨p, _, _, ?_, rfl, hroom, g2, g4, fun _ => by rw [q1]⟩, lat_setRow (Lat.refl B0 w) q2 _⟩
    rw [← R.len, List.getElem?_append_right (Nat.le_refl _)]
    simp
  · have hold : ∃ oldv : List Value, repL φ (cs.take (k * len)) oldv ∧ ∀ j u, oldv[j]? = some u → w.cell? (a.add j) = some u := by
      by_cases hc0 : cap = 0
      · have hl0 : len = 0 := by omega
        subst hl0
        exact ⟨[], by simp [repL], fun j u hj => by simp at hj⟩
      · obtain rfl := g3 hc0
        obtain ⟨vs, e1, e2⟩ := concrete (φ := φ) (p := fun j v => w.cell? ⟨p.b, p.o + j, none⟩ = some v) (cs := cs.take (k * len)) (k0 := 0) (fun j c hj => by
          have hk2 : j < k * len := by have := (List.getElem?_eq_some_iff.1 hj).1; simp at this; omega
          rw [List.getElem?_take_of_lt hk2] at hj
          obtain ⟨v, e1, e2⟩ := R.cell hr rfl hj hp
          exact ⟨v, by simpa using e1, e2⟩)
        exact ⟨vs, e1, fun j u hj => by have := e2 j u hj; rw [addr_add]; simpa using this⟩
    obtain ⟨oldv, ho, hoc⟩ := hold
    have hol := ho.length
    have htl : (cs.take (k * len)).length = k * len := by simp; omega
    have hb : (len + m) * i.bytes ≤ 140737488355328 := by
      have : (len + m) * i.bytes ≤ 2 ^ 36 * 512 := Nat.mul_le_mul hsum h5
      omega
    have hrun := run_append_grow (P := P) w t ty e i _ h1 h2 h4 a len cap oldv (by rw [h3, ← hol, htl, Nat.mul_comm]) hoc xa m xc news (by rw [h3, ← hln, hnl, Nat.mul_comm]) hcells (by omega) (by omega) (growslice_fits (by omega) hb)
    refine ⟨_, _, hrun, ?_⟩
    have hge := grownCap_ge w (len + m) cap e
    have hmx := grownCap_le_maxLen w (len + m) cap e (by unfold maxLen; omega)
    have R1 : Rep B0 φ (h.set r .gone) w.drew := (R.drop r).still (Nat.le_refl _) (fun _ _ => rfl)
    have hL := ho.append hn
    have hlL := hL.length
    simp only [List.length_append, htl, hnl] at hlL
    have hsz : (oldv.toArray ++ news.toArray ++ Builtin.zeroCells (Value.agg zs.toArray).cells (grownCap w (len + m) cap e - (len + m))).size = k * grownCap w (len + m) cap e := by
      have e1 : (Value.agg zs.toArray).cells = zs.toArray := rfl
      rw [e1]
      simp only [Array.size_append, List.size_toArray, size_zeroK]
      have e2 : k * grownCap w (len + m) cap e = k * (len + m) + k * (grownCap w (len + m) cap e - (len + m)) := by
        rw [← hmul]
        congr 1
        omega
      rw [e2, hmul, Nat.mul_comm (grownCap w (len + m) cap e - (len + m)), hkk]
      omega
    have := new_rowW (dm := dm) R1 k (oldv.toArray ++ news.toArray ++ Builtin.zeroCells (Value.agg zs.toArray).cells (grownCap w (len + m) cap e - (len + m))) e (cs.take (k * len) ++ new)
      (by
        rw [hsz]
        have : k * (len + m) ≤ k * grownCap w (len + m) cap e := Nat.mul_le_mul_left k hge
        rw [hmul] at this
        rw [List.length_append, htl, hnl]
        exact this) (fun j c hj => by
        obtain ⟨v', e1, e2⟩ := hL.get j c hj
        refine ⟨v', ?_, e2⟩
        have hk2 : j < (oldv ++ news).length := (List.getElem?_eq_some_iff.1 e1).1
        rw [Array.getElem?_append_left (by simpa using hk2)]
        simpa using e1) (n := len + m) (m := grownCap w (len + m) cap e) hge hsz.symm hmx (K := K) (by rw [List.length_set]; exact hK)
    obtain ⟨x', h', φ', g1, g2, g3, g4, g5⟩ := this
    exact ⟨x', h', φ', g1, g2, g3, g4, (Lat.refl B0 w).drew.trans g5⟩

theorem repL.rep {φ : Plan} (z : Value) : ∀ (n : Nat), repL φ (List.replicate n (.pl z)) (List.replicate n z)
  | 0 => trivial
  | n + 1 => ⟨rfl, repL.rep z n⟩

/-- An array's literal. -/
theorem hArr_run {n : Nat} {φ : Plan} {fr : Fr} {a : Act} (F : FrRep φ n fr a) {t : TypeId} {m : Nat} {z : Value} (hd : (Kd.arr m z).ok P t) {parts : Array (Nat × Operand)} {K : HV → Prop}
    (H : HRec (setParts (hEval fr) (List.replicate m (.pl z)) parts.toList) (atoms (parts.toList.map fun p => hEval fr p.2)) K) :
    ∃ (r : Value) (y : HV), (∀ w : World, (Instr.build t (parts.map fun (i, x) => (i, a.eval x))).run P w = .ok r w) ∧ repV φ y r ∧ K y := by
  obtain ⟨ys, cs, hs, hq, hone, hK⟩ := H.out
  have h1 := atoms_one parts.toList hq hone
  obtain ⟨e, i, j, g1, g2, g3, g4, g5, g6, g7, g8⟩ := hd
  obtain ⟨us, e1, e2⟩ := setParts_fill (places := fun i => some (i * j.size, j.size)) (m := m) F (fun i _ => by rw [g6, Nat.mul_one]) parts.toList (List.replicate m (.pl z)) (Array.replicate m z) ys (by simp) (by simpa using repL.rep z m) hs h1
  refine ⟨.agg us, .agg ys, fun w => ?_, ⟨us, rfl, e2⟩, hK⟩
  have hl : (parts.map fun (i, x) => (i, a.eval x)).toList = parts.toList.map fun p => (p.1, a.eval p.2) := by simp
  simp [Instr.build, zeroValue, typeInfo, g2, g4, run_underlying g1, sizeOf, g5, Value.cells, e1]

end
end Go.Proofs.Ytjgnnjegaedinaa.Hx

namespace Go.Proofs.Ytjgnnjegaedinaa.Hx
open Go.RowKit
variable {dm : Bool}

section
variable {P : Program} {kd : TypeId → Kd} {n : Nat}

theorem leaves_same {B0 : Nat} {φ : Plan} {h : Heap} {w : World} (R : Rep B0 φ h w) {x : HV} {v : Value} (hx : repV φ x v) {K : HV → Heap → Prop} (hK : K x h) : Leaves dm B0 φ w w v K :=
  ⟨x, h, φ, hK, Sub.refl φ, R, hx, Lat.refl B0 w⟩

theorem arr1 {α : Type} {xs : Array α} {x : α} (h : xs.toList = [x]) : xs = #[x] := by
  have := congrArg List.toArray h
  simpa using this

theorem arr2 {α : Type} {xs : Array α} {x y : α} (h : xs.toList = [x, y]) : xs = #[x, y] := by
  have := congrArg List.toArray h
  simpa using this

theorem evals {φ : Plan} {fr : Fr} {a : Act} (F : FrRep φ n fr a) : ∀ (xs : List Operand), repVs φ (xs.map (hEval fr)) (xs.map a.eval)
  | [] => trivial
  | x :: xs => ⟨F.eval x, evals F xs⟩

theorem atoms_rep {φ : Plan} : ∀ {xs : List HV} {cs : List H0} {vs : List Value}, atoms xs = some cs → repVs φ xs vs → repL φ cs vs
  | [], cs, [], h, _ => by simp [atoms_nil] at h; subst h; trivial
  | x :: xs, cs, v :: vs, h, r => by
    rw [atoms_cons] at h
    split at h
    · rename_i a as h1 h2
      cases h
      cases x <;> simp [atom] at h1
      subst h1
      exact ⟨r.1, atoms_rep h2 r.2⟩
    · cases h
  | [], _, _ :: _, _, r => r.elim
  | _ :: _, _, [], _, r => r.elim

theorem optEval {φ : Plan} {fr : Fr} {a : Act} (F : FrRep φ n fr a) (o : Option Operand) : (o.map (hEval fr) = none ∧ o.map a.eval = none) ∨ ∃ y v, o.map (hEval fr) = some y ∧ o.map a.eval = some v ∧ repV φ y v := by
  cases o with
  | none => exact Or.inl ⟨rfl, rfl⟩
  | some x => exact Or.inr ⟨_, _, rfl, rfl, F.eval x⟩

theorem two {φ : Plan} {x y : HV} {l : List Value} (h : repVs φ [x, y] l) : ∃ v v', l = [v, v'] := by
  cases l with
  | nil => exact h.elim
  | cons v vs =>
    cases vs with
    | nil => exact h.2.elim
    | cons v' vs =>
      cases vs with
      | nil => exact ⟨v, v', rfl⟩
      | cons _ _ => exact h.2.2.elim

theorem hCall_sound (E : ∀ t, (kd t).ok P t) {o : Oper} {c : Call} (ho : o.op = .call c) {fr : Fr} {a : Act} {h : Heap} {φ : Plan} {w : World} {B0 : Nat} (R : Rep B0 φ h w) (F : FrRep φ n fr a) {Kh : HV → Heap → Prop}
    (H : hCall dm P kd c (hEval fr) h Kh) {next : Act → World → Prop} {Q : Exit → Act → World → Prop} (hn : ∀ v w', Leaves dm B0 φ w w' v Kh → next (a.put o.dst v) w') : o.wp P a w next Q := by
  obtain ⟨callee, args, argTypes⟩ := c
  unfold hCall at H
  simp only at H
  split at H
  · rename_i b
    have hxs := evals F args.toList
    have hrun : ∀ (v : Value) (w' : World), (builtin b argTypes o.type (args.map fun | .const _ => true | _ => false) (args.map a.eval)).run P w = .ok (.value v) w' → (execOp a.eval o).run P w = .ok (.value v) w' := by
      intro v w' hr
      simp only [execOp, ho, resolve, Sem.run_bind, Sem.run_pure, Result.andThen_ok, invoke]
      exact hr
    have hmap : (args.map a.eval).toList = args.toList.map a.eval := by simp
    unfold hBuiltin at H
    split at H
    · split at H
      · rename_i x hx
        split at H
        · rename_i t ht
          obtain rfl := arr1 ht
          rw [hx] at hxs
          obtain ⟨v, hv⟩ : ∃ v, args.toList.map a.eval = [v] := by
            cases he : args.toList.map a.eval with
            | nil => rw [he] at hxs; exact hxs.elim
            | cons v vs =>
              rw [he] at hxs
              cases vs with
              | nil => exact ⟨v, rfl⟩
              | cons _ _ => exact hxs.2.elim
          rw [hv] at hxs
          split at H
          · rename_i hk
            obtain ⟨r, e1, e2⟩ := hLenS_run (P := P) (ty := o.type) (hk ▸ E t) hxs.1 H
            refine wp_value (v := r) (w' := w) (hrun r w ?_) (hn _ _ (leaves_same R (x := .s (.pl r)) rfl e2))
            rw [arr1 (hmap.trans hv)]
            simp [builtin, e1 w]
          · rename_i hk
            obtain ⟨r, e1, e2⟩ := hLenW_run (P := P) (ty := o.type) (hk ▸ E t) hxs.1 H
            refine wp_value (v := r) (w' := w) (hrun r w ?_) (hn _ _ (leaves_same R (x := .s (.pl r)) rfl e2))
            rw [arr1 (hmap.trans hv)]
            simp [builtin, e1 w]
          · obtain ⟨r, e1, e2⟩ := hLen_run (P := P) (ty := o.type) (E t) H.1 hxs.1 H.2
            refine wp_value (v := r) (w' := w) (hrun r w ?_) (hn _ _ (leaves_same R (x := .s (.pl r)) rfl e2))
            rw [arr1 (hmap.trans hv)]
            simp [builtin, e1 w]
        · exact H.elim
      · exact H.elim
    · split at H
      · rename_i x y hx
        rw [hx] at hxs
        obtain ⟨v, v', hv⟩ : ∃ v v', args.toList.map a.eval = [v, v'] := two hxs
        rw [hv] at hxs
        obtain ⟨r, e1, e2⟩ := hMax_run (P := P) (ts := argTypes) (ty := o.type) hxs.1 hxs.2.1 H
        refine wp_value (v := r) (w' := w) (hrun r w ?_) (hn _ _ (leaves_same R (x := .s (.pl r)) rfl e2))
        rw [arr2 (hmap.trans hv)]
        simp [builtin, e1 w]
      · exact H.elim
    · split at H
      · rename_i x y hx
        rw [hx] at hxs
        obtain ⟨v, v', hv⟩ : ∃ v v', args.toList.map a.eval = [v, v'] := two hxs
        rw [hv] at hxs
        obtain ⟨r, e1, e2⟩ := hMin_run (P := P) (ts := argTypes) (ty := o.type) hxs.1 hxs.2.1 H
        refine wp_value (v := r) (w' := w) (hrun r w ?_) (hn _ _ (leaves_same R (x := .s (.pl r)) rfl e2))
        rw [arr2 (hmap.trans hv)]
        simp [builtin, e1 w]
      · exact H.elim
    · split at H
      · rename_i s x hx
        split at H
        · rename_i t u ht
          obtain rfl := arr2 ht
          rw [hx] at hxs
          obtain ⟨v, v', hv⟩ : ∃ v v', args.toList.map a.eval = [v, v'] := by
            cases he : args.toList.map a.eval with
            | nil => rw [he] at hxs; exact hxs.elim
            | cons v vs =>
              rw [he] at hxs
              cases vs with
              | nil => exact hxs.2.elim
              | cons v' vs =>
                cases vs with
                | nil => exact ⟨v, v', rfl⟩
                | cons _ _ => exact hxs.2.2.elim
          rw [hv] at hxs
          split at H
          · rename_i kn hkn
            split at H
            · rename_i z hz
              have hu := E u
              rw [hkn] at hu
              split at H
              · obtain ⟨w', r, e1, e2⟩ := hAppZ2_run (w := w) (ty := o.type) R (hz ▸ E t) hu.1 hxs.1 hxs.2.1 H
                refine wp_value (v := r) (w' := w') (hrun r w' ?_) (hn _ _ e2)
                rw [arr2 (hmap.trans hv)]
                simp [builtin, e1]
              · obtain ⟨w', r, e1, e2⟩ := hAppZ_run (w := w) (ty := o.type) R (hz ▸ E t) hu.1 hxs.1 hxs.2.1 H
                refine wp_value (v := r) (w' := w') (hrun r w' ?_) (hn _ _ e2)
                rw [arr2 (hmap.trans hv)]
                simp [builtin, e1]
            · exact H.elim
          · rename_i zs hzs
            obtain ⟨rfl, H⟩ := H
            obtain ⟨w', r, e1, e2⟩ := hAppW_run (w := w) (ty := o.type) R (hzs ▸ E t) hxs.1 hxs.2.1 H
            refine wp_value (v := r) (w' := w') (hrun r w' ?_) (hn _ _ e2)
            rw [arr2 (hmap.trans hv)]
            simp [builtin, e1]
          · obtain ⟨rfl, hs, H⟩ := H
            obtain ⟨w', r, e1, e2⟩ := hApp_run (w := w) (ty := o.type) R (E t) hs hxs.1 hxs.2.1 H
            refine wp_value (v := r) (w' := w') (hrun r w' ?_) (hn _ _ e2)
            rw [arr2 (hmap.trans hv)]
            simp [builtin, e1]
        · exact H.elim
      · exact H.elim
    · split at H
      · rename_i x y hx
        split at H
        · rename_i t u ht
          obtain rfl := arr2 ht
          rw [hx] at hxs
          obtain ⟨v, v', hv⟩ : ∃ v v', args.toList.map a.eval = [v, v'] := two hxs
          rw [hv] at hxs
          obtain ⟨rfl, hs, H⟩ := H
          obtain ⟨w', r, e1, e2⟩ := hCopy_run (w := w) (ty := o.type) R (E t) hs hxs.1 hxs.2.1 H
          refine wp_value (v := r) (w' := w') (hrun r w' ?_) (hn _ _ e2)
          rw [arr2 (hmap.trans hv)]
          simp [builtin, e1]
        · exact H.elim
      · exact H.elim
    · split at H
      · rename_i x hx
        split at H
        · rename_i t ht
          obtain rfl := arr1 ht
          split at H
          · rename_i z hz
            rw [hx] at hxs
            obtain ⟨v, hv⟩ : ∃ v, args.toList.map a.eval = [v] := by
              cases he : args.toList.map a.eval with
              | nil => rw [he] at hxs; exact hxs.elim
              | cons v vs =>
                rw [he] at hxs
                cases vs with
                | nil => exact ⟨v, rfl⟩
                | cons _ _ => exact hxs.2.elim
            rw [hv] at hxs
            obtain ⟨w', r, e1, e2⟩ := hClear_run (w := w) (ty := o.type) R (hz ▸ E t) hxs.1 H
            refine wp_value (v := r) (w' := w') (hrun r w' ?_) (hn _ _ e2)
            rw [arr1 (hmap.trans hv)]
            simp [builtin, e1]
          · exact H.elim
        · exact H.elim
      · exact H.elim
    · split at H
      · rename_i x hx
        split at H
        · rename_i t ht
          obtain rfl := arr1 ht
          rw [hx] at hxs
          obtain ⟨v, hv⟩ : ∃ v, args.toList.map a.eval = [v] := by
            cases he : args.toList.map a.eval with
            | nil => rw [he] at hxs; exact hxs.elim
            | cons v vs =>
              rw [he] at hxs
              cases vs with
              | nil => exact ⟨v, rfl⟩
              | cons _ _ => exact hxs.2.elim
          rw [hv] at hxs
          obtain ⟨hs, H⟩ := H
          obtain ⟨b, n, cp, rfl, hK⟩ := H.out
          have hv1 : v = .slice b n cp := hxs.1
          subst hv1
          obtain ⟨z, hz⟩ : ∃ z, kd t = .sl z := by cases hk : kd t <;> rw [hk] at hs <;> simp [Kd.isSl] at hs; exact ⟨_, rfl⟩
          obtain ⟨e, i, h1, _⟩ := Kd.sl_all (hz ▸ E t) rfl
          refine wp_value (v := .int .i64 cp) (w' := w) (hrun _ w ?_) (hn _ _ (leaves_same R (x := .s (.pl (.int .i64 cp))) rfl hK))
          rw [arr1 (hmap.trans hv)]
          simp [builtin, Builtin.cap_, run_underlying h1, goInt]
        · exact H.elim
      · exact H.elim
    · exact H.elim
  · rename_i f
    split at H
    · rename_i k caps he
      have rf := F.eval f
      rw [he] at rf
      obtain ⟨vs, ev, rc⟩ := rf
      have hargs : repVs φ ((args.toList.map (hEval fr)) ++ caps.map HV.s) (args.map a.eval ++ vs).toList := by
        rw [Array.toList_append, Array.toList_map]
        exact (evals F _).append (repVs.ofL rc)
      have hc := H.out B0 φ w _ R hargs
      unfold Oper.wp
      have hrun : (execOp a.eval o).run P w = .ok (.enter k (args.map a.eval ++ vs)) w := by
        simp [execOp, ho, resolve, ev, Deferred.ofValue, invoke, H.enters]
      rw [hrun, Oper.upon_enter]
      refine hc.mono ?_
      rintro e w' ⟨v, x, h', φ', rfl, g1, g2, g3, g4, g5⟩
      exact hn _ _ ⟨x, h', φ', g1, g2, g3, g4, g5⟩
    · exact H.elim
  · exact H.elim

theorem zeros_ok {P : Program} {t : TypeId} {d : Kd} (hd : d.ok P t) {zs : List Value} (h : d.zeros = some zs) : ∃ i z, P.info? t = some i ∧ i.zero = some z ∧ z.cells = zs.toArray := by
  cases d <;> simp only [Kd.zeros, Option.some.injEq, reduceCtorEq] at h
  · subst h
    obtain ⟨fs, i, h1, h2, h3, _⟩ := hd
    exact ⟨i, _, h2, h3, rfl⟩
  · subst h
    obtain ⟨_, ⟨j, h1, h2⟩, _⟩ := hd
    exact ⟨j, _, h1, h2, rfl⟩
  · subst h
    obtain ⟨_, ⟨j, h1, h2⟩, _⟩ := hd
    exact ⟨j, _, h1, h2, rfl⟩

theorem hCheck_run {φ : Plan} {o : Oper} {x : Operand} (ho : o.op = .nilCheck x) {ρ : Operand → Value} {y : HV} (hx : repV φ y (ρ x)) {K : HV → Prop} (H : hCheck y K) :
    (∀ (P : Program) (w : World), (execOp ρ o).run P w = .ok (.value (ρ x)) w) ∧ K y := by
  unfold hCheck at H
  split at H
  · obtain ⟨p, _, e⟩ := hx
    exact ⟨fun P w => by simp [execOp, ho, e], H⟩
  · obtain ⟨vs, e, _⟩ := hx
    exact ⟨fun P w => by simp [execOp, ho, e], H⟩
  · exact H.elim

theorem hOp_sound (E : ∀ t, (kd t).ok P t) {o : Oper} {fr : Fr} {a : Act} {h : Heap} {φ : Plan} {w : World} {B0 : Nat} (R : Rep B0 φ h w) (F : FrRep φ n fr a) {Kh : HV → Heap → Prop}
    (H : hOp dm P kd o.op (hEval fr) h Kh) {next : Act → World → Prop} {Q : Exit → Act → World → Prop} (hn : ∀ v w', Leaves dm B0 φ w w' v Kh → next (a.put o.dst v) w') : o.wp P a w next Q := by
  unfold hOp at H
  split at H
  · rename_i x ho
    exact wp_value (v := a.eval x) (w' := w) (by simp [execOp, ho]) (hn _ _ (leaves_same R (F.eval x) (hForce_elim H)))
  · rename_i x ho
    exact wp_value (v := a.eval x) (w' := w) (by simp [execOp, ho]) (hn _ _ (leaves_same R (F.eval x) (hForce_elim H)))
  · rename_i c x y ho
    obtain ⟨b, e1, e2, e3⟩ := hIf_elim H (F.eval c)
    refine wp_value (v := if b then a.eval x else a.eval y) (w' := w) (by simp [execOp, ho, e1, asBool]) (hn _ _ ?_)
    cases b
    · exact leaves_same R (F.eval y) (e3 rfl)
    · exact leaves_same R (F.eval x) (e2 rfl)
  · rename_i op t x y ty ho
    obtain ⟨r, e1, e2⟩ := hBin_run (P := P) (E t) x y (F.eval x) (F.eval y) H
    refine wp_value (v := r) (w' := w) ?_ (hn _ _ (leaves_same R (x := .s (.pl r)) rfl e2))
    have e1 := e1 w
    simp only [execOp, ho, Sem.run_bind] at e1 ⊢
    rw [e1]
    rfl
  · rename_i op t x ho
    obtain ⟨r, e1, e2⟩ := hUn_run (P := P) (F.eval x) H
    exact wp_value (v := r) (w' := w) (by simp [execOp, ho, e1 w]) (hn _ _ (leaves_same R (x := .s (.pl r)) rfl e2))
  · rename_i t x i ho
    split at H
    · rename_i zs hz
      obtain ⟨r, y, e1, e2, e3⟩ := hIdxW_run (P := P) (t := t) (hz ▸ E t) (F.eval x) (F.eval i) H
      exact wp_value (v := r) (w' := w) (by simp [execOp, ho, e1 w]) (hn _ _ (leaves_same R e2 e3))
    · rename_i n z hz
      obtain ⟨r, y, e1, e2, e3⟩ := hIdxA_run (P := P) (t := t) (hz ▸ E t) (F.eval x) (F.eval i) H
      exact wp_value (v := r) (w' := w) (by simp [execOp, ho, e1 w]) (hn _ _ (leaves_same R e2 e3))
    · obtain ⟨r, y, e1, e2, e3⟩ := hIdx_run (P := P) (E t) H.1 (F.eval x) (F.eval i) H.2
      exact wp_value (v := r) (w' := w) (by simp [execOp, ho, e1 w]) (hn _ _ (leaves_same R e2 e3))
  · rename_i t p ho
    split at H
    · rename_i zs hz
      obtain ⟨ha, i, hi, hs⟩ := agg_rcd (P := P) (t := t) (hz ▸ E t)
      obtain ⟨r, y, e1, e2, e3⟩ := hLoadA_run (dm := dm) (P := P) R ha hi hs (F.eval p) H
      exact wp_value (v := r) (w' := w) (by simp [execOp, ho, e1 w (Lat.refl (dm := dm) _ w)]) (hn _ _ (leaves_same R e2 e3))
    · rename_i m z hz
      obtain ⟨ha, i, hi, hs⟩ := agg_arr (P := P) (t := t) (hz ▸ E t)
      obtain ⟨r, y, e1, e2, e3⟩ := hLoadA_run (dm := dm) (P := P) R ha hi hs (F.eval p) H
      exact wp_value (v := r) (w' := w) (by simp [execOp, ho, e1 w (Lat.refl (dm := dm) _ w)]) (hn _ _ (leaves_same R e2 e3))
    · obtain ⟨r, y, e1, e2, e3⟩ := hLoad_run (dm := dm) (P := P) R (Kd.ok_one (E t) H.1) (F.eval p) H.2
      exact wp_value (v := r) (w' := w) (by simp [execOp, ho, e1 w (Lat.refl (dm := dm) _ w)]) (hn _ _ (leaves_same R e2 e3))
  · rename_i t ho
    split at H
    · rename_i so hz
      obtain ⟨w', r, e1, e2⟩ := hMakeMap_run (P := P) R t so H
      exact wp_value (v := r) (w' := w') (by simp [execOp, ho, e1]) (hn _ _ e2)
    · exact H.elim
  · rename_i t x i ho
    split at H
    · rename_i so hz
      obtain ⟨r, e1, e2⟩ := hLook_run (dm := dm) (P := P) R (t := t) (hz ▸ E t) (F.eval x) (F.eval i) H
      exact wp_value (v := r) (w' := w) (by simp [execOp, ho, e1 w (Lat.refl (dm := dm) _ w)]) (hn _ _ (leaves_same R (x := .s (.pl r)) rfl e2))
    · exact H.elim
  · rename_i t m k v ho
    split at H
    · rename_i so hz
      obtain ⟨w', e1, e2⟩ := hSet_run (P := P) R (t := t) (hz ▸ E t) (F.eval m) (F.eval k) (F.eval v) H
      exact wp_skips (w' := w') (by simp [execOp, ho, e1]) (hn _ _ e2)
    · exact H.elim
  · rename_i t m k v ho
    split at H
    · rename_i so hz
      obtain ⟨w', e1, e2⟩ := hSet_run (P := P) R (t := t) (hz ▸ E t) (F.eval m) (F.eval k) (F.eval v) H
      exact wp_skips (w' := w') (by simp [execOp, ho, e1]) (hn _ _ e2)
    · exact H.elim
  · rename_i t p v ho
    split at H
    · rename_i zs hz
      obtain ⟨_, i, hi, hs⟩ := agg_rcd (P := P) (t := t) (hz ▸ E t)
      obtain ⟨w', e1, e2⟩ := hStoreA_run (P := P) R hi hs (F.eval p) (F.eval v) H
      exact wp_skips (w' := w') (by simp [execOp, ho, e1]) (hn _ _ e2)
    · rename_i m z hz
      obtain ⟨_, i, hi, hs⟩ := agg_arr (P := P) (t := t) (hz ▸ E t)
      obtain ⟨w', e1, e2⟩ := hStoreA_run (P := P) R hi hs (F.eval p) (F.eval v) H
      exact wp_skips (w' := w') (by simp [execOp, ho, e1]) (hn _ _ e2)
    · obtain ⟨w', e1, e2⟩ := hStore_run (P := P) R (Kd.ok_one (E t) H.1) (F.eval p) (F.eval v) H.2
      exact wp_skips (w' := w') (by simp [execOp, ho, e1]) (hn _ _ e2)
  · rename_i t ho
    split at H
    · rename_i m z hz
      obtain ⟨w', r, e1, e2⟩ := hNewP_run (P := P) R (t := t) (hz ▸ E t) H
      exact wp_value (v := r) (w' := w') (by simp [execOp, ho, e1]) (hn _ _ e2)
    · split at H
      · rename_i zs hz
        obtain ⟨i, z, hi, hzz, hc⟩ := zeros_ok (E t) hz
        obtain ⟨w', r, e1, e2⟩ := hNew_run (P := P) R hi hzz hc H
        exact wp_value (v := r) (w' := w') (by simp [execOp, ho, e1]) (hn _ _ e2)
      · exact H.elim
  · rename_i t x lo hi ho
    split at H
    · rename_i m z hz
      by_cases hm : m ≤ 4096
      · obtain ⟨r, y, e1, e2, e3⟩ := hSliceA_run (P := P) hm (t := t) (hz ▸ E t) (F.eval x) (optEval F lo) (optEval F hi) H
        exact wp_value (v := r) (w' := w) (by simp [execOp, ho, e1 w]) (hn _ _ (leaves_same R e2 e3))
      · exact absurd H.small hm
    · rename_i hz
      obtain ⟨r, e1, e2⟩ := hSub_run (P := P) (t := t) (hz ▸ E t) (F.eval x) (optEval F lo) (optEval F hi) H
      exact wp_value (v := r) (w' := w) (by simp [execOp, ho, e1 w]) (hn _ _ (leaves_same R (x := .s (.pl r)) rfl e2))
    · obtain ⟨r, y, e1, e2, e3⟩ := hSlice_run (P := P) R (E t) H.1 (F.eval x) (optEval F lo) (optEval F hi) H.2
      exact wp_value (v := r) (w' := w) (by simp [execOp, ho, e1 w]) (hn _ _ (leaves_same R e2 e3))
  · rename_i t x lo hi mx ho
    obtain ⟨r, e1, e2⟩ := hSlice3_run (P := P) (E t) H.1 (F.eval x) (F.eval lo) (F.eval hi) (F.eval mx) H.2
    exact wp_value (v := r) (w' := w) (by simp [execOp, ho, e1 w]) (hn _ _ (leaves_same R (x := .dead) trivial e2))
  · rename_i t l c ho
    split at H
    · rename_i z hz
      obtain ⟨w', r, e1, _, e2⟩ := hMake_run (P := P) R (t := t) (hz ▸ E t) (F.eval l) (F.eval c) H
      exact wp_value (v := r) (w' := w') (by simp [execOp, ho, e1]) (hn _ _ e2)
    · exact H.elim
  · rename_i t len parts ho
    split at H
    · rename_i z hz
      obtain ⟨w', r, e1, _, e2⟩ := hLit_run (P := P) R F (t := t) (hz ▸ E t) H
      exact wp_value (v := r) (w' := w') (by simp only [execOp, ho, Sem.run_bind, e1, Result.andThen_ok, Sem.run_pure]) (hn _ _ e2)
    · rename_i zs hz
      obtain ⟨w', r, e1, _, e2⟩ := hLitW_run (P := P) R F (t := t) (hz ▸ E t) H.small H
      exact wp_value (v := r) (w' := w') (by simp only [execOp, ho, Sem.run_bind, e1, Result.andThen_ok, Sem.run_pure]) (hn _ _ e2)
    · exact H.elim
  · rename_i t x ho
    split at H
    · rename_i xs hx
      have rx := F.eval x
      rw [hx] at rx
      split at H
      · obtain ⟨w', r, e1, e2⟩ := hBoxP_run (P := P) R t rx H
        exact wp_value (v := r) (w' := w') (by simp [execOp, ho, e1]) (hn _ _ e2)
      · obtain ⟨w', r, e1, e2⟩ := hBoxA_run (P := P) R t rx H
        exact wp_value (v := r) (w' := w') (by simp [execOp, ho, e1]) (hn _ _ e2)
    · obtain ⟨w', r, e1, e2⟩ := hBox_run (P := P) R t (F.eval x) H.2
      exact wp_value (v := r) (w' := w') (by simp [execOp, ho, e1]) (hn _ _ e2)
  · rename_i t parts ho
    split at H
    · rename_i zs hz
      obtain ⟨r, y, e1, e2, e3⟩ := hRec_run (P := P) F (t := t) (hz ▸ E t) H
      exact wp_value (v := r) (w' := w) (by simp only [execOp, ho, Sem.run_bind, e1 w, Result.andThen_ok, Sem.run_pure]) (hn _ _ (leaves_same R e2 e3))
    · rename_i m z hz
      obtain ⟨r, y, e1, e2, e3⟩ := hArr_run (P := P) F (t := t) (hz ▸ E t) H
      exact wp_value (v := r) (w' := w) (by simp only [execOp, ho, Sem.run_bind, e1 w, Result.andThen_ok, Sem.run_pure]) (hn _ _ (leaves_same R e2 e3))
    · exact H.elim
  · rename_i s x f ho
    split at H
    · rename_i zs hz
      obtain ⟨r, y, e1, e2, e3⟩ := hField_run (P := P) (t := s) (hz ▸ E s) (F.eval x) H
      exact wp_value (v := r) (w' := w) (by simp [execOp, ho, e1 w]) (hn _ _ (leaves_same R e2 e3))
    · exact H.elim
  · rename_i s x f ho
    split at H
    · rename_i zs hz
      obtain ⟨r, y, e1, e2, e3⟩ := hPart_run (P := P) (t := s) (hz ▸ E s) (F.eval x) H
      exact wp_value (v := r) (w' := w) (by simp [execOp, ho, e1 w]) (hn _ _ (leaves_same R e2 e3))
    · exact H.elim
  · rename_i x ho
    obtain ⟨e1, e2⟩ := hCheck_run ho (F.eval x) H
    exact wp_value (v := a.eval x) (w' := w) (e1 P w) (hn _ _ (leaves_same R (F.eval x) e2))
  · rename_i s t x ho
    split at H
    · rename_i k hk
      split at H
      · rename_i k' hk'
        obtain ⟨r, e1, e2⟩ := hConv_run (P := P) (hk' ▸ E s) (hk ▸ E t) (F.eval x) H
        exact wp_value (v := r) (w' := w) (by simp [execOp, ho, e1 w]) (hn _ _ (leaves_same R (x := .s (.pl r)) rfl e2))
      · exact H.elim
    · obtain ⟨r, e1, e2⟩ := hText_run (P := P) R (F.eval x) H
      exact wp_value (v := r) (w' := w) (by simp [execOp, ho, e1]) (hn _ _ (leaves_same R (x := .s (.pl r)) rfl e2))
    · exact H.elim
  · rename_i t x i ho
    split at H
    · rename_i hk
      obtain ⟨r, e1, e2⟩ := hByte_run (P := P) (hk ▸ E t) (F.eval x) (F.eval i) H
      exact wp_value (v := r) (w' := w) (by simp [execOp, ho, e1 w]) (hn _ _ (leaves_same R (x := .s (.pl r)) rfl e2))
    · rename_i m z hk
      obtain ⟨r, y, e1, e2, e3⟩ := hAt_run (P := P) (t := t) (hk ▸ E t) (F.eval x) (F.eval i) H
      exact wp_value (v := r) (w' := w) (by simp [execOp, ho, e1 w]) (hn _ _ (leaves_same R e2 e3))
    · exact H.elim
  · rename_i x i ho
    split at H
    · rename_i xs hx
      split at H
      · rename_i c hc
        have r := F.eval x
        rw [hx] at r
        obtain ⟨vs, ev, r⟩ := r
        obtain ⟨v, e1, e2⟩ := r.get i c hc
        exact wp_value (v := v) (w' := w) (by
          have : vs[i]? = some v := by simpa using e1
          simp [execOp, ho, ev, Instr.extract, this]) (hn _ _ (leaves_same R (x := .s c) e2 H))
      · exact H.elim
    · exact H.elim
  · rename_i f first caps ho
    split at H
    · rename_i cs h1 h2
      have r : repL φ cs (caps.map a.eval).toList := by
        rw [Array.toList_map]
        exact atoms_rep h2 (evals F _)
      have hf : first = #[] := by simpa using h1
      subst hf
      exact wp_value (v := .func (.func f) #[] (caps.map a.eval)) (w' := w) (by simp [execOp, ho, Instr.makeFunc]) (hn _ _ (leaves_same R (x := .fn f cs) ⟨_, rfl, r⟩ H))
    · exact H.elim
  · rename_i c ho
    exact hCall_sound E ho R F H hn
  · exact H.elim

theorem guard_rep {φ : Plan} {fr : Fr} {a : Act} (F : FrRep φ n fr a) (ops : Array Oper) (o : Oper) (j : Nat) (wt : Bool) (hg : o.guard = some (j, wt)) {A C : Prop} (H : hGuard (guardOf ops.toList fr j) wt A C) :
    (Region.wanted o (yielded ops a.tmps) = true ∧ A) ∨ (Region.wanted o (yielded ops a.tmps) = false ∧ C) := by
  unfold guardOf at H
  split at H
  · rename_i oj ho
    have hj : ops[j]? = some oj := by simpa using ho
    split at H
    · rename_i d hd
      by_cases h : d < n
      · have r := F.has d h
        have hs : d < a.tmps.size := by rw [F.size]; exact h
        have hget : a.tmps[d]? = some (a.tmps.getD d undef) := by
          simp only [Array.getD_eq_getD_getElem?, Array.getElem?_eq_getElem hs, Option.getD_some]
        generalize a.tmps.getD d undef = v at r hget
        unfold hGuard at H
        split at H
        · rename_i b heq
          rw [heq] at r
          have hv := rep0_pl r
          subst hv
          have hy : yielded ops a.tmps j = some b := by simp [yielded, hj, hd, hget]
          cases wt <;> cases b <;> simp only at H
          · exact Or.inl ⟨by simp [Region.wanted, hg, hy], H.out.2 rfl⟩
          · exact Or.inr ⟨by simp [Region.wanted, hg, hy], H.out.1 rfl⟩
          · exact Or.inr ⟨by simp [Region.wanted, hg, hy], H.out.2 rfl⟩
          · exact Or.inl ⟨by simp [Region.wanted, hg, hy], H.out.1 rfl⟩
        · rename_i heq
          rw [heq] at r
          obtain ⟨vs, rfl, _⟩ := r
          exact Or.inr ⟨by simp [Region.wanted, hg, yielded, hj, hd, hget], H⟩
        · exact H.elim
      · rw [F.out d (Nat.le_of_not_lt h)] at H
        exact H.elim
    · exact H.elim
  · exact H.elim

theorem outside {o : Oper} {rest : List Oper} {fr fr' fr2 : Fr} (h1 : ∀ t, o.dst ≠ some t → fr' t = fr t) (h2 : ∀ t, t ∉ rest.filterMap (·.dst) → fr2 t = fr' t) : ∀ t, t ∉ (o :: rest).filterMap (·.dst) → fr2 t = fr t := by
  intro t ht
  rw [List.filterMap_cons] at ht
  cases hd : o.dst with
  | none =>
    rw [hd] at ht
    exact (h2 t ht).trans (h1 t (by rw [hd]; simp))
  | some d =>
    rw [hd] at ht
    simp only [List.mem_cons, not_or] at ht
    exact (h2 t ht.2).trans (h1 t (by rw [hd]; simp; exact fun e => ht.1 e.symm))

theorem hOps_sound (E : ∀ t, (kd t).ok P t) (ops : Array Oper) : ∀ (l : List Oper) {Qh : Fr → Heap → Prop} {fr : Fr} {a : Act} {h : Heap} {φ : Plan} {w : World} {B0 : Nat}, Rep B0 φ h w → FrRep φ n fr a → hOps dm P kd n ops.toList l Qh fr h →
    ∀ {Q : Exit → Act → World → Prop}, (∀ fr' a' h' φ' w', Qh fr' h' → Sub φ φ' → Rep B0 φ' h' w' → FrRep φ' n fr' a' → Lat dm B0 w w' → (∀ t, t ∉ l.filterMap (·.dst) → fr' t = fr t) → Q .normal a' w') → wpList P ops Q l a w
  | [], Qh, fr, a, h, φ, w, B0, R, F, H, Q, hQ => wpList_nil (hQ fr a h φ w H (Sub.refl φ) R F (Lat.refl B0 w) (fun _ _ => rfl))
  | o :: rest, Qh, fr, a, h, φ, w, B0, R, F, H, Q, hQ => by
    have go : ∀ (K : Act → World → Prop), (∀ a w, wpList P ops Q rest a w → K a w) → hOp dm P kd o.op (hEval fr) h (fun v h' => put n fr o.dst v fun fr' => hOps dm P kd n ops.toList rest Qh fr' h') → o.wp P a w K Q := by
      intro K hK H1
      refine hOp_sound E R F H1 (fun v w' ⟨x, h', φ', g1, g2, g3, g4, g5⟩ => hK _ _ ?_)
      obtain ⟨fr', k1, k2, k3⟩ := put_elim g1
      exact hOps_sound E ops rest g3 (k2 φ' a v (F.mono g2) g4) k1 (fun fr2 a2 h2 φ2 w2 q s r f b u => hQ fr2 a2 h2 φ2 w2 q (g2.trans s) r f (g5.trans b) (outside k3 u))
    have skip : ∀ (K : Act → World → Prop), (∀ a w, wpList P ops Q rest a w → K a w) → (put n fr o.dst (.tup []) fun fr' => hOps dm P kd n ops.toList rest Qh fr' h) → K (a.put o.dst undef) w := by
      intro K hK H1
      obtain ⟨fr', k1, k2, k3⟩ := put_elim H1
      exact hK _ _ (hOps_sound E ops rest R (k2 φ a undef F ⟨#[], rfl, trivial⟩) k1 (fun fr2 a2 h2 φ2 w2 q s r f b u => hQ fr2 a2 h2 φ2 w2 q s r f b (outside k3 u)))
    refine wpList_step fun K hK => ?_
    rw [hOps_cons] at H
    split at H
    · rename_i hg
      simp only [Region.wanted, hg, if_true]
      exact go K hK H
    · rename_i j wt hg
      rcases guard_rep F ops o j wt hg H with ⟨hw, H⟩ | ⟨hw, H⟩
      · rw [hw]
        exact go K hK H
      · rw [hw]
        exact skip K hK H

end
end Go.Proofs.Ytjgnnjegaedinaa.Hx
