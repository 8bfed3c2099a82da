
/-
  The calculus of rows is sound, part 3b: literals of elements of several cells, and append of such.
-/
import Derived.Test.YtecfgbjddkpkcaaHe
namespace Go.Proofs.Ytecfgbjddkpkcaa.Hx
open Go.RowKit
variable {dm : Bool}

section
variable {P : Program} {w : World}

theorem foldl_set (o : Nat) : ∀ (vs : List Value) (j0 : Nat) (cells : Array Value), o + j0 + vs.length ≤ cells.size →
    ∃ out, (vs.zipIdx j0).foldl (fun cs (c, j) => cs.setIfInBounds (o + j) c) cells = out ∧ out.size = cells.size ∧ (∀ j, j < o + j0 → out[j]? = cells[j]?) ∧ (∀ j v, vs[j]? = some v → out[o + j0 + j]? = some v)
  | [], j0, cells, _ => ⟨cells, rfl, rfl, fun _ _ => rfl, fun j v h => by simp at h⟩
  | v :: vs, j0, cells, hl => by
    simp only [List.length_cons] at hl
    obtain ⟨out, e1, e2, e3, e4⟩ := foldl_set o vs (j0 + 1) (cells.setIfInBounds (o + j0) v) (by simp; omega)
    refine ⟨out, by simpa [List.zipIdx_cons] using e1, by simpa using e2, fun j hj => ?_, fun j u hu => ?_⟩
    · rw [e3 j (by omega), Array.getElem?_setIfInBounds_ne (by omega)]
    · cases j with
      | zero =>
        simp at hu
        subst hu
        rw [Nat.add_zero, e3 _ (by omega)]
        exact Array.getElem?_setIfInBounds_self_of_lt (by omega)
      | succ j =>
        have := e4 j u (by simpa using hu)
        rw [← this]
        congr 1
        omega

theorem fill_step {place : Nat → Option (Nat × Nat)} {cells : Array Value} {i : Nat} {v : Value} {rest : List (Nat × Value)} {off size : Nat} (hp : place i = some (off, size)) (h1 : v.cells.size = size) (h2 : off + v.cells.size ≤ cells.size) :
    Instr.fill place cells ((i, v) :: rest) = Instr.fill place (v.cells.zipIdx.foldl (fun cs (c, j) => cs.setIfInBounds (off + j) c) cells) rest := by
  rw [Instr.fill, hp]
  simp only
  rw [if_neg (by simp [h1]; omega)]

theorem fill_wide (n : Nat) : ∀ (vss : List (List Value)) (k : Nat) (cells : Array Value), (∀ vs ∈ vss, vs.length = n) → n * (k + vss.length) ≤ cells.size →
    ∃ out, Instr.fill (fun i => some (i * n, n)) cells ((List.range' k vss.length).zip (vss.map fun vs => Value.agg vs.toArray)) = some out ∧ out.size = cells.size ∧ (∀ j, j < n * k → out[j]? = cells[j]?) ∧ (∀ j v, vss.flatten[j]? = some v → out[n * k + j]? = some v)
  | [], k, cells, _, _ => ⟨cells, by simp [Instr.fill], rfl, fun _ _ => rfl, fun j v h => by simp at h⟩
  | vs :: vss, k, cells, h1, hl => by
    have hv := h1 vs (by simp)
    simp only [List.length_cons] at hl
    have e0 : n * (k + (vss.length + 1)) = n * k + n + n * vss.length := by
      rw [Nat.mul_add, Nat.mul_add, Nat.mul_one]
      omega
    have e1 : n * (k + 1 + vss.length) = n * k + n + n * vss.length := by
      rw [Nat.mul_add, Nat.mul_add, Nat.mul_one]
    have e2 : n * (k + 1) = n * k + n := by rw [Nat.mul_add, Nat.mul_one]
    obtain ⟨mid, m1, m2, m3, m4⟩ := foldl_set (k * n) vs 0 cells (by rw [Nat.mul_comm k n]; omega)
    obtain ⟨out, q1, q2, q3, q4⟩ := fill_wide n vss (k + 1) mid (fun u hu => h1 u (by simp [hu])) (by rw [m2]; omega)
    refine ⟨out, ?_, by omega, fun j hj => ?_, fun j u hu => ?_⟩
    · simp only [List.length_cons, List.range'_succ, List.map_cons, List.zip_cons_cons]
      rw [fill_step (off := k * n) (size := n) rfl (by simp [Value.cells, hv]) (by simp [Value.cells, hv]; rw [Nat.mul_comm k n]; omega)]
      have : ((Value.agg vs.toArray).cells.zipIdx.foldl (fun cs (c, j) => cs.setIfInBounds (k * n + j) c) cells) = mid := by
        rw [← m1, ← Array.foldl_toList]
        simp [Value.cells]
      rw [this]
      exact q1
    · rw [q3 j (by omega), m3 j (by rw [Nat.mul_comm k n]; omega)]
    · rw [List.flatten_cons] at hu
      by_cases hj : j < n
      · rw [List.getElem?_append_left (by omega)] at hu
        rw [q3 _ (by omega)]
        have := m4 j u hu
        rw [Nat.add_zero, Nat.mul_comm k n] at this
        exact this
      · rw [List.getElem?_append_right (by omega), hv] at hu
        have := q4 (j - n) u hu
        rw [← this]
        congr 1
        omega

theorem partsW_rep {φ : Plan} {n : Nat} {fr : Fr} {a : Act} (F : FrRep φ n fr a) : ∀ (l : List (Nat × Operand)) (k : Nat) (xs : List (List H0)), partsW (hEval fr) k l = some xs →
    ∃ vss : List (List Value), repL φ xs.flatten vss.flatten ∧ vss.length = xs.length ∧ (∀ (m : Nat), (∀ c ∈ xs, c.length = m) → ∀ vs ∈ vss, vs.length = m) ∧ l.map (fun p => (p.1, a.eval p.2)) = (List.range' k vss.length).zip (vss.map fun vs => Value.agg vs.toArray)
  | [], k, xs, h => by simp [partsW_nil] at h; subst h; exact ⟨[], trivial, rfl, fun _ _ vs hv => by simp at hv, rfl⟩
  | (i, x) :: rest, k, xs, h => by
    rw [partsW_cons] at h
    by_cases hi : i = k
    · rw [if_pos hi] at h
      subst hi
      split at h
      · rename_i c cs he hp
        cases h
        obtain ⟨vss, e1, e2, e3, e4⟩ := partsW_rep F rest (i + 1) cs hp
        have r := F.eval x
        rw [he] at r
        obtain ⟨vs, hv, hr⟩ := r
        refine ⟨vs.toList :: vss, ?_, by simp [e2], fun m hm u hu => ?_, ?_⟩
        · rw [List.flatten_cons, List.flatten_cons]
          exact hr.append e1
        · rcases List.mem_cons.1 hu with rfl | hu
          · rw [← hr.length]
            exact hm c (by simp)
          · exact e3 m (fun d hd => hm d (by simp [hd])) u hu
        · simp [List.range'_succ, e4, hv]
      · cases h
    · rw [if_neg hi] at h; cases h

theorem repL.oneF {φ : Plan} {cs : List H0} {vs : List Value} (h : repL φ cs vs) (k : ∀ c ∈ cs, c.one = true) : ∀ u ∈ vs, u.oneCell' = true := h.one k

theorem flatW_len {n : Nat} : ∀ {xs : List (List H0)}, (∀ c ∈ xs, c.length = n) → xs.flatten.length = n * xs.length
  | [], _ => by simp
  | c :: xs, h => by
    rw [List.flatten_cons, List.length_append, h c (by simp), flatW_len (fun d hd => h d (by simp [hd])), List.length_cons, Nat.mul_add, Nat.mul_one]
    omega

/-- A new row of elements of several cells. -/
theorem new_rowW {B0 : Nat} {φ : Plan} {h : Heap} (R : Rep B0 φ h w) (k : Nat) (cur : Array Value) (e : TypeId) (cs : List H0) (hl : cs.length ≤ cur.size)
    (hc : ∀ (k : Nat) (c : H0), cs[k]? = some c → ∃ v, cur[k]? = some v ∧ rep0 φ c v) {n m : Nat} (hn : n ≤ m) (hk : k * m = cur.size) (hm : m ≤ maxLen) {K : HV → Heap → Prop} (hK : K (.s (.sw k h.length 0 n)) (h ++ [.own cs])) :
    Leaves dm B0 φ w (w.alloc (.cells cur e)) (.slice (some ⟨w.heap.size, 0, none⟩) n m) K := by
  refine ⟨_, _, φ ++ [⟨w.heap.size, 0, cur.size⟩], hK, Sub.push _ _, R.push cur e cs hl hc, ⟨⟨w.heap.size, 0, cur.size⟩, _, _, ?_, rfl, hn, hm, by simp [hk], fun _ => rfl⟩, below_still R _⟩
  rw [← R.len, List.getElem?_append_right (Nat.le_refl _)]
  simp

theorem hLitW_run {B0 : Nat} {φ : Plan} {h : Heap} (R : Rep B0 φ h w) {n : Nat} {fr : Fr} {a : Act} (F : FrRep φ n fr a) {t : TypeId} {zs : List Value} (hd : (Kd.slw zs).ok P t) (hsmall : zs.length ≤ 4096) {len : Nat} {parts : Array (Nat × Operand)} {K : HV → Heap → Prop}
    (H : HLitW zs.length len (partsW (hEval fr) 0 parts.toList) h K) : ∃ w' r, (Instr.buildSlice t len (parts.map fun (i, x) => (i, a.eval x))).run P w = .ok r w' ∧ Lat dm w.heap.size w w' ∧ Leaves dm B0 φ w w' r K := by
  obtain ⟨xs, hp, hl, hn, h1x, hK⟩ := H.out
  obtain ⟨vss, r1, r2, r3, r4⟩ := partsW_rep F _ _ _ hp
  have hlen := r1.length
  obtain ⟨⟨e, i, h1, h2, h3, h4, h5, h6, h7⟩, _⟩ := hd
  have hvs := r3 zs.length (fun c hc => (h1x c hc).1)
  have hfl := flatW_len (n := zs.length) (fun c hc => (h1x c hc).1)
  have hbig : len * zs.length ≤ 16777216 := by
    have : len * zs.length ≤ 4096 * 4096 := Nat.mul_le_mul hn hsmall
    omega
  obtain ⟨out, e1, e2, _, e4⟩ := fill_wide zs.length vss 0 ((Array.range (len * zs.length)).map fun x => (if len * zs.length = 0 then (#[] : Array Value) else zs.toArray)[x % (if len * zs.length = 0 then (#[] : Array Value) else zs.toArray).size]!) hvs (by simp; rw [r2, hl, Nat.mul_comm]; exact Nat.le_refl _)
  have hpl : (parts.map fun (i, x) => (i, a.eval x)).toList = (List.range' 0 vss.length).zip (vss.map fun vs => Value.agg vs.toArray) := by
    rw [← r4]
    simp
  have hsz : out.size = len * zs.length := by rw [e2]; simp
  refine ⟨w.alloc (.cells out e), .slice (some ⟨w.heap.size, 0, none⟩) len len, ?_, (Lat.refl _ w).alloc (Nat.le_refl _) _, ?_⟩
  · simp only [Instr.buildSlice, Sem.run_bind, run_underlying h1, Result.andThen_ok, sizeOf, typeInfo, run_program, h2, h3, Sem.run_pure, hpl]
    by_cases h0 : len * zs.length = 0
    · have hl0 : len = 0 := by
        rcases Nat.mul_eq_zero.1 h0 with h | h
        · exact h
        · omega
      subst hl0
      have hv0 : vss = [] := List.eq_nil_of_length_eq_zero (by omega)
      subst hv0
      have ho : out = #[] := Array.eq_empty_of_size_eq_zero (by omega)
      subst ho
      have hr : (Array.map (fun _ => (default : Value)) (Array.range 0)) = #[] := Array.eq_empty_of_size_eq_zero (by simp)
      simp [Instr.fill, newRow, hr]
    · rw [if_neg h0] at e1
      simp [h0, show ¬ 16777216 < len * zs.length by omega, zeroValue, typeInfo, h2, h4, Value.cells] at e1 ⊢
      rw [e1]
      simp [newRow]
  · refine new_rowW (dm := dm) R zs.length out e xs.flatten (by rw [hfl, hsz, hl, Nat.mul_comm]; exact Nat.le_refl _) (fun k c hk => ?_) (Nat.le_refl len) (by rw [hsz, Nat.mul_comm]) (by unfold maxLen; omega) hK
    obtain ⟨v, g1, g2⟩ := r1.get k c hk
    exact ⟨v, by have := e4 k v g1; simpa using this, g2⟩

/-- What a slice of elements of several cells reads. -/
theorem ShowsW.read {B0 : Nat} {φ : Plan} {h : Heap} (R : Rep B0 φ h w) {k : Nat} {x : HV} {m : Nat} {new : List H0} (H : ShowsW k h x m new) {u : Value} (hm : 0 < m) (hx : repV φ x u) :
    new.length = k * m ∧ ∃ (a : Addr) (c : Nat) (vs : List Value), u = .slice (some a) m c ∧ repL φ new vs ∧ ∀ j v, vs[j]? = some v → w.cell? (a.add j) = some v := by
  have main : ∀ (r off len : Nat) (y : Row) (cs : List H0), 0 < len → h[r]? = some y → y.cells? = some cs → off + k * len ≤ cs.length → repV φ (.s (.sw k r off len)) u →
      ((cs.drop off).take (k * len)).length = k * len ∧ ∃ (a : Addr) (c : Nat) (vs : List Value), u = .slice (some a) len c ∧ repL φ ((cs.drop off).take (k * len)) vs ∧ ∀ j v, vs[j]? = some v → w.cell? (a.add j) = some v := by
    intro r off len y cs h0 hr hc hl hx
    obtain ⟨p, a, cap, hp, rfl, h1, h2, _, h3⟩ := hx
    obtain rfl := h3 (by omega)
    obtain ⟨vs, e1, e2⟩ := concrete (φ := φ) (p := fun j v => w.cell? ⟨p.b, p.o + (off + j), none⟩ = some v) (cs := (cs.drop off).take (k * len)) (k0 := 0) (fun j c hj => by
      have hk2 : j < k * len := by have := (List.getElem?_eq_some_iff.1 hj).1; simp at this; omega
      rw [List.getElem?_take_of_lt hk2, List.getElem?_drop] at hj
      obtain ⟨v, e1, e2⟩ := R.cell hr hc hj hp
      exact ⟨v, by simpa using e1, e2⟩)
    refine ⟨by simp; omega, _, _, vs, rfl, e1, fun j v hj => ?_⟩
    have := e2 j v hj
    rw [addr_add, Nat.add_assoc]
    simpa using this
  cases H with
  | nils a c => omega
  | ro r off len cs hr hl => exact main r off m _ cs hm hr rfl hl hx
  | own r off len cs hr hl => exact main r off m _ cs hm hr rfl hl hx

theorem run_appw_room {t ty e : TypeId} {i : TypeInfo} (ht : P.underlying t = some (.slice e)) (hi : P.info? e = some i) {k : Nat} (hs : i.size = k)
    (g n c : Nat) (cur : Array Value) (e' : TypeId) (hg : w.heap[g]? = some (.cells cur e' (0, 0))) (a : Addr) (m xc : Nat) (news : List Value) (hl : news.length = m * k)
    (hnews : ∀ j u, news[j]? = some u → w.cell? (a.add j) = some u) (h1 : ∀ u ∈ news, u.oneCell' = true) (hroom : n + m ≤ c) (hfit : n * k + m * k ≤ cur.size) :
    (Builtin.append_ #[t, t] ty #[.slice (some ⟨g, 0, none⟩) n c, .slice (some a) m xc]).run P w =
      .ok (.slice (some ⟨g, 0, none⟩) (n + m) c) (w.setRow g (cur.toList.take (n * k) ++ news ++ cur.toList.drop (n * k + m * k)).toArray) := by
  have hf := run_firstCells_some (P := P) w i.size m a m xc news (by rw [hl, hs]) hnews
  have hst := run_storeCells_at P g (n * k) e' news 0 cur w hg (by rw [hl]; omega) h1
  simp only [Nat.add_zero, hl] at hst
  rw [hs] at hf
  simp [Builtin.append_, run_underlying ht, sizeOf, typeInfo, hi, hs, Builtin.lenOf, hroom, hf, rec_add, hst]

theorem size_zeroK (zs : List Value) (n : Nat) : (Builtin.zeroCells zs.toArray n).size = n * zs.length := by simp [Builtin.zeroCells]

theorem hAppW_run {B0 : Nat} {φ : Plan} {h : Heap} (R : Rep B0 φ h w) {t ty : TypeId} {zs : List Value} (hd : (Kd.slw zs).ok P t) {x y : HV} {u v : Value} (hx : repV φ x u) (hy : repV φ y v) {K : HV → Heap → Prop} (H : HAppW zs.length h x y K) :
    ∃ w' r, (Builtin.append_ #[t, t] ty #[u, v]).run P w = .ok r w' ∧ Leaves dm B0 φ w w' r K := by
  obtain ⟨⟨e, i, h1, h2, h3, h4, h5, h6, h7⟩, _⟩ := hd
  obtain ⟨m, new, r, len, cs, hsh, hm, hone, rfl, hr, hlen, hsum, hK⟩ := H.out
  obtain ⟨hnl, xa, xc, news, rfl, hn, hcells⟩ := hsh.read R hm hy
  obtain ⟨p, a, cap, hp, rfl, g1, g2, g4, g3⟩ := hx
  obtain ⟨q1, q2, q3, cur, e', q4, q5, q6⟩ := R.own r cs p hr hp
  have hln := hn.length
  generalize hkk : zs.length = k at *
  have hmul : ∀ a b : Nat, k * (a + b) = k * a + k * b := fun a b => Nat.mul_add k a b
  by_cases hroom : len + m ≤ cap
  · obtain rfl := g3 (by omega)
    have hfit : k * len + k * m ≤ p.n := by
      have : k * (len + m) ≤ k * cap := Nat.mul_le_mul_left k hroom
      rw [hmul] at this
      omega
    have hrun := run_appw_room (P := P) (w := w) (ty := ty) h1 h2 h3 p.b len cap cur e' q4 xa m xc news (by rw [← hln, hnl, Nat.mul_comm]) hcells (hn.one hone) hroom (by rw [Nat.mul_comm len, Nat.mul_comm m]; omega)
    have e0 : (⟨p.b, p.o + 0, none⟩ : Addr) = ⟨p.b, 0, none⟩ := by rw [q1]
    rw [e0]
    refine ⟨_, _, hrun, ?_⟩
    rw [Nat.mul_comm len, Nat.mul_comm m]
    have hlc : k * len ≤ cur.size := by omega
    have ht : (cur.toList.take (k * len)).length = k * len := by simp; omega
    have ht' : (cs.take (k * len)).length = k * len := by simp; omega
    have R1 : Rep B0 φ (h.set r (.own (cs.take (k * len) ++ new))) (w.setRow p.b (cur.toList.take (k * len) ++ news ++ cur.toList.drop (k * len + k * m)).toArray) := by
      refine R.rewrite (e := e') hr hp (by simp) (fun k hk => setRow_other w p.b k _ hk) (setRow_heap w p.b cur _ e' _ q4) (by simp; omega) (by simp; omega) (fun j c hj => ?_)
      simp only [List.getElem?_toArray]
      by_cases hk1 : j < k * len
      · rw [List.getElem?_append_left (by omega), List.getElem?_take_of_lt hk1] at hj
        obtain ⟨v, e1, e2⟩ := q6 j c hj
        refine ⟨v, ?_, e2⟩
        rw [List.append_assoc, List.getElem?_append_left (by omega), List.getElem?_take_of_lt hk1]
        simpa using e1
      · rw [List.getElem?_append_right (by omega), ht'] at hj
        obtain ⟨v, e1, e2⟩ := hn.get _ _ hj
        refine ⟨v, ?_, e2⟩
        have hk2 : j - k * len < news.length := (List.getElem?_eq_some_iff.1 e1).1
        rw [List.append_assoc, List.getElem?_append_right (by omega), ht, List.getElem?_append_left hk2]
        exact e1
    have hrl : r < h.length := (List.getElem?_eq_some_iff.1 hr).1
    have R2 := R1.move (r := r) (cs := cs.take (k * len) ++ new) (p := p) (by rw [List.getElem?_set_self hrl]) hp
    rw [List.set_set] at R2
    refine ⟨_, _, φ ++ [p], hK, Sub.push _ _, R2, ⟨p, _, _, ?_, rfl, hroom, g2, g4, fun _ => by rw [q1]⟩, lat_setRow (Lat.refl B0 w) q2 _⟩
    rw [← R.len, List.getElem?_append_right (Nat.le_refl _)]
    simp
  · have hold : ∃ oldv : List Value, repL φ (cs.take (k * len)) oldv ∧ ∀ j u, oldv[j]? = some u → w.cell? (a.add j) = some u := by
      by_cases hc0 : cap = 0
      · have hl0 : len = 0 := by omega
        subst hl0
        exact ⟨[], by simp [repL], fun j u hj => by simp at hj⟩
      · obtain rfl := g3 hc0
        obtain ⟨vs, e1, e2⟩ := concrete (φ := φ) (p := fun j v => w.cell? ⟨p.b, p.o + j, none⟩ = some v) (cs := cs.take (k * len)) (k0 := 0) (fun j c hj => by
          have hk2 : j < k * len := by have := (List.getElem?_eq_some_iff.1 hj).1; simp at this; omega
          rw [List.getElem?_take_of_lt hk2] at hj
          obtain ⟨v, e1, e2⟩ := R.cell hr rfl hj hp
          exact ⟨v, by simpa using e1, e2⟩)
        exact ⟨vs, e1, fun j u hj => by have := e2 j u hj; rw [addr_add]; simpa using this⟩
    obtain ⟨oldv, ho, hoc⟩ := hold
    have hol := ho.length
    have htl : (cs.take (k * len)).length = k * len := by simp; omega
    have hb : (len + m) * i.bytes ≤ 140737488355328 := by
      have : (len + m) * i.bytes ≤ 2 ^ 36 * 512 := Nat.mul_le_mul hsum h5
      omega
    have hrun := run_append_grow (P := P) w t ty e i _ h1 h2 h4 a len cap oldv (by rw [h3, ← hol, htl, Nat.mul_comm]) hoc xa m xc news (by rw [h3, ← hln, hnl, Nat.mul_comm]) hcells (by omega) (by omega) (growslice_fits (by omega) hb)
    refine ⟨_, _, hrun, ?_⟩
    have hge := grownCap_ge w (len + m) cap e
    have hmx := grownCap_le_maxLen w (len + m) cap e (by unfold maxLen; omega)
    have R1 : Rep B0 φ (h.set r .gone) w.drew := (R.drop r).still (Nat.le_refl _) (fun _ _ => rfl)
    have hL := ho.append hn
    have hlL := hL.length
    simp only [List.length_append, htl, hnl] at hlL
    have hsz : (oldv.toArray ++ news.toArray ++ Builtin.zeroCells (Value.agg zs.toArray).cells (grownCap w (len + m) cap e - (len + m))).size = k * grownCap w (len + m) cap e := by
      have e1 : (Value.agg zs.toArray).cells = zs.toArray := rfl
      rw [e1]
      simp only [Array.size_append, List.size_toArray, size_zeroK]
      have e2 : k * grownCap w (len + m) cap e = k * (len + m) + k * (grownCap w (len + m) cap e - (len + m)) := by
        rw [← hmul]
        congr 1
        omega
      rw [e2, hmul, Nat.mul_comm (grownCap w (len + m) cap e - (len + m)), hkk]
      omega
    have := new_rowW (dm := dm) R1 k (oldv.toArray ++ news.toArray ++ Builtin.zeroCells (Value.agg zs.toArray).cells (grownCap w (len + m) cap e - (len + m))) e (cs.take (k * len) ++ new)
      (by
        rw [hsz]
        have : k * (len + m) ≤ k * grownCap w (len + m) cap e := Nat.mul_le_mul_left k hge
        rw [hmul] at this
        rw [List.length_append, htl, hnl]
        exact this) (fun j c hj => by
        obtain ⟨v', e1, e2⟩ := hL.get j c hj
        refine ⟨v', ?_, e2⟩
        have hk2 : j < (oldv ++ news).length := (List.getElem?_eq_some_iff.1 e1).1
        rw [Array.getElem?_append_left (by simpa using hk2)]
        simpa using e1) (n := len + m) (m := grownCap w (len + m) cap e) hge hsz.symm hmx (K := K) (by rw [List.length_set]; exact hK)
    obtain ⟨x', h', φ', g1, g2, g3, g4, g5⟩ := this
    exact ⟨x', h', φ', g1, g2, g3, g4, (Lat.refl B0 w).drew.trans g5⟩

theorem repL.rep {φ : Plan} (z : Value) : ∀ (n : Nat), repL φ (List.replicate n (.pl z)) (List.replicate n z)
  | 0 => trivial
  | n + 1 => ⟨rfl, repL.rep z n⟩

/-- An array's literal. -/
theorem hArr_run {n : Nat} {φ : Plan} {fr : Fr} {a : Act} (F : FrRep φ n fr a) {t : TypeId} {m : Nat} {z : Value} (hd : (Kd.arr m z).ok P t) {parts : Array (Nat × Operand)} {K : HV → Prop}
    (H : HRec (setParts (hEval fr) (List.replicate m (.pl z)) parts.toList) (atoms (parts.toList.map fun p => hEval fr p.2)) K) :
    ∃ (r : Value) (y : HV), (∀ w : World, (Instr.build t (parts.map fun (i, x) => (i, a.eval x))).run P w = .ok r w) ∧ repV φ y r ∧ K y := by
  obtain ⟨ys, cs, hs, hq, hone, hK⟩ := H.out
  have h1 := atoms_one parts.toList hq hone
  obtain ⟨e, i, j, g1, g2, g3, g4, g5, g6, g7, g8⟩ := hd
  obtain ⟨us, e1, e2⟩ := setParts_fill (places := fun i => some (i * j.size, j.size)) (m := m) F (fun i _ => by rw [g6, Nat.mul_one]) parts.toList (List.replicate m (.pl z)) (Array.replicate m z) ys (by simp) (by simpa using repL.rep z m) hs h1
  refine ⟨.agg us, .agg ys, fun w => ?_, ⟨us, rfl, e2⟩, hK⟩
  have hl : (parts.map fun (i, x) => (i, a.eval x)).toList = parts.toList.map fun p => (p.1, a.eval p.2) := by simp
  simp [Instr.build, zeroValue, typeInfo, g2, g4, run_underlying g1, sizeOf, g5, Value.cells, e1]

end
end Go.Proofs.Ytecfgbjddkpkcaa.Hx
