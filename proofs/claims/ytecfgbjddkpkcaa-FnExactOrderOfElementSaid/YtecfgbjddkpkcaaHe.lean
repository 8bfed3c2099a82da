
/-
  The calculus of rows is sound, part 3: append, a new variable, and each operation as the model carries it out.
-/
import Derived.Test.YtecfgbjddkpkcaaHm
import Derived.Lib.AppendZerosOnto
import Derived.Laws.Tables
import Derived.Laws.BytesString
namespace Go.Proofs.Ytecfgbjddkpkcaa.Hx
open Go.RowKit
variable {dm : Bool}

section
variable {P : Program} {w : World}

theorem run_app_zero {t ty e : TypeId} {i : TypeInfo} (ht : P.underlying t = some (.slice e)) (hi : P.info? e = some i) (base : Option Addr) (n c : Nat) (xa : Option Addr) (xc : Nat) (hnc : n ≤ c) :
    (Builtin.append_ #[t, t] ty #[.slice base n c, .slice xa 0 xc]).run P w = .ok (.slice base n c) w := by
  have hf : (Builtin.firstCells i.size 0 (.slice xa 0 xc)).run P w = .ok #[] w := by
    cases xa <;> simp [Builtin.firstCells, loadCells, loadCellsFrom]
  cases base <;> simp [Builtin.append_, run_underlying ht, sizeOf, typeInfo, hi, Builtin.lenOf, hnc, hf, storeCells]

theorem run_app_room {t ty e : TypeId} {i : TypeInfo} (ht : P.underlying t = some (.slice e)) (hi : P.info? e = some i) (hs : i.size = 1)
    (g n c : Nat) (cur : Array Value) (e' : TypeId) (hg : w.heap[g]? = some (.cells cur e' (0, 0))) (a : Addr) (m xc : Nat) (news : List Value) (hl : news.length = m)
    (hnews : ∀ j u, news[j]? = some u → w.cell? (a.add j) = some u) (h1 : ∀ u ∈ news, u.oneCell' = true) (hroom : n + m ≤ c) (hfit : n + m ≤ cur.size) :
    (Builtin.append_ #[t, t] ty #[.slice (some ⟨g, 0, none⟩) n c, .slice (some a) m xc]).run P w =
      .ok (.slice (some ⟨g, 0, none⟩) (n + m) c) (w.setRow g (cur.toList.take n ++ news ++ cur.toList.drop (n + m)).toArray) := by
  have hf := run_firstCells_some (P := P) w i.size m a m xc news (by rw [hl, hs, Nat.mul_one]) hnews
  have hst := run_storeCells_at P g n e' news 0 cur w hg (by simpa [hl] using hfit) h1
  simp only [Nat.add_zero, hl] at hst
  rw [hs] at hf
  simp [Builtin.append_, run_underlying ht, sizeOf, typeInfo, hi, hs, Builtin.lenOf, hroom, hf, Addr.add_lit, hst]

/-- Behind an append that finds room. -/
theorem app_room {B0 : Nat} {φ : Plan} {h : Heap} (R : Rep B0 φ h w) {r len : Nat} {cs new : List H0} {news : List Value} {p : Place} (hr : h[r]? = some (.own cs)) (hp : φ[r]? = some p) (hlen : len ≤ cs.length)
    {cur : Array Value} {e : TypeId} (q4 : w.heap[p.b]? = some (.cells cur e (0, 0))) (q5 : cur.size = p.n) (q6 : ∀ (k : Nat) (c : H0), cs[k]? = some c → ∃ v, cur[k]? = some v ∧ rep0 φ c v)
    (hn : repL φ new news) (hfit : len + new.length ≤ p.n) (hm : p.n ≤ maxLen) {K : HV → Heap → Prop} (hK : K (.s (.sl h.length 0 (len + new.length))) (h.set r .gone ++ [.own (cs.take len ++ new)])) :
    Leaves dm B0 φ w (w.setRow p.b (cur.toList.take len ++ news ++ cur.toList.drop (len + new.length)).toArray) (.slice (some ⟨p.b, 0, none⟩) (len + new.length) p.n) K := by
  obtain ⟨q1, q2, q3, _⟩ := R.own r cs p hr hp
  have hln := hn.length
  have hlc : len ≤ cur.size := by omega
  have ht : (cur.toList.take len).length = len := by simp; omega
  have R1 : Rep B0 φ (h.set r (.own (cs.take len ++ new))) (w.setRow p.b (cur.toList.take len ++ news ++ cur.toList.drop (len + new.length)).toArray) := by
    refine R.rewrite (e := e) hr hp (by simp) (fun k hk => setRow_other w p.b k _ hk) (setRow_heap w p.b cur _ e _ q4) (by simp; omega) (by simp; omega) (fun k c hk => ?_)
    simp only [List.getElem?_toArray]
    by_cases hk1 : k < len
    · rw [List.getElem?_append_left (by simp; omega), List.getElem?_take_of_lt hk1] at hk
      obtain ⟨v, e1, e2⟩ := q6 k c hk
      refine ⟨v, ?_, e2⟩
      rw [List.append_assoc, List.getElem?_append_left (by omega), List.getElem?_take_of_lt hk1]
      simpa using e1
    · have ht' : (cs.take len).length = len := by simp; omega
      rw [List.getElem?_append_right (by omega), ht'] at hk
      obtain ⟨v, e1, e2⟩ := hn.get _ _ hk
      refine ⟨v, ?_, e2⟩
      have hk2 : k - len < news.length := (List.getElem?_eq_some_iff.1 e1).1
      rw [List.append_assoc, List.getElem?_append_right (by omega), ht, List.getElem?_append_left hk2]
      exact e1
  have hrl : r < h.length := (List.getElem?_eq_some_iff.1 hr).1
  have R2 := R1.move (r := r) (cs := cs.take len ++ new) (p := p) (by rw [List.getElem?_set_self hrl]) hp
  rw [List.set_set] at R2
  refine ⟨_, _, φ ++ [p], hK, Sub.push _ _, R2, ⟨p, _, _, ?_, rfl, hfit, hm, by simp, fun _ => by rw [q1]⟩, ?_⟩
  · rw [← R.len, List.getElem?_append_right (Nat.le_refl _)]
    simp
  · exact lat_setRow (Lat.refl B0 w) q2 _

theorem size_zero1 (z : Value) (n : Nat) : (Builtin.zeroCells #[z] n).size = n := by simp [Builtin.zeroCells]

theorem hApp_run {B0 : Nat} {φ : Plan} {h : Heap} (R : Rep B0 φ h w) {t ty : TypeId} {d : Kd} (hd : d.ok P t) (hs : d.isSl = true) {x y : HV} {u v : Value} (hx : repV φ x u) (hy : repV φ y v) {K : HV → Heap → Prop} (H : HApp h x y K) :
    ∃ w' r, (Builtin.append_ #[t, t] ty #[u, v]).run P w = .ok r w' ∧ Leaves dm B0 φ w w' r K := by
  obtain ⟨z, rfl⟩ : ∃ z, d = .sl z := by cases d <;> simp [Kd.isSl] at hs; exact ⟨_, rfl⟩
  obtain ⟨e, i, h1, h2, h3, h4, h5, h6, h7⟩ := Kd.sl_all hd rfl
  obtain ⟨new, hsh, hone, hK⟩ := H.out
  have hread := hsh.read R hy
  have grown : ∀ (h0 : Heap) (R0 : Rep B0 φ h0 w) (olds : List H0) (news oldv : List Value) (cap : Nat), h0.length = h.length → repL φ new news → repL φ olds oldv → olds.length + new.length ≤ 2 ^ 41 →
      K (.s (.sl h.length 0 (olds.length + new.length))) (h0 ++ [.own (olds ++ new)]) →
      Leaves dm B0 φ w (w.drew.alloc (.cells (oldv.toArray ++ news.toArray ++ Builtin.zeroCells z.cells (grownCap w (olds.length + new.length) cap e - (olds.length + new.length))) e))
        (.slice (some ⟨w.heap.size, 0, none⟩) (olds.length + new.length) (grownCap w (olds.length + new.length) cap e)) K := by
    intro h0 R0 olds news oldv cap hl0 hn ho hsum hK0
    have hge := grownCap_ge w (olds.length + new.length) cap e
    have hmx := grownCap_le_maxLen w (olds.length + new.length) cap e (by unfold maxLen; omega)
    have R1 : Rep B0 φ h0 w.drew := R0.still (Nat.le_refl _) (fun _ _ => rfl)
    have hL := (ho.append hn)
    have hln := hL.length
    have hsz : (oldv.toArray ++ news.toArray ++ Builtin.zeroCells z.cells (grownCap w (olds.length + new.length) cap e - (olds.length + new.length))).size = grownCap w (olds.length + new.length) cap e := by
      rw [h6]
      simp only [Array.size_append, List.size_toArray, size_zero1]
      simp only [List.length_append] at hln
      omega
    have := new_row (dm := dm) R1 (oldv.toArray ++ news.toArray ++ Builtin.zeroCells z.cells (grownCap w (olds.length + new.length) cap e - (olds.length + new.length))) e (olds ++ new)
      (by rw [hsz]; simpa using hge) (fun k c hk => by
        obtain ⟨v', e1, e2⟩ := hL.get k c hk
        refine ⟨v', ?_, e2⟩
        have hk2 : k < (oldv ++ news).length := (List.getElem?_eq_some_iff.1 e1).1
        rw [Array.getElem?_append_left (by simpa using hk2)]
        simpa using e1) (n := olds.length + new.length) (by rw [hsz]; exact hge) (by rw [hsz]; exact hmx) (K := K) (by rw [hl0]; exact hK0)
    rw [hsz] at this
    obtain ⟨x', h', φ', g1, g2, g3, g4, g5⟩ := this
    exact ⟨x', h', φ', g1, g2, g3, g4, (Lat.refl B0 w).drew.trans g5⟩
  split at hK
  · rename_i r off len
    obtain ⟨cs, rfl, hr, hlen, hK⟩ := hK
    obtain ⟨p, a, cap, hp, rfl, g1, g2, g4, g3⟩ := hx
    obtain ⟨q1, q2, q3, cur, e', q4, q5, q6⟩ := R.own r cs p hr hp
    rcases hK with ⟨hsum, hK⟩ | ⟨hsum, hK⟩
    rotate_left
    · have hcapn : cap = p.n := by omega
      rcases hread with ⟨rfl, xa, xc, rfl⟩ | ⟨xa, xc, news, hpos, rfl, hn, hcells⟩
      · refine ⟨w, _, run_app_zero h1 h2 _ _ _ _ _ g1, _, _, φ, hK, Sub.refl _, ?_, ⟨p, a, cap, hp, by simp, by simpa using g1, g2, g4, g3⟩, Lat.refl B0 w⟩
        have e0 : cs.take len ++ [] ++ cs.drop (len + ([] : List H0).length) = cs := by simp
        rw [e0]
        exact R.rewrite (e := e') hr hp rfl (fun _ _ => rfl) q4 q5 q3 q6
      · have hnl := hn.length
        obtain rfl := g3 (by omega)
        subst hcapn
        have hrun := run_app_room (P := P) (w := w) (ty := ty) h1 h2 h3 p.b len p.n cur e' q4 xa new.length xc news hnl.symm hcells (hn.one hone) (by omega) (by omega)
        rw [q1, Nat.zero_add]
        exact ⟨_, _, hrun, _, _, φ, hK, Sub.refl _, set_part R hr hp q4 q5 q6 hn hsum, ⟨p, _, _, hp, rfl, by omega, g2, by simp, fun _ => by rw [q1]⟩, lat_setRow (Lat.refl B0 w) q2 _⟩
    rcases hread with ⟨rfl, xa, xc, rfl⟩ | ⟨xa, xc, news, hpos, rfl, hn, hcells⟩
    · refine ⟨w, _, run_app_zero h1 h2 _ _ _ _ _ g1, ?_⟩
      by_cases hc0 : cap = 0
      · have hl0 : len = 0 := by omega
        subst hl0
        have R2 := (R.rewrite (cs' := []) (e := e') hr hp rfl (fun _ _ => rfl) q4 q5 (by simp) (fun k c hk => by simp at hk)).move (r := r) (cs := []) (by rw [List.getElem?_set_self (List.getElem?_eq_some_iff.1 hr).1]) hp
        rw [List.set_set] at R2
        refine ⟨_, _, φ ++ [p], hK, Sub.push _ _, by simpa using R2, ⟨p, a, cap, ?_, by simp, by simp, g2, g4, fun hne => absurd hc0 hne⟩, Lat.refl B0 w⟩
        rw [← R.len, List.getElem?_append_right (Nat.le_refl _)]
        simp
      · obtain rfl := g3 hc0
        have hcapn : cap = p.n := by omega
        have R2 := (R.rewrite (cs' := cs.take len) (e := e') hr hp rfl (fun _ _ => rfl) q4 q5 (by simp; omega) (fun k c hk => by
          have hk2 : k < len := by have := (List.getElem?_eq_some_iff.1 hk).1; simp at this; omega
          rw [List.getElem?_take_of_lt hk2] at hk
          exact q6 k c hk)).move (r := r) (cs := cs.take len) (by rw [List.getElem?_set_self (List.getElem?_eq_some_iff.1 hr).1]) hp
        rw [List.set_set] at R2
        refine ⟨_, _, φ ++ [p], hK, Sub.push _ _, by simpa using R2, ⟨p, _, cap, ?_, rfl, by simpa using g1, g2, g4, fun _ => rfl⟩, Lat.refl B0 w⟩
        rw [← R.len, List.getElem?_append_right (Nat.le_refl _)]
        simp
    · have hnl := hn.length
      have hone' := hn.one hone
      by_cases hroom : len + new.length ≤ cap
      · obtain rfl := g3 (by omega)
        have hcapn : cap = p.n := by omega
        subst hcapn
        have hrun := run_app_room (P := P) (w := w) (ty := ty) h1 h2 h3 p.b len p.n cur e' q4 xa new.length xc news hnl.symm hcells hone' hroom (by omega)
        rw [q1, Nat.zero_add]
        exact ⟨_, _, hrun, app_room R hr hp hlen q4 q5 q6 hn hroom g2 hK⟩
      · have hold : ∃ oldv : List Value, repL φ (cs.take len) oldv ∧ ∀ j u, oldv[j]? = some u → w.cell? (a.add j) = some u := by
          by_cases hc0 : cap = 0
          · have hl0 : len = 0 := by omega
            subst hl0
            exact ⟨[], by simp [repL], fun j u hj => by simp at hj⟩
          · obtain rfl := g3 hc0
            obtain ⟨vs, e1, e2⟩ := concrete (φ := φ) (p := fun k v => w.cell? ⟨p.b, p.o + k, none⟩ = some v) (cs := cs.take len) (k0 := 0) (fun k c hk => by
              have hk2 : k < len := by have := (List.getElem?_eq_some_iff.1 hk).1; simp at this; omega
              rw [List.getElem?_take_of_lt hk2] at hk
              obtain ⟨v, e1, e2⟩ := R.cell hr rfl hk hp
              exact ⟨v, by simpa using e1, e2⟩)
            exact ⟨vs, e1, fun j u hj => by have := e2 j u hj; rw [addr_add]; simpa using this⟩
        obtain ⟨oldv, ho, hoc⟩ := hold
        have hol := ho.length
        have htl : (cs.take len).length = len := by simp; omega
        have hb : (len + new.length) * i.bytes ≤ 140737488355328 := by
          have : (len + new.length) * i.bytes ≤ 2 ^ 41 * 64 := Nat.mul_le_mul hsum h5
          omega
        have hrun := run_append_grow (P := P) w t ty e i z h1 h2 h4 a len cap oldv (by rw [h3]; omega) hoc xa new.length xc news (by rw [h3]; omega) hcells (by omega) (by omega) (growslice_fits (by omega) hb)
        refine ⟨_, _, hrun, ?_⟩
        have := grown (h.set r .gone) (R.drop r) (cs.take len) news oldv cap (by simp) hn ho (by rw [htl]; exact hsum) (by rw [htl]; exact hK)
        rw [htl] at this
        exact this
  · have hu := rep0_pl hx
    subst hu
    rcases hread with ⟨rfl, xa, xc, rfl⟩ | ⟨xa, xc, news, hpos, rfl, hn, hcells⟩
    · obtain ⟨_, hK⟩ := hK
      simp only [List.length_nil, if_true] at hK
      exact ⟨w, _, run_app_zero h1 h2 _ _ _ _ _ (Nat.le_refl _), _, _, φ, hK, Sub.refl _, R, rfl, Lat.refl B0 w⟩
    · have hnl := hn.length
      obtain ⟨hsum, hK⟩ := hK
      rw [if_neg (by omega)] at hK
      have hb : new.length * i.bytes ≤ 140737488355328 := by
        have : new.length * i.bytes ≤ 2 ^ 41 * 64 := Nat.mul_le_mul hsum h5
        omega
      have hrun := run_append_nil (P := P) w t ty e i z h1 h2 h4 xa new.length xc news (by rw [h3]; omega) hcells hpos (by omega) (by omega)
      refine ⟨_, _, hrun, ?_⟩
      have := grown h R [] news [] 0 rfl hn trivial (by simpa using hsum) (by simpa using hK)
      simpa using this
  · exact hK.elim

theorem hAppZ_run {B0 : Nat} {φ : Plan} {h : Heap} (R : Rep B0 φ h w) {t tn ty : TypeId} {z : Value} {kn : IntKind} (hd : (Kd.sl z).ok P t) (hu : P.underlying tn = some (.int kn)) {x y : HV} {u v : Value} (hx : repV φ x u) (hy : repV φ y v) {K : HV → Heap → Prop} (H : HAppZ z h x y K) :
    ∃ w' r, (Builtin.append_ #[t, tn] ty #[u, v]).run P w = .ok r w' ∧ Leaves dm B0 φ w w' r K := by
  obtain ⟨e, i, h1, h2, h3, h4, h5, h6, h7⟩ := Kd.sl_all hd rfl
  obtain ⟨k, n, rfl, rfl, h0, hn, hK⟩ := H.out
  have hu1 : u = .slice none 0 0 := hx
  have hv1 : v = .int k (n : Int) := hy
  subst hu1 hv1
  have hb : n * i.bytes ≤ 281474976710656 := by
    have : n * i.bytes ≤ 2 ^ 41 * 64 := Nat.mul_le_mul hn h5
    omega
  refine ⟨_, _, Go.Lib.run_append_nil_zeros w t tn ty e i z k kn h1 hu h2 h4 n h0 (by omega) (by omega) hb, ?_⟩
  have hge := grownCap_ge w n 0 e
  have hmx := grownCap_le_maxLen w n 0 e (by unfold maxLen; omega)
  have R1 : Rep B0 φ h w.drew := R.still (Nat.le_refl _) (fun _ _ => rfl)
  have hsz : (Builtin.zeroCells z.cells n ++ Builtin.zeroCells z.cells (grownCap w n 0 e - n)).size = grownCap w n 0 e := by
    rw [h6]
    simp only [Array.size_append, size_zero1]
    omega
  have := new_row (dm := dm) R1 (Builtin.zeroCells z.cells n ++ Builtin.zeroCells z.cells (grownCap w n 0 e - n)) e (List.replicate n (.pl z)) (by rw [hsz]; simpa using hge) (fun k c hk => by
    have hkn : k < n := by have := (List.getElem?_eq_some_iff.1 hk).1; simpa using this
    have hc : c = .pl z := by
      rw [List.getElem?_replicate] at hk
      simp [hkn] at hk
      exact hk.symm
    subst hc
    refine ⟨z, ?_, rfl⟩
    rw [Array.getElem?_append_left (by rw [h6, size_zero1]; exact hkn), h6, ← Array.getElem?_toList, zero_cells, List.getElem?_replicate]
    simp [hkn]) (n := n) (by rw [hsz]; exact hge) (by rw [hsz]; exact hmx) (K := K) hK
  rw [hsz] at this
  obtain ⟨x', h', φ', g1, g2, g3, g4, g5⟩ := this
  exact ⟨x', h', φ', g1, g2, g3, g4, (Lat.refl B0 w).drew.trans g5⟩

theorem run_appz_room {t tn ty e : TypeId} {i : TypeInfo} {z : Value} (ht : P.underlying t = some (.slice e)) {kn : IntKind} (htn : P.underlying tn = some (.int kn)) (hi : P.info? e = some i) (hs : i.size = 1) (hz : i.zero = some z) (hzc : z.cells = #[z]) (hz1 : z.oneCell' = true)
    (g l c : Nat) (cur : Array Value) (e' : TypeId) (hg : w.heap[g]? = some (.cells cur e' (0, 0))) (k : IntKind) (n : Nat) (h0 : 0 < n) (h63 : (n : Int) ≤ 9223372036854775807) (h48 : n * i.bytes ≤ 281474976710656) (hroom : l + n ≤ c) (hfit : l + n ≤ cur.size) :
    (Builtin.append_ #[t, tn] ty #[.slice (some ⟨g, 0, none⟩) l c, .int k n]).run P w =
      .ok (.slice (some ⟨g, 0, none⟩) (l + n) c) (w.setRow g (cur.toList.take l ++ List.replicate n z ++ cur.toList.drop (l + n)).toArray) := by
  have hst := run_storeCells_at P g l e' (List.replicate n z) 0 cur w hg (by simpa using hfit) (fun v hv => by rw [(List.mem_replicate.1 hv).2]; exact hz1)
  simp only [Nat.add_zero, List.length_replicate] at hst
  have hw : IntKind.i64.wrap (n : Int) = n := by rw [IntKind.wrap_i64]; omega
  have h48i : ¬ (281474976710656 < (n : Int) * (i.bytes : Int)) := by
    rw [← Int.natCast_mul]
    omega
  have hneg : ¬ ((n : Int) < 0) := by omega
  have hn0 : n ≠ 0 := by omega
  simp [Builtin.append_, run_underlying ht, run_underlying htn, sizeOf, typeInfo, zeroValue, hi, hs, hz, hzc, asInt, asIntOf, hw, hn0, hneg, h48i, hroom, zero_cells, Addr.add_lit, hst]

theorem hAppZ2_run {B0 : Nat} {φ : Plan} {h : Heap} (R : Rep B0 φ h w) {t tn ty : TypeId} {z : Value} {kn : IntKind} (hd : (Kd.sl z).ok P t) (hu : P.underlying tn = some (.int kn)) {x y : HV} {u v : Value} (hx : repV φ x u) (hy : repV φ y v) {K : HV → Heap → Prop} (H : HAppZ2 z h x y K) :
    ∃ w' r, (Builtin.append_ #[t, tn] ty #[u, v]).run P w = .ok r w' ∧ Leaves dm B0 φ w w' r K := by
  obtain ⟨e, i, h1, h2, h3, h4, h5, h6, h7⟩ := Kd.sl_all hd rfl
  obtain ⟨k, n, r, len, cs, rfl, rfl, h0, hsum, hr, hlen, hK⟩ := H.out
  have hv1 : v = .int k (n : Int) := hy
  subst hv1
  obtain ⟨p, a, cap, hp, rfl, g1, g2, g4, g3⟩ := hx
  obtain ⟨q1, q2, q3, cur, e', q4, q5, q6⟩ := R.own r cs p hr hp
  have hb : n * i.bytes ≤ 140737488355328 := by
    have : n * i.bytes ≤ 2 ^ 41 * 64 := Nat.mul_le_mul (by omega) h5
    omega
  have hb2 : (len + n) * i.bytes ≤ 140737488355328 := by
    have : (len + n) * i.bytes ≤ 2 ^ 41 * 64 := Nat.mul_le_mul hsum h5
    omega
  have hn := repL.replicate (φ := φ) z n
  have hrl : (List.replicate n (H0.pl z)).length = n := by simp
  by_cases hroom : len + n ≤ cap
  · obtain rfl := g3 (by omega)
    have hcapn : cap = p.n := by omega
    subst hcapn
    have hrun := run_appz_room (P := P) (w := w) (ty := ty) h1 hu h2 h3 h4 h6 h7 p.b len p.n cur e' q4 k n h0 (by omega) (by omega) hroom (by omega)
    have hl := app_room (dm := dm) (new := List.replicate n (.pl z)) (news := List.replicate n z) R hr hp hlen q4 q5 q6 hn (by rw [hrl]; exact hroom) g2 (K := K) (by rw [hrl]; exact hK)
    rw [hrl] at hl
    rw [q1, Nat.zero_add]
    exact ⟨_, _, hrun, hl⟩
  · have hold : ∃ oldv : List Value, repL φ (cs.take len) oldv ∧ (Builtin.firstCells i.size len (.slice (some a) len cap)).run P w.drew = .ok oldv.toArray w.drew := by
      by_cases hc0 : cap = 0
      · have hl0 : len = 0 := by omega
        subst hl0
        exact ⟨[], by simp [repL], by simp [Builtin.firstCells, loadCells, loadCellsFrom]⟩
      · obtain rfl := g3 hc0
        obtain ⟨vs, e1, e2⟩ := concrete (φ := φ) (p := fun k v => w.cell? ⟨p.b, p.o + k, none⟩ = some v) (cs := cs.take len) (k0 := 0) (fun k c hk => by
          have hk2 : k < len := by have := (List.getElem?_eq_some_iff.1 hk).1; simp at this; omega
          rw [List.getElem?_take_of_lt hk2] at hk
          obtain ⟨v, e1, e2⟩ := R.cell hr rfl hk hp
          exact ⟨v, by simpa using e1, e2⟩)
        have hvl := e1.length
        have htl : (cs.take len).length = len := by simp; omega
        refine ⟨vs, e1, run_firstCells_some (P := P) w.drew i.size len _ len cap vs (by rw [h3]; omega) (fun j v hj => ?_)⟩
        have := e2 j v hj
        rw [addr_add]
        simpa using this
    obtain ⟨oldv, ho, hoc⟩ := hold
    have hol := ho.length
    have htl : (cs.take len).length = len := by simp; omega
    have hrun := Go.Lib.run_append_grow_zeros (P := P) w t tn ty e i z k kn h1 hu h2 h4 (some a) len cap oldv hoc n h0 (by omega) (by omega) (by omega) (by omega) (growslice_fits (by omega) (by omega))
    refine ⟨_, _, hrun, ?_⟩
    have hge := grownCap_ge w (len + n) cap e
    have hmx := grownCap_le_maxLen w (len + n) cap e (by unfold maxLen; omega)
    have R1 : Rep B0 φ (h.set r .gone) w.drew := (R.drop r).still (Nat.le_refl _) (fun _ _ => rfl)
    have hL := ho.append hn
    have hsz : (oldv.toArray ++ Builtin.zeroCells z.cells n ++ Builtin.zeroCells z.cells (grownCap w (len + n) cap e - (len + n))).size = grownCap w (len + n) cap e := by
      rw [h6]
      simp only [Array.size_append, List.size_toArray, size_zero1]
      omega
    have := new_row (dm := dm) R1 (oldv.toArray ++ Builtin.zeroCells z.cells n ++ Builtin.zeroCells z.cells (grownCap w (len + n) cap e - (len + n))) e (cs.take len ++ List.replicate n (.pl z))
      (by rw [hsz]; simp; omega) (fun k c hk => by
        obtain ⟨v', e1, e2⟩ := hL.get k c hk
        refine ⟨v', ?_, e2⟩
        have hk2 : k < (oldv ++ List.replicate n z).length := (List.getElem?_eq_some_iff.1 e1).1
        rw [Array.getElem?_append_left (by rw [h6]; simp only [Array.size_append, List.size_toArray, size_zero1]; simpa using hk2), ← Array.getElem?_toList, Array.toList_append, h6, zero_cells]
        simpa using e1) (n := len + n) (by rw [hsz]; exact hge) (by rw [hsz]; exact hmx) (K := K) (by rw [List.length_set]; exact hK)
    rw [hsz] at this
    obtain ⟨x', h', φ', g1, g2, g3, g4, g5⟩ := this
    exact ⟨x', h', φ', g1, g2, g3, g4, (Lat.refl B0 w).drew.trans g5⟩

theorem hBox_run {B0 : Nat} {φ : Plan} {h : Heap} (R : Rep B0 φ h w) (t : TypeId) {x : HV} {u : Value} (hx : repV φ x u) {K : HV → Heap → Prop} (H : HBox x h K) :
    ∃ w' r, (Instr.box t u).run P w = .ok r w' ∧ Leaves dm B0 φ w w' r K := by
  obtain ⟨c, rfl, hone, hK⟩ := H.out
  have hc := cells_one (one_rep hone hx)
  refine ⟨w.alloc (.cells #[u] t), .pointer (some ⟨w.heap.size, 0, none⟩), ?_, _, _, φ ++ [⟨w.heap.size, 0, 1⟩], hK, Sub.push _ _, ?_, ⟨⟨w.heap.size, 0, 1⟩, ?_, rfl⟩, below_still R _⟩
  · simp [Instr.box, newVar, newRow, hc]
  · exact R.push #[u] t [c] (by simp) (fun k d hk => by
      match k, hk with
      | 0, hk => simp at hk; subst hk; exact ⟨u, rfl, hx⟩)
  · rw [← R.len, List.getElem?_append_right (Nat.le_refl _)]
    simp

theorem hBoxA_run {B0 : Nat} {φ : Plan} {h : Heap} (R : Rep B0 φ h w) (t : TypeId) {xs : List H0} {u : Value} (hx : repV φ (.agg xs) u) {K : HV → Heap → Prop} (H : HBoxA xs h K) :
    ∃ w' r, (Instr.box t u).run P w = .ok r w' ∧ Leaves dm B0 φ w w' r K := by
  obtain ⟨hone, hK⟩ := H.out
  obtain ⟨vs, rfl, hr⟩ := hx
  have hl := hr.length
  simp only [Array.length_toList] at hl
  refine ⟨w.alloc (.cells vs t), .pointer (some ⟨w.heap.size, 0, none⟩), ?_, _, _, φ ++ [⟨w.heap.size, 0, vs.size⟩], hK, Sub.push _ _, ?_, ⟨⟨w.heap.size, 0, vs.size⟩, ?_, rfl⟩, below_still R _⟩
  · simp [Instr.box, newVar, newRow, Value.cells]
  · exact R.push vs t xs (by omega) (fun k d hk => by
      obtain ⟨v, e1, e2⟩ := hr.get k d hk
      exact ⟨v, by simpa using e1, e2⟩)
  · rw [← R.len, List.getElem?_append_right (Nat.le_refl _)]
    simp

theorem repL.set {φ : Plan} : ∀ {xs : List H0} {vs : List Value} (i : Nat) {c : H0} {u : Value}, repL φ xs vs → rep0 φ c u → repL φ (xs.set i c) (vs.set i u)
  | [], [], _, _, _, _, _ => trivial
  | _ :: _, _ :: _, 0, _, _, h, k => ⟨k, h.2⟩
  | _ :: _, _ :: _, i + 1, _, _, h, k => ⟨h.1, repL.set i h.2 k⟩

theorem repL.plain {φ : Plan} : ∀ (zs : List Value), repL φ (zs.map .pl) zs
  | [] => trivial
  | _ :: zs => ⟨rfl, repL.plain zs⟩

theorem setParts_fill {φ : Plan} {n m : Nat} {fr : Fr} {a : Act} (F : FrRep φ n fr a) {places : Nat → Option (Nat × Nat)} (hp : ∀ i, i < m → places i = some (i, 1)) :
    ∀ (l : List (Nat × Operand)) (xs : List H0) (vs : Array Value) (ys : List H0), xs.length = m → repL φ xs vs.toList → setParts (hEval fr) xs l = some ys →
      (∀ p ∈ l, ∀ c, hEval fr p.2 = .s c → c.one = true) → ∃ us, Instr.fill places vs (l.map fun p => (p.1, a.eval p.2)) = some us ∧ repL φ ys us.toList
  | [], xs, vs, ys, _, hr, h, _ => by
    simp only [setParts_nil, Option.some.injEq] at h
    subst h
    exact ⟨vs, by simp [Instr.fill], hr⟩
  | (i, x) :: rest, xs, vs, ys, hm, hr, h, h2 => by
    rw [setParts_cons] at h
    split at h
    · rename_i c hc
      cases hb : (Nat.blt i xs.length) with
      | false => rw [hb] at h; cases h
      | true =>
        rw [hb, cond_true] at h
        have hi : i < xs.length := by simpa using hb
        have hl := hr.length
        simp only [Array.length_toList] at hl
        have rx := F.eval x
        rw [hc] at rx
        have hv := cells_one (one_rep (h2 (i, x) (by simp) c hc) rx)
        obtain ⟨us, e1, e2⟩ := setParts_fill F hp rest (xs.set i c) (vs.setIfInBounds i (a.eval x)) ys (by simpa using hm) (by
          rw [Array.toList_setIfInBounds]
          exact hr.set i rx) h (fun p hpm => h2 p (by simp [hpm]))
        refine ⟨us, ?_, e2⟩
        rw [← e1]
        simp only [List.map_cons, Instr.fill]
        rw [hp i (by omega)]
        simp only [hv]
        rw [if_neg (by simp; omega)]
        simp
    · cases h

theorem atoms_one {ev : Operand → HV} : ∀ (l : List (Nat × Operand)) {cs : List H0}, atoms (l.map fun p => ev p.2) = some cs → (∀ c ∈ cs, c.one = true) → ∀ p ∈ l, ∀ c, ev p.2 = .s c → c.one = true
  | [], _, _, _, p, hp, _, _ => by simp at hp
  | q :: l, cs, h, h1, p, hp, c, hc => by
    rw [List.map_cons] at h
    rw [atoms_cons] at h
    split at h
    · rename_i a as e1 e2
      cases h
      rcases List.mem_cons.1 hp with rfl | hp
      · rw [hc] at e1
        cases e1
        exact h1 _ (by simp)
      · exact atoms_one l e2 (fun x hx => h1 x (by simp [hx])) p hp c hc
    · cases h

theorem hRec_run {n : Nat} {φ : Plan} {fr : Fr} {a : Act} (F : FrRep φ n fr a) {t : TypeId} {zs : List Value} (hd : (Kd.rcd zs).ok P t) {parts : Array (Nat × Operand)} {K : HV → Prop}
    (H : HRec (setParts (hEval fr) (zs.map .pl) parts.toList) (atoms (parts.toList.map fun p => hEval fr p.2)) K) :
    ∃ (r : Value) (y : HV), (∀ w : World, (Instr.build t (parts.map fun (i, x) => (i, a.eval x))).run P w = .ok r w) ∧ repV φ y r ∧ K y := by
  obtain ⟨ys, cs, hs, hq, hone, hK⟩ := H.out
  have h1 := atoms_one parts.toList hq hone
  obtain ⟨fs, i, g1, g2, g3, g4, g5, g6, g7⟩ := hd
  have hplaces : fs.toList.mapM (fun f => (P.info? f.type).map fun i => (f.offset, i.size)) = some ((List.range zs.length).map fun k => (k, 1)) := by
    have key : ∀ (l : List Field) (k0 : Nat), (∀ (k : Nat) (f : Field), l[k]? = some f → f.offset = k0 + k ∧ One P f.type) → l.mapM (fun f => (P.info? f.type).map fun i => (f.offset, i.size)) = some ((List.range' k0 l.length).map fun k => (k, 1)) := by
      intro l
      induction l with
      | nil => intro k0 _; rfl
      | cons f l ih =>
        intro k0 hk
        obtain ⟨e1, ⟨j, e2, e3⟩, _⟩ := hk 0 f rfl
        have := ih (k0 + 1) (fun k g hg => by
          obtain ⟨e4, e5⟩ := hk (k + 1) g (by simpa using hg)
          exact ⟨by omega, e5⟩)
        simp only [List.mapM_cons, e2, Option.map_some, this, List.length_cons, List.range'_succ, List.map_cons]
        simp [e1, e3]
    have := key fs.toList 0 (fun k f hf => by
      obtain ⟨e1, e2⟩ := g6 k f (by simpa using hf)
      exact ⟨by omega, e2⟩)
    rw [this]
    simp [g5, List.range_eq_range']
  have hp : ∀ k, k < zs.length → (fun x => ((List.range zs.length).map fun k => (k, 1)).toArray[x]?) k = some (k, 1) := fun k hk => by simp [hk]
  obtain ⟨us, e1, e2⟩ := setParts_fill F hp parts.toList (zs.map .pl) zs.toArray ys (by simp) (by simpa using repL.plain zs) hs h1
  refine ⟨.agg us, .agg ys, fun w => run_build w t _ us ?_, ⟨us, rfl, e2⟩, hK⟩
  unfold Program.built
  simp only [g1, g2, g3, hplaces, Value.cells]
  have hl : (parts.map fun (i, x) => (i, a.eval x)).toList = parts.toList.map fun p => (p.1, a.eval p.2) := by simp
  rw [hl]
  exact e1

theorem hPart_run {φ : Plan} {t : TypeId} {zs : List Value} (hd : (Kd.rcd zs).ok P t) {x : HV} {u : Value} (hx : repV φ x u) {f : Nat} {K : HV → Prop} (H : HPart zs.length x f K) :
    ∃ (r : Value) (y : HV), (∀ w : World, (Instr.field t u f).run P w = .ok r w) ∧ repV φ y r ∧ K y := by
  obtain ⟨xs, c, rfl, hc, hone, hf, hK⟩ := H.out
  obtain ⟨vs, rfl, hr⟩ := hx
  obtain ⟨fs, i, h1, h2, h3, h4, h5, h6, h7⟩ := hd
  obtain ⟨v, e1, e2⟩ := hr.get f c hc
  have hfl : f < fs.size := by omega
  obtain ⟨o1, _, d, o2, o3⟩ := h6 f fs[f] (Array.getElem?_eq_getElem hfl)
  have hagg : ∀ w : World, (isAgg fs[f].type).run P w = .ok false w := fun w => by
    unfold isAgg
    simp only [Sem.run_bind, run_underlying o2, Result.andThen_ok]
    cases d <;> simp [flat] at o3 <;> rfl
  have hv : vs[f]? = some v := by simpa using e1
  refine ⟨v, .s c, fun w => ?_, e2, hK⟩
  simp [Instr.field, run_underlying h1, hfl, asAgg, part, hagg, o1, hv]

theorem foldl_push (bs : List UInt8) : ∀ (s : ByteArray), (bs.map fun b => (b.toNat : Int)).foldl (fun r n => r.push (UInt8.ofNat n.toNat)) s = ⟨s.data ++ bs.toArray⟩ := by
  induction bs with
  | nil => intro s; simp
  | cons b bs ih =>
    intro s
    rw [List.map_cons, List.foldl_cons, ih]
    simp [ByteArray.push]

theorem hText_run {B0 : Nat} {φ : Plan} {h : Heap} (R : Rep B0 φ h w) {s t : TypeId} {x : HV} {u : Value} (hx : repV φ x u) {K : HV → Prop} (H : HText P s t h x K) :
    ∃ r : Value, (convert s t u).run P w = .ok r w ∧ K (.s (.pl r)) := by
  obtain ⟨e, bs, h1, h2, h3, hsh, hK⟩ := H.out
  have hcv : ∀ a l c, (convert s t (.slice a l c)).run P w = (Conv.bytesToString (.slice a l c)).run P w := fun a l c => run_convert_bytes_string w s t e a l c h1 h2 h3
  rcases hsh.read R hx with ⟨e0, a, c, rfl⟩ | ⟨a, c, vs, hpos, rfl, hr, hcells⟩
  · have eb : bs = [] := by simpa using e0
    subst eb
    refine ⟨_, ?_, hK⟩
    rw [hcv]
    cases a with
    | none => rfl
    | some a =>
      exact run_bytesToString (P := P) w a 0 c [] (by simp [loadCells, loadCellsFrom])
  · have hvs : vs = (bs.map fun b => (b.toNat : Int)).map (Value.int .u8) := by
      have : ∀ (bs : List UInt8) (vs : List Value), repL φ (bs.map fun b => .pl (.int .u8 (b.toNat : Int))) vs → vs = (bs.map fun b => (b.toNat : Int)).map (Value.int .u8) := by
        intro bs
        induction bs with
        | nil => intro vs h; cases vs with
          | nil => rfl
          | cons _ _ => exact h.elim
        | cons b bs ih => intro vs h; cases vs with
          | nil => exact h.elim
          | cons v vs =>
            have e1 : v = _ := h.1
            rw [e1, ih vs h.2]
            rfl
      exact this bs vs hr
    refine ⟨_, ?_, hK⟩
    rw [hcv]
    have hl := hr.length
    have hld := run_loadCells_list (P := P) (w := w) a vs hcells
    have hb := run_bytesToString (P := P) w a vs.length c (bs.map fun b => (b.toNat : Int)) (by rw [hld, hvs])
    rw [foldl_push] at hb
    have e0 : ByteArray.empty.data ++ bs.toArray = bs.toArray := by
      show #[] ++ bs.toArray = bs.toArray
      simp
    rw [hl]
    rw [hb, e0]

end
end Go.Proofs.Ytecfgbjddkpkcaa.Hx
