
/-
  From the model's readings of arguments to rows: a slice of slices of ints that came in.
-/
import Derived.Test.YtecfgbjddkpkcaaHr
namespace Go.Proofs.Ytecfgbjddkpkcaa.Hx
open Go.RowKit Go.ChangeShapes Go.WideShapes Go.ChangeAt

theorem i64_wf {n : Int} (h : (Lit.int .i64 n).wf = true) : -9223372036854775808 ≤ n ∧ n ≤ 9223372036854775807 := by
  simp only [Lit.wf, Bool.and_eq_true, decide_eq_true_eq] at h
  have h1 : IntKind.i64.min = -9223372036854775808 := by decide
  have h2 : IntKind.i64.max = 9223372036854775807 := by decide
  rw [h1, h2] at h
  exact h

/-- Many values opened, one after the other. -/
theorem open_many {Q : List Int → Prop} {w : World} : ∀ (vs : List Value) {φ : Plan} {h : Heap}, Rep w.heap.size φ h w →
    (∀ v ∈ vs, ∃ l : List Int, Q l ∧ ∀ (φ : Plan) (h : Heap), Rep w.heap.size φ h w → Opened φ h w v (fun h' x => Ints h' x l)) →
    ∃ (xs : List H0) (L : List (List Int)) (φ' : Plan) (h' : Heap), Sub φ φ' ∧ Ext h h' ∧ Rep w.heap.size φ' h' w ∧ xs.length = vs.length ∧ L.length = vs.length ∧
      (∀ (i : Nat) (x : H0) (v : Value), xs[i]? = some x → vs[i]? = some v → rep0 φ' x v) ∧ (∀ (i : Nat) (x : H0) (l : List Int), xs[i]? = some x → L[i]? = some l → Ints h' x l) ∧ ∀ l ∈ L, Q l
  | [], φ, h, R, _ => ⟨[], [], φ, h, Sub.refl _, Ext.refl _, R, rfl, rfl, fun i x v e => by simp at e, fun i x v e => by simp at e, fun l e => by simp at e⟩
  | v :: vs, φ, h, R, each => by
    obtain ⟨l, hl, hop⟩ := each v (by simp)
    obtain ⟨x, φ1, h1, s1, e1, R1, r1, t1⟩ := hop φ h R
    obtain ⟨xs, L, φ2, h2, s2, e2, R2, n1, n2, r2, t2, b2⟩ := open_many vs R1 (fun v hv => each v (by simp [hv]))
    refine ⟨x :: xs, l :: L, φ2, h2, s1.trans s2, e1.trans e2, R2, by simp [n1], by simp [n2], fun i y v' hy hv => ?_, fun i y l' hy hl' => ?_, fun l' hl' => ?_⟩
    · cases i with
      | zero => simp at hy hv; subst hy; subst hv; exact rep0.mono s2 r1
      | succ i => exact r2 i y v' (by simpa using hy) (by simpa using hv)
    · cases i with
      | zero => simp at hy hl'; subst hy; subst hl'; exact t1.ext e2
      | succ i => exact t2 i y l' (by simpa using hy) (by simpa using hl')
    · rcases List.mem_cons.1 hl' with rfl | hm
      · exact hl
      · exact b2 l' hm

theorem Opened.mono {φ : Plan} {h : Heap} {w : World} {v : Value} {T T' : Heap → H0 → Prop} (H : Opened φ h w v T) (k : ∀ h' x, T h' x → T' h' x) : Opened φ h w v T' := by
  obtain ⟨x, φ', h', a, b, c, d, e⟩ := H
  exact ⟨x, φ', h', a, b, c, d, k _ _ e⟩

def Wide (l : List Int) : Prop := ∀ n ∈ l, -9223372036854775808 ≤ n ∧ n ≤ 9223372036854775807

def Sizes (L : List (List Int)) : Prop := L.length ≤ 9223372036854775807 ∧ ∀ i, (L.getD i []).length ≤ 9223372036854775807

/-- An argument that is a slice of slices of ints. -/
theorem open_arg_rowsI {H : Type} {enc : TypeId × Value → H} {P : Program} {w : World} {t u e : TypeId} {v : Value} {d : DataW H} {ps : List MemPlace} {base : Nat} (ht : P.underlying t = some (.slice u)) (hu : P.underlying u = some (.slice e)) (he : P.underlying e = some (.int .i64))
    (hcu : P.cellsOf u = 1) (hc : P.cellsOf e = 1) (hv : Value.okWide P w .any base t v) (h0 : DataW.Trod enc P w 0 (fun _ => true) true t v d ps) {φ : Plan} {h : Heap} (R : Rep w.heap.size φ h w) : ∃ L, Opened φ h w v (fun h' x => Rows h' x L ∧ Sizes L ∧ ∀ l ∈ L, Wide l) := by
  obtain ⟨a0, len, cap, rfl⟩ := okWide_slice ht hv
  obtain ⟨fuel, hf⟩ := h0
  have none_ : ∀ (ao : Option Addr) (cap : Nat), Opened φ h w (.slice ao 0 cap) (fun h' x => Rows h' x [] ∧ Sizes [] ∧ ∀ l ∈ ([] : List (List Int)), Wide l) := fun ao cap =>
    ⟨.pl (.slice ao 0 cap), φ, h, Sub.refl _, Ext.refl _, R, rfl, ⟨[], Shows.nils _ _, rfl, fun i y l e => by simp at e⟩, ⟨by simp, fun i => by simp⟩, fun l hl => by simp at hl⟩
  rcases DataW.trod_slice ht hf with ⟨hcs, hx⟩ | ⟨a, len', cap', elems, rest, n, rfl, hcs, _, _, hl, hm, hlen, hel, _⟩
  · simp [Value.cells] at hcs
    obtain ⟨rfl, rfl, rfl⟩ := hcs
    exact ⟨[], none_ none 0⟩
  · simp [Value.cells] at hcs
    obtain ⟨rfl, rfl, rfl⟩ := hcs
    by_cases hz : len = 0
    · subst hz
      exact ⟨[], none_ (some a) cap⟩
    have cell : ∀ i, i < len → ∃ c, w.cell? (a.add i) = some c ∧ ∃ l : List Int, (l.length ≤ maxLen ∧ Wide l) ∧ ∀ (φ : Plan) (h : Heap), Rep w.heap.size φ h w → Opened φ h w c (fun h' x => Ints h' x l) := by
      intro i hi
      have hE := hel i hi
      rw [hcu, Nat.mul_one, List.getElem?_eq_getElem (by omega), Option.bind_eq_some_iff] at hE
      obtain ⟨cs1, hc1, hy1⟩ := hE
      rcases open_ints hu he hc hy1 with ⟨rfl, _⟩ | ⟨b, l1, c1, zs, rfl, _, hl1, hm1, hz1, _, hcell, hwz⟩
      · exact ⟨_, cell_of_cells?_one hc1, [], ⟨by simp, fun n hn => by simp at hn⟩, fun φ h R => open_cells R none 0 0 [] (Nat.le_refl _) (by unfold maxLen; omega) rfl (fun _ => rfl) (fun a h => by cases h)⟩
      · simp only [if_true] at hz1
        exact ⟨_, cell_of_cells?_one hc1, zs.take l1, ⟨by simp; omega, fun n hn => i64_wf (hwz n (List.mem_of_mem_take hn))⟩, fun φ h R => open_cells R (some b) l1 c1 zs hl1 hm1 hz1 (fun h => by cases h) (fun a' h => by cases h; exact fun i hi => hcell i (by omega))⟩
    let vs : List Value := (List.range len).map fun i => (w.cell? (a.add i)).getD undef
    have hvl : vs.length = len := by simp [vs]
    have hvi : ∀ (i : Nat) (v : Value), vs[i]? = some v → i < len ∧ w.cell? (a.add i) = some v := by
      intro i v hv
      have hi : i < len := by have := (List.getElem?_eq_some_iff.1 hv).1; omega
      obtain ⟨c, hc, _⟩ := cell i hi
      simp only [vs, List.getElem?_map, List.getElem?_range hi, Option.map_some, hc, Option.getD_some, Option.some.injEq] at hv
      subst hv
      exact ⟨hi, hc⟩
    obtain ⟨xs, L, φ2, h2, s2, e2, R2, n1, n2, r2, t2, b2⟩ := open_many vs R (fun v hv => by
      obtain ⟨i, hi⟩ := List.getElem?_of_mem hv
      obtain ⟨hil, hc⟩ := hvi i v hi
      obtain ⟨c, hc2, rest⟩ := cell i hil
      rw [hc] at hc2
      cases hc2
      exact rest)
    obtain ⟨b, off, spot⟩ := a
    obtain ⟨c0, hc0, _⟩ := cell 0 (by omega)
    have hspot : spot = none := by simpa [Addr.add] using World.cell?_spot hc0
    subst hspot
    have hb : b < w.heap.size := World.block_lt_of_cell? w ⟨b, off, none⟩ (by simpa [Addr.add] using hc0)
    refine ⟨L, .sl h2.length 0 len, φ2 ++ [⟨b, off, cap⟩], h2 ++ [.ro xs], s2.trans (Sub.push _ _), e2.trans (Ext.push _ _), R2.pushRo ⟨b, off, cap⟩ hb _ (fun k c hk => ?_), ⟨⟨b, off, cap⟩, _, _, ?_, rfl, hl, hm, by simp, fun _ => rfl⟩, ⟨xs, ?_, by omega, fun i y l hy hl => (t2 i y l hy hl).ext (Ext.push _ _)⟩, ?_, fun l hl => (b2 l hl).2⟩
    · have hk2 : k < vs.length := by have := (List.getElem?_eq_some_iff.1 hk).1; omega
      obtain ⟨_, hc⟩ := hvi k vs[k] (List.getElem?_eq_getElem hk2)
      exact ⟨vs[k], by rw [← addr_add]; exact hc, r2 k c _ hk (List.getElem?_eq_getElem hk2)⟩
    · rw [← R2.len, List.getElem?_append_right (Nat.le_refl _)]
      simp
    · have := Shows.ro h2.length 0 len _ (get_new h2 (.ro xs)) (by omega)
      simp only [List.drop_zero] at this
      rw [List.take_of_length_le (by omega)] at this
      exact this
    · have hml : maxLen ≤ 9223372036854775807 := by unfold maxLen; omega
      refine ⟨by omega, fun i => ?_⟩
      by_cases hi : i < L.length
      · have := (b2 L[i] (List.getElem_mem hi)).1
        simp [List.getD, hi]
        omega
      · simp [List.getD, Nat.le_of_not_lt hi]

theorem open_arg_rows {H : Type} {enc : TypeId × Value → H} {P : Program} {w : World} {t u e : TypeId} {v : Value} {d : DataW H} {ps : List MemPlace} {base : Nat} (ht : P.underlying t = some (.slice u)) (hu : P.underlying u = some (.slice e)) (he : P.underlying e = some (.int .i64))
    (hcu : P.cellsOf u = 1) (hc : P.cellsOf e = 1) (hv : Value.okWide P w .any base t v) (h0 : DataW.Trod enc P w 0 (fun _ => true) true t v d ps) {φ : Plan} {h : Heap} (R : Rep w.heap.size φ h w) : ∃ L, Opened φ h w v (fun h' x => Rows h' x L ∧ Sizes L) := by
  obtain ⟨L, O⟩ := open_arg_rowsI ht hu he hcu hc hv h0 R
  exact ⟨L, O.mono fun h' x k => ⟨k.1, k.2.1⟩⟩

end Go.Proofs.Ytecfgbjddkpkcaa.Hx
