/-
  The reference's draws of arguments: a matrix and a word, a matrix and two words.
  What the reference draws: a weight of small numbers.
  From the model's readings of arguments to rows: a slice of ints that came in; and the end of a law: true, memory below as it was.
  From the model's readings of arguments to rows: a slice of bytes that came in.
  Contracts of replayed deletions of the reference, and of repeated deletions, of the program and of the reference.
  The reference's draws for the laws of exchanges; the laws' own small functions.
  The reference's draws for the laws of elements; letters that a code spells.
  What the law of weights draws.
  What the law of weights draws: texts, spoilt or not.
  slices.SortFunc over a slice of slices of ints, for the calculus of rows: the library's contract (cells sorted by a comparing function) led over to heaps of rows.
  Contracts: cmp.Compare, cmp.Or, slices.Compare, the order of roots of the program and of the reference, and the reference's insertion of a root in its place.
  Lists of pairs of roots in the program's memory, with the keys that were seen: what one more pair does.
  slices.SortFunc over a slice of elements of several cells, for the calculus of rows.
  DERIVED: THE SHELF's CONTRACTS AT THIS DUMP, IN PLAIN WORDS (tools/lay-plain.mjs out of 'YtgliajcgcbnemaaGreatDoorSp.lean', which tools/lay-shelf.mjs wrote): THE SAME DECLARATIONS UNDER THE SAME NAMES: 'import', 'namespace', 'open', 'def', 'theorem' AND NOTHING ELSE: no command of the shelf's: FOR A HAND-IN. Each laying: the table of numbers ('.._ren') and one theorem, a field a fact of the dump's own or the kernel's comparison; each contract: ONE APPLICATION.
  The roots up to a height as the program collects them.
  The roots up to a height as the program collects them: the whole function.
  DERIVED: THE SHELF's CONTRACTS AT THIS DUMP, IN PLAIN WORDS (tools/lay-plain.mjs out of 'YtgliajcgcbnemaaGreatDoorSl.lean', which tools/lay-shelf.mjs wrote): THE SAME DECLARATIONS UNDER THE SAME NAMES: 'import', 'namespace', 'open', 'def', 'theorem' AND NOTHING ELSE: no command of the shelf's: FOR A HAND-IN. Each laying: the table of numbers ('.._ren') and one theorem, a field a fact of the dump's own or the kernel's comparison; each contract: ONE APPLICATION.
  Contracts of InversionsOf and CommonInversions, of the program (slices.SortFunc) and of the reference (insertions).
  The contracts of RootsUpTo, of the program and of the reference.
-/
import Derived.Test.YtgliajcgcbnemaaGreatDoorZ17
import Derived.ProofKit
import Derived.Shelf.SlSortCmp.NoneTotal
import Derived.Shelf.SlGeneric
import Derived.Ground.SlsfProg
import Derived.Test.YtgliajcgcbnemaaGreatDoorProg
namespace Go.Proofs.YtgliajcgcbnemaaGreatDoor.Hx
open Go.RowKit
variable {dm : Bool}

theorem KeepN.weaken {F G : Nat → Prop} {h h' : Heap} (k : KeepN F h h') (w : ∀ q, F q → G q) : KeepN G h h' := ⟨k.1, fun q hq hn => k.2 q hq (fun f => hn (w q f))⟩
theorem RowsN.more {F G : Nat → Prop} {h : Heap} {x : H0} {L : List (List Int)} (H : RowsN F h x L) (hg : ∀ q, q < h.length → G q → F q) : RowsN G h x L := H.keep (KeepN.refl F h) hg
theorem Small.sz {L : List (List Int)} (h : Small L) : L.length ≤ 1048576 ∧ Hx.tot L ≤ 1048576 := ⟨by have := h.le; omega, by have := h.tot; omega⟩


end Go.Proofs.YtgliajcgcbnemaaGreatDoor.Hx

namespace Go.Proofs.YtgliajcgcbnemaaGreatDoor.Hx
open Go.RowKit
variable {dm : Bool}


theorem spec_l6Weight (h : Heap) (r : Nat) (x y : H0) (L : List (List Int)) (most : Nat) (C : Cur r h x) (hy : RowsN (fun q => q = r) h y L) (hL : L.length ≤ 1048576) (hm : most ≤ 1000) :
    HCalls dm Tryz.prog 126 [.s x, .s y, I most] h (fun v h' => ∃ z w q, v = .s z ∧ KeepR r h h' ∧ Cur r h' x ∧ h.length ≤ q ∧ OwnR q h' z w ∧ w.length = L.length ∧ ∀ n ∈ w, -(most : Int) ≤ n ∧ n ≤ most) := by
  have hr := C.lt
  refine calls_of_hFun (m := 0) kd_ok mixed Tryz.func126 rfl (by kernel_rfl) rfl rfl (of_decide_eq_true rfl) ?_; unfold hFun; (conv => whnf)
  refine HLit.empty ?_
  have E0 := Ext.push h [Row.own []]
  have O0 : OwnR h.length (h ++ [Row.own []]) (.sl h.length 0 0) [] := OwnR.push h []
  have C0 := C.ext E0
  generalize h ++ [Row.own []] = h0 at E0 O0 C0 ⊢
  have n0 := E0.1
  have K0 : KeepR r h h0 := KeepN.ofExt E0
  (conv => whnf)
  refine HLoop.intro [8, 7] [10, 11, 12, 13, 16, 17, 18, 19, 20, 21, 22, 23, 24, 25, 7, 14, 15, 8] (by kernel_rfl) (by kernel_rfl) (fun vs h' => ∃ (k : Nat) (z : H0) (w : List Int) (q : Nat), vs = [I k, .s z] ∧ k ≤ L.length ∧ KeepR r h h' ∧ Cur r h' x ∧ h.length ≤ q ∧ OwnR q h' z w ∧ w.length = k ∧ ∀ n ∈ w, -(most : Int) ≤ n ∧ n ≤ most) (fun vs _ => L.length - natAt vs 0) ⟨0, _, [], h.length, rfl, by omega, K0, C0, Nat.le_refl _, O0, rfl, fun n hn => by cases hn⟩ ?_
  rintro vs h' ⟨k, z, w, q, rfl, hk, K, C, hq, O, hw, hb⟩
  have hy' := (hy.keep K (fun _ _ g => g)).rows
  have hkl := K.1
  (conv => whnf)
  refine ⟨rfl, hy'.len ?_⟩
  (conv => whnf)
  refine HIf.dec (fun hlt => ?_) (fun hge => ?_)
  · (conv => whnf)
    refine HArith.fits (by omega) (by omega) ?_
    (conv => whnf)
    refine HArith.fits (by omega) (by omega) ?_
    (conv => whnf)
    refine (spec_l1Below _ r _ _ C (by omega)).mono ?_
    rintro v h2 ⟨b, rfl, b0, b1, _, K2, C2⟩
    have b1 := b1 (by omega)
    have O2 := O.keep K2 (by omega)
    have K2 := K.then K2
    have n2 := K2.1
    (conv => whnf)
    refine HArith.fits (by omega) (by omega) ?_
    (conv => whnf)
    refine HLit.of (xs := [ci (b - most)]) rfl (by simp [H0.one, Value.oneCell']) (by omega) ?_
    (conv => whnf)
    refine ⟨rfl, rfl, HApp.litR [b - most] O2 (by simp; omega) (fun h3 r3 y3 B3 hr3 O3 => ?_)⟩
    have K3 : KeepR r h h3 := K2.trans (G := fun p => p = q) B3 (fun p hp e => by omega)
    have C3 := C2.keep (F := fun p => p = q) B3 (fun p e => by omega)
    (conv => whnf)
    refine HArith.fits (by omega) (by omega) ?_
    (conv => whnf)
    exact ⟨⟨k + 1, y3, w ++ [b - most], r3, rfl, by omega, K3, C3, by omega, O3, by simp [hw], fun n hn => by
      rcases List.mem_append.1 hn with hn | hn
      · exact hb n hn
      · have := List.mem_singleton.1 hn
        omega⟩, by show L.length - (k + 1) < L.length - k; omega⟩
  · (conv => whnf)
    exact ⟨_, _, _, rfl, K, C, hq, O, by omega, hb⟩

end Go.Proofs.YtgliajcgcbnemaaGreatDoor.Hx

namespace Go.Proofs.YtgliajcgcbnemaaGreatDoor.Hx
open Go.RowKit Go.ChangeShapes Go.WideShapes Go.ChangeAt
variable {dm : Bool}

theorem Rep.start (w : World) (ht : TabAt w.heap.size w := by refine ⟨fun x hx => ?_, fun x hx => ?_, fun x hx => ?_⟩ <;> cases hx) : Rep w.heap.size [] [] w :=
  ⟨rfl, Nat.le_refl _, fun r cs p h => by simp at h, fun r cs p h => by simp at h, fun r r' cs cs' p p' _ h => by simp at h, fun r so ks p h => by simp at h, fun r r' so so' ks ks' p p' _ h => by simp at h, ht⟩

/-- A row that is only read. -/
theorem Rep.pushRo {B0 : Nat} {φ : Plan} {h : Heap} {w : World} (R : Rep B0 φ h w) (p : Place) (hb : p.b < B0) (cs : List H0) (hc : ∀ (k : Nat) (c : H0), cs[k]? = some c → ∃ v, w.cell? ⟨p.b, p.o + k, none⟩ = some v ∧ rep0 φ c v) :
    Rep B0 (φ ++ [p]) (h ++ [.ro cs]) w := by
  have hold : ∀ (r : Nat) (x : Row), r < h.length → (h ++ [Row.ro cs])[r]? = some x → h[r]? = some x := fun r x hr hx => by rw [List.getElem?_append_left hr] at hx; exact hx
  have hpl : ∀ (r : Nat) (y : Place), r < h.length → (φ ++ [p])[r]? = some y → φ[r]? = some y := fun r y hr hx => by rw [List.getElem?_append_left (by rw [R.len]; exact hr)] at hx; exact hx
  have hlast : ∀ (r : Nat) (x : Row), ¬ r < h.length → (h ++ [Row.ro cs])[r]? = some x → r = h.length ∧ x = .ro cs := fun r x hr hx => by
    rw [List.getElem?_append_right (by omega)] at hx
    have h0 : r - h.length = 0 := by
      have := (List.getElem?_eq_some_iff.1 hx).1
      simp at this
      omega
    rw [h0] at hx
    simp at hx
    exact ⟨by omega, hx.symm⟩
  have keyq : ∀ (q : Nat) (so : Bool) (ks : List Key), (h ++ [Row.ro cs])[q]? = some (.keys so ks) → q < h.length := fun q so ks hq => by
    by_cases hl : q < h.length
    · exact hl
    · cases (hlast q _ hl hq).2
  refine ⟨by simp [R.len], R.base, fun r xs y h1 h2 => ?_, fun r xs y h1 h2 => ?_, fun r r' xs xs' y y' hne h1 h1' h2 h2' => ?_, fun r so ks y h1 h2 => R.keys r so ks y (hold r _ (keyq _ _ _ h1) h1) (hpl r y (keyq _ _ _ h1) h2),
    fun r r' so so' ks ks' y y' hne h1 h1' h2 h2' => R.apartK r r' so so' ks ks' y y' hne (hold r _ (keyq _ _ _ h1) h1) (hold r' _ (keyq _ _ _ h1') h1') (hpl r y (keyq _ _ _ h1) h2) (hpl r' y' (keyq _ _ _ h1') h2'), R.tab⟩
  · by_cases hr : r < h.length
    · obtain ⟨g1, g2⟩ := R.ro r xs y (hold r _ hr h1) (hpl r y hr h2)
      refine ⟨g1, fun k c hk => ?_⟩
      obtain ⟨v, e1, e2⟩ := g2 k c hk
      exact ⟨v, e1, e2.mono (Sub.push _ _)⟩
    · obtain ⟨e1, e2⟩ := hlast r _ hr h1
      subst e1
      cases e2
      rw [← R.len, List.getElem?_append_right (Nat.le_refl _)] at h2
      simp at h2
      subst h2
      refine ⟨hb, fun k c hk => ?_⟩
      obtain ⟨v, e1, e2⟩ := hc k c hk
      exact ⟨v, e1, e2.mono (Sub.push _ _)⟩
  · by_cases hr : r < h.length
    · obtain ⟨g1, g2, g3, cur', e', g4, g5, g6⟩ := R.own r xs y (hold r _ hr h1) (hpl r y hr h2)
      refine ⟨g1, g2, g3, cur', e', g4, g5, fun k c hk => ?_⟩
      obtain ⟨v, e1, e2⟩ := g6 k c hk
      exact ⟨v, e1, e2.mono (Sub.push _ _)⟩
    · cases (hlast r _ hr h1).2
  · by_cases hr : r < h.length <;> by_cases hr' : r' < h.length
    · exact R.apart r r' xs xs' y y' hne (hold r _ hr h1) (hold r' _ hr' h1') (hpl r y hr h2) (hpl r' y' hr' h2')
    · cases (hlast r' _ hr' h1').2
    · cases (hlast r _ hr h1).2
    · cases (hlast r _ hr h1).2

/-- What opening an argument gives. -/
def Opened (φ : Plan) (h : Heap) (w : World) (v : Value) (T : Heap → H0 → Prop) : Prop := ∃ x φ' h', Sub φ φ' ∧ Ext h h' ∧ Rep w.heap.size φ' h' w ∧ rep0 φ' x v ∧ T h' x

/-- The end of a law: it comes back true, and memory that was there is as it was. -/
theorem law_calls {P : Program} {k : FuncId} {args : List HV} {h : Heap} {φ : Plan} {w : World} {vargs : Array Value} (H : HCalls false P k args h (fun r _ => r = B true)) (R : Rep w.heap.size φ h w) (ha : repVs φ args vargs.toList) :
    Calls P k vargs w fun e w' => e = .returned (.bool true) ∧ Below w.heap.size w w' :=
  (H.out _ φ w vargs R ha).mono (by
    rintro e w' ⟨v, x, h', φ', rfl, rfl, g2, g3, g4, g5⟩
    have hv := rep0_pl g4
    subst hv
    exact ⟨rfl, g5.toBelow⟩)

theorem own : ownKnob Tryz.prog.godebug = none := by kernel_rfl
theorem laidOut : laidOutB Tryz.prog = true := by kernel_rfl

end Go.Proofs.YtgliajcgcbnemaaGreatDoor.Hx

namespace Go.Proofs.YtgliajcgcbnemaaGreatDoor.Hx
open Go.RowKit Go.ChangeShapes Go.WideShapes Go.ChangeAt

/-- A slice of bytes, of whatever length. -/
def Code0 (h : Heap) (x : H0) (l : List Int) : Prop := Shows h (.s x) (l.map cby) ∧ l.length ≤ 9223372036854775807 ∧ ∀ y ∈ l, 0 ≤ y ∧ y < 256

theorem open_cells_u8 {φ : Plan} {h : Heap} {w : World} (R : Rep w.heap.size φ h w) (ao : Option Addr) (len cap : Nat) (zs : List Int) (hl : len ≤ cap) (hm : cap ≤ maxLen) (hz : zs.length = cap) (hnone : ao = none → cap = 0)
    (hc : ∀ a, ao = some a → ∀ i, i < cap → w.cell? (a.add i) = some (.int .u8 (zs.getD i 0))) : Opened φ h w (.slice ao len cap) (fun h' x => Shows h' (.s x) ((zs.take len).map cby)) := by
  by_cases h0 : len = 0
  · subst h0
    exact ⟨.pl (.slice ao 0 cap), φ, h, Sub.refl _, Ext.refl _, R, rfl, Shows.nils _ _⟩
  · cases ao with
    | none => have := hnone rfl; omega
    | some a =>
      have hc := hc a rfl
      obtain ⟨b, off, spot⟩ := a
      have hspot : spot = none := by simpa [Addr.add] using World.cell?_spot (hc 0 (by omega))
      subst hspot
      have hb : b < w.heap.size := World.block_lt_of_cell? w ⟨b, off, none⟩ (by simpa [Addr.add] using hc 0 (by omega))
      have hlen : ((zs.take len).map cby).length = len := by simp; omega
      refine ⟨.sl h.length 0 len, φ ++ [⟨b, off, cap⟩], h ++ [.ro ((zs.take len).map cby)], Sub.push _ _, Ext.push _ _, R.pushRo ⟨b, off, cap⟩ hb _ (fun k c hk => ?_), ⟨⟨b, off, cap⟩, _, _, ?_, rfl, hl, hm, by simp, fun _ => rfl⟩, ?_⟩
      · have hk2 : k < len := by have := (List.getElem?_eq_some_iff.1 hk).1; omega
        refine ⟨.int .u8 (zs.getD k 0), by rw [← addr_add]; exact hc k (by omega), ?_⟩
        rw [List.getElem?_map, List.getElem?_take_of_lt hk2, List.getElem?_eq_getElem (by omega)] at hk
        simp only [Option.map_some, Option.some.injEq] at hk
        subst hk
        show _ = _
        simp [List.getD, show k < zs.length by omega]
      · rw [← R.len, List.getElem?_append_right (Nat.le_refl _)]
        simp
      · generalize (zs.take len).map cby = L at hlen ⊢
        have := Shows.ro h.length 0 len _ (get_new h (.ro L)) (by omega)
        simp only [List.drop_zero] at this
        rw [List.take_of_length_le (by omega)] at this
        exact this

/-- An argument that is a slice of bytes. -/
theorem open_arg_bytes {H : Type} {enc : TypeId × Value → H} {P : Program} {w : World} {t e : TypeId} {v : Value} {d : DataW H} {ps : List MemPlace} {base : Nat} (ht : P.underlying t = some (.slice e)) (he : P.underlying e = some (.int .u8)) (hc : P.cellsOf e = 1)
    (hv : Value.okWide P w .any base t v) (h0 : DataW.Trod enc P w 0 (fun _ => true) true t v d ps) {φ : Plan} {h : Heap} (R : Rep w.heap.size φ h w) : ∃ l, Opened φ h w v (fun h' x => Code0 h' x l) := by
  obtain ⟨a0, len, cap, rfl⟩ := okWide_slice ht hv
  obtain ⟨fuel, hf⟩ := h0
  rcases open_ints ht he hc hf with ⟨hcs, hx⟩ | ⟨a, len', cap', zs, hcs, _, hl, hm, hz, hx, hcell, hwz⟩
  · simp [Value.cells] at hcs
    obtain ⟨rfl, rfl, rfl⟩ := hcs
    obtain ⟨x, φ', h', g1, g2, g3, g4, g5⟩ := open_cells_u8 R none 0 0 [] (Nat.le_refl _) (by unfold maxLen; omega) rfl (fun _ => rfl) (fun a h => by cases h)
    exact ⟨_, x, φ', h', g1, g2, g3, g4, g5, by simp, by simp⟩
  · simp [Value.cells] at hcs
    obtain ⟨rfl, rfl, rfl⟩ := hcs
    simp only [if_true] at hz
    obtain ⟨x, φ', h', g1, g2, g3, g4, g5⟩ := open_cells_u8 R (some a) len cap zs hl hm hz (fun h => by cases h) (fun a' h => by cases h; exact fun i hi => hcell i (by omega))
    refine ⟨_, x, φ', h', g1, g2, g3, g4, g5, ?_, fun y hy => ?_⟩
    · unfold maxLen at hm
      simp
      omega
    · have := hwz y (List.mem_of_mem_take hy)
      simp only [Lit.wf, Bool.and_eq_true, decide_eq_true_eq] at this
      have h1 : IntKind.u8.min = 0 := by decide
      have h2 : IntKind.u8.max = 255 := by decide
      rw [h1, h2] at this
      omega

end Go.Proofs.YtgliajcgcbnemaaGreatDoor.Hx

namespace Go.Proofs.YtgliajcgcbnemaaGreatDoor.Hx
open Go.RowKit
variable {dm : Bool}

end Go.Proofs.YtgliajcgcbnemaaGreatDoor.Hx

namespace Go.Proofs.YtgliajcgcbnemaaGreatDoor.Hx
open Go.RowKit
variable {dm : Bool}

theorem Code0.bytes {h : Heap} {x : H0} {l : List Int} (H : Code0 h x l) (hl : l.length ≤ 1048576) : Bytes h x l := ⟨H.1, hl, H.2.2⟩
theorem Code0.len {h : Heap} {x : H0} {l : List Int} (H : Code0 h x l) {K : HV → Prop} (hK : K (I l.length)) : HLen (.s x) K := by
  have := Shows.len H.1 (K := K)
  simp only [List.length_map] at this
  exact this hK
theorem laws_big (h : Heap) (x : H0) (l : List Int) (hx : Code0 h x l) : HCalls dm Tryz.prog 22 [.s x] h (fun r h' => r = B (decide ((l.length : Int) > 1048576)) ∧ h' = h) := by
  refine calls_of_hFun (m := 0) kd_ok mixed Tryz.func22 rfl (by kernel_rfl) rfl rfl (of_decide_eq_true rfl) ?_; unfold hFun; (conv => whnf)
  refine ⟨rfl, hx.len ?_⟩
  (conv => whnf)
  exact ⟨rfl, rfl⟩

theorem laws_sameInts (h : Heap) (x y : H0) (a b : List Int) (hx : Ints h x a) (hy : Ints h y b) (ha : a.length ≤ 1048576) : HCalls dm Tryz.prog 40 [.s x, .s y] h (fun r h' => r = B (decide (a = b)) ∧ h' = h) := by
  refine calls_of_hFun (m := 0) kd_ok mixed Tryz.func40 rfl (by kernel_rfl) rfl rfl (of_decide_eq_true rfl) ?_; unfold hFun; (conv => whnf)
  refine ⟨rfl, hx.len ?_⟩
  (conv => whnf)
  refine ⟨rfl, hy.len ?_⟩
  (conv => whnf)
  refine HIf.bne (fun hne => ?_) (fun heq => ?_)
  · (conv => whnf)
    exact ⟨bEq (decide_eq_false (fun e => hne (by rw [e]))), rfl⟩
  have hll : a.length = b.length := by omega
  (conv => whnf)
  refine HLoop.intro [5] [11, 12, 13, 14, 17, 18, 19, 20, 21, 22, 23, 24, 25, 4, 15, 16, 5] (by kernel_rfl) (by kernel_rfl) (fun vs h' => ∃ i : Nat, vs = [I i] ∧ h' = h ∧ i ≤ a.length ∧ a.take i = b.take i) (fun vs _ => a.length - natAt vs 0) ⟨0, rfl, rfl, by omega, rfl⟩ ?_
  rintro vs h' ⟨i, rfl, hh, hi, hb⟩
  subst h'
  (conv => whnf)
  refine ⟨rfl, hx.len ?_⟩
  (conv => whnf)
  refine HIf.dec (fun hlt => ?_) (fun hge => ?_)
  · (conv => whnf)
    refine Or.inl (And.intro (show Region.lexB _ _ = true by kernel_rfl) ?_); (conv => whnf)
    refine ⟨rfl, hx.idxN (by omega) (fun p hp => ?_)⟩
    (conv => whnf)
    refine ⟨rfl, hp.load ?_⟩
    (conv => whnf)
    refine ⟨rfl, hy.idxN (by omega) (fun p2 hp2 => ?_)⟩
    (conv => whnf)
    refine ⟨rfl, hp2.load ?_⟩
    (conv => whnf)
    refine HIf.bne (fun hne => ?_) (fun heq2 => ?_)
    · (conv => whnf)
      exact ⟨bEq (decide_eq_false (fun e => hne (by rw [e]))), rfl⟩
    · (conv => whnf)
      refine HArith.fits (by omega) (by omega) ?_
      (conv => whnf)
      exact ⟨⟨i + 1, rfl, rfl, by omega, take_more (by omega) (by omega) hb heq2⟩, by show a.length - (i + 1) < a.length - i; omega⟩
  · have e : i = a.length := by omega
    subst e
    (conv => whnf)
    exact ⟨bEq (decide_eq_true (eq_of_take hll hb)), rfl⟩

end Go.Proofs.YtgliajcgcbnemaaGreatDoor.Hx

namespace Go.Proofs.YtgliajcgcbnemaaGreatDoor.Hx
open Go.RowKit
variable {dm : Bool}

theorem Bytes.lenB {h : Heap} {x : H0} {l : List Int} (H : Bytes h x l) : l.length ≤ 1048576 := H.2.1


theorem laws_at (h : Heap) (x : H0) (l : List Int) (i : Int) (hx : Bytes h x l) (h0 : 0 ≤ i) (h1 : i ≤ 1000) : HCalls dm Tryz.prog 53 [.s x, I i] h (fun r h' => ∃ n : Int, r = I n ∧ 0 ≤ n ∧ n < 256 ∧ h' = h) := by
  have hl := hx.lenB
  refine calls_of_hFun (m := 0) kd_ok mixed Tryz.func53 rfl (by kernel_rfl) rfl rfl (of_decide_eq_true rfl) ?_; unfold hFun; (conv => whnf)
  refine ⟨rfl, hx.len ?_⟩
  (conv => whnf)
  refine HIf.dec (fun hlt => ?_) (fun hge => ?_)
  · (conv => whnf)
    refine ⟨rfl, hx.idx h0 hlt (fun p n n0 n1 hp => ?_)⟩
    (conv => whnf)
    refine ⟨rfl, hp.load ?_⟩
    (conv => whnf)
    refine HConv.of ?_
    rw [wrap_byte ⟨n0, n1⟩]
    (conv => whnf)
    exact ⟨n, rfl, n0, n1, rfl⟩
  · (conv => whnf)
    refine HArith.fits (by omega) (by omega) ?_
    (conv => whnf)
    refine ⟨rfl, hx.len ?_⟩
    (conv => whnf)
    refine HArith.fits (by omega) (by omega) ?_
    (conv => whnf)
    refine HArith.fits (by omega) (by omega) ?_
    (conv => whnf)
    refine HRem.of (by decide) ?_
    (conv => whnf)
    have ht := tmod_pos (a := i * 37 + (l.length : Int) * 11) (b := 256) (by omega) (by omega)
    exact ⟨_, rfl, ht.1, ht.2, rfl⟩

end Go.Proofs.YtgliajcgcbnemaaGreatDoor.Hx

namespace Go.Proofs.YtgliajcgcbnemaaGreatDoor.Hx
open Go.RowKit
variable {dm : Bool}

/-- A weight drawn: as many numbers as the matrix has rows, or one more; small ones. -/
structure WDraw (L : List (List Int)) (w : List Int) : Prop where
  len : w.length = L.length ∨ w.length = L.length + 1
  num : ∀ n ∈ w, -1001 ≤ n ∧ n ≤ 1001
theorem WDraw.le {L : List (List Int)} {w : List Int} (h : WDraw L w) (S : Small L) : w.length ≤ 6 ∧ w ≠ [] := by
  have h1 := S.le
  have h2 := S.pos
  have h3 := h.len
  refine ⟨by omega, fun e => ?_⟩
  rw [e] at h3
  simp at h3
  omega
theorem WDraw.i64 {L : List (List Int)} {w : List Int} (h : WDraw L w) : ∀ n ∈ w, I64 n := fun n hn => by
  have := h.num n hn
  exact ⟨by omega, by omega⟩
theorem WDraw.tame {L : List (List Int)} {w : List Int} (h : WDraw L w) : ∀ k, -1001 ≤ w.getD k 0 ∧ w.getD k 0 ≤ 1001 := fun k => by
  by_cases hk : k < w.length
  · have e : w.getD k 0 = w[k] := by simp [List.getD, hk]
    rw [e]
    exact h.num _ (List.getElem_mem hk)
  · have e : w.getD k 0 = 0 := by simp [List.getD, Nat.le_of_not_lt hk]
    omega

theorem HSub.part {s : List UInt8} {lo hi : Option HV} {K : HV → Prop} (a u : Nat) (hlo : lo = none ∧ a = 0 ∨ lo = some (I a)) (hhi : hi = none ∧ u = s.length ∨ hi = some (I u)) (h1 : a ≤ u) (h2 : u ≤ s.length) (hK : K (Tx ((s.take u).drop a))) : HSub (Tx s) lo hi K := by
  refine ⟨⟨s.toArray⟩, a, u, rfl, hlo.imp id fun e => ⟨_, e⟩, ?_, h1, by rw [tx_size]; exact h2, ?_⟩
  · rw [tx_size]
    exact hhi.imp id fun e => ⟨_, e⟩
  · have e : (⟨s.toArray⟩ : ByteArray).extract a u = ⟨((s.take u).drop a).toArray⟩ := by
      apply ByteArray.ext
      apply Array.ext'
      simp only [ByteArray.data_extract, Array.toList_extract, List.extract_eq_take_drop]
      rw [List.drop_take]
    rw [e]
    exact hK
theorem byte_of (n : Int) : ∃ b : UInt8, IntKind.u8.wrap n = (b.toNat : Int) := by
  refine ⟨UInt8.ofNat (n % 256).toNat, ?_⟩
  rw [IntKind.wrap_u8, UInt8.toNat_ofNat']
  have h1 := Int.emod_nonneg n (show (256 : Int) ≠ 0 by decide)
  have h2 := Int.emod_lt_of_pos n (show (0 : Int) < 256 by decide)
  omega


set_option maxHeartbeats 1000000 in
theorem spec_l6Any (h : Heap) (y : H0) (l : List Int) (hy : Bytes h y l) : HCalls dm Tryz.prog 112 [.s y] h (fun v h' => ∃ x L z w, v = .tup [x, z] ∧ Ext h h' ∧ RowsN (fun q => q < h.length) h' x L ∧ IntsN (fun q => q < h.length) h' z w ∧ Small L ∧ WDraw L w) := by
  refine calls_of_hFun (m := 0) kd_ok mixed Tryz.func112 rfl (by kernel_rfl) rfl rfl (of_decide_eq_true rfl) ?_; unfold hFun; (conv => whnf)
  refine (spec_l1New _ _ _ hy).mono ?_
  rintro v h1 ⟨c, r, rfl, E1, hr, C1⟩
  have r1 := C1.lt
  have n1 := E1.1
  (conv => whnf)
  refine (spec_l2Any _ r _ C1).mono ?_
  rintro v h2 ⟨x, L, rfl, K2, C2, R2, S⟩
  have n2 := K2.1
  have p1 := S.pos
  have p5 := S.le
  replace R2 : RowsN (fun p => (p = r ∨ h2.length ≤ p) ∨ p < h.length) h2 x L := R2.more (fun p hp g => by omega)
  (conv => whnf)
  refine (spec_l6Weight _ r _ _ L 4 C2 (R2.more (fun p hp g => Or.inl (Or.inl g))) S.sz.1 (by omega)).mono ?_
  rintro v h3 ⟨z, w, q, rfl, K3, C3, hq, O3, hw, hb⟩
  have n3 := K3.1
  replace R2 := R2.keep (KeepN.weaken K3 (fun p e => Or.inl (Or.inl e))) (fun _ _ g => g)
  (conv => whnf)
  refine (spec_l1Below _ r _ 14 C3 (by omega)).mono ?_
  rintro v h4 ⟨m, rfl, _, _, _, K4, C4⟩
  have n4 := K4.1
  replace R2 := R2.keep (KeepN.weaken K4 (fun p e => Or.inl (Or.inl e))) (fun _ _ g => g)
  have O4 := O3.keep K4 (by omega)
  have K4 : KeepR r h1 h4 := (K2.then K3).then K4
  have W4 : WDraw L w := ⟨Or.inl hw, fun n hn => by have := hb n hn; omega⟩
  (conv => whnf)
  refine HIf.beq (fun _ => ?_) (fun _ => ?_)
  · (conv => whnf)
    refine HLit.of (xs := List.map ci [1]) rfl (ci_one _) (by decide) ?_
    (conv => whnf)
    refine ⟨rfl, rfl, HApp.litR [1] O4 (by simp; omega) (fun h7 r7 y7 B7 hr7 O7 => ?_)⟩
    have R7 := R2.keep (G := fun p => p < h.length) (KeepN.weaken (F := fun p => p = q) B7 (fun p e => Or.inl (Or.inr (by omega)))) (fun _ _ g => Or.inr g)
    have K7 : KeepR r h1 h7 := K4.trans (G := fun p => p = q) B7 (fun p hp e => by omega)
    (conv => whnf)
    exact ⟨_, _, _, _, rfl, KeepN.ext K7 (fun p e => by omega) E1, R7, ⟨O7.ints, fun p o n e g => by obtain ⟨t, e2, _⟩ := O7; rw [e2] at e; cases e; omega⟩, S, ⟨Or.inr (by simp [hw]), fun n hn => by
      rcases List.mem_append.1 hn with hn | hn
      · exact W4.num n hn
      · have := List.mem_singleton.1 hn
        omega⟩⟩
  · (conv => whnf)
    refine HIf.beq (fun _ => ?_) (fun _ => ?_)
    · (conv => whnf)
      refine HLit.of (xs := List.map ci [-1000, 1000, 1001]) rfl (ci_one _) (by decide) ?_
      have E5 := Ext.push h4 [Row.own (List.map ci [-1000, 1000, 1001])]
      have n5 : (h4 ++ [Row.own (List.map ci [-1000, 1000, 1001])]).length = h4.length + 1 := by simp
      have IN : IntsN (fun q => q = r) (h4 ++ [Row.own (List.map ci [-1000, 1000, 1001])]) (.sl h4.length 0 3) [-1000, 1000, 1001] := ⟨(OwnR.push h4 [-1000, 1000, 1001]).ints, fun q o n e g => by cases e; have g : h4.length = r := g; omega⟩
      have C5 := C4.ext E5
      have K5 := K4.ext E5
      have O5 := O4.ext E5
      replace R2 := R2.keep (KeepN.ofExt E5) (fun _ _ g => g)
      (conv => whnf)
      refine (spec_l1PickInt _ r _ _ _ C5 IN (by decide) (by decide)).mono ?_
      rintro v h6 ⟨v6, rfl, hv6, K6, C6⟩
      have n6 := K6.1
      have O6 := O5.keep K6 (by omega)
      replace R2 := R2.keep (K6.weaken (fun p e => Or.inl (Or.inl e))) (fun _ _ g => g)
      have K6 := K5.then K6
      have hv : -1001 ≤ v6 ∧ v6 ≤ 1001 := by
        simp only [List.mem_cons, List.not_mem_nil, or_false] at hv6
        omega
      (conv => whnf)
      refine ⟨rfl, O6.idx (by omega) (by omega) ?_⟩
      (conv => whnf)
      refine ⟨rfl, O6.put (o := 0) (by omega) (fun h7 B7 n7 O7 => ?_)⟩
      have R7 := R2.keep (G := fun p => p < h.length) (KeepN.weaken (F := fun p => p = q) B7 (fun p e => Or.inl (Or.inr (by omega)))) (fun _ _ g => Or.inr g)
      have K7 : KeepR r h1 h7 := K6.trans (G := fun p => p = q) B7 (fun p hp e => by omega)
      (conv => whnf)
      exact ⟨_, _, _, _, rfl, KeepN.ext K7 (fun p e => by omega) E1, R7, ⟨O7.ints, fun p o n e g => by obtain ⟨t, e2, _⟩ := O7; rw [e2] at e; cases e; omega⟩, S, ⟨Or.inl (by simp [hw]), fun n hn => by
        rcases List.mem_or_eq_of_mem_set hn with hn | hn
        · exact W4.num n hn
        · omega⟩⟩
    · (conv => whnf)
      exact ⟨_, _, _, _, rfl, KeepN.ext K4 (fun p e => by omega) E1, R2.more (fun _ _ g => Or.inr g), ⟨O4.ints, fun p o n e g => by obtain ⟨t, e2, _⟩ := O4; rw [e2] at e; cases e; omega⟩, S, W4⟩

theorem spec_DrawReflectWeight (h : Heap) (y : H0) (l : List Int) (hy : Bytes h y l) : HCalls dm Tryz.prog 47 [.s y] h (fun v h' => ∃ x L z w n, v = .tup [x, ci n, z] ∧ Ext h h' ∧ Rows h' x L ∧ Ints h' z w ∧ Small L ∧ WDraw L w ∧ -1 ≤ n ∧ n ≤ 4) := by
  refine calls_of_hFun (m := 0) kd_ok mixed Tryz.func47 rfl (by kernel_rfl) rfl rfl (of_decide_eq_true rfl) ?_; unfold hFun; (conv => whnf)
  refine (spec_l6Any _ _ _ hy).mono ?_
  rintro v h1 ⟨x, L, z, w, rfl, E, R, I1, S, W⟩
  have hm := tmod_pos (a := (l.length : Int)) (b := 5) (by omega) (by omega)
  (conv => whnf)
  refine ⟨rfl, (hy.ext E).len ?_⟩
  (conv => whnf)
  refine HRem.of (by decide) ?_
  (conv => whnf)
  refine HArith.fits (by omega) (by omega) ?_
  (conv => whnf)
  exact ⟨_, _, _, _, _, rfl, E, R.rows, I1.1, S, W, by omega, by omega⟩

theorem spec_DrawSimpleRootWeight (h : Heap) (y : H0) (l : List Int) (hy : Bytes h y l) : HCalls dm Tryz.prog 63 [.s y] h (fun v h' => ∃ x L n, v = .tup [x, ci n] ∧ Ext h h' ∧ Rows h' x L ∧ Small L) := by
  refine calls_of_hFun (m := 0) kd_ok mixed Tryz.func63 rfl (by kernel_rfl) rfl rfl (of_decide_eq_true rfl) ?_; unfold hFun; (conv => whnf)
  refine (spec_l6Any _ _ _ hy).mono ?_
  rintro v h1 ⟨x, L, z, w, rfl, E, R, I1, S, W⟩
  have hm := tmod_pos (a := (l.length : Int)) (b := 5) (by omega) (by omega)
  (conv => whnf)
  refine ⟨rfl, (hy.ext E).len ?_⟩
  (conv => whnf)
  refine HRem.of (by decide) ?_
  (conv => whnf)
  refine HArith.fits (by omega) (by omega) ?_
  (conv => whnf)
  exact ⟨_, _, _, rfl, E, R.rows, S⟩

theorem spec_DrawActOnWeight (h : Heap) (y : H0) (l : List Int) (hy : Bytes h y l) : HCalls dm Tryz.prog 57 [.s y] h (fun v h' => ∃ x L u t z w, v = .tup [x, u, z] ∧ Ext h h' ∧ Rows h' x L ∧ Ints h' u t ∧ Ints h' z w ∧ Small L ∧ t.length ≤ 8 ∧ WDraw L w) := by
  refine calls_of_hFun (m := 0) kd_ok mixed Tryz.func57 rfl (by kernel_rfl) rfl rfl (of_decide_eq_true rfl) ?_; unfold hFun; (conv => whnf)
  refine (spec_l1New _ _ _ hy).mono ?_
  rintro v h1 ⟨c, r, rfl, E1, hr, C1⟩
  have r1 := C1.lt
  (conv => whnf)
  refine (spec_l6Any _ _ _ (hy.ext E1)).mono ?_
  rintro v h2 ⟨x, L, z, w, rfl, E2, R2, I2, S, W⟩
  have C2 := C1.ext E2
  replace R2 : RowsN (fun p => p = r) h2 x L := R2.more (fun p hp g => by omega)
  replace I2 : IntsN (fun p => p = r) h2 z w := ⟨I2.1, fun p o n e g => I2.2 p o n e (by have g : p = r := g; show p < h1.length; omega)⟩
  (conv => whnf)
  refine (spec_l5Word _ r _ _ L 8 C2 R2 S.sz.1 (by omega)).mono ?_
  rintro v h3 ⟨u, t, q, rfl, K3, C3, hq, O3, ht⟩
  have E3 : Ext h h3 := KeepN.ext K3 (fun p e => by omega) (E1.trans E2)
  (conv => whnf)
  exact ⟨_, _, _, _, _, _, rfl, E3, (R2.keep K3 (fun _ _ g => g)).rows, O3.ints, (I2.keep K3 (fun _ _ g => g)).1, S, ht, W⟩

theorem spec_DrawAddWeights (h : Heap) (y : H0) (l : List Int) (hy : Bytes h y l) : HCalls dm Tryz.prog 62 [.s y] h (fun v h' => ∃ z w u t, v = .tup [z, u] ∧ Ext h h' ∧ Ints h' z w ∧ Ints h' u t ∧ w.length ≤ 6 ∧ t.length ≤ 6) := by
  refine calls_of_hFun (m := 0) kd_ok mixed Tryz.func62 rfl (by kernel_rfl) rfl rfl (of_decide_eq_true rfl) ?_; unfold hFun; (conv => whnf)
  refine (spec_l6Any _ _ _ hy).mono ?_
  rintro v h1 ⟨x, L, z, w, rfl, E1, R1, I1, S, W⟩
  have hwl := W.le S
  (conv => whnf)
  refine (spec_l1New _ _ _ (hy.ext E1)).mono ?_
  rintro v h2 ⟨c, r, rfl, E2, hr, C2⟩
  have r2 := C2.lt
  have I2 := I1.1.ext E2
  have N2 : IntsN (fun p => p = r) h2 z w := ⟨I2, fun p o n e g => by
    have h0 := I1.1
    rw [e] at h0
    have := Shows.in_lt h0
    have g : p = r := g
    omega⟩
  (conv => whnf)
  refine (spec_l2Drawn _ r _ C2).mono ?_
  rintro v h3 ⟨y3, M, rfl, K3, C3, O3, S3⟩
  have n3 := K3.1
  have N3 := N2.keep K3 (fun _ _ g => g)
  have p4 := S3.le
  (conv => whnf)
  refine (spec_l6Weight _ r _ _ M 3 C3 (O3.rowsN (fun q g1 g2 e => by omega)) (by omega) (by omega)).mono ?_
  rintro v h4 ⟨u, t, q, rfl, K4, C4, hq, O4, ht, _⟩
  have E4 : Ext h h4 := KeepN.ext (K3.then K4) (fun p e => by have := E1.1; omega) (E1.trans E2)
  (conv => whnf)
  exact ⟨_, _, _, _, rfl, E4, (N3.keep K4 (fun _ _ g => g)).1, O4.ints, hwl.1, by omega⟩

end Go.Proofs.YtgliajcgcbnemaaGreatDoor.Hx

namespace Go.Proofs.YtgliajcgcbnemaaGreatDoor.Hx
open Go.RowKit
variable {dm : Bool}


set_option maxHeartbeats 2000000 in
theorem spec_l1Spoil (h : Heap) (r : Nat) (x : H0) (s : List UInt8) (C : Cur r h x) (h0 : s ≠ []) (hs : s.length ≤ 1000) :
    HCalls dm Tryz.prog 122 [.s x, Tx s] h (fun v h' => ∃ t : List UInt8, v = Tx t ∧ KeepR r h h' ∧ Cur r h' x ∧ t.length ≤ s.length + 1) := by
  have hsz := tx_size s
  have hpos : 0 < s.length := List.length_pos_iff.2 h0
  refine calls_of_hFun (m := 0) kd_ok mixed Tryz.func122 rfl (by kernel_rfl) rfl rfl (of_decide_eq_true rfl) ?_; unfold hFun; (conv => whnf)
  refine HLenS.mk ⟨_, rfl, ?_⟩
  rw [hsz]
  (conv => whnf)
  refine HIf.beqF (by omega) ?_
  (conv => whnf)
  refine HLenS.mk ⟨_, rfl, ?_⟩
  rw [hsz]
  (conv => whnf)
  refine (spec_l1Below _ r _ _ C (by omega)).mono ?_
  rintro v h1 ⟨m, rfl, m0, m1, _, K1, C1⟩
  have m1 := m1 (by omega)
  obtain ⟨k, rfl⟩ : ∃ k : Nat, m = k := ⟨m.toNat, by omega⟩
  have hk : k < s.length := by omega
  (conv => whnf)
  refine (spec_l1Below _ r _ 4 C1 (by omega)).mono ?_
  rintro v h2 ⟨m, rfl, _, _, _, K2, C2⟩
  have K2 := K1.then K2
  (conv => whnf)
  refine HIf.beq (fun _ => ?_) (fun _ => ?_)
  · (conv => whnf)
    refine Or.inr (Or.inr (Or.inl (Exists.intro 9 (Exists.intro [0, 1, 2, 3, 4, 5, 6, 7] (Exists.intro [8] (And.intro (show heldOk _ _ _ _ = true by kernel_rfl) ?_)))))); (conv => whnf)
    refine HSub.part 0 k (Or.inl ⟨rfl, rfl⟩) (Or.inr rfl) (by omega) (by omega) ?_
    (conv => whnf)
    refine HArith.to (e' := ((k + 1 : Nat) : Int)) (by omega) (by omega) (by omega) ?_
    (conv => whnf)
    refine HSub.part (k + 1) s.length (Or.inr rfl) (Or.inl ⟨rfl, rfl⟩) (by omega) (by omega) ?_
    (conv => whnf)
    refine HStr.add (a := (s.take k).drop 0) (b := (s.take s.length).drop (k + 1)) (by simp; omega) ?_
    (conv => whnf)
    exact ⟨_, rfl, K2, C2, by simp; omega⟩
  (conv => whnf)
  refine HIf.beq (fun _ => ?_) (fun _ => ?_)
  · (conv => whnf)
    refine Or.inr (Or.inr (Or.inr (Exists.intro [0, 1, 2, 3, 9, 10, 11] (Exists.intro (Tr.one 4 (Tr.one 5 (Tr.one 6 (Tr.one 7 (Tr.one 8 (Tr.one 12 (Tr.one 13 Tr.done))))))) (And.intro (show treeAll _ _ _ = true by kernel_rfl) ?_))))); (conv => whnf)
    refine HSub.part 0 k (Or.inl ⟨rfl, rfl⟩) (Or.inr rfl) (by omega) (by omega) ?_
    (conv => whnf)
    refine HSub.part k s.length (Or.inr rfl) (Or.inl ⟨rfl, rfl⟩) (by omega) (by omega) ?_
    (conv => whnf)
    refine (spec_l1Byte _ r _ C2).mono ?_
    rintro v h3 ⟨b, rfl, _, _, K3, C3⟩
    obtain ⟨b', hb⟩ := byte_of b
    (conv => whnf)
    refine HConv.of ?_
    rw [hb]
    (conv => whnf)
    refine HLit.row rfl ?_
    (conv => whnf)
    refine ⟨5, [b'], by kernel_rfl, by kernel_rfl, by kernel_rfl, Shows.own h3.length 0 1 _ (get_new _ _) (by simp), ?_⟩
    (conv => whnf)
    refine HStr.add (a := (s.take k).drop 0) (b := [b']) (by simp; omega) ?_
    (conv => whnf)
    refine HStr.add (a := (s.take k).drop 0 ++ [b']) (b := (s.take s.length).drop k) (by simp; omega) ?_
    (conv => whnf)
    exact ⟨_, rfl, (K2.then K3).ext (Ext.push _ _), C3.ext (Ext.push _ _), by simp; omega⟩
  (conv => whnf)
  refine HIf.beq (fun _ => ?_) (fun _ => ?_)
  · (conv => whnf)
    refine HSub.part 0 k (Or.inl ⟨rfl, rfl⟩) (Or.inr rfl) (by omega) (by omega) ?_
    (conv => whnf)
    exact ⟨_, rfl, K2, C2, by simp; omega⟩
  (conv => whnf)
  refine Or.inr (Or.inr (Or.inr (Exists.intro [0, 1, 2, 3, 4, 5, 7, 15, 16, 17, 18] (Exists.intro (Tr.two 6 (Tr.one 8 (Tr.one 9 (Tr.one 10 (Tr.one 11 (Tr.one 12 (Tr.one 13 (Tr.one 14 (Tr.one 19 (Tr.one 20 Tr.done))))))))) 8 (Tr.two 6 (Tr.one 9 (Tr.one 10 (Tr.one 11 (Tr.one 12 (Tr.one 13 (Tr.one 14 (Tr.one 19 (Tr.one 20 Tr.done)))))))) 9 (Tr.one 6 (Tr.one 10 (Tr.one 11 (Tr.one 12 (Tr.one 13 (Tr.one 14 (Tr.one 19 (Tr.one 20 Tr.done)))))))))) (And.intro (show treeAll _ _ _ = true by kernel_rfl) ?_))))); (conv => whnf)
  refine HSub.part 0 k (Or.inl ⟨rfl, rfl⟩) (Or.inr rfl) (by omega) (by omega) ?_
  (conv => whnf)
  refine HByte.tx hk ?_
  (conv => whnf)
  refine HArith.to (e' := ((k + 1 : Nat) : Int)) (by omega) (by omega) (by omega) ?_
  (conv => whnf)
  refine HSub.part (k + 1) s.length (Or.inr rfl) (Or.inl ⟨rfl, rfl⟩) (by omega) (by omega) ?_
  (conv => whnf)
  (repeat' (first
    | (refine HConv.of (k := .i64) ?_; (conv => whnf))
    | (refine (spec_l1Below _ r _ 255 C2 (by omega)).mono ?_; rintro v h3 ⟨b, rfl, b0, b1, _, K3, C3⟩; have b2 := b1 (by omega); (conv => whnf))
    | (refine HXor.any (fun b3 => ?_); obtain ⟨b', hb⟩ := byte_of b3; (conv => whnf))
    | (refine HConv.of (k := .u8) ?_; rw [hb]; (conv => whnf))
    | (refine HArith.fits (by omega) (by omega) ?_; (conv => whnf))
    | (refine HLit.row rfl ?_; (conv => whnf))
    | (refine HStr.add (a := (s.take k).drop 0) (b := [b']) (by simp; omega) ?_; (conv => whnf))
    | (refine HStr.add (a := (s.take k).drop 0 ++ [b']) (b := (s.take s.length).drop (k + 1)) (by simp; omega) ?_; (conv => whnf))
    | (refine ⟨5, [b'], by kernel_rfl, by kernel_rfl, by kernel_rfl, Shows.own h3.length 0 1 _ (get_new _ _) (by simp), ?_⟩; (conv => whnf))
    | (refine And.intro ?_ ?_ <;> (conv => whnf))))
  all_goals exact ⟨_, rfl, (K2.then K3).ext (Ext.push _ _), C3.ext (Ext.push _ _), by simp; omega⟩

theorem spec_DrawParseWeight (h : Heap) (y : H0) (l : List Int) (hy : Bytes h y l) : HCalls dm Tryz.prog 60 [.s y] h (fun v h' => ∃ x L t, v = .tup [x, stc t] ∧ Ext h h' ∧ Rows h' x L ∧ Small L ∧ t.length ≤ 1000) := by
  refine calls_of_hFun (m := 0) kd_ok mixed Tryz.func60 rfl (by kernel_rfl) rfl rfl (of_decide_eq_true rfl) ?_; unfold hFun; (conv => whnf)
  refine (spec_l1New _ _ _ hy).mono ?_
  rintro v h1 ⟨c, r, rfl, E1, hr, C1⟩
  have r1 := C1.lt
  (conv => whnf)
  refine (spec_l6Any _ _ _ (hy.ext E1)).mono ?_
  rintro v h2 ⟨x, L, z, w, rfl, E2, R2, I2, S, W⟩
  obtain ⟨w6, wn⟩ := W.le S
  have C2 := C1.ext E2
  replace R2 : RowsN (fun p => p = r) h2 x L := R2.more (fun p hp g => by omega)
  have hfl := fmtV_le W.i64
  have hfn : fmtV w ≠ [] := fun e => by
    have h1 := cut_fmt wn
    rw [e] at h1
    have : w.map Lib.itoa = [[]] := h1.symm
    cases w with
    | nil => exact wn rfl
    | cons a b =>
      rw [List.map_cons] at this
      injection this with h3 _
      exact itoa_ne a h3
  (conv => whnf)
  refine (spec_FormatWeight _ _ w I2.1 W.i64 (by omega)).mono ?_
  rintro v h3 ⟨rfl, E3⟩
  have C3 := C2.ext E3
  have R3 := R2.keep (G := fun p => p = r) (KeepN.ofExt E3) (fun _ _ g => g)
  have E13 := (E1.trans E2).trans E3
  generalize fmtV w = s at *
  (conv => whnf)
  refine (spec_l1Once _ r _ 3 C3 (by omega)).mono ?_
  rintro v h4 ⟨b, rfl, K4, C4⟩
  have R4 := R3.keep K4 (fun _ _ g => g)
  have E4 : Ext h h4 := KeepN.ext K4 (fun p e => by omega) E13
  cases b with
  | true =>
    (conv => whnf)
    (repeat (first | (refine HIf.bneF rfl ?_; (conv => whnf)) | (refine HIf.yes ?_; (conv => whnf)) | (refine HIf.no ?_; (conv => whnf)) | (refine HIf.same ?_; (conv => whnf)) | (refine HIf.nsame ?_; (conv => whnf)) | (refine And.intro (show Kd.isBool _ = true from rfl) ?_; (conv => whnf))))
    refine (spec_l1Spoil _ r _ s C4 hfn (by omega)).mono ?_
    rintro v h5 ⟨t, rfl, K5, C5, ht⟩
    have E5 : Ext h h5 := KeepN.ext K5 (fun p e => by omega) E4
    (conv => whnf)
    exact ⟨_, _, t, rfl, E5, (R4.keep K5 (fun _ _ g => g)).rows, S, by omega⟩
  | false =>
    (conv => whnf)
    (repeat (first | (refine HIf.bneF rfl ?_; (conv => whnf)) | (refine HIf.yes ?_; (conv => whnf)) | (refine HIf.no ?_; (conv => whnf)) | (refine HIf.same ?_; (conv => whnf)) | (refine HIf.nsame ?_; (conv => whnf)) | (refine And.intro (show Kd.isBool _ = true from rfl) ?_; (conv => whnf))))
    exact ⟨_, _, s, rfl, E4, R4.rows, S, by omega⟩

end Go.Proofs.YtgliajcgcbnemaaGreatDoor.Hx

namespace Go.Proofs.YtgliajcgcbnemaaGreatDoor.Hx
open Go.RowKit
variable {dm : Bool}

/-- What the sort leaves in the row. -/
def sortedRow (cs : List H0) (off len : Nat) (σ : List Nat) : List H0 := cs.take off ++ σ.map (fun i => cs.getD (off + i) (ci 0)) ++ cs.drop (off + len)

end Go.Proofs.YtgliajcgcbnemaaGreatDoor.Hx

namespace Go.Proofs.YtgliajcgcbnemaaGreatDoor.Hx
open Go.RowKit
variable {dm : Bool}

def cmp1 (x y : Int) : Int := if x < y then -1 else if y < x then 1 else 0

def orOf : List Int → Int
  | [] => 0
  | a :: t => if a = 0 then orOf t else a

end Go.Proofs.YtgliajcgcbnemaaGreatDoor.Hx

namespace Go.Proofs.YtgliajcgcbnemaaGreatDoor.Hx
open Go.RowKit
variable {dm : Bool}

/-- The key of a list of at most four numbers. -/
def keyL (l : List Int) : Key := .arr (l.getD 0 0) (l.getD 1 0) (l.getD 2 0) (l.getD 3 0)
def key4 (l : List Int) : List H0 := l.map ci ++ List.replicate (4 - l.length) (ci 0)

def prCells (N : Nat) (ρ τ : Nat → Nat) (n : Nat) : List H0 := (List.range n).flatMap fun i => [.sl (ρ i) 0 N, .sl (τ i) 0 N]
def upd (ρ : Nat → Nat) (n a : Nat) : Nat → Nat := fun i => if i = n then a else ρ i
/-- The program's memory while it collects roots: the box of the map, the box of the height, the box of the list; the map; the list; the roots' and the coroots' rows. -/
structure Prs (b bm bh bl m q : Nat) (ht : Int) (N : Nat) (ρ τ : Nat → Nat) (Q T : List (List Int)) (h : Heap) : Prop where
  gm : h[bm]? = some (.own [.mp m])
  gh : h[bh]? = some (.own [ci ht])
  gl : h[bl]? = some (.own [.sw 2 q 0 Q.length])
  mp : ∃ ks, h[m]? = some (.keys false ks) ∧ ∀ k, k ∈ ks ↔ ∃ l ∈ Q, k = keyL l
  ls : h[q]? = some (.own (prCells N ρ τ Q.length))
  rt : ∀ i, i < Q.length → (Q.getD i []).length = N ∧ ∃ t, h[ρ i]? = some (.own ((Q.getD i []).map ci ++ t))
  ct : ∀ i, i < Q.length → (T.getD i []).length = N ∧ ∃ t, h[τ i]? = some (.own ((T.getD i []).map ci ++ t))
  inj : ∀ i j, i < j → j < Q.length → ρ i ≠ ρ j
  tl : T.length = Q.length
  low : b ≤ bm ∧ b ≤ bl ∧ b ≤ m ∧ b ≤ q ∧ ∀ i, i < Q.length → b ≤ ρ i

end Go.Proofs.YtgliajcgcbnemaaGreatDoor.Hx

namespace Go.Proofs.YtgliajcgcbnemaaGreatDoor.Hx
open Go.RowKit
variable {dm : Bool}

/-- An element's cells. -/
def chunk (k : Nat) (cs : List H0) (i : Nat) : List H0 := (cs.drop (k * i)).take k

end Go.Proofs.YtgliajcgcbnemaaGreatDoor.Hx

namespace Go.Proofs
open Go.Shelf
def Tryz.sortP_ren : Go.Shelf.Ren := ⟨fun | 6 => 241 | 15 => 151 | 14 => 265 | 28 => 207 | 29 => 208 | 20 => 281 | 21 => 282 | 22 => 283 | 23 => 284 | 24 => 285 | 25 => 286 | 26 => 287 | 27 => 288 | 46 => 299 | 47 => 235 | 48 => 236 | 49 => 300 | 50 => 301 | 57 => 308 | n => n, fun | 22 => 160 | 24 => 163 | 25 => 166 | 3 => 3 | 39 => 99 | 0 => 0 | 53 => 139 | 55 => 141 | 4 => 4 | 46 => 133 | 45 => 132 | 50 => 116 | 5 => 5 | 9 => 9 | 66 => 154 | 70 => 158 | 76 => 181 | 77 => 182 | n => n, fun | n => n⟩
theorem Tryz.sortP : Go.Proofs.SlLaysF0.n6 Tryz.prog Tryz.sortP_ren := {
  mixed := by kernel_rfl
  f6 := ⟨Tryz.f241.name, by decide, Tryz.func241.trans (congrArg some (by kernel_rfl))⟩
  f14 := ⟨Tryz.f265.name, by decide, Tryz.func265.trans (congrArg some (by kernel_rfl))⟩
  f15 := Tryz.func151.trans (congrArg some (by kernel_rfl))
  f20 := ⟨Tryz.f281.name, by decide, Tryz.func281.trans (congrArg some (by kernel_rfl))⟩
  f21 := ⟨Tryz.f282.name, by decide, Tryz.func282.trans (congrArg some (by kernel_rfl))⟩
  f22 := ⟨Tryz.f283.name, by decide, Tryz.func283.trans (congrArg some (by kernel_rfl))⟩
  f23 := ⟨Tryz.f284.name, by decide, Tryz.func284.trans (congrArg some (by kernel_rfl))⟩
  f24 := ⟨Tryz.f285.name, by decide, Tryz.func285.trans (congrArg some (by kernel_rfl))⟩
  f25 := ⟨Tryz.f286.name, by decide, Tryz.func286.trans (congrArg some (by kernel_rfl))⟩
  f26 := ⟨Tryz.f287.name, by decide, Tryz.func287.trans (congrArg some (by kernel_rfl))⟩
  f27 := ⟨Tryz.f288.name, by decide, Tryz.func288.trans (congrArg some (by kernel_rfl))⟩
  f28 := Tryz.func207.trans (congrArg some (by kernel_rfl))
  f29 := Tryz.func208.trans (congrArg some (by kernel_rfl))
  f46 := ⟨Tryz.f299.name, by decide, Tryz.func299.trans (congrArg some (by kernel_rfl))⟩
  f47 := Tryz.func235.trans (congrArg some (by kernel_rfl))
  f48 := Tryz.func236.trans (congrArg some (by kernel_rfl))
  f49 := ⟨Tryz.f300.name, by decide, Tryz.func300.trans (congrArg some (by kernel_rfl))⟩
  f50 := ⟨Tryz.f301.name, by decide, Tryz.func301.trans (congrArg some (by kernel_rfl))⟩
  f57 := ⟨Tryz.f308.name, by decide, Tryz.func308.trans (congrArg some (by kernel_rfl))⟩
  t0 := Tryz.underlying0
  a0 := Tryz.isAgg0
  z0 := Tryz.sizeOf0
  v0 := Tryz.zeroValue0
  t3 := Tryz.underlying3
  a3 := Tryz.isAgg3
  z3 := Tryz.sizeOf3
  v3 := Tryz.zeroValue3
  t4 := Tryz.underlying4
  a4 := Tryz.isAgg4
  z4 := Tryz.sizeOf4
  v4 := Tryz.zeroValue4
  t5 := Tryz.underlying5
  a5 := Tryz.isAgg5
  z5 := Tryz.sizeOf5
  v5 := Tryz.zeroValue5
  t9 := Tryz.underlying9
  a9 := Tryz.isAgg9
  z9 := Tryz.sizeOf9
  v9 := Tryz.zeroValue9
  t22 := Tryz.underlying160
  a22 := Tryz.isAgg160
  z22 := Tryz.sizeOf160
  v22 := Tryz.zeroValue160
  t25 := Tryz.underlying166
  a25 := Tryz.isAgg166
  z25 := Tryz.sizeOf166
  v25 := Tryz.zeroValue166
  t39 := Tryz.underlying99
  a39 := Tryz.isAgg99
  z39 := Tryz.sizeOf99
  v39 := Tryz.zeroValue99
  t45 := Tryz.underlying132
  a45 := Tryz.isAgg132
  z45 := Tryz.sizeOf132
  v45 := Tryz.zeroValue132
  t46 := Tryz.underlying133
  a46 := Tryz.isAgg133
  z46 := Tryz.sizeOf133
  v46 := Tryz.zeroValue133
  t50 := Tryz.underlying116
  a50 := Tryz.isAgg116
  z50 := Tryz.sizeOf116
  v50 := Tryz.zeroValue116
  t53 := Tryz.underlying139
  a53 := Tryz.isAgg139
  z53 := Tryz.sizeOf139
  v53 := Tryz.zeroValue139
  t55 := Tryz.underlying141
  a55 := Tryz.isAgg141
  z55 := Tryz.sizeOf141
  v55 := Tryz.zeroValue141
  t66 := Tryz.underlying154
  a66 := Tryz.isAgg154
  z66 := Tryz.sizeOf154
  v66 := Tryz.zeroValue154
  t70 := Tryz.underlying158
  a70 := Tryz.isAgg158
  z70 := Tryz.sizeOf158
  v70 := Tryz.zeroValue158
  t76 := Tryz.underlying181
  a76 := Tryz.isAgg181
  z76 := Tryz.sizeOf181
  v76 := Tryz.zeroValue181
  t77 := Tryz.underlying182
  a77 := Tryz.isAgg182
  z77 := Tryz.sizeOf182
  v77 := Tryz.zeroValue182 }
end Go.Proofs

namespace Go.Proofs.YtgliajcgcbnemaaGreatDoor.Hx
open Go.RowKit
variable {dm : Bool}

def trRow (c : List (List Int)) (i k : Nat) : List Int := (List.range k).map fun j => ent c j i
def trTo (c : List (List Int)) (k : Nat) : List (List Int) := (List.range k).map fun i => trRow c i c.length
def simples (c : List (List Int)) (k : Nat) : List (List Int) := (List.range k).map fun i => simpleRoot c (i : Nat)
end Go.Proofs.YtgliajcgcbnemaaGreatDoor.Hx

namespace Go.Proofs.YtgliajcgcbnemaaGreatDoor.Hx
open Go.RowKit
variable {dm : Bool}

/-- What the list holds while the roots are mirrored one after the other. -/
structure Coll (c : List (List Int)) (H : Int) (Q : List (List Int)) : Prop where
  nodup : Q.Nodup
  up : ∀ r ∈ Q, RootUp c H r
  simple : ∀ i, i < c.length → simpleRoot c (i : Nat) ∈ Q

def ClosedAt (c : List (List Int)) (H : Int) (Q : List (List Int)) (r : List Int) (i : Nat) : Prop := rootSign (mirror c i r) = 1 → heightOf (mirror c i r) ≤ H → mirror c i r ∈ Q

/-- A state of the memory with some list. -/
def StV (b bm bh bl m : Nat) (ht : Int) (N : Nat) (Q : List (List Int)) (h : Heap) : Prop := ∃ q ρ τ T, Prs b bm bh bl m q ht N ρ τ Q T h

def slCells (N : Nat) (ρ : Nat → Nat) (n : Nat) : List H0 := (List.range n).map fun j => .sl (ρ j) 0 N
end Go.Proofs.YtgliajcgcbnemaaGreatDoor.Hx

namespace Go.Proofs
open Go.Shelf
def Tryz.sortL_ren : Go.Shelf.Ren := ⟨fun | 6 => 86 | 15 => 151 | 14 => 150 | 28 => 207 | 29 => 208 | 20 => 199 | 21 => 200 | 22 => 201 | 23 => 202 | 24 => 203 | 25 => 204 | 26 => 205 | 27 => 206 | 46 => 234 | 47 => 235 | 48 => 236 | 49 => 237 | 50 => 238 | 57 => 264 | n => n, fun | 22 => 22 | 24 => 30 | 25 => 71 | 3 => 3 | 39 => 99 | 0 => 0 | 53 => 139 | 55 => 141 | 4 => 4 | 46 => 133 | 45 => 132 | 50 => 116 | 5 => 5 | 9 => 9 | 66 => 154 | 70 => 158 | 76 => 181 | 77 => 182 | n => n, fun | n => n⟩
theorem Tryz.sortL : Go.Proofs.SlLaysF.n6 Tryz.prog Tryz.sortL_ren := {
  mixed := by kernel_rfl
  f6 := ⟨Tryz.f86.name, by decide, Tryz.func86.trans (congrArg some (by kernel_rfl))⟩
  f14 := ⟨Tryz.f150.name, by decide, Tryz.func150.trans (congrArg some (by kernel_rfl))⟩
  f15 := Tryz.func151.trans (congrArg some (by kernel_rfl))
  f20 := ⟨Tryz.f199.name, by decide, Tryz.func199.trans (congrArg some (by kernel_rfl))⟩
  f21 := ⟨Tryz.f200.name, by decide, Tryz.func200.trans (congrArg some (by kernel_rfl))⟩
  f22 := ⟨Tryz.f201.name, by decide, Tryz.func201.trans (congrArg some (by kernel_rfl))⟩
  f23 := ⟨Tryz.f202.name, by decide, Tryz.func202.trans (congrArg some (by kernel_rfl))⟩
  f24 := ⟨Tryz.f203.name, by decide, Tryz.func203.trans (congrArg some (by kernel_rfl))⟩
  f25 := ⟨Tryz.f204.name, by decide, Tryz.func204.trans (congrArg some (by kernel_rfl))⟩
  f26 := ⟨Tryz.f205.name, by decide, Tryz.func205.trans (congrArg some (by kernel_rfl))⟩
  f27 := ⟨Tryz.f206.name, by decide, Tryz.func206.trans (congrArg some (by kernel_rfl))⟩
  f28 := Tryz.func207.trans (congrArg some (by kernel_rfl))
  f29 := Tryz.func208.trans (congrArg some (by kernel_rfl))
  f46 := ⟨Tryz.f234.name, by decide, Tryz.func234.trans (congrArg some (by kernel_rfl))⟩
  f47 := Tryz.func235.trans (congrArg some (by kernel_rfl))
  f48 := Tryz.func236.trans (congrArg some (by kernel_rfl))
  f49 := ⟨Tryz.f237.name, by decide, Tryz.func237.trans (congrArg some (by kernel_rfl))⟩
  f50 := ⟨Tryz.f238.name, by decide, Tryz.func238.trans (congrArg some (by kernel_rfl))⟩
  f57 := ⟨Tryz.f264.name, by decide, Tryz.func264.trans (congrArg some (by kernel_rfl))⟩
  t0 := Tryz.underlying0
  a0 := Tryz.isAgg0
  z0 := Tryz.sizeOf0
  v0 := Tryz.zeroValue0
  t3 := Tryz.underlying3
  a3 := Tryz.isAgg3
  z3 := Tryz.sizeOf3
  v3 := Tryz.zeroValue3
  t4 := Tryz.underlying4
  a4 := Tryz.isAgg4
  z4 := Tryz.sizeOf4
  v4 := Tryz.zeroValue4
  t5 := Tryz.underlying5
  a5 := Tryz.isAgg5
  z5 := Tryz.sizeOf5
  v5 := Tryz.zeroValue5
  t9 := Tryz.underlying9
  a9 := Tryz.isAgg9
  z9 := Tryz.sizeOf9
  v9 := Tryz.zeroValue9
  t22 := Tryz.underlying22
  a22 := Tryz.isAgg22
  z22 := Tryz.sizeOf22
  v22 := Tryz.zeroValue22
  a24 := Tryz.isAgg30
  z24 := Tryz.sizeOf30
  t25 := Tryz.underlying71
  a25 := Tryz.isAgg71
  z25 := Tryz.sizeOf71
  v25 := Tryz.zeroValue71
  t39 := Tryz.underlying99
  a39 := Tryz.isAgg99
  z39 := Tryz.sizeOf99
  v39 := Tryz.zeroValue99
  t45 := Tryz.underlying132
  a45 := Tryz.isAgg132
  z45 := Tryz.sizeOf132
  v45 := Tryz.zeroValue132
  t46 := Tryz.underlying133
  a46 := Tryz.isAgg133
  z46 := Tryz.sizeOf133
  v46 := Tryz.zeroValue133
  t50 := Tryz.underlying116
  a50 := Tryz.isAgg116
  z50 := Tryz.sizeOf116
  v50 := Tryz.zeroValue116
  t53 := Tryz.underlying139
  a53 := Tryz.isAgg139
  z53 := Tryz.sizeOf139
  v53 := Tryz.zeroValue139
  t55 := Tryz.underlying141
  a55 := Tryz.isAgg141
  z55 := Tryz.sizeOf141
  v55 := Tryz.zeroValue141
  t66 := Tryz.underlying154
  a66 := Tryz.isAgg154
  z66 := Tryz.sizeOf154
  v66 := Tryz.zeroValue154
  t70 := Tryz.underlying158
  a70 := Tryz.isAgg158
  z70 := Tryz.sizeOf158
  v70 := Tryz.zeroValue158
  t76 := Tryz.underlying181
  a76 := Tryz.isAgg181
  z76 := Tryz.sizeOf181
  v76 := Tryz.zeroValue181
  t77 := Tryz.underlying182
  a77 := Tryz.isAgg182
  z77 := Tryz.sizeOf182
  v77 := Tryz.zeroValue182 }
end Go.Proofs

namespace Go.Proofs.YtgliajcgcbnemaaGreatDoor.Hx
open Go.RowKit
variable {dm : Bool}

def inversions (c : List (List Int)) (w : List Int) : List (List Int) := if isWord c w then insR (rootsTo c (normF c w) (normF c w).length) else []

/-- How many of the first are in the second. -/
def commonTo (X Y : List (List Int)) (k : Nat) : Nat := ((X.take k).filter fun x => decide (x ∈ Y)).length
def common (c : List (List Int)) (a b : List Int) : Int := (commonTo (inversions c a) (inversions c b) (inversions c a).length : Nat)
end Go.Proofs.YtgliajcgcbnemaaGreatDoor.Hx

namespace Go.Proofs.YtgliajcgcbnemaaGreatDoor.Hx
open Go.RowKit
variable {dm : Bool}

def UpAt (c : List (List Int)) (H : Int) (Q : List (List Int)) (r : List Int) (i : Nat) : Prop := rootSign (mirror c i r) = 1 → heightOf (mirror c i r) ≤ H → heightOf r < heightOf (mirror c i r) → mirror c i r ∈ Q

end Go.Proofs.YtgliajcgcbnemaaGreatDoor.Hx
