/-
  More of rows: several slices of one's own side by side, appending to one of them, slices of slices that grow, parts of slices.
  Numbers, weights and lists of roots as texts: in plain words, and of the reference.
  DERIVED: THE SHELF's CONTRACTS AT THIS DUMP, IN PLAIN WORDS (tools/lay-plain.mjs out of 'YtgliajcgcbnemaaDoorSt.lean', which tools/lay-shelf.mjs wrote): THE SAME DECLARATIONS UNDER THE SAME NAMES: 'import', 'namespace', 'open', 'def', 'theorem' AND NOTHING ELSE: no command of the shelf's: FOR A HAND-IN. Each laying: the table of numbers ('.._ren') and one theorem, a field a fact of the dump's own or the kernel's comparison; each contract: ONE APPLICATION.
  The contract of strings.Join, led over to rows.
  The contracts of strconv.Itoa and strings.Join, led over to rows; FormatInt, FormatWeight of both sides.
  FormatRoots of both sides.
  From the model's readings of arguments to rows: a slice of ints that came in; and the end of a law: true, memory below as it was.
-/
import Derived.Test.YtgliajcgcbnemaaDoorZ07
import Derived.Lib.ItoaNum
import Derived.Lib.ItoaLen
import Derived.Lib.Join
import Derived.Shelf.Strings.OnBuilder
import Derived.Shelf.LaysM
import Derived.Shelf.Strconv.Itoa3
import Derived.Ground.NamesProg
import Derived.Test.YtgliajcgcbnemaaDoorProg
import Derived.Lib.LaidTab
import Derived.ProofKit
namespace Go.Proofs.YtgliajcgcbnemaaDoor.Hx
open Go.RowKit

/-- A slice of ints in row r, one's own. -/
def OwnR (r : Nat) (h : Heap) (x : H0) (l : List Int) : Prop := ∃ t, x = .sl r 0 l.length ∧ h[r]? = some (.own (l.map ci ++ t))

/-- All rows but r are as they were. -/
def But (r : Nat) (h h' : Heap) : Prop := h.length ≤ h'.length ∧ ∀ q, q < h.length → q ≠ r → h'[q]? = h[q]?

theorem OwnR.ints {r : Nat} {h : Heap} {x : H0} {l : List Int} (H : OwnR r h x l) : Ints h x l := by
  obtain ⟨t, rfl, hr⟩ := H
  exact Ints.ofOwn hr
theorem OwnR.lt {r : Nat} {h : Heap} {x : H0} {l : List Int} (H : OwnR r h x l) : r < h.length := by
  obtain ⟨t, rfl, hr⟩ := H
  exact get_lt hr
theorem OwnR.own {b r : Nat} {h : Heap} {x : H0} {l : List Int} (H : OwnR r h x l) (hb : b ≤ r) : Own b h.length h x l := by
  have := H.lt
  obtain ⟨t, rfl, hr⟩ := H
  exact ⟨r, t, rfl, hb, this, hr⟩
theorem Own.row {b e : Nat} {h : Heap} {x : H0} {l : List Int} (H : Own b e h x l) : ∃ r, b ≤ r ∧ r < e ∧ OwnR r h x l := by
  obtain ⟨r, t, g1, g2, g3, hr⟩ := H
  exact ⟨r, g2, g3, t, g1, hr⟩
theorem Fresh.row {h h' : Heap} {x : H0} {l : List Int} (H : Fresh h h' x l) : ∃ r, h.length ≤ r ∧ OwnR r h' x l := by
  obtain ⟨_, r, t, g1, g2, hr⟩ := H
  exact ⟨r, g2, t, g1, hr⟩
theorem Fresh.ofRow {h h' : Heap} {x : H0} {l : List Int} {r : Nat} (E : Ext h h') (H : OwnR r h' x l) (hr : h.length ≤ r) : Fresh h h' x l := by
  obtain ⟨t, g1, g2⟩ := H
  exact ⟨E, r, t, g1, hr, g2⟩
theorem OwnR.ext {r : Nat} {h h' : Heap} {x : H0} {l : List Int} (H : OwnR r h x l) (k : Ext h h') : OwnR r h' x l := by
  obtain ⟨t, g1, hr⟩ := H
  exact ⟨t, g1, k.row hr⟩
theorem OwnR.but {r q : Nat} {h h' : Heap} {x : H0} {l : List Int} (H : OwnR r h x l) (k : But q h h') (n : r ≠ q) : OwnR r h' x l := by
  have := H.lt
  obtain ⟨t, g1, hr⟩ := H
  exact ⟨t, g1, by rw [k.2 r this n]; exact hr⟩
theorem Ext.but {hb h h' : Heap} {r : Nat} (E : Ext hb h) (k : But r h h') (hr : hb.length ≤ r) : Ext hb h' :=
  ⟨Nat.le_trans E.1 k.1, fun q hq => by rw [k.2 q (Nat.lt_of_lt_of_le hq E.1) (by omega)]; exact E.2 q hq⟩
theorem But.ext {h h' h'' : Heap} {r : Nat} (E : Ext h h') (k : But r h' h'') : But r h h'' :=
  ⟨Nat.le_trans E.1 k.1, fun q hq hn => by rw [k.2 q (Nat.lt_of_lt_of_le hq E.1) hn]; exact E.2 q hq⟩
theorem OwnR.push (h : Heap) (l : List Int) : OwnR h.length (h ++ [.own (l.map ci)]) (.sl h.length 0 l.length) l := ⟨[], rfl, by rw [List.append_nil]; exact get_new _ _⟩

/-- Ints, appended to what one has. -/
theorem HApp.moreR {r : Nat} {h : Heap} {x y : H0} {l m : List Int} {K : HV → Heap → Prop} (H : OwnR r h y l) (hx : Ints h x m) (hl : l.length + m.length ≤ 2199023255552)
    (hK : ∀ h' r' y', But r h h' → h.length ≤ r' → OwnR r' h' y' (l ++ m) → K (.s y') h') : HApp h (.s y) (.s x) K := by
  obtain ⟨t, rfl, hr⟩ := H
  refine ⟨m.map ci, hx, ci_one m, l.map ci ++ t, rfl, hr, by simp, Or.inl ⟨by simpa using hl, ?_⟩⟩
  have e1 : l.length + (m.map ci).length = (l ++ m).length := by simp
  have e2 : (l.map ci ++ t).take l.length ++ m.map ci = (l ++ m).map ci := by rw [List.take_append_of_le_length (by simp), List.take_of_length_le (by simp)]; simp
  rw [e1, e2]
  refine hK _ h.length _ ⟨by simp, fun q hq hn => ?_⟩ (Nat.le_refl _) ⟨[], rfl, ?_⟩
  · rw [List.getElem?_append_left (by simpa using hq), List.getElem?_set_ne (Ne.symm hn)]
  · rw [List.getElem?_append_right (by simp)]
    simp

/-- A literal of numbers, appended to what one has. -/
theorem HApp.litR {r : Nat} {h : Heap} {y : H0} {l : List Int} (m : List Int) {K : HV → Heap → Prop} (H : OwnR r h y l) (hl : l.length + m.length ≤ 2199023255552)
    (hK : ∀ h' r' y', But r h h' → h.length ≤ r' → OwnR r' h' y' (l ++ m) → K (.s y') h') : HApp (h ++ [.own (m.map ci)]) (.s y) (.s (.sl h.length 0 m.length)) K :=
  HApp.moreR (H.ext (Ext.push _ _)) (OwnR.push h m).ints hl (fun h' r' y' k k2 k3 => hK h' r' y' (But.ext (Ext.push _ _) k) (by simp at k2; omega) k3)

/-- A slice of ints, appended to a slice of such slices. -/
theorem HApp.snocM {hb h h2 : Heap} {z y : H0} {L : List (List Int)} {l : List Int} {K : HV → Heap → Prop} (E : Ext hb h) (O : OwnM hb.length h.length h z L) (E2 : Ext h h2) (F : Own h.length h2.length h2 y l) (hl : L.length < 2199023255552)
    (hK : ∀ h' z', Ext hb h' → OwnM hb.length h'.length h' z' (L ++ [l]) → K (.s z') h') : HApp (h2 ++ [.own [y]]) (.s z) (.s (.sl h2.length 0 1)) K := by
  have l1 := E.1
  have l2 := E2.1
  obtain ⟨r, ρ, rfl, hr1, hr2, hρ, m⟩ := O
  obtain ⟨q, t, rfl, hq1, hq2, hq⟩ := F
  obtain ⟨cs, ho, hcl, hoc⟩ := m.outer
  refine ⟨[.sl q 0 l.length], ?_, by simp [H0.one], cs, rfl, (Ext.push h2 _).row (E2.row ho), hcl, Or.inl ⟨by simp; omega, ?_⟩⟩
  · have := Shows.own h2.length 0 1 _ (get_new h2 (.own [.sl q 0 l.length])) (by simp)
    simpa using this
  have e1 : L.length + [H0.sl q 0 l.length].length = (L ++ [l]).length := by simp
  rw [e1]
  have old : ∀ p, p < h2.length → p ≠ r → ((h2 ++ [Row.own [.sl q 0 l.length]]).set r .gone ++ [Row.own (cs.take L.length ++ [.sl q 0 l.length])])[p]? = h2[p]? := fun p hp hn => by
    rw [List.getElem?_append_left (by simp; omega), List.getElem?_set_ne (Ne.symm hn), List.getElem?_append_left hp]
  have gd1 : ∀ i, i < L.length → (L ++ [l]).getD i [] = L.getD i [] := fun i hi => by
    simp only [List.getD]
    rw [List.getElem?_append_left hi]
  have gd2 : (L ++ [l]).getD L.length [] = l := by simp [List.getD]
  have hE : Ext hb ((h2 ++ [Row.own [.sl q 0 l.length]]).set r .gone ++ [Row.own (cs.take L.length ++ [.sl q 0 l.length])]) := ((((E.trans E2).pushed _).set hr1 _).pushed _)
  have hlen : ((h2 ++ [Row.own [.sl q 0 l.length]]).set r .gone ++ [Row.own (cs.take L.length ++ [.sl q 0 l.length])]).length = h2.length + 2 := by simp
  refine hK _ _ hE ⟨h2.length + 1, fun i => if i < L.length then ρ i else q, by simp, by omega, by rw [hlen]; omega, fun i hi => ?_, ⟨cs.take L.length ++ [.sl q 0 l.length], ?_, by simp; omega, fun i hi => ?_⟩, fun i hi => ?_, fun i hi => ?_, fun i j hij hj => ?_⟩
  · rw [hlen]
    by_cases hi2 : i < L.length
    · have := hρ i hi2
      simp only [hi2, if_true]
      omega
    · simp only [hi2, if_false]
      omega
  · rw [List.getElem?_append_right (by simp)]
    simp
  · by_cases hi2 : i < L.length
    · rw [List.getElem?_append_left (by simp; omega), List.getElem?_take_of_lt hi2, hoc i hi2, gd1 i hi2]
      simp [hi2]
    · have e : i = L.length := by simp at hi; omega
      subst e
      rw [gd2, List.getElem?_append_right (by simp; omega)]
      have : L.length - (cs.take L.length).length = 0 := by simp; omega
      rw [this]
      simp
  · by_cases hi2 : i < L.length
    · obtain ⟨t2, ht2⟩ := m.inner i hi2
      have hb2 := hρ i hi2
      have hne := m.ne i hi2
      refine ⟨t2, ?_⟩
      rw [gd1 i hi2, if_pos hi2, old _ (by omega) hne]
      exact E2.row ht2
    · have e : i = L.length := by simp at hi; omega
      subst e
      refine ⟨t, ?_⟩
      rw [gd2, if_neg (by omega), old _ (by omega) (by omega)]
      exact hq
  · by_cases hi2 : i < L.length
    · have := hρ i hi2
      simp only [hi2, if_true]
      omega
    · simp only [hi2, if_false]
      omega
  · have hj' : j ≤ L.length := by simp at hj; omega
    have hi2 : i < L.length := by omega
    have h1 := hρ i hi2
    by_cases hj2 : j < L.length
    · simp only [hi2, hj2, if_true]
      exact m.inj i j hij hj2
    · simp only [hi2, hj2, if_true, if_false]
      omega

/-- Nothing yet: a slice of slices without an entry. -/
theorem OwnM.none (h : Heap) : OwnM h.length (h ++ [Row.own []]).length (h ++ [Row.own []]) (.sl h.length 0 0) [] :=
  ⟨h.length, fun _ => 0, rfl, Nat.le_refl _, by simp, fun i hi => by simp at hi, ⟨[], get_new _ _, Nat.le_refl _, fun i hi => by simp at hi⟩, fun i hi => by simp at hi, fun i hi => by simp at hi, fun i j _ hj => by simp at hj⟩

theorem OwnM.widen {b e e' : Nat} {h : Heap} {x : H0} {L : List (List Int)} (H : OwnM b e h x L) (k : e ≤ e') : OwnM b e' h x L := by
  obtain ⟨r, ρ, g1, g2, g3, g4, m⟩ := H
  exact ⟨r, ρ, g1, g2, by omega, fun i hi => by have := g4 i hi; omega, m⟩

theorem HLit.row {z : Value} {y : H0} {h : Heap} {K : HV → Heap → Prop} (h1 : y.one = true) (hK : K (.s (.sl h.length 0 1)) (h ++ [.own [y]])) : HLit z 1 (some [y]) h K := ⟨[y], rfl, rfl, by omega, by simpa using h1, hK⟩
theorem Own.one {b e : Nat} {h : Heap} {x : H0} {l : List Int} (H : Own b e h x l) : x.one = true := by
  obtain ⟨r, t, rfl, _⟩ := H
  rfl

theorem HLit.two {z : Value} {v u : Int} {h : Heap} {K : HV → Heap → Prop} (hK : K (.s (.sl h.length 0 2)) (h ++ [.own [ci v, ci u]])) : HLit z 2 (some [ci v, ci u]) h K := ⟨[ci v, ci u], rfl, rfl, by omega, by simp [H0.one, Value.oneCell'], hK⟩

/-- A part of a slice of ints. -/
theorem Ints.slice {h : Heap} {x : H0} {l : List Int} (H : Ints h x l) {lo hi : Option HV} {K : HV → Prop} (a u : Nat) (hlo : lo = none ∧ a = 0 ∨ lo = some (I a)) (hhi : hi = none ∧ u = l.length ∨ hi = some (I u)) (h1 : a ≤ u) (h2 : u ≤ l.length)
    (hK : ∀ y, Ints h y ((l.take u).drop a) → K (.s y)) : HSlice h (.s x) lo hi K := by
  have e1 : lo = none ∧ a = 0 ∨ ∃ k, lo = some (.s (.pl (.int k (a : Int)))) := hlo.imp id fun e => ⟨_, e⟩
  have hlen : l.length = (l.map ci).length := by simp
  have main : ∀ n, n = l.length → hi = none ∧ u = n ∨ ∃ k, hi = some (.s (.pl (.int k (u : Int)))) := fun n hn => by subst hn; exact hhi.imp id fun e => ⟨_, e⟩
  have key : ((l.map ci).take u).drop a = ((l.take u).drop a).map ci := by simp
  unfold Ints at H
  generalize hL : l.map ci = L at H hlen key
  cases H with
  | nils b c =>
    have e : l = [] := by simpa using hL
    subst e
    refine ⟨0, a, u, rfl, e1, main 0 rfl, h1, Or.inl h2, hK _ ?_⟩
    show Shows _ _ _
    simp
    exact .nils b c
  | ro r off len cs hr hl =>
    have hll : l.length = len := by simp at hlen; omega
    refine ⟨len, a, u, rfl, e1, main len hll.symm, h1, Or.inl (by omega), hK _ ?_⟩
    show Shows _ _ _
    rw [← key]
    have := Shows.ro (h := h) r (off + a) (u - a) cs hr (by omega)
    rw [List.take_take, Nat.min_eq_left (by omega), List.drop_take, List.drop_drop]
    exact this
  | own r off len cs hr hl =>
    have hll : l.length = len := by simp at hlen; omega
    refine ⟨len, a, u, rfl, e1, main len hll.symm, h1, Or.inl (by omega), hK _ ?_⟩
    show Shows _ _ _
    rw [← key]
    have := Shows.own (h := h) r (off + a) (u - a) cs hr (by omega)
    rw [List.take_take, Nat.min_eq_left (by omega), List.drop_take, List.drop_drop]
    exact this

theorem Ints.take {h : Heap} {x : H0} {l : List Int} (H : Ints h x l) {K : HV → Prop} (u : Nat) (h2 : u ≤ l.length)
    (hK : ∀ y, Ints h y (l.take u) → K (.s y)) : HSlice h (.s x) none (some (I u)) K := H.slice 0 u (Or.inl ⟨rfl, rfl⟩) (Or.inr rfl) (by omega) h2 (by simpa using hK)

end Go.Proofs.YtgliajcgcbnemaaDoor.Hx

namespace Go.Proofs.YtgliajcgcbnemaaDoor.Hx
open Go.RowKit
variable {dm : Bool}

/-- A text as a slot's value, as a cell. -/
abbrev Tx (l : List UInt8) : HV := .s (.pl (.string ⟨l.toArray⟩))
abbrev stc (l : List UInt8) : H0 := .pl (.string ⟨l.toArray⟩)

theorem bytes_app (a b : List UInt8) : (⟨a.toArray⟩ : ByteArray) ++ ⟨b.toArray⟩ = ⟨(a ++ b).toArray⟩ := by
  apply ByteArray.ext
  simp
theorem HStr.add {a b : List UInt8} {K : HV → Prop} (hl : a.length + b.length ≤ 9223372036854775807) (hK : K (Tx (a ++ b))) : HStr .add ⟨a.toArray⟩ ⟨b.toArray⟩ K :=
  ⟨.string ⟨(a ++ b).toArray⟩, fun P w => by
    have h : ¬ (((⟨a.toArray⟩ : ByteArray).size + (⟨b.toArray⟩ : ByteArray).size : Nat) : Int) > IntKind.i64.max := by
      have e1 : (⟨a.toArray⟩ : ByteArray).size = a.length := by simp [ByteArray.size]
      have e2 : (⟨b.toArray⟩ : ByteArray).size = b.length := by simp [ByteArray.size]
      rw [e1, e2, show IntKind.i64.max = 9223372036854775807 from rfl]
      omega
    simp only [Op.stringOp, if_neg h, bytes_app]
    rfl, hK⟩
theorem HStr.neqS {a b : List UInt8} {K : HV → Prop} (hK : K (B (!(a == b)))) : HStr .neq ⟨a.toArray⟩ ⟨b.toArray⟩ K :=
  ⟨.bool (!(a == b)), fun P w => by
    have e : ((⟨a.toArray⟩ : ByteArray).toList == (⟨b.toArray⟩ : ByteArray).toList) = (a == b) := by
      simp
    simp only [Op.stringOp, e]
    rfl, hK⟩

/-! ### Digits -/

theorem tmod10 (m : Int) : (m.tmod 10 < 0 → 0 - m.tmod 10 = ((m.natAbs % 10 : Nat) : Int)) ∧ (¬ m.tmod 10 < 0 → m.tmod 10 = ((m.natAbs % 10 : Nat) : Int)) := by
  cases m with
  | ofNat a =>
    have e : (Int.ofNat a).tmod 10 = ((a % 10 : Nat) : Int) := rfl
    have hn : (Int.ofNat a).natAbs = a := rfl
    have ho : Int.ofNat a = (a : Int) := rfl
    rw [e, hn]
    try rw [ho]
    omega
  | negSucc a =>
    have e : (Int.negSucc a).tmod 10 = -(((a + 1) % 10 : Nat) : Int) := rfl
    have hn : (Int.negSucc a).natAbs = a + 1 := rfl
    rw [e, hn]
    omega
theorem tdiv10 (m : Int) : (m.tdiv 10).natAbs = m.natAbs / 10 ∧ (0 ≤ m → 0 ≤ m.tdiv 10) ∧ (m ≤ 0 → m.tdiv 10 ≤ 0) := by
  cases m with
  | ofNat a =>
    have e : (Int.ofNat a).tdiv 10 = ((a / 10 : Nat) : Int) := rfl
    have hn : (Int.ofNat a).natAbs = a := rfl
    have ho : Int.ofNat a = (a : Int) := rfl
    rw [e, hn]
    try rw [ho]
    omega
  | negSucc a =>
    have e : (Int.negSucc a).tdiv 10 = -(((a + 1) / 10 : Nat) : Int) := rfl
    have hn : (Int.negSucc a).natAbs = a + 1 := rfl
    rw [e, hn]
    omega

/-- What is still to be written of a number, and what is there. -/
def restD (u : Nat) (out : List UInt8) : List UInt8 := if u = 0 then out else Lib.decDigits u ++ out
theorem restD_step {u : Nat} (h : u ≠ 0) (out : List UInt8) : restD (u / 10) (UInt8.ofNat (48 + u % 10) :: out) = restD u out := by
  unfold restD
  rw [if_neg h]
  by_cases h10 : u < 10
  · rw [if_pos (by omega), Lib.decDigits, dif_pos h10, Nat.mod_eq_of_lt h10]
    rfl
  · rw [if_neg (by omega)]
    conv => rhs; rw [Lib.decDigits, dif_neg h10]
    simp
theorem restD_len (u : Nat) (out : List UInt8) : out.length ≤ (restD u out).length := by
  unfold restD
  split
  · exact Nat.le_refl _
  · simp
theorem digit_wrap (d : Nat) (h : d < 10) : IntKind.u8.wrap (48 + (d : Int)) = ((UInt8.ofNat (48 + d)).toNat : Int) := by
  have : d = 0 ∨ d = 1 ∨ d = 2 ∨ d = 3 ∨ d = 4 ∨ d = 5 ∨ d = 6 ∨ d = 7 ∨ d = 8 ∨ d = 9 := by omega
  rcases this with rfl | rfl | rfl | rfl | rfl | rfl | rfl | rfl | rfl | rfl <;> decide

/-- A weight's text; the text of a list of roots. -/
def fmtV (v : List Int) : List UInt8 := Lib.join (v.map Lib.itoa) [44]
def fmtR (L : List (List Int)) : List UInt8 := if L.length = 0 then [110, 111, 110, 101] else Lib.join (L.map fmtV) [32]

theorem join_snoc {xs : List (List UInt8)} (x sep : List UInt8) (h : xs ≠ []) : Lib.join (xs ++ [x]) sep = Lib.join xs sep ++ sep ++ x := by
  cases xs with
  | nil => exact absurd rfl h
  | cons y r => simp [Lib.join_cons, Lib.joinTail]
theorem join_take {α : Type} (f : α → List UInt8) (sep : List UInt8) (xs : List α) {k : Nat} (h : k < xs.length) (h0 : 0 < k) : Lib.join ((xs.take (k + 1)).map f) sep = Lib.join ((xs.take k).map f) sep ++ sep ++ f xs[k] := by
  rw [List.take_succ_eq_append_getElem h, List.map_append, List.map_singleton, join_snoc _ _ (by
    intro e
    have := congrArg List.length e
    simp only [List.length_map, List.length_take, List.length_nil] at this
    omega)]
theorem join_first {α : Type} (f : α → List UInt8) (sep : List UInt8) (xs : List α) (h : 0 < xs.length) : Lib.join ((xs.take 1).map f) sep = f xs[0] := by
  cases xs with
  | nil => simp at h
  | cons y r => simp [Lib.join_one]
theorem join_le (sep : List UInt8) {b : Nat} (hs : sep.length ≤ 1) : ∀ (xs : List (List UInt8)), (∀ x ∈ xs, x.length ≤ b) → (Lib.join xs sep).length ≤ (b + 1) * xs.length
  | [], _ => by simp [Lib.join_nil]
  | x :: r, h => by
    rw [Lib.join_cons, List.length_append, Lib.joinTail]
    have hr : ∀ (r : List (List UInt8)), (∀ x ∈ r, x.length ≤ b) → ((r.map (sep ++ ·)).flatten).length ≤ (b + 1) * r.length := by
      intro r
      induction r with
      | nil => simp
      | cons y t ih =>
        intro h
        have h1 := h y (by simp)
        have h2 := ih fun z hz => h z (by simp [hz])
        simp only [List.map_cons, List.flatten_cons, List.length_append, List.length_cons, Nat.mul_add]
        omega
    have h1 := h x (by simp)
    have h2 := hr r fun z hz => h z (by simp [hz])
    simp only [List.length_cons, Nat.mul_add]
    omega

def absAt (vs : List HV) (k : Nat) : Nat := match vs[k]? with
  | some (HV.s (H0.pl (Value.int _ m))) => m.natAbs
  | _ => 0

def I64 (n : Int) : Prop := -9223372036854775808 ≤ n ∧ n ≤ 9223372036854775807

theorem itoa_le {n : Int} (h : I64 n) : (Lib.itoa n).length ≤ 21 := Lib.itoa_length_le n h.1 h.2
theorem fmtV_le {v : List Int} (h : ∀ x ∈ v, I64 x) : (fmtV v).length ≤ 22 * v.length := by
  unfold fmtV
  have := join_le (b := 21) [44] (by simp) (v.map Lib.itoa) (fun x hx => by
    obtain ⟨n, hn, rfl⟩ := List.mem_map.1 hx
    exact itoa_le (h n hn))
  simpa using this


set_option maxHeartbeats 1000000 in
theorem spec_FormatInt (h : Heap) (n : Int) (hn : I64 n) : HCalls dm Tryd.prog 15 [I n] h (fun r h' => r = Tx (Lib.itoa n) ∧ Ext h h') := by
  obtain ⟨hn1, hn2⟩ := hn
  have htot : (Lib.decDigits n.natAbs).length ≤ 20 := by
    rw [Lib.decDigits_length]
    exact Lib.nDigits_le20 _ (by omega)
  refine calls_of_hFun (m := 0) kd_ok mixed Tryd.func15 rfl (by kernel_rfl) rfl rfl (of_decide_eq_true rfl) ?_; unfold hFun; (conv => whnf)
  refine HIf.beq (fun h0 => ?_) (fun h0 => ?_)
  · (conv => whnf)
    refine ⟨?_, Ext.refl h⟩
    subst h0
    rw [show Lib.itoa 0 = [48] by simp [Lib.itoa, Lib.decDigits_one]]
    rfl
  (conv => whnf)
  have start : restD n.natAbs [] = Lib.decDigits n.natAbs := by
    unfold restD
    rw [if_neg (by omega), List.append_nil]
  refine HLoop.intro [0, 3] [10, 11, 12, 13, 5, 14, 15, 16, 17, 5, 18, 19, 20, 21, 22, 23, 24, 3, 25, 26, 0] (by kernel_rfl) (by kernel_rfl) (fun vs h' => ∃ (m : Int) (out : List UInt8), vs = [I m, .s (stc out)] ∧ Ext h h' ∧ m.natAbs ≤ n.natAbs ∧ (0 ≤ n → 0 ≤ m) ∧ (n ≤ 0 → m ≤ 0) ∧ restD m.natAbs out = Lib.decDigits n.natAbs) (fun vs _ => absAt vs 0) ⟨n, [], rfl, Ext.refl h, Nat.le_refl _, fun e => e, fun e => e, start⟩ ?_
  clear start
  rintro vs h' ⟨m, out, rfl, E, hm, hp, hg, hr⟩
  have hol := restD_len m.natAbs out
  rw [hr] at hol
  (conv => whnf)
  refine HIf.bne (fun hm0 => ?_) (fun hm0 => ?_)
  · have hst := restD_step (u := m.natAbs) (by omega) out
    rw [hr] at hst
    obtain ⟨hdv, hdp, hdn⟩ := tdiv10 m
    obtain ⟨t1, t2⟩ := tmod10 m
    have hlt : m.natAbs % 10 < 10 := Nat.mod_lt _ (by decide)
    have hdw := digit_wrap (m.natAbs % 10) hlt
    have hb1 : (m.tdiv 10).natAbs < m.natAbs := by rw [hdv]; omega
    rw [← hdv] at hst
    generalize m.natAbs % 10 = d at *
    have go : ∀ (K : HV → Prop), (K (I (d : Int))) → True := fun _ _ => trivial
    clear go
    (conv => whnf)
    refine HRem.of (by decide) ?_
    (conv => whnf)
    refine HIf.dec (fun hneg => ?_) (fun hpos => ?_)
    · have e1 := t1 hneg
      (conv => whnf)
      refine HArith.fits (by omega) (by omega) ?_
      rw [e1]
      (conv => whnf)
      refine HArith.fits (by omega) (by omega) ?_
      (conv => whnf)
      refine ⟨.i64, _, rfl, ?_⟩
      rw [hdw]
      (conv => whnf)
      refine HLit.row rfl ?_
      (conv => whnf)
      refine ⟨5, [UInt8.ofNat (48 + d)], by kernel_rfl, by kernel_rfl, by kernel_rfl, ?_, ?_⟩
      · exact Shows.own h'.length 0 1 _ (get_new _ _) (by simp)
      (conv => whnf)
      refine HStr.add (a := [UInt8.ofNat (48 + d)]) (b := out) (by simp; omega) ?_
      (conv => whnf)
      refine HQuo.of (by decide) ?_
      have hw : IntKind.i64.wrap (m.tdiv 10) = m.tdiv 10 := IntWalk.i64_in _ ⟨by omega, by omega⟩
      rw [hw]
      (conv => whnf)
      exact ⟨⟨m.tdiv 10, _, rfl, E.pushed _, by omega, fun e => hdp (hp e), fun e => hdn (hg e), hst⟩, hb1⟩
    · have e1 := t2 hpos
      rw [e1]
      (conv => whnf)
      refine HArith.fits (by omega) (by omega) ?_
      (conv => whnf)
      refine ⟨.i64, _, rfl, ?_⟩
      rw [hdw]
      (conv => whnf)
      refine HLit.row rfl ?_
      (conv => whnf)
      refine ⟨5, [UInt8.ofNat (48 + d)], by kernel_rfl, by kernel_rfl, by kernel_rfl, ?_, ?_⟩
      · exact Shows.own h'.length 0 1 _ (get_new _ _) (by simp)
      (conv => whnf)
      refine HStr.add (a := [UInt8.ofNat (48 + d)]) (b := out) (by simp; omega) ?_
      (conv => whnf)
      refine HQuo.of (by decide) ?_
      have hw : IntKind.i64.wrap (m.tdiv 10) = m.tdiv 10 := IntWalk.i64_in _ ⟨by omega, by omega⟩
      rw [hw]
      (conv => whnf)
      exact ⟨⟨m.tdiv 10, _, rfl, E.pushed _, by omega, fun e => hdp (hp e), fun e => hdn (hg e), hst⟩, hb1⟩
  · subst hm0
    have ho : out = Lib.decDigits n.natAbs := by
      rw [← hr]
      rfl
    subst ho
    (conv => whnf)
    refine HIf.dec (fun hneg => ?_) (fun hpos => ?_)
    · (conv => whnf)
      refine HStr.add (a := [45]) (by simp; omega) ?_
      (conv => whnf)
      refine ⟨?_, E⟩
      rw [Lib.itoa, if_pos hneg]
      rfl
    · (conv => whnf)
      refine ⟨?_, E⟩
      rw [Lib.itoa, if_neg hpos, show n.toNat = n.natAbs by omega]
      rfl

end Go.Proofs.YtgliajcgcbnemaaDoor.Hx

namespace Go.Proofs
open Go.Shelf
def Tryd.joinL_ren : Go.Shelf.Ren := ⟨fun | 156 => 13 | 165 => 17 | 166 => 18 | 169 => 19 | 240 => 21 | 241 => 22 | 276 => 24 | 277 => 25 | n => n, fun | 31 => 32 | 9 => 9 | 3 => 3 | 4 => 4 | 0 => 0 | 20 => 20 | 72 => 40 | 76 => 44 | 70 => 37 | 37 => 38 | 75 => 43 | 127 => 47 | 164 => 48 | 5 => 5 | 80 => 46 | n => n, fun | n => n⟩
theorem Tryd.joinL : Go.Proofs.Lays.n156 Tryd.prog Tryd.joinL_ren := {
  mixed := by kernel_rfl
  f156 := Tryd.func13.trans (congrArg some (by kernel_rfl))
  f165 := Tryd.func17.trans (congrArg some (by kernel_rfl))
  f166 := Tryd.func18.trans (congrArg some (by kernel_rfl))
  f169 := Tryd.func19.trans (congrArg some (by kernel_rfl))
  f240 := Tryd.func21.trans (congrArg some (by kernel_rfl))
  f241 := Tryd.func22.trans (congrArg some (by kernel_rfl))
  f276 := Tryd.func24.trans (congrArg some (by kernel_rfl))
  f277 := Tryd.func25.trans (congrArg some (by kernel_rfl))
  t0 := Tryd.underlying0
  a0 := Tryd.isAgg0
  z0 := Tryd.sizeOf0
  v0 := Tryd.zeroValue0
  t3 := Tryd.underlying3
  a3 := Tryd.isAgg3
  z3 := Tryd.sizeOf3
  v3 := Tryd.zeroValue3
  t4 := Tryd.underlying4
  a4 := Tryd.isAgg4
  z4 := Tryd.sizeOf4
  v4 := Tryd.zeroValue4
  t9 := Tryd.underlying9
  a9 := Tryd.isAgg9
  z9 := Tryd.sizeOf9
  v9 := Tryd.zeroValue9
  t20 := Tryd.underlying20
  a20 := Tryd.isAgg20
  z20 := Tryd.sizeOf20
  v20 := Tryd.zeroValue20
  t31 := Tryd.underlying32
  a31 := Tryd.isAgg32
  z31 := Tryd.sizeOf32
  v31 := Tryd.zeroValue32
  t37 := Tryd.underlying38
  a37 := Tryd.isAgg38
  z37 := Tryd.sizeOf38
  v37 := Tryd.zeroValue38
  t70 := Tryd.underlying37
  a70 := Tryd.isAgg37
  z70 := Tryd.sizeOf37
  v70 := Tryd.zeroValue37
  t72 := Tryd.underlying40
  a72 := Tryd.isAgg40
  z72 := Tryd.sizeOf40
  v72 := Tryd.zeroValue40
  t75 := Tryd.underlying43
  a75 := Tryd.isAgg43
  z75 := Tryd.sizeOf43
  v75 := Tryd.zeroValue43
  t76 := Tryd.underlying44
  a76 := Tryd.isAgg44
  z76 := Tryd.sizeOf44
  v76 := Tryd.zeroValue44
  t127 := Tryd.underlying47
  a127 := Tryd.isAgg47
  z127 := Tryd.sizeOf47
  v127 := Tryd.zeroValue47
  t164 := Tryd.underlying48
  a164 := Tryd.isAgg48
  z164 := Tryd.sizeOf48
  v164 := Tryd.zeroValue48 }
theorem Tryd.joinX : Builder.Extra Tryd.prog Tryd.joinL_ren := {
  sizeBuilder := by kernel_rfl
  liesBuilder := by kernel_rfl
  t5 := Tryd.underlying5
  a5 := Tryd.isAgg5
  z5 := Tryd.sizeOf5
  v5 := Tryd.zeroValue5
  infoByte := by kernel_rfl
  cellsByte := by kernel_rfl
  sizeByte := by kernel_rfl
  neB5 := by decide }
def Tryd.itoaL_ren : Go.Shelf.Ren := ⟨fun | 171 => 23 | 243 => 26 | 246 => 27 | 283 => 28 | 284 => 29 | 285 => 30 | 286 => 31 | 129 => 33 | 317 => 32 | 318 => 34 | 319 => 35 | 320 => 36 | 337 => 37 | 338 => 38 | n => n, fun | 3 => 3 | 9 => 9 | 2 => 2 | 4 => 4 | 171 => 52 | 0 => 0 | 53 => 53 | 37 => 38 | 5 => 5 | 173 => 56 | 212 => 60 | 51 => 61 | 20 => 20 | 213 => 62 | 46 => 64 | 232 => 67 | 233 => 68 | n => n, fun | 17 => 1 | 18 => 2 | 19 => 3 | n => n⟩
theorem Tryd.itoaL : Go.Proofs.LaysM.n171 Tryd.prog Tryd.itoaL_ren := {
  mixed := by kernel_rfl
  f129 := Tryd.func33.trans (congrArg some (by kernel_rfl))
  f171 := Tryd.func23.trans (congrArg some (by kernel_rfl))
  f243 := Tryd.func26.trans (congrArg some (by kernel_rfl))
  f246 := Tryd.func27.trans (congrArg some (by kernel_rfl))
  f283 := Tryd.func28.trans (congrArg some (by kernel_rfl))
  f284 := Tryd.func29.trans (congrArg some (by kernel_rfl))
  f285 := Tryd.func30.trans (congrArg some (by kernel_rfl))
  f286 := Tryd.func31.trans (congrArg some (by kernel_rfl))
  f317 := Tryd.func32.trans (congrArg some (by kernel_rfl))
  f318 := Tryd.func34.trans (congrArg some (by kernel_rfl))
  f319 := Tryd.func35.trans (congrArg some (by kernel_rfl))
  f320 := Tryd.func36.trans (congrArg some (by kernel_rfl))
  f337 := Tryd.func37.trans (congrArg some (by kernel_rfl))
  f338 := Tryd.func38.trans (congrArg some (by kernel_rfl))
  t0 := Tryd.underlying0
  a0 := Tryd.isAgg0
  z0 := Tryd.sizeOf0
  v0 := Tryd.zeroValue0
  t2 := Tryd.underlying2
  a2 := Tryd.isAgg2
  z2 := Tryd.sizeOf2
  v2 := Tryd.zeroValue2
  t3 := Tryd.underlying3
  a3 := Tryd.isAgg3
  z3 := Tryd.sizeOf3
  v3 := Tryd.zeroValue3
  t4 := Tryd.underlying4
  a4 := Tryd.isAgg4
  z4 := Tryd.sizeOf4
  v4 := Tryd.zeroValue4
  t5 := Tryd.underlying5
  a5 := Tryd.isAgg5
  z5 := Tryd.sizeOf5
  v5 := Tryd.zeroValue5
  t9 := Tryd.underlying9
  a9 := Tryd.isAgg9
  z9 := Tryd.sizeOf9
  v9 := Tryd.zeroValue9
  t20 := Tryd.underlying20
  a20 := Tryd.isAgg20
  z20 := Tryd.sizeOf20
  v20 := Tryd.zeroValue20
  t37 := Tryd.underlying38
  a37 := Tryd.isAgg38
  z37 := Tryd.sizeOf38
  v37 := Tryd.zeroValue38
  t46 := Tryd.underlying64
  a46 := Tryd.isAgg64
  z46 := Tryd.sizeOf64
  v46 := Tryd.zeroValue64
  t51 := Tryd.underlying61
  a51 := Tryd.isAgg61
  z51 := Tryd.sizeOf61
  v51 := Tryd.zeroValue61
  t53 := Tryd.underlying53
  a53 := Tryd.isAgg53
  z53 := Tryd.sizeOf53
  v53 := Tryd.zeroValue53
  t171 := Tryd.underlying52
  a171 := Tryd.isAgg52
  z171 := Tryd.sizeOf52
  v171 := Tryd.zeroValue52
  t173 := Tryd.underlying56
  a173 := Tryd.isAgg56
  z173 := Tryd.sizeOf56
  v173 := Tryd.zeroValue56
  t212 := Tryd.underlying60
  a212 := Tryd.isAgg60
  z212 := Tryd.sizeOf60
  v212 := Tryd.zeroValue60
  t213 := Tryd.underlying62
  a213 := Tryd.isAgg62
  z213 := Tryd.sizeOf62
  t232 := Tryd.underlying67
  a232 := Tryd.isAgg67
  z232 := Tryd.sizeOf67
  v232 := Tryd.zeroValue67
  t233 := Tryd.underlying68
  a233 := Tryd.isAgg68
  z233 := Tryd.sizeOf68
  v233 := Tryd.zeroValue68
  g17 := by kernel_rfl
  g18 := by kernel_rfl
  g19 := by kernel_rfl
  i0 := by kernel_rfl
  i2 := by kernel_rfl
  i3 := by kernel_rfl
  i4 := by kernel_rfl
  i5 := by kernel_rfl
  i9 := by kernel_rfl
  i20 := by kernel_rfl
  i37 := by kernel_rfl
  i46 := by kernel_rfl
  i51 := by kernel_rfl
  i53 := by kernel_rfl
  i171 := by kernel_rfl
  i173 := by kernel_rfl
  i212 := by kernel_rfl
  i232 := by kernel_rfl
  i233 := by kernel_rfl
  m17 := by kernel_rfl
  m18 := by kernel_rfl
  m19 := by kernel_rfl }
end Go.Proofs

namespace Go.Proofs.YtgliajcgcbnemaaDoor.Hx
open Go.RowKit
variable {dm : Bool}

theorem lat_grow {B0 : Nat} {w : World} (hb : B0 ≤ w.heap.size) (k : Nat) (os : Array Obj) : Lat dm B0 w (Go.Sort.grow (w.drewN k) os) :=
  ⟨⟨rfl, rfl, rfl, by simp [Go.Sort.grow, World.drewN], fun q hq => by
    show (w.heap ++ os)[q]? = _
    rw [Array.getElem?_append_left (by omega)]⟩, fun _ => by show w.drawn ≤ w.drawn + k; omega⟩

theorem strs_back (xs : List (List UInt8)) : (xs.map fun l => (⟨l.toArray⟩ : ByteArray)).map (·.data.toList) = xs := by
  rw [List.map_map]
  conv => rhs; rw [← List.map_id xs]
  refine List.map_congr_left fun l _ => ?_
  simp

theorem lib_Join (h : Heap) (r : Nat) (xs : List (List UInt8)) (sep : List UInt8) (t : List H0) (hr : h[r]? = some (.own (xs.map stc ++ t))) (hN : xs.length ≤ 1048576) (hlen : (Lib.join xs sep).length ≤ 140737488355328) :
    HCalls false Tryd.prog 13 [.s (.sl r 0 xs.length), Tx sep] h (fun z h' => z = Tx (Lib.join xs sep) ∧ h' = h) := by
  refine ⟨enters_of Tryd.func13 (by kernel_rfl) rfl, fun B0 φ w vargs R ha => ?_⟩
  obtain ⟨p, hp⟩ := R.place hr
  obtain ⟨q1, q2, q3, cur, e, q4, q5, q6⟩ := R.own r _ p hr hp
  have hvs : ∃ u, vargs = #[u, .string ⟨sep.toArray⟩] ∧ rep0 φ (.sl r 0 xs.length) u := by
    rcases vargs with ⟨vs⟩
    match vs, ha with
    | [u, v], hh =>
      have : v = .string ⟨sep.toArray⟩ := hh.2.1
      exact ⟨u, by rw [this], hh.1⟩
  obtain ⟨u, rfl, hu⟩ := hvs
  obtain ⟨p', a, cap, hp', rfl, hc1, hc2, hc3, hc4⟩ := hu
  obtain rfl : p' = p := Option.some.inj (hp'.symm.trans hp)
  have fin : ∀ w', Below w.heap.size w w' → ∃ v x h' φ', Ending.returned (.string ⟨(Lib.join xs sep).toArray⟩) = .returned v ∧ (x = Tx (Lib.join xs sep) ∧ h' = h) ∧ Sub φ φ' ∧ Rep B0 φ' h' w' ∧ repV φ' x v ∧ Lat false B0 w w' := fun w' hb =>
    ⟨_, _, h, φ, rfl, ⟨rfl, rfl⟩, Sub.refl _, R.below (dm := false) ⟨hb, fun e => by cases e⟩, rfl, ⟨hb.mono R.base, fun e => by cases e⟩⟩
  by_cases h0 : xs.length = 0
  · have e0 : xs = [] := List.length_eq_zero_iff.1 h0
    subst e0
    refine (Any.strings_Join_none Tryd.joinL Tryd.joinX (some a) cap ⟨sep.toArray⟩ w).mono ?_
    rintro e' w' ⟨rfl, rfl⟩
    exact fin _ (Below.refl _ _)
  · have ha : a = ⟨p'.b, 0, none⟩ := by rw [hc4 (by omega), q1]
    subst ha
    have hblk : p'.b < w.heap.size := (Array.getElem?_eq_some_iff.1 q4).1
    have hmain := Any.strings_Join Tryd.joinL Tryd.joinX p'.b 0 cap (xs.map fun l => (⟨l.toArray⟩ : ByteArray)) ⟨sep.toArray⟩ w (fun j x hx => by
      rw [List.getElem?_map, Option.map_eq_some_iff] at hx
      obtain ⟨l, hl, rfl⟩ := hx
      have hjl : j < xs.length := (List.getElem?_eq_some_iff.1 hl).1
      have hc : (xs.map stc ++ t)[j]? = some (stc l) := by
        rw [List.getElem?_append_left (by simpa using hjl), List.getElem?_map, hl]
        rfl
      obtain ⟨v, e1, e2⟩ := q6 _ _ hc
      have e3 : v = .string ⟨l.toArray⟩ := e2
      rw [Nat.zero_add, cell_of_row w p'.b j cur e (0, 0) q4, e1, e3]) hblk (by simp; omega) (by simpa using hc1) (by
      rw [strs_back]
      exact hlen)
    rw [strs_back, List.length_map] at hmain
    refine hmain.mono ?_
    rintro e' w' ⟨rfl, hb⟩
    exact fin _ hb

/-- A text, appended to a slice of texts of one's own. -/
theorem HApp.text {h : Heap} {r q n : Nat} {xs : List (List UInt8)} {x : List UInt8} {K : HV → Heap → Prop} (hr : h[r]? = some (.own (xs.map stc))) (hq : h[q]? = some (.own [stc x])) (hn : xs.length = n) (hl : n ≤ 1048576)
    (hK : K (.s (.sl h.length 0 (n + 1))) (h.set r .gone ++ [.own ((xs ++ [x]).map stc)])) : HApp h (.s (.sl r 0 n)) (.s (.sl q 0 1)) K := by
  have hs : Shows h (.s (.sl q 0 1)) [stc x] := Shows.own q 0 1 [stc x] hq (by simp)
  refine ⟨[stc x], hs, fun c hc => ?_, xs.map stc, rfl, hr, by simp; omega, Or.inl ⟨by simp; omega, ?_⟩⟩
  · obtain rfl : c = stc x := by simpa using hc
    rfl
  · have e : (xs.map stc).take n = xs.map stc := by rw [← hn, ← List.length_map (f := stc), List.take_length]
    rw [e, ← List.map_singleton (f := stc), ← List.map_append]
    exact hK

end Go.Proofs.YtgliajcgcbnemaaDoor.Hx

namespace Go.Proofs.YtgliajcgcbnemaaDoor.Hx
open Go.RowKit
variable {dm : Bool}

theorem lib_Itoa (h : Heap) (n : Int) (hn : I64 n) : HCalls dm Tryd.prog 23 [I n] h (fun r h' => r = Tx (Lib.itoa n) ∧ h' = h) := by
  refine ⟨enters_of Tryd.func23 (by kernel_rfl) rfl, fun B0 φ w vargs R ha => ?_⟩
  have hv : vargs = #[.int .i64 n] := by
    rcases vargs with ⟨vs⟩
    match vs, ha with
    | [u], hh =>
      have : u = .int .i64 n := hh.1
      rw [this]
  subst hv
  have hmain := Any.strconv_Itoa Tryd.itoaL n hn.1 hn.2 w (by
    have h1 := (R.tab.1 _ (by unfold tabs; exact List.mem_singleton.2 rfl)).2
    unfold Lib.TabIs World.var?
    refine Eq.trans (congrArg (fun o => Option.bind o _) (show _ = some tabG by kernel_rfl)) ?_
    exact h1)
  refine hmain.mono ?_
  rintro e' w' ⟨rfl, k, os, rfl⟩
  exact ⟨_, _, h, φ, rfl, ⟨rfl, rfl⟩, Sub.refl _, R.below (lat_grow (dm := dm) (Nat.le_refl _) k os), rfl, lat_grow R.base k os⟩


theorem impl_FormatInt (h : Heap) (n : Int) (hn : I64 n) : HCalls dm Tryd.prog 20 [I n] h (fun r h' => r = Tx (Lib.itoa n) ∧ h' = h) := by
  refine calls_of_hFun (m := 0) kd_ok mixed Tryd.func20 rfl (by kernel_rfl) rfl rfl (of_decide_eq_true rfl) ?_; unfold hFun; (conv => whnf)
  refine (lib_Itoa _ _ hn).mono ?_
  rintro r h' ⟨rfl, rfl⟩
  (conv => whnf)
  exact ⟨rfl, rfl⟩

theorem impl_joinInts (h : Heap) (x : H0) (v : List Int) (sep : List UInt8) (hx : Ints h x v) (hv : ∀ n ∈ v, I64 n) (hl : v.length ≤ 1048576) (hlen : (Lib.join (v.map Lib.itoa) sep).length ≤ 140737488355328) :
    HCalls false Tryd.prog 16 [.s x, Tx sep] h (fun r h' => r = Tx (Lib.join (v.map Lib.itoa) sep) ∧ Ext h h') := by
  refine calls_of_hFun (m := 0) kd_ok mixed Tryd.func16 rfl (by kernel_rfl) rfl rfl (of_decide_eq_true rfl) ?_; unfold hFun; (conv => whnf)
  refine HLit.empty ?_
  (conv => whnf)
  have E0 := Ext.push h [Row.own []]
  refine ⟨rfl, (hx.ext E0).len ?_⟩
  (conv => whnf)
  refine HLoop.intro [11, 5] [12, 13, 14, 7, 15, 16, 17, 18, 19, 5, 20, 11] (by kernel_rfl) (by kernel_rfl) (fun vs h' => ∃ (k r : Nat), vs = [I k, .s (.sl r 0 k)] ∧ k ≤ v.length ∧ Ext h h' ∧ h.length ≤ r ∧ h'[r]? = some (.own (((v.take k).map Lib.itoa).map stc))) (fun vs _ => v.length - natAt vs 0) ⟨0, h.length, rfl, by omega, E0, Nat.le_refl _, get_new _ _⟩ ?_
  rintro vs h' ⟨k, r, rfl, hk, E, hr, hcs⟩
  (conv => whnf)
  refine HIf.dec (fun hlt => ?_) (fun hge => ?_)
  · have hkl : k < v.length := by omega
    have hin : v.getD k 0 ∈ v := by
      have e : v.getD k 0 = v[k] := by simp [List.getD, hkl]
      rw [e]
      exact List.getElem_mem hkl
    have htk : (v.take (k + 1)).map Lib.itoa = (v.take k).map Lib.itoa ++ [Lib.itoa (v.getD k 0)] := by
      rw [List.take_succ_eq_append_getElem hkl, List.map_append]
      have e : v.getD k 0 = v[k] := by simp [List.getD, hkl]
      rw [e]
      rfl
    have hkn : ((v.take k).map Lib.itoa).length = k := by simp; omega
    (conv => whnf)
    refine ⟨rfl, (hx.ext E).idxN hkl (fun p hp => ?_)⟩
    (conv => whnf)
    refine ⟨rfl, hp.load ?_⟩
    (conv => whnf)
    refine (impl_FormatInt _ _ (hv _ hin)).mono ?_
    rintro r2 h2 ⟨rfl, rfl⟩
    (conv => whnf)
    refine HLit.row (y := stc (Lib.itoa (v.getD k 0))) rfl ?_
    (conv => whnf)
    have hrl := get_lt hcs
    have hE := E.1
    refine ⟨rfl, rfl, HApp.text (by rw [List.getElem?_append_left hrl]; exact hcs) (get_new _ _) hkn (by omega) ?_⟩
    rw [← htk]
    have E2 : Ext h ((h2 ++ [Row.own [stc (Lib.itoa (v.getD k 0))]]).set r Row.gone ++ [Row.own (((v.take (k + 1)).map Lib.itoa).map stc)]) := ((E.pushed _).set hr _).pushed _
    have hnew := get_new ((h2 ++ [Row.own [stc (Lib.itoa (v.getD k 0))]]).set r Row.gone) (Row.own (((v.take (k + 1)).map Lib.itoa).map stc))
    rw [List.length_set] at hnew
    have hnl : h.length ≤ (h2 ++ [Row.own [stc (Lib.itoa (v.getD k 0))]]).length := by simp; omega
    generalize (h2 ++ [Row.own [stc (Lib.itoa (v.getD k 0))]]).length = N at *
    generalize (h2 ++ [Row.own [stc (Lib.itoa (v.getD k 0))]]).set r Row.gone ++ [Row.own (((v.take (k + 1)).map Lib.itoa).map stc)] = h3 at *
    (conv => whnf)
    refine HArith.fits (by omega) (by omega) ?_
    (conv => whnf)
    exact ⟨⟨k + 1, N, rfl, by omega, E2, hnl, hnew⟩, by show v.length - (k + 1) < v.length - k; omega⟩
  · have ek : k = v.length := by omega
    subst ek
    rw [List.take_length] at hcs
    have hj := lib_Join h' r (v.map Lib.itoa) sep [] (by rw [List.append_nil]; exact hcs) (by simpa using hl) hlen
    rw [List.length_map] at hj
    (conv => whnf)
    refine hj.mono ?_
    rintro r2 h2 ⟨rfl, rfl⟩
    (conv => whnf)
    exact ⟨rfl, E⟩

theorem impl_FormatWeight (h : Heap) (x : H0) (v : List Int) (hx : Ints h x v) (hv : ∀ n ∈ v, I64 n) (hl : v.length ≤ 1048576) :
    HCalls false Tryd.prog 12 [.s x] h (fun r h' => r = Tx (fmtV v) ∧ Ext h h') := by
  have hle := fmtV_le hv
  refine calls_of_hFun (m := 0) kd_ok mixed Tryd.func12 rfl (by kernel_rfl) rfl rfl (of_decide_eq_true rfl) ?_; unfold hFun; (conv => whnf)
  refine (impl_joinInts _ _ v [44] hx hv hl (by unfold fmtV at hle; omega)).mono ?_
  rintro r h' ⟨rfl, E⟩
  (conv => whnf)
  exact ⟨rfl, E⟩

set_option maxHeartbeats 1000000 in
theorem spec_FormatWeight (h : Heap) (x : H0) (v : List Int) (hx : Ints h x v) (hv : ∀ n ∈ v, I64 n) (hl : v.length ≤ 1048576) :
    HCalls dm Tryd.prog 10 [.s x] h (fun r h' => r = Tx (fmtV v) ∧ Ext h h') := by
  refine calls_of_hFun (m := 0) kd_ok mixed Tryd.func10 rfl (by kernel_rfl) rfl rfl (of_decide_eq_true rfl) ?_; unfold hFun; (conv => whnf)
  refine HLoop.intro [4, 3] [5, 6, 7, 8, 11, 12, 13, 14, 3, 15, 16, 17, 18, 19, 20, 21, 3, 9, 10, 4] (by kernel_rfl) (by kernel_rfl) (fun vs h' => ∃ (k : Nat) (s : List UInt8), vs = [I k, .s (stc s)] ∧ k ≤ v.length ∧ Ext h h' ∧ s = Lib.join ((v.take k).map Lib.itoa) [44]) (fun vs _ => v.length - natAt vs 0) ⟨0, [], rfl, by omega, Ext.refl h, by simp [Lib.join_nil]⟩ ?_
  rintro vs h' ⟨k, s, rfl, hk, E, hs⟩
  have hsl : s.length ≤ 22 * k := by
    have := fmtV_le (v := v.take k) (fun n hn => hv n (List.mem_of_mem_take hn))
    rw [hs]
    unfold fmtV at this
    simp only [List.length_take] at this
    omega
  (conv => whnf)
  refine ⟨rfl, (hx.ext E).len ?_⟩
  (conv => whnf)
  refine HIf.dec (fun hlt => ?_) (fun hge => ?_)
  · have hkl : k < v.length := by omega
    have ev : v.getD k 0 = v[k] := by simp [List.getD, hkl]
    have hin : I64 (v.getD k 0) := hv _ (by rw [ev]; exact List.getElem_mem hkl)
    have hil := itoa_le hin
    (conv => whnf)
    refine HIf.dec (fun h0 => ?_) (fun h0 => ?_)
    · have hst := join_take Lib.itoa [44] v hkl (by omega)
      rw [← hs, ← ev] at hst
      (conv => whnf)
      refine HStr.add (a := s) (b := [44]) (by simp; omega) ?_
      (conv => whnf)
      refine ⟨rfl, (hx.ext E).idxN hkl (fun p hp => ?_)⟩
      (conv => whnf)
      refine ⟨rfl, hp.load ?_⟩
      (conv => whnf)
      refine (spec_FormatInt _ _ hin).mono ?_
      rintro r h2 ⟨rfl, E2⟩
      (conv => whnf)
      refine HStr.add (a := s ++ [44]) (b := Lib.itoa (v.getD k 0)) (by rw [List.length_append, List.length_singleton]; omega) ?_
      (conv => whnf)
      refine HArith.fits (by omega) (by omega) ?_
      (conv => whnf)
      exact ⟨⟨k + 1, _, rfl, by omega, E.trans E2, hst.symm⟩, by show v.length - (k + 1) < v.length - k; omega⟩
    · have e0 : k = 0 := by omega
      subst e0
      have hst := join_first Lib.itoa [44] v hkl
      have hs0 : s = [] := by rw [hs]; simp [Lib.join_nil]
      subst hs0
      (conv => whnf)
      refine ⟨rfl, (hx.ext E).idxN hkl (fun p hp => ?_)⟩
      (conv => whnf)
      refine ⟨rfl, hp.load ?_⟩
      (conv => whnf)
      refine (spec_FormatInt _ _ hin).mono ?_
      rintro r h2 ⟨rfl, E2⟩
      (conv => whnf)
      refine HStr.add (a := []) (b := Lib.itoa (v.getD 0 0)) (by rw [List.length_nil]; omega) ?_
      rw [List.nil_append]
      (conv => whnf)
      refine HArith.fits (by omega) (by omega) ?_
      (conv => whnf)
      exact ⟨⟨1, _, rfl, by omega, E.trans E2, by rw [hst, ev]⟩, by show v.length - (0 + 1) < v.length - 0; omega⟩
  · have ek : k = v.length := by omega
    subst ek
    rw [List.take_length] at hs
    (conv => whnf)
    exact ⟨by rw [hs]; rfl, E⟩

end Go.Proofs.YtgliajcgcbnemaaDoor.Hx

namespace Go.Proofs.YtgliajcgcbnemaaDoor.Hx
open Go.RowKit
variable {dm : Bool}

/-- All numbers are int64. -/
def I64s (L : List (List Int)) : Prop := ∀ v ∈ L, ∀ n ∈ v, I64 n

theorem I64s.at {L : List (List Int)} (h : I64s L) {k : Nat} (hk : k < L.length) : ∀ n ∈ L.getD k [], I64 n := by
  have e : L.getD k [] = L[k] := by simp [List.getD, hk]
  rw [e]
  exact h _ (List.getElem_mem hk)
theorem fmtR_le {L : List (List Int)} (h : I64s L) (hl : L.length ≤ 1048576 ∧ tot L ≤ 1048576) : (Lib.join (L.map fmtV) [32]).length ≤ 46137344 * L.length := by
  have := join_le (b := 22 * 1048576) [32] (by simp) (L.map fmtV) (fun x hx => by
    obtain ⟨v, hv, rfl⟩ := List.mem_map.1 hx
    have h1 := fmtV_le (h v hv)
    obtain ⟨k, hk, rfl⟩ := List.getElem_of_mem hv
    have h2 := len_le_tot hk
    have e : L.getD k [] = L[k] := by simp [List.getD, hk]
    rw [e] at h2
    omega)
  simp only [List.length_map] at this
  omega


theorem impl_FormatRoots (h : Heap) (x : H0) (L : List (List Int)) (hx : Rows h x L) (hv : I64s L) (hl : L.length ≤ 1048576 ∧ tot L ≤ 1048576) :
    HCalls false Tryd.prog 7 [.s x] h (fun r h' => r = Tx (fmtR L) ∧ Ext h h') := by
  have hle := fmtR_le hv hl
  refine calls_of_hFun (m := 0) kd_ok mixed Tryd.func7 rfl (by kernel_rfl) rfl rfl (of_decide_eq_true rfl) ?_; unfold hFun; (conv => whnf)
  refine ⟨rfl, hx.len ?_⟩
  (conv => whnf)
  refine HIf.beq (fun h0 => ?_) (fun h0 => ?_)
  · (conv => whnf)
    refine ⟨?_, Ext.refl h⟩
    rw [fmtR, if_pos (by omega)]
    rfl
  have hne : L.length ≠ 0 := by omega
  (conv => whnf)
  refine HLit.empty ?_
  (conv => whnf)
  have E0 := Ext.push h [Row.own []]
  refine ⟨rfl, (hx.ext E0).len ?_⟩
  (conv => whnf)
  refine HLoop.intro [12, 3] [13, 14, 15, 5, 16, 17, 18, 19, 20, 3, 21, 12] (by kernel_rfl) (by kernel_rfl) (fun vs h' => ∃ (k r : Nat), vs = [I k, .s (.sl r 0 k)] ∧ k ≤ L.length ∧ Ext h h' ∧ h.length ≤ r ∧ h'[r]? = some (.own (((L.take k).map fmtV).map stc))) (fun vs _ => L.length - natAt vs 0) ⟨0, h.length, rfl, by omega, E0, Nat.le_refl _, get_new _ _⟩ ?_
  rintro vs h' ⟨k, r, rfl, hk, E, hr, hcs⟩
  (conv => whnf)
  refine HIf.dec (fun hlt => ?_) (fun hge => ?_)
  · have hkl : k < L.length := by omega
    have htk : (L.take (k + 1)).map fmtV = (L.take k).map fmtV ++ [fmtV (L.getD k [])] := by
      rw [List.take_succ_eq_append_getElem hkl, List.map_append]
      have e : L.getD k [] = L[k] := by simp [List.getD, hkl]
      rw [e]
      rfl
    have hkn : ((L.take k).map fmtV).length = k := by simp; omega
    have hin := hv.at hkl
    have hlt2 := len_le_tot hkl
    generalize hg : L.getD k [] = v at *
    (conv => whnf)
    refine ⟨rfl, (hx.ext E).idxN hkl (fun p y hp hy => ?_)⟩
    rw [hg] at hy
    (conv => whnf)
    refine ⟨rfl, hp.load ?_⟩
    (conv => whnf)
    refine (impl_FormatWeight _ _ v hy hin (by omega)).mono ?_
    rintro r2 h2 ⟨rfl, E2⟩
    (conv => whnf)
    refine HLit.row (y := stc (fmtV v)) rfl ?_
    (conv => whnf)
    have hrl := get_lt hcs
    have hE := E.1
    have hE2 := E2.1
    replace hcs := E2.row hcs
    replace E := E.trans E2
    refine ⟨rfl, rfl, HApp.text (by rw [List.getElem?_append_left (by omega)]; exact hcs) (get_new _ _) hkn (by omega) ?_⟩
    rw [← htk]
    have E3 : Ext h ((h2 ++ [Row.own [stc (fmtV v)]]).set r Row.gone ++ [Row.own (((L.take (k + 1)).map fmtV).map stc)]) := ((E.pushed _).set hr _).pushed _
    have hnew := get_new ((h2 ++ [Row.own [stc (fmtV v)]]).set r Row.gone) (Row.own (((L.take (k + 1)).map fmtV).map stc))
    rw [List.length_set] at hnew
    have hnl : h.length ≤ (h2 ++ [Row.own [stc (fmtV v)]]).length := by simp; omega
    generalize (h2 ++ [Row.own [stc (fmtV v)]]).length = N at *
    generalize (h2 ++ [Row.own [stc (fmtV v)]]).set r Row.gone ++ [Row.own (((L.take (k + 1)).map fmtV).map stc)] = h3 at *
    (conv => whnf)
    refine HArith.fits (by omega) (by omega) ?_
    (conv => whnf)
    exact ⟨⟨k + 1, N, rfl, by omega, E3, hnl, hnew⟩, by show L.length - (k + 1) < L.length - k; omega⟩
  · have ek : k = L.length := by omega
    subst ek
    rw [List.take_length] at hcs
    have hj := lib_Join h' r (L.map fmtV) [32] [] (by rw [List.append_nil]; exact hcs) (by simpa using hl.1) (by omega)
    rw [List.length_map] at hj
    (conv => whnf)
    refine hj.mono ?_
    rintro r2 h2 ⟨rfl, rfl⟩
    (conv => whnf)
    refine ⟨?_, E⟩
    rw [fmtR, if_neg hne]
    rfl

set_option maxHeartbeats 1000000 in
theorem spec_FormatRoots (h : Heap) (x : H0) (L : List (List Int)) (hx : Rows h x L) (hv : I64s L) (hl : L.length ≤ 1048576 ∧ tot L ≤ 1048576) :
    HCalls dm Tryd.prog 5 [.s x] h (fun r h' => r = Tx (fmtR L) ∧ Ext h h') := by
  refine calls_of_hFun (m := 0) kd_ok mixed Tryd.func5 rfl (by kernel_rfl) rfl rfl (of_decide_eq_true rfl) ?_; unfold hFun; (conv => whnf)
  refine HLoop.intro [4, 3] [5, 6, 7, 8, 11, 12, 13, 14, 3, 15, 16, 17, 18, 19, 20, 21, 3, 9, 10, 4] (by kernel_rfl) (by kernel_rfl) (fun vs h' => ∃ (k : Nat) (s : List UInt8), vs = [I k, .s (stc s)] ∧ k ≤ L.length ∧ Ext h h' ∧ s = Lib.join ((L.take k).map fmtV) [32]) (fun vs _ => L.length - natAt vs 0) ⟨0, [], rfl, by omega, Ext.refl h, by simp [Lib.join_nil]⟩ ?_
  rintro vs h' ⟨k, s, rfl, hk, E, hs⟩
  have hsl : s.length ≤ 46137344 * k := by
    have hlt : (L.take k).length = k := by simp; omega
    have := fmtR_le (L := L.take k) (fun v hv2 => hv v (List.mem_of_mem_take hv2)) ⟨by omega, by have := tot_take_le L k; omega⟩
    rw [hs]
    omega
  (conv => whnf)
  refine ⟨rfl, (hx.ext E).len ?_⟩
  (conv => whnf)
  refine HIf.dec (fun hlt => ?_) (fun hge => ?_)
  · have hkl : k < L.length := by omega
    have ev : L.getD k [] = L[k] := by simp [List.getD, hkl]
    have hin := hv.at hkl
    have hil := fmtV_le hin
    have htl := len_le_tot hkl
    (conv => whnf)
    refine HIf.dec (fun h0 => ?_) (fun h0 => ?_)
    · have hst := join_take fmtV [32] L hkl (by omega)
      rw [← hs, ← ev] at hst
      (conv => whnf)
      refine HStr.add (a := s) (b := [32]) (by rw [List.length_singleton]; omega) ?_
      (conv => whnf)
      refine ⟨rfl, (hx.ext E).idxN hkl (fun p y hp hy => ?_)⟩
      (conv => whnf)
      refine ⟨rfl, hp.load ?_⟩
      (conv => whnf)
      refine (spec_FormatWeight _ _ _ hy hin (by omega)).mono ?_
      rintro r h2 ⟨rfl, E2⟩
      (conv => whnf)
      refine HStr.add (a := s ++ [32]) (b := fmtV (L.getD k [])) (by rw [List.length_append, List.length_singleton]; omega) ?_
      (conv => whnf)
      refine HArith.fits (by omega) (by omega) ?_
      (conv => whnf)
      exact ⟨⟨k + 1, _, rfl, by omega, E.trans E2, hst.symm⟩, by show L.length - (k + 1) < L.length - k; omega⟩
    · have e0 : k = 0 := by omega
      subst e0
      have hst := join_first fmtV [32] L hkl
      have hs0 : s = [] := by rw [hs]; simp [Lib.join_nil]
      subst hs0
      (conv => whnf)
      refine ⟨rfl, (hx.ext E).idxN hkl (fun p y hp hy => ?_)⟩
      (conv => whnf)
      refine ⟨rfl, hp.load ?_⟩
      (conv => whnf)
      refine (spec_FormatWeight _ _ _ hy hin (by omega)).mono ?_
      rintro r h2 ⟨rfl, E2⟩
      (conv => whnf)
      refine HStr.add (a := []) (b := fmtV (L.getD 0 [])) (by rw [List.length_nil]; omega) ?_
      rw [List.nil_append]
      (conv => whnf)
      refine HArith.fits (by omega) (by omega) ?_
      (conv => whnf)
      exact ⟨⟨1, _, rfl, by omega, E.trans E2, by rw [hst, ev]⟩, by show L.length - (0 + 1) < L.length - 0; omega⟩
  · have ek : k = L.length := by omega
    subst ek
    rw [List.take_length] at hs
    (conv => whnf)
    refine ⟨rfl, (hx.ext E).len ?_⟩
    (conv => whnf)
    refine HIf.beq (fun h0 => ?_) (fun h0 => ?_)
    · (conv => whnf)
      refine ⟨?_, E⟩
      rw [fmtR, if_pos (by omega)]
      rfl
    · (conv => whnf)
      refine ⟨?_, E⟩
      rw [fmtR, if_neg (by omega), hs]
      rfl

end Go.Proofs.YtgliajcgcbnemaaDoor.Hx

namespace Go.Proofs.YtgliajcgcbnemaaDoor.Hx
open Go.RowKit Go.ChangeShapes Go.WideShapes Go.ChangeAt
variable {dm : Bool}

theorem Rep.start (w : World) (ht : TabAt w.heap.size w := by refine ⟨fun x hx => ?_, fun x hx => ?_, fun x hx => ?_⟩ <;> cases hx) : Rep w.heap.size [] [] w :=
  ⟨rfl, Nat.le_refl _, fun r cs p h => by simp at h, fun r cs p h => by simp at h, fun r r' cs cs' p p' _ h => by simp at h, fun r so ks p h => by simp at h, fun r r' so so' ks ks' p p' _ h => by simp at h, ht⟩

/-- A row that is only read. -/
theorem Rep.pushRo {B0 : Nat} {φ : Plan} {h : Heap} {w : World} (R : Rep B0 φ h w) (p : Place) (hb : p.b < B0) (cs : List H0) (hc : ∀ (k : Nat) (c : H0), cs[k]? = some c → ∃ v, w.cell? ⟨p.b, p.o + k, none⟩ = some v ∧ rep0 φ c v) :
    Rep B0 (φ ++ [p]) (h ++ [.ro cs]) w := by
  have hold : ∀ (r : Nat) (x : Row), r < h.length → (h ++ [Row.ro cs])[r]? = some x → h[r]? = some x := fun r x hr hx => by rw [List.getElem?_append_left hr] at hx; exact hx
  have hpl : ∀ (r : Nat) (y : Place), r < h.length → (φ ++ [p])[r]? = some y → φ[r]? = some y := fun r y hr hx => by rw [List.getElem?_append_left (by rw [R.len]; exact hr)] at hx; exact hx
  have hlast : ∀ (r : Nat) (x : Row), ¬ r < h.length → (h ++ [Row.ro cs])[r]? = some x → r = h.length ∧ x = .ro cs := fun r x hr hx => by
    rw [List.getElem?_append_right (by omega)] at hx
    have h0 : r - h.length = 0 := by
      have := (List.getElem?_eq_some_iff.1 hx).1
      simp at this
      omega
    rw [h0] at hx
    simp at hx
    exact ⟨by omega, hx.symm⟩
  have keyq : ∀ (q : Nat) (so : Bool) (ks : List Key), (h ++ [Row.ro cs])[q]? = some (.keys so ks) → q < h.length := fun q so ks hq => by
    by_cases hl : q < h.length
    · exact hl
    · cases (hlast q _ hl hq).2
  refine ⟨by simp [R.len], R.base, fun r xs y h1 h2 => ?_, fun r xs y h1 h2 => ?_, fun r r' xs xs' y y' hne h1 h1' h2 h2' => ?_, fun r so ks y h1 h2 => R.keys r so ks y (hold r _ (keyq _ _ _ h1) h1) (hpl r y (keyq _ _ _ h1) h2),
    fun r r' so so' ks ks' y y' hne h1 h1' h2 h2' => R.apartK r r' so so' ks ks' y y' hne (hold r _ (keyq _ _ _ h1) h1) (hold r' _ (keyq _ _ _ h1') h1') (hpl r y (keyq _ _ _ h1) h2) (hpl r' y' (keyq _ _ _ h1') h2'), R.tab⟩
  · by_cases hr : r < h.length
    · obtain ⟨g1, g2⟩ := R.ro r xs y (hold r _ hr h1) (hpl r y hr h2)
      refine ⟨g1, fun k c hk => ?_⟩
      obtain ⟨v, e1, e2⟩ := g2 k c hk
      exact ⟨v, e1, e2.mono (Sub.push _ _)⟩
    · obtain ⟨e1, e2⟩ := hlast r _ hr h1
      subst e1
      cases e2
      rw [← R.len, List.getElem?_append_right (Nat.le_refl _)] at h2
      simp at h2
      subst h2
      refine ⟨hb, fun k c hk => ?_⟩
      obtain ⟨v, e1, e2⟩ := hc k c hk
      exact ⟨v, e1, e2.mono (Sub.push _ _)⟩
  · by_cases hr : r < h.length
    · obtain ⟨g1, g2, g3, cur', e', g4, g5, g6⟩ := R.own r xs y (hold r _ hr h1) (hpl r y hr h2)
      refine ⟨g1, g2, g3, cur', e', g4, g5, fun k c hk => ?_⟩
      obtain ⟨v, e1, e2⟩ := g6 k c hk
      exact ⟨v, e1, e2.mono (Sub.push _ _)⟩
    · cases (hlast r _ hr h1).2
  · by_cases hr : r < h.length <;> by_cases hr' : r' < h.length
    · exact R.apart r r' xs xs' y y' hne (hold r _ hr h1) (hold r' _ hr' h1') (hpl r y hr h2) (hpl r' y' hr' h2')
    · cases (hlast r' _ hr' h1').2
    · cases (hlast r _ hr h1).2
    · cases (hlast r _ hr h1).2

/-- What opening an argument gives. -/
def Opened (φ : Plan) (h : Heap) (w : World) (v : Value) (T : Heap → H0 → Prop) : Prop := ∃ x φ' h', Sub φ φ' ∧ Ext h h' ∧ Rep w.heap.size φ' h' w ∧ rep0 φ' x v ∧ T h' x

/-- A slice of ints by its cells. -/
theorem open_cells {φ : Plan} {h : Heap} {w : World} (R : Rep w.heap.size φ h w) (ao : Option Addr) (len cap : Nat) (zs : List Int) (hl : len ≤ cap) (hm : cap ≤ maxLen) (hz : zs.length = cap) (hnone : ao = none → cap = 0)
    (hc : ∀ a, ao = some a → ∀ i, i < cap → w.cell? (a.add i) = some (.int .i64 (zs.getD i 0))) : Opened φ h w (.slice ao len cap) (fun h' x => Ints h' x (zs.take len)) := by
  by_cases h0 : len = 0
  · subst h0
    exact ⟨.pl (.slice ao 0 cap), φ, h, Sub.refl _, Ext.refl _, R, rfl, Shows.nils _ _⟩
  · cases ao with
    | none => have := hnone rfl; omega
    | some a =>
      have hc := hc a rfl
      obtain ⟨b, off, spot⟩ := a
      have hspot : spot = none := by simpa [Addr.add] using World.cell?_spot (hc 0 (by omega))
      subst hspot
      have hb : b < w.heap.size := World.block_lt_of_cell? w ⟨b, off, none⟩ (by simpa [Addr.add] using hc 0 (by omega))
      have hlen : ((zs.take len).map ci).length = len := by simp; omega
      refine ⟨.sl h.length 0 len, φ ++ [⟨b, off, cap⟩], h ++ [.ro ((zs.take len).map ci)], Sub.push _ _, Ext.push _ _, R.pushRo ⟨b, off, cap⟩ hb _ (fun k c hk => ?_), ⟨⟨b, off, cap⟩, _, _, ?_, rfl, hl, hm, by simp, fun _ => rfl⟩, ?_⟩
      · have hk2 : k < len := by have := (List.getElem?_eq_some_iff.1 hk).1; omega
        refine ⟨.int .i64 (zs.getD k 0), by rw [← addr_add]; exact hc k (by omega), ?_⟩
        rw [List.getElem?_map, List.getElem?_take_of_lt hk2, List.getElem?_eq_getElem (by omega)] at hk
        simp only [Option.map_some, Option.some.injEq] at hk
        subst hk
        show _ = _
        simp [List.getD, show k < zs.length by omega]
      · rw [← R.len, List.getElem?_append_right (Nat.le_refl _)]
        simp
      · show Shows _ _ ((zs.take len).map ci)
        generalize (zs.take len).map ci = L at hlen ⊢
        have := Shows.ro h.length 0 len _ (get_new h (.ro L)) (by omega)
        simp only [List.drop_zero] at this
        rw [List.take_of_length_le (by omega)] at this
        exact this

/-- An argument that is a slice of ints. -/
theorem open_arg_ints {H : Type} {enc : TypeId × Value → H} {P : Program} {w : World} {t e : TypeId} {v : Value} {d : DataW H} {ps : List MemPlace} {base : Nat} (ht : P.underlying t = some (.slice e)) (he : P.underlying e = some (.int .i64)) (hc : P.cellsOf e = 1)
    (hv : Value.okWide P w .any base t v) (h0 : DataW.Trod enc P w 0 (fun _ => true) true t v d ps) {φ : Plan} {h : Heap} (R : Rep w.heap.size φ h w) : ∃ l, Opened φ h w v (fun h' x => Ints h' x l) := by
  obtain ⟨a0, len, cap, rfl⟩ := okWide_slice ht hv
  obtain ⟨fuel, hf⟩ := h0
  rcases open_ints ht he hc hf with ⟨hcs, hx⟩ | ⟨a, len', cap', zs, hcs, _, hl, hm, hz, hx, hcell, hwz⟩
  · simp [Value.cells] at hcs
    obtain ⟨rfl, rfl, rfl⟩ := hcs
    exact ⟨_, open_cells R none 0 0 [] (Nat.le_refl _) (by unfold maxLen; omega) rfl (fun _ => rfl) (fun a h => by cases h)⟩
  · simp [Value.cells] at hcs
    obtain ⟨rfl, rfl, rfl⟩ := hcs
    simp only [if_true] at hz
    exact ⟨_, open_cells R (some a) len cap zs hl hm hz (fun h => by cases h) (fun a' h => by cases h; exact fun i hi => hcell i (by omega))⟩

/-- The end of a law: it comes back true, and memory that was there is as it was. -/
theorem law_calls {P : Program} {k : FuncId} {args : List HV} {h : Heap} {φ : Plan} {w : World} {vargs : Array Value} (H : HCalls false P k args h (fun r _ => r = B true)) (R : Rep w.heap.size φ h w) (ha : repVs φ args vargs.toList) :
    Calls P k vargs w fun e w' => e = .returned (.bool true) ∧ Below w.heap.size w w' :=
  (H.out _ φ w vargs R ha).mono (by
    rintro e w' ⟨v, x, h', φ', rfl, rfl, g2, g3, g4, g5⟩
    have hv := rep0_pl g4
    subst hv
    exact ⟨rfl, g5.toBelow⟩)

theorem own : ownKnob Tryd.prog.godebug = none := by kernel_rfl
theorem laidOut : laidOutB Tryd.prog = true := by kernel_rfl

end Go.Proofs.YtgliajcgcbnemaaDoor.Hx
