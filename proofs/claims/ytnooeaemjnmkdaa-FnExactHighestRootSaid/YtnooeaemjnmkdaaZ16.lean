/-
  Contracts of ReducedWords, of the program: words are spelled one after the other into a slice of slices that moves.
  slices.SortFunc over a slice of slices of ints, for the calculus of rows: the library's contract (cells sorted by a comparing function) led over to heaps of rows.
  Contracts: cmp.Compare, cmp.Or, slices.Compare, the order of roots of the program and of the reference, and the reference's insertion of a root in its place.
-/
import Derived.Test.YtnooeaemjnmkdaaZ15
import Derived.Shelf.SlSortCmp.NoneTotal
namespace Go.Proofs.Ytnooeaemjnmkdaa.Hx
open Go.RowKit
variable {dm : Bool}

/-- All rows of which F does not hold are as they were. -/
def KeepN (F : Nat → Prop) (h h' : Heap) : Prop := h.length ≤ h'.length ∧ ∀ q, q < h.length → ¬ F q → h'[q]? = h[q]?

def IntsN (F : Nat → Prop) (h : Heap) (x : H0) (l : List Int) : Prop := Ints h x l ∧ ∀ r off n, x = .sl r off n → ¬ F r

def RowsN (F : Nat → Prop) (h : Heap) (x : H0) (L : List (List Int)) : Prop :=
  ∃ xs : List H0, Shows h (.s x) xs ∧ (∀ r off n, x = .sl r off n → ¬ F r) ∧ xs.length = L.length ∧ ∀ (i : Nat) (y : H0) (l : List Int), xs[i]? = some y → L[i]? = some l → IntsN F h y l

theorem KeepN.refl (F : Nat → Prop) (h : Heap) : KeepN F h h := ⟨Nat.le_refl _, fun _ _ _ => rfl⟩
theorem KeepN.ofExt {F : Nat → Prop} {h h' : Heap} (E : Ext h h') : KeepN F h h' := ⟨E.1, fun q hq _ => E.2 q hq⟩
theorem KeepN.trans {F G : Nat → Prop} {h h' h'' : Heap} (k : KeepN F h h') (m : KeepN G h' h'') (hg : ∀ q, q < h.length → G q → F q) : KeepN F h h'' :=
  ⟨Nat.le_trans k.1 m.1, fun q hq hn => by rw [m.2 q (Nat.lt_of_lt_of_le hq k.1) (fun g => hn (hg q hq g))]; exact k.2 q hq hn⟩

theorem Shows.keep {F : Nat → Prop} {h h' : Heap} {x : H0} {l : List H0} (H : Shows h (.s x) l) (hf : ∀ r off n, x = .sl r off n → ¬ F r) (k : KeepN F h h') : Shows h' (.s x) l := by
  cases H with
  | nils a c => exact .nils a c
  | ro r off len cs hr hl => exact .ro r off len cs (by rw [k.2 r (get_lt hr) (hf _ _ _ rfl)]; exact hr) hl
  | own r off len cs hr hl => exact .own r off len cs (by rw [k.2 r (get_lt hr) (hf _ _ _ rfl)]; exact hr) hl

theorem Shows.in_lt {h : Heap} {r off n : Nat} {l : List H0} (H : Shows h (.s (.sl r off n)) l) : r < h.length := by
  cases H with
  | ro _ _ _ cs hr hl => exact get_lt hr
  | own _ _ _ cs hr hl => exact get_lt hr

theorem IntsN.keep {F G : Nat → Prop} {h h' : Heap} {x : H0} {l : List Int} (H : IntsN F h x l) (k : KeepN F h h') (hg : ∀ q, q < h.length → G q → F q) : IntsN G h' x l :=
  ⟨Shows.keep H.1 H.2 k, fun r off n e g => H.2 r off n e (hg r (by
    have := H.1
    subst e
    exact Shows.in_lt this) g)⟩

theorem RowsN.rows {F : Nat → Prop} {h : Heap} {x : H0} {L : List (List Int)} (H : RowsN F h x L) : Rows h x L := by
  obtain ⟨xs, h1, _, h3, h4⟩ := H
  exact ⟨xs, h1, h3, fun i y l a b => (h4 i y l a b).1⟩

theorem RowsN.keep {F G : Nat → Prop} {h h' : Heap} {x : H0} {L : List (List Int)} (H : RowsN F h x L) (k : KeepN F h h') (hg : ∀ q, q < h.length → G q → F q) : RowsN G h' x L := by
  obtain ⟨xs, h1, h2, h3, h4⟩ := H
  refine ⟨xs, h1.keep h2 k, fun r off n e g => h2 r off n e (hg r (by subst e; exact Shows.in_lt h1) g), h3, fun i y l a b => (h4 i y l a b).keep k hg⟩

theorem Rows.noF {h : Heap} {x : H0} {L : List (List Int)} (H : Rows h x L) : RowsN (fun _ => False) h x L := by
  obtain ⟨xs, h1, h3, h4⟩ := H
  exact ⟨xs, h1, fun _ _ _ _ g => g, h3, fun i y l a b => ⟨h4 i y l a b, fun _ _ _ _ g => g⟩⟩

theorem OwnR.keep {F : Nat → Prop} {h h' : Heap} {r : Nat} {x : H0} {l : List Int} (H : OwnR r h x l) (k : KeepN F h h') (hf : ¬ F r) : OwnR r h' x l := by
  have hlt := H.lt
  obtain ⟨t, g1, g2⟩ := H
  exact ⟨t, g1, by rw [k.2 r hlt hf]; exact g2⟩
theorem KeepN.ext {F : Nat → Prop} {hb h h' : Heap} (k : KeepN F h h') (hf : ∀ q, F q → hb.length ≤ q) (E : Ext hb h) : Ext hb h' :=
  ⟨Nat.le_trans E.1 k.1, fun q hq => by rw [k.2 q (Nat.lt_of_lt_of_le hq E.1) (fun f => by have := hf q f; omega)]; exact E.2 q hq⟩

/-- Nothing yet, or a slice of slices whose rows are of F. -/
def OutM (F : Nat → Prop) (h : Heap) (x : H0) (L : List (List Int)) : Prop :=
  (x = .pl (.slice none 0 0) ∧ L = []) ∨ ∃ r ρ, x = .sl r 0 L.length ∧ F r ∧ (∀ i, i < L.length → F (ρ i)) ∧ MatAt h r ρ L

theorem OutM.ext {F : Nat → Prop} {h h' : Heap} {x : H0} {L : List (List Int)} (O : OutM F h x L) (E : Ext h h') : OutM F h' x L := by
  rcases O with O | ⟨r, ρ, g1, g2, g3, m⟩
  · exact Or.inl O
  · exact Or.inr ⟨r, ρ, g1, g2, g3, m.ext E⟩
theorem OutM.weaken {F G : Nat → Prop} {h : Heap} {x : H0} {L : List (List Int)} (O : OutM F h x L) (k : ∀ q, q < h.length → F q → G q) : OutM G h x L := by
  rcases O with O | ⟨r, ρ, g1, g2, g3, m⟩
  · exact Or.inl O
  · exact Or.inr ⟨r, ρ, g1, k _ m.lt.1 g2, fun i hi => k _ (m.lt.2 i hi) (g3 i hi), m⟩

theorem OutM.len {F : Nat → Prop} {h : Heap} {x : H0} {L : List (List Int)} (O : OutM F h x L) {K : HV → Prop} (hK : K (I L.length)) : HLen (.s x) K := by
  rcases O with ⟨rfl, rfl⟩ | ⟨r, ρ, rfl, g2, g3, m⟩
  · exact ⟨0, rfl, hK⟩
  · exact m.rows.len hK

/-- A slice of ints, appended to what is there. -/
theorem HApp.snocO {F : Nat → Prop} {h h2 : Heap} {z y : H0} {L : List (List Int)} {l : List Int} {q : Nat} {K : HV → Heap → Prop} (O : OutM F h z L) (E2 : Ext h h2) (R : OwnR q h2 y l) (hq : h.length ≤ q) (hl : L.length < 2199023255552)
    (hK : ∀ h' z', KeepN F h h' → OutM (fun x => F x ∨ h.length ≤ x) h' z' (L ++ [l]) → K (.s z') h') : HApp (h2 ++ [.own [y]]) (.s z) (.s (.sl h2.length 0 1)) K := by
  have l2 := E2.1
  have hq2 := R.lt
  obtain ⟨t, rfl, hqo⟩ := R
  have hshow : Shows (h2 ++ [.own [.sl q 0 l.length]]) (.s (.sl h2.length 0 1)) [.sl q 0 l.length] := by
    have := Shows.own h2.length 0 1 _ (get_new h2 (.own [.sl q 0 l.length])) (by simp)
    simpa using this
  rcases O with ⟨rfl, rfl⟩ | ⟨r, ρ, rfl, hFr, hFρ, m⟩
  · refine ⟨[.sl q 0 l.length], hshow, by simp [H0.one], by simp, ?_⟩
    rw [if_neg (by simp)]
    refine hK _ _ ⟨by simp; omega, fun p hp _ => ?_⟩ (Or.inr ⟨h2.length + 1, fun _ => q, by simp, Or.inr (by omega), fun i hi => Or.inr hq, ⟨[.sl q 0 l.length], ?_, by simp, fun i hi => ?_⟩, fun i hi => ⟨t, ?_⟩, fun i hi => by omega, fun i j hij hj => by simp at hj; omega⟩)
    · rw [List.getElem?_append_left (by simp; omega), List.getElem?_append_left (by omega)]
      exact E2.2 p hp
    · rw [List.getElem?_append_right (by simp)]
      simp
    · have e : i = 0 := by simp at hi; omega
      subst e
      simp
    · have e : i = 0 := by simp at hi; omega
      subst e
      rw [List.getElem?_append_left (by simp; omega), List.getElem?_append_left (by omega)]
      simpa using hqo
  · obtain ⟨hr2, hρ⟩ := m.lt
    obtain ⟨cs, ho, hcl, hoc⟩ := m.outer
    refine ⟨[.sl q 0 l.length], hshow, by simp [H0.one], cs, rfl, (Ext.push h2 _).row (E2.row ho), hcl, Or.inl ⟨by simp; omega, ?_⟩⟩
    have e1 : L.length + [H0.sl q 0 l.length].length = (L ++ [l]).length := by simp
    rw [e1]
    have old : ∀ p, p < h2.length → p ≠ r → ((h2 ++ [Row.own [.sl q 0 l.length]]).set r .gone ++ [Row.own (cs.take L.length ++ [.sl q 0 l.length])])[p]? = h2[p]? := fun p hp hn => by
      rw [List.getElem?_append_left (by simp; omega), List.getElem?_set_ne (Ne.symm hn), List.getElem?_append_left hp]
    have gd1 : ∀ i, i < L.length → (L ++ [l]).getD i [] = L.getD i [] := fun i hi => by
      simp only [List.getD]
      rw [List.getElem?_append_left hi]
    have gd2 : (L ++ [l]).getD L.length [] = l := by simp [List.getD]
    have hlen : ((h2 ++ [Row.own [.sl q 0 l.length]]).set r .gone ++ [Row.own (cs.take L.length ++ [.sl q 0 l.length])]).length = h2.length + 2 := by simp
    have hqr2 : q ≠ r := by omega
    refine hK _ _ ⟨by rw [hlen]; omega, fun p hp hn => ?_⟩ (Or.inr ⟨h2.length + 1, fun i => if i < L.length then ρ i else q, by simp, Or.inr (by omega), fun i hi => ?_, ⟨cs.take L.length ++ [.sl q 0 l.length], ?_, by simp; omega, fun i hi => ?_⟩, fun i hi => ?_, fun i hi => ?_, fun i j hij hj => ?_⟩)
    · rw [old p (by omega) (fun e => hn (by rw [e]; exact hFr))]
      exact E2.2 p hp
    · by_cases hi2 : i < L.length
      · simp only [hi2, if_true]
        exact Or.inl (hFρ i hi2)
      · show F (if i < L.length then ρ i else q) ∨ h.length ≤ (if i < L.length then ρ i else q)
        rw [if_neg hi2]
        exact Or.inr hq
    · rw [List.getElem?_append_right (by simp)]
      simp
    · by_cases hi2 : i < L.length
      · rw [List.getElem?_append_left (by simp; omega), List.getElem?_take_of_lt hi2, hoc i hi2, gd1 i hi2]
        simp [hi2]
      · have e : i = L.length := by simp at hi; omega
        subst e
        rw [gd2, List.getElem?_append_right (by simp; omega)]
        have : L.length - (cs.take L.length).length = 0 := by simp; omega
        rw [this]
        simp
    · by_cases hi2 : i < L.length
      · obtain ⟨t2, ht2⟩ := m.inner i hi2
        have hb2 := hρ i hi2
        have hne := m.ne i hi2
        refine ⟨t2, ?_⟩
        rw [gd1 i hi2, if_pos hi2, old _ (by omega) hne]
        exact E2.row ht2
      · have e : i = L.length := by simp at hi; omega
        subst e
        refine ⟨t, ?_⟩
        rw [gd2, if_neg (by omega), old _ (by omega) (by omega)]
        exact hqo
    · by_cases hi2 : i < L.length
      · have := hρ i hi2
        simp only [hi2, if_true]
        omega
      · simp only [hi2, if_false]
        omega
    · have hj' : j ≤ L.length := by simp at hj; omega
      have hi2 : i < L.length := by omega
      have := hρ i hi2
      by_cases hj2 : j < L.length
      · simp only [hi2, hj2, if_true]
        exact m.inj i j hij hj2
      · simp only [hi2, hj2, if_true, if_false]
        omega

theorem OwnM.lower {b c e : Nat} {h : Heap} {x : H0} {L : List (List Int)} (H : OwnM b e h x L) (k : c ≤ b) : OwnM c e h x L := by
  obtain ⟨r, ρ, g1, g2, g3, g4, m⟩ := H
  exact ⟨r, ρ, g1, by omega, g3, fun i hi => by have := g4 i hi; omega, m⟩

/-- What comes of the first k descents. -/
def spellTo (c : List (List Int)) (n : Nat) (v : List Int) (k : Nat) : List (List Int) := ((descs v v.length).take k).flatMap fun i => (spellW c n (reflW c i.toNat v)).map (i :: ·)

theorem spellTo_succ (c : List (List Int)) (n : Nat) (v : List Int) {k : Nat} (hk : k < (descs v v.length).length) :
    spellTo c n v (k + 1) = spellTo c n v k ++ (spellW c n (reflW c ((descs v v.length).getD k 0).toNat v)).map ((descs v v.length).getD k 0 :: ·) := by
  unfold spellTo
  rw [List.take_succ_eq_append_getElem hk, List.flatMap_append]
  simp [List.getD, hk]
theorem spellTo_all (c : List (List Int)) (n : Nat) (v : List Int) : spellTo c n v (descs v v.length).length = spellW c (n + 1) v := by
  unfold spellTo
  rw [List.take_length, spellW]
theorem spellTo_pre (c : List (List Int)) (n : Nat) (v : List Int) (k : Nat) : ∃ t, spellW c (n + 1) v = spellTo c n v k ++ t := by
  unfold spellTo
  refine ⟨((descs v v.length).drop k).flatMap fun i => (spellW c n (reflW c i.toNat v)).map (i :: ·), ?_⟩
  rw [spellW, ← List.flatMap_append, List.take_append_drop]

theorem take_full {α : Type} {A B : List α} {n : Nat} (h : (A.take n).length = n) : (A ++ B).take n = A.take n := by
  rw [List.length_take] at h
  exact List.take_append_of_le_length (by omega)
theorem take_part {α : Type} {A : List α} {n : Nat} (h : (A.take (n + 1)).length ≤ n) : A.take (n + 1) = A := by
  rw [List.length_take] at h
  exact List.take_of_length_le (by omega)

theorem no_descents {c : List (List Int)} {n : Nat} {v : List Int} (P : PlayL c n v) (h : (descs v v.length).length = 0) : n = 0 := by
  refine (P.2.stop fun i hi => ?_).1
  by_cases hlt : posOf v i < 0
  · have : (i : Int) ∈ descs v v.length := mem_descs.2 ⟨by omega, by have := P.1; omega, by simpa [posOf] using hlt⟩
    rw [List.eq_nil_of_length_eq_zero h] at this
    simp at this
  · omega
theorem no_descents' {c : List (List Int)} {v : List Int} (hC : Cartan c) (P : PlayL c 0 v) : descs v v.length = [] := by
  cases hd : descs v v.length with
  | nil => rfl
  | cons i t =>
    have hi : i ∈ descs v v.length := by rw [hd]; simp
    obtain ⟨h1, h2, h3⟩ := mem_descs.1 hi
    obtain ⟨m, e, _⟩ := P.down hC (by omega) (i := i.toNat) (by have := P.1; omega) h3
    omega


set_option maxHeartbeats 1000000 in
abbrev TM (y : H0) (b : Bool) : HV := .tup [y, .pl (.bool b)]

end Go.Proofs.Ytnooeaemjnmkdaa.Hx

namespace Go.Proofs.Ytnooeaemjnmkdaa.Hx
open Go.RowKit
variable {dm : Bool}

/-- A later world with all old blocks as they were: so many draws, some blocks more. -/
theorem Lat.grows {w w' : World} (b : Lat true w.heap.size w w') : ∃ q os, w' = Go.Sort.grow (w.drewN q) os := by
  refine ⟨w'.drawn - w.drawn, w'.heap.extract w.heap.size w'.heap.size, ?_⟩
  obtain ⟨⟨b1, b2, b3, b4, b5⟩, b60⟩ := b
  have b6 := b60 rfl
  clear b60
  obtain ⟨hp, tp, dr, os, out⟩ := w
  obtain ⟨hp', tp', dr', os', out'⟩ := w'
  simp only at b1 b2 b3 b4 b5 b6
  subst b1 b2 b3
  have hd : dr + (dr' - dr) = dr' := by omega
  have hh : hp' = hp ++ hp'.extract hp.size hp'.size := by
    apply Array.ext_getElem?
    intro k
    rw [Array.getElem?_append]
    by_cases hk : k < hp.size
    · rw [if_pos hk]
      exact b5 k hk
    · rw [if_neg hk, Array.getElem?_extract]
      by_cases h2 : k < hp'.size
      · rw [if_pos (by omega)]
        congr 1
        omega
      · rw [if_neg (by omega)]
        exact Array.getElem?_eq_none (by omega)
  simp only [Go.Sort.grow, World.drewN, hd]
  rw [← hh]

/-- A world that differs from w in one row's block alone bears the heap without that row. -/
theorem Rep.beside {B0 : Nat} {φ : Plan} {h : Heap} {w w' : World} (R : Rep B0 φ h w) {r : Nat} {cs : List H0} {p : Place} (hr : h[r]? = some (.own cs)) (hp : φ[r]? = some p)
    (hs : w.heap.size ≤ w'.heap.size) (hb : ∀ k, k ≠ p.b → k < w.heap.size → w'.heap[k]? = w.heap[k]?) : Rep B0 φ (h.set r .gone) w' := by
  obtain ⟨q1, q2, q3, _⟩ := R.own r cs p hr hp
  have D := R.drop r
  have other : ∀ (q : Nat) (ys : List H0), (h.set r .gone)[q]? = some (.own ys) → q ≠ r ∧ h[q]? = some (.own ys) := fun q ys hq => by
    by_cases e : q = r
    · subst e
      rw [List.getElem?_set_self (List.getElem?_eq_some_iff.1 hr).1] at hq
      cases hq
    · rw [List.getElem?_set_ne (Ne.symm e)] at hq
      exact ⟨e, hq⟩
  refine ⟨D.len, Nat.le_trans D.base hs, fun q xs pq h1 h2 => ?_, fun q xs pq h1 h2 => ?_, D.apart, fun q so ks pq h1 h2 => ?_, D.apartK, D.tab.keep fun k hk => hb k (by omega) (Nat.lt_of_lt_of_le hk D.base)⟩
  · obtain ⟨g1, g2⟩ := D.ro q xs pq h1 h2
    refine ⟨g1, fun k c hk => ?_⟩
    obtain ⟨v, e1, e2⟩ := g2 k c hk
    exact ⟨v, by rw [World.cell?_of_block (w := w) (hb _ (by show pq.b ≠ p.b; omega) (Nat.lt_of_lt_of_le g1 D.base))]; exact e1, e2⟩
  · obtain ⟨g1, g2, g3, cur, e, g4, g5⟩ := D.own q xs pq h1 h2
    obtain ⟨n1, n2⟩ := other q xs h1
    exact ⟨g1, g2, g3, cur, e, by rw [hb _ (R.apart q r xs cs pq p n1 n2 hr h2 hp) (Array.getElem?_eq_some_iff.1 g4).1]; exact g4, g5⟩
  · obtain ⟨g1, ents, clk, g4, g5⟩ := D.keys q so ks pq h1 h2
    have hq : h[q]? = some (.keys so ks) := by
      by_cases e : r = q
      · subst e
        rw [List.getElem?_set_self (List.getElem?_eq_some_iff.1 hr).1] at h1
        cases h1
      · rw [List.getElem?_set_ne e] at h1
        exact h1
    exact ⟨g1, ents, clk, by rw [hb _ (R.apartM hr hq hp h2) (Array.getElem?_eq_some_iff.1 g4).1]; exact g4, g5⟩

open Go.Sort in
theorem sortWorld_heap {α : Type} [Inhabited α] (enc : α → Value) (w : World) (blk off m : Nat) (dk : Array α) (os : Array Obj) :
    w.heap.size ≤ (Go.Proofs.sortWorld enc w blk off m dk os).heap.size ∧ ∀ k, k ≠ blk → k < w.heap.size → (Go.Proofs.sortWorld enc w blk off m dk os).heap[k]? = w.heap[k]? := by
  unfold Go.Proofs.sortWorld
  have hz : (putRow enc (Go.Sort.ahead w m) blk off dk).heap.size = w.heap.size := by simp [putRow, mapBlock, Go.Sort.ahead]
  refine ⟨by rw [size_grow, hz]; omega, fun k hk hl => ?_⟩
  rw [heap_grow_old _ _ (by rw [hz]; exact hl)]
  simp [putRow, mapBlock, Go.Sort.ahead, Array.getElem?_modify, Ne.symm hk]

theorem getD_range (n : Nat) (j : Nat) (hj : j < n) : (Array.range n)[j]! = j := by simp [hj]

theorem Ints.cell1 {h : Heap} {x : H0} {l : List Int} (H : Ints h x l) {φ : Plan} {v : Value} (k : rep0 φ x v) : v.oneCell' = true := by
  have main : ∀ (y : HV) (l : List H0), Shows h y l → y = .s x → v.oneCell' = true := by
    intro y l S e
    cases S with
    | nils a c =>
      cases e
      have : v = .slice a 0 c := k
      rw [this]; rfl
    | ro r off len cs hr hl => cases e; obtain ⟨p, a, cap, _, e, _⟩ := k; rw [e]; rfl
    | own r off len cs hr hl => cases e; obtain ⟨p, a, cap, _, e, _⟩ := k; rw [e]; rfl
  exact main _ _ H rfl

/-- What the sort leaves in the row. -/
def sortedRow (cs : List H0) (off len : Nat) (σ : List Nat) : List H0 := cs.take off ++ σ.map (fun i => cs.getD (off + i) (ci 0)) ++ cs.drop (off + len)

open Go.Sort Go.Shelf in
set_option maxHeartbeats 1000000 in
/-- slices.SortFunc over a row of slices. -/
theorem sort_calls {P : Program} {ρ : Ren} (L : SlLaysF.n6 P ρ) {CR : FuncId} (eg : ∀ args w, (callFunc CR args).run P w = .ok (.enter CR args) w) (cmpL : List Int → List Int → Int) (hO : SWO (ltOf cmpL))
    {h : Heap} {r off len : Nat} {cs : List H0} {Ls : List (List Int)} (hr : h[r]? = some (.own cs)) (hl : off + len ≤ cs.length) (hn : Ls.length = len) (hlen : len < 4611686018427387904)
    (hi : ∀ (i : Nat) (x : H0) (l : List Int), i < len → cs[off + i]? = some x → Ls[i]? = some l → Ints (h.set r .gone) x l)
    (hc : ∀ (i j : Nat) (x y : H0) (a b : List Int), i < len → j < len → cs[off + i]? = some x → cs[off + j]? = some y → Ls[i]? = some a → Ls[j]? = some b →
      HCalls true P CR [.s x, .s y] (freeze (h.set r .gone)) (fun z _ => z = I (cmpL a b))) :
    HCalls dm P (ρ.f 6) [.s (.sl r off len), .fn CR []] h (fun z h' => z = .tup [] ∧ ∃ σ : List Nat, σ.Perm (List.range len) ∧ σ.Pairwise (fun i j => ¬ cmpL (Ls.getD j []) (Ls.getD i []) < 0) ∧ h' = h.set r (.own (sortedRow cs off len σ))) := by
  refine ⟨L.f6.enters rfl, fun B0 φ w vargs R ha => ?_⟩
  obtain ⟨p, hp⟩ := R.place hr
  obtain ⟨q1, q2, q3, cur, e, q4, q5, q6⟩ := R.own r cs p hr hp
  have hvs : ∃ u v, vargs = #[u, v] ∧ rep0 φ (.sl r off len) u ∧ repV φ (.fn CR []) v := by
    rcases vargs with ⟨vs⟩
    match vs, ha with
    | [u, v], hh => exact ⟨u, v, rfl, hh.1, hh.2.1⟩
  obtain ⟨u, v, rfl, hu, hv⟩ := hvs
  obtain ⟨p', a, cap, hp', rfl, hc1, hc2, hc3, hc4⟩ := hu
  obtain rfl : p' = p := Option.some.inj (hp'.symm.trans hp)
  obtain ⟨vs, rfl, hvs⟩ := hv
  obtain rfl : vs = #[] := by
    rcases vs with ⟨vl⟩
    match vl, hvs with
    | [], _ => rfl
  by_cases h0 : len = 0
  · subst h0
    refine (AnyF.slices_SortFunc_none { L with } (some a) cap _ w).mono ?_
    rintro e' w' ⟨rfl, rfl⟩
    refine ⟨_, .tup [], _, φ, rfl, ⟨rfl, [], by simp, List.Pairwise.nil, rfl⟩, Sub.refl _, ?_, ⟨#[], rfl, trivial⟩, Lat.refl _ _⟩
    have : h.set r (.own (sortedRow cs off 0 [])) = h := by
      rw [show sortedRow cs off 0 [] = cs by simp [sortedRow]]
      exact set_same hr
    rw [this]
    exact R
  · have ha : a = ⟨p'.b, off, none⟩ := by rw [hc4 (by omega), q1, Nat.zero_add]
    subst ha
    let ix : Nat → Nat := fun i => if i < len then i else 0
    have hix : ∀ i, ix i < len := fun i => by simp only [ix]; split <;> omega
    have hixe : ∀ i, i < len → ix i = i := fun i hi => by simp only [ix, if_pos hi]
    let enc : Nat → Value := fun i => cur.getD (off + ix i) default
    let cf : Nat → Nat → Int := fun i j => cmpL (Ls.getD (ix i) []) (Ls.getD (ix j) [])
    have cell : ∀ i, ∃ x l, cs[off + ix i]? = some x ∧ Ls[ix i]? = some l ∧ cur[off + ix i]? = some (enc i) ∧ rep0 φ x (enc i) ∧ Ints (h.set r .gone) x l ∧ Ls.getD (ix i) [] = l := fun i => by
      have := hix i
      have hx : cs[off + ix i]? = some cs[off + ix i] := List.getElem?_eq_getElem (by omega)
      have hll : Ls[ix i]? = some Ls[ix i] := List.getElem?_eq_getElem (by omega)
      obtain ⟨v, e1, e2⟩ := q6 _ _ hx
      have hv : enc i = v := by simp only [enc, Array.getD_eq_getD_getElem?, e1]; rfl
      exact ⟨_, _, hx, hll, by rw [hv]; exact e1, by rw [hv]; exact e2, hi _ _ _ this hx hll, by simp [List.getD, hll]⟩
    have h1 : OneCell enc := fun i => by
      obtain ⟨x, l, _, _, _, g4, g5, _⟩ := cell i
      exact g5.cell1 g4
    have hOc : SWO (ltOf cf) := ⟨fun x => hO.irrefl _, fun x y z => hO.trans _ _ _, fun x y z => hO.ntrans _ _ _⟩
    have hH : Go.Sort.Holds enc w p'.b off (Array.range len) := fun j hj => by
      have hj' : j < len := by simpa using hj
      obtain ⟨x, l, g1, g2, g3, g4, g5, g6⟩ := cell j
      rw [getD_range len j hj']
      rw [hixe j hj'] at g3
      exact ⟨by rw [cell_of_row w p'.b (off + j) cur e (0, 0) q4]; exact g3, by simp [World.frozen?, q4]⟩
    have hblk : p'.b < w.heap.size := (Array.getElem?_eq_some_iff.1 q4).1
    have hcmp : CmpLays1 P CR #[] enc cf p'.b off (Array.range len).size w := by
      intro m os dk hdk x y
      have hW := sortWorld_heap enc w p'.b off m dk os
      have RW := (R.beside hr hp hW.1 hW.2).frozen
      obtain ⟨cx, lx, x1, x2, x3, x4, x5, x6⟩ := cell x
      obtain ⟨cy, ly, y1, y2, y3, y4, y5, y6⟩ := cell y
      have hcall := (hc (ix x) (ix y) cx cy lx ly (hix x) (hix y) x1 y1 x2 y2).out _ φ _ #[enc x, enc y] RW ⟨x4, y4, trivial⟩
      refine hcall.mono ?_
      rintro e' w' ⟨v, z, h', φ', rfl, rfl, _, _, g4, g5⟩
      obtain ⟨q, os', hq⟩ := g5.grows
      have hv := rep0_pl g4
      refine ⟨?_, q, os', hq⟩
      rw [hv]
      show _ = Ending.returned (.int .i64 (cmpL (Ls.getD (ix x) []) (Ls.getD (ix y) [])))
      rw [x6, y6]
    have hmain := Any.slices_SortFunc L enc h1 cf hOc CR #[] p'.b off cap (Array.range len) w eg hcmp hH hblk (by simpa using hlen)
    rw [Array.size_range] at hmain
    refine hmain.mono ?_
    rintro e' w' ⟨rfl, d', n, os, hperm, hsort, rfl⟩
    obtain ⟨hsz, _, hpm⟩ := hperm
    rw [Array.size_range] at hsz
    have hpm2 : d'.toList.Perm (List.range len) := by
      have e1 : d'.extract 0 len = d' := by rw [← hsz]; exact Array.extract_size
      have e2 : (Array.range len).extract 0 len = Array.range len := by
        have := Array.extract_size (xs := Array.range len)
        rwa [Array.size_range] at this
      rw [e1, e2] at hpm
      simpa using hpm
    have hlt : ∀ i ∈ d'.toList, i < len := fun i hi => by simpa using hpm2.mem_iff.1 hi
    have hdl : d'.toList.length = len := by simpa using hsz
    have hget : ∀ i, i < len → ∃ x, d'.toList[i]? = some x ∧ d'[i]! = x ∧ x < len := fun i hi => by
      have hi' : i < d'.size := by omega
      refine ⟨d'[i], by simp [hi'], by simp [hi'], ?_⟩
      exact hlt _ (by simp)
    refine ⟨_, .tup [], _, φ, rfl, ⟨rfl, d'.toList, hpm2, ?_, rfl⟩, Sub.refl _, ?_, ⟨#[], rfl, trivial⟩, ?_⟩
    · rw [List.pairwise_iff_getElem]
      intro i j hi hj hij
      have hs := hsort i j (Nat.zero_le _) hij (by omega)
      have hi' : i < d'.size := by simpa using hi
      have hj' : j < d'.size := by simpa using hj
      have ei : d'[i]! = d'[i] := by simp [hi']
      have ej : d'[j]! = d'[j] := by simp [hj']
      rw [ei, ej] at hs
      have li : d'[i] < len := hlt _ (by simp)
      have lj : d'[j] < len := hlt _ (by simp)
      simp only [ltOf, cf, hixe _ li, hixe _ lj, decide_eq_false_iff_not] at hs
      simpa using hs
    · let cur' := putCells enc off d' cur
      have w1 : Rep B0 φ (h.set r (.own (sortedRow cs off len d'.toList))) (putRow enc (Go.Sort.ahead w n) p'.b off d') := by
        refine R.rewrite (w' := putRow enc (Go.Sort.ahead w n) p'.b off d') (cur := cur') (e := e) hr hp ?_ ?_ ?_ ?_ ?_ ?_
        · simp [putRow, mapBlock, Go.Sort.ahead]
        · intro k hk
          simp [putRow, mapBlock, Go.Sort.ahead, Array.getElem?_modify, Ne.symm hk]
        · simp [putRow, mapBlock, Go.Sort.ahead, Array.getElem?_modify, q4, onCells, cur']
        · simp [cur', putCells, q5]
        · simp only [sortedRow, List.length_append, List.length_take, List.length_map, List.length_drop, hdl]
          omega
        · intro k c hk
          have hcur : ∀ k, cur'[k]? = (cur[k]?).map fun x => if off ≤ k ∧ k < off + d'.size then enc d'[k - off]! else x := fun k => by
            simp [cur', putCells, Array.getElem?_mapIdx]
          rw [hcur]
          simp only [sortedRow] at hk
          by_cases k1 : k < off
          · rw [List.append_assoc, List.getElem?_append_left (by simp; omega), List.getElem?_take_of_lt k1] at hk
            obtain ⟨v, e1, e2⟩ := q6 k c hk
            exact ⟨v, by rw [e1]; simp; omega, e2⟩
          · by_cases k2 : k < off + len
            · rw [List.append_assoc, List.getElem?_append_right (by simp; omega), List.getElem?_append_left (by simp [hdl]; omega)] at hk
              have htl : (cs.take off).length = off := by simp; omega
              rw [htl] at hk
              obtain ⟨x, g1, g2, g3⟩ := hget (k - off) (by omega)
              rw [List.getElem?_map, g1] at hk
              obtain ⟨cx, lx, x1, x2, x3, x4, x5, x6⟩ := cell x
              rw [hixe x g3] at x1
              simp only [Option.map_some, Option.some.injEq, List.getD, x1, Option.getD_some] at hk
              subst hk
              have hkc : k < cur.size := by omega
              refine ⟨enc x, ?_, x4⟩
              rw [Array.getElem?_eq_getElem hkc, Option.map_some, if_pos ⟨by omega, by omega⟩, g2]
            · rw [List.getElem?_append_right (by simp [hdl]; omega)] at hk
              have htl : (cs.take off ++ d'.toList.map (fun i => cs.getD (off + i) (ci 0))).length = off + len := by simp [hdl]; omega
              rw [htl, List.getElem?_drop] at hk
              have hk' : cs[k]? = some c := by
                rw [← hk]
                congr 1
                omega
              obtain ⟨v, e1, e2⟩ := q6 k c hk'
              exact ⟨v, by rw [e1]; simp; omega, e2⟩
      exact w1.still (by unfold sortWorld; rw [size_grow]; omega) (fun k hk => by unfold sortWorld; exact heap_grow_old _ _ hk)
    · have hW := sortWorld_heap enc w p'.b off n d' os
      exact ⟨⟨rfl, rfl, rfl, hW.1, fun k hk => hW.2 k (by omega) (by have := R.base; omega)⟩, fun _ => by show w.drawn ≤ w.drawn + n; omega⟩

end Go.Proofs.Ytnooeaemjnmkdaa.Hx

namespace Go.Proofs.Ytnooeaemjnmkdaa.Hx
open Go.RowKit
variable {dm : Bool}

theorem cmpR_swo : Go.Sort.SWO (ltOf cmpR) := ⟨fun x => by
    have := cmpR_neg x x
    simp only [ltOf, decide_eq_false_iff_not]
    omega, fun x y z h k => by
    simp only [ltOf, decide_eq_true_eq] at *
    exact cmpR_trans h k, fun x y z h k => by
    simp only [ltOf, decide_eq_false_iff_not] at *
    exact cmpR_ntrans h k⟩


def cmp1 (x y : Int) : Int := if x < y then -1 else if y < x then 1 else 0

def orOf : List Int → Int
  | [] => 0
  | a :: t => if a = 0 then orOf t else a

theorem orOf_at : ∀ (l : List Int) (i : Nat), i < l.length → (∀ k, k < i → l.getD k 0 = 0) → l.getD i 0 ≠ 0 → orOf l = l.getD i 0
  | [], _, h, _, _ => by simp at h
  | a :: t, 0, _, _, h => by
    have : a ≠ 0 := by simpa using h
    simp [orOf, this]
  | a :: t, i + 1, h, hb, hn => by
    have h0 : a = 0 := by simpa using hb 0 (by omega)
    have := orOf_at t i (by simpa using h) (fun k hk => by simpa using hb (k + 1) (by omega)) (by simpa using hn)
    simp only [orOf, if_pos h0]
    rw [this]
    simp

theorem orOf_none : ∀ (l : List Int), (∀ k, k < l.length → l.getD k 0 = 0) → orOf l = 0
  | [], _ => rfl
  | a :: t, h => by
    have h0 : a = 0 := by simpa using h 0 (by simp)
    simp only [orOf, if_pos h0]
    exact orOf_none t fun k hk => by simpa using h (k + 1) (by simpa using hk)

theorem cmpR_or (a b : List Int) : orOf [cmp1 (heightOf a) (heightOf b), lexC b a] = cmpR a b := by
  unfold cmp1 cmpR
  by_cases h1 : heightOf a < heightOf b
  · simp [orOf, h1]
  · by_cases h2 : heightOf b < heightOf a
    · simp [orOf, h1, h2]
    · simp only [if_neg h1, if_neg h2, orOf, if_true]
      by_cases h3 : lexC b a = 0
      · simp [h3]
      · simp [h3]

theorem lexC_drop {a b : List Int} {i : Nat} (ha : i < a.length) (hb : i < b.length) :
    lexC (a.drop i) (b.drop i) = if a.getD i 0 < b.getD i 0 then -1 else if b.getD i 0 < a.getD i 0 then 1 else lexC (a.drop (i + 1)) (b.drop (i + 1)) := by
  rw [List.drop_eq_getElem_cons ha, List.drop_eq_getElem_cons hb]
  simp [lexC, List.getD, ha, hb]

theorem lexGt_drop {a b : List Int} {i : Nat} (ha : i < a.length) (hb : i < b.length) :
    lexGt (a.drop i) (b.drop i) = if a.getD i 0 = b.getD i 0 then lexGt (a.drop (i + 1)) (b.drop (i + 1)) else decide (b.getD i 0 < a.getD i 0) := by
  rw [List.drop_eq_getElem_cons ha, List.drop_eq_getElem_cons hb]
  simp [lexGt, List.getD, ha, hb]

theorem lexC_end {a b : List Int} {i : Nat} (ha : a.length ≤ i) : lexC (a.drop i) (b.drop i) = if i < b.length then -1 else 0 := by
  rw [List.drop_eq_nil_of_le ha]
  by_cases hb : i < b.length
  · rw [List.drop_eq_getElem_cons hb, if_pos hb]
    rfl
  · rw [List.drop_eq_nil_of_le (by omega), if_neg hb]
    rfl

theorem lexC_over {a b : List Int} {i : Nat} (ha : i < a.length) (hb : b.length ≤ i) : lexC (a.drop i) (b.drop i) = 1 := by
  rw [List.drop_eq_nil_of_le hb, List.drop_eq_getElem_cons ha]
  rfl

theorem lexGt_end {a b : List Int} {i : Nat} (h : a.length ≤ i ∨ b.length ≤ i) : lexGt (a.drop i) (b.drop i) = false := by
  rcases h with h | h
  · rw [List.drop_eq_nil_of_le h]
    rfl
  · rw [List.drop_eq_nil_of_le h]
    cases a.drop i <;> rfl

theorem putR_at {w : List Int} {L : List (List Int)} {i : Nat} (hi : i < L.length) : putR w (L.drop i) = if beforeR w (L.getD i []) then w :: L.drop i else L.getD i [] :: putR w (L.drop (i + 1)) := by
  rw [List.drop_eq_getElem_cons hi]
  simp [putR, List.getD, hi]

theorem drop_at {L : List (List Int)} {i : Nat} (hi : i < L.length) : L.drop i = L.getD i [] :: L.drop (i + 1) := by
  rw [List.drop_eq_getElem_cons hi]
  simp [List.getD, hi]

theorem putR_length (w : List Int) (L : List (List Int)) : (putR w L).length = L.length + 1 := (putR_perm w L).length_eq


theorem lib_isNaN (h : Heap) (n : Int) : HCalls dm Try.prog 117 [I n] h (fun r h' => r = B false ∧ h' = h) := by
  refine calls_of_hFun (m := 0) kd_ok mixed Try.func117 rfl (by kernel_rfl) rfl rfl (of_decide_eq_true rfl) ?_; unfold hFun; (conv => whnf)
  exact ⟨bEq (by simp), rfl⟩

theorem lib_cmp (h : Heap) (x y : Int) : HCalls dm Try.prog 91 [I x, I y] h (fun r h' => r = I (cmp1 x y) ∧ h' = h) := by
  refine calls_of_hFun (m := 0) kd_ok mixed Try.func91 rfl (by kernel_rfl) rfl rfl (of_decide_eq_true rfl) ?_; unfold hFun; (conv => whnf)
  refine (lib_isNaN _ _).mono ?_
  rintro r h1 ⟨rfl, rfl⟩
  (conv => whnf)
  refine (lib_isNaN _ _).mono ?_
  rintro r h1 ⟨rfl, rfl⟩
  (conv => whnf)
  (repeat (first | (refine ⟨rfl, Ints.len (by assumption) ?_⟩; conv => whnf) | (refine ⟨rfl, Rows.len (by assumption) ?_⟩; conv => whnf) | (refine ⟨rfl, HLen.sl ?_⟩; conv => whnf) | (refine ⟨rfl, At.load (by assumption) ?_⟩; conv => whnf) | (refine HIf.yes ?_; conv => whnf) | (refine HIf.no ?_; conv => whnf) | (refine HIf.isT (by assumption) ?_; conv => whnf) | (refine HIf.isF (by assumption) ?_; conv => whnf) | (refine HIf.decT (by assumption) ?_; conv => whnf) | (refine HIf.decF (by assumption) ?_; conv => whnf) | (refine HIf.beqT (by assumption) ?_; conv => whnf) | (refine HIf.beqF (by assumption) ?_; conv => whnf) | (refine HIf.bneT (by assumption) ?_; conv => whnf) | (refine HIf.bneF (by assumption) ?_; conv => whnf) | (refine ⟨rfl, Ints.idxN (by assumption) (by omega) (fun p hp => ?_)⟩; conv => whnf) | (refine ⟨rfl, Rows.idxN (by assumption) (by omega) (fun p y hp hy => ?_)⟩; conv => whnf) | (refine And.intro (show Kd.isBool _ = true from rfl) ?_; conv => whnf) | (refine ⟨rfl, Ints.idx (by assumption) (by omega) (by omega) (fun p hp => ?_)⟩; conv => whnf) | (refine ⟨rfl, Rows.idx (by assumption) (by omega) (by omega) (fun p y hp hy => ?_)⟩; conv => whnf) | (refine HArith.fits (by omega) (by omega) ?_; conv => whnf) | (refine Or.inl (And.intro (show Region.lexB _ _ = true by kernel_rfl) ?_); conv => whnf)))
  refine HIf.dec (fun h1 => ?_) (fun h1 => ?_)
  · (conv => whnf)
    exact ⟨iEq' (by rw [cmp1, if_pos h1]), rfl⟩
  · (conv => whnf)
    refine HIf.dec (fun h2 => ?_) (fun h2 => ?_)
    · (conv => whnf)
      exact ⟨iEq' (by rw [cmp1, if_neg h1, if_pos h2]), rfl⟩
    · (conv => whnf)
      exact ⟨iEq' (by rw [cmp1, if_neg h1, if_neg h2]), rfl⟩

theorem lib_Or (h : Heap) (x : H0) (l : List Int) (hx : Ints h x l) (hl : l.length ≤ 1048576) : HCalls dm Try.prog 90 [.s x] h (fun r h' => r = I (orOf l) ∧ h' = h) := by
  refine calls_of_hFun (m := 0) kd_ok mixed Try.func90 rfl (by kernel_rfl) rfl rfl (of_decide_eq_true rfl) ?_; unfold hFun; (conv => whnf)
  refine ⟨rfl, hx.len ?_⟩
  (conv => whnf)
  refine HLoop.intro [8] [9, 10, 11, 5, 12, 13, 14, 15, 2, 16, 8] (by kernel_rfl) (by kernel_rfl) (fun vs h' => ∃ i : Nat, vs = [I i] ∧ h' = h ∧ i ≤ l.length ∧ ∀ k, k < i → l.getD k 0 = 0) (fun vs _ => l.length - natAt vs 0) ⟨0, rfl, rfl, by omega, fun k hk => by omega⟩ ?_
  rintro vs h' ⟨i, rfl, hh, hi, hb⟩
  subst h'
  (conv => whnf)
  refine HIf.dec (fun hlt => ?_) (fun hge => ?_)
  · (conv => whnf)
    refine ⟨rfl, Ints.idxN hx (by omega) (fun p hp => ?_)⟩
    (conv => whnf)
    refine ⟨rfl, hp.load ?_⟩
    (conv => whnf)
    refine HIf.bne (fun hne => ?_) (fun he => ?_)
    · (conv => whnf)
      exact ⟨iEq' (by rw [orOf_at l i (by omega) hb hne]), rfl⟩
    · (conv => whnf)
      refine HArith.fits (by omega) (by omega) ?_
      (conv => whnf)
      exact ⟨⟨i + 1, rfl, rfl, by omega, fun k hk => by
        by_cases e : k = i
        · rw [e]; exact he
        · exact hb k (by omega)⟩, by show l.length - (i + 1) < l.length - i; omega⟩
  · have e : i = l.length := by omega
    subst e
    (conv => whnf)
    exact ⟨iEq' (by rw [orOf_none l hb]), rfl⟩

theorem lib_sCompare (h : Heap) (x y : H0) (a b : List Int) (hx : Ints h x a) (hy : Ints h y b) (hal : a.length ≤ 1048576) : HCalls dm Try.prog 92 [.s x, .s y] h (fun r h' => r = I (lexC a b) ∧ h' = h) := by
  refine calls_of_hFun (m := 0) kd_ok mixed Try.func92 rfl (by kernel_rfl) rfl rfl (of_decide_eq_true rfl) ?_; unfold hFun; (conv => whnf)
  refine ⟨rfl, hx.len ?_⟩
  (conv => whnf)
  refine HLoop.intro [11] [12, 13, 14, 15, 5, 6, 16, 17, 18, 19, 4, 20, 21, 22, 23, 7, 24, 25, 26, 8, 27, 28, 29, 4, 30, 11] (by kernel_rfl) (by kernel_rfl) (fun vs h' => ∃ i : Nat, vs = [I i] ∧ h' = h ∧ i ≤ a.length ∧ i ≤ b.length ∧ lexC a b = lexC (a.drop i) (b.drop i)) (fun vs _ => a.length - natAt vs 0) ⟨0, rfl, rfl, by omega, by omega, rfl⟩ ?_
  rintro vs h' ⟨i, rfl, hh, hi, hib, hb⟩
  subst h'
  (conv => whnf)
  refine HIf.dec (fun hlt => ?_) (fun hge => ?_)
  · (conv => whnf)
    refine ⟨rfl, Ints.idxN hx (by omega) (fun p hp => ?_)⟩
    (conv => whnf)
    refine ⟨rfl, hp.load ?_⟩
    (conv => whnf)
    refine ⟨rfl, hy.len ?_⟩
    (conv => whnf)
    refine HIf.dec (fun hov => ?_) (fun hin => ?_)
    · (conv => whnf)
      exact ⟨iEq' (by rw [hb, lexC_over (by omega) (by omega)]), rfl⟩
    · have hd := lexC_drop (a := a) (b := b) (i := i) (by omega) (by omega)
      (conv => whnf)
      refine ⟨rfl, Ints.idxN hy (by omega) (fun p2 hp2 => ?_)⟩
      (conv => whnf)
      refine ⟨rfl, hp2.load ?_⟩
      (conv => whnf)
      refine (lib_cmp _ _ _).mono ?_
      rintro r h1 ⟨rfl, rfl⟩
      (conv => whnf)
      refine HIf.bne (fun hne => ?_) (fun he => ?_)
      · have : lexC a b = cmp1 (a.getD i 0) (b.getD i 0) := by
          rw [hb, hd]
          unfold cmp1 at hne ⊢
          by_cases h1 : a.getD i 0 < b.getD i 0
          · rw [if_pos h1, if_pos h1]
          · by_cases h2 : b.getD i 0 < a.getD i 0
            · rw [if_neg h1, if_neg h1, if_pos h2, if_pos h2]
            · rw [if_neg h1, if_neg h2] at hne; omega
        (conv => whnf)
        exact ⟨iEq' (by rw [this]), rfl⟩
      · have h3 : lexC a b = lexC (a.drop (i + 1)) (b.drop (i + 1)) := by
          rw [hb, hd]
          unfold cmp1 at he
          by_cases h1 : a.getD i 0 < b.getD i 0
          · rw [if_pos h1] at he; omega
          · by_cases h2 : b.getD i 0 < a.getD i 0
            · rw [if_neg h1, if_pos h2] at he; omega
            · rw [if_neg h1, if_neg h2]
        (conv => whnf)
        refine HArith.fits (by omega) (by omega) ?_
        (conv => whnf)
        exact ⟨⟨i + 1, rfl, rfl, by omega, by omega, h3⟩, by show a.length - (i + 1) < a.length - i; omega⟩
  · have e : i = a.length := by omega
    have he := lexC_end (a := a) (b := b) (i := i) (by omega)
    (conv => whnf)
    refine ⟨rfl, hx.len ?_⟩
    (conv => whnf)
    refine ⟨rfl, hy.len ?_⟩
    (conv => whnf)
    refine HIf.dec (fun h1 => ?_) (fun h1 => ?_)
    · (conv => whnf)
      exact ⟨iEq' (by rw [hb, he, if_pos (by omega)]), rfl⟩
    · (conv => whnf)
      exact ⟨iEq' (by rw [hb, he, if_neg (by omega)]), rfl⟩

theorem impl_compareRoots (h : Heap) (x y : H0) (a b : List Int) (hx : Ints h x a) (hy : Ints h y b) (hal : a.length ≤ 1048576) (hbl : b.length ≤ 1048576) :
    HCalls dm Try.prog 74 [.s x, .s y] h (fun r h' => r = I (cmpR a b) ∧ Ext h h') := by
  refine calls_of_hFun (m := 0) kd_ok mixed Try.func74 rfl (by kernel_rfl) rfl rfl (of_decide_eq_true rfl) ?_; unfold hFun; (conv => whnf)
  refine (impl_HeightOf _ _ _ hx (by omega)).mono ?_
  rintro r h1 ⟨rfl, hh⟩
  subst h1
  (conv => whnf)
  refine (impl_HeightOf _ _ _ hy (by omega)).mono ?_
  rintro r h1 ⟨rfl, hh⟩
  subst h1
  (conv => whnf)
  refine (lib_cmp _ _ _).mono ?_
  rintro r h1 ⟨rfl, hh⟩
  subst h1
  (conv => whnf)
  refine (lib_sCompare _ _ _ _ _ hy hx (by omega)).mono ?_
  rintro r h1 ⟨rfl, hh⟩
  subst h1
  (conv => whnf)
  refine HLit.two ?_
  (conv => whnf)
  have hor := (OwnR.push h [cmp1 (heightOf a) (heightOf b), lexC b a]).ints
  refine (lib_Or _ _ _ hor (by simp)).mono ?_
  rintro r h1 ⟨rfl, hh⟩
  subst h1
  (conv => whnf)
  exact ⟨iEq' (cmpR_or _ _), Ext.push _ _⟩

theorem spec_l7Before (h : Heap) (x y : H0) (a b : List Int) (hx : Ints h x a) (hy : Ints h y b) (hal : a.length ≤ 1048576) (hbl : b.length ≤ 1048576) :
    HCalls dm Try.prog 65 [.s x, .s y] h (fun r h' => r = B (beforeR a b) ∧ h' = h) := by
  refine calls_of_hFun (m := 0) kd_ok mixed Try.func65 rfl (by kernel_rfl) rfl rfl (of_decide_eq_true rfl) ?_; unfold hFun; (conv => whnf)
  refine (spec_HeightOf _ _ _ hx (by omega)).mono ?_
  rintro r h1 ⟨rfl, hh⟩
  subst h1
  (conv => whnf)
  refine (spec_HeightOf _ _ _ hy (by omega)).mono ?_
  rintro r h1 ⟨rfl, hh⟩
  subst h1
  (conv => whnf)
  refine HIf.bne (fun hne => ?_) (fun heq => ?_)
  · (conv => whnf)
    exact ⟨bEq (by rw [beforeR, if_neg hne]), rfl⟩
  · have hbf : beforeR a b = lexGt a b := by rw [beforeR, if_pos heq]
    (conv => whnf)
    refine HLoop.intro [7] [18, 19, 20, 21, 22, 23, 24, 25, 26, 27, 30, 31, 32, 33, 34, 35, 36, 37, 38, 39, 40, 41, 42, 43, 44, 45, 46, 47, 4, 28, 29, 7] (by kernel_rfl) (by kernel_rfl) (fun vs h' => ∃ i : Nat, vs = [I i] ∧ h' = h ∧ i ≤ a.length ∧ i ≤ b.length ∧ lexGt a b = lexGt (a.drop i) (b.drop i)) (fun vs _ => a.length - natAt vs 0) ⟨0, rfl, rfl, by omega, by omega, rfl⟩ ?_
    rintro vs h' ⟨i, rfl, hh, hi, hib, hb⟩
    subst h'
    (conv => whnf)
    refine ⟨rfl, hx.len ?_⟩
    (conv => whnf)
    refine HIf.dec (fun hlt => ?_) (fun hge => ?_)
    · (conv => whnf)
      (repeat (first | (refine ⟨rfl, Ints.len (by assumption) ?_⟩; conv => whnf) | (refine ⟨rfl, Rows.len (by assumption) ?_⟩; conv => whnf) | (refine ⟨rfl, HLen.sl ?_⟩; conv => whnf) | (refine ⟨rfl, At.load (by assumption) ?_⟩; conv => whnf) | (refine HIf.yes ?_; conv => whnf) | (refine HIf.no ?_; conv => whnf) | (refine HIf.isT (by assumption) ?_; conv => whnf) | (refine HIf.isF (by assumption) ?_; conv => whnf) | (refine HIf.decT (by assumption) ?_; conv => whnf) | (refine HIf.decF (by assumption) ?_; conv => whnf) | (refine HIf.beqT (by assumption) ?_; conv => whnf) | (refine HIf.beqF (by assumption) ?_; conv => whnf) | (refine HIf.bneT (by assumption) ?_; conv => whnf) | (refine HIf.bneF (by assumption) ?_; conv => whnf) | (refine ⟨rfl, Ints.idxN (by assumption) (by omega) (fun p hp => ?_)⟩; conv => whnf) | (refine ⟨rfl, Rows.idxN (by assumption) (by omega) (fun p y hp hy => ?_)⟩; conv => whnf) | (refine And.intro (show Kd.isBool _ = true from rfl) ?_; conv => whnf) | (refine ⟨rfl, Ints.idx (by assumption) (by omega) (by omega) (fun p hp => ?_)⟩; conv => whnf) | (refine ⟨rfl, Rows.idx (by assumption) (by omega) (by omega) (fun p y hp hy => ?_)⟩; conv => whnf) | (refine HArith.fits (by omega) (by omega) ?_; conv => whnf) | (refine Or.inl (And.intro (show Region.lexB _ _ = true by kernel_rfl) ?_); conv => whnf)))
      refine HIf.dec (fun hlt2 => ?_) (fun hge2 => ?_)
      · have hd := lexGt_drop (a := a) (b := b) (i := i) (by omega) (by omega)
        (conv => whnf)
        refine Or.inl (And.intro (show Region.lexB _ _ = true by kernel_rfl) ?_); (conv => whnf)
        refine ⟨rfl, Ints.idxN hx (by omega) (fun p hp => ?_)⟩
        (conv => whnf)
        refine ⟨rfl, hp.load ?_⟩
        (conv => whnf)
        refine ⟨rfl, Ints.idxN hy (by omega) (fun p2 hp2 => ?_)⟩
        (conv => whnf)
        refine ⟨rfl, hp2.load ?_⟩
        (conv => whnf)
        refine HIf.bne (fun hne => ?_) (fun he => ?_)
        · rw [if_neg hne] at hd
          (conv => whnf)
          refine Or.inl (And.intro (show Region.lexB _ _ = true by kernel_rfl) ?_); (conv => whnf)
          refine ⟨rfl, Ints.idxN hx (by omega) (fun p3 hp3 => ?_)⟩
          (conv => whnf)
          refine ⟨rfl, hp3.load ?_⟩
          (conv => whnf)
          refine ⟨rfl, Ints.idxN hy (by omega) (fun p4 hp4 => ?_)⟩
          (conv => whnf)
          refine ⟨rfl, hp4.load ?_⟩
          (conv => whnf)
          exact ⟨bEq (by rw [hbf, hb, hd]), rfl⟩
        · rw [if_pos he] at hd
          (conv => whnf)
          refine HArith.fits (by omega) (by omega) ?_
          (conv => whnf)
          exact ⟨⟨i + 1, rfl, rfl, by omega, by omega, hb.trans hd⟩, by show a.length - (i + 1) < a.length - i; omega⟩
      · (conv => whnf)
        exact ⟨bEq (by rw [hbf, hb, lexGt_end (Or.inr (by omega))]), rfl⟩
    · (conv => whnf)
      (repeat (first | (refine ⟨rfl, Ints.len (by assumption) ?_⟩; conv => whnf) | (refine ⟨rfl, Rows.len (by assumption) ?_⟩; conv => whnf) | (refine ⟨rfl, HLen.sl ?_⟩; conv => whnf) | (refine ⟨rfl, At.load (by assumption) ?_⟩; conv => whnf) | (refine HIf.yes ?_; conv => whnf) | (refine HIf.no ?_; conv => whnf) | (refine HIf.isT (by assumption) ?_; conv => whnf) | (refine HIf.isF (by assumption) ?_; conv => whnf) | (refine HIf.decT (by assumption) ?_; conv => whnf) | (refine HIf.decF (by assumption) ?_; conv => whnf) | (refine HIf.beqT (by assumption) ?_; conv => whnf) | (refine HIf.beqF (by assumption) ?_; conv => whnf) | (refine HIf.bneT (by assumption) ?_; conv => whnf) | (refine HIf.bneF (by assumption) ?_; conv => whnf) | (refine ⟨rfl, Ints.idxN (by assumption) (by omega) (fun p hp => ?_)⟩; conv => whnf) | (refine ⟨rfl, Rows.idxN (by assumption) (by omega) (fun p y hp hy => ?_)⟩; conv => whnf) | (refine And.intro (show Kd.isBool _ = true from rfl) ?_; conv => whnf) | (refine ⟨rfl, Ints.idx (by assumption) (by omega) (by omega) (fun p hp => ?_)⟩; conv => whnf) | (refine ⟨rfl, Rows.idx (by assumption) (by omega) (by omega) (fun p y hp hy => ?_)⟩; conv => whnf) | (refine HArith.fits (by omega) (by omega) ?_; conv => whnf) | (refine Or.inl (And.intro (show Region.lexB _ _ = true by kernel_rfl) ?_); conv => whnf)))
      exact ⟨bEq (by rw [hbf, hb, lexGt_end (Or.inl (by omega))]), rfl⟩

end Go.Proofs.Ytnooeaemjnmkdaa.Hx
