/-
  Contracts of ReducedWords, of the program: words are spelled one after the other into a slice of slices that moves.
  The reference's draws: a cursor over bytes (a struct behind a pointer), and what it draws: numbers, one of some numbers, one of some texts.
-/
import Derived.Test.YtkkniibnlniflaaZ20
import Derived.Laws.Strings
namespace Go.Proofs.Ytkkniibnlniflaa.Hx
open Go.RowKit
variable {dm : Bool}

/-- All rows of which F does not hold are as they were. -/
def KeepN (F : Nat → Prop) (h h' : Heap) : Prop := h.length ≤ h'.length ∧ ∀ q, q < h.length → ¬ F q → h'[q]? = h[q]?

def IntsN (F : Nat → Prop) (h : Heap) (x : H0) (l : List Int) : Prop := Ints h x l ∧ ∀ r off n, x = .sl r off n → ¬ F r

def RowsN (F : Nat → Prop) (h : Heap) (x : H0) (L : List (List Int)) : Prop :=
  ∃ xs : List H0, Shows h (.s x) xs ∧ (∀ r off n, x = .sl r off n → ¬ F r) ∧ xs.length = L.length ∧ ∀ (i : Nat) (y : H0) (l : List Int), xs[i]? = some y → L[i]? = some l → IntsN F h y l

theorem KeepN.refl (F : Nat → Prop) (h : Heap) : KeepN F h h := ⟨Nat.le_refl _, fun _ _ _ => rfl⟩
theorem KeepN.ofExt {F : Nat → Prop} {h h' : Heap} (E : Ext h h') : KeepN F h h' := ⟨E.1, fun q hq _ => E.2 q hq⟩
theorem KeepN.trans {F G : Nat → Prop} {h h' h'' : Heap} (k : KeepN F h h') (m : KeepN G h' h'') (hg : ∀ q, q < h.length → G q → F q) : KeepN F h h'' :=
  ⟨Nat.le_trans k.1 m.1, fun q hq hn => by rw [m.2 q (Nat.lt_of_lt_of_le hq k.1) (fun g => hn (hg q hq g))]; exact k.2 q hq hn⟩

theorem Shows.keep {F : Nat → Prop} {h h' : Heap} {x : H0} {l : List H0} (H : Shows h (.s x) l) (hf : ∀ r off n, x = .sl r off n → ¬ F r) (k : KeepN F h h') : Shows h' (.s x) l := by
  cases H with
  | nils a c => exact .nils a c
  | ro r off len cs hr hl => exact .ro r off len cs (by rw [k.2 r (get_lt hr) (hf _ _ _ rfl)]; exact hr) hl
  | own r off len cs hr hl => exact .own r off len cs (by rw [k.2 r (get_lt hr) (hf _ _ _ rfl)]; exact hr) hl

theorem Shows.in_lt {h : Heap} {r off n : Nat} {l : List H0} (H : Shows h (.s (.sl r off n)) l) : r < h.length := by
  cases H with
  | ro _ _ _ cs hr hl => exact get_lt hr
  | own _ _ _ cs hr hl => exact get_lt hr

theorem IntsN.keep {F G : Nat → Prop} {h h' : Heap} {x : H0} {l : List Int} (H : IntsN F h x l) (k : KeepN F h h') (hg : ∀ q, q < h.length → G q → F q) : IntsN G h' x l :=
  ⟨Shows.keep H.1 H.2 k, fun r off n e g => H.2 r off n e (hg r (by
    have := H.1
    subst e
    exact Shows.in_lt this) g)⟩

theorem RowsN.rows {F : Nat → Prop} {h : Heap} {x : H0} {L : List (List Int)} (H : RowsN F h x L) : Rows h x L := by
  obtain ⟨xs, h1, _, h3, h4⟩ := H
  exact ⟨xs, h1, h3, fun i y l a b => (h4 i y l a b).1⟩

theorem RowsN.keep {F G : Nat → Prop} {h h' : Heap} {x : H0} {L : List (List Int)} (H : RowsN F h x L) (k : KeepN F h h') (hg : ∀ q, q < h.length → G q → F q) : RowsN G h' x L := by
  obtain ⟨xs, h1, h2, h3, h4⟩ := H
  refine ⟨xs, h1.keep h2 k, fun r off n e g => h2 r off n e (hg r (by subst e; exact Shows.in_lt h1) g), h3, fun i y l a b => (h4 i y l a b).keep k hg⟩

theorem Rows.noF {h : Heap} {x : H0} {L : List (List Int)} (H : Rows h x L) : RowsN (fun _ => False) h x L := by
  obtain ⟨xs, h1, h3, h4⟩ := H
  exact ⟨xs, h1, fun _ _ _ _ g => g, h3, fun i y l a b => ⟨h4 i y l a b, fun _ _ _ _ g => g⟩⟩

theorem OwnR.keep {F : Nat → Prop} {h h' : Heap} {r : Nat} {x : H0} {l : List Int} (H : OwnR r h x l) (k : KeepN F h h') (hf : ¬ F r) : OwnR r h' x l := by
  have hlt := H.lt
  obtain ⟨t, g1, g2⟩ := H
  exact ⟨t, g1, by rw [k.2 r hlt hf]; exact g2⟩
theorem KeepN.ext {F : Nat → Prop} {hb h h' : Heap} (k : KeepN F h h') (hf : ∀ q, F q → hb.length ≤ q) (E : Ext hb h) : Ext hb h' :=
  ⟨Nat.le_trans E.1 k.1, fun q hq => by rw [k.2 q (Nat.lt_of_lt_of_le hq E.1) (fun f => by have := hf q f; omega)]; exact E.2 q hq⟩

/-- Nothing yet, or a slice of slices whose rows are of F. -/
def OutM (F : Nat → Prop) (h : Heap) (x : H0) (L : List (List Int)) : Prop :=
  (x = .pl (.slice none 0 0) ∧ L = []) ∨ ∃ r ρ, x = .sl r 0 L.length ∧ F r ∧ (∀ i, i < L.length → F (ρ i)) ∧ MatAt h r ρ L

theorem OutM.ext {F : Nat → Prop} {h h' : Heap} {x : H0} {L : List (List Int)} (O : OutM F h x L) (E : Ext h h') : OutM F h' x L := by
  rcases O with O | ⟨r, ρ, g1, g2, g3, m⟩
  · exact Or.inl O
  · exact Or.inr ⟨r, ρ, g1, g2, g3, m.ext E⟩
theorem OutM.weaken {F G : Nat → Prop} {h : Heap} {x : H0} {L : List (List Int)} (O : OutM F h x L) (k : ∀ q, q < h.length → F q → G q) : OutM G h x L := by
  rcases O with O | ⟨r, ρ, g1, g2, g3, m⟩
  · exact Or.inl O
  · exact Or.inr ⟨r, ρ, g1, k _ m.lt.1 g2, fun i hi => k _ (m.lt.2 i hi) (g3 i hi), m⟩

theorem OutM.len {F : Nat → Prop} {h : Heap} {x : H0} {L : List (List Int)} (O : OutM F h x L) {K : HV → Prop} (hK : K (I L.length)) : HLen (.s x) K := by
  rcases O with ⟨rfl, rfl⟩ | ⟨r, ρ, rfl, g2, g3, m⟩
  · exact ⟨0, rfl, hK⟩
  · exact m.rows.len hK

/-- A slice of ints, appended to what is there. -/
theorem HApp.snocO {F : Nat → Prop} {h h2 : Heap} {z y : H0} {L : List (List Int)} {l : List Int} {q : Nat} {K : HV → Heap → Prop} (O : OutM F h z L) (E2 : Ext h h2) (R : OwnR q h2 y l) (hq : h.length ≤ q) (hl : L.length < 2199023255552)
    (hK : ∀ h' z', KeepN F h h' → OutM (fun x => F x ∨ h.length ≤ x) h' z' (L ++ [l]) → K (.s z') h') : HApp (h2 ++ [.own [y]]) (.s z) (.s (.sl h2.length 0 1)) K := by
  have l2 := E2.1
  have hq2 := R.lt
  obtain ⟨t, rfl, hqo⟩ := R
  have hshow : Shows (h2 ++ [.own [.sl q 0 l.length]]) (.s (.sl h2.length 0 1)) [.sl q 0 l.length] := by
    have := Shows.own h2.length 0 1 _ (get_new h2 (.own [.sl q 0 l.length])) (by simp)
    simpa using this
  rcases O with ⟨rfl, rfl⟩ | ⟨r, ρ, rfl, hFr, hFρ, m⟩
  · refine ⟨[.sl q 0 l.length], hshow, by simp [H0.one], by simp, ?_⟩
    rw [if_neg (by simp)]
    refine hK _ _ ⟨by simp; omega, fun p hp _ => ?_⟩ (Or.inr ⟨h2.length + 1, fun _ => q, by simp, Or.inr (by omega), fun i hi => Or.inr hq, ⟨[.sl q 0 l.length], ?_, by simp, fun i hi => ?_⟩, fun i hi => ⟨t, ?_⟩, fun i hi => by omega, fun i j hij hj => by simp at hj; omega⟩)
    · rw [List.getElem?_append_left (by simp; omega), List.getElem?_append_left (by omega)]
      exact E2.2 p hp
    · rw [List.getElem?_append_right (by simp)]
      simp
    · have e : i = 0 := by simp at hi; omega
      subst e
      simp
    · have e : i = 0 := by simp at hi; omega
      subst e
      rw [List.getElem?_append_left (by simp; omega), List.getElem?_append_left (by omega)]
      simpa using hqo
  · obtain ⟨hr2, hρ⟩ := m.lt
    obtain ⟨cs, ho, hcl, hoc⟩ := m.outer
    refine ⟨[.sl q 0 l.length], hshow, by simp [H0.one], cs, rfl, (Ext.push h2 _).row (E2.row ho), hcl, Or.inl ⟨by simp; omega, ?_⟩⟩
    have e1 : L.length + [H0.sl q 0 l.length].length = (L ++ [l]).length := by simp
    rw [e1]
    have old : ∀ p, p < h2.length → p ≠ r → ((h2 ++ [Row.own [.sl q 0 l.length]]).set r .gone ++ [Row.own (cs.take L.length ++ [.sl q 0 l.length])])[p]? = h2[p]? := fun p hp hn => by
      rw [List.getElem?_append_left (by simp; omega), List.getElem?_set_ne (Ne.symm hn), List.getElem?_append_left hp]
    have gd1 : ∀ i, i < L.length → (L ++ [l]).getD i [] = L.getD i [] := fun i hi => by
      simp only [List.getD]
      rw [List.getElem?_append_left hi]
    have gd2 : (L ++ [l]).getD L.length [] = l := by simp [List.getD]
    have hlen : ((h2 ++ [Row.own [.sl q 0 l.length]]).set r .gone ++ [Row.own (cs.take L.length ++ [.sl q 0 l.length])]).length = h2.length + 2 := by simp
    have hqr2 : q ≠ r := by omega
    refine hK _ _ ⟨by rw [hlen]; omega, fun p hp hn => ?_⟩ (Or.inr ⟨h2.length + 1, fun i => if i < L.length then ρ i else q, by simp, Or.inr (by omega), fun i hi => ?_, ⟨cs.take L.length ++ [.sl q 0 l.length], ?_, by simp; omega, fun i hi => ?_⟩, fun i hi => ?_, fun i hi => ?_, fun i j hij hj => ?_⟩)
    · rw [old p (by omega) (fun e => hn (by rw [e]; exact hFr))]
      exact E2.2 p hp
    · by_cases hi2 : i < L.length
      · simp only [hi2, if_true]
        exact Or.inl (hFρ i hi2)
      · show F (if i < L.length then ρ i else q) ∨ h.length ≤ (if i < L.length then ρ i else q)
        rw [if_neg hi2]
        exact Or.inr hq
    · rw [List.getElem?_append_right (by simp)]
      simp
    · by_cases hi2 : i < L.length
      · rw [List.getElem?_append_left (by simp; omega), List.getElem?_take_of_lt hi2, hoc i hi2, gd1 i hi2]
        simp [hi2]
      · have e : i = L.length := by simp at hi; omega
        subst e
        rw [gd2, List.getElem?_append_right (by simp; omega)]
        have : L.length - (cs.take L.length).length = 0 := by simp; omega
        rw [this]
        simp
    · by_cases hi2 : i < L.length
      · obtain ⟨t2, ht2⟩ := m.inner i hi2
        have hb2 := hρ i hi2
        have hne := m.ne i hi2
        refine ⟨t2, ?_⟩
        rw [gd1 i hi2, if_pos hi2, old _ (by omega) hne]
        exact E2.row ht2
      · have e : i = L.length := by simp at hi; omega
        subst e
        refine ⟨t, ?_⟩
        rw [gd2, if_neg (by omega), old _ (by omega) (by omega)]
        exact hqo
    · by_cases hi2 : i < L.length
      · have := hρ i hi2
        simp only [hi2, if_true]
        omega
      · simp only [hi2, if_false]
        omega
    · have hj' : j ≤ L.length := by simp at hj; omega
      have hi2 : i < L.length := by omega
      have := hρ i hi2
      by_cases hj2 : j < L.length
      · simp only [hi2, hj2, if_true]
        exact m.inj i j hij hj2
      · simp only [hi2, hj2, if_true, if_false]
        omega

theorem OwnM.lower {b c e : Nat} {h : Heap} {x : H0} {L : List (List Int)} (H : OwnM b e h x L) (k : c ≤ b) : OwnM c e h x L := by
  obtain ⟨r, ρ, g1, g2, g3, g4, m⟩ := H
  exact ⟨r, ρ, g1, by omega, g3, fun i hi => by have := g4 i hi; omega, m⟩

/-- What comes of the first k descents. -/
def spellTo (c : List (List Int)) (n : Nat) (v : List Int) (k : Nat) : List (List Int) := ((descs v v.length).take k).flatMap fun i => (spellW c n (reflW c i.toNat v)).map (i :: ·)

theorem spellTo_succ (c : List (List Int)) (n : Nat) (v : List Int) {k : Nat} (hk : k < (descs v v.length).length) :
    spellTo c n v (k + 1) = spellTo c n v k ++ (spellW c n (reflW c ((descs v v.length).getD k 0).toNat v)).map ((descs v v.length).getD k 0 :: ·) := by
  unfold spellTo
  rw [List.take_succ_eq_append_getElem hk, List.flatMap_append]
  simp [List.getD, hk]
theorem spellTo_all (c : List (List Int)) (n : Nat) (v : List Int) : spellTo c n v (descs v v.length).length = spellW c (n + 1) v := by
  unfold spellTo
  rw [List.take_length, spellW]
theorem spellTo_pre (c : List (List Int)) (n : Nat) (v : List Int) (k : Nat) : ∃ t, spellW c (n + 1) v = spellTo c n v k ++ t := by
  unfold spellTo
  refine ⟨((descs v v.length).drop k).flatMap fun i => (spellW c n (reflW c i.toNat v)).map (i :: ·), ?_⟩
  rw [spellW, ← List.flatMap_append, List.take_append_drop]

theorem take_full {α : Type} {A B : List α} {n : Nat} (h : (A.take n).length = n) : (A ++ B).take n = A.take n := by
  rw [List.length_take] at h
  exact List.take_append_of_le_length (by omega)
theorem take_part {α : Type} {A : List α} {n : Nat} (h : (A.take (n + 1)).length ≤ n) : A.take (n + 1) = A := by
  rw [List.length_take] at h
  exact List.take_of_length_le (by omega)

theorem no_descents {c : List (List Int)} {n : Nat} {v : List Int} (P : PlayL c n v) (h : (descs v v.length).length = 0) : n = 0 := by
  refine (P.2.stop fun i hi => ?_).1
  by_cases hlt : posOf v i < 0
  · have : (i : Int) ∈ descs v v.length := mem_descs.2 ⟨by omega, by have := P.1; omega, by simpa [posOf] using hlt⟩
    rw [List.eq_nil_of_length_eq_zero h] at this
    simp at this
  · omega
theorem no_descents' {c : List (List Int)} {v : List Int} (hC : Cartan c) (P : PlayL c 0 v) : descs v v.length = [] := by
  cases hd : descs v v.length with
  | nil => rfl
  | cons i t =>
    have hi : i ∈ descs v v.length := by rw [hd]; simp
    obtain ⟨h1, h2, h3⟩ := mem_descs.1 hi
    obtain ⟨m, e, _⟩ := P.down hC (by omega) (i := i.toNat) (by have := P.1; omega) h3
    omega


theorem lib_CloneR (h : Heap) (r : Nat) (x : H0) (l : List Int) (hx : OwnR r h x l) (hl : l.length ≤ 1048576) :
    HCalls dm Try.prog 135 [.s x] h (fun v h' => ∃ y, v = .s y ∧ Fresh h h' y l) := by
  have hi := hx.ints
  obtain ⟨t, rfl, hr⟩ := hx
  refine calls_of_hFun (m := 0) kd_ok mixed Try.func135 rfl (by kernel_rfl) rfl rfl (of_decide_eq_true rfl) ?_; unfold hFun; (conv => whnf)
  refine ⟨rfl, ?_⟩
  (conv => whnf)
  refine HIf.no ?_
  (conv => whnf)
  refine HLit.empty ?_
  (conv => whnf)
  refine ⟨rfl, rfl, HApp.copy hi (by omega) (fun h2 y2 E2 O2 => ?_)⟩
  (conv => whnf)
  exact ⟨_, rfl, Fresh.of E2 O2⟩

set_option maxHeartbeats 1000000 in
theorem impl_spelled {c : List (List Int)} (hC : Cartan c) : ∀ (n : Nat) (h : Heap) (F : Nat → Prop) (xc xv xh xo : H0) (v hd : List Int) (rh : Nat) (L : List (List Int)), (∀ q, F q → q < h.length) → RowsN F h xc c → IntsN F h xv v → OwnR rh h xh hd → ¬ F rh →
    PlayL c n v → n + hd.length ≤ 15 → OutM F h xo L → L.length ≤ 120 →
    HCalls dm Try.prog 83 [.s xc, .s xv, .s xh, .s xo, I 120] h (fun r h' => ∃ y, r = .s y ∧ KeepN F h h' ∧ OutM (fun q => F q ∨ h.length ≤ q) h' y ((L ++ (spellW c n v).map (hd ++ ·)).take 121)) := by
  intro n
  induction n using Nat.strongRecOn with
  | ind n ih =>
  intro h F xc xv xh xo v hd rh L hF hxc hxv hxh hrh P hn O hL
  have hc4 := hC.le
  have hvl := P.1
  have hdl := descs_le v v.length
  refine calls_of_hFun (m := 0) kd_ok mixed Try.func83 rfl (by kernel_rfl) rfl rfl (of_decide_eq_true rfl) ?_; unfold hFun; (conv => whnf)
  refine (impl_descents _ _ v hxv.1 (by omega)).mono ?_
  rintro r h1 ⟨y1, rfl, f1⟩
  obtain ⟨r1, hr1, O1⟩ := f1.row
  have E1 := f1.1
  have hE1 := E1.1
  (conv => whnf)
  refine ⟨rfl, O1.ints.len ?_⟩
  (conv => whnf)
  refine HIf.beq (fun h0 => ?_) (fun h0 => ?_)
  · have e0 := no_descents P (by omega)
    subst e0
    (conv => whnf)
    refine (lib_CloneR _ rh _ hd (hxh.ext E1) (by omega)).mono ?_
    rintro r h2 ⟨y2, rfl, f2⟩
    obtain ⟨r2, hr2, O2⟩ := f2.row
    have E2 := E1.trans f2.1
    (conv => whnf)
    refine HLit.row f2.own.one ?_
    (conv => whnf)
    refine ⟨rfl, rfl, HApp.snocO O E2 O2 (by omega) (by omega) (fun h3 z3 k3 O3 => ?_)⟩
    (conv => whnf)
    refine ⟨_, rfl, k3, ?_⟩
    have e : (L ++ (spellW c 0 v).map (hd ++ ·)).take 121 = L ++ [hd] := by
      rw [spellW, List.map_cons, List.map_nil, List.append_nil]
      exact List.take_of_length_le (by simp; omega)
    rw [e]
    exact O3
  · obtain ⟨m, rfl⟩ : ∃ m, n = m + 1 := by
      cases n with
      | zero => exact absurd (by rw [no_descents' hC P]; rfl) h0
      | succ m => exact ⟨m, rfl⟩
    (conv => whnf)
    refine ⟨rfl, O1.ints.len ?_⟩
    (conv => whnf)
    refine HLoop.intro [27, 3] [28, 29, 30, 13, 31, 32, 33, 34, 35, 36, 37, 14, 38, 39, 40, 41, 42, 43, 44, 45, 46, 47, 48, 49, 50, 51, 3, 52, 27] (by kernel_rfl) (by kernel_rfl) (fun vs h' => ∃ (k : Nat) (z : H0) (G : Nat → Prop), vs = [I k, .s z] ∧ k ≤ (descs v v.length).length ∧ KeepN F h1 h' ∧ (∀ q, G q → (F q ∨ h1.length ≤ q) ∧ q < h'.length) ∧ OutM G h' z ((L ++ (spellTo c m v k).map (hd ++ ·)).take 121)) (fun vs _ => (descs v v.length).length - natAt vs 0) ⟨0, _, F, rfl, by omega, KeepN.refl F h1, fun q hq => ⟨Or.inl hq, by have := hF q hq; omega⟩, by
      have e : (L ++ (spellTo c m v 0).map (hd ++ ·)).take 121 = L := by
        simp only [spellTo, List.take_zero, List.flatMap_nil, List.map_nil, List.append_nil]
        exact List.take_of_length_le (by omega)
      rw [e]
      exact O.ext E1⟩ ?_
    rintro vs h' ⟨k, z, G, rfl, hk, K, hG, OG⟩
    have fromF : ∀ q, q < h1.length → G q → F q := fun q hq g => by
      rcases (hG q g).1 with h | h
      · exact h
      · omega
    have fromF0 : ∀ q, q < h.length → G q → F q := fun q hq g => fromF q (by omega) g
    have hF1 : ∀ q, h.length ≤ q → q < h1.length → ¬ F q := fun q h2 _ g => by have := hF q g; omega
    have k0 : KeepN F h h' := (KeepN.ofExt E1).trans K (fun q _ g => g)
    have xc' := hxc.keep k0 fromF0
    have xv' := hxv.keep k0 fromF0
    have O1' : OwnR r1 h' y1 (descs v v.length) := by
      have hlt := O1.lt
      obtain ⟨t, g1, g2⟩ := O1
      exact ⟨t, g1, by rw [K.2 r1 hlt (hF1 r1 hr1 hlt)]; exact g2⟩
    have xh' : OwnR rh h' xh hd := by
      have hlt := hxh.lt
      obtain ⟨t, g1, g2⟩ := hxh
      exact ⟨t, g1, by rw [k0.2 rh hlt hrh]; exact g2⟩
    have hrhl := hxh.lt
    have hK1 := K.1
    obtain ⟨tt, hpre⟩ := spellTo_pre c m v k
    (conv => whnf)
    refine HIf.dec (fun hlt => ?_) (fun hge => ?_)
    · have hkd : k < (descs v v.length).length := by omega
      have hmem : (descs v v.length).getD k 0 ∈ descs v v.length := by
        have e : (descs v v.length).getD k 0 = (descs v v.length)[k] := by simp [List.getD, hkd]
        rw [e]
        exact List.getElem_mem hkd
      have hstep := spellTo_succ c m v hkd
      obtain ⟨d1, d2, d3⟩ := mem_descs.1 hmem
      obtain ⟨m', em, Pm⟩ := P.down hC (by omega) (i := ((descs v v.length).getD k 0).toNat) (by omega) d3
      have em2 : m' = m := by omega
      subst em2
      (conv => whnf)
      refine ⟨rfl, Ints.idxN O1'.ints hkd (fun p hp => ?_)⟩
      (conv => whnf)
      refine ⟨rfl, hp.load ?_⟩
      (conv => whnf)
      generalize (descs v v.length).getD k 0 = i at *
      refine ⟨rfl, OG.len ?_⟩
      (conv => whnf)
      refine HIf.dec (fun hover => ?_) (fun hfit => ?_)
      · (conv => whnf)
        refine ⟨_, rfl, k0, ?_⟩
        have hlen : ((L ++ (spellTo c m' v k).map (hd ++ ·)).take 121).length = 121 := by
          have := List.length_take_le 121 (L ++ (spellTo c m' v k).map (hd ++ ·))
          omega
        have e : (L ++ (spellW c (m' + 1) v).map (hd ++ ·)).take 121 = (L ++ (spellTo c m' v k).map (hd ++ ·)).take 121 := by
          rw [hpre, List.map_append, ← List.append_assoc]
          exact take_full hlen
        rw [e]
        refine OG.weaken fun q _ g => ?_
        rcases (hG q g).1 with h | h
        · exact Or.inl h
        · exact Or.inr (by omega)
      · have hlen : ((L ++ (spellTo c m' v k).map (hd ++ ·)).take 121).length ≤ 120 := by omega
        have hpart := take_part hlen
        have hi : isPoint c i = true := by simp [isPoint, inRange]; omega
        obtain ⟨ii, rfl⟩ : ∃ ii : Nat, i = ii := ⟨i.toNat, by omega⟩
        rw [hpart] at OG
        have hLl : (L ++ (spellTo c m' v k).map (hd ++ ·)).length ≤ 120 := by rw [← hpart]; exact hlen
        generalize hLk : L ++ (spellTo c m' v k).map (hd ++ ·) = Lk at OG hLl
        (conv => whnf)
        refine HLit.empty ?_
        (conv => whnf)
        refine ⟨rfl, rfl, HApp.moreR (OwnR.push h' []) ((xv'.1).ext (Ext.push _ _)) (by simp; omega) (fun h2 r2 y2 B2 hr2 O2 => ?_)⟩
        have E2 : Ext h' h2 := (Ext.push h' [Row.own []]).but B2 (Nat.le_refl _)
        have hl2 : h'.length ≤ r2 := by simp at hr2; omega
        rw [List.nil_append] at O2
        (conv => whnf)
        refine (impl_reflectedR h' h2 r2 _ _ c ii v xc'.rows E2 hl2 O2 hC (by simp [isPoint, inRange] at hi; omega) hvl).mono ?_
        rintro r h3 ⟨rfl, B3, O3⟩
        have E3 : Ext h' h3 := E2.but B3 hl2
        (conv => whnf)
        refine (lib_CloneR _ rh _ hd (xh'.ext E3) (by omega)).mono ?_
        rintro r h4 ⟨y4, rfl, f4⟩
        obtain ⟨r4, hr4, O4⟩ := f4.row
        have E4 := E3.trans f4.1
        have hE3 := E3.1
        have O3' := O3.ext f4.1
        have hr2l := O3.lt
        (conv => whnf)
        refine HLit.one ?_
        (conv => whnf)
        refine ⟨rfl, rfl, HApp.snocR O4 (by omega) (fun h5 r5 y5 B5 hr5 O5 => ?_)⟩
        have E5 : Ext h' h5 := E4.but B5 (by omega)
        have hE4 := E4.1
        have hE5 := E5.1
        have O3'' := O3'.but B5 (by omega)
        have hnG2 : ¬ G r2 := fun g => by have := (hG r2 g).2; omega
        have hnG5 : ¬ G r5 := fun g => by have := (hG r5 g).2; omega
        have i2 : IntsN G h5 y2 (reflW c ii v) := ⟨O3''.ints, fun r off n e => by
          obtain ⟨t, e2, _⟩ := O3''
          rw [e2] at e
          cases e
          exact hnG2⟩
        (conv => whnf)
        refine (ih m' (by omega) h5 G _ _ _ _ (reflW c ii v) (hd ++ [(ii : Int)]) r5 Lk (fun q g => by have := (hG q g).2; omega) (xc'.keep (KeepN.ofExt E5) (fun q _ g => g)) i2 O5 hnG5 (by simpa using Pm) (by simp; omega) (OG.ext E5) hLl).mono ?_
        rintro r h6 ⟨y6, rfl, k6, O6⟩
        have hk6 := k6.1
        have e : (L ++ (spellTo c m' v (k + 1)).map (hd ++ ·)).take 121 = (Lk ++ (spellW c m' (reflW c ii v)).map ((hd ++ [(ii : Int)]) ++ ·)).take 121 := by
          rw [hstep, List.map_append, ← List.append_assoc, hLk, List.map_map]
          refine congrArg (fun z => (Lk ++ z).take 121) ?_
          have ei : (ii : Int).toNat = ii := by omega
          rw [ei]
          refine List.map_congr_left fun a _ => ?_
          simp
        (conv => whnf)
        refine HArith.fits (by omega) (by omega) ?_
        (conv => whnf)
        refine ⟨⟨k + 1, y6, fun q => (G q ∨ h5.length ≤ q) ∧ q < h6.length, rfl, by omega, K.trans ((KeepN.ofExt E5).trans k6 (fun q _ g => g)) fromF, fun q g => ⟨?_, g.2⟩, ?_⟩, by show (descs v v.length).length - (k + 1) < (descs v v.length).length - k; omega⟩
        · rcases g.1 with g | g
          · exact (hG q g).1
          · exact Or.inr (by omega)
        · rw [e]
          exact O6.weaken fun q hq g => ⟨g, hq⟩
    · have ek : k = (descs v v.length).length := by omega
      subst ek
      rw [spellTo_all] at OG
      (conv => whnf)
      refine ⟨_, rfl, k0, OG.weaken fun q _ g => ?_⟩
      rcases (hG q g).1 with h | h
      · exact Or.inl h
      · exact Or.inr (by omega)

abbrev TM (y : H0) (b : Bool) : HV := .tup [y, .pl (.bool b)]

theorem impl_ReducedWords (h : Heap) (x0 : H0) (a0 : List (List Int)) (x1 : H0) (a1 : List Int) (hx0 : Rows h x0 a0) (hx1 : Ints h x1 a1) (s0 : a0.length ≤ 1048576 ∧ tot a0 ≤ 1048576) (s1 : a1.length ≤ 1048576) :
    HCalls dm Try.prog 21 [.s x0, .s x1] h (fun r h' => ∃ y, r = TM y (redOk a0 a1) ∧ Ext h h' ∧ OwnM h.length h'.length h' y (reducedWords a0 a1)) := by
  refine calls_of_hFun (m := 0) kd_ok mixed Try.func21 rfl (by kernel_rfl) rfl rfl (of_decide_eq_true rfl) ?_; unfold hFun; (conv => whnf)
  refine (impl_IsWord _ _ _ a0 a1 hx0 hx1 (by omega) (by omega)).mono ?_
  rintro r h1 ⟨rfl, hh⟩
  subst h1
  (conv => whnf)
  cases hic : isWord a0 a1
  · rw [redOk_off hic, reducedWords_off (redOk_off hic)]
    (repeat (first | (refine ⟨rfl, Ints.len (by assumption) ?_⟩; conv => whnf) | (refine ⟨rfl, Rows.len (by assumption) ?_⟩; conv => whnf) | (refine ⟨rfl, HLen.sl ?_⟩; conv => whnf) | (refine ⟨rfl, At.load (by assumption) ?_⟩; conv => whnf) | (refine HIf.yes ?_; conv => whnf) | (refine HIf.no ?_; conv => whnf) | (refine HIf.isT (by assumption) ?_; conv => whnf) | (refine HIf.isF (by assumption) ?_; conv => whnf) | (refine HIf.decT (by assumption) ?_; conv => whnf) | (refine HIf.decF (by assumption) ?_; conv => whnf) | (refine HIf.beqT (by assumption) ?_; conv => whnf) | (refine HIf.beqF (by assumption) ?_; conv => whnf) | (refine HIf.bneT (by assumption) ?_; conv => whnf) | (refine HIf.bneF (by assumption) ?_; conv => whnf) | (refine ⟨rfl, Ints.idxN (by assumption) (by omega) (fun p hp => ?_)⟩; conv => whnf) | (refine ⟨rfl, Rows.idxN (by assumption) (by omega) (fun p y hp hy => ?_)⟩; conv => whnf) | (refine And.intro (show Kd.isBool _ = true from rfl) ?_; conv => whnf) | (refine ⟨rfl, Ints.idx (by assumption) (by omega) (by omega) (fun p hp => ?_)⟩; conv => whnf) | (refine ⟨rfl, Rows.idx (by assumption) (by omega) (by omega) (fun p y hp hy => ?_)⟩; conv => whnf) | (refine HArith.fits (by omega) (by omega) ?_; conv => whnf) | (refine Or.inl (And.intro (show Region.lexB _ _ = true by kernel_rfl) ?_); conv => whnf)))
    refine HLit.empty ?_
    (conv => whnf)
    exact ⟨_, rfl, Ext.push _ _, OwnM.none _⟩
  obtain ⟨hC, hl, hw⟩ := word_cartan hic
  obtain ⟨P, hn15, R⟩ := normF_red hic
  (repeat (first | (refine ⟨rfl, Ints.len (by assumption) ?_⟩; conv => whnf) | (refine ⟨rfl, Rows.len (by assumption) ?_⟩; conv => whnf) | (refine ⟨rfl, HLen.sl ?_⟩; conv => whnf) | (refine ⟨rfl, At.load (by assumption) ?_⟩; conv => whnf) | (refine HIf.yes ?_; conv => whnf) | (refine HIf.no ?_; conv => whnf) | (refine HIf.isT (by assumption) ?_; conv => whnf) | (refine HIf.isF (by assumption) ?_; conv => whnf) | (refine HIf.decT (by assumption) ?_; conv => whnf) | (refine HIf.decF (by assumption) ?_; conv => whnf) | (refine HIf.beqT (by assumption) ?_; conv => whnf) | (refine HIf.beqF (by assumption) ?_; conv => whnf) | (refine HIf.bneT (by assumption) ?_; conv => whnf) | (refine HIf.bneF (by assumption) ?_; conv => whnf) | (refine ⟨rfl, Ints.idxN (by assumption) (by omega) (fun p hp => ?_)⟩; conv => whnf) | (refine ⟨rfl, Rows.idxN (by assumption) (by omega) (fun p y hp hy => ?_)⟩; conv => whnf) | (refine And.intro (show Kd.isBool _ = true from rfl) ?_; conv => whnf) | (refine ⟨rfl, Ints.idx (by assumption) (by omega) (by omega) (fun p hp => ?_)⟩; conv => whnf) | (refine ⟨rfl, Rows.idx (by assumption) (by omega) (by omega) (fun p y hp hy => ?_)⟩; conv => whnf) | (refine HArith.fits (by omega) (by omega) ?_; conv => whnf) | (refine Or.inl (And.intro (show Region.lexB _ _ = true by kernel_rfl) ?_); conv => whnf)))
  refine (impl_image _ _ a0 _ a1 hx0 hx1 hC hw s1).mono ?_
  rintro r h1 ⟨y1, rfl, f1⟩
  (conv => whnf)
  refine HLit.empty ?_
  (conv => whnf)
  have E1 := f1.1
  have E2 := E1.pushed [Row.own []]
  have hE1 := E1.1
  refine (impl_spelled hC _ _ (fun _ => False) _ _ _ _ (imageOf a0 a1) [] h1.length [] (fun q g => g.elim) (hx0.ext E2).noF ⟨f1.ints.ext (Ext.push _ _), fun _ _ _ _ g => g⟩ (OwnR.push h1 []) (fun g => g) P (by simpa using hn15) (Or.inl ⟨rfl, rfl⟩) (by simp)).mono ?_
  rintro r h3 ⟨y3, rfl, k3, O3⟩
  have e0 : ([] ++ (spellW a0 (normF a0 a1).length (imageOf a0 a1)).map ([] ++ ·)).take 121 = (redAll a0 a1).take 121 := by
    rw [List.nil_append]
    refine congrArg (List.take 121) ?_
    exact List.map_id _
  rw [e0] at O3
  have E3 : Ext h h3 := E2.trans ⟨k3.1, fun q hq => k3.2 q hq (fun g => g)⟩
  (conv => whnf)
  refine ⟨rfl, O3.len ?_⟩
  (conv => whnf)
  refine HIf.dec (fun hov => ?_) (fun hfit => ?_)
  · have hov2 : 120 < (redAll a0 a1).length := by
      have := List.length_take_le 121 (redAll a0 a1)
      rw [List.length_take] at hov
      omega
    rw [redOk_over hov2, reducedWords_off (redOk_over hov2)]
    (conv => whnf)
    refine HLit.empty ?_
    (conv => whnf)
    exact ⟨_, rfl, E3.pushed _, (OwnM.none h3).lower E3.1⟩
  · have hfit2 : (redAll a0 a1).length ≤ 120 := by
      rw [List.length_take] at hfit
      omega
    rw [redOk_on hic hfit2, reducedWords_on (redOk_on hic hfit2)]
    rw [List.take_of_length_le (by omega)] at O3
    have hne : redAll a0 a1 ≠ [] := fun e => by
      have := (spell_mem hC _ _ P (by omega) _).2 R
      rw [show spellW a0 (normF a0 a1).length (imageOf a0 a1) = [] from e] at this
      simp at this
    (conv => whnf)
    rcases O3 with ⟨_, e⟩ | ⟨r, ρ, rfl, g2, g3, m⟩
    · exact absurd e hne
    refine ⟨_, rfl, E3, r, ρ, rfl, ?_, m.lt.1, fun i hi => ⟨?_, m.lt.2 i hi⟩, m⟩
    · rcases g2 with g | g
      · exact g.elim
      · have := E2.1
        simp at g
        omega
    · rcases g3 i hi with g | g
      · exact g.elim
      · have := E2.1
        simp at g
        omega

end Go.Proofs.Ytkkniibnlniflaa.Hx

namespace Go.Proofs.Ytkkniibnlniflaa.Hx
open Go.RowKit
variable {dm : Bool}

/-- A cell that holds a byte; a cell that holds a text. -/
abbrev cby (n : Int) : H0 := .pl (.int .u8 n)
abbrev cst (s : ByteArray) : H0 := .pl (.string s)
abbrev St (s : ByteArray) : HV := .s (.pl (.string s))

def Bytes (h : Heap) (x : H0) (l : List Int) : Prop := Shows h (.s x) (l.map cby) ∧ l.length ≤ 1048576 ∧ ∀ y ∈ l, 0 ≤ y ∧ y < 256

/-- The cursor: a struct of a slice of bytes and two numbers, in row r. -/
def Cur (r : Nat) (h : Heap) (x : H0) : Prop := x = .ptr r 0 ∧ ∃ (b : H0) (l : List Int) (i hh : Int), h[r]? = some (.own [b, ci i, ci hh]) ∧ Bytes h b l ∧ (∀ q o n, b = .sl q o n → q < r) ∧ 0 ≤ i ∧ i ≤ 1048576

theorem HField.at {n r o f : Nat} {K : HV → Prop} (h : f < n) (hK : K (.s (.ptr r (o + f)))) : HField n (.s (.ptr r o)) f K := ⟨r, o, rfl, h, hK⟩
theorem At.here {h : Heap} {r o : Nat} {cs : List H0} {c : H0} (hr : h[r]? = some (.own cs)) (hc : cs[o]? = some c) : At h (.ptr r o) c := ⟨r, o, _, cs, rfl, hr, rfl, hc⟩
theorem HConv.of {k k' : IntKind} {n : Int} {K : HV → Prop} (hK : K (.s (.pl (.int k (k.wrap n))))) : HConv k (.s (.pl (.int k' n))) K := ⟨k', n, rfl, hK⟩
theorem HMax.of {k : IntKind} {a b : Int} {K : HV → Prop} (hK : K (.s (.pl (.int k (if b > a then b else a))))) : HMax (.s (.pl (.int k a))) (.s (.pl (.int k b))) K := ⟨k, a, b, rfl, rfl, hK⟩

theorem two_ok {a b : H0} (ha : a.one = true) (hb : b.one = true) : ∀ c ∈ [a, b], c.one = true := by
  intro c hc
  simp only [List.mem_cons, List.not_mem_nil, or_false] at hc
  rcases hc with rfl | rfl
  · exact ha
  · exact hb
theorem three_ok {a b d : H0} (ha : a.one = true) (hb : b.one = true) (hd : d.one = true) : ∀ c ∈ [a, b, d], c.one = true := by
  intro c hc
  simp only [List.mem_cons, List.not_mem_nil, or_false] at hc
  rcases hc with rfl | rfl | rfl
  · exact ha
  · exact hb
  · exact hd

theorem wrap_byte {n : Int} (h : 0 ≤ n ∧ n < 256) : IntKind.i64.wrap n = n := IntWalk.i64_in n ⟨by omega, by omega⟩

/-- And with 255 leaves a byte. -/
theorem and_byte (a : Int) : ∃ n : Int, 0 ≤ n ∧ n ≤ 255 ∧ IntKind.i64.wrap ((BitVec.ofInt IntKind.i64.bits a &&& BitVec.ofInt IntKind.i64.bits 255).toNat : Int) = n := by
  have e : (BitVec.ofInt IntKind.i64.bits a &&& BitVec.ofInt IntKind.i64.bits 255).toNat ≤ 255 := by
    rw [BitVec.toNat_and]
    have : (BitVec.ofInt IntKind.i64.bits 255).toNat = 255 := by decide
    rw [this]
    exact Nat.and_le_right
  refine ⟨_, ?_, ?_, rfl⟩
  · rw [wrap_byte (by omega)]; omega
  · rw [wrap_byte (by omega)]; omega

theorem HAnd.byte {a : Int} {K : HV → Prop} (hK : ∀ n : Int, 0 ≤ n → n ≤ 255 → K (I n)) : HAnd .i64 a 255 K := by
  obtain ⟨n, h1, h2, e⟩ := and_byte a
  refine ⟨?_⟩
  rw [e]
  exact hK n h1 h2
theorem HAnd.any {k : IntKind} {a b : Int} {K : HV → Prop} (hK : ∀ n : Int, K (.s (.pl (.int k n)))) : HAnd k a b K := ⟨hK _⟩
theorem HShr.any {k : IntKind} {a b : Int} {K : HV → Prop} (h : 0 ≤ b) (hK : ∀ n : Int, K (.s (.pl (.int k n)))) : HShr k a b K := ⟨h, hK _⟩
theorem HXor.any {k : IntKind} {a b : Int} {K : HV → Prop} (hK : ∀ n : Int, K (.s (.pl (.int k n)))) : HXor k a b K := ⟨hK _⟩
theorem HArith.some {k : IntKind} {e : Int} {K : HV → Prop} (hK : ∀ n : Int, K (.s (.pl (.int k n)))) : HArith k e K := ⟨hK _⟩

theorem Bytes.len {h : Heap} {x : H0} {l : List Int} (H : Bytes h x l) {K : HV → Prop} (hK : K (I l.length)) : HLen (.s x) K := by
  have := Shows.len H.1 (K := K)
  simp only [List.length_map] at this
  exact this hK

theorem getD_map_cby {l : List Int} {n : Nat} (h : n < l.length) (d : H0) : (l.map cby).getD n d = cby (l.getD n 0) := by
  simp [List.getD, h]

theorem Bytes.idx {h : Heap} {x : H0} {l : List Int} (H : Bytes h x l) {j : Int} (h0 : 0 ≤ j) (h1 : j < l.length) {k : IntKind} {K : HV → Prop} (hK : ∀ p n, 0 ≤ n → n < 256 → At h p (cby n) → K (.s p)) : HIdx h (.s x) (.s (.pl (.int k j))) K := by
  refine Shows.idx H.1 h0 (by simpa using h1) (fun p hp => ?_)
  rw [getD_map_cby (by omega)] at hp
  have hm : l.getD j.toNat 0 ∈ l := by
    have e : l.getD j.toNat 0 = l[j.toNat]'(by omega) := by simp [List.getD, show j.toNat < l.length by omega]
    rw [e]
    exact List.getElem_mem _
  exact hK p _ (H.2.2 _ hm).1 (H.2.2 _ hm).2 hp

theorem Bytes.keep {F : Nat → Prop} {h h' : Heap} {x : H0} {l : List Int} (H : Bytes h x l) (hf : ∀ q o n, x = .sl q o n → ¬ F q) (k : KeepN F h h') : Bytes h' x l := ⟨H.1.keep hf k, H.2⟩
theorem Bytes.ext {h h' : Heap} {x : H0} {l : List Int} (H : Bytes h x l) (E : Ext h h') : Bytes h' x l := ⟨H.1.ext E, H.2⟩

theorem Cur.lt {r : Nat} {h : Heap} {x : H0} (C : Cur r h x) : r < h.length := by
  obtain ⟨_, b, l, i, hh, hr, _⟩ := C
  exact get_lt hr
theorem Cur.ext {r : Nat} {h h' : Heap} {x : H0} (C : Cur r h x) (E : Ext h h') : Cur r h' x := by
  obtain ⟨e, b, l, i, hh, hr, B, hb, hi⟩ := C
  exact ⟨e, b, l, i, hh, E.row hr, B.ext E, hb, hi⟩

theorem Cur.low {r : Nat} {h h' : Heap} {x : H0} (C : Cur r h x) (hl : ∀ q, q ≤ r → h'[q]? = h[q]?) : Cur r h' x := by
  obtain ⟨e, b, l, i, hh, hr, B, hb, hi⟩ := C
  refine ⟨e, b, l, i, hh, by rw [hl r (Nat.le_refl _)]; exact hr, ⟨?_, B.2⟩, hb, hi⟩
  have B1 := B.1
  generalize l.map cby = L at B1
  cases B1 with
  | nils a c => exact .nils a c
  | ro q off len cs hq hlen => exact .ro q off len cs (by rw [hl q (Nat.le_of_lt (hb _ _ _ rfl))]; exact hq) hlen
  | own q off len cs hq hlen => exact .own q off len cs (by rw [hl q (Nat.le_of_lt (hb _ _ _ rfl))]; exact hq) hlen
theorem Cur.keep {F : Nat → Prop} {r : Nat} {h h' : Heap} {x : H0} (C : Cur r h x) (k : KeepN F h h') (hf : ∀ q, F q → r < q) : Cur r h' x :=
  C.low (fun q hq => k.2 q (Nat.lt_of_le_of_lt hq C.lt) (fun f => by have := hf q f; omega))

/-- Only row r has changed. -/
abbrev KeepR (r : Nat) : Heap → Heap → Prop := KeepN (fun q => q = r)

theorem KeepR.set {r : Nat} {h : Heap} (x : Row) : KeepR r h (h.set r x) := ⟨by simp, fun q hq hn => by rw [List.getElem?_set_ne (fun e => hn e.symm)]⟩

theorem HStore.cur {h : Heap} {r o : Nat} {cs : List H0} {c : H0} {K : HV → Heap → Prop} (hr : h[r]? = some (.own cs)) (ho : o < cs.length) (hc : c.one = true) (hK : K .dead (h.set r (.own (cs.set o c)))) : HStore h (.s (.ptr r o)) (.s c) K := HStore.own hr ho hc hK


set_option maxHeartbeats 1000000 in
theorem spec_l1Byte (h : Heap) (r : Nat) (x : H0) (C : Cur r h x) : HCalls dm Try.prog 142 [.s x] h (fun v h' => ∃ n : Int, v = I n ∧ 0 ≤ n ∧ n ≤ 255 ∧ KeepR r h h' ∧ Cur r h' x) := by
  obtain ⟨rfl, b, l, i, hh, hr, B, hb, hi, hi2⟩ := C
  have hrl := get_lt hr
  refine calls_of_hFun (m := 0) kd_ok mixed Try.func142 rfl (by kernel_rfl) rfl rfl (of_decide_eq_true rfl) ?_; unfold hFun; (conv => whnf)
  refine HField.at (by decide) ?_
  (conv => whnf)
  refine ⟨rfl, (At.here hr rfl).load ?_⟩
  (conv => whnf)
  refine HArith.some (fun n1 => ?_)
  (conv => whnf)
  refine HArith.some (fun n2 => ?_)
  (conv => whnf)
  refine HField.at (by decide) ?_
  (conv => whnf)
  refine ⟨rfl, HStore.cur hr (by simp) rfl ?_⟩
  have hr1 : (h.set r (.own ([b, ci i, ci hh].set (0 + 2) (ci n2))))[r]? = some (.own [b, ci i, ci n2]) := List.getElem?_set_self hrl
  have K1 : KeepR r h (h.set r (.own ([b, ci i, ci hh].set (0 + 2) (ci n2)))) := KeepR.set _
  generalize h.set r (.own ([b, ci i, ci hh].set (0 + 2) (ci n2))) = h1 at hr1 K1 ⊢
  have B1 := B.keep (fun q o n e g => by have := hb q o n e; omega) K1
  have hrl1 := get_lt hr1
  (conv => whnf)
  refine Or.inl (And.intro (show Region.lexB _ _ = true by kernel_rfl) ?_); (conv => whnf)
  refine HField.at (by decide) ?_
  (conv => whnf)
  refine ⟨rfl, (At.here hr1 rfl).load ?_⟩
  (conv => whnf)
  refine HShr.any (by decide) (fun n3 => ?_)
  (conv => whnf)
  refine HField.at (by decide) ?_
  (conv => whnf)
  refine ⟨rfl, (At.here hr1 rfl).load ?_⟩
  (conv => whnf)
  refine HShr.any (by decide) (fun n4 => ?_)
  (conv => whnf)
  refine HXor.any (fun n5 => ?_)
  (conv => whnf)
  refine HAnd.byte (fun n6 h6 h6' => ?_)
  (conv => whnf)
  refine Or.inl (And.intro (show Region.lexB _ _ = true by kernel_rfl) ?_); (conv => whnf)
  refine HField.at (by decide) ?_
  (conv => whnf)
  refine ⟨rfl, (At.here hr1 rfl).load ?_⟩
  (conv => whnf)
  refine HField.at (by decide) ?_
  (conv => whnf)
  refine ⟨rfl, (At.here hr1 rfl).load ?_⟩
  (conv => whnf)
  refine ⟨rfl, B1.len ?_⟩
  (conv => whnf)
  refine HIf.dec (fun hlt => ?_) (fun hge => ?_)
  · (conv => whnf)
    refine Or.inl (And.intro (show Region.lexB _ _ = true by kernel_rfl) ?_); (conv => whnf)
    refine HField.at (by decide) ?_
    (conv => whnf)
    refine ⟨rfl, (At.here hr1 rfl).load ?_⟩
    (conv => whnf)
    refine HField.at (by decide) ?_
    (conv => whnf)
    refine ⟨rfl, (At.here hr1 rfl).load ?_⟩
    (conv => whnf)
    refine ⟨rfl, B1.idx hi hlt (fun p n7 h7 h7' hp => ?_)⟩
    (conv => whnf)
    refine ⟨rfl, hp.load ?_⟩
    (conv => whnf)
    refine HConv.of ?_
    (conv => whnf)
    refine HArith.some (fun n8 => ?_)
    (conv => whnf)
    refine HAnd.byte (fun n9 h9 h9' => ?_)
    (conv => whnf)
    refine HField.at (by decide) ?_
    (conv => whnf)
    refine ⟨rfl, (At.here hr1 rfl).load ?_⟩
    (conv => whnf)
    refine HArith.fits (by omega) (by omega) ?_
    (conv => whnf)
    refine HField.at (by decide) ?_
    (conv => whnf)
    refine ⟨rfl, HStore.cur hr1 (by simp) rfl ?_⟩
    have hr2 : (h1.set r (.own ([b, ci i, ci n2].set (0 + 1) (ci (i + 1)))))[r]? = some (.own [b, ci (i + 1), ci n2]) := List.getElem?_set_self hrl1
    have K2 : KeepR r h1 (h1.set r (.own ([b, ci i, ci n2].set (0 + 1) (ci (i + 1))))) := KeepR.set _
    generalize h1.set r (.own ([b, ci i, ci n2].set (0 + 1) (ci (i + 1)))) = h2 at hr2 K2 ⊢
    have hBl := B.2.1
    (conv => whnf)
    exact ⟨n9, rfl, h9, h9', K1.trans K2 (fun q _ g => g), rfl, b, l, i + 1, n2, hr2, B1.keep (fun q o n e g => by have := hb q o n e; omega) K2, hb, by omega, by omega⟩
  · (conv => whnf)
    exact ⟨n6, rfl, h6, h6', K1, rfl, b, l, i, n2, hr1, B1, hb, hi, hi2⟩

theorem tmod_pos {a b : Int} (ha : 0 ≤ a) (hb : 0 < b) : 0 ≤ a.tmod b ∧ a.tmod b < b := ⟨Int.tmod_nonneg _ ha, Int.tmod_lt_of_pos _ hb⟩

theorem spec_l1Below (h : Heap) (r : Nat) (x : H0) (n : Int) (C : Cur r h x) (hn : n ≤ 9223372036854775807) : HCalls dm Try.prog 100 [.s x, I n] h (fun v h' => ∃ m : Int, v = I m ∧ 0 ≤ m ∧ (0 < n → m < n) ∧ m ≤ 9223372036854775807 ∧ KeepR r h h' ∧ Cur r h' x) := by
  refine calls_of_hFun (m := 0) kd_ok mixed Try.func100 rfl (by kernel_rfl) rfl rfl (of_decide_eq_true rfl) ?_; unfold hFun; (conv => whnf)
  refine HIf.dec (fun h0 => ?_) (fun h0 => ?_)
  · (conv => whnf)
    exact ⟨0, rfl, by omega, fun h => by omega, by omega, KeepN.refl _ _, C⟩
  · (conv => whnf)
    refine HIf.dec (fun h256 => ?_) (fun h256 => ?_)
    · (conv => whnf)
      refine (spec_l1Byte _ r _ C).mono ?_
      rintro v h1 ⟨b, rfl, b1, b2, K1, C1⟩
      have ht := tmod_pos b1 (show 0 < n by omega)
      (conv => whnf)
      refine HRem.of (by omega) ?_
      (conv => whnf)
      exact ⟨_, rfl, ht.1, fun _ => ht.2, by omega, K1, C1⟩
    · (conv => whnf)
      refine (spec_l1Byte _ r _ C).mono ?_
      rintro v h1 ⟨b, rfl, b1, b2, K1, C1⟩
      (conv => whnf)
      refine (spec_l1Byte _ r _ C1).mono ?_
      rintro v h2 ⟨d, rfl, d1, d2, K2, C2⟩
      (conv => whnf)
      refine (spec_l1Byte _ r _ C2).mono ?_
      rintro v h3 ⟨e, rfl, e1, e2, K3, C3⟩
      (conv => whnf)
      refine (spec_l1Byte _ r _ C3).mono ?_
      rintro v h4 ⟨f, rfl, f1, f2, K4, C4⟩
      (conv => whnf)
      refine HArith.fits (by omega) (by omega) ?_
      (conv => whnf)
      refine HArith.fits (by omega) (by omega) ?_
      (conv => whnf)
      refine HArith.fits (by omega) (by omega) ?_
      (conv => whnf)
      refine HArith.fits (by omega) (by omega) ?_
      (conv => whnf)
      refine HArith.fits (by omega) (by omega) ?_
      (conv => whnf)
      refine HArith.fits (by omega) (by omega) ?_
      have ht := tmod_pos (a := b * 16777216 + d * 65536 + e * 256 + f) (b := n) (by omega) (by omega)
      (conv => whnf)
      refine HRem.of (by omega) ?_
      (conv => whnf)
      exact ⟨_, rfl, ht.1, fun _ => ht.2, by omega, ((K1.trans K2 (fun q _ g => g)).trans K3 (fun q _ g => g)).trans K4 (fun q _ g => g), C4⟩

theorem spec_l1Once (h : Heap) (r : Nat) (x : H0) (n : Int) (C : Cur r h x) (hn : n ≤ 9223372036854775807) : HCalls dm Try.prog 99 [.s x, I n] h (fun v h' => ∃ b : Bool, v = B b ∧ KeepR r h h' ∧ Cur r h' x) := by
  refine calls_of_hFun (m := 0) kd_ok mixed Try.func99 rfl (by kernel_rfl) rfl rfl (of_decide_eq_true rfl) ?_; unfold hFun; (conv => whnf)
  refine (spec_l1Below _ r _ n C hn).mono ?_
  rintro v h1 ⟨m, rfl, m1, m2, m3, K1, C1⟩
  (conv => whnf)
  exact ⟨_, rfl, K1, C1⟩

theorem spec_l1PickInt (h : Heap) (r : Nat) (x y : H0) (l : List Int) (C : Cur r h x) (hy : IntsN (fun q => q = r) h y l) (h0 : 0 < l.length) (hl : l.length ≤ 1048576) :
    HCalls dm Try.prog 110 [.s x, .s y] h (fun v h' => ∃ n : Int, v = I n ∧ n ∈ l ∧ KeepR r h h' ∧ Cur r h' x) := by
  refine calls_of_hFun (m := 0) kd_ok mixed Try.func110 rfl (by kernel_rfl) rfl rfl (of_decide_eq_true rfl) ?_; unfold hFun; (conv => whnf)
  refine ⟨rfl, hy.1.len ?_⟩
  (conv => whnf)
  refine (spec_l1Below _ r _ _ C (by omega)).mono ?_
  rintro v h1 ⟨m, rfl, m1, m2, m3, K1, C1⟩
  have hm := m2 (by omega)
  have hy1 := (hy.keep K1 (fun q _ g => g)).1
  (conv => whnf)
  refine ⟨rfl, hy1.idx m1 hm (fun p hp => ?_)⟩
  (conv => whnf)
  refine ⟨rfl, hp.load ?_⟩
  (conv => whnf)
  refine ⟨_, rfl, ?_, K1, C1⟩
  have e : l.getD m.toNat 0 = l[m.toNat]'(by omega) := by simp [List.getD, show m.toNat < l.length by omega]
  rw [e]
  exact List.getElem_mem _

/-- A slice of texts. -/
def Strs (h : Heap) (x : H0) (l : List ByteArray) : Prop := Shows h (.s x) (l.map cst)

theorem spec_l1Pick (h : Heap) (r : Nat) (x y : H0) (l : List ByteArray) (C : Cur r h x) (hy : Strs h y l) (hn : ∀ q o n, y = .sl q o n → q ≠ r) (h0 : 0 < l.length) (hl : l.length ≤ 1048576) :
    HCalls dm Try.prog 177 [.s x, .s y] h (fun v h' => ∃ s, v = St s ∧ s ∈ l ∧ KeepR r h h' ∧ Cur r h' x) := by
  have hlm : (l.map cst).length = l.length := by simp
  refine calls_of_hFun (m := 0) kd_ok mixed Try.func177 rfl (by kernel_rfl) rfl rfl (of_decide_eq_true rfl) ?_; unfold hFun; (conv => whnf)
  refine ⟨rfl, Shows.len hy ?_⟩
  rw [hlm]
  (conv => whnf)
  refine (spec_l1Below _ r _ _ C (by omega)).mono ?_
  rintro v h1 ⟨m, rfl, m1, m2, m3, K1, C1⟩
  have hm := m2 (by omega)
  have hy1 : Shows h1 (.s y) (l.map cst) := Shows.keep hy hn K1
  (conv => whnf)
  refine ⟨rfl, Shows.idx hy1 m1 (by rw [hlm]; exact hm) (fun p hp => ?_)⟩
  have hml : m.toNat < l.length := by omega
  have e : (l.map cst).getD m.toNat (.pl (.int .i64 0)) = cst l[m.toNat] := by simp [List.getD, hml]
  rw [e] at hp
  (conv => whnf)
  refine ⟨rfl, hp.load ?_⟩
  (conv => whnf)
  exact ⟨_, rfl, List.getElem_mem _, K1, C1⟩

theorem spec_l1New (h : Heap) (y : H0) (l : List Int) (hy : Bytes h y l) : HCalls dm Try.prog 98 [.s y] h (fun v h' => ∃ x r, v = .s x ∧ Ext h h' ∧ h.length ≤ r ∧ Cur r h' x) := by
  have hl := hy.2.1
  refine calls_of_hFun (m := 0) kd_ok mixed Try.func98 rfl (by kernel_rfl) rfl rfl (of_decide_eq_true rfl) ?_; unfold hFun; (conv => whnf)
  refine ⟨rfl, hy.len ?_⟩
  (conv => whnf)
  refine HArith.fits (by omega) (by omega) ?_
  (conv => whnf)
  refine HLoop.intro [4, 3] [8, 9, 10, 11, 12, 13, 14, 15, 18, 19, 20, 21, 22, 23, 24, 25, 26, 27, 3, 16, 17, 4] (by kernel_rfl) (by kernel_rfl) (fun vs h' => ∃ (i : Nat) (n : Int), vs = [I i, I n] ∧ i ≤ l.length ∧ h' = h) (fun vs _ => l.length - natAt vs 0) ⟨0, _, rfl, by omega, rfl⟩ ?_
  rintro vs h' ⟨i, n, rfl, hi, hh⟩
  subst h'
  have fin : ∀ n : Int, Cur h.length (h ++ [.own [y, ci 0, ci n]]) (.ptr h.length 0) := fun n =>
    ⟨rfl, y, l, 0, n, get_new _ _, hy.ext (Ext.push _ _), fun q o m e => by
      have := hy.1
      rw [e] at this
      exact Shows.in_lt this, by omega, by omega⟩
  have hyone : y.one = true := by
    have := hy.1
    cases y with
    | pl v =>
      generalize l.map cby = L at this
      cases this
      rfl
    | sl r o n => rfl
    | ptr r o => cases this
    | sw k r o n => cases this
    | mp r => cases this
    | pa r n => cases this
  (conv => whnf)
  refine ⟨rfl, hy.len ?_⟩
  (conv => whnf)
  refine HIf.dec (fun hlt => ?_) (fun hge => ?_)
  · (conv => whnf)
    refine HIf.decT hlt ?_
    (conv => whnf)
    refine HIf.decT hlt ?_
    (conv => whnf)
    refine HIf.dec (fun h4 => ?_) (fun h4 => ?_)
    · (conv => whnf)
      refine HArith.some (fun n1 => ?_)
      (conv => whnf)
      refine ⟨rfl, hy.idx (by omega) hlt (fun p n7 h7 h7' hp => ?_)⟩
      (conv => whnf)
      refine ⟨rfl, hp.load ?_⟩
      (conv => whnf)
      refine HConv.of ?_
      (conv => whnf)
      refine HArith.some (fun n2 => ?_)
      (conv => whnf)
      refine HArith.some (fun n3 => ?_)
      (conv => whnf)
      refine HAnd.any (fun n4 => ?_)
      (conv => whnf)
      refine HArith.fits (by omega) (by omega) ?_
      (conv => whnf)
      exact ⟨⟨i + 1, n4, rfl, by omega, rfl⟩, by show l.length - (i + 1) < l.length - i; omega⟩
    · (conv => whnf)
      refine HRec.of (two_ok hyone rfl) ?_
      (conv => whnf)
      refine ⟨three_ok hyone rfl rfl, ?_⟩
      (conv => whnf)
      exact ⟨_, _, rfl, Ext.push _ _, Nat.le_refl _, fin n⟩
  · (conv => whnf)
    refine HIf.decF hge ?_
    (conv => whnf)
    refine HIf.decF hge ?_
    (conv => whnf)
    refine HIf.no ?_
    (conv => whnf)
    refine HRec.of (two_ok hyone rfl) ?_
    (conv => whnf)
    refine ⟨three_ok hyone rfl rfl, ?_⟩
    (conv => whnf)
    exact ⟨_, _, rfl, Ext.push _ _, Nat.le_refl _, fin n⟩

end Go.Proofs.Ytkkniibnlniflaa.Hx
