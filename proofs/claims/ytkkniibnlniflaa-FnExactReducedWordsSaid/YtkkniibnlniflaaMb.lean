
/-
  The order of roots (by height, then by the first number that differs, greater ones first), sorted lists of roots, and slices of slices that grow by rows that are there already. Plain, and over rows.
-/
import Derived.Test.YtkkniibnlniflaaGn
import Derived.Test.YtkkniibnlniflaaFa
import Derived.Test.YtkkniibnlniflaaMa
namespace Go.Proofs.Ytkkniibnlniflaa.Hx
open Go.RowKit

/-! ### Plain -/

def lexC : List Int → List Int → Int
  | [], [] => 0
  | [], _ :: _ => -1
  | _ :: _, [] => 1
  | x :: a, y :: b => if x < y then -1 else if y < x then 1 else lexC a b

def lexGt : List Int → List Int → Bool
  | x :: a, y :: b => if x = y then lexGt a b else decide (y < x)
  | _, _ => false

def cmpR (a b : List Int) : Int := if heightOf a < heightOf b then -1 else if heightOf b < heightOf a then 1 else lexC b a

def beforeR (a b : List Int) : Bool := if heightOf a = heightOf b then lexGt a b else decide (heightOf a < heightOf b)

theorem lexC_neg : ∀ a b : List Int, lexC b a = - lexC a b
  | [], [] => rfl
  | [], _ :: _ => rfl
  | _ :: _, [] => rfl
  | x :: a, y :: b => by
    have := lexC_neg a b
    simp only [lexC]
    by_cases h1 : x < y
    · rw [if_neg (by omega), if_pos h1, if_pos h1]; rfl
    · by_cases h2 : y < x
      · rw [if_pos h2, if_neg h1, if_pos h2]
      · rw [if_neg h2, if_neg h1, if_neg h1, if_neg h2]; exact this

theorem lexC_trans : ∀ a b c : List Int, lexC a b < 0 → lexC b c < 0 → lexC a c < 0
  | [], [], c, h, _ => by simp [lexC] at h
  | [], _ :: _, [], _, h => by simp [lexC] at h
  | [], _ :: _, _ :: _, _, _ => by simp [lexC]
  | _ :: _, [], _, h, _ => by simp [lexC] at h
  | _ :: _, _ :: _, [], _, h => by simp [lexC] at h
  | x :: a, y :: b, z :: c, h, k => by
    have ih := lexC_trans a b c
    simp only [lexC] at h k ⊢
    by_cases h1 : x < y
    · by_cases k1 : y < z
      · rw [if_pos (by omega)]; decide
      · by_cases k2 : z < y
        · rw [if_neg k1, if_pos k2] at k; omega
        · rw [if_pos (by omega)]; decide
    · by_cases h2 : y < x
      · rw [if_neg h1, if_pos h2] at h; omega
      · rw [if_neg h1, if_neg h2] at h
        have e : x = y := by omega
        subst e
        by_cases k1 : x < z
        · rw [if_pos k1]; decide
        · by_cases k2 : z < x
          · rw [if_neg k1, if_pos k2] at k; omega
          · rw [if_neg k1, if_neg k2] at k ⊢
            exact ih h k

theorem lexC_eq : ∀ a b : List Int, lexC a b = 0 → a = b
  | [], [], _ => rfl
  | [], _ :: _, h => by simp [lexC] at h
  | _ :: _, [], h => by simp [lexC] at h
  | x :: a, y :: b, h => by
    simp only [lexC] at h
    by_cases h1 : x < y
    · rw [if_pos h1] at h; omega
    · by_cases h2 : y < x
      · rw [if_neg h1, if_pos h2] at h; omega
      · rw [if_neg h1, if_neg h2] at h
        rw [lexC_eq a b h, show x = y by omega]

theorem lexC_ntrans (a b c : List Int) (h : ¬ lexC a b < 0) (k : ¬ lexC b c < 0) : ¬ lexC a c < 0 := by
  intro hn
  have e1 := lexC_neg a b
  have e2 := lexC_neg b c
  have e3 := lexC_neg a c
  by_cases h0 : lexC a b = 0
  · rw [lexC_eq a b h0] at hn; omega
  · by_cases k0 : lexC b c = 0
    · rw [← lexC_eq b c k0] at hn; omega
    · have := lexC_trans c b a (by omega) (by omega)
      omega

theorem cmpR_neg (a b : List Int) : cmpR b a = - cmpR a b := by
  have := lexC_neg a b
  unfold cmpR
  by_cases h1 : heightOf a < heightOf b
  · rw [if_neg (by omega), if_pos h1, if_pos h1]; rfl
  · by_cases h2 : heightOf b < heightOf a
    · rw [if_pos h2, if_neg h1, if_pos h2]
    · rw [if_neg h2, if_neg h1, if_neg h1, if_neg h2]; omega

theorem cmpR_lt {a b : List Int} : cmpR a b < 0 ↔ heightOf a < heightOf b ∨ heightOf a = heightOf b ∧ lexC b a < 0 := by
  unfold cmpR
  by_cases h1 : heightOf a < heightOf b
  · rw [if_pos h1]; simp [h1]
  · by_cases h2 : heightOf b < heightOf a
    · rw [if_neg h1, if_pos h2]
      constructor
      · intro h; omega
      · rintro (h | h) <;> omega
    · rw [if_neg h1, if_neg h2]
      constructor
      · intro h; exact Or.inr ⟨by omega, h⟩
      · rintro (h | h)
        · omega
        · exact h.2

theorem cmpR_eq {a b : List Int} (h : cmpR a b = 0) : a = b := by
  unfold cmpR at h
  by_cases h1 : heightOf a < heightOf b
  · rw [if_pos h1] at h; omega
  · by_cases h2 : heightOf b < heightOf a
    · rw [if_neg h1, if_pos h2] at h; omega
    · rw [if_neg h1, if_neg h2] at h
      exact (lexC_eq b a h).symm

theorem cmpR_trans {a b c : List Int} (h : cmpR a b < 0) (k : cmpR b c < 0) : cmpR a c < 0 := by
  rw [cmpR_lt] at *
  rcases h with h | ⟨h, h2⟩ <;> rcases k with k | ⟨k, k2⟩
  · exact Or.inl (by omega)
  · exact Or.inl (by omega)
  · exact Or.inl (by omega)
  · exact Or.inr ⟨by omega, lexC_trans c b a k2 h2⟩

theorem cmpR_ntrans {a b c : List Int} (h : ¬ cmpR a b < 0) (k : ¬ cmpR b c < 0) : ¬ cmpR a c < 0 := by
  intro hn
  have e1 := cmpR_neg a b
  have e2 := cmpR_neg b c
  have e3 := cmpR_neg a c
  by_cases h0 : cmpR a b = 0
  · rw [cmpR_eq h0] at hn; omega
  · by_cases k0 : cmpR b c = 0
    · rw [← cmpR_eq k0] at hn; omega
    · have := cmpR_trans (a := c) (b := b) (c := a) (by omega) (by omega)
      omega

theorem cmpR_swo : Go.Sort.SWO (ltOf cmpR) := ⟨fun x => by
    have := cmpR_neg x x
    simp only [ltOf, decide_eq_false_iff_not]
    omega, fun x y z h k => by
    simp only [ltOf, decide_eq_true_eq] at *
    exact cmpR_trans h k, fun x y z h k => by
    simp only [ltOf, decide_eq_false_iff_not] at *
    exact cmpR_ntrans h k⟩

/-- Sorted. -/
def SortedR (L : List (List Int)) : Prop := L.Pairwise (fun a b => ¬ cmpR b a < 0)

theorem sortedR_one {A B : List (List Int)} (hA : SortedR A) (hB : SortedR B) (p : A.Perm B) : A = B :=
  List.Perm.eq_of_pairwise (le := fun a b => ¬ cmpR b a < 0) (fun a b _ _ h k => by
    have := cmpR_neg a b
    exact cmpR_eq (by omega)) hA hB p

theorem lexGt_lexC : ∀ a b : List Int, a.length = b.length → (lexGt a b = true ↔ lexC b a < 0)
  | [], [], _ => by simp [lexGt, lexC]
  | [], _ :: _, h => by simp at h
  | _ :: _, [], h => by simp at h
  | x :: a, y :: b, h => by
    have ih := lexGt_lexC a b (by simpa using h)
    simp only [lexGt, lexC]
    by_cases h1 : y < x
    · rw [if_neg (by omega), if_pos h1]; simp [h1]
    · by_cases h2 : x < y
      · rw [if_neg (by omega), if_neg h1, if_pos h2]; simp [h1]
      · rw [if_pos (by omega), if_neg h1, if_neg h2]; exact ih

theorem beforeR_cmpR {a b : List Int} (h : a.length = b.length) : beforeR a b = true ↔ cmpR a b < 0 := by
  rw [cmpR_lt]
  unfold beforeR
  by_cases e : heightOf a = heightOf b
  · rw [if_pos e, lexGt_lexC a b h]
    constructor
    · intro k; exact Or.inr ⟨e, k⟩
    · rintro (k | k)
      · omega
      · exact k.2
  · rw [if_neg e]
    simp [e]

/-- One root put in its place. -/
def putR (r : List Int) : List (List Int) → List (List Int)
  | [] => [r]
  | a :: t => if beforeR r a then r :: a :: t else a :: putR r t

theorem putR_perm (r : List Int) : ∀ L, (putR r L).Perm (r :: L)
  | [] => List.Perm.refl _
  | a :: t => by
    simp only [putR]
    split
    · exact List.Perm.refl _
    · exact ((putR_perm r t).cons a).trans (List.Perm.swap r a t)

theorem putR_sorted {n : Nat} {r : List Int} (hr : r.length = n) : ∀ {L : List (List Int)}, (∀ a ∈ L, a.length = n) → SortedR L → SortedR (putR r L)
  | [], _, _ => by simp [putR, SortedR]
  | a :: t, hn, hs => by
    have hs' := List.pairwise_cons.1 hs
    have hb := beforeR_cmpR (a := r) (b := a) (hr.trans (hn a (by simp)).symm)
    simp only [putR]
    split
    · rename_i h
      have hlt := hb.1 h
      refine List.pairwise_cons.2 ⟨fun b hb2 hlt2 => ?_, hs⟩
      have h3 := cmpR_neg r a
      rcases List.mem_cons.1 hb2 with rfl | hb2
      · omega
      · exact hs'.1 b hb2 (cmpR_trans hlt2 hlt)
    · rename_i h
      have hge : ¬ cmpR r a < 0 := fun k => h (hb.2 k)
      refine List.pairwise_cons.2 ⟨fun b hb2 => ?_, putR_sorted hr (fun x hx => hn x (by simp [hx])) hs'.2⟩
      rcases List.mem_cons.1 ((putR_perm r t).mem_iff.1 hb2) with rfl | hb2
      · exact hge
      · exact hs'.1 b hb2

def insR (L : List (List Int)) : List (List Int) := L.foldl (fun o r => putR r o) []

theorem insR_snoc (L : List (List Int)) (k : Nat) (hk : k < L.length) : insR (L.take (k + 1)) = putR (L.getD k []) (insR (L.take k)) := by
  rw [List.take_succ_eq_append_getElem hk]
  unfold insR
  rw [List.foldl_append]
  simp [List.getD, hk]

theorem insR_perm (L : List (List Int)) : (insR L).Perm L := by
  have main : ∀ (L o : List (List Int)), (L.foldl (fun o r => putR r o) o).Perm (o ++ L) := by
    intro L
    induction L with
    | nil => intro o; simp
    | cons r t ih =>
      intro o
      refine (ih _).trans ?_
      refine ((putR_perm r o).append_right t).trans ?_
      exact List.perm_middle.symm
  have := main L []
  rw [List.nil_append] at this
  exact this

theorem insR_sorted {n : Nat} (L : List (List Int)) (hn : ∀ a ∈ L, a.length = n) : SortedR (insR L) := by
  have main : ∀ (L o : List (List Int)), (∀ a ∈ L, a.length = n) → (∀ a ∈ o, a.length = n) → SortedR o → SortedR (L.foldl (fun o r => putR r o) o) := by
    intro L
    induction L with
    | nil => intro o _ _ h; exact h
    | cons r t ih =>
      intro o h1 h2 h3
      refine ih _ (fun a ha => h1 a (by simp [ha])) (fun a ha => ?_) (putR_sorted (h1 r (by simp)) h2 h3)
      rcases List.mem_cons.1 ((putR_perm r o).mem_iff.1 ha) with rfl | ha
      · exact h1 _ (by simp)
      · exact h2 a ha
  exact main L [] hn (by simp) List.Pairwise.nil

theorem insR_length (L : List (List Int)) : (insR L).length = L.length := (insR_perm L).length_eq

/-- What the sort leaves is what the insertions leave. -/
theorem sorted_insR {n : Nat} {L : List (List Int)} (hn : ∀ a ∈ L, a.length = n) {σ : List Nat} (hp : σ.Perm (List.range L.length)) (hs : σ.Pairwise (fun i j => ¬ cmpR (L.getD j []) (L.getD i []) < 0)) : σ.map (fun i => L.getD i []) = insR L := by
  refine sortedR_one (List.pairwise_map.2 hs) (insR_sorted L hn) ?_
  refine (hp.map _).trans (List.Perm.trans ?_ (insR_perm L).symm)
  have : (List.range L.length).map (fun i => L.getD i []) = L := by
    apply List.ext_getElem (by simp)
    intro i h1 h2
    simp [List.getD, h2]
  rw [this]

/-! ### Over rows -/

/-- A slice of slices: its own row is of number b or more, its parts lie in rows of which S holds. -/
def MatIn (b : Nat) (S : Nat → Prop) (h : Heap) (z : H0) (T : List (List Int)) : Prop := ∃ r ρ, z = .sl r 0 T.length ∧ b ≤ r ∧ (∀ i, i < T.length → S (ρ i)) ∧ MatAt h r ρ T

theorem MatIn.none (h : Heap) (S : Nat → Prop) : MatIn h.length S (h ++ [Row.own []]) (.sl h.length 0 0) [] :=
  ⟨h.length, fun _ => 0, rfl, Nat.le_refl _, fun i hi => by simp at hi, ⟨[], get_new _ _, Nat.le_refl _, fun i hi => by simp at hi⟩, fun i hi => by simp at hi, fun i hi => by simp at hi, fun i j _ hj => by simp at hj⟩

theorem MatAt.lt {h : Heap} {r : Nat} {ρ : Nat → Nat} {L : List (List Int)} (m : MatAt h r ρ L) : r < h.length ∧ ∀ i, i < L.length → ρ i < h.length :=
  ⟨by obtain ⟨cs, g, _⟩ := m.outer; exact get_lt g, fun i hi => by obtain ⟨t, g⟩ := m.inner i hi; exact get_lt g⟩

theorem MatAt.ext {h h' : Heap} {r : Nat} {ρ : Nat → Nat} {L : List (List Int)} (m : MatAt h r ρ L) (E : Ext h h') : MatAt h' r ρ L :=
  m.move (E.2 _ m.lt.1) (fun i hi => E.2 _ (m.lt.2 i hi))

theorem MatIn.ext {b : Nat} {S : Nat → Prop} {h h' : Heap} {z : H0} {T : List (List Int)} (M : MatIn b S h z T) (E : Ext h h') : MatIn b S h' z T := by
  obtain ⟨r, ρ, g1, g2, g3, m⟩ := M
  exact ⟨r, ρ, g1, g2, g3, m.ext E⟩

theorem MatIn.weaken {b : Nat} {S S' : Nat → Prop} {h : Heap} {z : H0} {T : List (List Int)} (M : MatIn b S h z T) (k : ∀ q, q < h.length → S q → S' q) : MatIn b S' h z T := by
  obtain ⟨r, ρ, g1, g2, g3, m⟩ := M
  exact ⟨r, ρ, g1, g2, fun i hi => k _ (m.lt.2 i hi) (g3 i hi), m⟩

theorem MatIn.own {b c : Nat} {S : Nat → Prop} {h : Heap} {z : H0} {T : List (List Int)} (M : MatIn b S h z T) (hc : c ≤ b) (k : ∀ q, q < h.length → S q → c ≤ q) : OwnM c h.length h z T := by
  obtain ⟨r, ρ, g1, g2, g3, m⟩ := M
  exact ⟨r, ρ, g1, by omega, m.lt.1, fun i hi => ⟨k _ (m.lt.2 i hi) (g3 i hi), m.lt.2 i hi⟩, m⟩

theorem MatIn.rows {b : Nat} {S : Nat → Prop} {h : Heap} {z : H0} {T : List (List Int)} (M : MatIn b S h z T) : Rows h z T := by
  obtain ⟨r, ρ, rfl, g2, g3, m⟩ := M
  exact m.rows

/-- A slice of ints that is there, in a row of which S does not hold, appended to a slice of such slices. -/
theorem HApp.snocS {hb h h2 : Heap} {S : Nat → Prop} {z y : H0} {L : List (List Int)} {l : List Int} {q : Nat} {K : HV → Heap → Prop} (E : Ext hb h) (M : MatIn hb.length S h z L) (E2 : Ext h h2) (F : OwnR q h2 y l) (hq : ¬ S q) (hqr : q < hb.length ∨ h.length ≤ q) (hl : L.length < 2199023255552)
    (hK : ∀ h' z', Ext hb h' → h2.length ≤ h'.length → MatIn hb.length (fun x => S x ∨ x = q) h' z' (L ++ [l]) → K (.s z') h') : HApp (h2 ++ [.own [y]]) (.s z) (.s (.sl h2.length 0 1)) K := by
  have l1 := E.1
  have l2 := E2.1
  obtain ⟨r, ρ, rfl, hr1, hS, m⟩ := M
  obtain ⟨hr2, hρ⟩ := m.lt
  have hq2 := F.lt
  obtain ⟨t, rfl, hqo⟩ := F
  obtain ⟨cs, ho, hcl, hoc⟩ := m.outer
  refine ⟨[.sl q 0 l.length], ?_, by simp [H0.one], cs, rfl, (Ext.push h2 _).row (E2.row ho), hcl, Or.inl ⟨by simp; omega, ?_⟩⟩
  · have := Shows.own h2.length 0 1 _ (get_new h2 (.own [.sl q 0 l.length])) (by simp)
    simpa using this
  have e1 : L.length + [H0.sl q 0 l.length].length = (L ++ [l]).length := by simp
  rw [e1]
  have old : ∀ p, p < h2.length → p ≠ r → ((h2 ++ [Row.own [.sl q 0 l.length]]).set r .gone ++ [Row.own (cs.take L.length ++ [.sl q 0 l.length])])[p]? = h2[p]? := fun p hp hn => by
    rw [List.getElem?_append_left (by simp; omega), List.getElem?_set_ne (Ne.symm hn), List.getElem?_append_left hp]
  have gd1 : ∀ i, i < L.length → (L ++ [l]).getD i [] = L.getD i [] := fun i hi => by
    simp only [List.getD]
    rw [List.getElem?_append_left hi]
  have gd2 : (L ++ [l]).getD L.length [] = l := by simp [List.getD]
  have hE : Ext hb ((h2 ++ [Row.own [.sl q 0 l.length]]).set r .gone ++ [Row.own (cs.take L.length ++ [.sl q 0 l.length])]) := ((((E.trans E2).pushed _).set hr1 _).pushed _)
  have hlen : ((h2 ++ [Row.own [.sl q 0 l.length]]).set r .gone ++ [Row.own (cs.take L.length ++ [.sl q 0 l.length])]).length = h2.length + 2 := by simp
  have hqr2 : q ≠ r := by omega
  refine hK _ _ hE (by rw [hlen]; omega) ⟨h2.length + 1, fun i => if i < L.length then ρ i else q, by simp, by omega, fun i hi => ?_, ⟨cs.take L.length ++ [.sl q 0 l.length], ?_, by simp; omega, fun i hi => ?_⟩, fun i hi => ?_, fun i hi => ?_, fun i j hij hj => ?_⟩
  · by_cases hi2 : i < L.length
    · simp only [hi2, if_true]
      exact Or.inl (hS i hi2)
    · show S (if i < L.length then ρ i else q) ∨ (if i < L.length then ρ i else q) = q
      rw [if_neg hi2]
      exact Or.inr rfl
  · rw [List.getElem?_append_right (by simp)]
    simp
  · by_cases hi2 : i < L.length
    · rw [List.getElem?_append_left (by simp; omega), List.getElem?_take_of_lt hi2, hoc i hi2, gd1 i hi2]
      simp [hi2]
    · have e : i = L.length := by simp at hi; omega
      subst e
      rw [gd2, List.getElem?_append_right (by simp; omega)]
      have : L.length - (cs.take L.length).length = 0 := by simp; omega
      rw [this]
      simp
  · by_cases hi2 : i < L.length
    · obtain ⟨t2, ht2⟩ := m.inner i hi2
      have hb2 := hρ i hi2
      have hne := m.ne i hi2
      refine ⟨t2, ?_⟩
      rw [gd1 i hi2, if_pos hi2, old _ (by omega) hne]
      exact E2.row ht2
    · have e : i = L.length := by simp at hi; omega
      subst e
      refine ⟨t, ?_⟩
      rw [gd2, if_neg (by omega), old _ (by omega) (by omega)]
      exact hqo
  · by_cases hi2 : i < L.length
    · have := hρ i hi2
      simp only [hi2, if_true]
      omega
    · simp only [hi2, if_false]
      omega
  · have hj' : j ≤ L.length := by simp at hj; omega
    have hi2 : i < L.length := by omega
    by_cases hj2 : j < L.length
    · simp only [hi2, hj2, if_true]
      exact m.inj i j hij hj2
    · simp only [hi2, hj2, if_true, if_false]
      intro e
      exact hq (by rw [← e]; exact hS i hi2)

end Go.Proofs.Ytkkniibnlniflaa.Hx
