
/-
  A region that draws its order, taken in one order: first operations that only read, then the others in the one order that they allow. Until the operation number t has come up the world stays in a class C in which what only reads yields the same.
-/
import Derived.Test.YtecfgbjddkpkcaaHa
import Derived.OrdersHeld
import Derived.StillTail
namespace Go.Proofs.Ytecfgbjddkpkcaa.Hx
open Go.RowKit

section
variable {P : Program} {ops : Array Oper} {Q : Exit → Act → World → Prop} {t : Nat} {C : World → Prop}

/-- Either number t has come up, or the world is one of the class. -/
def Safe (t : Nat) (C : World → Prop) (listed : Array Bool) (w : World) : Prop := listed.getD t false = true ∨ C w

def wpAnyS (P : Program) (ops : Array Oper) (Q : Exit → Act → World → Prop) (t : Nat) (C : World → Prop) : Nat → Array Bool → Act → World → Prop
  | 0, listed, a, w => Region.ready .any ops listed = [] ∧ Q .normal a w
  | fuel + 1, listed, a, w =>
    (Region.ready .any ops listed = [] → Q .normal a w) ∧
    ∀ i ∈ Region.ready .any ops listed, wpOp P ops Q i (fun a' w' => Safe t C (listed.setIfInBounds i true) w' ∧ wpAnyS P ops Q t C fuel (listed.setIfInBounds i true) a' w') a w

theorem wpAny_of_S : ∀ (fuel : Nat) (listed : Array Bool) (a : Act) (w : World), wpAnyS P ops Q t C fuel listed a w → wpAny P .any ops Q fuel listed a w
  | 0, _, _, _, h => h
  | fuel + 1, _, _, _, h => ⟨h.1, fun i hi => wpOp_mono (fun a' w' h' => wpAny_of_S fuel _ a' w' h'.2) (h.2 i hi)⟩

/-- Whatever has come up, what it waits for has come up. -/
structure Closed (ops : Array Oper) (listed : Array Bool) : Prop where
  size : listed.size = ops.size
  closed : ∀ j oj, ops[j]? = some oj → listed.getD j false = true → ∀ e ∈ oj.after, Region.binds .any e = true → listed.getD e.on false = true

theorem Closed.set {i : Nat} {listed : Array Bool} (c : Closed ops listed) (hi : i ∈ Region.ready .any ops listed) : Closed ops (listed.setIfInBounds i true) := by
  obtain ⟨_, oi, hoi, hall⟩ := mem_ready.1 hi
  refine ⟨by simp [c.size], fun j oj hj hl e he hb => ?_⟩
  by_cases hij : i = j
  · subst hij
    have : oj = oi := Option.some.inj (hj.symm.trans hoi)
    subst this
    exact getD_set_true (hall e he hb)
  · rw [getD_set_ne false hij] at hl
    exact getD_set_true (c.closed j oj hj hl e he hb)

/-- Number t waits for number i, through at most so many steps. -/
def waits (ops : Array Oper) : Nat → Nat → Nat → Bool
  | 0, _, _ => false
  | f + 1, t, i => match ops[t]? with
    | some o => o.after.any fun e => Region.binds .any e && (e.on == i || waits ops f e.on i)
    | none => false

theorem waits_listed {listed : Array Bool} (c : Closed ops listed) : ∀ (f t i : Nat), waits ops f t i = true → listed.getD t false = true → listed.getD i false = true
  | 0, _, _, h, _ => by simp [waits] at h
  | f + 1, t, i, h, ht => by
    unfold waits at h
    split at h
    · rename_i o ho
      obtain ⟨e, he, hb⟩ := Array.any_eq_true'.1 h
      simp only [Bool.and_eq_true, Bool.or_eq_true, beq_iff_eq] at hb
      have hl := c.closed t o ho ht e he hb.1
      rcases hb.2 with h1 | h1
      · rw [← h1]; exact hl
      · exact waits_listed c f e.on i h1 hl
    · cases h

theorem waits_ready {listed : Array Bool} (c : Closed ops listed) {f t i : Nat} (h : waits ops f t i = true) (ht : t ∈ Region.ready .any ops listed) : listed.getD i false = true := by
  obtain ⟨_, ot, hot, hall⟩ := mem_ready.1 ht
  cases f with
  | zero => simp [waits] at h
  | succ f =>
    unfold waits at h
    simp only [hot] at h
    obtain ⟨e, he, hb⟩ := Array.any_eq_true'.1 h
    simp only [Bool.and_eq_true, Bool.or_eq_true, beq_iff_eq] at hb
    have hl := hall e he hb.1
    rcases hb.2 with h1 | h1
    · rw [← h1]; exact hl
    · exact waits_listed c f e.on i h1 hl

/-- An operation that may come up now may be taken first. -/
theorem wpAnyS_first {i : Nat} {oi : Oper} {v : Value} {f : Nat} (hi : ops[i]? = some oi) (hsel : ∀ (j : Nat) (o : Oper) cs b, ops[j]? = some o → o.op ≠ .select cs b) (hit : i ≠ t) (hw : t < ops.size → waits ops f t i = true)
    (hQ : ∀ c a w, Q (.panic c) (a.put oi.dst v) w → Q (.panic c) a w) :
    ∀ (fuel : Nat) (listed : Array Bool) (a : Act) (w : World), Closed ops listed →
      (∀ j oj, ops[j]? = some oj → j ≠ i → listed.getD j true = false → (∀ e ∈ oj.after, Region.binds .any e = true → e.on ≠ i) → oi.apart ops oj = true) →
      i ∈ Region.ready .any ops listed → YieldsIf P ops C oi v a → C w →
      wpAnyS P ops Q t C fuel (listed.setIfInBounds i true) (a.put oi.dst v) w → wpAnyS P ops Q t C (fuel + 1) listed a w := by
  intro fuel
  induction fuel with
  | zero =>
    intro listed a w _ hfree hr hy hS H
    refine ⟨fun h => (by rw [h] at hr; cases hr), fun j hj => ?_⟩
    by_cases hji : j = i
    · subst hji; exact hy.wpOp hi hS ⟨Or.inr hS, H⟩
    · have := ready_mono hj hji
      rw [H.1] at this
      cases this
  | succ fuel ih =>
    intro listed a w hcl hfree hr hy hS H
    have hun := (mem_ready.1 hr).1
    have hun' := getD_both hun
    refine ⟨fun h => (by rw [h] at hr; cases hr), fun j hj => ?_⟩
    by_cases hji : j = i
    · subst hji; exact hy.wpOp hi hS ⟨Or.inr hS, H⟩
    · have h1 := H.2 j (ready_mono hj hji)
      obtain ⟨hjun, oj, hoj, hall⟩ := mem_ready.1 hj
      have hnot : ∀ e ∈ oj.after, Region.binds .any e = true → e.on ≠ i := fun e he hb heq => by
        have h1 := hall e he hb
        rw [heq, hun'] at h1
        cases h1
      have htj : t ≠ j := fun e => by
        subst e
        have htl : t < ops.size := (Array.getElem?_eq_some_iff.1 hoj).1
        have := waits_ready hcl (hw htl) hj
        rw [hun'] at this
        cases this
      have htl : listed.getD t false = true → False := fun h => by
        have hts : t < ops.size := by
          rw [← hcl.size]
          by_cases hlt : t < listed.size
          · exact hlt
          · simp [Array.getElem?_eq_none (Nat.le_of_not_lt hlt)] at h
        have := waits_listed hcl f t i (hw hts) h
        rw [hun'] at this
        cases this
      have safe : ∀ w', Safe t C ((listed.setIfInBounds i true).setIfInBounds j true) w' → C w' := fun w' h => by
        rcases h with h | h
        · rw [getD_set_ne false (Ne.symm htj), getD_set_ne false hit] at h
          exact (htl h).elim
        · exact h
      have h2 := wpOp_putIf hoj (hfree j oj hoj hji hjun hnot) (fun cs b => hsel i oi cs b hi) (fun cs b => hsel j oj cs b hoj) hQ hy h1
      have hfree' : ∀ k ok, ops[k]? = some ok → k ≠ i → (listed.setIfInBounds j true).getD k true = false →
          (∀ e ∈ ok.after, Region.binds .any e = true → e.on ≠ i) → oi.apart ops ok = true := fun k ok hk hki hun2 hno => by
        refine hfree k ok hk hki ?_ hno
        by_cases hjk : j = k
        · subst hjk; exact hjun
        · rw [getD_set_ne true hjk] at hun2; exact hun2
      refine wpOp_mono (fun a' w' h3 => ⟨Or.inr (safe w' h3.2.1), ih (listed.setIfInBounds j true) a' w' (hcl.set hj) hfree' (ready_mono hr (Ne.symm hji)) h3.1 (safe w' h3.2.1) ?_⟩) h2
      rw [Array.setIfInBounds_comm _ _ hji]
      exact h3.2.2

/-- What looks at no world may be taken first, whatever waits for it. -/
theorem wpAnyS_first_pure {i : Nat} {oi : Oper} {v : Value} (hi : ops[i]? = some oi) (hsel : ∀ (j : Nat) (o : Oper) cs b, ops[j]? = some o → o.op ≠ .select cs b) (hit : i ≠ t)
    (hQ : ∀ c a w, Q (.panic c) (a.put oi.dst v) w → Q (.panic c) a w) :
    ∀ (fuel : Nat) (listed : Array Bool) (a : Act) (w : World),
      (∀ j oj, ops[j]? = some oj → j ≠ i → listed.getD j true = false → (∀ e ∈ oj.after, Region.binds .any e = true → e.on ≠ i) → oi.apart ops oj = true) →
      i ∈ Region.ready .any ops listed → YieldsIf P ops (fun _ => True) oi v a → Safe t C listed w →
      wpAnyS P ops Q t C fuel (listed.setIfInBounds i true) (a.put oi.dst v) w → wpAnyS P ops Q t C (fuel + 1) listed a w := by
  have keep : ∀ (l : Array Bool) w, Safe t C l w → Safe t C (l.setIfInBounds i true) w := fun l w h => by
    rcases h with h | h
    · exact Or.inl (by rw [getD_set_ne false hit]; exact h)
    · exact Or.inr h
  have back : ∀ (l : Array Bool) w, Safe t C (l.setIfInBounds i true) w → Safe t C l w := fun l w h => by
    rcases h with h | h
    · exact Or.inl (by rw [getD_set_ne false hit] at h; exact h)
    · exact Or.inr h
  intro fuel
  induction fuel with
  | zero =>
    intro listed a w hfree hr hy hS H
    refine ⟨fun h => (by rw [h] at hr; cases hr), fun j hj => ?_⟩
    by_cases hji : j = i
    · subst hji; exact hy.wpOp hi trivial ⟨keep _ _ hS, H⟩
    · have := ready_mono hj hji
      rw [H.1] at this
      cases this
  | succ fuel ih =>
    intro listed a w hfree hr hy hS H
    have hun := (mem_ready.1 hr).1
    have hun' := getD_both hun
    refine ⟨fun h => (by rw [h] at hr; cases hr), fun j hj => ?_⟩
    by_cases hji : j = i
    · subst hji; exact hy.wpOp hi trivial ⟨keep _ _ hS, H⟩
    · have h1 := H.2 j (ready_mono hj hji)
      obtain ⟨hjun, oj, hoj, hall⟩ := mem_ready.1 hj
      have hnot : ∀ e ∈ oj.after, Region.binds .any e = true → e.on ≠ i := fun e he hb heq => by
        have h1 := hall e he hb
        rw [heq, hun'] at h1
        cases h1
      have h2 := wpOp_putIf hoj (hfree j oj hoj hji hjun hnot) (fun cs b => hsel i oi cs b hi) (fun cs b => hsel j oj cs b hoj) hQ hy h1
      have hfree' : ∀ k ok, ops[k]? = some ok → k ≠ i → (listed.setIfInBounds j true).getD k true = false →
          (∀ e ∈ ok.after, Region.binds .any e = true → e.on ≠ i) → oi.apart ops ok = true := fun k ok hk hki hun2 hno => by
        refine hfree k ok hk hki ?_ hno
        by_cases hjk : j = k
        · subst hjk; exact hjun
        · rw [getD_set_ne true hjk] at hun2; exact hun2
      refine wpOp_mono (fun a' w' h3 => ?_) h2
      have hS' : Safe t C (listed.setIfInBounds j true) w' := back _ _ (by rw [Array.setIfInBounds_comm _ _ hji]; exact h3.2.1)
      refine ⟨hS', ih (listed.setIfInBounds j true) a' w' hfree' (ready_mono hr (Ne.symm hji)) h3.1 hS' ?_⟩
      rw [Array.setIfInBounds_comm _ _ hji]
      exact h3.2.2

def isLoad : Op → Bool
  | .load _ _ => true
  | .lookup _ _ _ _ => true
  | _ => false

/-- What does not read memory may be taken first, whatever waits for it. -/
def isFree (ops : Array Oper) (i : Nat) : Bool :=
  match ops[i]? with
  | some o => !isLoad o.op
  | none => false

/-- The first ones, one after the other: each may come up, and nobody who could come before it touches its temporaries. -/
def piOk (ops : Array Oper) (t : Nat) : List Nat → Array Bool → Bool
  | [], _ => true
  | i :: is, listed => (Region.ready .any ops listed).contains i && Region.free .any ops listed i && (i != t) && (decide (ops.size ≤ t) || waits ops ops.size t i || isFree ops i) && piOk ops t is (listed.setIfInBounds i true)

def listAll : List Nat → Array Bool → Array Bool
  | [], listed => listed
  | i :: is, listed => listAll is (listed.setIfInBounds i true)

def isPlain : Op → Bool
  | .move _ => true
  | .assign _ => true
  | .pick _ _ _ => true
  | .binOp _ _ _ _ _ => true
  | .unOp _ _ _ => true
  | .extract _ _ => true
  | _ => false

def isPlainAt (ops : Array Oper) (i : Nat) : Bool :=
  match ops[i]? with
  | some o => isPlain o.op
  | none => false

/-- The others: each is the one that may come up, or looks at no world and may come up. -/
def sigOk (ops : Array Oper) (t : Nat) : List Nat → Array Bool → Bool
  | [], listed => (Region.ready .any ops listed).isEmpty
  | i :: is, listed => ((Region.ready .any ops listed == [i]) || ((Region.ready .any ops listed).contains i && Region.free .any ops listed i && (i != t) && isPlainAt ops i)) && sigOk ops t is (listed.setIfInBounds i true)

def heldOk (ops : Array Oper) (t : Nat) (ps ss : List Nat) : Bool :=
  Region.noSelect ops && piOk ops t ps (Array.replicate ops.size false) && sigOk ops t ss (listAll ps (Array.replicate ops.size false)) && (ps.length + ss.length == ops.size)

/-- Orders in which the rest may come up: one number may, or two may, or three. -/
inductive Tr where
  | done
  | one (i : Nat) (t : Tr)
  | two (i : Nat) (t : Tr) (j : Nat) (u : Tr)
  | three (i : Nat) (t : Tr) (j : Nat) (u : Tr) (k : Nat) (v : Tr)

def Tr.len : Tr → Nat
  | .done => 0
  | .one _ t => t.len + 1
  | .two _ t _ _ => t.len + 1
  | .three _ t _ _ _ _ => t.len + 1

def treeOk (ops : Array Oper) : Tr → Array Bool → Bool
  | .done, listed => (Region.ready .any ops listed).isEmpty
  | .one i t, listed => (Region.ready .any ops listed == [i]) && treeOk ops t (listed.setIfInBounds i true)
  | .two i t j u, listed => (Region.ready .any ops listed == [i, j]) && (t.len == u.len) && treeOk ops t (listed.setIfInBounds i true) && treeOk ops u (listed.setIfInBounds j true)
  | .three i t j u k v, listed => (Region.ready .any ops listed == [i, j, k]) && (t.len == u.len) && (t.len == v.len) && treeOk ops t (listed.setIfInBounds i true) && treeOk ops u (listed.setIfInBounds j true) && treeOk ops v (listed.setIfInBounds k true)

/-- What reads no memory, first. -/
def pfOk (ops : Array Oper) : List Nat → Array Bool → Bool
  | [], _ => true
  | i :: is, listed => (Region.ready .any ops listed).contains i && Region.free .any ops listed i && isFree ops i && pfOk ops is (listed.setIfInBounds i true)

def treeAll (ops : Array Oper) (ps : List Nat) (tr : Tr) : Bool :=
  Region.noSelect ops && pfOk ops ps (Array.replicate ops.size false) && treeOk ops tr (listAll ps (Array.replicate ops.size false)) && (ps.length + tr.len == ops.size)

end
end Go.Proofs.Ytecfgbjddkpkcaa.Hx
