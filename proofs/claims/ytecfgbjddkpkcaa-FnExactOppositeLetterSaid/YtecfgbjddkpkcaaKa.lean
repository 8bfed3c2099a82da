
/-
  Finite types: from the opposite of rho the game of signs leads to rho within thirty steps, and the longest element takes each simple reflection of rho to one of its opposite. Found by looking at all matrices of at most four points; plain theory.
-/
import Derived.Test.YtecfgbjddkpkcaaJh
namespace Go.Proofs.Ytecfgbjddkpkcaa.Hx
open Go.RowKit

abbrev IP := Int × Int
def D3 (a b c d e f g h i : Int) : Int := a * (e * i - f * h) - b * (d * i - f * g) + c * (d * h - e * g)
def opts : List IP := [(0, 0), (-1, -1), (-1, -2), (-2, -1), (-1, -3), (-3, -1)]
def d3 (p q r : IP) : Int := D3 2 p.1 q.1 p.2 2 r.1 q.2 r.2 2
def d4 (p q r s t u : IP) : Int := 2 * D3 2 r.1 t.1 r.2 2 u.1 t.2 u.2 2 - p.1 * D3 p.2 r.1 t.1 q.2 2 u.1 s.2 u.2 2 + q.1 * D3 p.2 2 t.1 q.2 r.2 u.1 s.2 t.2 2 - s.1 * D3 p.2 2 r.1 q.2 r.2 2 s.2 t.2 u.2
structure V4 where
  a : Int
  b : Int
  c : Int
  d : Int
structure M6 where
  p : IP
  q : IP
  r : IP
  s : IP
  t : IP
  u : IP
def st1 (m : M6) (v : V4) : V4 := ⟨v.a - v.a * 2, v.b - v.a * m.p.2, v.c - v.a * m.q.2, v.d - v.a * m.s.2⟩
def st2 (m : M6) (v : V4) : V4 := ⟨v.a - v.b * m.p.1, v.b - v.b * 2, v.c - v.b * m.r.2, v.d - v.b * m.t.2⟩
def st3 (m : M6) (v : V4) : V4 := ⟨v.a - v.c * m.q.1, v.b - v.c * m.r.1, v.c - v.c * 2, v.d - v.c * m.u.2⟩
def st4 (m : M6) (v : V4) : V4 := ⟨v.a - v.d * m.s.1, v.b - v.d * m.t.1, v.c - v.d * m.u.1, v.d - v.d * 2⟩
def stp (m : M6) : Nat → V4 → V4
  | 0 => st1 m
  | 1 => st2 m
  | 2 => st3 m
  | _ => st4 m
def negB (x : Int) : Bool := match x with
  | .ofNat _ => false
  | .negSucc _ => true
def run (n : Nat) (m : M6) (K : (V4 → V4) → V4 → Bool) : Nat → V4 → (V4 → V4) → Bool
  | 0, v, k => K k v
  | f + 1, v, k => match Nat.blt 0 n && negB v.a with
    | true => run n m K f (st1 m v) (fun x => k (st1 m x))
    | false => match Nat.blt 1 n && negB v.b with
      | true => run n m K f (st2 m v) (fun x => k (st2 m x))
      | false => match Nat.blt 2 n && negB v.c with
        | true => run n m K f (st3 m v) (fun x => k (st3 m x))
        | false => match Nat.blt 3 n && negB v.d with
          | true => run n m K f (st4 m v) (fun x => k (st4 m x))
          | false => K k v
def eqV (x y : V4) : Bool := x.a == y.a && x.b == y.b && x.c == y.c && x.d == y.d
def one4 : V4 := ⟨1, 1, 1, 1⟩
def mone (n : Nat) : V4 := ⟨if 0 < n then -1 else 1, if 1 < n then -1 else 1, if 2 < n then -1 else 1, if 3 < n then -1 else 1⟩
def hitV (n : Nat) (m : M6) (x : V4) : Bool := (Nat.blt 0 n && eqV x (st1 m (mone n))) || (Nat.blt 1 n && eqV x (st2 m (mone n))) || (Nat.blt 2 n && eqV x (st3 m (mone n))) || (Nat.blt 3 n && eqV x (st4 m (mone n)))
def last (n : Nat) (m : M6) (k : V4 → V4) (v : V4) : Bool := eqV v one4 && (!Nat.blt 0 n || hitV n m (k (st1 m one4))) && (!Nat.blt 1 n || hitV n m (k (st2 m one4))) && (!Nat.blt 2 n || hitV n m (k (st3 m one4))) && (!Nat.blt 3 n || hitV n m (k (st4 m one4)))
def good (n : Nat) (m : M6) : Bool := run n m (last n m) 30 (mone n) id
def z0 : IP := (0, 0)
def chk1 : Bool := good 1 ⟨z0, z0, z0, z0, z0, z0⟩
def chk2 : Bool := opts.all fun p => good 2 ⟨p, z0, z0, z0, z0, z0⟩
def chk3 : Bool := opts.all fun p => opts.all fun q => opts.all fun r => !decide (0 < d3 p q r) || good 3 ⟨p, q, r, z0, z0, z0⟩
def chk4 : Bool := opts.all fun p => opts.all fun q => opts.all fun r => !decide (0 < d3 p q r) || opts.all fun s => opts.all fun t => !decide (0 < d3 p s t) || opts.all fun u => !decide (0 < d3 q s u) || !decide (0 < d3 r t u) || !decide (0 < d4 p q r s t u) || good 4 ⟨p, q, r, s, t, u⟩

set_option maxRecDepth 100000 in
theorem chk1_ok : chk1 = true := by decide +kernel
set_option maxRecDepth 100000 in
theorem chk2_ok : chk2 = true := by decide +kernel
set_option maxRecDepth 100000 in
theorem chk3_ok : chk3 = true := by decide +kernel
set_option maxRecDepth 100000 in
theorem chk4_ok : chk4 = true := by decide +kernel

/-! What the run means -/

theorem negB_iff (x : Int) : negB x = true ↔ x < 0 := by
  cases x with
  | ofNat n => simp [negB]
  | negSucc n => simp [negB]

def crd (v : V4) : Nat → Int
  | 0 => v.a
  | 1 => v.b
  | 2 => v.c
  | 3 => v.d
  | _ => 0
def cvt (n : Nat) (v : V4) : Pos := fun k => if k < n then crd v k else 0
def m6 (c : List (List Int)) : M6 := ⟨(ent c 0 1, ent c 1 0), (ent c 0 2, ent c 2 0), (ent c 1 2, ent c 2 1), (ent c 0 3, ent c 3 0), (ent c 1 3, ent c 3 1), (ent c 2 3, ent c 3 2)⟩

theorem crd_step {c : List (List Int)} (hC : Cartan c) (i : Nat) (hi : i < c.length) (v : V4) (k : Nat) (hk : k < c.length) : crd (stp (m6 c) i v) k = crd v k - crd v i * ent c k i := by
  have h4 := hC.le
  have d := (matOk hC).diag
  have hi4 : i = 0 ∨ i = 1 ∨ i = 2 ∨ i = 3 := by omega
  have hk4 : k = 0 ∨ k = 1 ∨ k = 2 ∨ k = 3 := by omega
  rcases hi4 with rfl | rfl | rfl | rfl <;> rcases hk4 with rfl | rfl | rfl | rfl <;> first
    | rfl
    | (rw [d _ hk]; rfl)

theorem cvt_step {c : List (List Int)} (hC : Cartan c) (i : Nat) (hi : i < c.length) (v : V4) : sr (ent c) i (cvt c.length v) = cvt c.length (stp (m6 c) i v) := by
  funext k
  show cvt c.length v k - cvt c.length v i * ent c k i = cvt c.length (stp (m6 c) i v) k
  unfold cvt
  by_cases hk : k < c.length
  · rw [if_pos hk, if_pos hi, if_pos hk, crd_step hC i hi v k hk]
  · rw [if_neg hk, if_neg hk, ent_off (by omega)]
    simp

def acts (m : M6) : List Nat → V4 → V4
  | [], x => x
  | i :: w, x => stp m i (acts m w x)

/-- A run: a word of steps at first negative numbers, and what holds at its end. -/
theorem run_sound {c : List (List Int)} (hC : Cartan c) {K : (V4 → V4) → V4 → Bool} (hK : ∀ k v, K k v = true → v = one4) :
    ∀ (f : Nat) (v : V4) (k : V4 → V4) (l : List Int), f ≤ 30 → run c.length (m6 c) K f v k = true → l.length = c.length → posOf l = cvt c.length v →
      ∃ w : List Nat, w.length ≤ f ∧ PlayL c w.length l ∧ nf c 31 l = w.map (fun (i : Nat) => (i : Int)) ∧ (∀ i, i ∈ w → i < c.length) ∧ K (fun x => k (acts (m6 c) w x)) one4 = true := by
  intro f
  have stop : ∀ (v : V4) (k : V4 → V4) (l : List Int) (f : Nat), K k v = true → l.length = c.length → posOf l = cvt c.length v → ∃ w : List Nat, w.length ≤ f ∧ PlayL c w.length l ∧ nf c 31 l = w.map (fun (i : Nat) => (i : Int)) ∧ (∀ i, i ∈ w → i < c.length) ∧ K (fun x => k (acts (m6 c) w x)) one4 = true := by
    intro v k l f h hl hp
    have hv := hK k v h
    subst hv
    have h4 := hC.le
    have ho : ∀ i, i < c.length → posOf l i = 1 := fun i hi => by
      rw [hp]
      unfold cvt
      rw [if_pos hi]
      have : i = 0 ∨ i = 1 ∨ i = 2 ∨ i = 3 := by omega
      rcases this with rfl | rfl | rfl | rfl <;> rfl
    refine ⟨[], Nat.zero_le _, ⟨hl, .done ho⟩, ?_, fun i hi => by simp at hi, h⟩
    rw [nf_stop (fun k hk => by have := ho k (by omega); unfold posOf at this; omega)]
    rfl
  have go : ∀ (f : Nat) (v : V4) (k : V4 → V4) (l : List Int) (i : Nat), f + 1 ≤ 30 → i < c.length → crd v i < 0 → (∀ t, t < i → 0 ≤ crd v t) → l.length = c.length → posOf l = cvt c.length v →
      (∀ l', l'.length = c.length → posOf l' = cvt c.length (stp (m6 c) i v) → ∃ w : List Nat, w.length ≤ f ∧ PlayL c w.length l' ∧ nf c 31 l' = w.map (fun (i : Nat) => (i : Int)) ∧ (∀ i, i ∈ w → i < c.length) ∧ K (fun x => k (stp (m6 c) i (acts (m6 c) w x))) one4 = true) →
      ∃ w : List Nat, w.length ≤ f + 1 ∧ PlayL c w.length l ∧ nf c 31 l = w.map (fun (i : Nat) => (i : Int)) ∧ (∀ i, i ∈ w → i < c.length) ∧ K (fun x => k (acts (m6 c) w x)) one4 = true := by
    intro f v k l i hf hi hneg hb hl hp ih
    have hpi : posOf l i = crd v i := by rw [hp]; unfold cvt; rw [if_pos hi]
    -- a list of the next position
    obtain ⟨l', hl', hp'⟩ : ∃ l' : List Int, l'.length = c.length ∧ posOf l' = sr (ent c) i (posOf l) := by
      refine ⟨(List.range c.length).map (sr (ent c) i (posOf l)), by simp, ?_⟩
      funext t
      by_cases ht : t < c.length
      · simp [posOf, List.getD, ht]
      · have h1 : (l.length ≤ t) := by omega
        unfold sr
        rw [ent_off (by omega)]
        simp [posOf, List.getD, ht, h1]
    have hp2 : posOf l' = cvt c.length (stp (m6 c) i v) := by rw [hp', hp, cvt_step hC i hi]
    obtain ⟨w, h1, h2, h3, h4, h5⟩ := ih l' hl' hp2
    have P : PlayL c (w.length + 1) l := ⟨hl, .step i hi (by rw [hpi]; exact hneg) (by rw [← hp']; exact h2.2)⟩
    have hneg' : l.getD i 0 < 0 := by have := hpi; unfold posOf at this; omega
    have hb' : ∀ t, t < i → 0 ≤ l.getD t 0 := fun t ht => by
      have e : posOf l t = crd v t := by rw [hp]; unfold cvt; rw [if_pos (by omega)]
      have := hb t ht
      unfold posOf at e
      omega
    obtain ⟨n1, P2⟩ := nf_next hC P (by omega) (by omega) hneg' hb'
    have e : reflW c i l = l' := posOf_inj (by rw [reflW_length, hl, hl']) (by rw [pos_refl hC P (by omega) hi, hp'])
    rw [e, h3] at n1
    refine ⟨i :: w, by simp; omega, P, n1, fun j hj => ?_, h5⟩
    rcases List.mem_cons.1 hj with rfl | hj
    · exact hi
    · exact h4 j hj
  induction f with
  | zero =>
    intro v k l _ h hl hp
    exact stop v k l 0 h hl hp
  | succ f ih =>
    intro v k l hf h hl hp
    have no : ∀ {t : Nat} {x : Int}, t < c.length → (Nat.blt t c.length && negB x) = false → 0 ≤ x := fun {t x} ht hh => by
      have hb : Nat.blt t c.length = true := by rw [Nat.blt_eq]; exact ht
      rw [hb, Bool.true_and] at hh
      by_cases hx : x < 0
      · rw [(negB_iff x).2 hx] at hh; cases hh
      · omega
    have yes : ∀ {t : Nat} {x : Int}, (Nat.blt t c.length && negB x) = true → t < c.length ∧ x < 0 := fun {t x} hh => by
      simp only [Bool.and_eq_true] at hh
      have h1 := hh.1
      rw [Nat.blt_eq] at h1
      exact ⟨h1, (negB_iff x).1 hh.2⟩
    rw [run] at h
    split at h
    · rename_i h0
      obtain ⟨g1, g2⟩ := yes h0
      exact go f v k l 0 hf g1 g2 (fun t ht => by omega) hl hp (fun l' a b => ih _ _ l' (by omega) h a b)
    · rename_i h0
      split at h
      · rename_i h1
        obtain ⟨g1, g2⟩ := yes h1
        refine go f v k l 1 hf g1 g2 (fun t ht => ?_) hl hp (fun l' a b => ih _ _ l' (by omega) h a b)
        have : t = 0 := by omega
        subst this
        exact no (by omega) h0
      · rename_i h1
        split at h
        · rename_i h2
          obtain ⟨g1, g2⟩ := yes h2
          refine go f v k l 2 hf g1 g2 (fun t ht => ?_) hl hp (fun l' a b => ih _ _ l' (by omega) h a b)
          have : t = 0 ∨ t = 1 := by omega
          rcases this with rfl | rfl
          · exact no (by omega) h0
          · exact no (by omega) h1
        · rename_i h2
          split at h
          · rename_i h3
            obtain ⟨g1, g2⟩ := yes h3
            refine go f v k l 3 hf g1 g2 (fun t ht => ?_) hl hp (fun l' a b => ih _ _ l' (by omega) h a b)
            have : t = 0 ∨ t = 1 ∨ t = 2 := by omega
            rcases this with rfl | rfl | rfl
            · exact no (by omega) h0
            · exact no (by omega) h1
            · exact no (by omega) h2
          · exact stop v k l (f + 1) h hl hp

end Go.Proofs.Ytecfgbjddkpkcaa.Hx
