/-
  Sets of points as bits, matrices of some points, determinants: plain functions, and the contracts of their makers.
  Contracts of braid moves, of the program.
  Contract of braid moves, of the reference; of the places of braid moves and of braid moves one after the other, of both.
-/
import Derived.Test.YtnooeaemjnmkdaaZ16
namespace Go.Proofs.Ytnooeaemjnmkdaa.Hx
open Go.RowKit
variable {dm : Bool}

/-- A call in a region that draws its order: whatever it says of rows of one's own that it makes. -/
theorem HCallF.soft {P : Program} {k : FuncId} {args : List HV} {h : Heap} {K : HV → Heap → Prop} {Q : HV → Heap → Prop} (hc : HCalls dm P k args (freeze h) (fun r h' => Ext (freeze h) h' ∧ Q r h'))
    (hK : ∀ r h' h'', Q r h' → Ext (freeze h) h' → Ext h h'' → h''.length = h'.length → (∀ (q : Nat) (cs : List H0), h.length ≤ q → h'[q]? = some (Row.own cs) → h''[q]? = some (Row.own cs)) → K r h'') : HCallF dm P k args h K := by
  refine ⟨⟨hc.enters, fun B0 φ w vargs R a => (hc.out B0 φ w vargs R a).mono ?_⟩⟩
  rintro e w' ⟨v, x, h', φ', rfl, ⟨E, hq⟩, g2, g3, g4, g5⟩
  have hfl := freeze_length h
  have hEl := E.1
  have hget : ∀ (q : Nat) (x : Row), (freeze h ++ (h'.drop h.length).map softRow)[q]? = some x → x ≠ .gone → h'[q]? = some x := fun q x hx hne => by
    by_cases hq : q < h.length
    · rw [List.getElem?_append_left (by omega)] at hx
      rw [E.2 q (by omega)]
      exact hx
    · rw [List.getElem?_append_right (by omega), List.getElem?_map, List.getElem?_drop] at hx
      have e : h.length + (q - (freeze h).length) = q := by omega
      rw [e] at hx
      cases hh : h'[q]? with
      | none => rw [hh] at hx; cases hx
      | some z =>
        rw [hh] at hx
        cases z <;> simp [softRow] at hx
        · exact absurd hx.symm hne
        · rw [hx]
        · exact absurd hx.symm hne
        · rw [hx]
  refine ⟨v, x, freeze h ++ (h'.drop h.length).map softRow, φ', rfl, ⟨(h'.drop h.length).map softRow, rfl, fun z hz => ?_, hK x h' _ hq E (Ext.push _ _) (by simp; omega) (fun q cs hql hcs => ?_)⟩, g2, ?_, g4, g5⟩
  · obtain ⟨z0, _, rfl⟩ := List.mem_map.1 hz
    cases z0 <;> rfl
  · rw [List.getElem?_append_right (by omega), List.getElem?_map, List.getElem?_drop]
    have e : h.length + (q - h.length) = q := by omega
    rw [e, hcs]
    rfl
  · exact g3.soft (by simp; omega) (fun q cs hq => hget q _ hq (by simp)) (fun q cs hq => hget q _ hq (by simp)) (fun q so ks hq => hget q _ hq (by simp))

theorem HCallF.mat {P : Program} {k : FuncId} {args : List HV} {h : Heap} {K : HV → Heap → Prop} {L : List (List Int)} (hc : HCalls dm P k args (freeze h) (fun r h' => ∃ y, r = .s y ∧ Ext (freeze h) h' ∧ OwnM (freeze h).length h'.length h' y L))
    (hK : ∀ h' y, Ext h h' → OwnM h.length h'.length h' y L → K (.s y) h') : HCallF dm P k args h K := by
  refine HCallF.soft (Q := fun r h' => ∃ y, r = .s y ∧ OwnM (freeze h).length h'.length h' y L) (hc.mono fun r h' ⟨y, e, E, O⟩ => ⟨E, y, e, O⟩) ?_
  rintro r h' h'' ⟨y, rfl, q, ρ, rfl, g1, g2, g3, m⟩ E E2 hl hk
  rw [freeze_length] at g1
  refine hK _ _ E2 ⟨q, ρ, rfl, g1, by omega, fun i hi => ?_, m.move ?_ (fun i hi => ?_)⟩
  · have := g3 i hi
    rw [freeze_length] at this
    omega
  · obtain ⟨cs, h1, _⟩ := m.outer
    rw [h1]
    exact hk q cs g1 h1
  · obtain ⟨t, h1⟩ := m.inner i hi
    have := g3 i hi
    rw [freeze_length] at this
    rw [h1]
    exact hk _ _ this.1 h1

theorem HCallF.val {P : Program} {k : FuncId} {args : List HV} {h : Heap} {K : HV → Heap → Prop} {v : HV} (hc : HCalls dm P k args (freeze h) (fun r h' => r = v ∧ Ext (freeze h) h'))
    (hK : ∀ h', Ext h h' → K v h') : HCallF dm P k args h K := by
  refine HCallF.soft (Q := fun r _ => r = v) (hc.mono fun r h' ⟨e, E⟩ => ⟨E, e⟩) ?_
  rintro r h' h'' rfl _ E _ _
  exact hK _ E

theorem Rows.tl {h : Heap} {r off len : Nat} {L : List (List Int)} (H : Rows h (.sl r off len) L) (hl : 1 ≤ len) : Rows h (.sl r (off + 1) (len - 1)) (L.drop 1) := by
  obtain ⟨xs, h1, h2, h3⟩ := H
  have part : ∀ y, Shows h (.s y) (xs.drop 1) → Rows h y (L.drop 1) := fun y hy => ⟨xs.drop 1, hy, by simp; omega, fun i z l a b => h3 (1 + i) z l (by rw [List.getElem?_drop] at a; exact a) (by rw [List.getElem?_drop] at b; exact b)⟩
  generalize hxs : xs = X at h1 part h2
  cases h1 with
  | ro _ _ _ cs hr hl2 =>
    refine part _ ?_
    have := Shows.ro (h := h) r (off + 1) (len - 1) cs hr (by omega)
    rw [List.drop_take, List.drop_drop]
    exact this
  | own _ _ _ cs hr hl2 =>
    refine part _ ?_
    have := Shows.own (h := h) r (off + 1) (len - 1) cs hr (by omega)
    rw [List.drop_take, List.drop_drop]
    exact this

/-- A slice of slices without its first entry. -/
theorem Rows.drop1 {h : Heap} {x : H0} {L : List (List Int)} (H : Rows h x L) (hL : 1 ≤ L.length) {K : HV → Prop} (hK : ∀ y, (∀ h2, Rows h2 x L → Rows h2 y (L.drop 1)) → K (.s y)) : HSlice h (.s x) (some (I ((1 : Nat) : Int))) none K := by
  have H0 := H
  obtain ⟨xs, h1, h2, h3⟩ := H
  generalize hxs : xs = X at h1 h2
  cases h1 with
  | nils b c => simp at h2; omega
  | ro r off len cs hr hl =>
    have e : len = L.length := by simp at h2; omega
    exact ⟨len, 1, len, rfl, Or.inr ⟨.i64, rfl⟩, Or.inl ⟨rfl, rfl⟩, by omega, Or.inl (Nat.le_refl _), hK _ fun h2 H2 => H2.tl (by omega)⟩
  | own r off len cs hr hl =>
    have e : len = L.length := by simp at h2; omega
    exact ⟨len, 1, len, rfl, Or.inr ⟨.i64, rfl⟩, Or.inl ⟨rfl, rfl⟩, by omega, Or.inl (Nat.le_refl _), hK _ fun h2 H2 => H2.tl (by omega)⟩

/-! Bits -/

def bit (m i : Nat) : Bool := m / 2 ^ i % 2 == 1
def setTo (m k : Nat) : List Int := ((List.range k).filter (bit m)).map fun (i : Nat) => (i : Int)
def setB (m : Nat) : List Int := setTo m 4

theorem setTo_none (m : Nat) : setTo m 0 = [] := rfl
theorem setTo_len (m k : Nat) : (setTo m k).length ≤ k := by
  have := List.length_filter_le (bit m) (List.range k)
  simp [setTo] at this ⊢
  exact this
theorem setTo_in {m k : Nat} (h : bit m k = true) : setTo m (k + 1) = setTo m k ++ [(k : Int)] := by
  unfold setTo
  rw [List.range_succ, List.filter_append, List.map_append, List.filter_cons_of_pos h, List.filter_nil]
  rfl
theorem setTo_out {m k : Nat} (h : bit m k = false) : setTo m (k + 1) = setTo m k := by
  unfold setTo
  rw [List.range_succ, List.filter_append, List.map_append, List.filter_cons_of_neg (by rw [h]; decide), List.filter_nil, List.map_nil, List.append_nil]
theorem setTo_all : ∀ i, i < 5 → ∀ m, m < 2 ^ i → setTo m i = setB m := by decide
def fitB (n m : Nat) : Bool := !((setB m).length == 0) && ((List.range (setB m).length).all fun k => decide (0 ≤ (setB m).getD k 0) && decide ((setB m).getD k 0 < (n : Nat))) && ((List.range (setB m).length).all fun k => k == 0 || decide ((setB m).getD (k - 1) 0 < (setB m).getD k 0))
theorem fitB_all : ((List.range 5).all fun n => (List.range (2 ^ n)).all fun m => m == 0 || fitB n m) = true := by decide
theorem setB_fits (n : Nat) (hn : n < 5) (m : Nat) (hm : m < 2 ^ n) (h1 : 1 ≤ m) : (setB m).length ≠ 0 ∧ (∀ k, k < (setB m).length → 0 ≤ (setB m).getD k 0 ∧ (setB m).getD k 0 < (n : Nat)) ∧ (∀ k, k < (setB m).length → k = 0 ∨ (setB m).getD (k - 1) 0 < (setB m).getD k 0) := by
  have h := List.all_eq_true.1 (List.all_eq_true.1 fitB_all n (List.mem_range.2 hn)) m (List.mem_range.2 hm)
  have h0 : (m == 0) = false := by simp; omega
  rw [h0, Bool.false_or] at h
  simp only [fitB, Bool.and_eq_true, Bool.not_eq_true', beq_eq_false_iff_ne] at h
  refine ⟨h.1.1, fun k hk => ?_, fun k hk => ?_⟩
  · have := List.all_eq_true.1 h.1.2 k (List.mem_range.2 hk)
    simpa only [Bool.and_eq_true, decide_eq_true_eq] using this
  · have := List.all_eq_true.1 h.2 k (List.mem_range.2 hk)
    simpa only [Bool.or_eq_true, beq_iff_eq, decide_eq_true_eq] using this
theorem shr_fact : ∀ m, m < 16 → ∀ i, i < 5 → ((m : Nat) : Int).fdiv (2 ^ (min ((i : Nat) : Int).toNat IntKind.i64.bits)) = ((m / 2 ^ i : Nat) : Int) := by decide
theorem and_fact : ∀ v, v < 16 → IntKind.i64.wrap ((BitVec.ofInt IntKind.i64.bits ((v : Nat) : Int) &&& BitVec.ofInt IntKind.i64.bits 1).toNat : Int) = ((v % 2 : Nat) : Int) := by decide
theorem shl_fact : ∀ n, n < 5 → IntKind.i64.wrap (1 * 2 ^ (min ((n : Nat) : Int).toNat IntKind.i64.bits)) = ((2 ^ n : Nat) : Int) := by decide

theorem HShl.one {n : Nat} {K : HV → Prop} (hn : n < 5) (hK : K (I ((2 ^ n : Nat) : Int))) : HShl .i64 1 (n : Int) K := ⟨by omega, by rw [shl_fact n hn]; exact hK⟩
theorem HShr.bits {m i : Nat} {K : HV → Prop} (hm : m < 16) (hi : i < 5) (hK : K (I ((m / 2 ^ i : Nat) : Int))) : HShr .i64 (m : Int) (i : Int) K := ⟨by omega, by rw [shr_fact m hm i hi]; exact hK⟩
theorem HAnd.one {v : Nat} {K : HV → Prop} (hv : v < 16) (hK : K (I ((v % 2 : Nat) : Int))) : HAnd .i64 (v : Int) 1 K := ⟨by rw [and_fact v hv]; exact hK⟩
theorem bit_one {m i : Nat} : ((((m / 2 ^ i % 2 : Nat) : Int)) == 1) = bit m i := by
  unfold bit
  by_cases h : m / 2 ^ i % 2 = 1
  · simp [h]
  · have h2 : m / 2 ^ i % 2 = 0 := by omega
    simp [h2]
theorem pow_le16 {n : Nat} (h : n < 5) : 2 ^ n ≤ 16 := by
  have : 2 ^ n ≤ 2 ^ 4 := Nat.pow_le_pow_right (by omega) (by omega)
  simpa using this
theorem div_pos_iff {m i : Nat} : (((m / 2 ^ i : Nat) : Int) > 0) ↔ ¬ m < 2 ^ i := by
  have : 0 < 2 ^ i := Nat.pow_pos (by omega)
  constructor
  · intro h h2
    rw [Nat.div_eq_of_lt h2] at h
    omega
  · intro h
    have := Nat.div_pos (Nat.le_of_not_lt h) this
    omega

/-! Matrices of some points -/

def pickRow (c : List (List Int)) (o : List Int) (i : Nat) (k : Nat) : List Int := (List.range k).map fun b => ent c i (o.getD b 0).toNat
def pickTo (c : List (List Int)) (o : List Int) (k : Nat) : List (List Int) := (List.range k).map fun a => pickRow c o (o.getD a 0).toNat o.length
def pick (c : List (List Int)) (o : List Int) : List (List Int) := pickTo c o o.length
theorem pickRow_none (c : List (List Int)) (o : List Int) (i : Nat) : pickRow c o i 0 = [] := rfl
theorem pickTo_none (c : List (List Int)) (o : List Int) : pickTo c o 0 = [] := rfl
theorem pickRow_len (c : List (List Int)) (o : List Int) (i k : Nat) : (pickRow c o i k).length = k := by simp [pickRow]
theorem pickTo_len (c : List (List Int)) (o : List Int) (k : Nat) : (pickTo c o k).length = k := by simp [pickTo]
theorem pickRow_succ (c : List (List Int)) (o : List Int) (i k : Nat) : pickRow c o i (k + 1) = pickRow c o i k ++ [ent c i (o.getD k 0).toNat] := by
  unfold pickRow
  rw [List.range_succ, List.map_append]
  rfl
theorem pickTo_succ (c : List (List Int)) (o : List Int) (k : Nat) : pickTo c o (k + 1) = pickTo c o k ++ [pickRow c o (o.getD k 0).toNat o.length] := by
  unfold pickTo
  rw [List.range_succ, List.map_append]
  rfl

/-- A square matrix of small numbers. -/
structure Sq (n : Nat) (m : List (List Int)) : Prop where
  len : m.length = n
  row : ∀ i, i < n → (m.getD i []).length = n
  low : ∀ i j, i < n → j < n → -3 ≤ ent m i j ∧ ent m i j ≤ 3

theorem pick_sq {c : List (List Int)} {o : List Int} (hC : Cartan c) (ho : ∀ k, k < o.length → 0 ≤ o.getD k 0 ∧ o.getD k 0 < c.length) : Sq o.length (pick c o) := by
  have row : ∀ i, i < o.length → (pick c o).getD i [] = pickRow c o (o.getD i 0).toNat o.length := fun i hi => by simp [pick, pickTo, List.getD, hi]
  refine ⟨pickTo_len _ _ _, fun i hi => by rw [row i hi, pickRow_len], fun i j hi hj => ?_⟩
  have e : ent (pick c o) i j = ent c (o.getD i 0).toNat (o.getD j 0).toNat := by
    unfold ent
    rw [row i hi]
    simp [pickRow, List.getD, hj, ent]
  rw [e]
  have h1 := ho i hi
  have h2 := ho j hj
  by_cases hij : (o.getD i 0).toNat = (o.getD j 0).toNat
  · rw [← hij, (matOk hC).diag _ (by omega)]
    omega
  · have := (matOk hC).off (o.getD i 0).toNat (o.getD j 0).toNat (by omega) (by omega) hij
    omega

/-! Determinants -/

def sumTo (f : Nat → Int) : Nat → Int
  | 0 => 0
  | k + 1 => sumTo f k + f k
def minTo (m : List (List Int)) (j : Nat) (k : Nat) : List (List Int) := (List.range k).map fun t => del (m.getD (t + 1) []) (j : Nat)
def sg (j : Nat) : Int := if j % 2 = 0 then 1 else -1
def detZ : Nat → List (List Int) → Int
  | 0, _ => 1
  | n + 1, m => sumTo (fun j => sg j * (ent m 0 j * detZ n (minTo m j n))) (n + 1)
def term (n : Nat) (m : List (List Int)) (j : Nat) : Int := sg j * (ent m 0 j * detZ n (minTo m j n))
theorem detZ_succ (n : Nat) (m : List (List Int)) : detZ (n + 1) m = sumTo (term n m) (n + 1) := rfl
theorem sumTo_none (f : Nat → Int) : sumTo f 0 = 0 := rfl
theorem sumTo_succ (f : Nat → Int) (k : Nat) : sumTo f (k + 1) = sumTo f k + f k := rfl
theorem sg_zero : sg 0 = 1 := rfl
theorem sg_succ (j : Nat) : sg (j + 1) = - sg j := by
  unfold sg
  by_cases h : j % 2 = 0
  · rw [if_pos h, if_neg (by omega)]
  · rw [if_neg h, if_pos (by omega)]
    rfl
theorem sg_cases (j : Nat) : sg j = 1 ∨ sg j = -1 := by
  unfold sg
  split
  · exact Or.inl rfl
  · exact Or.inr rfl
theorem minTo_none (m : List (List Int)) (j : Nat) : minTo m j 0 = [] := rfl
theorem minTo_len (m : List (List Int)) (j k : Nat) : (minTo m j k).length = k := by simp [minTo]
theorem minTo_succ (m : List (List Int)) (j k : Nat) : minTo m j (k + 1) = minTo m j k ++ [del (m.getD (k + 1) []) (j : Nat)] := by
  unfold minTo
  rw [List.range_succ, List.map_append]
  rfl
theorem min_sq {n j : Nat} {m : List (List Int)} (S : Sq (n + 1) m) (hj : j < n + 1) : Sq n (minTo m j n) := by
  have row : ∀ i, i < n → (minTo m j n).getD i [] = del (m.getD (i + 1) []) (j : Nat) := fun i hi => by simp [minTo, List.getD, hi]
  have dl : ∀ i, i < n → (del (m.getD (i + 1) []) (j : Nat)).length = n := fun i hi => by
    have := S.row (i + 1) (by omega)
    rw [del_at]
    simp only [List.length_append, List.length_take, List.length_drop]
    omega
  refine ⟨minTo_len _ _ _, fun i hi => by rw [row i hi]; exact dl i hi, fun i k hi hk => ?_⟩
  have hr := S.row (i + 1) (by omega)
  have hr' : (m[i + 1]?.getD []).length = n + 1 := hr
  have e : ent (minTo m j n) i k = if k < j then ent m (i + 1) k else ent m (i + 1) (k + 1) := by
    unfold ent
    rw [row i hi, del_at]
    split
    · rename_i h
      simp only [List.getD]
      rw [List.getElem?_append_left (by simp; omega), List.getElem?_take_of_lt h]
    · rename_i h
      simp only [List.getD]
      rw [List.getElem?_append_right (by simp; omega), List.getElem?_drop]
      congr 2
      simp only [List.length_take]
      have : min j (m[i + 1]?.getD []).length = j := by
        have : (m[i + 1]?.getD []).length = n + 1 := hr
        omega
      rw [this]
      omega
  rw [e]
  split
  · exact S.low _ _ (by omega) (by omega)
  · exact S.low _ _ (by omega) (by omega)
theorem mul_small {x d : Int} {b : Nat} (h1 : -3 ≤ x ∧ x ≤ 3) (h2 : -(b : Int) ≤ d ∧ d ≤ b) : -(3 * b : Int) ≤ x * d ∧ x * d ≤ 3 * b := by
  have : x = -3 ∨ x = -2 ∨ x = -1 ∨ x = 0 ∨ x = 1 ∨ x = 2 ∨ x = 3 := by omega
  rcases this with h | h | h | h | h | h | h <;> subst h <;> omega
theorem sg_mul {s x : Int} (h : s = 1 ∨ s = -1) : s * x = x ∨ s * x = -x := by
  rcases h with h | h <;> subst h <;> omega
def detB : Nat → Nat
  | 0 => 1
  | n + 1 => (n + 1) * (3 * detB n)
theorem detB_mono : detB 0 = 1 ∧ detB 1 = 3 ∧ detB 2 = 18 ∧ detB 3 = 162 ∧ detB 4 = 1944 := by decide
theorem sumTo_small {f : Nat → Int} {b : Nat} : ∀ k, (∀ j, j < k → -(b : Int) ≤ f j ∧ f j ≤ b) → -((k * b : Nat) : Int) ≤ sumTo f k ∧ sumTo f k ≤ ((k * b : Nat) : Int)
  | 0, _ => by simp [sumTo]
  | k + 1, h => by
    have h1 := sumTo_small k (fun j hj => h j (by omega))
    have h2 := h k (by omega)
    have e : (k + 1) * b = k * b + b := Nat.succ_mul k b
    rw [sumTo, e]
    generalize k * b = q at *
    omega
theorem detZ_small : ∀ (n : Nat) (m : List (List Int)), Sq n m → -(detB n : Int) ≤ detZ n m ∧ detZ n m ≤ detB n
  | 0, m, _ => by simp [detZ, detB]
  | n + 1, m, S => by
    have h := sumTo_small (f := term n m) (b := 3 * detB n) (n + 1) (fun j hj => by
      have h1 := detZ_small n _ (min_sq S hj)
      have h2 := mul_small (S.low 0 j (by omega) hj) h1
      rcases sg_mul (x := ent m 0 j * detZ n (minTo m j n)) (sg_cases j) with e | e <;> unfold term <;> rw [e] <;> omega)
    exact h
theorem term_small {n : Nat} {m : List (List Int)} (hn : n < 4) (S : Sq (n + 1) m) {j : Nat} (hj : j < n + 1) : (-162 ≤ detZ n (minTo m j n) ∧ detZ n (minTo m j n) ≤ 162) ∧ (-486 ≤ ent m 0 j * detZ n (minTo m j n) ∧ ent m 0 j * detZ n (minTo m j n) ≤ 486) ∧ (-486 ≤ term n m j ∧ term n m j ≤ 486) := by
  have h1 := detZ_small n _ (min_sq S hj)
  have hb := detB_mono
  have h3 : n = 0 ∨ n = 1 ∨ n = 2 ∨ n = 3 := by omega
  have h4 : detB n ≤ 162 := by rcases h3 with e | e | e | e <;> subst e <;> omega
  have h2 := mul_small (S.low 0 j (by omega) hj) h1
  refine ⟨by omega, by omega, ?_⟩
  rcases sg_mul (x := ent m 0 j * detZ n (minTo m j n)) (sg_cases j) with e | e <;> unfold term <;> rw [e] <;> omega
theorem sum_small {n : Nat} {m : List (List Int)} (hn : n < 4) (S : Sq (n + 1) m) {k : Nat} (hk : k ≤ n + 1) : -1944 ≤ sumTo (term n m) k ∧ sumTo (term n m) k ≤ 1944 := by
  have h := sumTo_small (f := term n m) (b := 486) k (fun j hj => (term_small hn S (by omega)).2.2)
  omega

def dt (c : List (List Int)) (m : Nat) : Int := detZ (setB m).length (pick c (setB m))
def allPos (c : List (List Int)) : Bool := (List.range (2 ^ c.length - 1)).all fun k => decide (0 < dt c (k + 1))
def isFinite (c : List (List Int)) : Bool := isCartan c && allPos c
theorem allPos_of {c : List (List Int)} (h : ∀ k, k < 2 ^ c.length - 1 → 0 < dt c (k + 1)) : allPos c = true :=
  List.all_eq_true.2 fun k hk => decide_eq_true (h k (List.mem_range.1 hk))
theorem allPos_not {c : List (List Int)} {k : Nat} (hk : k < 2 ^ c.length - 1) (h : dt c (k + 1) ≤ 0) : allPos c = false := by
  rw [Bool.eq_false_iff]
  intro ha
  have := of_decide_eq_true (List.all_eq_true.1 ha k (List.mem_range.2 hk))
  omega

end Go.Proofs.Ytnooeaemjnmkdaa.Hx

namespace Go.Proofs.Ytnooeaemjnmkdaa.Hx
open Go.RowKit
variable {dm : Bool}

theorem Fresh.one {h h' : Heap} {x : H0} {l : List Int} (H : Fresh h h' x l) : x.one = true := H.own.one


set_option maxHeartbeats 2000000 in
theorem impl_braided (h : Heap) (x0 : H0) (a0 : List (List Int)) (x1 : H0) (a1 : List Int) (n2 : Int) (hx0 : Rows h x0 a0) (hx1 : Ints h x1 a1) (hic : isWord a0 a1 = true) :
    HCalls dm Try.prog 64 [.s x0, .s x1, I n2] h (fun r h' => ∃ y, r = T2 y (brOk a0 a1 n2) ∧ Ext h h' ∧ (brOk a0 a1 n2 = true → Fresh h h' y (braid a0 a1 n2))) := by
  obtain ⟨hC, hl, hw⟩ := word_cartan hic
  have h4 := hC.le
  have no : ∀ {b : Bool} {P : Prop}, b = false → (b = true → P) := fun h h' => by rw [h] at h'; cases h'
  refine calls_of_hFun (m := 0) kd_ok mixed Try.func64 rfl (by kernel_rfl) rfl rfl (of_decide_eq_true rfl) ?_; unfold hFun; (conv => whnf)
  by_cases c1 : n2 < 0
  · have hb := brOk_off (c := a0) (w := a1) (Or.inr (Or.inl c1))
    rw [hb]
    refine Or.inl (And.intro (show Region.lexB _ _ = true by kernel_rfl) ?_); (conv => whnf)
    (repeat (first | (refine HArith.fits (by omega) (by omega) ?_; conv => whnf) | (refine HIf.decF (by assumption) ?_; conv => whnf) | (refine HIf.decT (by assumption) ?_; conv => whnf) | (refine HIf.beqF (by assumption) ?_; conv => whnf) | (refine HIf.beqT (by assumption) ?_; conv => whnf) | (refine HIf.yes ?_; conv => whnf) | (refine HIf.no ?_; conv => whnf) | (refine ⟨rfl, At.load (by assumption) ?_⟩; conv => whnf) | (refine ⟨rfl, Ints.len (by assumption) ?_⟩; conv => whnf)))
    exact ⟨_, rfl, Ext.refl _, no rfl⟩
  by_cases c2 : n2 ≥ (a1.length : Int) - 1
  · have hb := brOk_off (c := a0) (w := a1) (n := n2) (Or.inr (Or.inr (by omega)))
    rw [hb]
    refine Or.inl (And.intro (show Region.lexB _ _ = true by kernel_rfl) ?_); (conv => whnf)
    (repeat (first | (refine HArith.fits (by omega) (by omega) ?_; conv => whnf) | (refine HIf.decF (by assumption) ?_; conv => whnf) | (refine HIf.decT (by assumption) ?_; conv => whnf) | (refine HIf.beqF (by assumption) ?_; conv => whnf) | (refine HIf.beqT (by assumption) ?_; conv => whnf) | (refine HIf.yes ?_; conv => whnf) | (refine HIf.no ?_; conv => whnf) | (refine ⟨rfl, At.load (by assumption) ?_⟩; conv => whnf) | (refine ⟨rfl, Ints.len (by assumption) ?_⟩; conv => whnf)))
    exact ⟨_, rfl, Ext.refl _, no rfl⟩
  obtain ⟨k, rfl⟩ : ∃ k : Nat, n2 = k := ⟨n2.toNat, by omega⟩
  have hok := brOk_at (c := a0) (w := a1) (k := k) hic (by omega)
  have idx1 : ∀ {K : HV → Prop}, (∀ p, At h p (ci (a1.getD k 0)) → K (.s p)) → HIdx h (.s x1) (I k) K := fun hK => Ints.idxN hx1 (by omega) hK
  have idx2 : ∀ {K : HV → Prop}, (∀ p, At h p (ci (a1.getD (k + 1) 0)) → K (.s p)) → HIdx h (.s x1) (I ((k + 1 : Nat) : Int)) K := fun hK => Ints.idxN hx1 (by omega) hK
  have idx3 : ∀ {h2 : Heap} {K : HV → Prop}, Ext h h2 → (∀ p, At h2 p (ci (a1.getD k 0)) → K (.s p)) → HIdx h2 (.s x1) (I k) K := fun E hK => Ints.idxN (hx1.ext E) (by omega) hK
  have idx4 : ∀ {h2 : Heap} {K : HV → Prop}, Ext h h2 → (∀ p, At h2 p (ci (a1.getD (k + 1) 0)) → K (.s p)) → HIdx h2 (.s x1) (I ((k + 1 : Nat) : Int)) K := fun E hK => Ints.idxN (hx1.ext E) (by omega) hK
  have pa := letter_point hw (k := k) (by omega)
  have pb := letter_point hw (k := k + 1) (by omega)
  by_cases c3 : a1.getD k 0 = a1.getD (k + 1) 0
  · have hb := hok.trans (brN_eq c3)
    rw [hb]
    refine Or.inl (And.intro (show Region.lexB _ _ = true by kernel_rfl) ?_); (conv => whnf)
    (repeat (first | (refine HArith.to (e' := ((k + 1 : Nat) : Int)) (by omega) (by omega) (by omega) ?_; conv => whnf) | (refine HArith.fits (by omega) (by omega) ?_; conv => whnf) | (refine ⟨rfl, idx1 (fun p hp => ?_)⟩; conv => whnf) | (refine ⟨rfl, idx2 (fun p hp => ?_)⟩; conv => whnf) | (refine HIf.decF (by assumption) ?_; conv => whnf) | (refine HIf.decT (by assumption) ?_; conv => whnf) | (refine HIf.beqF (by assumption) ?_; conv => whnf) | (refine HIf.beqT (by assumption) ?_; conv => whnf) | (refine HIf.yes ?_; conv => whnf) | (refine HIf.no ?_; conv => whnf) | (refine ⟨rfl, At.load (by assumption) ?_⟩; conv => whnf) | (refine ⟨rfl, Ints.len (by assumption) ?_⟩; conv => whnf)))
    exact ⟨_, rfl, Ext.refl _, no rfl⟩
  refine Or.inl (And.intro (show Region.lexB _ _ = true by kernel_rfl) ?_); (conv => whnf)
  (repeat (first | (refine HArith.to (e' := ((k + 1 : Nat) : Int)) (by omega) (by omega) (by omega) ?_; conv => whnf) | (refine HArith.fits (by omega) (by omega) ?_; conv => whnf) | (refine ⟨rfl, idx1 (fun p hp => ?_)⟩; conv => whnf) | (refine ⟨rfl, idx2 (fun p hp => ?_)⟩; conv => whnf) | (refine HIf.decF (by assumption) ?_; conv => whnf) | (refine HIf.decT (by assumption) ?_; conv => whnf) | (refine HIf.beqF (by assumption) ?_; conv => whnf) | (refine HIf.beqT (by assumption) ?_; conv => whnf) | (refine HIf.yes ?_; conv => whnf) | (refine HIf.no ?_; conv => whnf) | (refine ⟨rfl, At.load (by assumption) ?_⟩; conv => whnf) | (refine ⟨rfl, Ints.len (by assumption) ?_⟩; conv => whnf)))
  refine Or.inl (And.intro (show Region.lexB _ _ = true by kernel_rfl) ?_); (conv => whnf)
  (repeat (first | (refine HArith.to (e' := ((k + 1 : Nat) : Int)) (by omega) (by omega) (by omega) ?_; conv => whnf) | (refine HArith.fits (by omega) (by omega) ?_; conv => whnf) | (refine ⟨rfl, idx1 (fun p hp => ?_)⟩; conv => whnf) | (refine ⟨rfl, idx2 (fun p hp => ?_)⟩; conv => whnf) | (refine HIf.decF (by assumption) ?_; conv => whnf) | (refine HIf.decT (by assumption) ?_; conv => whnf) | (refine HIf.beqF (by assumption) ?_; conv => whnf) | (refine HIf.beqT (by assumption) ?_; conv => whnf) | (refine HIf.yes ?_; conv => whnf) | (refine HIf.no ?_; conv => whnf) | (refine ⟨rfl, At.load (by assumption) ?_⟩; conv => whnf) | (refine ⟨rfl, Ints.len (by assumption) ?_⟩; conv => whnf)))
  refine HCallQ.of (.int .i64 (bond a0 (a1.getD k 0) (a1.getD (k + 1) 0))) (impl_BondOf _ _ a0 _ _ hx0.frz (by omega)) (fun x h' hR => hR.1) ?_
  have hbl := bond_le a0 (a1.getD k 0) (a1.getD (k + 1) 0)
  obtain ⟨bd, hbd⟩ : ∃ bd, bd = bond a0 (a1.getD k 0) (a1.getD (k + 1) 0) := ⟨_, rfl⟩
  rw [← hbd] at hbl
  rw [← hbd]
  (conv => whnf)
  by_cases c4 : bd < 2
  · have hb := hok.trans (brN_small (by rw [← hbd]; exact c4))
    rw [hb]
    refine Or.inr (Or.inr (Or.inl (Exists.intro 31 (Exists.intro [0, 1, 2, 3, 4, 5, 6, 7, 8, 9, 10, 11, 12, 13, 14, 15, 16, 17, 18, 19, 20, 21, 22, 23, 24, 25, 26] (Exists.intro [27, 28, 29, 30] (And.intro (show heldOk _ _ _ _ = true by kernel_rfl) ?_)))))); (conv => whnf)
    (repeat (first | (refine HArith.fits (by omega) (by omega) ?_; conv => whnf) | (refine HIf.decF (by assumption) ?_; conv => whnf) | (refine HIf.decT (by assumption) ?_; conv => whnf) | (refine HIf.beqF (by assumption) ?_; conv => whnf) | (refine HIf.beqT (by assumption) ?_; conv => whnf) | (refine HIf.yes ?_; conv => whnf) | (refine HIf.no ?_; conv => whnf) | (refine ⟨rfl, At.load (by assumption) ?_⟩; conv => whnf) | (refine ⟨rfl, Ints.len (by assumption) ?_⟩; conv => whnf)))
    exact ⟨_, rfl, Ext.refl _, no rfl⟩
  obtain ⟨m, rfl⟩ : ∃ m : Nat, bd = m := ⟨bd.toNat, by omega⟩
  by_cases c5 : ((k + m : Nat) : Int) > (a1.length : Int)
  · have hb := hok.trans (brN_long (by unfold brM; rw [← hbd]; omega))
    rw [hb]
    refine Or.inr (Or.inr (Or.inl (Exists.intro 31 (Exists.intro [0, 1, 2, 3, 4, 5, 6, 7, 8, 9, 10, 11, 12, 13, 14, 15, 16, 17, 18, 19, 20, 21, 22, 23, 24, 25, 26] (Exists.intro [27, 28, 29, 30] (And.intro (show heldOk _ _ _ _ = true by kernel_rfl) ?_)))))); (conv => whnf)
    (repeat (first | (refine HArith.to (e' := ((k + 1 : Nat) : Int)) (by omega) (by omega) (by omega) ?_; conv => whnf) | (refine HArith.to (e' := ((k + m : Nat) : Int)) (by omega) (by omega) (by omega) ?_; conv => whnf) | (refine HArith.fits (by omega) (by omega) ?_; conv => whnf) | (refine ⟨rfl, idx1 (fun p hp => ?_)⟩; conv => whnf) | (refine ⟨rfl, idx2 (fun p hp => ?_)⟩; conv => whnf) | (refine HIf.decF (by assumption) ?_; conv => whnf) | (refine HIf.decT (by assumption) ?_; conv => whnf) | (refine HIf.beqF (by assumption) ?_; conv => whnf) | (refine HIf.beqT (by assumption) ?_; conv => whnf) | (refine HIf.yes ?_; conv => whnf) | (refine HIf.no ?_; conv => whnf) | (refine ⟨rfl, At.load (by assumption) ?_⟩; conv => whnf) | (refine ⟨rfl, Ints.len (by assumption) ?_⟩; conv => whnf)))
    exact ⟨_, rfl, Ext.refl _, no rfl⟩
  obtain ⟨hm, hn⟩ := brN_of (c := a0) (w := a1) (k := k) (m := m) c3 hbd.symm (by omega) (by omega)
  rw [hn] at hok
  have ham := alt_length (i := a1.getD (k + 1) 0) (j := a1.getD k 0) (m := m) (by omega)
  have hbw : brW a0 a1 k = a1.take k ++ (alt (a1.getD (k + 1) 0) (a1.getD k 0) m ++ a1.drop (k + m)) := by rw [brW, hm]
  have hbo := fun h => braid_on (c := a0) (w := a1) (k := k) h
  rw [hbw] at hbo
  rw [hok] at hbo ⊢
  clear hn hm hbd hbw hok
  generalize a1.getD k 0 = a at *
  generalize a1.getD (k + 1) 0 = b at *
  refine Or.inr (Or.inr (Or.inl (Exists.intro 31 (Exists.intro [0, 1, 2, 3, 4, 5, 6, 7, 8, 9, 10, 11, 12, 13, 14, 15, 16, 17, 18, 19, 20, 21, 22, 23, 24, 25, 26] (Exists.intro [27, 28, 29, 30] (And.intro (show heldOk _ _ _ _ = true by kernel_rfl) ?_)))))); (conv => whnf)
  (repeat (first | (refine HArith.to (e' := ((k + 1 : Nat) : Int)) (by omega) (by omega) (by omega) ?_; conv => whnf) | (refine HArith.to (e' := ((k + m : Nat) : Int)) (by omega) (by omega) (by omega) ?_; conv => whnf) | (refine HArith.fits (by omega) (by omega) ?_; conv => whnf) | (refine ⟨rfl, idx1 (fun p hp => ?_)⟩; conv => whnf) | (refine ⟨rfl, idx2 (fun p hp => ?_)⟩; conv => whnf) | (refine HIf.decF (by assumption) ?_; conv => whnf) | (refine HIf.decT (by assumption) ?_; conv => whnf) | (refine HIf.beqF (by assumption) ?_; conv => whnf) | (refine HIf.beqT (by assumption) ?_; conv => whnf) | (refine HIf.yes ?_; conv => whnf) | (refine HIf.no ?_; conv => whnf) | (refine ⟨rfl, At.load (by assumption) ?_⟩; conv => whnf) | (refine ⟨rfl, Ints.len (by assumption) ?_⟩; conv => whnf)))
  refine ⟨rfl, Ints.slice hx1 k (k + m) (Or.inr rfl) (Or.inr rfl) (by omega) (by omega) (fun y1 hy1 => ?_)⟩
  (conv => whnf)
  (repeat (first | (refine HArith.to (e' := ((k + 1 : Nat) : Int)) (by omega) (by omega) (by omega) ?_; conv => whnf) | (refine HArith.to (e' := ((k + m : Nat) : Int)) (by omega) (by omega) (by omega) ?_; conv => whnf) | (refine HArith.fits (by omega) (by omega) ?_; conv => whnf) | (refine ⟨rfl, idx1 (fun p hp => ?_)⟩; conv => whnf) | (refine ⟨rfl, idx2 (fun p hp => ?_)⟩; conv => whnf) | (refine HIf.decF (by assumption) ?_; conv => whnf) | (refine HIf.decT (by assumption) ?_; conv => whnf) | (refine HIf.beqF (by assumption) ?_; conv => whnf) | (refine HIf.beqT (by assumption) ?_; conv => whnf) | (refine HIf.yes ?_; conv => whnf) | (refine HIf.no ?_; conv => whnf) | (refine ⟨rfl, At.load (by assumption) ?_⟩; conv => whnf) | (refine ⟨rfl, Ints.len (by assumption) ?_⟩; conv => whnf)))
  refine HCallF.fresh (impl_AlternatingWord _ a b (m : Int)) (fun h2 y2 f2 => ?_)
  (conv => whnf)
  (repeat (first | (refine HArith.to (e' := ((k + 1 : Nat) : Int)) (by omega) (by omega) (by omega) ?_; conv => whnf) | (refine HArith.to (e' := ((k + m : Nat) : Int)) (by omega) (by omega) (by omega) ?_; conv => whnf) | (refine HArith.fits (by omega) (by omega) ?_; conv => whnf) | (refine ⟨rfl, idx1 (fun p hp => ?_)⟩; conv => whnf) | (refine ⟨rfl, idx2 (fun p hp => ?_)⟩; conv => whnf) | (refine HIf.decF (by assumption) ?_; conv => whnf) | (refine HIf.decT (by assumption) ?_; conv => whnf) | (refine HIf.beqF (by assumption) ?_; conv => whnf) | (refine HIf.beqT (by assumption) ?_; conv => whnf) | (refine HIf.yes ?_; conv => whnf) | (refine HIf.no ?_; conv => whnf) | (refine ⟨rfl, At.load (by assumption) ?_⟩; conv => whnf) | (refine ⟨rfl, Ints.len (by assumption) ?_⟩; conv => whnf)))
  refine HCallF.same (B (decide ((a1.take (k + m)).drop k = alt a b (m : Int)))) (impl_EqualWords _ _ _ _ _ (hy1.ext f2.1).frz f2.ints.frz (by simp; omega)) (fun x h' hR => hR) ?_
  (conv => whnf)
  (repeat (first | (refine HArith.to (e' := ((k + 1 : Nat) : Int)) (by omega) (by omega) (by omega) ?_; conv => whnf) | (refine HArith.to (e' := ((k + m : Nat) : Int)) (by omega) (by omega) (by omega) ?_; conv => whnf) | (refine HArith.fits (by omega) (by omega) ?_; conv => whnf) | (refine ⟨rfl, idx1 (fun p hp => ?_)⟩; conv => whnf) | (refine ⟨rfl, idx2 (fun p hp => ?_)⟩; conv => whnf) | (refine HIf.decF (by assumption) ?_; conv => whnf) | (refine HIf.decT (by assumption) ?_; conv => whnf) | (refine HIf.beqF (by assumption) ?_; conv => whnf) | (refine HIf.beqT (by assumption) ?_; conv => whnf) | (refine HIf.yes ?_; conv => whnf) | (refine HIf.no ?_; conv => whnf) | (refine ⟨rfl, At.load (by assumption) ?_⟩; conv => whnf) | (refine ⟨rfl, Ints.len (by assumption) ?_⟩; conv => whnf)))
  refine HIf.bnot (HIf.dec (fun heq => ?_) (fun hne => ?_))
  · rw [decide_eq_true heq] at hbo ⊢
    have hbo := hbo rfl
    rw [hbo]
    have hx2 := hx1.ext f2.1
    have idx5 : ∀ {K : HV → Prop}, (∀ p, At h2 p (ci a) → K (.s p)) → HIdx h2 (.s x1) (I k) K := fun hK => idx3 f2.1 hK
    have idx6 : ∀ {K : HV → Prop}, (∀ p, At h2 p (ci b) → K (.s p)) → HIdx h2 (.s x1) (I ((k + 1 : Nat) : Int)) K := fun hK => idx4 f2.1 hK
    clear idx1 idx2 idx3 idx4
    (conv => whnf)
    refine Or.inr (Or.inr (Or.inl (Exists.intro 23 (Exists.intro [0, 1, 2, 3, 4, 5, 6, 7, 8, 9, 10, 11, 12, 14, 15, 16, 17, 18] (Exists.intro [13, 19, 20, 21, 22] (And.intro (show heldOk _ _ _ _ = true by kernel_rfl) ?_)))))); (conv => whnf)
    refine ⟨rfl, Ints.take hx2 k (by omega) (fun y3 hy3 => ?_)⟩
    (conv => whnf)
    (repeat (first | (refine HArith.to (e' := ((k + 1 : Nat) : Int)) (by omega) (by omega) (by omega) ?_; conv => whnf) | (refine HArith.fits (by omega) (by omega) ?_; conv => whnf) | (refine ⟨rfl, idx5 (fun p hp => ?_)⟩; conv => whnf) | (refine ⟨rfl, idx6 (fun p hp => ?_)⟩; conv => whnf) | (refine HIf.decF (by assumption) ?_; conv => whnf) | (refine HIf.decT (by assumption) ?_; conv => whnf) | (refine HIf.beqF (by assumption) ?_; conv => whnf) | (refine HIf.beqT (by assumption) ?_; conv => whnf) | (refine HIf.yes ?_; conv => whnf) | (refine HIf.no ?_; conv => whnf) | (refine ⟨rfl, At.load (by assumption) ?_⟩; conv => whnf) | (refine ⟨rfl, Ints.len (by assumption) ?_⟩; conv => whnf)))
    refine ⟨rfl, Ints.slice hx2 (k + m) a1.length (Or.inr rfl) (Or.inl ⟨rfl, rfl⟩) (by omega) (Nat.le_refl _) (fun y4 hy4 => ?_)⟩
    rw [List.take_length] at hy4
    (conv => whnf)
    refine HCallF.fresh (impl_AlternatingWord _ b a (m : Int)) (fun h5 y5 f5 => ?_)
    (conv => whnf)
    refine HLit.of (xs := [y3, y5, y4]) rfl (one3 hy3.one f5.own.one hy4.one) (by omega) ?_
    have E5 := f2.1.trans f5.1
    have R5 := (Rows.three (hy3.ext f5.1) f5.ints (hy4.ext f5.1)).frz
    have ht := tot3 (a1.take k) (alt b a (m : Int)) (a1.drop (k + m))
    have hlt : (a1.take k).length ≤ 15 := by simp; omega
    have hld : (a1.drop (k + m)).length ≤ 15 := by simp; omega
    (conv => whnf)
    refine HCallF.fresh ((lib_Concat _ _ _ R5 ⟨by simp, by rw [ht]; omega⟩).mono (fun r h' ⟨y, e, _, _, g⟩ => ⟨y, e, g (by rw [ht]; omega)⟩)) (fun h6 y6 f6 => ?_)
    rw [flat3] at f6
    have hz := Fresh.inner (E5.trans (Ext.push h5 [Row.own [y3, y5, y4]])) f6
    (conv => whnf)
    exact ⟨_, rfl, hz.1, fun _ => Fresh.of hz.1 hz.2⟩
  · rw [decide_eq_false hne] at hbo ⊢
    (conv => whnf)
    exact ⟨_, rfl, f2.1, no rfl⟩

theorem impl_BraidAt0 (h : Heap) (x0 : H0) (a0 : List (List Int)) (x1 : H0) (a1 : List Int) (n2 : Int) (hx0 : Rows h x0 a0) (hx1 : Ints h x1 a1) (s0 : a0.length ≤ 1048576 ∧ tot a0 ≤ 1048576) (s1 : a1.length ≤ 1048576) :
    HCalls dm Try.prog 38 [.s x0, .s x1, I n2] h (fun r h' => ∃ y, r = T2 y (brOk a0 a1 n2) ∧ Fresh h h' y (braid a0 a1 n2)) := by
  refine calls_of_hFun (m := 0) kd_ok mixed Try.func38 rfl (by kernel_rfl) rfl rfl (of_decide_eq_true rfl) ?_; unfold hFun; (conv => whnf)
  refine (impl_IsWord _ _ _ a0 a1 hx0 hx1 (by omega) (by omega)).mono ?_
  rintro r h1 ⟨rfl, rfl⟩
  (conv => whnf)
  cases hic : isWord a0 a1
  · have hb := brOk_off (c := a0) (w := a1) (n := n2) (Or.inl hic)
    rw [hb, braid_off hb]
    refine HIf.no ?_
    (conv => whnf)
    refine HLit.empty ?_
    (conv => whnf)
    refine ⟨rfl, rfl, HApp.copy hx1 (by omega) (fun h2 y2 E2 O2 => ?_)⟩
    (conv => whnf)
    exact ⟨_, rfl, Fresh.of E2 O2⟩
  refine HIf.yes ?_
  (conv => whnf)
  refine (impl_braided _ _ a0 _ a1 n2 hx0 hx1 hic).mono ?_
  rintro r h2 ⟨y2, rfl, E2, hf⟩
  cases hb : brOk a0 a1 n2
  · rw [braid_off hb]
    (conv => whnf)
    refine HIf.no ?_
    (conv => whnf)
    refine HLit.empty ?_
    (conv => whnf)
    refine ⟨rfl, rfl, HApp.copy (hx1.ext E2) (by omega) (fun h3 y3 E3 O3 => ?_)⟩
    obtain ⟨q, hq1, hq2, Oq⟩ := O3.row
    have := E2.1
    (conv => whnf)
    exact ⟨_, rfl, Fresh.ofRow (E2.trans E3) Oq (by omega)⟩
  · have f := hf hb
    (conv => whnf)
    refine HIf.yes ?_
    (conv => whnf)
    exact ⟨_, rfl, f⟩

theorem impl_BraidAt (h : Heap) (x0 : H0) (a0 : List (List Int)) (x1 : H0) (a1 : List Int) (n2 : Int) (hx0 : Rows h x0 a0) (hx1 : Ints h x1 a1) (s0 : a0.length ≤ 1048576 ∧ tot a0 ≤ 1048576) (s1 : a1.length ≤ 1048576) (_s2 : -9223372036854775808 ≤ n2 ∧ n2 ≤ 9223372036854775807) :
    HCalls dm Try.prog 38 [.s x0, .s x1, I n2] h (fun r h' => ∃ y, r = T2 y (brOk a0 a1 n2) ∧ Fresh h h' y (braid a0 a1 n2)) := impl_BraidAt0 h x0 a0 x1 a1 n2 hx0 hx1 s0 s1

end Go.Proofs.Ytnooeaemjnmkdaa.Hx

namespace Go.Proofs.Ytnooeaemjnmkdaa.Hx
open Go.RowKit
variable {dm : Bool}

theorem in_off {a b : Int} (h : a < 0 ∨ a > b) : (decide (0 ≤ a) && decide (a ≤ b)) = false := by
  rcases h with h | h
  · have : decide (0 ≤ a) = false := decide_eq_false (by omega)
    rw [this]
    rfl
  · have : decide (a ≤ b) = false := decide_eq_false (by omega)
    rw [this, Bool.and_false]
theorem in_on {a b : Int} (h : 0 ≤ a) (h2 : a ≤ b) : (decide (0 ≤ a) && decide (a ≤ b)) = true := by
  rw [decide_eq_true h, decide_eq_true h2]
  rfl

/-- The places below k at which a braid move can be made. -/
def brTo (c : List (List Int)) (w : List Int) (k : Nat) : List Int := ((List.range k).filter fun t => brOk c w (t : Nat)).map fun (t : Nat) => (t : Int)
theorem brTo_none (c : List (List Int)) (w : List Int) : brTo c w 0 = [] := rfl
theorem brTo_le (c : List (List Int)) (w : List Int) (k : Nat) : (brTo c w k).length ≤ k := by
  have := List.length_filter_le (fun t => brOk c w (t : Nat)) (List.range k)
  simp [brTo] at this ⊢
  exact this
theorem brTo_in {c : List (List Int)} {w : List Int} {k : Nat} (h : brOk c w k = true) : brTo c w (k + 1) = brTo c w k ++ [(k : Int)] := by
  unfold brTo
  rw [List.range_succ, List.filter_append, List.map_append, List.filter_cons_of_pos (p := fun t => brOk c w (t : Nat)) h, List.filter_nil]
  rfl
theorem brTo_out {c : List (List Int)} {w : List Int} {k : Nat} (h : brOk c w k = false) : brTo c w (k + 1) = brTo c w k := by
  unfold brTo
  rw [List.range_succ, List.filter_append, List.map_append, List.filter_cons_of_neg (p := fun t => brOk c w (t : Nat)) (by rw [h]; decide), List.filter_nil, List.map_nil, List.append_nil]

/-- Braid moves at told places, one after the other; nothing where one cannot be made. -/
def braids (c : List (List Int)) : List Int → List Int → Option (List Int)
  | x, [] => some x
  | x, n :: l => if brOk c x n then braids c (braid c x n) l else none
def apOk (c : List (List Int)) (w l : List Int) : Bool := isWord c w && (braids c w l).isSome
def apW (c : List (List Int)) (w l : List Int) : List Int := (braids c w l).getD w
theorem braids_end (c : List (List Int)) (x : List Int) : braids c x [] = some x := rfl
theorem braids_step {c : List (List Int)} {x l : List Int} {k : Nat} (h : k < l.length) : braids c x (l.drop k) = if brOk c x (l.getD k 0) then braids c (braid c x (l.getD k 0)) (l.drop (k + 1)) else none := by
  rw [List.drop_eq_getElem_cons h, braids]
  have e : l.getD k 0 = l[k] := by simp [List.getD, h]
  rw [e]
theorem brOk_word {c : List (List Int)} {w : List Int} {n : Int} (h : brOk c w n = true) : isWord c w = true := by
  simp only [brOk, Bool.and_eq_true] at h
  exact h.1.1
theorem braid_same {c : List (List Int)} {w : List Int} {n : Int} (h : brOk c w n = true) : (braid c w n).length = w.length := by
  have hw := brOk_word h
  unfold braid
  rw [if_pos h]
  refine brW_len hw ?_
  simp only [brOk, Bool.and_eq_true] at h
  exact h.2
theorem braids_len (c : List (List Int)) : ∀ (l x y : List Int), braids c x l = some y → y.length = x.length
  | [], x, y, h => by
    rw [braids_end] at h
    injection h with h
    rw [h]
  | n :: l, x, y, h => by
    rw [braids] at h
    split at h
    · rename_i hb
      rw [braids_len c l _ y h, braid_same hb]
    · cases h
theorem apW_len (c : List (List Int)) (w l : List Int) : (apW c w l).length = w.length := by
  unfold apW
  cases h : braids c w l with
  | none => rfl
  | some y => exact braids_len c l w y h
theorem braids_word {c : List (List Int)} {w l : List Int} (hl : 0 < l.length) (h : isWord c w = false) : braids c w l = none := by
  match l, hl with
  | n :: l, _ =>
    rw [braids, brOk_off (Or.inl h)]
    rfl


set_option maxHeartbeats 1000000 in
theorem spec_BraidAt0 (h : Heap) (x0 : H0) (a0 : List (List Int)) (x1 : H0) (a1 : List Int) (n2 : Int) (hx0 : Rows h x0 a0) (hx1 : Ints h x1 a1) (s0 : a0.length ≤ 1048576 ∧ tot a0 ≤ 1048576) (s1 : a1.length ≤ 1048576) :
    HCalls dm Try.prog 31 [.s x0, .s x1, I n2] h (fun r h' => ∃ y, r = T2 y (brOk a0 a1 n2) ∧ Fresh h h' y (braid a0 a1 n2)) := by
  have copy : brOk a0 a1 n2 = false → ∀ {K : HV → Heap → Prop}, (∀ h' y, Fresh h h' y (braid a0 a1 n2) → K (.s y) h') → HApp (h ++ [.own []]) (.s (.sl h.length 0 0)) (.s x1) K := fun hb K hK => by
    rw [braid_off hb] at hK
    exact HApp.copy hx1 (by omega) (fun h2 y2 E2 O2 => hK _ _ (Fresh.of E2 O2))
  refine calls_of_hFun (m := 0) kd_ok mixed Try.func31 rfl (by kernel_rfl) rfl rfl (of_decide_eq_true rfl) ?_; unfold hFun; (conv => whnf)
  refine Or.inl (And.intro (show Region.lexB _ _ = true by kernel_rfl) ?_); (conv => whnf)
  refine HCallQ.of (.bool (isWord a0 a1)) (spec_IsWord _ _ _ a0 a1 hx0.frz hx1.frz (by omega) (by omega)) (fun x h' hR => hR.1) ?_
  (conv => whnf)
  cases hic : isWord a0 a1
  · have hb := brOk_off (c := a0) (w := a1) (n := n2) (Or.inl hic)
    rw [hb]
    (repeat (first | (refine HArith.fits (by omega) (by omega) ?_; conv => whnf) | (refine HIf.decF (by assumption) ?_; conv => whnf) | (refine HIf.decT (by assumption) ?_; conv => whnf) | (refine HIf.beqF (by assumption) ?_; conv => whnf) | (refine HIf.beqT (by assumption) ?_; conv => whnf) | (refine HIf.yes ?_; conv => whnf) | (refine HIf.no ?_; conv => whnf) | (refine ⟨rfl, At.load (by assumption) ?_⟩; conv => whnf) | (refine ⟨rfl, Ints.len (by assumption) ?_⟩; conv => whnf)))
    refine HLit.empty ?_
    (conv => whnf)
    refine ⟨rfl, rfl, copy hb (fun h2 y2 f2 => ?_)⟩
    (conv => whnf)
    exact ⟨_, rfl, f2⟩
  obtain ⟨hC, hl, hw⟩ := word_cartan hic
  have h4 := hC.le
  (repeat (first | (refine HArith.fits (by omega) (by omega) ?_; conv => whnf) | (refine HIf.decF (by assumption) ?_; conv => whnf) | (refine HIf.decT (by assumption) ?_; conv => whnf) | (refine HIf.beqF (by assumption) ?_; conv => whnf) | (refine HIf.beqT (by assumption) ?_; conv => whnf) | (refine HIf.yes ?_; conv => whnf) | (refine HIf.no ?_; conv => whnf) | (refine ⟨rfl, At.load (by assumption) ?_⟩; conv => whnf) | (refine ⟨rfl, Ints.len (by assumption) ?_⟩; conv => whnf)))
  refine HCallQ.of (.bool (decide (0 ≤ n2) && decide (n2 ≤ (a1.length : Int) - 2))) (spec_l1In _ n2 0 ((a1.length : Int) - 2)) (fun x h' hR => hR.1) ?_
  (conv => whnf)
  by_cases c1 : n2 < 0 ∨ n2 > (a1.length : Int) - 2
  · have hb := brOk_off (c := a0) (w := a1) (n := n2) (Or.inr c1)
    rw [hb, in_off c1]
    (repeat (first | (refine HArith.fits (by omega) (by omega) ?_; conv => whnf) | (refine HIf.decF (by assumption) ?_; conv => whnf) | (refine HIf.decT (by assumption) ?_; conv => whnf) | (refine HIf.beqF (by assumption) ?_; conv => whnf) | (refine HIf.beqT (by assumption) ?_; conv => whnf) | (refine HIf.yes ?_; conv => whnf) | (refine HIf.no ?_; conv => whnf) | (refine ⟨rfl, At.load (by assumption) ?_⟩; conv => whnf) | (refine ⟨rfl, Ints.len (by assumption) ?_⟩; conv => whnf)))
    refine HLit.empty ?_
    (conv => whnf)
    refine ⟨rfl, rfl, copy hb (fun h2 y2 f2 => ?_)⟩
    (conv => whnf)
    exact ⟨_, rfl, f2⟩
  rw [in_on (by omega) (by omega)]
  obtain ⟨k, rfl⟩ : ∃ k : Nat, n2 = k := ⟨n2.toNat, by omega⟩
  have hok := brOk_at (c := a0) (w := a1) (k := k) hic (by omega)
  have idx1 : ∀ {K : HV → Prop}, (∀ p, At h p (ci (a1.getD k 0)) → K (.s p)) → HIdx h (.s x1) (I k) K := fun hK => Ints.idxN hx1 (by omega) hK
  have idx2 : ∀ {K : HV → Prop}, (∀ p, At h p (ci (a1.getD (k + 1) 0)) → K (.s p)) → HIdx h (.s x1) (I ((k + 1 : Nat) : Int)) K := fun hK => Ints.idxN hx1 (by omega) hK
  have idx3 : ∀ {h2 : Heap} {K : HV → Prop}, Ext h h2 → (∀ p, At h2 p (ci (a1.getD k 0)) → K (.s p)) → HIdx h2 (.s x1) (I k) K := fun E hK => Ints.idxN (hx1.ext E) (by omega) hK
  have idx4 : ∀ {h2 : Heap} {K : HV → Prop}, Ext h h2 → (∀ p, At h2 p (ci (a1.getD (k + 1) 0)) → K (.s p)) → HIdx h2 (.s x1) (I ((k + 1 : Nat) : Int)) K := fun E hK => Ints.idxN (hx1.ext E) (by omega) hK
  by_cases c3 : a1.getD k 0 = a1.getD (k + 1) 0
  · have hb := hok.trans (brN_eq c3)
    rw [hb]
    (repeat (first | (refine HArith.to (e' := ((k + 1 : Nat) : Int)) (by omega) (by omega) (by omega) ?_; conv => whnf) | (refine HArith.fits (by omega) (by omega) ?_; conv => whnf) | (refine ⟨rfl, idx1 (fun p hp => ?_)⟩; conv => whnf) | (refine ⟨rfl, idx2 (fun p hp => ?_)⟩; conv => whnf) | (refine HIf.decF (by assumption) ?_; conv => whnf) | (refine HIf.decT (by assumption) ?_; conv => whnf) | (refine HIf.beqF (by assumption) ?_; conv => whnf) | (refine HIf.beqT (by assumption) ?_; conv => whnf) | (refine HIf.yes ?_; conv => whnf) | (refine HIf.no ?_; conv => whnf) | (refine ⟨rfl, At.load (by assumption) ?_⟩; conv => whnf) | (refine ⟨rfl, Ints.len (by assumption) ?_⟩; conv => whnf)))
    refine HLit.empty ?_
    (conv => whnf)
    refine ⟨rfl, rfl, copy hb (fun h2 y2 f2 => ?_)⟩
    (conv => whnf)
    exact ⟨_, rfl, f2⟩
  (repeat (first | (refine HArith.to (e' := ((k + 1 : Nat) : Int)) (by omega) (by omega) (by omega) ?_; conv => whnf) | (refine HArith.fits (by omega) (by omega) ?_; conv => whnf) | (refine ⟨rfl, idx1 (fun p hp => ?_)⟩; conv => whnf) | (refine ⟨rfl, idx2 (fun p hp => ?_)⟩; conv => whnf) | (refine HIf.decF (by assumption) ?_; conv => whnf) | (refine HIf.decT (by assumption) ?_; conv => whnf) | (refine HIf.beqF (by assumption) ?_; conv => whnf) | (refine HIf.beqT (by assumption) ?_; conv => whnf) | (refine HIf.yes ?_; conv => whnf) | (refine HIf.no ?_; conv => whnf) | (refine ⟨rfl, At.load (by assumption) ?_⟩; conv => whnf) | (refine ⟨rfl, Ints.len (by assumption) ?_⟩; conv => whnf)))
  refine Or.inl (And.intro (show Region.lexB _ _ = true by kernel_rfl) ?_); (conv => whnf)
  (repeat (first | (refine HArith.to (e' := ((k + 1 : Nat) : Int)) (by omega) (by omega) (by omega) ?_; conv => whnf) | (refine HArith.fits (by omega) (by omega) ?_; conv => whnf) | (refine ⟨rfl, idx1 (fun p hp => ?_)⟩; conv => whnf) | (refine ⟨rfl, idx2 (fun p hp => ?_)⟩; conv => whnf) | (refine HIf.decF (by assumption) ?_; conv => whnf) | (refine HIf.decT (by assumption) ?_; conv => whnf) | (refine HIf.beqF (by assumption) ?_; conv => whnf) | (refine HIf.beqT (by assumption) ?_; conv => whnf) | (refine HIf.yes ?_; conv => whnf) | (refine HIf.no ?_; conv => whnf) | (refine ⟨rfl, At.load (by assumption) ?_⟩; conv => whnf) | (refine ⟨rfl, Ints.len (by assumption) ?_⟩; conv => whnf)))
  refine HCallQ.of (.int .i64 (bond a0 (a1.getD k 0) (a1.getD (k + 1) 0))) (spec_BondOf _ _ a0 _ _ hx0.frz (by omega)) (fun x h' hR => hR.1) ?_
  have hbl := bond_le a0 (a1.getD k 0) (a1.getD (k + 1) 0)
  obtain ⟨bd, hbd⟩ : ∃ bd, bd = bond a0 (a1.getD k 0) (a1.getD (k + 1) 0) := ⟨_, rfl⟩
  rw [← hbd] at hbl
  rw [← hbd]
  (conv => whnf)
  by_cases c4 : bd < 2
  · have hb := hok.trans (brN_small (by rw [← hbd]; exact c4))
    rw [hb]
    refine Or.inr (Or.inr (Or.inl (Exists.intro 31 (Exists.intro [0, 1, 2, 3, 4, 5, 6, 7, 8, 9, 10, 11, 12, 13, 14, 15, 16, 17, 18, 19, 20, 21, 22, 23, 24, 25, 26] (Exists.intro [27, 28, 29, 30] (And.intro (show heldOk _ _ _ _ = true by kernel_rfl) ?_)))))); (conv => whnf)
    (repeat (first | (refine HArith.fits (by omega) (by omega) ?_; conv => whnf) | (refine HIf.decF (by assumption) ?_; conv => whnf) | (refine HIf.decT (by assumption) ?_; conv => whnf) | (refine HIf.beqF (by assumption) ?_; conv => whnf) | (refine HIf.beqT (by assumption) ?_; conv => whnf) | (refine HIf.yes ?_; conv => whnf) | (refine HIf.no ?_; conv => whnf) | (refine ⟨rfl, At.load (by assumption) ?_⟩; conv => whnf) | (refine ⟨rfl, Ints.len (by assumption) ?_⟩; conv => whnf)))
    refine HLit.empty ?_
    (conv => whnf)
    refine ⟨rfl, rfl, copy hb (fun h2 y2 f2 => ?_)⟩
    (conv => whnf)
    exact ⟨_, rfl, f2⟩
  obtain ⟨m, rfl⟩ : ∃ m : Nat, bd = m := ⟨bd.toNat, by omega⟩
  by_cases c5 : (m : Int) > (a1.length : Int) - (k : Int)
  · have hb := hok.trans (brN_long (by unfold brM; rw [← hbd]; omega))
    rw [hb]
    refine Or.inr (Or.inr (Or.inl (Exists.intro 31 (Exists.intro [0, 1, 2, 3, 4, 5, 6, 7, 8, 9, 10, 11, 12, 13, 14, 15, 16, 17, 18, 19, 20, 21, 22, 23, 24, 25, 26] (Exists.intro [27, 28, 29, 30] (And.intro (show heldOk _ _ _ _ = true by kernel_rfl) ?_)))))); (conv => whnf)
    (repeat (first | (refine HArith.fits (by omega) (by omega) ?_; conv => whnf) | (refine HIf.decF (by assumption) ?_; conv => whnf) | (refine HIf.decT (by assumption) ?_; conv => whnf) | (refine HIf.beqF (by assumption) ?_; conv => whnf) | (refine HIf.beqT (by assumption) ?_; conv => whnf) | (refine HIf.yes ?_; conv => whnf) | (refine HIf.no ?_; conv => whnf) | (refine ⟨rfl, At.load (by assumption) ?_⟩; conv => whnf) | (refine ⟨rfl, Ints.len (by assumption) ?_⟩; conv => whnf)))
    refine HLit.empty ?_
    (conv => whnf)
    refine ⟨rfl, rfl, copy hb (fun h2 y2 f2 => ?_)⟩
    (conv => whnf)
    exact ⟨_, rfl, f2⟩
  obtain ⟨hm, hn⟩ := brN_of (c := a0) (w := a1) (k := k) (m := m) c3 hbd.symm (by omega) (by omega)
  rw [hn] at hok
  have ham := alt_length (i := a1.getD (k + 1) 0) (j := a1.getD k 0) (m := m) (by omega)
  have hbw : brW a0 a1 k = a1.take k ++ (alt (a1.getD (k + 1) 0) (a1.getD k 0) m ++ a1.drop (k + m)) := by rw [brW, hm]
  have hbo := fun h => braid_on (c := a0) (w := a1) (k := k) h
  rw [hbw] at hbo
  have hno := fun (h : _ = false) => hok.trans h
  rw [hok] at hbo copy ⊢
  clear hn hm hbd hbw hok
  generalize a1.getD k 0 = a at *
  generalize a1.getD (k + 1) 0 = b at *
  refine Or.inr (Or.inr (Or.inl (Exists.intro 31 (Exists.intro [0, 1, 2, 3, 4, 5, 6, 7, 8, 9, 10, 11, 12, 13, 14, 15, 16, 17, 18, 19, 20, 21, 22, 23, 24, 25, 26] (Exists.intro [27, 28, 29, 30] (And.intro (show heldOk _ _ _ _ = true by kernel_rfl) ?_)))))); (conv => whnf)
  (repeat (first | (refine HArith.to (e' := ((k + 1 : Nat) : Int)) (by omega) (by omega) (by omega) ?_; conv => whnf) | (refine HArith.to (e' := ((k + m : Nat) : Int)) (by omega) (by omega) (by omega) ?_; conv => whnf) | (refine HArith.fits (by omega) (by omega) ?_; conv => whnf) | (refine ⟨rfl, idx1 (fun p hp => ?_)⟩; conv => whnf) | (refine ⟨rfl, idx2 (fun p hp => ?_)⟩; conv => whnf) | (refine HIf.decF (by assumption) ?_; conv => whnf) | (refine HIf.decT (by assumption) ?_; conv => whnf) | (refine HIf.beqF (by assumption) ?_; conv => whnf) | (refine HIf.beqT (by assumption) ?_; conv => whnf) | (refine HIf.yes ?_; conv => whnf) | (refine HIf.no ?_; conv => whnf) | (refine ⟨rfl, At.load (by assumption) ?_⟩; conv => whnf) | (refine ⟨rfl, Ints.len (by assumption) ?_⟩; conv => whnf)))
  refine ⟨rfl, Ints.slice hx1 k (k + m) (Or.inr rfl) (Or.inr rfl) (by omega) (by omega) (fun y1 hy1 => ?_)⟩
  (conv => whnf)
  (repeat (first | (refine HArith.to (e' := ((k + 1 : Nat) : Int)) (by omega) (by omega) (by omega) ?_; conv => whnf) | (refine HArith.to (e' := ((k + m : Nat) : Int)) (by omega) (by omega) (by omega) ?_; conv => whnf) | (refine HArith.fits (by omega) (by omega) ?_; conv => whnf) | (refine ⟨rfl, idx1 (fun p hp => ?_)⟩; conv => whnf) | (refine ⟨rfl, idx2 (fun p hp => ?_)⟩; conv => whnf) | (refine HIf.decF (by assumption) ?_; conv => whnf) | (refine HIf.decT (by assumption) ?_; conv => whnf) | (refine HIf.beqF (by assumption) ?_; conv => whnf) | (refine HIf.beqT (by assumption) ?_; conv => whnf) | (refine HIf.yes ?_; conv => whnf) | (refine HIf.no ?_; conv => whnf) | (refine ⟨rfl, At.load (by assumption) ?_⟩; conv => whnf) | (refine ⟨rfl, Ints.len (by assumption) ?_⟩; conv => whnf)))
  refine HCallF.fresh (spec_AlternatingWord _ a b (m : Int)) (fun h2 y2 f2 => ?_)
  (conv => whnf)
  (repeat (first | (refine HArith.to (e' := ((k + 1 : Nat) : Int)) (by omega) (by omega) (by omega) ?_; conv => whnf) | (refine HArith.to (e' := ((k + m : Nat) : Int)) (by omega) (by omega) (by omega) ?_; conv => whnf) | (refine HArith.fits (by omega) (by omega) ?_; conv => whnf) | (refine ⟨rfl, idx1 (fun p hp => ?_)⟩; conv => whnf) | (refine ⟨rfl, idx2 (fun p hp => ?_)⟩; conv => whnf) | (refine HIf.decF (by assumption) ?_; conv => whnf) | (refine HIf.decT (by assumption) ?_; conv => whnf) | (refine HIf.beqF (by assumption) ?_; conv => whnf) | (refine HIf.beqT (by assumption) ?_; conv => whnf) | (refine HIf.yes ?_; conv => whnf) | (refine HIf.no ?_; conv => whnf) | (refine ⟨rfl, At.load (by assumption) ?_⟩; conv => whnf) | (refine ⟨rfl, Ints.len (by assumption) ?_⟩; conv => whnf)))
  refine HCallF.same (B (decide ((a1.take (k + m)).drop k = alt a b (m : Int)))) (spec_EqualWords _ _ _ _ _ (hy1.ext f2.1).frz f2.ints.frz (by simp; omega)) (fun x h' hR => hR) ?_
  (conv => whnf)
  (repeat (first | (refine HArith.to (e' := ((k + 1 : Nat) : Int)) (by omega) (by omega) (by omega) ?_; conv => whnf) | (refine HArith.to (e' := ((k + m : Nat) : Int)) (by omega) (by omega) (by omega) ?_; conv => whnf) | (refine HArith.fits (by omega) (by omega) ?_; conv => whnf) | (refine ⟨rfl, idx1 (fun p hp => ?_)⟩; conv => whnf) | (refine ⟨rfl, idx2 (fun p hp => ?_)⟩; conv => whnf) | (refine HIf.decF (by assumption) ?_; conv => whnf) | (refine HIf.decT (by assumption) ?_; conv => whnf) | (refine HIf.beqF (by assumption) ?_; conv => whnf) | (refine HIf.beqT (by assumption) ?_; conv => whnf) | (refine HIf.yes ?_; conv => whnf) | (refine HIf.no ?_; conv => whnf) | (refine ⟨rfl, At.load (by assumption) ?_⟩; conv => whnf) | (refine ⟨rfl, Ints.len (by assumption) ?_⟩; conv => whnf)))
  refine HIf.bnot (HIf.dec (fun heq => ?_) (fun hne => ?_))
  · rw [decide_eq_true heq] at hbo ⊢
    have hbo := hbo rfl
    rw [hbo]
    have hx2 := hx1.ext f2.1
    have idx5 : ∀ {K : HV → Prop}, (∀ p, At h2 p (ci a) → K (.s p)) → HIdx h2 (.s x1) (I k) K := fun hK => idx3 f2.1 hK
    have idx6 : ∀ {K : HV → Prop}, (∀ p, At h2 p (ci b) → K (.s p)) → HIdx h2 (.s x1) (I ((k + 1 : Nat) : Int)) K := fun hK => idx4 f2.1 hK
    clear idx1 idx2 idx3 idx4
    (conv => whnf)
    refine Or.inr (Or.inr (Or.inl (Exists.intro 23 (Exists.intro [0, 1, 2, 3, 4, 5, 6, 7, 8, 9, 10, 11, 12, 15, 16, 17, 18, 19] (Exists.intro [13, 14, 20, 21, 22] (And.intro (show heldOk _ _ _ _ = true by kernel_rfl) ?_)))))); (conv => whnf)
    refine ⟨rfl, Ints.take hx2 k (by omega) (fun y3 hy3 => ?_)⟩
    (conv => whnf)
    (repeat (first | (refine HArith.to (e' := ((k + 1 : Nat) : Int)) (by omega) (by omega) (by omega) ?_; conv => whnf) | (refine HArith.fits (by omega) (by omega) ?_; conv => whnf) | (refine ⟨rfl, idx5 (fun p hp => ?_)⟩; conv => whnf) | (refine ⟨rfl, idx6 (fun p hp => ?_)⟩; conv => whnf) | (refine HIf.decF (by assumption) ?_; conv => whnf) | (refine HIf.decT (by assumption) ?_; conv => whnf) | (refine HIf.beqF (by assumption) ?_; conv => whnf) | (refine HIf.beqT (by assumption) ?_; conv => whnf) | (refine HIf.yes ?_; conv => whnf) | (refine HIf.no ?_; conv => whnf) | (refine ⟨rfl, At.load (by assumption) ?_⟩; conv => whnf) | (refine ⟨rfl, Ints.len (by assumption) ?_⟩; conv => whnf)))
    refine ⟨rfl, Ints.slice hx2 (k + m) a1.length (Or.inr rfl) (Or.inl ⟨rfl, rfl⟩) (by omega) (Nat.le_refl _) (fun y4 hy4 => ?_)⟩
    rw [List.take_length] at hy4
    (conv => whnf)
    refine HCallF.fresh (spec_AlternatingWord _ b a (m : Int)) (fun h5 y5 f5 => ?_)
    have hlt : (a1.take k).length ≤ 15 := by simp; omega
    have hld : (a1.drop (k + m)).length ≤ 15 := by simp; omega
    (conv => whnf)
    refine HCallF.fresh (spec_ConcatWords _ _ _ _ _ (hy3.ext f5.1).frz f5.ints.frz (by omega) (by omega)) (fun h6 y6 f6 => ?_)
    have E6 := f5.1.trans f6.1
    (conv => whnf)
    refine HCallF.fresh (spec_ConcatWords _ _ _ _ _ f6.ints.frz (hy4.ext E6).frz (by rw [List.length_append]; omega) (by omega)) (fun h7 y7 f7 => ?_)
    rw [List.append_assoc] at f7
    have hz := Fresh.inner (f2.1.trans E6) f7
    (conv => whnf)
    exact ⟨_, rfl, Fresh.of hz.1 hz.2⟩
  · rw [decide_eq_false hne] at copy ⊢
    (conv => whnf)
    refine HLit.empty ?_
    have E2 := f2.1
    have hE2 := E2.1
    have hb := hno (decide_eq_false hne)
    (conv => whnf)
    refine ⟨rfl, rfl, HApp.copy (hx1.ext E2) (by omega) (fun h3 y3 E3 O3 => ?_)⟩
    obtain ⟨q, hq1, hq2, Oq⟩ := O3.row
    rw [braid_off hb]
    (conv => whnf)
    exact ⟨_, rfl, Fresh.ofRow (E2.trans E3) Oq (by omega)⟩

theorem spec_BraidAt (h : Heap) (x0 : H0) (a0 : List (List Int)) (x1 : H0) (a1 : List Int) (n2 : Int) (hx0 : Rows h x0 a0) (hx1 : Ints h x1 a1) (s0 : a0.length ≤ 1048576 ∧ tot a0 ≤ 1048576) (s1 : a1.length ≤ 1048576) (_s2 : -9223372036854775808 ≤ n2 ∧ n2 ≤ 9223372036854775807) :
    HCalls dm Try.prog 31 [.s x0, .s x1, I n2] h (fun r h' => ∃ y, r = T2 y (brOk a0 a1 n2) ∧ Fresh h h' y (braid a0 a1 n2)) := spec_BraidAt0 h x0 a0 x1 a1 n2 hx0 hx1 s0 s1

end Go.Proofs.Ytnooeaemjnmkdaa.Hx
