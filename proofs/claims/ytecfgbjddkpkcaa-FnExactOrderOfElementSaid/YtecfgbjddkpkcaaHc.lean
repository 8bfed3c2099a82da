
/-
  The calculus of rows is sound, part 1: operations that leave memory as it is.
-/
import Derived.Test.YtecfgbjddkpkcaaHb
namespace Go.Proofs.Ytecfgbjddkpkcaa.Hx
open Go.RowKit
variable {dm : Bool}

structure FrRep (φ : Plan) (n : Nat) (fr : Fr) (a : Act) : Prop where
  size : a.tmps.size = n
  has : ∀ t, t < n → repV φ (fr t) (a.tmps.getD t undef)
  out : ∀ t, n ≤ t → fr t = .dead
  defers : a.defers = []

theorem FrRep.mono {φ ψ : Plan} {n : Nat} {fr : Fr} {a : Act} (F : FrRep φ n fr a) (s : Sub φ ψ) : FrRep ψ n fr a := ⟨F.size, fun t h => (F.has t h).mono s, F.out, F.defers⟩

theorem FrRep.eval {φ : Plan} {n : Nat} {fr : Fr} {a : Act} (F : FrRep φ n fr a) (x : Operand) : repV φ (hEval fr x) (a.eval x) := by
  cases x with
  | tmp t =>
    by_cases h : t < n
    · exact F.has t h
    · show repV φ (fr t) _
      rw [F.out t (Nat.le_of_not_lt h)]
      trivial
  | const v => exact rfl
  | global g => exact rfl
  | func f => exact ⟨#[], rfl, trivial⟩

theorem beq_ne {t d : Nat} (h : ¬ t = d) : Nat.beq t d = false := by
  cases hh : Nat.beq t d with
  | false => rfl
  | true => exact absurd (Nat.eq_of_beq_eq_true hh) h

theorem put_elim {n : Nat} {fr : Fr} {dst : Option Tmp} {v : HV} {K : Fr → Prop} (H : put n fr dst v K) :
    ∃ fr', K fr' ∧ (∀ (φ : Plan) (a : Act) (u : Value), FrRep φ n fr a → repV φ v u → FrRep φ n fr' (a.put dst u)) ∧ ∀ t, dst ≠ some t → fr' t = fr t := by
  cases dst with
  | none => exact ⟨fr, H, fun φ a u F _ => F, fun _ _ => rfl⟩
  | some d =>
    simp only [put] at H
    cases hb : Nat.blt d n with
    | false => rw [hb] at H; exact H.elim
    | true =>
      rw [hb] at H
      have hd : d < n := by simpa using hb
      refine ⟨_, H, fun φ a u F r => ⟨by simp [Act.put, F.size], fun t ht => ?_, fun t ht => ?_, F.defers⟩, fun t ht => ?_⟩
      · by_cases htd : t = d
        · subst htd
          simp only [Nat.beq_refl, cond_true, Act.put]
          have : (a.tmps.setIfInBounds t u).getD t undef = u := by simp [F.size, hd]
          rw [this]
          exact r
        · have hbe : Nat.beq t d = false := beq_ne htd
          simp only [hbe, cond_false, Act.put]
          have : (a.tmps.setIfInBounds d u).getD t undef = a.tmps.getD t undef := by
            simp only [Array.getD_eq_getD_getElem?]
            rw [Array.getElem?_setIfInBounds_ne (Ne.symm htd)]
          rw [this]
          exact F.has t ht
      · have hbe : Nat.beq t d = false := beq_ne (fun e => by subst e; exact absurd hd (Nat.not_lt.2 ht))
        simp only [hbe, cond_false]
        exact F.out t ht
      · have hbe : Nat.beq t d = false := beq_ne (fun (e : t = d) => ht (congrArg some e.symm))
        simp only [hbe, cond_false]

theorem wp_value {P : Program} {o : Oper} {a : Act} {w w' : World} {v : Value} {next : Act → World → Prop} {Q : Exit → Act → World → Prop}
    (hr : (execOp a.eval o).run P w = .ok (.value v) w') (h : next (a.put o.dst v) w') : o.wp P a w next Q := by
  unfold Oper.wp
  rw [hr]
  exact h

theorem wp_skips {P : Program} {o : Oper} {a : Act} {w w' : World} {next : Act → World → Prop} {Q : Exit → Act → World → Prop}
    (hr : (execOp a.eval o).run P w = .ok .skip w') (h : next (a.put o.dst undef) w') : o.wp P a w next Q := by
  unfold Oper.wp
  rw [hr]
  exact h

/-! ### What an operation that leaves memory alone yields, in a world that bears the heap -/

/-- The operation yields a value of the kind, the world unchanged. -/
def Yields (P : Program) (o : Oper) (a : Act) (w : World) (φ : Plan) (x : HV) : Prop := ∃ v, (execOp a.eval o).run P w = .ok (.value v) w ∧ repV φ x v

theorem rep0_pl {φ : Plan} {v u : Value} (h : repV φ (.s (.pl v)) u) : u = v := h

theorem hIf_elim {φ : Plan} {c : HV} {A C : Prop} {v : Value} (H : hIf c A C) (r : repV φ c v) : ∃ b, v = .bool b ∧ (b = true → A) ∧ (b = false → C) := by
  unfold hIf at H
  split at H
  · rename_i b
    exact ⟨b, r, H.out⟩
  · exact H.elim

section
variable {P : Program} {w : World}

theorem run_eqGuard_int (op : BinOp) (t : TypeId) (x y : Operand) (k k' : IntKind) (a b : Int) : (eqGuard op t x y (.int k a) (.int k' b)).run P w = .ok () w := by
  cases op <;> simp [eqGuard]

theorem run_eqGuard_bool (op : BinOp) (t : TypeId) (x y : Operand) (a b : Bool) : (eqGuard op t x y (.bool a) (.bool b)).run P w = .ok () w := by
  cases op <;> simp [eqGuard]

theorem hInt_run {op : BinOp} {t : TypeId} {k : IntKind} {a b : Int} {K : HV → Prop} (H : hInt op k a b K) : ∃ v : Value, (∀ w : World, (binOp op t (.int k a) (.int k b)).run P w = .ok v w) ∧ K (.s (.pl v)) := by
  cases op <;> simp only [hInt] at H
  case add => exact ⟨_, fun w => by simp [binOp, Op.intArith], H.out⟩
  case sub => exact ⟨_, fun w => by simp [binOp, Op.intArith], H.out⟩
  case mul => exact ⟨_, fun w => by simp [binOp, Op.intArith], H.out⟩
  case quo => exact ⟨_, fun w => by simp [binOp, Op.intDiv, H.out.1], H.out.2⟩
  case rem => exact ⟨_, fun w => by simp [binOp, Op.intDiv, H.out.1], H.out.2⟩
  case eql => exact ⟨_, fun w => by simp [binOp, Op.intCmp], H⟩
  case neq => exact ⟨_, fun w => by simp [binOp, Op.intCmp], H⟩
  case lss => exact ⟨_, fun w => by simp [binOp, Op.intCmp], H⟩
  case leq => exact ⟨_, fun w => by simp [binOp, Op.intCmp], H⟩
  case gtr => exact ⟨_, fun w => by simp [binOp, Op.intCmp], H⟩
  case geq => exact ⟨_, fun w => by simp [binOp, Op.intCmp], H⟩
  case shl =>
    obtain ⟨h1, h2⟩ := H.out
    have h3 : ¬ b < 0 := by omega
    exact ⟨_, fun w => by simp [binOp, Op.shift, h3], h2⟩
  case shr =>
    obtain ⟨h1, h2⟩ := H.out
    have h3 : ¬ b < 0 := by omega
    exact ⟨_, fun w => by simp [binOp, Op.shift, h3], h2⟩
  case and => exact ⟨_, fun w => by simp [binOp, Op.intBits], H.out⟩
  case xor => exact ⟨_, fun w => by simp [binOp, Op.intBits], H.out⟩

theorem hBin_run {φ : Plan} {op : BinOp} {t : TypeId} {d : Kd} (hd : d.ok P t) {x y : HV} {u v : Value} (ox oy : Operand) (hx : repV φ x u) (hy : repV φ y v) {K : HV → Prop} (H : hBin op d (isK oy) x y K) :
    ∃ r : Value, (∀ w : World, (do eqGuard op t ox oy u v; binOp op t u v : Sem Value).run P w = .ok r w) ∧ K (.s (.pl r)) := by
  unfold hBin at H
  split at H
  · rename_i k a k' b
    obtain rfl := rep0_pl hx
    obtain rfl := rep0_pl hy
    by_cases hk : k = k'
    · subst hk
      rw [if_pos rfl] at H
      obtain ⟨r, h1, h2⟩ := hInt_run (P := P) (t := t) H
      exact ⟨r, fun w => by simp only [Sem.run_bind, run_eqGuard_int, Result.andThen_ok, h1], h2⟩
    · rw [if_neg hk] at H
      cases op <;> simp only [hShift] at H <;> try exact H.elim
      · obtain ⟨h1, h2⟩ := H.out
        have h3 : ¬ b < 0 := by omega
        exact ⟨_, fun w => by simp [run_eqGuard_int, binOp, Op.shift, h3], h2⟩
      · obtain ⟨h1, h2⟩ := H.out
        have h3 : ¬ b < 0 := by omega
        exact ⟨_, fun w => by simp [run_eqGuard_int, binOp, Op.shift, h3], h2⟩
  · rename_i a b
    obtain rfl := rep0_pl hx
    obtain rfl := rep0_pl hy
    cases op <;> simp only at H <;> try exact H.elim
    · obtain ⟨h1, h2⟩ := H
      have hu : P.underlying t = some .bool := by
        cases d <;> simp [Kd.isBool] at h1
        exact hd.1
      exact ⟨_, fun w => by simp only [Sem.run_bind, run_eqGuard_bool, Result.andThen_ok, run_eql_bool w t a b hu], h2⟩
    · obtain ⟨h1, h2⟩ := H
      have hu : P.underlying t = some .bool := by
        cases d <;> simp [Kd.isBool] at h1
        exact hd.1
      exact ⟨_, fun w => by simp only [Sem.run_bind, run_eqGuard_bool, Result.andThen_ok, run_neq_bool w t a b hu], h2⟩
  · rename_i r off len n c
    obtain ⟨p, a, cap, hp, rfl, _⟩ := hx
    obtain rfl := rep0_pl hy
    cases op <;> simp only at H <;> try exact H.elim
    obtain ⟨h1, h2⟩ := H
    obtain ⟨z, rfl⟩ : ∃ z, d = .sl z := by cases d <;> simp [Kd.isSl] at h1; exact ⟨_, rfl⟩
    obtain ⟨e, i, g1, _⟩ := hd.1
    refine ⟨.bool false, fun w => ?_, h2⟩
    have h3 := Go.Lib.run_eql_slice_nil (P := P) w t e (some a) len cap n c g1
    have h4 : (eqGuard .eql t ox oy (.slice (some a) len cap) (.slice none n c)).run P w = .ok () w := by simp [eqGuard]
    simp only [Sem.run_bind, h4, Result.andThen_ok, h3]
    rfl
  · rename_i len cap n c
    obtain rfl := rep0_pl hx
    obtain rfl := rep0_pl hy
    cases op <;> simp only at H <;> try exact H.elim
    obtain ⟨h1, h2⟩ := H
    obtain ⟨z, rfl⟩ : ∃ z, d = .sl z := by cases d <;> simp [Kd.isSl] at h1; exact ⟨_, rfl⟩
    obtain ⟨e, i, g1, _⟩ := hd.1
    refine ⟨.bool true, fun w => ?_, h2⟩
    have h3 := Go.Lib.run_eql_slice_nil (P := P) w t e none len cap n c g1
    have h4 : (eqGuard .eql t ox oy (.slice none len cap) (.slice none n c)).run P w = .ok () w := by simp [eqGuard]
    simp only [Sem.run_bind, h4, Result.andThen_ok, h3]
    rfl
  · rename_i a b
    obtain rfl := rep0_pl hx
    obtain rfl := rep0_pl hy
    obtain ⟨r, h1, h2⟩ := H.out
    refine ⟨r, fun w => ?_, h2⟩
    have h3 : (eqGuard op t ox oy (.string a) (.string b)).run P w = .ok () w := by cases op <;> simp [eqGuard]
    have h4 : binOp op t (.string a) (.string b) = Op.stringOp op a b := by cases op <;> rfl
    simp only [Sem.run_bind, h3, Result.andThen_ok, h4, h1]
  · rename_i te pe
    obtain rfl := rep0_pl hx
    obtain rfl := rep0_pl hy
    cases op <;> simp only at H <;> try exact H.elim
    obtain ⟨h1, h2⟩ := H
    have hu : P.underlying t = some (.interface (P.methodsAt t)) := by
      cases d <;> simp [Kd.isIfc] at h1
      exact hd.1
    have h4 : ∀ w : World, (eqGuard .neq t ox oy (.iface te pe) .nilIface).run P w = .ok () w := fun w => by simp [eqGuard]
    exact ⟨_, fun w => by simp only [Sem.run_bind, h4, Result.andThen_ok, run_neq_held_nil w t te pe hu], h2⟩
  · obtain rfl := rep0_pl hx
    obtain rfl := rep0_pl hy
    cases op <;> simp only at H <;> try exact H.elim
    obtain ⟨h1, h2⟩ := H
    rw [Bool.and_eq_true] at h1
    have hu : P.underlying t = some (.interface (P.methodsAt t)) := by
      have h0 := h1.1
      cases d <;> simp [Kd.isIfc] at h0
      exact hd.1
    have h4 : ∀ w : World, (eqGuard .neq t ox oy .nilIface .nilIface).run P w = .ok () w := fun w => by
      have h0 := h1.2
      cases oy <;> simp [isK] at h0
      simp [eqGuard]
    exact ⟨_, fun w => by simp only [Sem.run_bind, h4, Result.andThen_ok, run_neq_nil_nil w t hu], h2⟩
  · exact H.elim

theorem hUn_run {φ : Plan} {op : UnOp} {x : HV} {u : Value} (hx : repV φ x u) {K : HV → Prop} (H : hUn op x K) : ∃ r : Value, (∀ w : World, (Op.unary op u).run P w = .ok r w) ∧ K (.s (.pl r)) := by
  unfold hUn at H
  split at H
  · rename_i b
    obtain rfl := rep0_pl hx
    exact ⟨_, fun _ => rfl, H⟩
  · rename_i k n
    obtain rfl := rep0_pl hx
    exact ⟨_, fun w => by simp [Op.unary, Op.intArith], H.out⟩
  · exact H.elim

theorem Kd.sl_under {d : Kd} {t : TypeId} (hd : d.ok P t) (h : d.isSl = true) : ∃ e i, P.underlying t = some (.slice e) ∧ P.info? e = some i ∧ i.size = 1 := by
  cases d <;> simp [Kd.isSl] at h
  obtain ⟨⟨e, i, h1, h2, h3, _⟩, _⟩ := hd
  exact ⟨e, i, h1, h2, h3⟩

theorem lenOf_rep {φ : Plan} {x : HV} {u : Value} {n : Nat} (hx : repV φ x u) (h : lenOf x = some n) : ∃ a c, u = .slice a n c := by
  unfold lenOf at h
  split at h
  · cases h
    obtain ⟨p, a, cap, _, rfl, _⟩ := hx
    exact ⟨_, _, rfl⟩
  · cases h
    obtain rfl := rep0_pl hx
    exact ⟨_, _, rfl⟩
  · cases h

theorem hLen_run {φ : Plan} {d : Kd} {t ty : TypeId} (hd : d.ok P t) (hs : d.isSl = true) {x : HV} {u : Value} (hx : repV φ x u) {K : HV → Prop} (H : HLen x K) :
    ∃ r : Value, (∀ w : World, (Builtin.len_ #[t] ty #[u]).run P w = .ok r w) ∧ K (.s (.pl r)) := by
  obtain ⟨n, hn, hK⟩ := H.out
  obtain ⟨a, c, rfl⟩ := lenOf_rep hx hn
  obtain ⟨e, i, hu, _⟩ := Kd.sl_under hd hs
  exact ⟨_, fun w => by simp [Builtin.len_, run_underlying hu, goInt], hK⟩

theorem rec_add (b o l : Nat) : (⟨b, o, none⟩ : Addr).add l = ⟨b, o + l, none⟩ := by
  unfold Addr.add
  split
  · simp_all
  · rfl

theorem hLenW_run {φ : Plan} {t ty : TypeId} {zs : List Value} (hd : (Kd.slw zs).ok P t) {x : HV} {u : Value} (hx : repV φ x u) {K : HV → Prop} (H : HLenW x K) :
    ∃ r : Value, (∀ w : World, (Builtin.len_ #[t] ty #[u]).run P w = .ok r w) ∧ K (.s (.pl r)) := by
  obtain ⟨k, r, off, n, rfl, hK⟩ := H.out
  obtain ⟨p, a, cap, _, rfl, _⟩ := hx
  obtain ⟨⟨e, i, hu, _⟩, _⟩ := hd
  exact ⟨_, fun w => by simp [Builtin.len_, run_underlying hu, goInt], hK⟩

theorem hIdxW_run {φ : Plan} {t : TypeId} {zs : List Value} (hd : (Kd.slw zs).ok P t) {x i : HV} {u v : Value} (hx : repV φ x u) (hi : repV φ i v) {K : HV → Prop} (H : HIdxW zs.length x i K) :
    ∃ (r : Value) (y : HV), (∀ w : World, (Instr.indexAt t u v).run P w = .ok r w) ∧ repV φ y r ∧ K y := by
  obtain ⟨r, off, len, k, j, rfl, rfl, h0, h1, hK⟩ := H.out
  obtain ⟨p, a, cap, hp, rfl, hl, hm, hpn, ha⟩ := hx
  obtain rfl := rep0_pl hi
  obtain ⟨⟨e, ti, hu, hie, hsz, _⟩, _⟩ := hd
  obtain rfl := ha (by omega)
  refine ⟨.pointer (some ⟨p.b, p.o + (off + zs.length * j.toNat), none⟩), .s (.ptr r (off + zs.length * j.toNat)), fun w => ?_, ⟨p, hp, rfl⟩, hK⟩
  have hadd : (⟨p.b, p.o + off, none⟩ : Addr).add (j.toNat * zs.length) = ⟨p.b, p.o + (off + zs.length * j.toNat), none⟩ := by
    rw [rec_add, Nat.mul_comm, Nat.add_assoc]
  simp [Instr.indexAt, asIntOf, run_underlying hu, h0, h1, sizeOf, typeInfo, hie, hsz, hadd]

theorem hLenS_run {φ : Plan} {t ty : TypeId} (hd : Kd.str.ok P t) {x : HV} {u : Value} (hx : repV φ x u) {K : HV → Prop} (H : HLenS x K) :
    ∃ r : Value, (∀ w : World, (Builtin.len_ #[t] ty #[u]).run P w = .ok r w) ∧ K (.s (.pl r)) := by
  obtain ⟨s, rfl, hK⟩ := H.out
  obtain rfl := rep0_pl hx
  exact ⟨_, fun w => by simp [Builtin.len_, run_underlying hd.1, goInt], hK⟩

theorem hMax_run {φ : Plan} {ts : Array TypeId} {ty : TypeId} {x y : HV} {u v : Value} (hx : repV φ x u) (hy : repV φ y v) {K : HV → Prop} (H : HMax x y K) :
    ∃ r : Value, (∀ w : World, (Builtin.max_ ts ty #[u, v]).run P w = .ok r w) ∧ K (.s (.pl r)) := by
  obtain ⟨k, a, b, rfl, rfl, hK⟩ := H.out
  obtain rfl := rep0_pl hx
  obtain rfl := rep0_pl hy
  exact ⟨_, fun w => by simp [Builtin.max_, Builtin.max2], hK⟩

theorem hMin_run {φ : Plan} {ts : Array TypeId} {ty : TypeId} {x y : HV} {u v : Value} (hx : repV φ x u) (hy : repV φ y v) {K : HV → Prop} (H : HMin x y K) :
    ∃ r : Value, (∀ w : World, (Builtin.min_ ts ty #[u, v]).run P w = .ok r w) ∧ K (.s (.pl r)) := by
  obtain ⟨k, a, b, rfl, rfl, hK⟩ := H.out
  obtain rfl := rep0_pl hx
  obtain rfl := rep0_pl hy
  exact ⟨_, fun w => by simp [Builtin.min_, Builtin.min2], hK⟩

theorem hByte_run {φ : Plan} {t : TypeId} (hd : Kd.str.ok P t) {x i : HV} {u v : Value} (hx : repV φ x u) (hi : repV φ i v) {K : HV → Prop} (H : HByte x i K) :
    ∃ r : Value, (∀ w : World, (Instr.index t u v).run P w = .ok r w) ∧ K (.s (.pl r)) := by
  obtain ⟨s, k, j, hj, rfl, rfl, hK⟩ := H.out
  obtain rfl := rep0_pl hx
  obtain rfl := rep0_pl hi
  refine ⟨_, fun w => ?_, hK⟩
  have h1 : s[j]? = some s[j] := getElem?_pos s j hj
  simp [Instr.index, asIntOf, run_underlying hd.1, h1]

theorem hSub_run {φ : Plan} {t : TypeId} (hd : Kd.str.ok P t) {x : HV} {lo hi : Option HV} {u : Value} {vlo vhi : Option Value} (hx : repV φ x u)
    (hlo : (lo = none ∧ vlo = none) ∨ ∃ y v, lo = some y ∧ vlo = some v ∧ repV φ y v) (hhi : (hi = none ∧ vhi = none) ∨ ∃ y v, hi = some y ∧ vhi = some v ∧ repV φ y v) {K : HV → Prop} (H : HSub x lo hi K) :
    ∃ r : Value, (∀ w : World, (Instr.sliceAt t u vlo vhi none).run P w = .ok r w) ∧ K (.s (.pl r)) := by
  obtain ⟨s, l, m, rfl, hl, hm, hlm, hms, hK⟩ := H.out
  obtain rfl := rep0_pl hx
  refine ⟨_, fun w => ?_, hK⟩
  have vl : (vlo = none ∧ l = 0) ∨ ∃ k, vlo = some (.int k (l : Int)) := by
    rcases hlo with ⟨a, b⟩ | ⟨y, v, a, b, c⟩
    · rcases hl with ⟨_, d⟩ | ⟨k, d⟩
      · exact Or.inl ⟨b, d⟩
      · rw [a] at d; cases d
    · rcases hl with ⟨d, _⟩ | ⟨k, d⟩
      · rw [a] at d; cases d
      · rw [a] at d
        cases d
        obtain rfl := rep0_pl c
        exact Or.inr ⟨k, b⟩
  have vm : (vhi = none ∧ m = s.size) ∨ ∃ k, vhi = some (.int k (m : Int)) := by
    rcases hhi with ⟨a, b⟩ | ⟨y, v, a, b, c⟩
    · rcases hm with ⟨_, d⟩ | ⟨k, d⟩
      · exact Or.inl ⟨b, d⟩
      · rw [a] at d; cases d
    · rcases hm with ⟨d, _⟩ | ⟨k, d⟩
      · rw [a] at d; cases d
      · rw [a] at d
        cases d
        obtain rfl := rep0_pl c
        exact Or.inr ⟨k, b⟩
  have c1 : (m : Int) ≤ (s.size : Int) := by omega
  have c2 : (l : Int) ≤ (m : Int) := by omega
  have c3 : (0 : Int) ≤ (m : Int) := by omega
  have c4 : (0 : Int) ≤ (l : Int) := by omega
  rcases vl with ⟨rfl, rfl⟩ | ⟨k, rfl⟩ <;> rcases vm with ⟨rfl, rfl⟩ | ⟨k2, rfl⟩ <;> simp [Instr.sliceAt, Instr.slice, Instr.sliceBounds, Instr.sliceBound, asIntOf, run_underlying hd.1, c1, c2, c3, c4, hlm, hms]

theorem hConv_run {φ : Plan} {s t : TypeId} {k k' : IntKind} (hs : (Kd.int k').ok P s) (ht : (Kd.int k).ok P t) {x : HV} {u : Value} (hx : repV φ x u) {K : HV → Prop} (H : HConv k x K) :
    ∃ r : Value, (∀ w : World, (convert s t u).run P w = .ok r w) ∧ K (.s (.pl r)) := by
  obtain ⟨k2, n, rfl, hK⟩ := H.out
  obtain rfl := rep0_pl hx
  exact ⟨_, fun w => by simp [convert, run_underlying hs.1, run_underlying ht.1, Conv.intToInt], hK⟩

theorem hField_run {φ : Plan} {t : TypeId} {zs : List Value} (hd : (Kd.rcd zs).ok P t) {x : HV} {u : Value} (hx : repV φ x u) {f : Nat} {K : HV → Prop} (H : HField zs.length x f K) :
    ∃ (r : Value) (y : HV), (∀ w : World, (Instr.fieldAt t u f).run P w = .ok r w) ∧ repV φ y r ∧ K y := by
  obtain ⟨r, o, rfl, hf, hK⟩ := H.out
  obtain ⟨p, hp, rfl⟩ := hx
  obtain ⟨fs, i, h1, h2, h3, h4, h5, h6, h7⟩ := hd
  have hfl : f < fs.size := by omega
  obtain ⟨e1, ⟨j, e2, e3⟩, _⟩ := h6 f fs[f] (Array.getElem?_eq_getElem hfl)
  refine ⟨.pointer (some ⟨p.b, p.o + (o + f), none⟩), .s (.ptr r (o + f)), fun w => ?_, ⟨p, hp, rfl⟩, hK⟩
  simp [Instr.fieldAt, run_underlying h1, hfl, Instr.sureAddr, fieldPlace, sizeOf, typeInfo, e2, e3, e1, rec_add, Nat.add_assoc]

theorem hIdx_run {φ : Plan} {h : Heap} {d : Kd} {t : TypeId} (hd : d.ok P t) (hs : d.isSl = true) {x i : HV} {u v : Value} (hx : repV φ x u) (hi : repV φ i v) {K : HV → Prop} (H : HIdx h x i K) :
    ∃ (r : Value) (y : HV), (∀ w : World, (Instr.indexAt t u v).run P w = .ok r w) ∧ repV φ y r ∧ K y := by
  obtain ⟨r, off, len, k, j, rfl, rfl, h0, h1, hK⟩ := H.out
  obtain ⟨p, a, cap, hp, rfl, hl, hm, _, ha⟩ := hx
  obtain rfl := rep0_pl hi
  obtain ⟨e, ti, hu, hie, hsz⟩ := Kd.sl_under hd hs
  obtain rfl := ha (by omega)
  refine ⟨.pointer (some ⟨p.b, p.o + (off + j.toNat), none⟩), .s (.ptr r (off + j.toNat)), fun w => ?_, ⟨p, hp, rfl⟩, hK⟩
  have hadd : (⟨p.b, p.o + off, none⟩ : Addr).add j.toNat = ⟨p.b, p.o + (off + j.toNat), none⟩ := by
    unfold Addr.add
    split
    · simp_all
    · simp [Nat.add_assoc]
  simp [Instr.indexAt, asIntOf, run_underlying hu, h0, h1, sizeOf, typeInfo, hie, hsz, hadd]

theorem Rep.cell {B0 : Nat} {φ : Plan} {h : Heap} (R : Rep B0 φ h w) {r o : Nat} {x : Row} {cs : List H0} {c : H0} {p : Place} (hr : h[r]? = some x) (hc : x.cells? = some cs) (ho : cs[o]? = some c) (hp : φ[r]? = some p) :
    ∃ v, w.cell? ⟨p.b, p.o + o, none⟩ = some v ∧ rep0 φ c v := by
  cases x with
  | ro ys => cases hc; exact (R.ro r _ p hr hp).2 o c ho
  | own ys =>
    cases hc
    obtain ⟨h1, _, _, cur, e, h4, _, h5⟩ := R.own r _ p hr hp
    obtain ⟨v, e1, e2⟩ := h5 o c ho
    exact ⟨v, by rw [h1, Nat.zero_add, cell_of_row w p.b o cur e (0, 0) h4]; exact e1, e2⟩
  | gone => cases hc
  | keys so ks => cases hc

theorem hLoad_run {B0 : Nat} {φ : Plan} {h : Heap} (R : Rep B0 φ h w) {t : TypeId} (h1 : One P t) {x : HV} {u : Value} (hx : repV φ x u) {K : HV → Prop} (H : HLoad h x K) :
    ∃ (r : Value) (y : HV), (∀ w' : World, Lat dm w.heap.size w w' → (Instr.loadAt t u).run P w' = .ok r w') ∧ repV φ y r ∧ K y := by
  obtain ⟨r, o, y, cs, c, rfl, hr, hc, ho, hK⟩ := H.out
  obtain ⟨p, hp, rfl⟩ := hx
  obtain ⟨v, e1, e2⟩ := R.cell hr hc ho hp
  obtain ⟨_, d, hu, hd⟩ := h1
  refine ⟨v, .s c, fun w' hb => ?_, e2, hK⟩
  have e1' : w'.cell? ⟨p.b, p.o + o, none⟩ = some v := by rw [hb.cell (World.block_lt_of_cell? w _ e1)]; exact e1
  have hagg : (isAgg t).run P w' = .ok false w' := by
    unfold isAgg
    simp only [Sem.run_bind, run_underlying hu, Result.andThen_ok]
    cases d <;> simp [flat] at hd <;> rfl
  simp [Instr.loadAt, Instr.sureAddr, loadVar, hagg, e1']

theorem addr_add (b o l : Nat) : (⟨b, o, none⟩ : Addr).add l = ⟨b, o + l, none⟩ := by
  unfold Addr.add
  split
  · simp_all
  · rfl

theorem hSlice_run {B0 : Nat} {φ : Plan} {h : Heap} (R : Rep B0 φ h w) {d : Kd} {t : TypeId} (hd : d.ok P t) (hs : d.isSl = true) {x : HV} {lo hi : Option HV} {u : Value} {vlo vhi : Option Value} (hx : repV φ x u)
    (hlo : (lo = none ∧ vlo = none) ∨ ∃ y v, lo = some y ∧ vlo = some v ∧ repV φ y v) (hhi : (hi = none ∧ vhi = none) ∨ ∃ y v, hi = some y ∧ vhi = some v ∧ repV φ y v) {K : HV → Prop} (H : HSlice h x lo hi K) :
    ∃ (r : Value) (y : HV), (∀ w : World, (Instr.sliceAt t u vlo vhi none).run P w = .ok r w) ∧ repV φ y r ∧ K y := by
  obtain ⟨n, l, m, hn, hl, hm, hlm, hmn', hK⟩ := H.out
  obtain ⟨a, c, rfl⟩ := lenOf_rep hx hn
  obtain ⟨e, ti, hu, hie, hsz⟩ := Kd.sl_under hd hs
  have hle : m ≤ c ∨ m = 0 := by
    unfold lenOf at hn
    split at hn
    · cases hn
      obtain ⟨p, a', cap, hp, hv, h1, _, h3, _⟩ := hx
      cases hv
      rcases hmn' with h | ⟨r, off, len, cs, hxe, hr, hcs⟩
      · exact Or.inl (Nat.le_trans h h1)
      · cases hxe
        obtain ⟨_, _, q3, _⟩ := R.own _ cs p hr hp
        exact Or.inl (by omega)
    · cases hn
      rcases hmn' with h | ⟨r, off, len, cs, hxe, _⟩
      · exact Or.inr (by omega)
      · cases hxe
    · cases hn
  have hb : ∀ w : World, (Instr.sliceBounds true n c vlo vhi none).run P w = .ok (l, m, c) w := by
    intro w
    rcases hhi with ⟨rfl, rfl⟩ | ⟨y, v, rfl, rfl, hv⟩
    · have em : m = n := by rcases hm with ⟨_, h⟩ | ⟨k, h⟩; exact h; cases h
      subst em
      rcases hlo with ⟨rfl, rfl⟩ | ⟨y, v, rfl, rfl, hv⟩
      · have el : l = 0 := by rcases hl with ⟨_, h⟩ | ⟨k, h⟩; exact h; cases h
        subst el
        simp [Instr.sliceBounds]
      · rcases hl with ⟨h, _⟩ | ⟨k, h⟩
        · cases h
        · cases h
          obtain rfl := rep0_pl hv
          simp [Instr.sliceBounds, run_sliceBound (P := P) w k (l : Int) m _ (by omega) (by omega)]
    · rcases hm with ⟨h, _⟩ | ⟨k, h⟩
      · cases h
      cases h
      obtain rfl := rep0_pl hv
      have hmc : (m : Int) ≤ c := by rcases hle with h | h <;> omega
      rcases hlo with ⟨rfl, rfl⟩ | ⟨y, v, rfl, rfl, hv⟩
      · have el : l = 0 := by rcases hl with ⟨_, h⟩ | ⟨k, h⟩; exact h; cases h
        subst el
        simp [Instr.sliceBounds, run_sliceBound (P := P) w k (m : Int) c _ (by omega) hmc]
      · rcases hl with ⟨h, _⟩ | ⟨k', h⟩
        · cases h
        · cases h
          obtain rfl := rep0_pl hv
          simp [Instr.sliceBounds, run_sliceBound (P := P) w k (m : Int) c _ (by omega) hmc, run_sliceBound (P := P) w k' (l : Int) m _ (by omega) (by omega)]
  have hrun : ∀ w : World, (Instr.sliceAt t (.slice a n c) vlo vhi none).run P w = .ok (.slice (if c = l then a else a.map (·.add l)) (m - l) (c - l)) w := by
    intro w
    simp [Instr.sliceAt, run_underlying hu, Instr.slice, hb, sizeOf, typeInfo, hie, hsz]
  split at hK
  · rename_i r off len'
    simp only [lenOf, Option.some.injEq] at hn
    subst hn
    obtain ⟨p, a', cap, hp, hv, h1, h2, h3, h4⟩ := hx
    cases hv
    have hmc : m ≤ c := by
      rcases hle with h | h
      · exact h
      · rw [h]; exact Nat.zero_le _
    clear hmn' hle
    refine ⟨_, .s (.sl r (off + l) (m - l)), hrun, ⟨p, if c = l then a' else a'.add l, c - l, hp, ?_, by omega, by omega, by omega, fun h0 => ?_⟩, hK⟩
    · split <;> simp_all
    · rw [if_neg (by omega)]
      obtain rfl := h4 (by omega)
      rw [addr_add, Nat.add_assoc]
  · rename_i a' c'
    simp only [lenOf, Option.some.injEq] at hn
    subst hn
    have hv := rep0_pl hx
    cases hv
    have em : m = 0 := by
      rcases hmn' with h | ⟨r, off, len, cs, hxe, _⟩
      · omega
      · cases hxe
    have el : l = 0 := by omega
    subst el
    subst em
    refine ⟨_, .s (.pl (.slice a 0 c)), hrun, ?_, hK⟩
    show Value.slice _ _ _ = _
    have : (a.map fun x => x.add 0) = a := by cases a <;> simp [Addr.add]
    simp [this]
  · exact hK.elim

theorem hSlice3_run {φ : Plan} {d : Kd} {t : TypeId} (hd : d.ok P t) (hs : d.isSl = true) {x lo hi mx : HV} {u vlo vhi vmx : Value} (hx : repV φ x u) (h1 : repV φ lo vlo) (h2 : repV φ hi vhi) (h3 : repV φ mx vmx) {K : HV → Prop} (H : HSlice3 x lo hi mx K) :
    ∃ r : Value, (∀ w : World, (Instr.sliceAt t u (some vlo) (some vhi) (some vmx)).run P w = .ok r w) ∧ K .dead := by
  obtain ⟨n, l, m, k, k1, k2, k3, hn, rfl, rfl, rfl, hlm, hmk, hkn, hK⟩ := H.out
  obtain ⟨a, c, rfl⟩ := lenOf_rep hx hn
  obtain rfl := rep0_pl h1
  obtain rfl := rep0_pl h2
  obtain rfl := rep0_pl h3
  obtain ⟨e, ti, hu, hie, hsz⟩ := Kd.sl_under hd hs
  have hc : k ≤ c ∨ k = 0 := by
    unfold lenOf at hn
    split at hn
    · cases hn
      obtain ⟨p, a', cap, hp, hv, g1, _⟩ := hx
      cases hv
      exact Or.inl (Nat.le_trans hkn g1)
    · cases hn
      exact Or.inr (by omega)
    · cases hn
  have hkc : (k : Int) ≤ c := by rcases hc with h | h <;> omega
  refine ⟨.slice (if k = l then a else a.map (·.add l)) (m - l) (k - l), fun w => ?_, hK⟩
  simp [Instr.sliceAt, run_underlying hu, Instr.slice, Instr.sliceBounds, run_sliceBound (P := P) w k3 (k : Int) c _ (by omega) hkc, run_sliceBound (P := P) w k2 (m : Int) k _ (by omega) (by omega), run_sliceBound (P := P) w k1 (l : Int) m _ (by omega) (by omega), sizeOf, typeInfo, hie, hsz]

end
end Go.Proofs.Ytecfgbjddkpkcaa.Hx
