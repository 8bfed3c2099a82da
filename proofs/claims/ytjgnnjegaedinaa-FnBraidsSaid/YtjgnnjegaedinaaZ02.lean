/-
  The calculus of rows is sound, part 1: operations that leave memory as it is.
  The calculus of rows is sound, part 2: operations that write or make memory.
-/
import Derived.Test.YtjgnnjegaedinaaZ01
import Derived.Laws.CopyOwn
namespace Go.Proofs.Ytjgnnjegaedinaa.Hx
open Go.RowKit
variable {dm : Bool}

structure FrRep (φ : Plan) (n : Nat) (fr : Fr) (a : Act) : Prop where
  size : a.tmps.size = n
  has : ∀ t, t < n → repV φ (fr t) (a.tmps.getD t undef)
  out : ∀ t, n ≤ t → fr t = .dead
  defers : a.defers = []

theorem FrRep.mono {φ ψ : Plan} {n : Nat} {fr : Fr} {a : Act} (F : FrRep φ n fr a) (s : Sub φ ψ) : FrRep ψ n fr a := ⟨F.size, fun t h => (F.has t h).mono s, F.out, F.defers⟩

theorem FrRep.eval {φ : Plan} {n : Nat} {fr : Fr} {a : Act} (F : FrRep φ n fr a) (x : Operand) : repV φ (hEval fr x) (a.eval x) := by
  cases x with
  | tmp t =>
    by_cases h : t < n
    · exact F.has t h
    · show repV φ (fr t) _
      rw [F.out t (Nat.le_of_not_lt h)]
      trivial
  | const v => exact rfl
  | global g => exact rfl
  | func f => exact ⟨#[], rfl, trivial⟩

theorem beq_ne {t d : Nat} (h : ¬ t = d) : Nat.beq t d = false := by
  cases hh : Nat.beq t d with
  | false => rfl
  | true => exact absurd (Nat.eq_of_beq_eq_true hh) h

theorem put_elim {n : Nat} {fr : Fr} {dst : Option Tmp} {v : HV} {K : Fr → Prop} (H : put n fr dst v K) :
    ∃ fr', K fr' ∧ (∀ (φ : Plan) (a : Act) (u : Value), FrRep φ n fr a → repV φ v u → FrRep φ n fr' (a.put dst u)) ∧ ∀ t, dst ≠ some t → fr' t = fr t := by
  cases dst with
  | none => exact ⟨fr, H, fun φ a u F _ => F, fun _ _ => rfl⟩
  | some d =>
    simp only [put] at H
    cases hb : Nat.blt d n with
    | false => rw [hb] at H; exact H.elim
    | true =>
      rw [hb] at H
      have hd : d < n := by simpa using hb
      refine ⟨_, H, fun φ a u F r => ⟨by simp [Act.put, F.size], fun t ht => ?_, fun t ht => ?_, F.defers⟩, fun t ht => ?_⟩
      · by_cases htd : t = d
        · subst htd
          simp only [Nat.beq_refl, cond_true, Act.put]
          have : (a.tmps.setIfInBounds t u).getD t undef = u := by simp [F.size, hd]
          rw [this]
          exact r
        · have hbe : Nat.beq t d = false := beq_ne htd
          simp only [hbe, cond_false, Act.put]
          have : (a.tmps.setIfInBounds d u).getD t undef = a.tmps.getD t undef := by
            simp only [Array.getD_eq_getD_getElem?]
            rw [Array.getElem?_setIfInBounds_ne (Ne.symm htd)]
          rw [this]
          exact F.has t ht
      · have hbe : Nat.beq t d = false := beq_ne (fun e => by subst e; exact absurd hd (Nat.not_lt.2 ht))
        simp only [hbe, cond_false]
        exact F.out t ht
      · have hbe : Nat.beq t d = false := beq_ne (fun (e : t = d) => ht (congrArg some e.symm))
        simp only [hbe, cond_false]

theorem wp_value {P : Program} {o : Oper} {a : Act} {w w' : World} {v : Value} {next : Act → World → Prop} {Q : Exit → Act → World → Prop}
    (hr : (execOp a.eval o).run P w = .ok (.value v) w') (h : next (a.put o.dst v) w') : o.wp P a w next Q := by
  unfold Oper.wp
  rw [hr]
  exact h

theorem wp_skips {P : Program} {o : Oper} {a : Act} {w w' : World} {next : Act → World → Prop} {Q : Exit → Act → World → Prop}
    (hr : (execOp a.eval o).run P w = .ok .skip w') (h : next (a.put o.dst undef) w') : o.wp P a w next Q := by
  unfold Oper.wp
  rw [hr]
  exact h

/-! ### What an operation that leaves memory alone yields, in a world that bears the heap -/

/-- The operation yields a value of the kind, the world unchanged. -/
def Yields (P : Program) (o : Oper) (a : Act) (w : World) (φ : Plan) (x : HV) : Prop := ∃ v, (execOp a.eval o).run P w = .ok (.value v) w ∧ repV φ x v

theorem rep0_pl {φ : Plan} {v u : Value} (h : repV φ (.s (.pl v)) u) : u = v := h

theorem hIf_elim {φ : Plan} {c : HV} {A C : Prop} {v : Value} (H : hIf c A C) (r : repV φ c v) : ∃ b, v = .bool b ∧ (b = true → A) ∧ (b = false → C) := by
  unfold hIf at H
  split at H
  · rename_i b
    exact ⟨b, r, H.out⟩
  · exact H.elim

section
variable {P : Program} {w : World}

theorem run_eqGuard_int (op : BinOp) (t : TypeId) (x y : Operand) (k k' : IntKind) (a b : Int) : (eqGuard op t x y (.int k a) (.int k' b)).run P w = .ok () w := by
  cases op <;> simp [eqGuard]

theorem run_eqGuard_bool (op : BinOp) (t : TypeId) (x y : Operand) (a b : Bool) : (eqGuard op t x y (.bool a) (.bool b)).run P w = .ok () w := by
  cases op <;> simp [eqGuard]

theorem hInt_run {op : BinOp} {t : TypeId} {k : IntKind} {a b : Int} {K : HV → Prop} (H : hInt op k a b K) : ∃ v : Value, (∀ w : World, (binOp op t (.int k a) (.int k b)).run P w = .ok v w) ∧ K (.s (.pl v)) := by
  cases op <;> simp only [hInt] at H
  case add => exact ⟨_, fun w => by simp [binOp, Op.intArith], H.out⟩
  case sub => exact ⟨_, fun w => by simp [binOp, Op.intArith], H.out⟩
  case mul => exact ⟨_, fun w => by simp [binOp, Op.intArith], H.out⟩
  case quo => exact ⟨_, fun w => by simp [binOp, Op.intDiv, H.out.1], H.out.2⟩
  case rem => exact ⟨_, fun w => by simp [binOp, Op.intDiv, H.out.1], H.out.2⟩
  case eql => exact ⟨_, fun w => by simp [binOp, Op.intCmp], H⟩
  case neq => exact ⟨_, fun w => by simp [binOp, Op.intCmp], H⟩
  case lss => exact ⟨_, fun w => by simp [binOp, Op.intCmp], H⟩
  case leq => exact ⟨_, fun w => by simp [binOp, Op.intCmp], H⟩
  case gtr => exact ⟨_, fun w => by simp [binOp, Op.intCmp], H⟩
  case geq => exact ⟨_, fun w => by simp [binOp, Op.intCmp], H⟩
  case shl =>
    obtain ⟨h1, h2⟩ := H.out
    have h3 : ¬ b < 0 := by omega
    exact ⟨_, fun w => by simp [binOp, Op.shift, h3], h2⟩
  case shr =>
    obtain ⟨h1, h2⟩ := H.out
    have h3 : ¬ b < 0 := by omega
    exact ⟨_, fun w => by simp [binOp, Op.shift, h3], h2⟩
  case and => exact ⟨_, fun w => by simp [binOp, Op.intBits], H.out⟩
  case xor => exact ⟨_, fun w => by simp [binOp, Op.intBits], H.out⟩

theorem hBin_run {φ : Plan} {op : BinOp} {t : TypeId} {d : Kd} (hd : d.ok P t) {x y : HV} {u v : Value} (ox oy : Operand) (hx : repV φ x u) (hy : repV φ y v) {K : HV → Prop} (H : hBin op d (isK oy) x y K) :
    ∃ r : Value, (∀ w : World, (do eqGuard op t ox oy u v; binOp op t u v : Sem Value).run P w = .ok r w) ∧ K (.s (.pl r)) := by
  unfold hBin at H
  split at H
  · rename_i k a k' b
    obtain rfl := rep0_pl hx
    obtain rfl := rep0_pl hy
    by_cases hk : k = k'
    · subst hk
      rw [if_pos rfl] at H
      obtain ⟨r, h1, h2⟩ := hInt_run (P := P) (t := t) H
      exact ⟨r, fun w => by simp only [Sem.run_bind, run_eqGuard_int, Result.andThen_ok, h1], h2⟩
    · rw [if_neg hk] at H
      cases op <;> simp only [hShift] at H <;> try exact H.elim
      · obtain ⟨h1, h2⟩ := H.out
        have h3 : ¬ b < 0 := by omega
        exact ⟨_, fun w => by simp [run_eqGuard_int, binOp, Op.shift, h3], h2⟩
      · obtain ⟨h1, h2⟩ := H.out
        have h3 : ¬ b < 0 := by omega
        exact ⟨_, fun w => by simp [run_eqGuard_int, binOp, Op.shift, h3], h2⟩
  · rename_i a b
    obtain rfl := rep0_pl hx
    obtain rfl := rep0_pl hy
    cases op <;> simp only at H <;> try exact H.elim
    · obtain ⟨h1, h2⟩ := H
      have hu : P.underlying t = some .bool := by
        cases d <;> simp [Kd.isBool] at h1
        exact hd.1
      exact ⟨_, fun w => by simp only [Sem.run_bind, run_eqGuard_bool, Result.andThen_ok, run_eql_bool w t a b hu], h2⟩
    · obtain ⟨h1, h2⟩ := H
      have hu : P.underlying t = some .bool := by
        cases d <;> simp [Kd.isBool] at h1
        exact hd.1
      exact ⟨_, fun w => by simp only [Sem.run_bind, run_eqGuard_bool, Result.andThen_ok, run_neq_bool w t a b hu], h2⟩
  · rename_i r off len n c
    obtain ⟨p, a, cap, hp, rfl, _⟩ := hx
    obtain rfl := rep0_pl hy
    cases op <;> simp only at H <;> try exact H.elim
    obtain ⟨h1, h2⟩ := H
    obtain ⟨z, rfl⟩ : ∃ z, d = .sl z := by cases d <;> simp [Kd.isSl] at h1; exact ⟨_, rfl⟩
    obtain ⟨e, i, g1, _⟩ := hd.1
    refine ⟨.bool false, fun w => ?_, h2⟩
    have h3 := Go.Lib.run_eql_slice_nil (P := P) w t e (some a) len cap n c g1
    have h4 : (eqGuard .eql t ox oy (.slice (some a) len cap) (.slice none n c)).run P w = .ok () w := by simp [eqGuard]
    simp only [Sem.run_bind, h4, Result.andThen_ok, h3]
    rfl
  · rename_i len cap n c
    obtain rfl := rep0_pl hx
    obtain rfl := rep0_pl hy
    cases op <;> simp only at H <;> try exact H.elim
    obtain ⟨h1, h2⟩ := H
    obtain ⟨z, rfl⟩ : ∃ z, d = .sl z := by cases d <;> simp [Kd.isSl] at h1; exact ⟨_, rfl⟩
    obtain ⟨e, i, g1, _⟩ := hd.1
    refine ⟨.bool true, fun w => ?_, h2⟩
    have h3 := Go.Lib.run_eql_slice_nil (P := P) w t e none len cap n c g1
    have h4 : (eqGuard .eql t ox oy (.slice none len cap) (.slice none n c)).run P w = .ok () w := by simp [eqGuard]
    simp only [Sem.run_bind, h4, Result.andThen_ok, h3]
    rfl
  · rename_i a b
    obtain rfl := rep0_pl hx
    obtain rfl := rep0_pl hy
    obtain ⟨r, h1, h2⟩ := H.out
    refine ⟨r, fun w => ?_, h2⟩
    have h3 : (eqGuard op t ox oy (.string a) (.string b)).run P w = .ok () w := by cases op <;> simp [eqGuard]
    have h4 : binOp op t (.string a) (.string b) = Op.stringOp op a b := by cases op <;> rfl
    simp only [Sem.run_bind, h3, Result.andThen_ok, h4, h1]
  · rename_i te pe
    obtain rfl := rep0_pl hx
    obtain rfl := rep0_pl hy
    cases op <;> simp only at H <;> try exact H.elim
    obtain ⟨h1, h2⟩ := H
    have hu : P.underlying t = some (.interface (P.methodsAt t)) := by
      cases d <;> simp [Kd.isIfc] at h1
      exact hd.1
    have h4 : ∀ w : World, (eqGuard .neq t ox oy (.iface te pe) .nilIface).run P w = .ok () w := fun w => by simp [eqGuard]
    exact ⟨_, fun w => by simp only [Sem.run_bind, h4, Result.andThen_ok, run_neq_held_nil w t te pe hu], h2⟩
  · obtain rfl := rep0_pl hx
    obtain rfl := rep0_pl hy
    cases op <;> simp only at H <;> try exact H.elim
    obtain ⟨h1, h2⟩ := H
    rw [Bool.and_eq_true] at h1
    have hu : P.underlying t = some (.interface (P.methodsAt t)) := by
      have h0 := h1.1
      cases d <;> simp [Kd.isIfc] at h0
      exact hd.1
    have h4 : ∀ w : World, (eqGuard .neq t ox oy .nilIface .nilIface).run P w = .ok () w := fun w => by
      have h0 := h1.2
      cases oy <;> simp [isK] at h0
      simp [eqGuard]
    exact ⟨_, fun w => by simp only [Sem.run_bind, h4, Result.andThen_ok, run_neq_nil_nil w t hu], h2⟩
  · exact H.elim

theorem hUn_run {φ : Plan} {op : UnOp} {x : HV} {u : Value} (hx : repV φ x u) {K : HV → Prop} (H : hUn op x K) : ∃ r : Value, (∀ w : World, (Op.unary op u).run P w = .ok r w) ∧ K (.s (.pl r)) := by
  unfold hUn at H
  split at H
  · rename_i b
    obtain rfl := rep0_pl hx
    exact ⟨_, fun _ => rfl, H⟩
  · rename_i k n
    obtain rfl := rep0_pl hx
    exact ⟨_, fun w => by simp [Op.unary, Op.intArith], H.out⟩
  · exact H.elim

theorem Kd.sl_under {d : Kd} {t : TypeId} (hd : d.ok P t) (h : d.isSl = true) : ∃ e i, P.underlying t = some (.slice e) ∧ P.info? e = some i ∧ i.size = 1 := by
  cases d <;> simp [Kd.isSl] at h
  obtain ⟨⟨e, i, h1, h2, h3, _⟩, _⟩ := hd
  exact ⟨e, i, h1, h2, h3⟩

theorem lenOf_rep {φ : Plan} {x : HV} {u : Value} {n : Nat} (hx : repV φ x u) (h : lenOf x = some n) : ∃ a c, u = .slice a n c := by
  unfold lenOf at h
  split at h
  · cases h
    obtain ⟨p, a, cap, _, rfl, _⟩ := hx
    exact ⟨_, _, rfl⟩
  · cases h
    obtain rfl := rep0_pl hx
    exact ⟨_, _, rfl⟩
  · cases h

theorem hLen_run {φ : Plan} {d : Kd} {t ty : TypeId} (hd : d.ok P t) (hs : d.isSl = true) {x : HV} {u : Value} (hx : repV φ x u) {K : HV → Prop} (H : HLen x K) :
    ∃ r : Value, (∀ w : World, (Builtin.len_ #[t] ty #[u]).run P w = .ok r w) ∧ K (.s (.pl r)) := by
  obtain ⟨n, hn, hK⟩ := H.out
  obtain ⟨a, c, rfl⟩ := lenOf_rep hx hn
  obtain ⟨e, i, hu, _⟩ := Kd.sl_under hd hs
  exact ⟨_, fun w => by simp [Builtin.len_, run_underlying hu, goInt], hK⟩

theorem rec_add (b o l : Nat) : (⟨b, o, none⟩ : Addr).add l = ⟨b, o + l, none⟩ := by
  unfold Addr.add
  split
  · simp_all
  · rfl

theorem hLenW_run {φ : Plan} {t ty : TypeId} {zs : List Value} (hd : (Kd.slw zs).ok P t) {x : HV} {u : Value} (hx : repV φ x u) {K : HV → Prop} (H : HLenW x K) :
    ∃ r : Value, (∀ w : World, (Builtin.len_ #[t] ty #[u]).run P w = .ok r w) ∧ K (.s (.pl r)) := by
  obtain ⟨k, r, off, n, rfl, hK⟩ := H.out
  obtain ⟨p, a, cap, _, rfl, _⟩ := hx
  obtain ⟨⟨e, i, hu, _⟩, _⟩ := hd
  exact ⟨_, fun w => by simp [Builtin.len_, run_underlying hu, goInt], hK⟩

theorem hIdxW_run {φ : Plan} {t : TypeId} {zs : List Value} (hd : (Kd.slw zs).ok P t) {x i : HV} {u v : Value} (hx : repV φ x u) (hi : repV φ i v) {K : HV → Prop} (H : HIdxW zs.length x i K) :
    ∃ (r : Value) (y : HV), (∀ w : World, (Instr.indexAt t u v).run P w = .ok r w) ∧ repV φ y r ∧ K y := by
  obtain ⟨r, off, len, k, j, rfl, rfl, h0, h1, hK⟩ := H.out
  obtain ⟨p, a, cap, hp, rfl, hl, hm, hpn, ha⟩ := hx
  obtain rfl := rep0_pl hi
  obtain ⟨⟨e, ti, hu, hie, hsz, _⟩, _⟩ := hd
  obtain rfl := ha (by omega)
  refine ⟨.pointer (some ⟨p.b, p.o + (off + zs.length * j.toNat), none⟩), .s (.ptr r (off + zs.length * j.toNat)), fun w => ?_, ⟨p, hp, rfl⟩, hK⟩
  have hadd : (⟨p.b, p.o + off, none⟩ : Addr).add (j.toNat * zs.length) = ⟨p.b, p.o + (off + zs.length * j.toNat), none⟩ := by
    rw [rec_add, Nat.mul_comm, Nat.add_assoc]
  simp [Instr.indexAt, asIntOf, run_underlying hu, h0, h1, sizeOf, typeInfo, hie, hsz, hadd]

theorem hLenS_run {φ : Plan} {t ty : TypeId} (hd : Kd.str.ok P t) {x : HV} {u : Value} (hx : repV φ x u) {K : HV → Prop} (H : HLenS x K) :
    ∃ r : Value, (∀ w : World, (Builtin.len_ #[t] ty #[u]).run P w = .ok r w) ∧ K (.s (.pl r)) := by
  obtain ⟨s, rfl, hK⟩ := H.out
  obtain rfl := rep0_pl hx
  exact ⟨_, fun w => by simp [Builtin.len_, run_underlying hd.1, goInt], hK⟩

theorem hMax_run {φ : Plan} {ts : Array TypeId} {ty : TypeId} {x y : HV} {u v : Value} (hx : repV φ x u) (hy : repV φ y v) {K : HV → Prop} (H : HMax x y K) :
    ∃ r : Value, (∀ w : World, (Builtin.max_ ts ty #[u, v]).run P w = .ok r w) ∧ K (.s (.pl r)) := by
  obtain ⟨k, a, b, rfl, rfl, hK⟩ := H.out
  obtain rfl := rep0_pl hx
  obtain rfl := rep0_pl hy
  exact ⟨_, fun w => by simp [Builtin.max_, Builtin.max2], hK⟩

theorem hMin_run {φ : Plan} {ts : Array TypeId} {ty : TypeId} {x y : HV} {u v : Value} (hx : repV φ x u) (hy : repV φ y v) {K : HV → Prop} (H : HMin x y K) :
    ∃ r : Value, (∀ w : World, (Builtin.min_ ts ty #[u, v]).run P w = .ok r w) ∧ K (.s (.pl r)) := by
  obtain ⟨k, a, b, rfl, rfl, hK⟩ := H.out
  obtain rfl := rep0_pl hx
  obtain rfl := rep0_pl hy
  exact ⟨_, fun w => by simp [Builtin.min_, Builtin.min2], hK⟩

theorem hByte_run {φ : Plan} {t : TypeId} (hd : Kd.str.ok P t) {x i : HV} {u v : Value} (hx : repV φ x u) (hi : repV φ i v) {K : HV → Prop} (H : HByte x i K) :
    ∃ r : Value, (∀ w : World, (Instr.index t u v).run P w = .ok r w) ∧ K (.s (.pl r)) := by
  obtain ⟨s, k, j, hj, rfl, rfl, hK⟩ := H.out
  obtain rfl := rep0_pl hx
  obtain rfl := rep0_pl hi
  refine ⟨_, fun w => ?_, hK⟩
  have h1 : s[j]? = some s[j] := getElem?_pos s j hj
  simp [Instr.index, asIntOf, run_underlying hd.1, h1]

theorem hSub_run {φ : Plan} {t : TypeId} (hd : Kd.str.ok P t) {x : HV} {lo hi : Option HV} {u : Value} {vlo vhi : Option Value} (hx : repV φ x u)
    (hlo : (lo = none ∧ vlo = none) ∨ ∃ y v, lo = some y ∧ vlo = some v ∧ repV φ y v) (hhi : (hi = none ∧ vhi = none) ∨ ∃ y v, hi = some y ∧ vhi = some v ∧ repV φ y v) {K : HV → Prop} (H : HSub x lo hi K) :
    ∃ r : Value, (∀ w : World, (Instr.sliceAt t u vlo vhi none).run P w = .ok r w) ∧ K (.s (.pl r)) := by
  obtain ⟨s, l, m, rfl, hl, hm, hlm, hms, hK⟩ := H.out
  obtain rfl := rep0_pl hx
  refine ⟨_, fun w => ?_, hK⟩
  have vl : (vlo = none ∧ l = 0) ∨ ∃ k, vlo = some (.int k (l : Int)) := by
    rcases hlo with ⟨a, b⟩ | ⟨y, v, a, b, c⟩
    · rcases hl with ⟨_, d⟩ | ⟨k, d⟩
      · exact Or.inl ⟨b, d⟩
      · rw [a] at d; cases d
    · rcases hl with ⟨d, _⟩ | ⟨k, d⟩
      · rw [a] at d; cases d
      · rw [a] at d
        cases d
        obtain rfl := rep0_pl c
        exact Or.inr ⟨k, b⟩
  have vm : (vhi = none ∧ m = s.size) ∨ ∃ k, vhi = some (.int k (m : Int)) := by
    rcases hhi with ⟨a, b⟩ | ⟨y, v, a, b, c⟩
    · rcases hm with ⟨_, d⟩ | ⟨k, d⟩
      · exact Or.inl ⟨b, d⟩
      · rw [a] at d; cases d
    · rcases hm with ⟨d, _⟩ | ⟨k, d⟩
      · rw [a] at d; cases d
      · rw [a] at d
        cases d
        obtain rfl := rep0_pl c
        exact Or.inr ⟨k, b⟩
  have c1 : (m : Int) ≤ (s.size : Int) := by omega
  have c2 : (l : Int) ≤ (m : Int) := by omega
  have c3 : (0 : Int) ≤ (m : Int) := by omega
  have c4 : (0 : Int) ≤ (l : Int) := by omega
  rcases vl with ⟨rfl, rfl⟩ | ⟨k, rfl⟩ <;> rcases vm with ⟨rfl, rfl⟩ | ⟨k2, rfl⟩ <;> simp [Instr.sliceAt, Instr.slice, Instr.sliceBounds, Instr.sliceBound, asIntOf, run_underlying hd.1, c1, c2, c3, c4, hlm, hms]

theorem hConv_run {φ : Plan} {s t : TypeId} {k k' : IntKind} (hs : (Kd.int k').ok P s) (ht : (Kd.int k).ok P t) {x : HV} {u : Value} (hx : repV φ x u) {K : HV → Prop} (H : HConv k x K) :
    ∃ r : Value, (∀ w : World, (convert s t u).run P w = .ok r w) ∧ K (.s (.pl r)) := by
  obtain ⟨k2, n, rfl, hK⟩ := H.out
  obtain rfl := rep0_pl hx
  exact ⟨_, fun w => by simp [convert, run_underlying hs.1, run_underlying ht.1, Conv.intToInt], hK⟩

theorem hField_run {φ : Plan} {t : TypeId} {zs : List Value} (hd : (Kd.rcd zs).ok P t) {x : HV} {u : Value} (hx : repV φ x u) {f : Nat} {K : HV → Prop} (H : HField zs.length x f K) :
    ∃ (r : Value) (y : HV), (∀ w : World, (Instr.fieldAt t u f).run P w = .ok r w) ∧ repV φ y r ∧ K y := by
  obtain ⟨r, o, rfl, hf, hK⟩ := H.out
  obtain ⟨p, hp, rfl⟩ := hx
  obtain ⟨fs, i, h1, h2, h3, h4, h5, h6, h7⟩ := hd
  have hfl : f < fs.size := by omega
  obtain ⟨e1, ⟨j, e2, e3⟩, _⟩ := h6 f fs[f] (Array.getElem?_eq_getElem hfl)
  refine ⟨.pointer (some ⟨p.b, p.o + (o + f), none⟩), .s (.ptr r (o + f)), fun w => ?_, ⟨p, hp, rfl⟩, hK⟩
  simp [Instr.fieldAt, run_underlying h1, hfl, Instr.sureAddr, fieldPlace, sizeOf, typeInfo, e2, e3, e1, rec_add, Nat.add_assoc]

theorem hIdx_run {φ : Plan} {h : Heap} {d : Kd} {t : TypeId} (hd : d.ok P t) (hs : d.isSl = true) {x i : HV} {u v : Value} (hx : repV φ x u) (hi : repV φ i v) {K : HV → Prop} (H : HIdx h x i K) :
    ∃ (r : Value) (y : HV), (∀ w : World, (Instr.indexAt t u v).run P w = .ok r w) ∧ repV φ y r ∧ K y := by
  obtain ⟨r, off, len, k, j, rfl, rfl, h0, h1, hK⟩ := H.out
  obtain ⟨p, a, cap, hp, rfl, hl, hm, _, ha⟩ := hx
  obtain rfl := rep0_pl hi
  obtain ⟨e, ti, hu, hie, hsz⟩ := Kd.sl_under hd hs
  obtain rfl := ha (by omega)
  refine ⟨.pointer (some ⟨p.b, p.o + (off + j.toNat), none⟩), .s (.ptr r (off + j.toNat)), fun w => ?_, ⟨p, hp, rfl⟩, hK⟩
  have hadd : (⟨p.b, p.o + off, none⟩ : Addr).add j.toNat = ⟨p.b, p.o + (off + j.toNat), none⟩ := by
    unfold Addr.add
    split
    · simp_all
    · simp [Nat.add_assoc]
  simp [Instr.indexAt, asIntOf, run_underlying hu, h0, h1, sizeOf, typeInfo, hie, hsz, hadd]

theorem Rep.cell {B0 : Nat} {φ : Plan} {h : Heap} (R : Rep B0 φ h w) {r o : Nat} {x : Row} {cs : List H0} {c : H0} {p : Place} (hr : h[r]? = some x) (hc : x.cells? = some cs) (ho : cs[o]? = some c) (hp : φ[r]? = some p) :
    ∃ v, w.cell? ⟨p.b, p.o + o, none⟩ = some v ∧ rep0 φ c v := by
  cases x with
  | ro ys => cases hc; exact (R.ro r _ p hr hp).2 o c ho
  | own ys =>
    cases hc
    obtain ⟨h1, _, _, cur, e, h4, _, h5⟩ := R.own r _ p hr hp
    obtain ⟨v, e1, e2⟩ := h5 o c ho
    exact ⟨v, by rw [h1, Nat.zero_add, cell_of_row w p.b o cur e (0, 0) h4]; exact e1, e2⟩
  | gone => cases hc
  | keys so ks => cases hc

theorem hLoad_run {B0 : Nat} {φ : Plan} {h : Heap} (R : Rep B0 φ h w) {t : TypeId} (h1 : One P t) {x : HV} {u : Value} (hx : repV φ x u) {K : HV → Prop} (H : HLoad h x K) :
    ∃ (r : Value) (y : HV), (∀ w' : World, Lat dm w.heap.size w w' → (Instr.loadAt t u).run P w' = .ok r w') ∧ repV φ y r ∧ K y := by
  obtain ⟨r, o, y, cs, c, rfl, hr, hc, ho, hK⟩ := H.out
  obtain ⟨p, hp, rfl⟩ := hx
  obtain ⟨v, e1, e2⟩ := R.cell hr hc ho hp
  obtain ⟨_, d, hu, hd⟩ := h1
  refine ⟨v, .s c, fun w' hb => ?_, e2, hK⟩
  have e1' : w'.cell? ⟨p.b, p.o + o, none⟩ = some v := by rw [hb.cell (World.block_lt_of_cell? w _ e1)]; exact e1
  have hagg : (isAgg t).run P w' = .ok false w' := by
    unfold isAgg
    simp only [Sem.run_bind, run_underlying hu, Result.andThen_ok]
    cases d <;> simp [flat] at hd <;> rfl
  simp [Instr.loadAt, Instr.sureAddr, loadVar, hagg, e1']

theorem addr_add (b o l : Nat) : (⟨b, o, none⟩ : Addr).add l = ⟨b, o + l, none⟩ := by
  unfold Addr.add
  split
  · simp_all
  · rfl

theorem hSlice_run {B0 : Nat} {φ : Plan} {h : Heap} (R : Rep B0 φ h w) {d : Kd} {t : TypeId} (hd : d.ok P t) (hs : d.isSl = true) {x : HV} {lo hi : Option HV} {u : Value} {vlo vhi : Option Value} (hx : repV φ x u)
    (hlo : (lo = none ∧ vlo = none) ∨ ∃ y v, lo = some y ∧ vlo = some v ∧ repV φ y v) (hhi : (hi = none ∧ vhi = none) ∨ ∃ y v, hi = some y ∧ vhi = some v ∧ repV φ y v) {K : HV → Prop} (H : HSlice h x lo hi K) :
    ∃ (r : Value) (y : HV), (∀ w : World, (Instr.sliceAt t u vlo vhi none).run P w = .ok r w) ∧ repV φ y r ∧ K y := by
  obtain ⟨n, l, m, hn, hl, hm, hlm, hmn', hK⟩ := H.out
  obtain ⟨a, c, rfl⟩ := lenOf_rep hx hn
  obtain ⟨e, ti, hu, hie, hsz⟩ := Kd.sl_under hd hs
  have hle : m ≤ c ∨ m = 0 := by
    unfold lenOf at hn
    split at hn
    · cases hn
      obtain ⟨p, a', cap, hp, hv, h1, _, h3, _⟩ := hx
      cases hv
      rcases hmn' with h | ⟨r, off, len, cs, hxe, hr, hcs⟩
      · exact Or.inl (Nat.le_trans h h1)
      · cases hxe
        obtain ⟨_, _, q3, _⟩ := R.own _ cs p hr hp
        exact Or.inl (by omega)
    · cases hn
      rcases hmn' with h | ⟨r, off, len, cs, hxe, _⟩
      · exact Or.inr (by omega)
      · cases hxe
    · cases hn
  have hb : ∀ w : World, (Instr.sliceBounds true n c vlo vhi none).run P w = .ok (l, m, c) w := by
    intro w
    rcases hhi with ⟨rfl, rfl⟩ | ⟨y, v, rfl, rfl, hv⟩
    · have em : m = n := by rcases hm with ⟨_, h⟩ | ⟨k, h⟩; exact h; cases h
      subst em
      rcases hlo with ⟨rfl, rfl⟩ | ⟨y, v, rfl, rfl, hv⟩
      · have el : l = 0 := by rcases hl with ⟨_, h⟩ | ⟨k, h⟩; exact h; cases h
        subst el
        simp [Instr.sliceBounds]
      · rcases hl with ⟨h, _⟩ | ⟨k, h⟩
        · cases h
        · cases h
          obtain rfl := rep0_pl hv
          simp [Instr.sliceBounds, run_sliceBound (P := P) w k (l : Int) m _ (by omega) (by omega)]
    · rcases hm with ⟨h, _⟩ | ⟨k, h⟩
      · cases h
      cases h
      obtain rfl := rep0_pl hv
      have hmc : (m : Int) ≤ c := by rcases hle with h | h <;> omega
      rcases hlo with ⟨rfl, rfl⟩ | ⟨y, v, rfl, rfl, hv⟩
      · have el : l = 0 := by rcases hl with ⟨_, h⟩ | ⟨k, h⟩; exact h; cases h
        subst el
        simp [Instr.sliceBounds, run_sliceBound (P := P) w k (m : Int) c _ (by omega) hmc]
      · rcases hl with ⟨h, _⟩ | ⟨k', h⟩
        · cases h
        · cases h
          obtain rfl := rep0_pl hv
          simp [Instr.sliceBounds, run_sliceBound (P := P) w k (m : Int) c _ (by omega) hmc, run_sliceBound (P := P) w k' (l : Int) m _ (by omega) (by omega)]
  have hrun : ∀ w : World, (Instr.sliceAt t (.slice a n c) vlo vhi none).run P w = .ok (.slice (if c = l then a else a.map (·.add l)) (m - l) (c - l)) w := by
    intro w
    simp [Instr.sliceAt, run_underlying hu, Instr.slice, hb, sizeOf, typeInfo, hie, hsz]
  split at hK
  · rename_i r off len'
    simp only [lenOf, Option.some.injEq] at hn
    subst hn
    obtain ⟨p, a', cap, hp, hv, h1, h2, h3, h4⟩ := hx
    cases hv
    have hmc : m ≤ c := by
      rcases hle with h | h
      · exact h
      · rw [h]; exact Nat.zero_le _
    clear hmn' hle
    refine ⟨_, .s (.sl r (off + l) (m - l)), hrun, ⟨p, if c = l then a' else a'.add l, c - l, hp, ?_, by omega, by omega, by omega, fun h0 => ?_⟩, hK⟩
    · split <;> simp_all
    · rw [if_neg (by omega)]
      obtain rfl := h4 (by omega)
      rw [addr_add, Nat.add_assoc]
  · rename_i a' c'
    simp only [lenOf, Option.some.injEq] at hn
    subst hn
    have hv := rep0_pl hx
    cases hv
    have em : m = 0 := by
      rcases hmn' with h | ⟨r, off, len, cs, hxe, _⟩
      · omega
      · cases hxe
    have el : l = 0 := by omega
    subst el
    subst em
    refine ⟨_, .s (.pl (.slice a 0 c)), hrun, ?_, hK⟩
    show Value.slice _ _ _ = _
    have : (a.map fun x => x.add 0) = a := by cases a <;> simp [Addr.add]
    simp [this]
  · exact hK.elim

theorem hSlice3_run {φ : Plan} {d : Kd} {t : TypeId} (hd : d.ok P t) (hs : d.isSl = true) {x lo hi mx : HV} {u vlo vhi vmx : Value} (hx : repV φ x u) (h1 : repV φ lo vlo) (h2 : repV φ hi vhi) (h3 : repV φ mx vmx) {K : HV → Prop} (H : HSlice3 x lo hi mx K) :
    ∃ r : Value, (∀ w : World, (Instr.sliceAt t u (some vlo) (some vhi) (some vmx)).run P w = .ok r w) ∧ K .dead := by
  obtain ⟨n, l, m, k, k1, k2, k3, hn, rfl, rfl, rfl, hlm, hmk, hkn, hK⟩ := H.out
  obtain ⟨a, c, rfl⟩ := lenOf_rep hx hn
  obtain rfl := rep0_pl h1
  obtain rfl := rep0_pl h2
  obtain rfl := rep0_pl h3
  obtain ⟨e, ti, hu, hie, hsz⟩ := Kd.sl_under hd hs
  have hc : k ≤ c ∨ k = 0 := by
    unfold lenOf at hn
    split at hn
    · cases hn
      obtain ⟨p, a', cap, hp, hv, g1, _⟩ := hx
      cases hv
      exact Or.inl (Nat.le_trans hkn g1)
    · cases hn
      exact Or.inr (by omega)
    · cases hn
  have hkc : (k : Int) ≤ c := by rcases hc with h | h <;> omega
  refine ⟨.slice (if k = l then a else a.map (·.add l)) (m - l) (k - l), fun w => ?_, hK⟩
  simp [Instr.sliceAt, run_underlying hu, Instr.slice, Instr.sliceBounds, run_sliceBound (P := P) w k3 (k : Int) c _ (by omega) hkc, run_sliceBound (P := P) w k2 (m : Int) k _ (by omega) (by omega), run_sliceBound (P := P) w k1 (l : Int) m _ (by omega) (by omega), sizeOf, typeInfo, hie, hsz]

end
end Go.Proofs.Ytjgnnjegaedinaa.Hx

namespace Go.Proofs.Ytjgnnjegaedinaa.Hx
open Go.RowKit
variable {dm : Bool}

theorem lat_setRow {B g : Nat} {w0 w : World} (hb : Lat dm B w0 w) (hBg : B ≤ g) (cs : Array Value) : Lat dm B w0 (w.setRow g cs) := ⟨below_setRow hb.toBelow hBg cs, hb.drawn⟩

/-- What an operation leaves: a value, and a world that bears what K says. -/
def Leaves (dm : Bool) (B0 : Nat) (φ : Plan) (w w' : World) (v : Value) (K : HV → Heap → Prop) : Prop :=
  ∃ x h' φ', K x h' ∧ Sub φ φ' ∧ Rep B0 φ' h' w' ∧ repV φ' x v ∧ Lat dm B0 w w'

theorem one_rep {φ : Plan} {c : H0} {u : Value} (h1 : c.one = true) (h : rep0 φ c u) : u.oneCell' = true := by
  cases c with
  | pl v => have h : u = v := h; subst h; exact h1
  | sl r off len => obtain ⟨p, a, cap, _, rfl, _⟩ := h; rfl
  | ptr r off => obtain ⟨p, _, rfl⟩ := h; rfl
  | sw k r off len => obtain ⟨p, a, cap, _, rfl, _⟩ := h; rfl
  | mp r => obtain ⟨p, _, rfl⟩ := h; rfl
  | pa r n => obtain ⟨p, _, rfl, _⟩ := h; rfl

theorem cells_one {u : Value} (h : u.oneCell' = true) : u.cells = #[u] := by
  cases u <;> first | rfl | simp [Value.oneCell'] at h

theorem concrete {φ : Plan} {p : Nat → Value → Prop} : ∀ {cs : List H0} {k0 : Nat}, (∀ (k : Nat) (c : H0), cs[k]? = some c → ∃ v, p (k0 + k) v ∧ rep0 φ c v) →
    ∃ vs : List Value, repL φ cs vs ∧ ∀ (k : Nat) (v : Value), vs[k]? = some v → p (k0 + k) v
  | [], _, _ => ⟨[], trivial, fun k v h => by simp at h⟩
  | c :: cs, k0, h => by
    obtain ⟨v, h1, h2⟩ := h 0 c rfl
    obtain ⟨vs, h3, h4⟩ := concrete (p := p) (cs := cs) (k0 := k0 + 1) (fun k x hx => by
      obtain ⟨u, e1, e2⟩ := h (k + 1) x (by simpa using hx)
      exact ⟨u, by rw [Nat.add_assoc, Nat.add_comm 1 k]; exact e1, e2⟩)
    refine ⟨v :: vs, ⟨h2, h3⟩, fun k u hu => ?_⟩
    cases k with
    | zero => simp at hu; subst hu; exact h1
    | succ k =>
      have := h4 k u (by simpa using hu)
      rw [Nat.add_assoc, Nat.add_comm 1 k] at this
      exact this

theorem repL.one {φ : Plan} : ∀ {cs : List H0} {vs : List Value}, repL φ cs vs → (∀ c ∈ cs, c.one = true) → ∀ u ∈ vs, u.oneCell' = true
  | [], [], _, _, u, hu => by simp at hu
  | c :: cs, v :: vs, h, k, u, hu => by
    rcases List.mem_cons.1 hu with rfl | hu
    · exact one_rep (k c (by simp)) h.1
    · exact repL.one h.2 (fun x hx => k x (by simp [hx])) u hu

theorem repL.take {φ : Plan} : ∀ {cs : List H0} {vs : List Value} (n : Nat), repL φ cs vs → repL φ (cs.take n) (vs.take n)
  | [], [], n, _ => by simp [repL]
  | _ :: _, _ :: _, 0, _ => by simp [repL]
  | _ :: _, _ :: _, n + 1, h => ⟨h.1, repL.take n h.2⟩

section
variable {P : Program} {w : World}

theorem Shows.read {B0 : Nat} {φ : Plan} {h : Heap} (R : Rep B0 φ h w) {x : HV} {new : List H0} (H : Shows h x new) {u : Value} (hx : repV φ x u) :
    (new = [] ∧ ∃ a c, u = .slice a 0 c) ∨ ∃ (a : Addr) (c : Nat) (vs : List Value), 0 < new.length ∧ u = .slice (some a) new.length c ∧ repL φ new vs ∧ ∀ j v, vs[j]? = some v → w.cell? (a.add j) = some v := by
  have main : ∀ (r off len : Nat) (y : Row) (cs : List H0), h[r]? = some y → y.cells? = some cs → off + len ≤ cs.length → repV φ (.s (.sl r off len)) u →
      ((cs.drop off).take len = [] ∧ ∃ a c, u = .slice a 0 c) ∨ ∃ (a : Addr) (c : Nat) (vs : List Value), 0 < ((cs.drop off).take len).length ∧ u = .slice (some a) ((cs.drop off).take len).length c ∧ repL φ ((cs.drop off).take len) vs ∧ ∀ j v, vs[j]? = some v → w.cell? (a.add j) = some v := by
    intro r off len y cs hr hc hl hx
    obtain ⟨p, a, cap, hp, rfl, h1, h2, _, h3⟩ := hx
    have hlen : ((cs.drop off).take len).length = len := by simp; omega
    by_cases h0 : len = 0
    · subst h0
      exact Or.inl ⟨by simp, _, _, rfl⟩
    · right
      obtain rfl := h3 (by omega)
      obtain ⟨vs, e1, e2⟩ := concrete (φ := φ) (p := fun k v => w.cell? ⟨p.b, p.o + (off + k), none⟩ = some v) (cs := (cs.drop off).take len) (k0 := 0) (fun k c hk => by
        have hk2 : k < len := by have := (List.getElem?_eq_some_iff.1 hk).1; omega
        rw [List.getElem?_take_of_lt hk2, List.getElem?_drop] at hk
        obtain ⟨v, e1, e2⟩ := R.cell hr hc hk hp
        exact ⟨v, by simpa using e1, e2⟩)
      refine ⟨_, _, vs, by omega, by rw [hlen], e1, fun j v hj => ?_⟩
      have := e2 j v hj
      rw [addr_add, Nat.add_assoc]
      simpa using this
  cases H with
  | nils a c =>
    have := rep0_pl hx
    exact Or.inl ⟨rfl, _, _, this⟩
  | ro r off len cs hr hl => exact main r off len _ cs hr rfl hl hx
  | own r off len cs hr hl => exact main r off len _ cs hr rfl hl hx

theorem below_still {B0 : Nat} {φ : Plan} {h : Heap} (R : Rep B0 φ h w) (o : Obj) : Lat dm B0 w (w.alloc o) := (Lat.refl B0 w).alloc R.base o

theorem hStore_run {B0 : Nat} {φ : Plan} {h : Heap} (R : Rep B0 φ h w) {t : TypeId} (h1 : One P t) {x y : HV} {u v : Value} (hx : repV φ x u) (hy : repV φ y v) {K : HV → Heap → Prop} (H : HStore h x y K) :
    ∃ w', (Instr.storeAt t u v).run P w = .ok () w' ∧ Leaves dm B0 φ w w' undef K := by
  obtain ⟨r, o, cs, c, rfl, rfl, hone, hr, ho, hK⟩ := H.out
  obtain ⟨p, hp, rfl⟩ := hx
  obtain ⟨q1, q2, q3, cur, e, q4, q5, q6⟩ := R.own r cs p hr hp
  have hv1 := one_rep hone hy
  obtain ⟨⟨i, hi, hsz⟩, _⟩ := h1
  have hcell : w.cell? ⟨p.b, o, none⟩ = some (cur[o]'(by omega)) := by
    rw [cell_of_row w p.b o cur e (0, 0) q4]
    exact Array.getElem?_eq_getElem _
  have hfr := frozen_of_row w p.b o cur e q4
  refine ⟨w.setCell ⟨p.b, o, none⟩ v, ?_, .dead, _, φ, hK, Sub.refl _, ?_, trivial, ?_⟩
  · have hcs : v.cells = #[v] := cells_one hv1
    rw [q1, Nat.zero_add]
    simp [Instr.storeAt, Instr.sureAddr, storeVar, hcs, sizeOf, typeInfo, hi, hsz, storeCells, addr_add, run_store _ _ _ _ _ hv1, hcell, hfr]
  · refine R.rewrite (cur := cur.setIfInBounds o v) (e := e) hr hp (by simp [World.setCell]) (fun k hk => heap_setCell_other w _ k v hk) (heap_setCell_same w p.b o cur e v q4) (by simpa using q5) (by simpa using q3) (fun k d hk => ?_)
    by_cases hko : k = o
    · subst hko
      rw [List.getElem?_set_self ho] at hk
      cases hk
      exact ⟨v, Array.getElem?_setIfInBounds_self_of_lt (by omega), hy⟩
    · rw [List.getElem?_set_ne (Ne.symm hko)] at hk
      obtain ⟨d', e1, e2⟩ := q6 k d hk
      exact ⟨d', by rw [Array.getElem?_setIfInBounds_ne (Ne.symm hko)]; exact e1, e2⟩
  · exact (Lat.refl B0 w).setCell q2 v

theorem new_row {B0 : Nat} {φ : Plan} {h : Heap} (R : Rep B0 φ h w) (cur : Array Value) (e : TypeId) (cs : List H0) (hl : cs.length ≤ cur.size)
    (hc : ∀ (k : Nat) (c : H0), cs[k]? = some c → ∃ v, cur[k]? = some v ∧ rep0 φ c v) {n : Nat} (hn : n ≤ cur.size) (hm : cur.size ≤ maxLen) {K : HV → Heap → Prop} (hK : K (.s (.sl h.length 0 n)) (h ++ [.own cs])) :
    Leaves dm B0 φ w (w.alloc (.cells cur e)) (.slice (some ⟨w.heap.size, 0, none⟩) n cur.size) K := by
  refine ⟨_, _, φ ++ [⟨w.heap.size, 0, cur.size⟩], hK, Sub.push _ _, R.push cur e cs hl hc, ⟨⟨w.heap.size, 0, cur.size⟩, _, _, ?_, rfl, hn, hm, by simp, fun _ => rfl⟩, below_still R _⟩
  rw [← R.len, List.getElem?_append_right (Nat.le_refl _)]
  simp

theorem Kd.sl_all {d : Kd} {t : TypeId} {z : Value} (hd : d.ok P t) (h : d = .sl z) :
    ∃ e i, P.underlying t = some (.slice e) ∧ P.info? e = some i ∧ i.size = 1 ∧ i.zero = some z ∧ i.bytes ≤ 64 ∧ z.cells = #[z] ∧ z.oneCell' = true := by
  subst h
  exact hd.1

theorem size_made (z : Value) (m : Nat) : (madeCells #[z] m).size = m := size_madeCells _ _

theorem get_made (z : Value) (m k : Nat) (h : k < m) : (madeCells #[z] m)[k]? = some z := by
  simp [madeCells, h, Nat.mod_one]

theorem hMake_run {B0 : Nat} {φ : Plan} {h : Heap} (R : Rep B0 φ h w) {t : TypeId} {z : Value} (hd : (Kd.sl z).ok P t) {x y : HV} {u v : Value} (hx : repV φ x u) (hy : repV φ y v) {K : HV → Heap → Prop} (H : HMake z x y h K) :
    ∃ w' r, (Instr.makeSlice t u v).run P w = .ok r w' ∧ Lat dm w.heap.size w w' ∧ Leaves dm B0 φ w w' r K := by
  obtain ⟨kl, kc, n, m, rfl, rfl, hnm, hm, hK⟩ := H.out
  obtain rfl := rep0_pl hx
  obtain rfl := rep0_pl hy
  obtain ⟨e, i, h1, h2, h3, h4, h5, h6, h7⟩ := Kd.sl_all hd rfl
  have hrun := run_make (P := P) w t e i z h1 h2 h4 kl kc n m (by omega) (by omega) (by
    have : (i.bytes : Int) * m ≤ 64 * m := Int.mul_le_mul_of_nonneg_right (by omega) (by omega)
    omega) (by omega)
  rw [h3, h6] at hrun
  simp only [Int.toNat_natCast, Nat.mul_one] at hrun
  have hs := size_made z m
  refine ⟨_, _, hrun, (Lat.refl _ w).alloc (Nat.le_refl _) _, ?_⟩
  have := new_row (dm := dm) R (madeCells #[z] m) e (List.replicate m (.pl z)) (by simp [hs]) (fun k c hk => by
    have hkm : k < m := by have := (List.getElem?_eq_some_iff.1 hk).1; simpa using this
    rw [List.getElem?_replicate_of_lt hkm] at hk
    cases hk
    exact ⟨z, get_made z m k hkm, rfl⟩) (n := n) (by omega) (by rw [hs]; unfold maxLen; omega) hK
  rw [hs] at this
  exact this

theorem fill_seq : ∀ (vs : List Value) (k : Nat) (cells : Array Value), (∀ v ∈ vs, v.oneCell' = true) → k + vs.length ≤ cells.size →
    ∃ out, Instr.fill (fun i => some (i * 1, 1)) cells ((List.range' k vs.length).zip vs) = some out ∧ out.size = cells.size ∧ (∀ j, j < k → out[j]? = cells[j]?) ∧ (∀ j v, vs[j]? = some v → out[k + j]? = some v)
  | [], k, cells, _, _ => ⟨cells, by simp [Instr.fill], rfl, fun _ _ => rfl, fun j v h => by simp at h⟩
  | v :: vs, k, cells, h1, hl => by
    have hv := cells_one (h1 v (by simp))
    obtain ⟨out, e1, e2, e3, e4⟩ := fill_seq vs (k + 1) (cells.setIfInBounds k v) (fun u hu => h1 u (by simp [hu])) (by simp at hl ⊢; omega)
    refine ⟨out, ?_, by simpa using e2, fun j hj => ?_, fun j u hu => ?_⟩
    · simp only [List.length_cons, List.range'_succ, List.zip_cons_cons, Instr.fill, hv]
      simp only [List.length_cons] at hl
      rw [if_neg (by simp; omega)]
      simpa using e1
    · rw [e3 j (by omega), Array.getElem?_setIfInBounds_ne (by omega)]
    · cases j with
      | zero =>
        simp at hu
        subst hu
        simp only [List.length_cons] at hl
        rw [Nat.add_zero, e3 k (by omega)]
        exact Array.getElem?_setIfInBounds_self_of_lt (by omega)
      | succ j =>
        have := e4 j u (by simpa using hu)
        rw [← this]
        congr 1
        omega

theorem partsOf_rep {φ : Plan} {n : Nat} {fr : Fr} {a : Act} (F : FrRep φ n fr a) : ∀ (l : List (Nat × Operand)) (k : Nat) (xs : List H0), partsOf (hEval fr) k l = some xs →
    ∃ vs : List Value, repL φ xs vs ∧ l.map (fun p => (p.1, a.eval p.2)) = (List.range' k vs.length).zip vs
  | [], k, xs, h => by simp [partsOf_nil] at h; subst h; exact ⟨[], trivial, rfl⟩
  | (i, x) :: rest, k, xs, h => by
    rw [partsOf_cons] at h
    by_cases hi : i = k
    · rw [if_pos hi] at h
      subst hi
      split at h
      · rename_i c cs he hp
        cases h
        obtain ⟨vs, e1, e2⟩ := partsOf_rep F rest (i + 1) cs hp
        have r := F.eval x
        rw [he] at r
        refine ⟨a.eval x :: vs, ⟨r, e1⟩, ?_⟩
        simp [List.range'_succ, e2]
      · cases h
    · rw [if_neg hi] at h; cases h

theorem hLit_run {B0 : Nat} {φ : Plan} {h : Heap} (R : Rep B0 φ h w) {n : Nat} {fr : Fr} {a : Act} (F : FrRep φ n fr a) {t : TypeId} {z : Value} (hd : (Kd.sl z).ok P t) {len : Nat} {parts : Array (Nat × Operand)} {K : HV → Heap → Prop}
    (H : HLit z len (partsOf (hEval fr) 0 parts.toList) h K) : ∃ w' r, (Instr.buildSlice t len (parts.map fun (i, x) => (i, a.eval x))).run P w = .ok r w' ∧ Lat dm w.heap.size w w' ∧ Leaves dm B0 φ w w' r K := by
  obtain ⟨xs, hp, hl, hn, h1x, hK⟩ := H.out
  obtain ⟨vs, r1, r2⟩ := partsOf_rep F _ _ _ hp
  have hlen := r1.length
  obtain ⟨e, i, h1, h2, h3, h4, h5, h6, h7⟩ := Kd.sl_all hd rfl
  have hfill := fill_seq vs 0 (madeCells #[z] len) (r1.one h1x) (by rw [size_made]; omega)
  obtain ⟨out, e1, e2, _, e4⟩ := hfill
  rw [size_made] at e2
  have hpl : (parts.map fun (i, x) => (i, a.eval x)).toList = (List.range' 0 vs.length).zip vs := by
    rw [← r2]
    simp
  refine ⟨w.alloc (.cells out e), .slice (some ⟨w.heap.size, 0, none⟩) len len, ?_, (Lat.refl _ w).alloc (Nat.le_refl _) _, ?_⟩
  · by_cases h0 : len = 0
    · subst h0
      have hvs : vs = [] := List.eq_nil_of_length_eq_zero (by omega)
      subst hvs
      have ho : out = #[] := Array.eq_empty_of_size_eq_zero e2
      subst ho
      have hpl' : (parts.map fun (i, x) => (i, a.eval x)).toList = [] := by simpa using hpl
      simp only [Instr.buildSlice, Sem.run_bind, run_underlying h1, Result.andThen_ok, sizeOf, typeInfo, run_program, h2, h3, Sem.run_pure, Nat.zero_mul, hpl']
      have hr : (Array.map (fun _ => (default : Value)) (Array.range 0)) = #[] := Array.eq_empty_of_size_eq_zero (by simp)
      simp [Instr.fill, newRow, hr]
    · simp only [Instr.buildSlice, Sem.run_bind, run_underlying h1, Result.andThen_ok, sizeOf, typeInfo, run_program, h2, h3, Sem.run_pure, Nat.mul_one, hpl]
      have hm : ((Array.range len).map fun x => [z][x % 1]?.getD default) = madeCells #[z] len := by
        unfold madeCells
        refine congrArg (fun f => Array.map f (Array.range len)) (funext fun x => ?_)
        simp [Nat.mod_one]
      have hf : Instr.fill (fun i => some (i * 1, 1)) (madeCells #[z] len) ((List.range' 0 vs.length).zip vs) = some out := e1
      simp only [Nat.mul_one] at hf
      simp [h0, zeroValue, typeInfo, h2, h4, h6, hm, hf, newRow, show ¬ 16777216 < len by omega]
  · have := new_row (dm := dm) R out e xs (by omega) (fun k c hk => by
      obtain ⟨v, g1, g2⟩ := r1.get k c hk
      exact ⟨v, by have := e4 k v g1; simpa using this, g2⟩) (n := len) (by omega) (by rw [e2]; unfold maxLen; omega) hK
    rw [e2] at this
    exact this

/-- One's own row, written in part. -/
theorem set_part {B0 : Nat} {φ : Plan} {h : Heap} (R : Rep B0 φ h w) {r o : Nat} {cs new : List H0} {news : List Value} {p : Place} (hr : h[r]? = some (.own cs)) (hp : φ[r]? = some p)
    {cur : Array Value} {e : TypeId} (q4 : w.heap[p.b]? = some (.cells cur e (0, 0))) (q5 : cur.size = p.n) (q6 : ∀ (k : Nat) (c : H0), cs[k]? = some c → ∃ v, cur[k]? = some v ∧ rep0 φ c v)
    (hn : repL φ new news) (hfit : o + new.length ≤ cs.length) :
    Rep B0 φ (h.set r (.own (cs.take o ++ new ++ cs.drop (o + new.length)))) (w.setRow p.b (cur.toList.take o ++ news ++ cur.toList.drop (o + new.length)).toArray) := by
  obtain ⟨q1, q2, q3, _⟩ := R.own r cs p hr hp
  have hln := hn.length
  have hls : cs.length ≤ cur.size := by omega
  refine R.rewrite (e := e) hr hp (by simp) (fun k hk => setRow_other w p.b k _ hk) (setRow_heap w p.b cur _ e _ q4) (by simp; omega) (by simp; omega) (fun k c hk => ?_)
  simp only [List.getElem?_toArray]
  have t1 : (cs.take o).length = o := by simp; omega
  have t2 : (cur.toList.take o).length = o := by simp; omega
  rw [List.append_assoc] at hk ⊢
  by_cases hk1 : k < o
  · rw [List.getElem?_append_left (by omega), List.getElem?_take_of_lt hk1] at hk ⊢
    simpa using q6 k c hk
  · rw [List.getElem?_append_right (by omega)] at hk ⊢
    rw [t1] at hk
    rw [t2]
    by_cases hk2 : k - o < new.length
    · rw [List.getElem?_append_left hk2] at hk
      rw [List.getElem?_append_left (by omega)]
      exact hn.get _ _ hk
    · rw [List.getElem?_append_right (by omega), List.getElem?_drop] at hk
      rw [List.getElem?_append_right (by omega), List.getElem?_drop]
      have e1 : o + new.length + (k - o - new.length) = k := by omega
      have e2 : o + new.length + (k - o - news.length) = k := by omega
      rw [e1] at hk
      rw [e2]
      simpa using q6 k c hk

theorem repL.replicate {φ : Plan} (z : Value) : ∀ (n : Nat), repL φ (List.replicate n (.pl z)) (List.replicate n z)
  | 0 => trivial
  | n + 1 => ⟨rfl, repL.replicate z n⟩

theorem zero_cells (z : Value) (n : Nat) : (Builtin.zeroCells #[z] n).toList = List.replicate n z := by
  apply List.ext_getElem?
  intro k
  by_cases h : k < n
  · simp [Builtin.zeroCells, h, Nat.mod_one]
  · simp [Builtin.zeroCells, h]

theorem hClear_run {B0 : Nat} {φ : Plan} {h : Heap} (R : Rep B0 φ h w) {t ty : TypeId} {z : Value} (hd : (Kd.sl z).ok P t) {x : HV} {u : Value} (hx : repV φ x u) {K : HV → Heap → Prop} (H : HClear z h x K) :
    ∃ w' r, (Builtin.clear_ #[t] ty #[u]).run P w = .ok r w' ∧ Leaves dm B0 φ w w' r K := by
  obtain ⟨e, i, h1, h2, h3, h4, h5, h6, h7⟩ := Kd.sl_all hd rfl
  have zero : ∀ a c, (Builtin.clear_ #[t] ty #[.slice a 0 c]).run P w = .ok (.tuple #[]) w := by
    intro a c
    cases a <;> simp [Builtin.clear_, run_underlying h1]
  have nothing : ∀ h', K (.tup []) h' → Rep B0 φ h' w → Leaves dm B0 φ w w (.tuple #[]) K := fun h' hK R' => ⟨.tup [], h', φ, hK, Sub.refl _, R', ⟨#[], rfl, trivial⟩, Lat.refl B0 w⟩
  rcases H.out with ⟨n, hn, rfl, hK⟩ | ⟨r, off, len, cs, rfl, hr, hl, hK⟩
  · obtain ⟨a, c, rfl⟩ := lenOf_rep hx hn
    exact ⟨w, _, zero a c, nothing h hK R⟩
  · obtain ⟨p, a, cap, hp, rfl, g1, g2, g3, g4⟩ := hx
    obtain ⟨q1, q2, q3, cur, e', q4, q5, q6⟩ := R.own r cs p hr hp
    by_cases h0 : len = 0
    · subst h0
      refine ⟨w, _, zero _ _, nothing _ hK ?_⟩
      have e0 : cs.take off ++ List.replicate 0 (.pl z) ++ cs.drop (off + 0) = cs := by simp
      rw [e0]
      exact R.rewrite (e := e') hr hp rfl (fun _ _ => rfl) q4 q5 q3 q6
    · obtain rfl := g4 (by omega)
      have hpart := set_part R hr hp q4 q5 q6 (repL.replicate (φ := φ) z len) (o := off) (by simpa using hl)
      simp only [List.length_replicate] at hpart
      have hst := run_storeCells_at P p.b off e' (List.replicate len z) 0 cur w q4 (by simp; omega) (by
        intro v hv
        rw [(List.mem_replicate.1 hv).2]
        exact h7)
      simp only [Nat.add_zero, List.length_replicate] at hst
      refine ⟨_, .tuple #[], ?_, .tup [], _, φ, hK, Sub.refl _, hpart, ⟨#[], rfl, trivial⟩, lat_setRow (Lat.refl B0 w) q2 _⟩
      obtain ⟨k, rfl⟩ : ∃ k, len = k + 1 := ⟨len - 1, by omega⟩
      rw [q1, Nat.zero_add]
      simp [Builtin.clear_, run_underlying h1, zeroValue, typeInfo, h2, h4, h6, zero_cells, hst]

end
end Go.Proofs.Ytjgnnjegaedinaa.Hx
