
/-
  The calculus of rows: what each operation of the model asks and leaves, said over abstract heaps (predicate transformers), and the code's own.
-/
import Derived.Test.YtkkniibnlniflaaHk
import Derived.StillTail
namespace Go.Proofs.Ytkkniibnlniflaa.Hx
open Go.RowKit

/-- What is known of a type. -/
inductive Kd where
  | no
  | bool
  | int (k : IntKind)
  | str
  | sl (z : Value)
  | oth

def flat : TypeDesc → Bool
  | .struct _ => false
  | .array _ _ => false
  | _ => true

def One (P : Program) (t : TypeId) : Prop := (∃ i, P.info? t = some i ∧ i.size = 1) ∧ ∃ d, P.underlying t = some d ∧ flat d = true

def Kd.ok (P : Program) (t : TypeId) : Kd → Prop
  | .no => True
  | .bool => P.underlying t = some .bool ∧ One P t
  | .int k => P.underlying t = some (.int k) ∧ One P t
  | .str => P.underlying t = some .string ∧ One P t
  | .sl z => (∃ e i, P.underlying t = some (.slice e) ∧ P.info? e = some i ∧ i.size = 1 ∧ i.zero = some z ∧ i.bytes ≤ 64 ∧ z.cells = #[z] ∧ z.oneCell' = true) ∧ One P t
  | .oth => One P t

def Kd.one : Kd → Bool
  | .no => false
  | _ => true

theorem Kd.ok_one {P : Program} {t : TypeId} {k : Kd} (h : k.ok P t) (h1 : k.one = true) : One P t := by
  cases k <;> simp [Kd.one] at h1 <;> first | exact h.2 | exact h

abbrev I (n : Int) : HV := .s (.pl (.int .i64 n))
abbrev B (b : Bool) : HV := .s (.pl (.bool b))

def lenOf : HV → Option Nat
  | .s (.sl _ _ n) => some n
  | .s (.pl (.slice _ 0 _)) => some 0
  | _ => none

/-- The cells that a slice shows. -/
inductive Shows (h : Heap) : HV → List H0 → Prop where
  | nils (a : Option Addr) (c : Nat) : Shows h (.s (.pl (.slice a 0 c))) []
  | ro (r off len : Nat) (cs : List H0) (hr : h[r]? = some (.ro cs)) (hl : off + len ≤ cs.length) : Shows h (.s (.sl r off len)) ((cs.drop off).take len)
  | own (r off len : Nat) (cs : List H0) (hr : h[r]? = some (.own cs)) (hl : off + len ≤ cs.length) : Shows h (.s (.sl r off len)) ((cs.drop off).take len)

def atom : HV → Option H0
  | .s x => some x
  | _ => none

def atoms : List HV → Option (List H0)
  | [] => some []
  | x :: xs => match atom x, atoms xs with
    | some a, some as => some (a :: as)
    | _, _ => none

def H0.one : H0 → Bool
  | .pl v => v.oneCell'
  | _ => true

def Row.cells? : Row → Option (List H0)
  | .ro cs => some cs
  | .own cs => some cs
  | .gone => none

structure HIf (b : Bool) (A B : Prop) : Prop where
  out : (b = true → A) ∧ (b = false → B)

/-- A guard: wanted (A) or not (B); a slot that an operation passed over has left is no Bool: not wanted. -/
def hGuard (c : HV) (w : Bool) (A B : Prop) : Prop :=
  match c with
  | .s (.pl (.bool b)) => match w with
    | true => HIf b A B
    | false => HIf b B A
  | .tup [] => B
  | _ => False

def hIf (c : HV) (A B : Prop) : Prop :=
  match c with
  | .s (.pl (.bool b)) => HIf b A B
  | _ => False

structure HArith (k : IntKind) (e : Int) (K : HV → Prop) : Prop where
  out : K (.s (.pl (.int k (k.wrap e))))

structure HQuo (k : IntKind) (a b : Int) (K : HV → Prop) : Prop where
  out : b ≠ 0 ∧ K (.s (.pl (.int k (k.wrap (a.tdiv b)))))

structure HRem (k : IntKind) (a b : Int) (K : HV → Prop) : Prop where
  out : b ≠ 0 ∧ K (.s (.pl (.int k (a.tmod b))))

structure HShl (k : IntKind) (a b : Int) (K : HV → Prop) : Prop where
  out : 0 ≤ b ∧ K (.s (.pl (.int k (k.wrap (a * 2 ^ (min b.toNat k.bits))))))

structure HShr (k : IntKind) (a b : Int) (K : HV → Prop) : Prop where
  out : 0 ≤ b ∧ K (.s (.pl (.int k (a.fdiv (2 ^ (min b.toNat k.bits))))))

structure HAnd (k : IntKind) (a b : Int) (K : HV → Prop) : Prop where
  out : K (.s (.pl (.int k (k.wrap ((BitVec.ofInt k.bits a &&& BitVec.ofInt k.bits b).toNat : Int)))))

def hInt (op : BinOp) (k : IntKind) (a b : Int) (K : HV → Prop) : Prop :=
  match op with
  | .add => HArith k (a + b) K
  | .sub => HArith k (a - b) K
  | .mul => HArith k (a * b) K
  | .quo => HQuo k a b K
  | .rem => HRem k a b K
  | .eql => K (.s (.pl (.bool (a == b))))
  | .neq => K (.s (.pl (.bool (a != b))))
  | .lss => K (.s (.pl (.bool (decide (a < b)))))
  | .leq => K (.s (.pl (.bool (decide (a ≤ b)))))
  | .gtr => K (.s (.pl (.bool (decide (a > b)))))
  | .geq => K (.s (.pl (.bool (decide (a ≥ b)))))
  | .shl => HShl k a b K
  | .shr => HShr k a b K
  | .and => HAnd k a b K
  | _ => False

def Kd.isBool : Kd → Bool
  | .bool => true
  | _ => false

def Kd.isSl : Kd → Bool
  | .sl _ => true
  | _ => false

def Kd.isStr : Kd → Bool
  | .str => true
  | _ => false

def hBin (op : BinOp) (t : Kd) (x y : HV) (K : HV → Prop) : Prop :=
  match x, y with
  | .s (.pl (.int k a)), .s (.pl (.int k' b)) => if k = k' then hInt op k a b K else False
  | .s (.pl (.bool a)), .s (.pl (.bool b)) =>
    match op with
    | .eql => t.isBool = true ∧ K (.s (.pl (.bool (a == b))))
    | .neq => t.isBool = true ∧ K (.s (.pl (.bool (!(a == b)))))
    | _ => False
  | .s (.sl _ _ _), .s (.pl (.slice none _ _)) =>
    match op with
    | .eql => t.isSl = true ∧ K (.s (.pl (.bool false)))
    | _ => False
  | _, _ => False

def hUn (op : UnOp) (x : HV) (K : HV → Prop) : Prop :=
  match op, x with
  | .not, .s (.pl (.bool b)) => K (.s (.pl (.bool (!b))))
  | .neg, .s (.pl (.int k n)) => HArith k (0 - n) K
  | _, _ => False

structure HLen (x : HV) (K : HV → Prop) : Prop where
  out : ∃ n : Nat, lenOf x = some n ∧ K (.s (.pl (.int .i64 n)))

/-- The address of an element of a slice. -/
structure HIdx (h : Heap) (x i : HV) (K : HV → Prop) : Prop where
  out : ∃ (r off len : Nat) (k : IntKind) (j : Int), x = .s (.sl r off len) ∧ i = .s (.pl (.int k j)) ∧ 0 ≤ j ∧ j < len ∧ K (.s (.ptr r (off + j.toNat)))

structure HLoad (h : Heap) (p : HV) (K : HV → Prop) : Prop where
  out : ∃ (r o : Nat) (x : Row) (cs : List H0) (c : H0), p = .s (.ptr r o) ∧ h[r]? = some x ∧ x.cells? = some cs ∧ cs[o]? = some c ∧ K (.s c)

structure HStore (h : Heap) (p v : HV) (K : HV → Heap → Prop) : Prop where
  out : ∃ (r o : Nat) (cs : List H0) (c : H0), p = .s (.ptr r o) ∧ v = .s c ∧ c.one = true ∧ h[r]? = some (.own cs) ∧ o < cs.length ∧ K .dead (h.set r (.own (cs.set o c)))

structure HSlice (h : Heap) (x : HV) (lo hi : Option HV) (K : HV → Prop) : Prop where
  out : ∃ (n l u : Nat), lenOf x = some n ∧ (lo = none ∧ l = 0 ∨ ∃ k, lo = some (.s (.pl (.int k (l : Int))))) ∧ (hi = none ∧ u = n ∨ ∃ k, hi = some (.s (.pl (.int k (u : Int))))) ∧ l ≤ u ∧
    (u ≤ n ∨ ∃ r off len cs, x = .s (.sl r off len) ∧ h[r]? = some (.own cs) ∧ off + u ≤ cs.length) ∧
    match x with
    | .s (.sl r off _) => K (.s (.sl r (off + l) (u - l)))
    | .s (.pl (.slice a 0 c)) => K (.s (.pl (.slice a 0 c)))
    | _ => False

/-- A slice with three indexes, of whose value no use is made. -/
structure HSlice3 (x lo hi mx : HV) (K : HV → Prop) : Prop where
  out : ∃ (n l u m : Nat) (k1 k2 k3 : IntKind), lenOf x = some n ∧ lo = .s (.pl (.int k1 (l : Int))) ∧ hi = .s (.pl (.int k2 (u : Int))) ∧ mx = .s (.pl (.int k3 (m : Int))) ∧ l ≤ u ∧ u ≤ m ∧ m ≤ n ∧ K .dead

structure HClear (z : Value) (h : Heap) (x : HV) (K : HV → Heap → Prop) : Prop where
  out : (∃ n, lenOf x = some n ∧ n = 0 ∧ K (.tup []) h) ∨
    ∃ r off len cs, x = .s (.sl r off len) ∧ h[r]? = some (.own cs) ∧ off + len ≤ cs.length ∧ K (.tup []) (h.set r (.own (cs.take off ++ List.replicate len (.pl z) ++ cs.drop (off + len))))

structure HMake (z : Value) (l c : HV) (h : Heap) (K : HV → Heap → Prop) : Prop where
  out : ∃ (kl kc : IntKind) (n m : Nat), l = .s (.pl (.int kl (n : Int))) ∧ c = .s (.pl (.int kc (m : Int))) ∧ n ≤ m ∧ m ≤ 2 ^ 41 ∧ K (.s (.sl h.length 0 n)) (h ++ [.own (List.replicate m (.pl z))])

structure HApp (h : Heap) (s x : HV) (K : HV → Heap → Prop) : Prop where
  out : ∃ new : List H0, Shows h x new ∧ (∀ c ∈ new, c.one = true) ∧
    match s with
    | .s (.sl r off len) => ∃ cs, off = 0 ∧ h[r]? = some (.own cs) ∧ len ≤ cs.length ∧
      (len + new.length ≤ 2 ^ 41 ∧ K (.s (.sl h.length 0 (len + new.length))) (h.set r .gone ++ [.own (cs.take len ++ new)]) ∨
        len + new.length ≤ cs.length ∧ K (.s (.sl r 0 (len + new.length))) (h.set r (.own (cs.take len ++ new ++ cs.drop (len + new.length)))))
    | .s (.pl (.slice none 0 0)) => new.length ≤ 2 ^ 41 ∧ if new.length = 0 then K (.s (.pl (.slice none 0 0))) h else K (.s (.sl h.length 0 new.length)) (h ++ [.own new])
    | _ => False

/-- A call of function k: whatever world bears the heap, the call comes back, and what it leaves is as R says. -/
structure HCalls (P : Program) (k : FuncId) (args : List HV) (h : Heap) (R : HV → Heap → Prop) : Prop where
  enters : ∀ (as : Array Value) (w : World), (callFunc k as).run P w = .ok (.enter k as) w
  out : ∀ (B0 : Nat) (φ : Plan) (w : World) (vargs : Array Value), Rep B0 φ h w → repVs φ args vargs.toList →
    Calls P k vargs w fun e w' => ∃ v x h' φ', e = .returned v ∧ R x h' ∧ Sub φ φ' ∧ Rep B0 φ' h' w' ∧ repV φ' x v ∧ Lat B0 w w'

theorem HCalls.mono {P : Program} {k : FuncId} {args : List HV} {h : Heap} {R R' : HV → Heap → Prop} (H : HCalls P k args h R) (hr : ∀ x h', R x h' → R' x h') : HCalls P k args h R' :=
  ⟨H.enters, fun B0 φ w vargs r a => (H.out B0 φ w vargs r a).mono fun _ _ ⟨v, x, h', φ', e, q, rest⟩ => ⟨v, x, h', φ', e, hr _ _ q, rest⟩⟩

structure HBox (x : HV) (h : Heap) (K : HV → Heap → Prop) : Prop where
  out : ∃ c, x = .s c ∧ c.one = true ∧ K (.s (.ptr h.length 0)) (h ++ [.own [c]])

/-- The parts of a literal, in their order, from number k on. -/
def partsOf (ev : Operand → HV) : Nat → List (Nat × Operand) → Option (List H0)
  | _, [] => some []
  | k, (i, x) :: rest => if i = k then
      match ev x, partsOf ev (k + 1) rest with
      | .s c, some cs => some (c :: cs)
      | _, _ => none
    else none

structure HLit (z : Value) (n : Nat) (cs : Option (List H0)) (h : Heap) (K : HV → Heap → Prop) : Prop where
  out : ∃ xs, cs = some xs ∧ xs.length = n ∧ n ≤ 4096 ∧ (∀ c ∈ xs, c.one = true) ∧ K (.s (.sl h.length 0 n)) (h ++ [.own xs])

/-- The capacity of a slice that is a plain value. -/
structure HCap (x : HV) (K : HV → Prop) : Prop where
  out : ∃ (a : Option Addr) (n c : Nat), x = .s (.pl (.slice a n c)) ∧ K (.s (.pl (.int .i64 c)))

/-- n zeros, appended to nil. -/
structure HAppZ (z : Value) (h : Heap) (s x : HV) (K : HV → Heap → Prop) : Prop where
  out : ∃ (k : IntKind) (n : Nat), s = .s (.pl (.slice none 0 0)) ∧ x = .s (.pl (.int k (n : Int))) ∧ 0 < n ∧ n ≤ 2 ^ 41 ∧ K (.s (.sl h.length 0 n)) (h ++ [.own (List.replicate n (.pl z))])

def hBuiltin (kd : TypeId → Kd) (b : Builtin) (xs : List HV) (ts : List TypeId) (h : Heap) (K : HV → Heap → Prop) : Prop :=
  match b with
  | .len => match xs with
    | [x] => match ts with
      | [t] => (kd t).isSl = true ∧ HLen x (fun v => K v h)
      | _ => False
    | _ => False
  | .append => match xs with
    | [s, x] => match ts with
      | [t, u] => match kd u with
        | .int _ => match kd t with
          | .sl z => HAppZ z h s x K
          | _ => False
        | _ => t = u ∧ (kd t).isSl = true ∧ HApp h s x K
      | _ => False
    | _ => False
  | .clear => match xs with
    | [x] => match ts with
      | [t] => match kd t with
        | .sl z => HClear z h x K
        | _ => False
      | _ => False
    | _ => False
  | .cap => match xs with
    | [x] => match ts with
      | [t] => (kd t).isSl = true ∧ HCap x (fun v => K v h)
      | _ => False
    | _ => False
  | _ => False

def hCall (P : Program) (kd : TypeId → Kd) (c : Call) (ev : Operand → HV) (h : Heap) (K : HV → Heap → Prop) : Prop :=
  match c.callee with
  | .builtin b => hBuiltin kd b (c.args.toList.map ev) c.argTypes.toList h K
  | .value f =>
    match ev f with
    | .fn k caps => HCalls P k (c.args.toList.map ev ++ caps.map .s) h K
    | _ => False
  | _ => False

def hForce (v : HV) (K : HV → Prop) : Prop :=
  match v with
  | .s x => K (.s x)
  | .tup xs => K (.tup xs)
  | .fn f xs => K (.fn f xs)
  | .dead => K .dead

theorem hForce_elim {v : HV} {K : HV → Prop} (H : hForce v K) : K v := by
  cases v <;> exact H

def hOp (P : Program) (kd : TypeId → Kd) (o : Op) (ev : Operand → HV) (h : Heap) (K : HV → Heap → Prop) : Prop :=
  match o with
  | .move x => hForce (ev x) fun v => K v h
  | .assign x => hForce (ev x) fun v => K v h
  | .pick c a b => hIf (ev c) (K (ev a) h) (K (ev b) h)
  | .binOp op t x y _ => hBin op (kd t) (ev x) (ev y) (fun v => K v h)
  | .unOp op _ x => hUn op (ev x) (fun v => K v h)
  | .indexAddr t x i => (kd t).isSl = true ∧ HIdx h (ev x) (ev i) (fun v => K v h)
  | .load t p => (kd t).one = true ∧ HLoad h (ev p) (fun v => K v h)
  | .store t p v => (kd t).one = true ∧ HStore h (ev p) (ev v) K
  | .slice t x lo hi none => (kd t).isSl = true ∧ HSlice h (ev x) (lo.map ev) (hi.map ev) (fun v => K v h)
  | .slice t x (some lo) (some hi) (some mx) => (kd t).isSl = true ∧ HSlice3 (ev x) (ev lo) (ev hi) (ev mx) (fun v => K v h)
  | .makeSlice t l c => match kd t with
    | .sl z => HMake z (ev l) (ev c) h K
    | _ => False
  | .buildSlice t n parts => match kd t with
    | .sl z => HLit z n (partsOf ev 0 parts.toList) h K
    | _ => False
  | .box t x => (kd t).one = true ∧ HBox (ev x) h K
  | .extract x i => match ev x with
    | .tup xs => match xs[i]? with
      | some c => K (.s c) h
      | none => False
    | _ => False
  | .makeFunc (.func f) first caps => match first.toList, atoms (caps.toList.map ev) with
    | [], some cs => K (.fn f cs) h
    | _, _ => False
  | .call c => hCall P kd c ev h K
  | _ => False

abbrev Fr := Nat → HV

def put (n : Nat) (fr : Fr) (dst : Option Tmp) (v : HV) (K : Fr → Prop) : Prop :=
  match dst with
  | some d => bif Nat.blt d n then K (fun t => bif Nat.beq t d then v else fr t) else False
  | none => K fr

def hEval (fr : Fr) : Operand → HV
  | .tmp t => fr t
  | .const v => .s (.pl v)
  | .global g => .s (.pl (.pointer (some ⟨g, 0, none⟩)))
  | .func f => .fn f []

/-- Is the operation wanted? The Bool that its guard looks at. -/
def guardOf (ops : List Oper) (fr : Fr) (j : Nat) : HV :=
  match ops[j]? with
  | some o => match o.dst with
    | some d => fr d
    | none => .dead
  | none => .dead

def hOps (P : Program) (kd : TypeId → Kd) (n : Nat) (ops : List Oper) : List Oper → (Fr → Heap → Prop) → Fr → Heap → Prop
  | [], Q, fr, h => Q fr h
  | o :: rest, Q, fr, h =>
    match o.guard with
    | none => hOp P kd o.op (hEval fr) h fun v h' => put n fr o.dst v fun fr' => hOps P kd n ops rest Q fr' h'
    | some (j, w) => hGuard (guardOf ops fr j) w (hOp P kd o.op (hEval fr) h fun v h' => put n fr o.dst v fun fr' => hOps P kd n ops rest Q fr' h')
        (put n fr o.dst (.tup []) fun fr' => hOps P kd n ops rest Q fr' h)

/-! ### A region that draws its order: its operations only read; a call hands back a value without an address. -/

structure HCallQ (P : Program) (k : FuncId) (args : List HV) (h : Heap) (K : HV → Prop) : Prop where
  out : ∃ v, HCalls P k args (freeze h) (fun x _ => x = .s (.pl v)) ∧ K (.s (.pl v))

/-- Operations that leave the world alone. -/
def hOpV (kd : TypeId → Kd) (o : Op) (ev : Operand → HV) (h : Heap) (K : HV → Prop) : Prop :=
  match o with
  | .move x => hForce (ev x) K
  | .assign x => hForce (ev x) K
  | .pick c a b => hIf (ev c) (K (ev a)) (K (ev b))
  | .binOp op t x y _ => hBin op (kd t) (ev x) (ev y) K
  | .unOp op _ x => hUn op (ev x) K
  | .indexAddr t x i => (kd t).isSl = true ∧ HIdx h (ev x) (ev i) K
  | .load t p => (kd t).one = true ∧ HLoad h (ev p) K
  | .slice t x lo hi none => (kd t).isSl = true ∧ HSlice h (ev x) (lo.map ev) (hi.map ev) K
  | .extract x i => match ev x with
    | .tup xs => match xs[i]? with
      | some c => K (.s c)
      | none => False
    | _ => False
  | .call c =>
    match c.callee with
    | .builtin .len => hBuiltin kd .len (c.args.toList.map ev) c.argTypes.toList h (fun v _ => K v)
    | _ => False
  | _ => False

def hOpQ (P : Program) (kd : TypeId → Kd) (o : Op) (ev : Operand → HV) (h : Heap) (K : HV → Prop) : Prop :=
  match o with
  | .call c =>
    match c.callee with
    | .value f =>
      match ev f with
      | .fn k caps => HCallQ P k (c.args.toList.map ev ++ caps.map .s) h K
      | _ => False
    | _ => hOpV kd o ev h K
  | _ => hOpV kd o ev h K

/-- The head of a region that draws its order, whose tail is forced. -/
def hOpsV (kd : TypeId → Kd) (n : Nat) (ops : List Oper) : List Oper → (Fr → Prop) → Fr → Heap → Prop
  | [], Q, fr, _ => Q fr
  | o :: rest, Q, fr, h =>
    match o.guard with
    | none => hOpV kd o.op (hEval fr) h fun v => put n fr o.dst v fun fr' => hOpsV kd n ops rest Q fr' h
    | some (j, w) => hGuard (guardOf ops fr j) w (hOpV kd o.op (hEval fr) h fun v => put n fr o.dst v fun fr' => hOpsV kd n ops rest Q fr' h)
        (put n fr o.dst (.tup []) fun fr' => hOpsV kd n ops rest Q fr' h)

def hOpsQ (P : Program) (kd : TypeId → Kd) (n : Nat) (ops : List Oper) : List Oper → (Fr → Prop) → Fr → Heap → Prop
  | [], Q, fr, _ => Q fr
  | o :: rest, Q, fr, h =>
    match o.guard with
    | none => hOpQ P kd o.op (hEval fr) h fun v => put n fr o.dst v fun fr' => hOpsQ P kd n ops rest Q fr' h
    | some (j, w) => hGuard (guardOf ops fr j) w (hOpQ P kd o.op (hEval fr) h fun v => put n fr o.dst v fun fr' => hOpsQ P kd n ops rest Q fr' h)
        (put n fr o.dst (.tup []) fun fr' => hOpsQ P kd n ops rest Q fr' h)

/-! ### A region that draws its order: first what only reads, then the others as they must come. -/

structure HCallF (P : Program) (k : FuncId) (args : List HV) (h : Heap) (K : HV → Heap → Prop) : Prop where
  out : HCalls P k args (freeze h) (fun x h' => ∃ t, h' = freeze h ++ t ∧ (∀ r ∈ t, r.notRo = true) ∧ K x (h ++ t))

def hOpF (P : Program) (kd : TypeId → Kd) (o : Op) (ev : Operand → HV) (h : Heap) (K : HV → Heap → Prop) : Prop :=
  match o with
  | .makeSlice t l c => match kd t with
    | .sl z => HMake z (ev l) (ev c) h K
    | _ => False
  | .buildSlice t n parts => match kd t with
    | .sl z => HLit z n (partsOf ev 0 parts.toList) h K
    | _ => False
  | .call c =>
    match c.callee with
    | .value f =>
      match ev f with
      | .fn k caps => HCallF P k (c.args.toList.map ev ++ caps.map .s) h K
      | _ => False
    | _ => hOpV kd o ev h (fun v => K v h)
  | _ => hOpV kd o ev h (fun v => K v h)

/-- The others, in their order; b: number t has not come up yet. -/
def hSig (P : Program) (kd : TypeId → Kd) (n : Nat) (ops : List Oper) (t : Nat) : List Nat → Bool → (Fr → Heap → Prop) → Fr → Heap → Prop
  | [], _, Q, fr, h => Q fr h
  | i :: is, b, Q, fr, h =>
    match ops[i]? with
    | none => False
    | some o =>
      match o.guard with
      | none => (bif b && !Nat.beq i t then hOpF P kd o.op (hEval fr) h else hOp P kd o.op (hEval fr) h) fun v h' => put n fr o.dst v fun fr' => hSig P kd n ops t is (b && !Nat.beq i t) Q fr' h'
      | some (j, w) => hGuard (guardOf ops fr j) w ((bif b && !Nat.beq i t then hOpF P kd o.op (hEval fr) h else hOp P kd o.op (hEval fr) h) fun v h' => put n fr o.dst v fun fr' => hSig P kd n ops t is (b && !Nat.beq i t) Q fr' h')
          (put n fr o.dst (.tup []) fun fr' => hSig P kd n ops t is (b && !Nat.beq i t) Q fr' h)

/-! ### Code -/

inductive Ex where
  | normal
  | exit (id : Nat)
  | ret

/-- The slots that a piece of code writes. -/
def writes : Code → List Nat
  | .region _ ops _ => ops.toList.filterMap (·.dst)
  | .seq a b => writes a ++ writes b
  | .cond _ a b => writes a ++ writes b
  | .block _ b => writes b
  | .loop b => writes b
  | .scope b => writes b
  | _ => []

def readsOf (xs : List Operand) : List Nat := xs.filterMap fun | .tmp t => some t | _ => none

/-- The slots that a list of operations reads before it has written them, given those that are written already. -/
def needOps (ops : List Oper) : List Oper → List Nat → List Nat × List Nat
  | [], done => ([], done)
  | o :: rest, done =>
    let r := (readsOf o.op.operands.toList ++ (match o.guard with
      | some (j, _) => (((ops[j]?).bind (·.dst)).toList)
      | none => [])).filter fun t => !done.contains t
    let (r', d') := needOps ops rest (match o.dst with
      | some d => d :: done
      | none => done)
    (r ++ r', d')

/-- The same of code: what is read before it is surely written, and what is surely written behind it. -/
def need : Code → List Nat → List Nat × List Nat
  | .region _ ops _, done => needOps ops.toList ops.toList done
  | .seq a b, done =>
    let (r, d) := need a done
    let (r', d') := need b d
    (r ++ r', d')
  | .cond c a b, done =>
    let (r, _) := need a done
    let (r', _) := need b done
    ((readsOf [c]).filter (fun t => !done.contains t) ++ r ++ r', done)
  | .block _ b, done => ((need b done).1, done)
  | .loop b, done => ((need b done).1, done)
  | .scope b, done => ((need b done).1, done)
  | _, done => ([], done)

/-- The slots that a loop hands on from round to round: those that its body writes and also reads before it writes them, and those that the code behind may want (the locals, of number below m). -/
def carried (m : Nat) (b : Code) : List Nat :=
  let w := writes b
  ((need b []).1.filter (fun t => w.contains t) ++ w.filter (fun t => Nat.blt t m)).eraseDups

/-- The frame in a round: what the body does not write is as it was; what is handed on comes out of the list; all else is not known. -/
def place (fr : Fr) (w : List Nat) : List Nat → List HV → Fr
  | [], _ => fun t => bif w.contains t then .dead else fr t
  | l :: ls, [] => fun t => bif Nat.beq t l then .dead else place fr w ls [] t
  | l :: ls, v :: vs => fun t => bif Nat.beq t l then v else place fr w ls vs t

/-- A loop: something holds at its head in each round, and a number goes down. -/
structure HLoop (L W : List Nat) (fr : Fr) (h : Heap) (body : List Nat → Fr → Heap → (List HV → Heap → Prop) → Prop) : Prop where
  out : ∃ (J : List HV → Heap → Prop) (μ : List HV → Heap → Nat), J (L.map fr) h ∧ ∀ vs h, J vs h → body L (place fr W L vs) h fun vs' h' => J vs' h' ∧ μ vs' h' < μ vs h

theorem HLoop.intro {L W : List Nat} {fr : Fr} {h : Heap} {body : List Nat → Fr → Heap → (List HV → Heap → Prop) → Prop} (L' W' : List Nat) (hL : L = L') (hW : W = W') (J : List HV → Heap → Prop) (μ : List HV → Heap → Nat)
    (h0 : J (L'.map fr) h) (hr : ∀ vs h, J vs h → body L' (place fr W' L' vs) h fun vs' h' => J vs' h' ∧ μ vs' h' < μ vs h) : HLoop L W fr h body := by
  subst hL
  subst hW
  exact ⟨J, μ, h0, hr⟩

def hwp (P : Program) (kd : TypeId → Kd) (n m : Nat) : Code → (Ex → Fr → Heap → Prop) → Fr → Heap → Prop
  | .skip, Q, fr, h => Q .normal fr h
  | .region _ ops false, Q, fr, h => hOps P kd n ops.toList ops.toList (Q .normal) fr h
  | .region _ ops true, Q, fr, h => (Region.lexB .any ops = true ∧ hOpsQ P kd n ops.toList ops.toList (fun fr' => Q .normal fr' h) fr h) ∨
      (∃ k, Region.lexTailB .any ops k = true ∧ hOpsV kd n ops.toList (ops.toList.take k) (fun fr' => hOps P kd n ops.toList (ops.toList.drop k) (Q .normal) fr' h) fr h) ∨
      ∃ (t : Nat) (ps ss : List Nat), heldOk ops t ps ss = true ∧ hOpsV kd n ops.toList (ps.filterMap fun i => ops.toList[i]?) (fun fr' => hSig P kd n ops.toList t ss true (Q .normal) fr' h) fr h
  | .seq a b, Q, fr, h => hwp P kd n m a (fun e fr' h' => match e with | .normal => hwp P kd n m b Q fr' h' | e => Q e fr' h') fr h
  | .cond c a b, Q, fr, h => hIf (hEval fr c) (hwp P kd n m a Q fr h) (hwp P kd n m b Q fr h)
  | .block id b, Q, fr, h => hwp P kd n m b (fun e fr' h' => match e with | .exit j => (if j = id then Q .normal fr' h' else Q (.exit j) fr' h') | e => Q e fr' h') fr h
  | .loop b, Q, fr, h => HLoop (carried m b) (writes b) fr h fun L fr2 h2 J => hwp P kd n m b (fun e fr' h' => match e with | .normal => J (L.map fr') h' | e => Q e fr' h') fr2 h2
  | .exit id, Q, fr, h => Q (.exit id) fr h
  | .scope b, Q, fr, h => hwp P kd n m b Q fr h
  | .ret, Q, fr, h => Q .ret fr h
  | _, _, _, _ => False

end Go.Proofs.Ytkkniibnlniflaa.Hx
