/-
  The calculus of rows: what each operation of the model asks and leaves, said over abstract heaps (predicate transformers), and the code's own.
  The calculus of rows is sound, part 1: operations that leave memory as it is.
-/
import Derived.Test.YtdlnjplkkfdejaaZ00
import Derived.StillTail
namespace Go.Proofs.Ytdlnjplkkfdejaa.Hx
open Go.RowKit

/-- What is known of a type. -/
inductive Kd where
  | no
  | bool
  | int (k : IntKind)
  | str
  | sl (z : Value)
  | rcd (zs : List Value)
  | oth

def flat : TypeDesc → Bool
  | .struct _ => false
  | .array _ _ => false
  | _ => true

def One (P : Program) (t : TypeId) : Prop := (∃ i, P.info? t = some i ∧ i.size = 1) ∧ ∃ d, P.underlying t = some d ∧ flat d = true

def Kd.ok (P : Program) (t : TypeId) : Kd → Prop
  | .no => True
  | .bool => P.underlying t = some .bool ∧ One P t
  | .int k => P.underlying t = some (.int k) ∧ One P t
  | .str => P.underlying t = some .string ∧ One P t
  | .sl z => (∃ e i, P.underlying t = some (.slice e) ∧ P.info? e = some i ∧ i.size = 1 ∧ i.zero = some z ∧ i.bytes ≤ 64 ∧ z.cells = #[z] ∧ z.oneCell' = true) ∧ One P t
  | .rcd zs => ∃ fs i, P.underlying t = some (.struct fs) ∧ P.info? t = some i ∧ i.zero = some (.agg zs.toArray) ∧ i.size = zs.length ∧ fs.size = zs.length ∧ (∀ (k : Nat) (f : Field), fs[k]? = some f → f.offset = k ∧ One P f.type) ∧ ∀ z ∈ zs, z.oneCell' = true
  | .oth => One P t

def Kd.one : Kd → Bool
  | .no => false
  | .rcd _ => false
  | _ => true

theorem Kd.ok_one {P : Program} {t : TypeId} {k : Kd} (h : k.ok P t) (h1 : k.one = true) : One P t := by
  cases k <;> first | (simp [Kd.one] at h1; done) | exact h.2 | exact h

abbrev I (n : Int) : HV := .s (.pl (.int .i64 n))
abbrev B (b : Bool) : HV := .s (.pl (.bool b))

def lenOf : HV → Option Nat
  | .s (.sl _ _ n) => some n
  | .s (.pl (.slice _ 0 _)) => some 0
  | _ => none

/-- The cells that a slice shows. -/
inductive Shows (h : Heap) : HV → List H0 → Prop where
  | nils (a : Option Addr) (c : Nat) : Shows h (.s (.pl (.slice a 0 c))) []
  | ro (r off len : Nat) (cs : List H0) (hr : h[r]? = some (.ro cs)) (hl : off + len ≤ cs.length) : Shows h (.s (.sl r off len)) ((cs.drop off).take len)
  | own (r off len : Nat) (cs : List H0) (hr : h[r]? = some (.own cs)) (hl : off + len ≤ cs.length) : Shows h (.s (.sl r off len)) ((cs.drop off).take len)

def atom : HV → Option H0
  | .s x => some x
  | _ => none

def atoms : List HV → Option (List H0)
  | [] => some []
  | x :: xs => match atom x, atoms xs with
    | some a, some as => some (a :: as)
    | _, _ => none

def H0.one : H0 → Bool
  | .pl v => v.oneCell'
  | _ => true

def Row.cells? : Row → Option (List H0)
  | .ro cs => some cs
  | .own cs => some cs
  | .gone => none

structure HIf (b : Bool) (A B : Prop) : Prop where
  out : (b = true → A) ∧ (b = false → B)

/-- A guard: wanted (A) or not (B); a slot that an operation passed over has left is no Bool: not wanted. -/
def hGuard (c : HV) (w : Bool) (A B : Prop) : Prop :=
  match c with
  | .s (.pl (.bool b)) => match w with
    | true => HIf b A B
    | false => HIf b B A
  | .tup [] => B
  | _ => False

def hIf (c : HV) (A B : Prop) : Prop :=
  match c with
  | .s (.pl (.bool b)) => HIf b A B
  | _ => False

structure HArith (k : IntKind) (e : Int) (K : HV → Prop) : Prop where
  out : K (.s (.pl (.int k (k.wrap e))))

structure HQuo (k : IntKind) (a b : Int) (K : HV → Prop) : Prop where
  out : b ≠ 0 ∧ K (.s (.pl (.int k (k.wrap (a.tdiv b)))))

structure HRem (k : IntKind) (a b : Int) (K : HV → Prop) : Prop where
  out : b ≠ 0 ∧ K (.s (.pl (.int k (a.tmod b))))

structure HShl (k : IntKind) (a b : Int) (K : HV → Prop) : Prop where
  out : 0 ≤ b ∧ K (.s (.pl (.int k (k.wrap (a * 2 ^ (min b.toNat k.bits))))))

structure HShr (k : IntKind) (a b : Int) (K : HV → Prop) : Prop where
  out : 0 ≤ b ∧ K (.s (.pl (.int k (a.fdiv (2 ^ (min b.toNat k.bits))))))

structure HXor (k : IntKind) (a b : Int) (K : HV → Prop) : Prop where
  out : K (.s (.pl (.int k (k.wrap ((BitVec.ofInt k.bits a ^^^ BitVec.ofInt k.bits b).toNat : Int)))))

structure HAnd (k : IntKind) (a b : Int) (K : HV → Prop) : Prop where
  out : K (.s (.pl (.int k (k.wrap ((BitVec.ofInt k.bits a &&& BitVec.ofInt k.bits b).toNat : Int)))))

def hInt (op : BinOp) (k : IntKind) (a b : Int) (K : HV → Prop) : Prop :=
  match op with
  | .add => HArith k (a + b) K
  | .sub => HArith k (a - b) K
  | .mul => HArith k (a * b) K
  | .quo => HQuo k a b K
  | .rem => HRem k a b K
  | .eql => K (.s (.pl (.bool (a == b))))
  | .neq => K (.s (.pl (.bool (a != b))))
  | .lss => K (.s (.pl (.bool (decide (a < b)))))
  | .leq => K (.s (.pl (.bool (decide (a ≤ b)))))
  | .gtr => K (.s (.pl (.bool (decide (a > b)))))
  | .geq => K (.s (.pl (.bool (decide (a ≥ b)))))
  | .shl => HShl k a b K
  | .shr => HShr k a b K
  | .and => HAnd k a b K
  | .xor => HXor k a b K
  | _ => False

/-- A shift by a number of another kind. -/
def hShift (op : BinOp) (k : IntKind) (a b : Int) (K : HV → Prop) : Prop :=
  match op with
  | .shl => HShl k a b K
  | .shr => HShr k a b K
  | _ => False

def Kd.isBool : Kd → Bool
  | .bool => true
  | _ => false

def Kd.isSl : Kd → Bool
  | .sl _ => true
  | _ => false

def Kd.isStr : Kd → Bool
  | .str => true
  | _ => false

/-- An operation on two strings that comes back. -/
structure HStr (op : BinOp) (a b : ByteArray) (K : HV → Prop) : Prop where
  out : ∃ r : Value, (∀ (P : Program) (w : World), (Op.stringOp op a b).run P w = .ok r w) ∧ K (.s (.pl r))

def hBin (op : BinOp) (t : Kd) (x y : HV) (K : HV → Prop) : Prop :=
  match x, y with
  | .s (.pl (.int k a)), .s (.pl (.int k' b)) => if k = k' then hInt op k a b K else hShift op k a b K
  | .s (.pl (.bool a)), .s (.pl (.bool b)) =>
    match op with
    | .eql => t.isBool = true ∧ K (.s (.pl (.bool (a == b))))
    | .neq => t.isBool = true ∧ K (.s (.pl (.bool (!(a == b)))))
    | _ => False
  | .s (.sl _ _ _), .s (.pl (.slice none _ _)) =>
    match op with
    | .eql => t.isSl = true ∧ K (.s (.pl (.bool false)))
    | _ => False
  | .s (.pl (.string a)), .s (.pl (.string b)) => HStr op a b K
  | _, _ => False

def hUn (op : UnOp) (x : HV) (K : HV → Prop) : Prop :=
  match op, x with
  | .not, .s (.pl (.bool b)) => K (.s (.pl (.bool (!b))))
  | .neg, .s (.pl (.int k n)) => HArith k (0 - n) K
  | _, _ => False

structure HLenS (x : HV) (K : HV → Prop) : Prop where
  out : ∃ s : ByteArray, x = .s (.pl (.string s)) ∧ K (.s (.pl (.int .i64 s.size)))

/-- The greater, the less of two numbers. -/
structure HMax (x y : HV) (K : HV → Prop) : Prop where
  out : ∃ (k : IntKind) (a b : Int), x = .s (.pl (.int k a)) ∧ y = .s (.pl (.int k b)) ∧ K (.s (.pl (.int k (if b > a then b else a))))

structure HMin (x y : HV) (K : HV → Prop) : Prop where
  out : ∃ (k : IntKind) (a b : Int), x = .s (.pl (.int k a)) ∧ y = .s (.pl (.int k b)) ∧ K (.s (.pl (.int k (if b < a then b else a))))

/-- A byte of a string. -/
structure HByte (x i : HV) (K : HV → Prop) : Prop where
  out : ∃ (s : ByteArray) (k : IntKind) (j : Nat) (hj : j < s.size), x = .s (.pl (.string s)) ∧ i = .s (.pl (.int k (j : Int))) ∧ K (.s (.pl (.int .u8 (s[j].toNat : Int))))

/-- A number of another kind. -/
structure HConv (k : IntKind) (x : HV) (K : HV → Prop) : Prop where
  out : ∃ (k' : IntKind) (n : Int), x = .s (.pl (.int k' n)) ∧ K (.s (.pl (.int k (k.wrap n))))

/-- The bytes that a slice shows, as a string. -/
structure HText (P : Program) (s t : TypeId) (h : Heap) (x : HV) (K : HV → Prop) : Prop where
  out : ∃ (e : TypeId) (bs : List UInt8), P.underlying s = some (.slice e) ∧ P.underlying e = some (.int .u8) ∧ P.underlying t = some .string ∧ Shows h x (bs.map fun b => .pl (.int .u8 (b.toNat : Int))) ∧ K (.s (.pl (.string ⟨bs.toArray⟩)))

/-- A struct of fields of one cell each. -/
structure HRec (ys qs : Option (List H0)) (K : HV → Prop) : Prop where
  out : ∃ xs cs, ys = some xs ∧ qs = some cs ∧ (∀ c ∈ cs, c.one = true) ∧ K (.agg xs)

theorem HRec.of {xs cs : List H0} {K : HV → Prop} (h : ∀ c ∈ cs, c.one = true) (hK : K (.agg xs)) : HRec (some xs) (some cs) K := ⟨xs, cs, rfl, rfl, h, hK⟩

structure HField (n : Nat) (x : HV) (f : Nat) (K : HV → Prop) : Prop where
  out : ∃ r o, x = .s (.ptr r o) ∧ f < n ∧ K (.s (.ptr r (o + f)))

structure HPart (n : Nat) (x : HV) (f : Nat) (K : HV → Prop) : Prop where
  out : ∃ xs c, x = .agg xs ∧ xs[f]? = some c ∧ c.one = true ∧ f < n ∧ K (.s c)

structure HLen (x : HV) (K : HV → Prop) : Prop where
  out : ∃ n : Nat, lenOf x = some n ∧ K (.s (.pl (.int .i64 n)))

/-- The address of an element of a slice. -/
structure HIdx (h : Heap) (x i : HV) (K : HV → Prop) : Prop where
  out : ∃ (r off len : Nat) (k : IntKind) (j : Int), x = .s (.sl r off len) ∧ i = .s (.pl (.int k j)) ∧ 0 ≤ j ∧ j < len ∧ K (.s (.ptr r (off + j.toNat)))

structure HLoad (h : Heap) (p : HV) (K : HV → Prop) : Prop where
  out : ∃ (r o : Nat) (x : Row) (cs : List H0) (c : H0), p = .s (.ptr r o) ∧ h[r]? = some x ∧ x.cells? = some cs ∧ cs[o]? = some c ∧ K (.s c)

structure HStore (h : Heap) (p v : HV) (K : HV → Heap → Prop) : Prop where
  out : ∃ (r o : Nat) (cs : List H0) (c : H0), p = .s (.ptr r o) ∧ v = .s c ∧ c.one = true ∧ h[r]? = some (.own cs) ∧ o < cs.length ∧ K .dead (h.set r (.own (cs.set o c)))

structure HSlice (h : Heap) (x : HV) (lo hi : Option HV) (K : HV → Prop) : Prop where
  out : ∃ (n l u : Nat), lenOf x = some n ∧ (lo = none ∧ l = 0 ∨ ∃ k, lo = some (.s (.pl (.int k (l : Int))))) ∧ (hi = none ∧ u = n ∨ ∃ k, hi = some (.s (.pl (.int k (u : Int))))) ∧ l ≤ u ∧
    (u ≤ n ∨ ∃ r off len cs, x = .s (.sl r off len) ∧ h[r]? = some (.own cs) ∧ off + u ≤ cs.length) ∧
    match x with
    | .s (.sl r off _) => K (.s (.sl r (off + l) (u - l)))
    | .s (.pl (.slice a 0 c)) => K (.s (.pl (.slice a 0 c)))
    | _ => False

/-- A slice with three indexes, of whose value no use is made. -/
structure HSlice3 (x lo hi mx : HV) (K : HV → Prop) : Prop where
  out : ∃ (n l u m : Nat) (k1 k2 k3 : IntKind), lenOf x = some n ∧ lo = .s (.pl (.int k1 (l : Int))) ∧ hi = .s (.pl (.int k2 (u : Int))) ∧ mx = .s (.pl (.int k3 (m : Int))) ∧ l ≤ u ∧ u ≤ m ∧ m ≤ n ∧ K .dead

structure HClear (z : Value) (h : Heap) (x : HV) (K : HV → Heap → Prop) : Prop where
  out : (∃ n, lenOf x = some n ∧ n = 0 ∧ K (.tup []) h) ∨
    ∃ r off len cs, x = .s (.sl r off len) ∧ h[r]? = some (.own cs) ∧ off + len ≤ cs.length ∧ K (.tup []) (h.set r (.own (cs.take off ++ List.replicate len (.pl z) ++ cs.drop (off + len))))

structure HMake (z : Value) (l c : HV) (h : Heap) (K : HV → Heap → Prop) : Prop where
  out : ∃ (kl kc : IntKind) (n m : Nat), l = .s (.pl (.int kl (n : Int))) ∧ c = .s (.pl (.int kc (m : Int))) ∧ n ≤ m ∧ m ≤ 2 ^ 41 ∧ K (.s (.sl h.length 0 n)) (h ++ [.own (List.replicate m (.pl z))])

structure HApp (h : Heap) (s x : HV) (K : HV → Heap → Prop) : Prop where
  out : ∃ new : List H0, Shows h x new ∧ (∀ c ∈ new, c.one = true) ∧
    match s with
    | .s (.sl r off len) => ∃ cs, off = 0 ∧ h[r]? = some (.own cs) ∧ len ≤ cs.length ∧
      (len + new.length ≤ 2 ^ 41 ∧ K (.s (.sl h.length 0 (len + new.length))) (h.set r .gone ++ [.own (cs.take len ++ new)]) ∨
        len + new.length ≤ cs.length ∧ K (.s (.sl r 0 (len + new.length))) (h.set r (.own (cs.take len ++ new ++ cs.drop (len + new.length)))))
    | .s (.pl (.slice none 0 0)) => new.length ≤ 2 ^ 41 ∧ if new.length = 0 then K (.s (.pl (.slice none 0 0))) h else K (.s (.sl h.length 0 new.length)) (h ++ [.own new])
    | _ => False

/-- A call of function k: whatever world bears the heap, the call comes back, and what it leaves is as R says. -/
structure HCalls (P : Program) (k : FuncId) (args : List HV) (h : Heap) (R : HV → Heap → Prop) : Prop where
  enters : ∀ (as : Array Value) (w : World), (callFunc k as).run P w = .ok (.enter k as) w
  out : ∀ (B0 : Nat) (φ : Plan) (w : World) (vargs : Array Value), Rep B0 φ h w → repVs φ args vargs.toList →
    Calls P k vargs w fun e w' => ∃ v x h' φ', e = .returned v ∧ R x h' ∧ Sub φ φ' ∧ Rep B0 φ' h' w' ∧ repV φ' x v ∧ Lat B0 w w'

theorem HCalls.mono {P : Program} {k : FuncId} {args : List HV} {h : Heap} {R R' : HV → Heap → Prop} (H : HCalls P k args h R) (hr : ∀ x h', R x h' → R' x h') : HCalls P k args h R' :=
  ⟨H.enters, fun B0 φ w vargs r a => (H.out B0 φ w vargs r a).mono fun _ _ ⟨v, x, h', φ', e, q, rest⟩ => ⟨v, x, h', φ', e, hr _ _ q, rest⟩⟩

structure HBox (x : HV) (h : Heap) (K : HV → Heap → Prop) : Prop where
  out : ∃ c, x = .s c ∧ c.one = true ∧ K (.s (.ptr h.length 0)) (h ++ [.own [c]])

/-- A new variable that holds a struct. -/
structure HBoxA (xs : List H0) (h : Heap) (K : HV → Heap → Prop) : Prop where
  out : (∀ c ∈ xs, c.one = true) ∧ K (.s (.ptr h.length 0)) (h ++ [.own xs])

/-- The fields of a struct, one after the other put in place. -/
def setParts (ev : Operand → HV) (xs : List H0) : List (Nat × Operand) → Option (List H0)
  | [] => some xs
  | (i, x) :: rest => match ev x with
    | .s c => bif Nat.blt i xs.length then setParts ev (xs.set i c) rest else none
    | _ => none

/-- The parts of a literal, in their order, from number k on. -/
def partsOf (ev : Operand → HV) : Nat → List (Nat × Operand) → Option (List H0)
  | _, [] => some []
  | k, (i, x) :: rest => if i = k then
      match ev x, partsOf ev (k + 1) rest with
      | .s c, some cs => some (c :: cs)
      | _, _ => none
    else none

structure HLit (z : Value) (n : Nat) (cs : Option (List H0)) (h : Heap) (K : HV → Heap → Prop) : Prop where
  out : ∃ xs, cs = some xs ∧ xs.length = n ∧ n ≤ 4096 ∧ (∀ c ∈ xs, c.one = true) ∧ K (.s (.sl h.length 0 n)) (h ++ [.own xs])

/-- The capacity of a slice that is a plain value. -/
structure HCap (x : HV) (K : HV → Prop) : Prop where
  out : ∃ (a : Option Addr) (n c : Nat), x = .s (.pl (.slice a n c)) ∧ K (.s (.pl (.int .i64 c)))

/-- n zeros, appended to nil. -/
structure HAppZ (z : Value) (h : Heap) (s x : HV) (K : HV → Heap → Prop) : Prop where
  out : ∃ (k : IntKind) (n : Nat), s = .s (.pl (.slice none 0 0)) ∧ x = .s (.pl (.int k (n : Int))) ∧ 0 < n ∧ n ≤ 2 ^ 41 ∧ K (.s (.sl h.length 0 n)) (h ++ [.own (List.replicate n (.pl z))])

/-- n zeros, appended to what one has. -/
structure HAppZ2 (z : Value) (h : Heap) (s x : HV) (K : HV → Heap → Prop) : Prop where
  out : ∃ (k : IntKind) (n r len : Nat) (cs : List H0), s = .s (.sl r 0 len) ∧ x = .s (.pl (.int k (n : Int))) ∧ 0 < n ∧ len + n ≤ 2 ^ 41 ∧ h[r]? = some (.own cs) ∧ len ≤ cs.length ∧
    K (.s (.sl h.length 0 (len + n))) (h.set r .gone ++ [.own (cs.take len ++ List.replicate n (.pl z))])

def hBuiltin (kd : TypeId → Kd) (b : Builtin) (xs : List HV) (ts : List TypeId) (h : Heap) (K : HV → Heap → Prop) : Prop :=
  match b with
  | .len => match xs with
    | [x] => match ts with
      | [t] => match kd t with
        | .str => HLenS x (fun v => K v h)
        | d => d.isSl = true ∧ HLen x (fun v => K v h)
      | _ => False
    | _ => False
  | .max => match xs with
    | [x, y] => HMax x y (fun v => K v h)
    | _ => False
  | .min => match xs with
    | [x, y] => HMin x y (fun v => K v h)
    | _ => False
  | .append => match xs with
    | [s, x] => match ts with
      | [t, u] => match kd u with
        | .int _ => match kd t with
          | .sl z => match s with
            | .s (.sl _ _ _) => HAppZ2 z h s x K
            | _ => HAppZ z h s x K
          | _ => False
        | _ => t = u ∧ (kd t).isSl = true ∧ HApp h s x K
      | _ => False
    | _ => False
  | .clear => match xs with
    | [x] => match ts with
      | [t] => match kd t with
        | .sl z => HClear z h x K
        | _ => False
      | _ => False
    | _ => False
  | .cap => match xs with
    | [x] => match ts with
      | [t] => (kd t).isSl = true ∧ HCap x (fun v => K v h)
      | _ => False
    | _ => False
  | _ => False

def hCall (P : Program) (kd : TypeId → Kd) (c : Call) (ev : Operand → HV) (h : Heap) (K : HV → Heap → Prop) : Prop :=
  match c.callee with
  | .builtin b => hBuiltin kd b (c.args.toList.map ev) c.argTypes.toList h K
  | .value f =>
    match ev f with
    | .fn k caps => HCalls P k (c.args.toList.map ev ++ caps.map .s) h K
    | _ => False
  | _ => False

def hForce (v : HV) (K : HV → Prop) : Prop :=
  match v with
  | .s x => K (.s x)
  | .tup xs => K (.tup xs)
  | .fn f xs => K (.fn f xs)
  | .agg xs => K (.agg xs)
  | .dead => K .dead

/-- No nil pointer: the value as it is. -/
def hCheck (v : HV) (K : HV → Prop) : Prop :=
  match v with
  | .s (.ptr r o) => K (.s (.ptr r o))
  | .fn f xs => K (.fn f xs)
  | _ => False

theorem hForce_elim {v : HV} {K : HV → Prop} (H : hForce v K) : K v := by
  cases v <;> exact H

def hOp (P : Program) (kd : TypeId → Kd) (o : Op) (ev : Operand → HV) (h : Heap) (K : HV → Heap → Prop) : Prop :=
  match o with
  | .move x => hForce (ev x) fun v => K v h
  | .assign x => hForce (ev x) fun v => K v h
  | .pick c a b => hIf (ev c) (K (ev a) h) (K (ev b) h)
  | .binOp op t x y _ => hBin op (kd t) (ev x) (ev y) (fun v => K v h)
  | .unOp op _ x => hUn op (ev x) (fun v => K v h)
  | .indexAddr t x i => (kd t).isSl = true ∧ HIdx h (ev x) (ev i) (fun v => K v h)
  | .load t p => (kd t).one = true ∧ HLoad h (ev p) (fun v => K v h)
  | .store t p v => (kd t).one = true ∧ HStore h (ev p) (ev v) K
  | .slice t x lo hi none => (kd t).isSl = true ∧ HSlice h (ev x) (lo.map ev) (hi.map ev) (fun v => K v h)
  | .slice t x (some lo) (some hi) (some mx) => (kd t).isSl = true ∧ HSlice3 (ev x) (ev lo) (ev hi) (ev mx) (fun v => K v h)
  | .makeSlice t l c => match kd t with
    | .sl z => HMake z (ev l) (ev c) h K
    | _ => False
  | .buildSlice t n parts => match kd t with
    | .sl z => HLit z n (partsOf ev 0 parts.toList) h K
    | _ => False
  | .box t x => match ev x with
    | .agg xs => HBoxA xs h K
    | x => (kd t).one = true ∧ HBox x h K
  | .build t parts => match kd t with
    | .rcd zs => HRec (setParts ev (zs.map .pl) parts.toList) (atoms (parts.toList.map fun p => ev p.2)) (fun v => K v h)
    | _ => False
  | .fieldAddr s x f => match kd s with
    | .rcd zs => HField zs.length (ev x) f (fun v => K v h)
    | _ => False
  | .field s x f => match kd s with
    | .rcd zs => HPart zs.length (ev x) f (fun v => K v h)
    | _ => False
  | .nilCheck x => hCheck (ev x) (fun v => K v h)
  | .convert s t x => match kd t with
    | .int k => match kd s with
      | .int _ => HConv k (ev x) (fun v => K v h)
      | _ => False
    | .str => HText P s t h (ev x) (fun v => K v h)
    | _ => False
  | .index t x i => match kd t with
    | .str => HByte (ev x) (ev i) (fun v => K v h)
    | _ => False
  | .extract x i => match ev x with
    | .tup xs => match xs[i]? with
      | some c => K (.s c) h
      | none => False
    | _ => False
  | .makeFunc (.func f) first caps => match first.toList, atoms (caps.toList.map ev) with
    | [], some cs => K (.fn f cs) h
    | _, _ => False
  | .call c => hCall P kd c ev h K
  | _ => False

abbrev Fr := Nat → HV

def put (n : Nat) (fr : Fr) (dst : Option Tmp) (v : HV) (K : Fr → Prop) : Prop :=
  match dst with
  | some d => bif Nat.blt d n then K (fun t => bif Nat.beq t d then v else fr t) else False
  | none => K fr

def hEval (fr : Fr) : Operand → HV
  | .tmp t => fr t
  | .const v => .s (.pl v)
  | .global g => .s (.pl (.pointer (some ⟨g, 0, none⟩)))
  | .func f => .fn f []

/-- Is the operation wanted? The Bool that its guard looks at. -/
def guardOf (ops : List Oper) (fr : Fr) (j : Nat) : HV :=
  match ops[j]? with
  | some o => match o.dst with
    | some d => fr d
    | none => .dead
  | none => .dead

def hOps (P : Program) (kd : TypeId → Kd) (n : Nat) (ops : List Oper) : List Oper → (Fr → Heap → Prop) → Fr → Heap → Prop
  | [], Q, fr, h => Q fr h
  | o :: rest, Q, fr, h =>
    match o.guard with
    | none => hOp P kd o.op (hEval fr) h fun v h' => put n fr o.dst v fun fr' => hOps P kd n ops rest Q fr' h'
    | some (j, w) => hGuard (guardOf ops fr j) w (hOp P kd o.op (hEval fr) h fun v h' => put n fr o.dst v fun fr' => hOps P kd n ops rest Q fr' h')
        (put n fr o.dst (.tup []) fun fr' => hOps P kd n ops rest Q fr' h)

/-! ### A region that draws its order: its operations only read; a call hands back a value without an address. -/

structure HCallQ (P : Program) (k : FuncId) (args : List HV) (h : Heap) (K : HV → Prop) : Prop where
  out : ∃ v, HCalls P k args (freeze h) (fun x _ => x = .s (.pl v)) ∧ K (.s (.pl v))

/-- Operations that leave the world alone. -/
def hOpV (kd : TypeId → Kd) (o : Op) (ev : Operand → HV) (h : Heap) (K : HV → Prop) : Prop :=
  match o with
  | .move x => hForce (ev x) K
  | .assign x => hForce (ev x) K
  | .pick c a b => hIf (ev c) (K (ev a)) (K (ev b))
  | .binOp op t x y _ => hBin op (kd t) (ev x) (ev y) K
  | .unOp op _ x => hUn op (ev x) K
  | .indexAddr t x i => (kd t).isSl = true ∧ HIdx h (ev x) (ev i) K
  | .load t p => (kd t).one = true ∧ HLoad h (ev p) K
  | .slice t x lo hi none => (kd t).isSl = true ∧ HSlice h (ev x) (lo.map ev) (hi.map ev) K
  | .fieldAddr s x f => match kd s with
    | .rcd zs => HField zs.length (ev x) f K
    | _ => False
  | .nilCheck x => hCheck (ev x) K
  | .convert s t x => match kd t with
    | .int k => match kd s with
      | .int _ => HConv k (ev x) K
      | _ => False
    | _ => False
  | .index t x i => match kd t with
    | .str => HByte (ev x) (ev i) K
    | _ => False
  | .extract x i => match ev x with
    | .tup xs => match xs[i]? with
      | some c => K (.s c)
      | none => False
    | _ => False
  | .call c =>
    match c.callee with
    | .builtin .len => hBuiltin kd .len (c.args.toList.map ev) c.argTypes.toList h (fun v _ => K v)
    | _ => False
  | _ => False

def hOpQ (P : Program) (kd : TypeId → Kd) (o : Op) (ev : Operand → HV) (h : Heap) (K : HV → Prop) : Prop :=
  match o with
  | .call c =>
    match c.callee with
    | .value f =>
      match ev f with
      | .fn k caps => HCallQ P k (c.args.toList.map ev ++ caps.map .s) h K
      | _ => False
    | _ => hOpV kd o ev h K
  | _ => hOpV kd o ev h K

/-- The head of a region that draws its order, whose tail is forced. -/
def hOpsV (kd : TypeId → Kd) (n : Nat) (ops : List Oper) : List Oper → (Fr → Prop) → Fr → Heap → Prop
  | [], Q, fr, _ => Q fr
  | o :: rest, Q, fr, h =>
    match o.guard with
    | none => hOpV kd o.op (hEval fr) h fun v => put n fr o.dst v fun fr' => hOpsV kd n ops rest Q fr' h
    | some (j, w) => hGuard (guardOf ops fr j) w (hOpV kd o.op (hEval fr) h fun v => put n fr o.dst v fun fr' => hOpsV kd n ops rest Q fr' h)
        (put n fr o.dst (.tup []) fun fr' => hOpsV kd n ops rest Q fr' h)

def hOpsQ (P : Program) (kd : TypeId → Kd) (n : Nat) (ops : List Oper) : List Oper → (Fr → Prop) → Fr → Heap → Prop
  | [], Q, fr, _ => Q fr
  | o :: rest, Q, fr, h =>
    match o.guard with
    | none => hOpQ P kd o.op (hEval fr) h fun v => put n fr o.dst v fun fr' => hOpsQ P kd n ops rest Q fr' h
    | some (j, w) => hGuard (guardOf ops fr j) w (hOpQ P kd o.op (hEval fr) h fun v => put n fr o.dst v fun fr' => hOpsQ P kd n ops rest Q fr' h)
        (put n fr o.dst (.tup []) fun fr' => hOpsQ P kd n ops rest Q fr' h)

/-! ### A region that draws its order: first what only reads, then the others as they must come. -/

structure HCallF (P : Program) (k : FuncId) (args : List HV) (h : Heap) (K : HV → Heap → Prop) : Prop where
  out : HCalls P k args (freeze h) (fun x h' => ∃ t, h' = freeze h ++ t ∧ (∀ r ∈ t, r.notRo = true) ∧ K x (h ++ t))

def hOpF (P : Program) (kd : TypeId → Kd) (o : Op) (ev : Operand → HV) (h : Heap) (K : HV → Heap → Prop) : Prop :=
  match o with
  | .makeSlice t l c => match kd t with
    | .sl z => HMake z (ev l) (ev c) h K
    | _ => False
  | .buildSlice t n parts => match kd t with
    | .sl z => HLit z n (partsOf ev 0 parts.toList) h K
    | _ => False
  | .call c =>
    match c.callee with
    | .value f =>
      match ev f with
      | .fn k caps => HCallF P k (c.args.toList.map ev ++ caps.map .s) h K
      | _ => False
    | _ => hOpV kd o ev h (fun v => K v h)
  | _ => hOpV kd o ev h (fun v => K v h)

/-- The others, in their order; b: number t has not come up yet. -/
def hSig (P : Program) (kd : TypeId → Kd) (n : Nat) (ops : List Oper) (t : Nat) : List Nat → Bool → (Fr → Heap → Prop) → Fr → Heap → Prop
  | [], _, Q, fr, h => Q fr h
  | i :: is, b, Q, fr, h =>
    match ops[i]? with
    | none => False
    | some o =>
      match o.guard with
      | none => (bif b && !Nat.beq i t then hOpF P kd o.op (hEval fr) h else hOp P kd o.op (hEval fr) h) fun v h' => put n fr o.dst v fun fr' => hSig P kd n ops t is (b && !Nat.beq i t) Q fr' h'
      | some (j, w) => hGuard (guardOf ops fr j) w ((bif b && !Nat.beq i t then hOpF P kd o.op (hEval fr) h else hOp P kd o.op (hEval fr) h) fun v h' => put n fr o.dst v fun fr' => hSig P kd n ops t is (b && !Nat.beq i t) Q fr' h')
          (put n fr o.dst (.tup []) fun fr' => hSig P kd n ops t is (b && !Nat.beq i t) Q fr' h)

/-- All orders of the rest. -/
def hTree (P : Program) (kd : TypeId → Kd) (n : Nat) (ops : List Oper) : Tr → (Fr → Heap → Prop) → Fr → Heap → Prop
  | .done, Q, fr, h => Q fr h
  | .one i t, Q, fr, h =>
    match ops[i]? with
    | none => False
    | some o =>
      match o.guard with
      | none => hOp P kd o.op (hEval fr) h fun v h' => put n fr o.dst v fun fr' => hTree P kd n ops t Q fr' h'
      | some _ => False
  | .two i t j u, Q, fr, h =>
    (match ops[i]? with
    | none => False
    | some o =>
      match o.guard with
      | none => hOp P kd o.op (hEval fr) h fun v h' => put n fr o.dst v fun fr' => hTree P kd n ops t Q fr' h'
      | some _ => False) ∧
    (match ops[j]? with
    | none => False
    | some o =>
      match o.guard with
      | none => hOp P kd o.op (hEval fr) h fun v h' => put n fr o.dst v fun fr' => hTree P kd n ops u Q fr' h'
      | some _ => False)

/-! ### Code -/

inductive Ex where
  | normal
  | exit (id : Nat)
  | ret

/-- The slots that a piece of code writes. -/
def writes : Code → List Nat
  | .region _ ops _ => ops.toList.filterMap (·.dst)
  | .seq a b => writes a ++ writes b
  | .cond _ a b => writes a ++ writes b
  | .block _ b => writes b
  | .loop b => writes b
  | .scope b => writes b
  | _ => []

def readsOf (xs : List Operand) : List Nat := xs.filterMap fun | .tmp t => some t | _ => none

/-- The slots that a list of operations reads before it has written them, given those that are written already. -/
def needOps (ops : List Oper) : List Oper → List Nat → List Nat × List Nat
  | [], done => ([], done)
  | o :: rest, done =>
    let r := (readsOf o.op.operands.toList ++ (match o.guard with
      | some (j, _) => (((ops[j]?).bind (·.dst)).toList)
      | none => [])).filter fun t => !done.contains t
    let (r', d') := needOps ops rest (match o.dst with
      | some d => d :: done
      | none => done)
    (r ++ r', d')

/-- The same of code: what is read before it is surely written, and what is surely written behind it. -/
def need : Code → List Nat → List Nat × List Nat
  | .region _ ops _, done => needOps ops.toList ops.toList done
  | .seq a b, done =>
    let (r, d) := need a done
    let (r', d') := need b d
    (r ++ r', d')
  | .cond c a b, done =>
    let (r, _) := need a done
    let (r', _) := need b done
    ((readsOf [c]).filter (fun t => !done.contains t) ++ r ++ r', done)
  | .block _ b, done => ((need b done).1, done)
  | .loop b, done => ((need b done).1, done)
  | .scope b, done => ((need b done).1, done)
  | _, done => ([], done)

/-- The slots that a loop hands on from round to round: those that its body writes and also reads before it writes them, and those that the code behind may want (the locals, of number below m). -/
def carried (m : Nat) (b : Code) : List Nat :=
  let w := writes b
  ((need b []).1.filter (fun t => w.contains t) ++ w.filter (fun t => Nat.blt t m)).eraseDups

/-- The frame in a round: what the body does not write is as it was; what is handed on comes out of the list; all else is not known. -/
def place (fr : Fr) (w : List Nat) : List Nat → List HV → Fr
  | [], _ => fun t => bif w.contains t then .dead else fr t
  | l :: ls, [] => fun t => bif Nat.beq t l then .dead else place fr w ls [] t
  | l :: ls, v :: vs => fun t => bif Nat.beq t l then v else place fr w ls vs t

/-- A loop: something holds at its head in each round, and a number goes down. -/
structure HLoop (L W : List Nat) (fr : Fr) (h : Heap) (body : List Nat → Fr → Heap → (List HV → Heap → Prop) → Prop) : Prop where
  out : ∃ (J : List HV → Heap → Prop) (μ : List HV → Heap → Nat), J (L.map fr) h ∧ ∀ vs h, J vs h → body L (place fr W L vs) h fun vs' h' => J vs' h' ∧ μ vs' h' < μ vs h

theorem HLoop.intro {L W : List Nat} {fr : Fr} {h : Heap} {body : List Nat → Fr → Heap → (List HV → Heap → Prop) → Prop} (L' W' : List Nat) (hL : L = L') (hW : W = W') (J : List HV → Heap → Prop) (μ : List HV → Heap → Nat)
    (h0 : J (L'.map fr) h) (hr : ∀ vs h, J vs h → body L' (place fr W' L' vs) h fun vs' h' => J vs' h' ∧ μ vs' h' < μ vs h) : HLoop L W fr h body := by
  subst hL
  subst hW
  exact ⟨J, μ, h0, hr⟩

def hwp (P : Program) (kd : TypeId → Kd) (n m : Nat) : Code → (Ex → Fr → Heap → Prop) → Fr → Heap → Prop
  | .skip, Q, fr, h => Q .normal fr h
  | .region _ ops false, Q, fr, h => hOps P kd n ops.toList ops.toList (Q .normal) fr h
  | .region _ ops true, Q, fr, h => (Region.lexB .any ops = true ∧ hOpsQ P kd n ops.toList ops.toList (fun fr' => Q .normal fr' h) fr h) ∨
      (∃ k, Region.lexTailB .any ops k = true ∧ hOpsV kd n ops.toList (ops.toList.take k) (fun fr' => hOps P kd n ops.toList (ops.toList.drop k) (Q .normal) fr' h) fr h) ∨
      (∃ (t : Nat) (ps ss : List Nat), heldOk ops t ps ss = true ∧ hOpsV kd n ops.toList (ps.filterMap fun i => ops.toList[i]?) (fun fr' => hSig P kd n ops.toList t ss true (Q .normal) fr' h) fr h) ∨
      ∃ (ps : List Nat) (tr : Tr), treeAll ops ps tr = true ∧ hOpsV kd n ops.toList (ps.filterMap fun i => ops.toList[i]?) (fun fr' => hTree P kd n ops.toList tr (Q .normal) fr' h) fr h
  | .seq a b, Q, fr, h => hwp P kd n m a (fun e fr' h' => match e with | .normal => hwp P kd n m b Q fr' h' | e => Q e fr' h') fr h
  | .cond c a b, Q, fr, h => hIf (hEval fr c) (hwp P kd n m a Q fr h) (hwp P kd n m b Q fr h)
  | .block id b, Q, fr, h => hwp P kd n m b (fun e fr' h' => match e with | .exit j => (if j = id then Q .normal fr' h' else Q (.exit j) fr' h') | e => Q e fr' h') fr h
  | .loop b, Q, fr, h => HLoop (carried m b) (writes b) fr h fun L fr2 h2 J => hwp P kd n m b (fun e fr' h' => match e with | .normal => J (L.map fr') h' | e => Q e fr' h') fr2 h2
  | .exit id, Q, fr, h => Q (.exit id) fr h
  | .scope b, Q, fr, h => hwp P kd n m b Q fr h
  | .ret, Q, fr, h => Q .ret fr h
  | _, _, _, _ => False

end Go.Proofs.Ytdlnjplkkfdejaa.Hx

namespace Go.Proofs.Ytdlnjplkkfdejaa.Hx
open Go.RowKit

structure FrRep (φ : Plan) (n : Nat) (fr : Fr) (a : Act) : Prop where
  size : a.tmps.size = n
  has : ∀ t, t < n → repV φ (fr t) (a.tmps.getD t undef)
  out : ∀ t, n ≤ t → fr t = .dead
  defers : a.defers = []

theorem FrRep.mono {φ ψ : Plan} {n : Nat} {fr : Fr} {a : Act} (F : FrRep φ n fr a) (s : Sub φ ψ) : FrRep ψ n fr a := ⟨F.size, fun t h => (F.has t h).mono s, F.out, F.defers⟩

theorem FrRep.eval {φ : Plan} {n : Nat} {fr : Fr} {a : Act} (F : FrRep φ n fr a) (x : Operand) : repV φ (hEval fr x) (a.eval x) := by
  cases x with
  | tmp t =>
    by_cases h : t < n
    · exact F.has t h
    · show repV φ (fr t) _
      rw [F.out t (Nat.le_of_not_lt h)]
      trivial
  | const v => exact rfl
  | global g => exact rfl
  | func f => exact ⟨#[], rfl, trivial⟩

theorem beq_ne {t d : Nat} (h : ¬ t = d) : Nat.beq t d = false := by
  cases hh : Nat.beq t d with
  | false => rfl
  | true => exact absurd (Nat.eq_of_beq_eq_true hh) h

theorem put_elim {n : Nat} {fr : Fr} {dst : Option Tmp} {v : HV} {K : Fr → Prop} (H : put n fr dst v K) :
    ∃ fr', K fr' ∧ (∀ (φ : Plan) (a : Act) (u : Value), FrRep φ n fr a → repV φ v u → FrRep φ n fr' (a.put dst u)) ∧ ∀ t, dst ≠ some t → fr' t = fr t := by
  cases dst with
  | none => exact ⟨fr, H, fun φ a u F _ => F, fun _ _ => rfl⟩
  | some d =>
    simp only [put] at H
    cases hb : Nat.blt d n with
    | false => rw [hb] at H; exact H.elim
    | true =>
      rw [hb] at H
      have hd : d < n := by simpa using hb
      refine ⟨_, H, fun φ a u F r => ⟨by simp [Act.put, F.size], fun t ht => ?_, fun t ht => ?_, F.defers⟩, fun t ht => ?_⟩
      · by_cases htd : t = d
        · subst htd
          simp only [Nat.beq_refl, cond_true, Act.put]
          have : (a.tmps.setIfInBounds t u).getD t undef = u := by simp [F.size, hd]
          rw [this]
          exact r
        · have hbe : Nat.beq t d = false := beq_ne htd
          simp only [hbe, cond_false, Act.put]
          have : (a.tmps.setIfInBounds d u).getD t undef = a.tmps.getD t undef := by
            simp only [Array.getD_eq_getD_getElem?]
            rw [Array.getElem?_setIfInBounds_ne (Ne.symm htd)]
          rw [this]
          exact F.has t ht
      · have hbe : Nat.beq t d = false := beq_ne (fun e => by subst e; exact absurd hd (Nat.not_lt.2 ht))
        simp only [hbe, cond_false]
        exact F.out t ht
      · have hbe : Nat.beq t d = false := beq_ne (fun (e : t = d) => ht (congrArg some e.symm))
        simp only [hbe, cond_false]

theorem wp_value {P : Program} {o : Oper} {a : Act} {w w' : World} {v : Value} {next : Act → World → Prop} {Q : Exit → Act → World → Prop}
    (hr : (execOp a.eval o).run P w = .ok (.value v) w') (h : next (a.put o.dst v) w') : o.wp P a w next Q := by
  unfold Oper.wp
  rw [hr]
  exact h

theorem wp_skips {P : Program} {o : Oper} {a : Act} {w w' : World} {next : Act → World → Prop} {Q : Exit → Act → World → Prop}
    (hr : (execOp a.eval o).run P w = .ok .skip w') (h : next (a.put o.dst undef) w') : o.wp P a w next Q := by
  unfold Oper.wp
  rw [hr]
  exact h

/-! ### What an operation that leaves memory alone yields, in a world that bears the heap -/

/-- The operation yields a value of the kind, the world unchanged. -/
def Yields (P : Program) (o : Oper) (a : Act) (w : World) (φ : Plan) (x : HV) : Prop := ∃ v, (execOp a.eval o).run P w = .ok (.value v) w ∧ repV φ x v

theorem rep0_pl {φ : Plan} {v u : Value} (h : repV φ (.s (.pl v)) u) : u = v := h

theorem hIf_elim {φ : Plan} {c : HV} {A C : Prop} {v : Value} (H : hIf c A C) (r : repV φ c v) : ∃ b, v = .bool b ∧ (b = true → A) ∧ (b = false → C) := by
  unfold hIf at H
  split at H
  · rename_i b
    exact ⟨b, r, H.out⟩
  · exact H.elim

section
variable {P : Program} {w : World}

theorem run_eqGuard_int (op : BinOp) (t : TypeId) (x y : Operand) (k k' : IntKind) (a b : Int) : (eqGuard op t x y (.int k a) (.int k' b)).run P w = .ok () w := by
  cases op <;> simp [eqGuard]

theorem run_eqGuard_bool (op : BinOp) (t : TypeId) (x y : Operand) (a b : Bool) : (eqGuard op t x y (.bool a) (.bool b)).run P w = .ok () w := by
  cases op <;> simp [eqGuard]

theorem hInt_run {op : BinOp} {t : TypeId} {k : IntKind} {a b : Int} {K : HV → Prop} (H : hInt op k a b K) : ∃ v : Value, (∀ w : World, (binOp op t (.int k a) (.int k b)).run P w = .ok v w) ∧ K (.s (.pl v)) := by
  cases op <;> simp only [hInt] at H
  case add => exact ⟨_, fun w => by simp [binOp, Op.intArith], H.out⟩
  case sub => exact ⟨_, fun w => by simp [binOp, Op.intArith], H.out⟩
  case mul => exact ⟨_, fun w => by simp [binOp, Op.intArith], H.out⟩
  case quo => exact ⟨_, fun w => by simp [binOp, Op.intDiv, H.out.1], H.out.2⟩
  case rem => exact ⟨_, fun w => by simp [binOp, Op.intDiv, H.out.1], H.out.2⟩
  case eql => exact ⟨_, fun w => by simp [binOp, Op.intCmp], H⟩
  case neq => exact ⟨_, fun w => by simp [binOp, Op.intCmp], H⟩
  case lss => exact ⟨_, fun w => by simp [binOp, Op.intCmp], H⟩
  case leq => exact ⟨_, fun w => by simp [binOp, Op.intCmp], H⟩
  case gtr => exact ⟨_, fun w => by simp [binOp, Op.intCmp], H⟩
  case geq => exact ⟨_, fun w => by simp [binOp, Op.intCmp], H⟩
  case shl =>
    obtain ⟨h1, h2⟩ := H.out
    have h3 : ¬ b < 0 := by omega
    exact ⟨_, fun w => by simp [binOp, Op.shift, h3], h2⟩
  case shr =>
    obtain ⟨h1, h2⟩ := H.out
    have h3 : ¬ b < 0 := by omega
    exact ⟨_, fun w => by simp [binOp, Op.shift, h3], h2⟩
  case and => exact ⟨_, fun w => by simp [binOp, Op.intBits], H.out⟩
  case xor => exact ⟨_, fun w => by simp [binOp, Op.intBits], H.out⟩

theorem hBin_run {φ : Plan} {op : BinOp} {t : TypeId} {d : Kd} (hd : d.ok P t) {x y : HV} {u v : Value} (ox oy : Operand) (hx : repV φ x u) (hy : repV φ y v) {K : HV → Prop} (H : hBin op d x y K) :
    ∃ r : Value, (∀ w : World, (do eqGuard op t ox oy u v; binOp op t u v : Sem Value).run P w = .ok r w) ∧ K (.s (.pl r)) := by
  unfold hBin at H
  split at H
  · rename_i k a k' b
    obtain rfl := rep0_pl hx
    obtain rfl := rep0_pl hy
    by_cases hk : k = k'
    · subst hk
      rw [if_pos rfl] at H
      obtain ⟨r, h1, h2⟩ := hInt_run (P := P) (t := t) H
      exact ⟨r, fun w => by simp only [Sem.run_bind, run_eqGuard_int, Result.andThen_ok, h1], h2⟩
    · rw [if_neg hk] at H
      cases op <;> simp only [hShift] at H <;> try exact H.elim
      · obtain ⟨h1, h2⟩ := H.out
        have h3 : ¬ b < 0 := by omega
        exact ⟨_, fun w => by simp [run_eqGuard_int, binOp, Op.shift, h3], h2⟩
      · obtain ⟨h1, h2⟩ := H.out
        have h3 : ¬ b < 0 := by omega
        exact ⟨_, fun w => by simp [run_eqGuard_int, binOp, Op.shift, h3], h2⟩
  · rename_i a b
    obtain rfl := rep0_pl hx
    obtain rfl := rep0_pl hy
    cases op <;> simp only at H <;> try exact H.elim
    · obtain ⟨h1, h2⟩ := H
      have hu : P.underlying t = some .bool := by
        cases d <;> simp [Kd.isBool] at h1
        exact hd.1
      exact ⟨_, fun w => by simp only [Sem.run_bind, run_eqGuard_bool, Result.andThen_ok, run_eql_bool w t a b hu], h2⟩
    · obtain ⟨h1, h2⟩ := H
      have hu : P.underlying t = some .bool := by
        cases d <;> simp [Kd.isBool] at h1
        exact hd.1
      exact ⟨_, fun w => by simp only [Sem.run_bind, run_eqGuard_bool, Result.andThen_ok, run_neq_bool w t a b hu], h2⟩
  · rename_i r off len n c
    obtain ⟨p, a, cap, hp, rfl, _⟩ := hx
    obtain rfl := rep0_pl hy
    cases op <;> simp only at H <;> try exact H.elim
    obtain ⟨h1, h2⟩ := H
    obtain ⟨z, rfl⟩ : ∃ z, d = .sl z := by cases d <;> simp [Kd.isSl] at h1; exact ⟨_, rfl⟩
    obtain ⟨e, i, g1, _⟩ := hd.1
    refine ⟨.bool false, fun w => ?_, h2⟩
    have h3 := Go.Lib.run_eql_slice_nil (P := P) w t e (some a) len cap n c g1
    have h4 : (eqGuard .eql t ox oy (.slice (some a) len cap) (.slice none n c)).run P w = .ok () w := by simp [eqGuard]
    simp only [Sem.run_bind, h4, Result.andThen_ok, h3]
    rfl
  · rename_i a b
    obtain rfl := rep0_pl hx
    obtain rfl := rep0_pl hy
    obtain ⟨r, h1, h2⟩ := H.out
    refine ⟨r, fun w => ?_, h2⟩
    have h3 : (eqGuard op t ox oy (.string a) (.string b)).run P w = .ok () w := by cases op <;> simp [eqGuard]
    have h4 : binOp op t (.string a) (.string b) = Op.stringOp op a b := by cases op <;> rfl
    simp only [Sem.run_bind, h3, Result.andThen_ok, h4, h1]
  · exact H.elim

theorem hUn_run {φ : Plan} {op : UnOp} {x : HV} {u : Value} (hx : repV φ x u) {K : HV → Prop} (H : hUn op x K) : ∃ r : Value, (∀ w : World, (Op.unary op u).run P w = .ok r w) ∧ K (.s (.pl r)) := by
  unfold hUn at H
  split at H
  · rename_i b
    obtain rfl := rep0_pl hx
    exact ⟨_, fun _ => rfl, H⟩
  · rename_i k n
    obtain rfl := rep0_pl hx
    exact ⟨_, fun w => by simp [Op.unary, Op.intArith], H.out⟩
  · exact H.elim

theorem Kd.sl_under {d : Kd} {t : TypeId} (hd : d.ok P t) (h : d.isSl = true) : ∃ e i, P.underlying t = some (.slice e) ∧ P.info? e = some i ∧ i.size = 1 := by
  cases d <;> simp [Kd.isSl] at h
  obtain ⟨⟨e, i, h1, h2, h3, _⟩, _⟩ := hd
  exact ⟨e, i, h1, h2, h3⟩

theorem lenOf_rep {φ : Plan} {x : HV} {u : Value} {n : Nat} (hx : repV φ x u) (h : lenOf x = some n) : ∃ a c, u = .slice a n c := by
  unfold lenOf at h
  split at h
  · cases h
    obtain ⟨p, a, cap, _, rfl, _⟩ := hx
    exact ⟨_, _, rfl⟩
  · cases h
    obtain rfl := rep0_pl hx
    exact ⟨_, _, rfl⟩
  · cases h

theorem hLen_run {φ : Plan} {d : Kd} {t ty : TypeId} (hd : d.ok P t) (hs : d.isSl = true) {x : HV} {u : Value} (hx : repV φ x u) {K : HV → Prop} (H : HLen x K) :
    ∃ r : Value, (∀ w : World, (Builtin.len_ #[t] ty #[u]).run P w = .ok r w) ∧ K (.s (.pl r)) := by
  obtain ⟨n, hn, hK⟩ := H.out
  obtain ⟨a, c, rfl⟩ := lenOf_rep hx hn
  obtain ⟨e, i, hu, _⟩ := Kd.sl_under hd hs
  exact ⟨_, fun w => by simp [Builtin.len_, run_underlying hu, goInt], hK⟩

theorem hLenS_run {φ : Plan} {t ty : TypeId} (hd : Kd.str.ok P t) {x : HV} {u : Value} (hx : repV φ x u) {K : HV → Prop} (H : HLenS x K) :
    ∃ r : Value, (∀ w : World, (Builtin.len_ #[t] ty #[u]).run P w = .ok r w) ∧ K (.s (.pl r)) := by
  obtain ⟨s, rfl, hK⟩ := H.out
  obtain rfl := rep0_pl hx
  exact ⟨_, fun w => by simp [Builtin.len_, run_underlying hd.1, goInt], hK⟩

theorem hMax_run {φ : Plan} {ts : Array TypeId} {ty : TypeId} {x y : HV} {u v : Value} (hx : repV φ x u) (hy : repV φ y v) {K : HV → Prop} (H : HMax x y K) :
    ∃ r : Value, (∀ w : World, (Builtin.max_ ts ty #[u, v]).run P w = .ok r w) ∧ K (.s (.pl r)) := by
  obtain ⟨k, a, b, rfl, rfl, hK⟩ := H.out
  obtain rfl := rep0_pl hx
  obtain rfl := rep0_pl hy
  exact ⟨_, fun w => by simp [Builtin.max_, Builtin.max2], hK⟩

theorem hMin_run {φ : Plan} {ts : Array TypeId} {ty : TypeId} {x y : HV} {u v : Value} (hx : repV φ x u) (hy : repV φ y v) {K : HV → Prop} (H : HMin x y K) :
    ∃ r : Value, (∀ w : World, (Builtin.min_ ts ty #[u, v]).run P w = .ok r w) ∧ K (.s (.pl r)) := by
  obtain ⟨k, a, b, rfl, rfl, hK⟩ := H.out
  obtain rfl := rep0_pl hx
  obtain rfl := rep0_pl hy
  exact ⟨_, fun w => by simp [Builtin.min_, Builtin.min2], hK⟩

theorem hByte_run {φ : Plan} {t : TypeId} (hd : Kd.str.ok P t) {x i : HV} {u v : Value} (hx : repV φ x u) (hi : repV φ i v) {K : HV → Prop} (H : HByte x i K) :
    ∃ r : Value, (∀ w : World, (Instr.index t u v).run P w = .ok r w) ∧ K (.s (.pl r)) := by
  obtain ⟨s, k, j, hj, rfl, rfl, hK⟩ := H.out
  obtain rfl := rep0_pl hx
  obtain rfl := rep0_pl hi
  refine ⟨_, fun w => ?_, hK⟩
  have h1 : s[j]? = some s[j] := getElem?_pos s j hj
  simp [Instr.index, asIntOf, run_underlying hd.1, h1]

theorem hConv_run {φ : Plan} {s t : TypeId} {k k' : IntKind} (hs : (Kd.int k').ok P s) (ht : (Kd.int k).ok P t) {x : HV} {u : Value} (hx : repV φ x u) {K : HV → Prop} (H : HConv k x K) :
    ∃ r : Value, (∀ w : World, (convert s t u).run P w = .ok r w) ∧ K (.s (.pl r)) := by
  obtain ⟨k2, n, rfl, hK⟩ := H.out
  obtain rfl := rep0_pl hx
  exact ⟨_, fun w => by simp [convert, run_underlying hs.1, run_underlying ht.1, Conv.intToInt], hK⟩

theorem rec_add (b o l : Nat) : (⟨b, o, none⟩ : Addr).add l = ⟨b, o + l, none⟩ := by
  unfold Addr.add
  split
  · simp_all
  · rfl

theorem hField_run {φ : Plan} {t : TypeId} {zs : List Value} (hd : (Kd.rcd zs).ok P t) {x : HV} {u : Value} (hx : repV φ x u) {f : Nat} {K : HV → Prop} (H : HField zs.length x f K) :
    ∃ (r : Value) (y : HV), (∀ w : World, (Instr.fieldAt t u f).run P w = .ok r w) ∧ repV φ y r ∧ K y := by
  obtain ⟨r, o, rfl, hf, hK⟩ := H.out
  obtain ⟨p, hp, rfl⟩ := hx
  obtain ⟨fs, i, h1, h2, h3, h4, h5, h6, h7⟩ := hd
  have hfl : f < fs.size := by omega
  obtain ⟨e1, ⟨j, e2, e3⟩, _⟩ := h6 f fs[f] (Array.getElem?_eq_getElem hfl)
  refine ⟨.pointer (some ⟨p.b, p.o + (o + f), none⟩), .s (.ptr r (o + f)), fun w => ?_, ⟨p, hp, rfl⟩, hK⟩
  simp [Instr.fieldAt, run_underlying h1, hfl, Instr.sureAddr, fieldPlace, sizeOf, typeInfo, e2, e3, e1, rec_add, Nat.add_assoc]

theorem hIdx_run {φ : Plan} {h : Heap} {d : Kd} {t : TypeId} (hd : d.ok P t) (hs : d.isSl = true) {x i : HV} {u v : Value} (hx : repV φ x u) (hi : repV φ i v) {K : HV → Prop} (H : HIdx h x i K) :
    ∃ (r : Value) (y : HV), (∀ w : World, (Instr.indexAt t u v).run P w = .ok r w) ∧ repV φ y r ∧ K y := by
  obtain ⟨r, off, len, k, j, rfl, rfl, h0, h1, hK⟩ := H.out
  obtain ⟨p, a, cap, hp, rfl, hl, hm, _, ha⟩ := hx
  obtain rfl := rep0_pl hi
  obtain ⟨e, ti, hu, hie, hsz⟩ := Kd.sl_under hd hs
  obtain rfl := ha (by omega)
  refine ⟨.pointer (some ⟨p.b, p.o + (off + j.toNat), none⟩), .s (.ptr r (off + j.toNat)), fun w => ?_, ⟨p, hp, rfl⟩, hK⟩
  have hadd : (⟨p.b, p.o + off, none⟩ : Addr).add j.toNat = ⟨p.b, p.o + (off + j.toNat), none⟩ := by
    unfold Addr.add
    split
    · simp_all
    · simp [Nat.add_assoc]
  simp [Instr.indexAt, asIntOf, run_underlying hu, h0, h1, sizeOf, typeInfo, hie, hsz, hadd]

theorem Rep.cell {B0 : Nat} {φ : Plan} {h : Heap} (R : Rep B0 φ h w) {r o : Nat} {x : Row} {cs : List H0} {c : H0} {p : Place} (hr : h[r]? = some x) (hc : x.cells? = some cs) (ho : cs[o]? = some c) (hp : φ[r]? = some p) :
    ∃ v, w.cell? ⟨p.b, p.o + o, none⟩ = some v ∧ rep0 φ c v := by
  cases x with
  | ro ys => cases hc; exact (R.ro r _ p hr hp).2 o c ho
  | own ys =>
    cases hc
    obtain ⟨h1, _, _, cur, e, h4, _, h5⟩ := R.own r _ p hr hp
    obtain ⟨v, e1, e2⟩ := h5 o c ho
    exact ⟨v, by rw [h1, Nat.zero_add, cell_of_row w p.b o cur e (0, 0) h4]; exact e1, e2⟩
  | gone => cases hc

theorem hLoad_run {B0 : Nat} {φ : Plan} {h : Heap} (R : Rep B0 φ h w) {t : TypeId} (h1 : One P t) {x : HV} {u : Value} (hx : repV φ x u) {K : HV → Prop} (H : HLoad h x K) :
    ∃ (r : Value) (y : HV), (∀ w' : World, Lat w.heap.size w w' → (Instr.loadAt t u).run P w' = .ok r w') ∧ repV φ y r ∧ K y := by
  obtain ⟨r, o, y, cs, c, rfl, hr, hc, ho, hK⟩ := H.out
  obtain ⟨p, hp, rfl⟩ := hx
  obtain ⟨v, e1, e2⟩ := R.cell hr hc ho hp
  obtain ⟨_, d, hu, hd⟩ := h1
  refine ⟨v, .s c, fun w' hb => ?_, e2, hK⟩
  have e1' : w'.cell? ⟨p.b, p.o + o, none⟩ = some v := by rw [hb.cell (World.block_lt_of_cell? w _ e1)]; exact e1
  have hagg : (isAgg t).run P w' = .ok false w' := by
    unfold isAgg
    simp only [Sem.run_bind, run_underlying hu, Result.andThen_ok]
    cases d <;> simp [flat] at hd <;> rfl
  simp [Instr.loadAt, Instr.sureAddr, loadVar, hagg, e1']

theorem addr_add (b o l : Nat) : (⟨b, o, none⟩ : Addr).add l = ⟨b, o + l, none⟩ := by
  unfold Addr.add
  split
  · simp_all
  · rfl

theorem hSlice_run {B0 : Nat} {φ : Plan} {h : Heap} (R : Rep B0 φ h w) {d : Kd} {t : TypeId} (hd : d.ok P t) (hs : d.isSl = true) {x : HV} {lo hi : Option HV} {u : Value} {vlo vhi : Option Value} (hx : repV φ x u)
    (hlo : (lo = none ∧ vlo = none) ∨ ∃ y v, lo = some y ∧ vlo = some v ∧ repV φ y v) (hhi : (hi = none ∧ vhi = none) ∨ ∃ y v, hi = some y ∧ vhi = some v ∧ repV φ y v) {K : HV → Prop} (H : HSlice h x lo hi K) :
    ∃ (r : Value) (y : HV), (∀ w : World, (Instr.sliceAt t u vlo vhi none).run P w = .ok r w) ∧ repV φ y r ∧ K y := by
  obtain ⟨n, l, m, hn, hl, hm, hlm, hmn', hK⟩ := H.out
  obtain ⟨a, c, rfl⟩ := lenOf_rep hx hn
  obtain ⟨e, ti, hu, hie, hsz⟩ := Kd.sl_under hd hs
  have hle : m ≤ c ∨ m = 0 := by
    unfold lenOf at hn
    split at hn
    · cases hn
      obtain ⟨p, a', cap, hp, hv, h1, _, h3, _⟩ := hx
      cases hv
      rcases hmn' with h | ⟨r, off, len, cs, hxe, hr, hcs⟩
      · exact Or.inl (Nat.le_trans h h1)
      · cases hxe
        obtain ⟨_, _, q3, _⟩ := R.own _ cs p hr hp
        exact Or.inl (by omega)
    · cases hn
      rcases hmn' with h | ⟨r, off, len, cs, hxe, _⟩
      · exact Or.inr (by omega)
      · cases hxe
    · cases hn
  have hb : ∀ w : World, (Instr.sliceBounds true n c vlo vhi none).run P w = .ok (l, m, c) w := by
    intro w
    rcases hhi with ⟨rfl, rfl⟩ | ⟨y, v, rfl, rfl, hv⟩
    · have em : m = n := by rcases hm with ⟨_, h⟩ | ⟨k, h⟩; exact h; cases h
      subst em
      rcases hlo with ⟨rfl, rfl⟩ | ⟨y, v, rfl, rfl, hv⟩
      · have el : l = 0 := by rcases hl with ⟨_, h⟩ | ⟨k, h⟩; exact h; cases h
        subst el
        simp [Instr.sliceBounds]
      · rcases hl with ⟨h, _⟩ | ⟨k, h⟩
        · cases h
        · cases h
          obtain rfl := rep0_pl hv
          simp [Instr.sliceBounds, run_sliceBound (P := P) w k (l : Int) m _ (by omega) (by omega)]
    · rcases hm with ⟨h, _⟩ | ⟨k, h⟩
      · cases h
      cases h
      obtain rfl := rep0_pl hv
      have hmc : (m : Int) ≤ c := by rcases hle with h | h <;> omega
      rcases hlo with ⟨rfl, rfl⟩ | ⟨y, v, rfl, rfl, hv⟩
      · have el : l = 0 := by rcases hl with ⟨_, h⟩ | ⟨k, h⟩; exact h; cases h
        subst el
        simp [Instr.sliceBounds, run_sliceBound (P := P) w k (m : Int) c _ (by omega) hmc]
      · rcases hl with ⟨h, _⟩ | ⟨k', h⟩
        · cases h
        · cases h
          obtain rfl := rep0_pl hv
          simp [Instr.sliceBounds, run_sliceBound (P := P) w k (m : Int) c _ (by omega) hmc, run_sliceBound (P := P) w k' (l : Int) m _ (by omega) (by omega)]
  have hrun : ∀ w : World, (Instr.sliceAt t (.slice a n c) vlo vhi none).run P w = .ok (.slice (if c = l then a else a.map (·.add l)) (m - l) (c - l)) w := by
    intro w
    simp [Instr.sliceAt, run_underlying hu, Instr.slice, hb, sizeOf, typeInfo, hie, hsz]
  split at hK
  · rename_i r off len'
    simp only [lenOf, Option.some.injEq] at hn
    subst hn
    obtain ⟨p, a', cap, hp, hv, h1, h2, h3, h4⟩ := hx
    cases hv
    have hmc : m ≤ c := by
      rcases hle with h | h
      · exact h
      · rw [h]; exact Nat.zero_le _
    clear hmn' hle
    refine ⟨_, .s (.sl r (off + l) (m - l)), hrun, ⟨p, if c = l then a' else a'.add l, c - l, hp, ?_, by omega, by omega, by omega, fun h0 => ?_⟩, hK⟩
    · split <;> simp_all
    · rw [if_neg (by omega)]
      obtain rfl := h4 (by omega)
      rw [addr_add, Nat.add_assoc]
  · rename_i a' c'
    simp only [lenOf, Option.some.injEq] at hn
    subst hn
    have hv := rep0_pl hx
    cases hv
    have em : m = 0 := by
      rcases hmn' with h | ⟨r, off, len, cs, hxe, _⟩
      · omega
      · cases hxe
    have el : l = 0 := by omega
    subst el
    subst em
    refine ⟨_, .s (.pl (.slice a 0 c)), hrun, ?_, hK⟩
    show Value.slice _ _ _ = _
    have : (a.map fun x => x.add 0) = a := by cases a <;> simp [Addr.add]
    simp [this]
  · exact hK.elim

theorem hSlice3_run {φ : Plan} {d : Kd} {t : TypeId} (hd : d.ok P t) (hs : d.isSl = true) {x lo hi mx : HV} {u vlo vhi vmx : Value} (hx : repV φ x u) (h1 : repV φ lo vlo) (h2 : repV φ hi vhi) (h3 : repV φ mx vmx) {K : HV → Prop} (H : HSlice3 x lo hi mx K) :
    ∃ r : Value, (∀ w : World, (Instr.sliceAt t u (some vlo) (some vhi) (some vmx)).run P w = .ok r w) ∧ K .dead := by
  obtain ⟨n, l, m, k, k1, k2, k3, hn, rfl, rfl, rfl, hlm, hmk, hkn, hK⟩ := H.out
  obtain ⟨a, c, rfl⟩ := lenOf_rep hx hn
  obtain rfl := rep0_pl h1
  obtain rfl := rep0_pl h2
  obtain rfl := rep0_pl h3
  obtain ⟨e, ti, hu, hie, hsz⟩ := Kd.sl_under hd hs
  have hc : k ≤ c ∨ k = 0 := by
    unfold lenOf at hn
    split at hn
    · cases hn
      obtain ⟨p, a', cap, hp, hv, g1, _⟩ := hx
      cases hv
      exact Or.inl (Nat.le_trans hkn g1)
    · cases hn
      exact Or.inr (by omega)
    · cases hn
  have hkc : (k : Int) ≤ c := by rcases hc with h | h <;> omega
  refine ⟨.slice (if k = l then a else a.map (·.add l)) (m - l) (k - l), fun w => ?_, hK⟩
  simp [Instr.sliceAt, run_underlying hu, Instr.slice, Instr.sliceBounds, run_sliceBound (P := P) w k3 (k : Int) c _ (by omega) hkc, run_sliceBound (P := P) w k2 (m : Int) k _ (by omega) (by omega), run_sliceBound (P := P) w k1 (l : Int) m _ (by omega) (by omega), sizeOf, typeInfo, hie, hsz]

end
end Go.Proofs.Ytdlnjplkkfdejaa.Hx
