/-
  The calculus of rows: what each operation of the model asks and leaves, said over abstract heaps (predicate transformers), and the code's own.
-/
import Derived.Test.YtjgnnjegaedinaaZ00
import Derived.StillTail
namespace Go.Proofs.Ytjgnnjegaedinaa.Hx
open Go.RowKit
variable {dm : Bool}

/-- What is known of a type. -/
inductive Kd where
  | no
  | bool
  | int (k : IntKind)
  | str
  | sl (z : Value)
  | rcd (zs : List Value)
  | slw (zs : List Value)
  | keys (so : Bool)
  | arr (n : Nat) (z : Value)
  | ifc
  | oth

def flat : TypeDesc → Bool
  | .struct _ => false
  | .array _ _ => false
  | _ => true

def One (P : Program) (t : TypeId) : Prop := (∃ i, P.info? t = some i ∧ i.size = 1) ∧ ∃ d, P.underlying t = some d ∧ flat d = true

def Kd.ok (P : Program) (t : TypeId) : Kd → Prop
  | .no => True
  | .bool => P.underlying t = some .bool ∧ One P t
  | .int k => P.underlying t = some (.int k) ∧ One P t
  | .str => P.underlying t = some .string ∧ One P t
  | .sl z => (∃ e i, P.underlying t = some (.slice e) ∧ P.info? e = some i ∧ i.size = 1 ∧ i.zero = some z ∧ i.bytes ≤ 64 ∧ z.cells = #[z] ∧ z.oneCell' = true) ∧ One P t
  | .rcd zs => ∃ fs i, P.underlying t = some (.struct fs) ∧ P.info? t = some i ∧ i.zero = some (.agg zs.toArray) ∧ i.size = zs.length ∧ fs.size = zs.length ∧ (∀ (k : Nat) (f : Field), fs[k]? = some f → f.offset = k ∧ One P f.type) ∧ ∀ z ∈ zs, z.oneCell' = true
  | .slw zs => (∃ e i, P.underlying t = some (.slice e) ∧ P.info? e = some i ∧ i.size = zs.length ∧ i.zero = some (.agg zs.toArray) ∧ i.bytes ≤ 512 ∧ 0 < zs.length ∧ ∀ z ∈ zs, z.oneCell' = true) ∧ (∃ j, P.info? t = some j ∧ j.zero = some (.slice none 0 0)) ∧ One P t
  | .keys so => (∃ kt et i, P.underlying t = some (.map kt et) ∧ P.info? et = some i ∧ i.zero = some (.bool false) ∧
      (so = true → P.underlying kt = some .string) ∧ (so = false → ∃ ke j, P.underlying kt = some (.array 4 ke) ∧ P.info? ke = some j ∧ j.size = 1 ∧ P.underlying ke = some (.int .i64))) ∧ (∃ j, P.info? t = some j ∧ j.zero = some (.map none)) ∧ One P t
  | .arr n z => ∃ e i j, P.underlying t = some (.array n e) ∧ P.info? t = some i ∧ i.size = n ∧ i.zero = some (.agg (Array.replicate n z)) ∧ P.info? e = some j ∧ j.size = 1 ∧ One P e ∧ z.oneCell' = true
  | .ifc => P.underlying t = some (.interface (P.methodsAt t)) ∧ One P t
  | .oth => One P t

def Kd.one : Kd → Bool
  | .no => false
  | .rcd _ => false
  | .arr _ _ => false
  | _ => true

theorem Kd.ok_one {P : Program} {t : TypeId} {k : Kd} (h : k.ok P t) (h1 : k.one = true) : One P t := by
  cases k <;> first | (simp [Kd.one] at h1; done) | exact h.2.2 | exact h.2 | exact h

/-- The cells of a new variable. -/
def Kd.zeros : Kd → Option (List Value)
  | .slw _ => some [.slice none 0 0]
  | .keys _ => some [.map none]
  | .rcd zs => some zs
  | _ => none

abbrev I (n : Int) : HV := .s (.pl (.int .i64 n))
abbrev B (b : Bool) : HV := .s (.pl (.bool b))

def lenOf : HV → Option Nat
  | .s (.sl _ _ n) => some n
  | .s (.pl (.slice _ 0 _)) => some 0
  | _ => none

/-- The cells that a slice shows. -/
inductive Shows (h : Heap) : HV → List H0 → Prop where
  | nils (a : Option Addr) (c : Nat) : Shows h (.s (.pl (.slice a 0 c))) []
  | ro (r off len : Nat) (cs : List H0) (hr : h[r]? = some (.ro cs)) (hl : off + len ≤ cs.length) : Shows h (.s (.sl r off len)) ((cs.drop off).take len)
  | own (r off len : Nat) (cs : List H0) (hr : h[r]? = some (.own cs)) (hl : off + len ≤ cs.length) : Shows h (.s (.sl r off len)) ((cs.drop off).take len)

/-- The cells that a slice of elements of k cells each shows. -/
inductive ShowsW (k : Nat) (h : Heap) : HV → Nat → List H0 → Prop where
  | nils (a : Option Addr) (c : Nat) : ShowsW k h (.s (.pl (.slice a 0 c))) 0 []
  | ro (r off len : Nat) (cs : List H0) (hr : h[r]? = some (.ro cs)) (hl : off + k * len ≤ cs.length) : ShowsW k h (.s (.sw k r off len)) len ((cs.drop off).take (k * len))
  | own (r off len : Nat) (cs : List H0) (hr : h[r]? = some (.own cs)) (hl : off + k * len ≤ cs.length) : ShowsW k h (.s (.sw k r off len)) len ((cs.drop off).take (k * len))

/-- The key that a value is. -/
def keyAt : HV → Option Key
  | .s (.pl (.string s)) => some (.str s)
  | .agg [.pl (.int .i64 a), .pl (.int .i64 b), .pl (.int .i64 c), .pl (.int .i64 d)] => some (.arr a b c d)
  | _ => none

def atom : HV → Option H0
  | .s x => some x
  | _ => none

/-- (This and what follows is typed with explicit recursors: what a walk unfolds is then what the kernel unfolds.) -/
noncomputable def atoms (l : List HV) : Option (List H0) :=
  List.rec (motive := fun _ => Option (List H0)) (some []) (fun x _ ih => match atom x, ih with
    | some a, some as => some (a :: as)
    | _, _ => none) l

theorem atoms_nil : atoms [] = some [] := rfl
theorem atoms_cons (x : HV) (xs : List HV) : atoms (x :: xs) = (match atom x, atoms xs with
    | some a, some as => some (a :: as)
    | _, _ => none) := rfl

def H0.one : H0 → Bool
  | .pl v => v.oneCell'
  | _ => true

def Row.cells? : Row → Option (List H0)
  | .ro cs => some cs
  | .own cs => some cs
  | .gone => none
  | .keys _ _ => none

structure HIf (b : Bool) (A B : Prop) : Prop where
  out : (b = true → A) ∧ (b = false → B)

/-- A guard: wanted (A) or not (B); a slot that an operation passed over has left is no Bool: not wanted. -/
def hGuard (c : HV) (w : Bool) (A B : Prop) : Prop :=
  match c with
  | .s (.pl (.bool b)) => match w with
    | true => HIf b A B
    | false => HIf b B A
  | .tup [] => B
  | _ => False

def hIf (c : HV) (A B : Prop) : Prop :=
  match c with
  | .s (.pl (.bool b)) => HIf b A B
  | _ => False

structure HArith (k : IntKind) (e : Int) (K : HV → Prop) : Prop where
  out : K (.s (.pl (.int k (k.wrap e))))

structure HQuo (k : IntKind) (a b : Int) (K : HV → Prop) : Prop where
  out : b ≠ 0 ∧ K (.s (.pl (.int k (k.wrap (a.tdiv b)))))

structure HRem (k : IntKind) (a b : Int) (K : HV → Prop) : Prop where
  out : b ≠ 0 ∧ K (.s (.pl (.int k (a.tmod b))))

structure HShl (k : IntKind) (a b : Int) (K : HV → Prop) : Prop where
  out : 0 ≤ b ∧ K (.s (.pl (.int k (k.wrap (a * 2 ^ (min b.toNat k.bits))))))

structure HShr (k : IntKind) (a b : Int) (K : HV → Prop) : Prop where
  out : 0 ≤ b ∧ K (.s (.pl (.int k (a.fdiv (2 ^ (min b.toNat k.bits))))))

structure HXor (k : IntKind) (a b : Int) (K : HV → Prop) : Prop where
  out : K (.s (.pl (.int k (k.wrap ((BitVec.ofInt k.bits a ^^^ BitVec.ofInt k.bits b).toNat : Int)))))

structure HAnd (k : IntKind) (a b : Int) (K : HV → Prop) : Prop where
  out : K (.s (.pl (.int k (k.wrap ((BitVec.ofInt k.bits a &&& BitVec.ofInt k.bits b).toNat : Int)))))

def hInt (op : BinOp) (k : IntKind) (a b : Int) (K : HV → Prop) : Prop :=
  match op with
  | .add => HArith k (a + b) K
  | .sub => HArith k (a - b) K
  | .mul => HArith k (a * b) K
  | .quo => HQuo k a b K
  | .rem => HRem k a b K
  | .eql => K (.s (.pl (.bool (a == b))))
  | .neq => K (.s (.pl (.bool (a != b))))
  | .lss => K (.s (.pl (.bool (decide (a < b)))))
  | .leq => K (.s (.pl (.bool (decide (a ≤ b)))))
  | .gtr => K (.s (.pl (.bool (decide (a > b)))))
  | .geq => K (.s (.pl (.bool (decide (a ≥ b)))))
  | .shl => HShl k a b K
  | .shr => HShr k a b K
  | .and => HAnd k a b K
  | .xor => HXor k a b K
  | _ => False

/-- A shift by a number of another kind. -/
def hShift (op : BinOp) (k : IntKind) (a b : Int) (K : HV → Prop) : Prop :=
  match op with
  | .shl => HShl k a b K
  | .shr => HShr k a b K
  | _ => False

def Kd.isBool : Kd → Bool
  | .bool => true
  | _ => false

def Kd.isSl : Kd → Bool
  | .sl _ => true
  | _ => false

def Kd.isStr : Kd → Bool
  | .str => true
  | _ => false

/-- An operation on two strings that comes back. -/
structure HStr (op : BinOp) (a b : ByteArray) (K : HV → Prop) : Prop where
  out : ∃ r : Value, (∀ (P : Program) (w : World), (Op.stringOp op a b).run P w = .ok r w) ∧ K (.s (.pl r))

def Kd.isIfc : Kd → Bool
  | .ifc => true
  | _ => false
/-- An operand is written out. -/
def isK : Operand → Bool
  | .const _ => true
  | _ => false

def hBin (op : BinOp) (t : Kd) (cn : Bool) (x y : HV) (K : HV → Prop) : Prop :=
  match x, y with
  | .s (.pl (.int k a)), .s (.pl (.int k' b)) => if k = k' then hInt op k a b K else hShift op k a b K
  | .s (.pl (.bool a)), .s (.pl (.bool b)) =>
    match op with
    | .eql => t.isBool = true ∧ K (.s (.pl (.bool (a == b))))
    | .neq => t.isBool = true ∧ K (.s (.pl (.bool (!(a == b)))))
    | _ => False
  | .s (.sl _ _ _), .s (.pl (.slice none _ _)) =>
    match op with
    | .eql => t.isSl = true ∧ K (.s (.pl (.bool false)))
    | _ => False
  | .s (.pl (.slice none _ _)), .s (.pl (.slice none _ _)) =>
    match op with
    | .eql => t.isSl = true ∧ K (.s (.pl (.bool true)))
    | _ => False
  | .s (.pl (.string a)), .s (.pl (.string b)) => HStr op a b K
  | .s (.pl (.iface _ _)), .s (.pl .nilIface) =>
    match op with
    | .neq => t.isIfc = true ∧ K (.s (.pl (.bool true)))
    | _ => False
  | .s (.pl .nilIface), .s (.pl .nilIface) =>
    match op with
    | .neq => (t.isIfc && cn) = true ∧ K (.s (.pl (.bool false)))
    | _ => False
  | _, _ => False

def hUn (op : UnOp) (x : HV) (K : HV → Prop) : Prop :=
  match op, x with
  | .not, .s (.pl (.bool b)) => K (.s (.pl (.bool (!b))))
  | .neg, .s (.pl (.int k n)) => HArith k (0 - n) K
  | _, _ => False

structure HLenS (x : HV) (K : HV → Prop) : Prop where
  out : ∃ s : ByteArray, x = .s (.pl (.string s)) ∧ K (.s (.pl (.int .i64 s.size)))

/-- The greater, the less of two numbers. -/
structure HMax (x y : HV) (K : HV → Prop) : Prop where
  out : ∃ (k : IntKind) (a b : Int), x = .s (.pl (.int k a)) ∧ y = .s (.pl (.int k b)) ∧ K (.s (.pl (.int k (if b > a then b else a))))

structure HMin (x y : HV) (K : HV → Prop) : Prop where
  out : ∃ (k : IntKind) (a b : Int), x = .s (.pl (.int k a)) ∧ y = .s (.pl (.int k b)) ∧ K (.s (.pl (.int k (if b < a then b else a))))

/-- A byte of a string. -/
structure HByte (x i : HV) (K : HV → Prop) : Prop where
  out : ∃ (s : ByteArray) (k : IntKind) (j : Nat) (hj : j < s.size), x = .s (.pl (.string s)) ∧ i = .s (.pl (.int k (j : Int))) ∧ K (.s (.pl (.int .u8 (s[j].toNat : Int))))

/-- A number of another kind. -/
structure HConv (k : IntKind) (x : HV) (K : HV → Prop) : Prop where
  out : ∃ (k' : IntKind) (n : Int), x = .s (.pl (.int k' n)) ∧ K (.s (.pl (.int k (k.wrap n))))

/-- The bytes that a slice shows, as a string. -/
structure HText (P : Program) (s t : TypeId) (h : Heap) (x : HV) (K : HV → Prop) : Prop where
  out : ∃ (e : TypeId) (bs : List UInt8), P.underlying s = some (.slice e) ∧ P.underlying e = some (.int .u8) ∧ P.underlying t = some .string ∧ Shows h x (bs.map fun b => .pl (.int .u8 (b.toNat : Int))) ∧ K (.s (.pl (.string ⟨bs.toArray⟩)))

/-- A struct of fields of one cell each. -/
structure HRec (ys qs : Option (List H0)) (K : HV → Prop) : Prop where
  out : ∃ xs cs, ys = some xs ∧ qs = some cs ∧ (∀ c ∈ cs, c.one = true) ∧ K (.agg xs)

theorem HRec.of {xs cs : List H0} {K : HV → Prop} (h : ∀ c ∈ cs, c.one = true) (hK : K (.agg xs)) : HRec (some xs) (some cs) K := ⟨xs, cs, rfl, rfl, h, hK⟩

structure HField (n : Nat) (x : HV) (f : Nat) (K : HV → Prop) : Prop where
  out : ∃ r o, x = .s (.ptr r o) ∧ f < n ∧ K (.s (.ptr r (o + f)))

structure HPart (n : Nat) (x : HV) (f : Nat) (K : HV → Prop) : Prop where
  out : ∃ xs c, x = .agg xs ∧ xs[f]? = some c ∧ c.one = true ∧ f < n ∧ K (.s c)

structure HLen (x : HV) (K : HV → Prop) : Prop where
  out : ∃ n : Nat, lenOf x = some n ∧ K (.s (.pl (.int .i64 n)))

structure HLenW (x : HV) (K : HV → Prop) : Prop where
  out : ∃ k r off n : Nat, x = .s (.sw k r off n) ∧ K (.s (.pl (.int .i64 n)))

/-- The address of an element of a slice. -/
structure HIdx (h : Heap) (x i : HV) (K : HV → Prop) : Prop where
  out : ∃ (r off len : Nat) (k : IntKind) (j : Int), x = .s (.sl r off len) ∧ i = .s (.pl (.int k j)) ∧ 0 ≤ j ∧ j < len ∧ K (.s (.ptr r (off + j.toNat)))

structure HLoad (h : Heap) (p : HV) (K : HV → Prop) : Prop where
  out : ∃ (r o : Nat) (x : Row) (cs : List H0) (c : H0), p = .s (.ptr r o) ∧ h[r]? = some x ∧ x.cells? = some cs ∧ cs[o]? = some c ∧ K (.s c)

structure HStore (h : Heap) (p v : HV) (K : HV → Heap → Prop) : Prop where
  out : ∃ (r o : Nat) (cs : List H0) (c : H0), p = .s (.ptr r o) ∧ v = .s c ∧ c.one = true ∧ h[r]? = some (.own cs) ∧ o < cs.length ∧ K .dead (h.set r (.own (cs.set o c)))

/-- The address of an element of k cells. -/
structure HIdxW (n : Nat) (x i : HV) (K : HV → Prop) : Prop where
  out : ∃ (r off len : Nat) (k : IntKind) (j : Int), x = .s (.sw n r off len) ∧ i = .s (.pl (.int k j)) ∧ 0 ≤ j ∧ j < len ∧ K (.s (.ptr r (off + n * j.toNat)))

/-- The address of a number of an array. -/
structure HIdxA (n : Nat) (x i : HV) (K : HV → Prop) : Prop where
  out : ∃ (r : Nat) (k : IntKind) (j : Nat), x = .s (.pa r n) ∧ i = .s (.pl (.int k (j : Int))) ∧ j < n ∧ K (.s (.ptr r j))

/-- A value of n cells, read. -/
structure HLoadA (n : Nat) (h : Heap) (p : HV) (K : HV → Prop) : Prop where
  out : ∃ (r o : Nat) (x : Row) (cs : List H0), (p = .s (.ptr r o) ∨ (∃ m, p = .s (.pa r m)) ∧ o = 0) ∧ h[r]? = some x ∧ x.cells? = some cs ∧ o + n ≤ cs.length ∧ K (.agg ((cs.drop o).take n))

/-- A value of n cells, written. -/
structure HStoreA (n : Nat) (h : Heap) (p v : HV) (K : HV → Heap → Prop) : Prop where
  out : ∃ (r o : Nat) (cs xs : List H0), (p = .s (.ptr r o) ∨ (∃ m, p = .s (.pa r m)) ∧ o = 0) ∧ v = .agg xs ∧ xs.length = n ∧ (∀ c ∈ xs, c.one = true) ∧ h[r]? = some (.own cs) ∧ o + n ≤ cs.length ∧ K .dead (h.set r (.own (cs.take o ++ xs ++ cs.drop (o + n))))

/-- A number of an array. -/
structure HAt (n : Nat) (x i : HV) (K : HV → Prop) : Prop where
  out : ∃ (xs : List H0) (k : IntKind) (j : Nat) (c : H0), x = .agg xs ∧ i = .s (.pl (.int k (j : Int))) ∧ j < n ∧ xs[j]? = some c ∧ K (.s c)

/-- A part of an array. -/
structure HSliceA (n : Nat) (x : HV) (lo hi : Option HV) (K : HV → Prop) : Prop where
  small : n ≤ 4096
  out : ∃ (r l u : Nat), x = .s (.pa r n) ∧ (lo = none ∧ l = 0 ∨ ∃ k, lo = some (.s (.pl (.int k (l : Int))))) ∧ (hi = none ∧ u = n ∨ ∃ k, hi = some (.s (.pl (.int k (u : Int))))) ∧ l ≤ u ∧ u ≤ n ∧ K (.s (.sl r l (u - l)))

/-- The less of both lengths is copied. -/
structure HCopy (h : Heap) (x y : HV) (K : HV → Heap → Prop) : Prop where
  out : ∃ (r off len m : Nat) (cs new : List H0), x = .s (.sl r off len) ∧ h[r]? = some (.own cs) ∧ off + len ≤ cs.length ∧ Shows h y new ∧ (∀ c ∈ new, c.one = true) ∧ m = min new.length len ∧
    K (.s (.pl (.int .i64 m))) (h.set r (.own (cs.take off ++ new.take m ++ cs.drop (off + m))))

/-- An array with an address. -/
structure HBoxP (n : Nat) (xs : List H0) (h : Heap) (K : HV → Heap → Prop) : Prop where
  out : xs.length = n ∧ (∀ c ∈ xs, c.one = true) ∧ K (.s (.pa h.length n)) (h ++ [.own xs])

/-- Is the key in the map? -/
structure HLook (so : Bool) (h : Heap) (x i : HV) (K : HV → Prop) : Prop where
  out : ∃ (r : Nat) (ks : List Key) (k : Key), x = .s (.mp r) ∧ h[r]? = some (.keys so ks) ∧ keyAt i = some k ∧ k.isStr = so ∧ K (.s (.pl (.bool (decide (k ∈ ks)))))

/-- A new key into a map. -/
structure HSet (so : Bool) (h : Heap) (x i v : HV) (K : HV → Heap → Prop) : Prop where
  out : ∃ (r : Nat) (ks : List Key) (k : Key), x = .s (.mp r) ∧ v = .s (.pl (.bool true)) ∧ h[r]? = some (.keys so ks) ∧ keyAt i = some k ∧ k.isStr = so ∧ k ∉ ks ∧ K .dead (h.set r (.keys so (k :: ks)))

structure HSlice (h : Heap) (x : HV) (lo hi : Option HV) (K : HV → Prop) : Prop where
  out : ∃ (n l u : Nat), lenOf x = some n ∧ (lo = none ∧ l = 0 ∨ ∃ k, lo = some (.s (.pl (.int k (l : Int))))) ∧ (hi = none ∧ u = n ∨ ∃ k, hi = some (.s (.pl (.int k (u : Int))))) ∧ l ≤ u ∧
    (u ≤ n ∨ ∃ r off len cs, x = .s (.sl r off len) ∧ h[r]? = some (.own cs) ∧ off + u ≤ cs.length) ∧
    match x with
    | .s (.sl r off _) => K (.s (.sl r (off + l) (u - l)))
    | .s (.pl (.slice a 0 c)) => K (.s (.pl (.slice a 0 c)))
    | _ => False

/-- A part of a string. -/
structure HSub (x : HV) (lo hi : Option HV) (K : HV → Prop) : Prop where
  out : ∃ (s : ByteArray) (l u : Nat), x = .s (.pl (.string s)) ∧ (lo = none ∧ l = 0 ∨ ∃ k, lo = some (.s (.pl (.int k (l : Int))))) ∧ (hi = none ∧ u = s.size ∨ ∃ k, hi = some (.s (.pl (.int k (u : Int))))) ∧ l ≤ u ∧ u ≤ s.size ∧ K (.s (.pl (.string (s.extract l u))))

/-- A slice with three indexes, of whose value no use is made. -/
structure HSlice3 (x lo hi mx : HV) (K : HV → Prop) : Prop where
  out : ∃ (n l u m : Nat) (k1 k2 k3 : IntKind), lenOf x = some n ∧ lo = .s (.pl (.int k1 (l : Int))) ∧ hi = .s (.pl (.int k2 (u : Int))) ∧ mx = .s (.pl (.int k3 (m : Int))) ∧ l ≤ u ∧ u ≤ m ∧ m ≤ n ∧ K .dead

structure HClear (z : Value) (h : Heap) (x : HV) (K : HV → Heap → Prop) : Prop where
  out : (∃ n, lenOf x = some n ∧ n = 0 ∧ K (.tup []) h) ∨
    ∃ r off len cs, x = .s (.sl r off len) ∧ h[r]? = some (.own cs) ∧ off + len ≤ cs.length ∧ K (.tup []) (h.set r (.own (cs.take off ++ List.replicate len (.pl z) ++ cs.drop (off + len))))

structure HMake (z : Value) (l c : HV) (h : Heap) (K : HV → Heap → Prop) : Prop where
  out : ∃ (kl kc : IntKind) (n m : Nat), l = .s (.pl (.int kl (n : Int))) ∧ c = .s (.pl (.int kc (m : Int))) ∧ n ≤ m ∧ m ≤ 2 ^ 41 ∧ K (.s (.sl h.length 0 n)) (h ++ [.own (List.replicate m (.pl z))])

structure HApp (h : Heap) (s x : HV) (K : HV → Heap → Prop) : Prop where
  out : ∃ new : List H0, Shows h x new ∧ (∀ c ∈ new, c.one = true) ∧
    match s with
    | .s (.sl r off len) => ∃ cs, off = 0 ∧ h[r]? = some (.own cs) ∧ len ≤ cs.length ∧
      (len + new.length ≤ 2 ^ 41 ∧ K (.s (.sl h.length 0 (len + new.length))) (h.set r .gone ++ [.own (cs.take len ++ new)]) ∨
        len + new.length ≤ cs.length ∧ K (.s (.sl r 0 (len + new.length))) (h.set r (.own (cs.take len ++ new ++ cs.drop (len + new.length)))))
    | .s (.pl (.slice none 0 0)) => new.length ≤ 2 ^ 41 ∧ if new.length = 0 then K (.s (.pl (.slice none 0 0))) h else K (.s (.sl h.length 0 new.length)) (h ++ [.own new])
    | _ => False

/-- A call of function k: whatever world bears the heap, the call comes back, and what it leaves is as R says. -/
structure HCalls (dm : Bool) (P : Program) (k : FuncId) (args : List HV) (h : Heap) (R : HV → Heap → Prop) : Prop where
  enters : ∀ (as : Array Value) (w : World), (callFunc k as).run P w = .ok (.enter k as) w
  out : ∀ (B0 : Nat) (φ : Plan) (w : World) (vargs : Array Value), Rep B0 φ h w → repVs φ args vargs.toList →
    Calls P k vargs w fun e w' => ∃ v x h' φ', e = .returned v ∧ R x h' ∧ Sub φ φ' ∧ Rep B0 φ' h' w' ∧ repV φ' x v ∧ Lat dm B0 w w'

theorem HCalls.mono {P : Program} {k : FuncId} {args : List HV} {h : Heap} {R R' : HV → Heap → Prop} (H : HCalls dm P k args h R) (hr : ∀ x h', R x h' → R' x h') : HCalls dm P k args h R' :=
  ⟨H.enters, fun B0 φ w vargs r a => (H.out B0 φ w vargs r a).mono fun _ _ ⟨v, x, h', φ', e, q, rest⟩ => ⟨v, x, h', φ', e, hr _ _ q, rest⟩⟩

structure HBox (x : HV) (h : Heap) (K : HV → Heap → Prop) : Prop where
  out : ∃ c, x = .s c ∧ c.one = true ∧ K (.s (.ptr h.length 0)) (h ++ [.own [c]])

/-- A new variable that holds a struct. -/
structure HBoxA (xs : List H0) (h : Heap) (K : HV → Heap → Prop) : Prop where
  out : (∀ c ∈ xs, c.one = true) ∧ K (.s (.ptr h.length 0)) (h ++ [.own xs])

/-- The fields of a struct, one after the other put in place. -/
noncomputable def setParts (ev : Operand → HV) (xs : List H0) (l : List (Nat × Operand)) : Option (List H0) :=
  List.rec (motive := fun _ => List H0 → Option (List H0)) (fun xs => some xs) (fun p _ ih xs => match ev p.2 with
    | .s c => bif Nat.blt p.1 xs.length then ih (xs.set p.1 c) else none
    | _ => none) l xs

theorem setParts_nil (ev : Operand → HV) (xs : List H0) : setParts ev xs [] = some xs := rfl
theorem setParts_cons (ev : Operand → HV) (xs : List H0) (i : Nat) (x : Operand) (rest : List (Nat × Operand)) : setParts ev xs ((i, x) :: rest) = (match ev x with
    | .s c => bif Nat.blt i xs.length then setParts ev (xs.set i c) rest else none
    | _ => none) := rfl

/-- The parts of a literal, in their order, from number k on. -/
noncomputable def partsOf (ev : Operand → HV) (k : Nat) (l : List (Nat × Operand)) : Option (List H0) :=
  List.rec (motive := fun _ => Nat → Option (List H0)) (fun _ => some []) (fun p _ ih k => if p.1 = k then
      match ev p.2, ih (k + 1) with
      | .s c, some cs => some (c :: cs)
      | _, _ => none
    else none) l k

theorem partsOf_nil (ev : Operand → HV) (k : Nat) : partsOf ev k [] = some [] := rfl
theorem partsOf_cons (ev : Operand → HV) (k i : Nat) (x : Operand) (rest : List (Nat × Operand)) : partsOf ev k ((i, x) :: rest) = (if i = k then
      match ev x, partsOf ev (k + 1) rest with
      | .s c, some cs => some (c :: cs)
      | _, _ => none
    else none) := rfl

structure HLit (z : Value) (n : Nat) (cs : Option (List H0)) (h : Heap) (K : HV → Heap → Prop) : Prop where
  out : ∃ xs, cs = some xs ∧ xs.length = n ∧ n ≤ 4096 ∧ (∀ c ∈ xs, c.one = true) ∧ K (.s (.sl h.length 0 n)) (h ++ [.own xs])

/-- The parts of a literal of elements of several cells. -/
noncomputable def partsW (ev : Operand → HV) (k : Nat) (l : List (Nat × Operand)) : Option (List (List H0)) :=
  List.rec (motive := fun _ => Nat → Option (List (List H0))) (fun _ => some []) (fun p _ ih k => if p.1 = k then
      match ev p.2, ih (k + 1) with
      | .agg c, some cs => some (c :: cs)
      | _, _ => none
    else none) l k

theorem partsW_nil (ev : Operand → HV) (k : Nat) : partsW ev k [] = some [] := rfl
theorem partsW_cons (ev : Operand → HV) (k i : Nat) (x : Operand) (rest : List (Nat × Operand)) : partsW ev k ((i, x) :: rest) = (if i = k then
      match ev x, partsW ev (k + 1) rest with
      | .agg c, some cs => some (c :: cs)
      | _, _ => none
    else none) := rfl

structure HLitW (k n : Nat) (cs : Option (List (List H0))) (h : Heap) (K : HV → Heap → Prop) : Prop where
  small : k ≤ 4096
  out : ∃ xs, cs = some xs ∧ xs.length = n ∧ n ≤ 4096 ∧ (∀ c ∈ xs, c.length = k ∧ ∀ y ∈ c, y.one = true) ∧ K (.s (.sw k h.length 0 n)) (h ++ [.own xs.flatten])

/-- Elements of k cells, appended to one's own. -/
structure HAppW (k : Nat) (h : Heap) (s x : HV) (K : HV → Heap → Prop) : Prop where
  out : ∃ (m : Nat) (new : List H0) (r len : Nat) (cs : List H0), ShowsW k h x m new ∧ 0 < m ∧ (∀ c ∈ new, c.one = true) ∧ s = .s (.sw k r 0 len) ∧ h[r]? = some (.own cs) ∧ k * len ≤ cs.length ∧ len + m ≤ 2 ^ 36 ∧
    K (.s (.sw k h.length 0 (len + m))) (h.set r .gone ++ [.own (cs.take (k * len) ++ new)])

/-- The capacity of a slice that is a plain value. -/
structure HCap (x : HV) (K : HV → Prop) : Prop where
  out : ∃ (a : Option Addr) (n c : Nat), x = .s (.pl (.slice a n c)) ∧ K (.s (.pl (.int .i64 c)))

/-- n zeros, appended to nil. -/
structure HAppZ (z : Value) (h : Heap) (s x : HV) (K : HV → Heap → Prop) : Prop where
  out : ∃ (k : IntKind) (n : Nat), s = .s (.pl (.slice none 0 0)) ∧ x = .s (.pl (.int k (n : Int))) ∧ 0 < n ∧ n ≤ 2 ^ 41 ∧ K (.s (.sl h.length 0 n)) (h ++ [.own (List.replicate n (.pl z))])

/-- n zeros, appended to what one has. -/
structure HAppZ2 (z : Value) (h : Heap) (s x : HV) (K : HV → Heap → Prop) : Prop where
  out : ∃ (k : IntKind) (n r len : Nat) (cs : List H0), s = .s (.sl r 0 len) ∧ x = .s (.pl (.int k (n : Int))) ∧ 0 < n ∧ len + n ≤ 2 ^ 41 ∧ h[r]? = some (.own cs) ∧ len ≤ cs.length ∧
    K (.s (.sl h.length 0 (len + n))) (h.set r .gone ++ [.own (cs.take len ++ List.replicate n (.pl z))])

def hBuiltin (kd : TypeId → Kd) (b : Builtin) (xs : List HV) (ts : List TypeId) (h : Heap) (K : HV → Heap → Prop) : Prop :=
  match b with
  | .len => match xs with
    | [x] => match ts with
      | [t] => match kd t with
        | .str => HLenS x (fun v => K v h)
        | .slw _ => HLenW x (fun v => K v h)
        | d => d.isSl = true ∧ HLen x (fun v => K v h)
      | _ => False
    | _ => False
  | .max => match xs with
    | [x, y] => HMax x y (fun v => K v h)
    | _ => False
  | .min => match xs with
    | [x, y] => HMin x y (fun v => K v h)
    | _ => False
  | .append => match xs with
    | [s, x] => match ts with
      | [t, u] => match kd u with
        | .int _ => match kd t with
          | .sl z => match s with
            | .s (.sl _ _ _) => HAppZ2 z h s x K
            | _ => HAppZ z h s x K
          | _ => False
        | .slw zs => t = u ∧ HAppW zs.length h s x K
        | _ => t = u ∧ (kd t).isSl = true ∧ HApp h s x K
      | _ => False
    | _ => False
  | .copy => match xs with
    | [x, y] => match ts with
      | [t, u] => t = u ∧ (kd t).isSl = true ∧ HCopy h x y K
      | _ => False
    | _ => False
  | .clear => match xs with
    | [x] => match ts with
      | [t] => match kd t with
        | .sl z => HClear z h x K
        | _ => False
      | _ => False
    | _ => False
  | .cap => match xs with
    | [x] => match ts with
      | [t] => (kd t).isSl = true ∧ HCap x (fun v => K v h)
      | _ => False
    | _ => False
  | _ => False

def hCall (dm : Bool) (P : Program) (kd : TypeId → Kd) (c : Call) (ev : Operand → HV) (h : Heap) (K : HV → Heap → Prop) : Prop :=
  match c.callee with
  | .builtin b => hBuiltin kd b (c.args.toList.map ev) c.argTypes.toList h K
  | .value f =>
    match ev f with
    | .fn k caps => HCalls dm P k (c.args.toList.map ev ++ caps.map .s) h K
    | _ => False
  | _ => False

def hForce (v : HV) (K : HV → Prop) : Prop :=
  match v with
  | .s x => K (.s x)
  | .tup xs => K (.tup xs)
  | .fn f xs => K (.fn f xs)
  | .agg xs => K (.agg xs)
  | .dead => K .dead

/-- No nil pointer: the value as it is. -/
def hCheck (v : HV) (K : HV → Prop) : Prop :=
  match v with
  | .s (.ptr r o) => K (.s (.ptr r o))
  | .fn f xs => K (.fn f xs)
  | _ => False

theorem hForce_elim {v : HV} {K : HV → Prop} (H : hForce v K) : K v := by
  cases v <;> exact H

def hOp (dm : Bool) (P : Program) (kd : TypeId → Kd) (o : Op) (ev : Operand → HV) (h : Heap) (K : HV → Heap → Prop) : Prop :=
  match o with
  | .move x => hForce (ev x) fun v => K v h
  | .assign x => hForce (ev x) fun v => K v h
  | .pick c a b => hIf (ev c) (K (ev a) h) (K (ev b) h)
  | .binOp op t x y _ => hBin op (kd t) (isK y) (ev x) (ev y) (fun v => K v h)
  | .unOp op _ x => hUn op (ev x) (fun v => K v h)
  | .indexAddr t x i => match kd t with
    | .slw zs => HIdxW zs.length (ev x) (ev i) (fun v => K v h)
    | .arr n _ => HIdxA n (ev x) (ev i) (fun v => K v h)
    | d => d.isSl = true ∧ HIdx h (ev x) (ev i) (fun v => K v h)
  | .load t p => match kd t with
    | .rcd zs => HLoadA zs.length h (ev p) (fun v => K v h)
    | .arr n _ => HLoadA n h (ev p) (fun v => K v h)
    | d => d.one = true ∧ HLoad h (ev p) (fun v => K v h)
  | .makeMap t none => match kd t with
    | .keys so => K (.s (.mp h.length)) (h ++ [.keys so []])
    | _ => False
  | .lookup t x i false => match kd t with
    | .keys so => HLook so h (ev x) (ev i) (fun v => K v h)
    | _ => False
  | .mapUpdate t m k v => match kd t with
    | .keys so => HSet so h (ev m) (ev k) (ev v) K
    | _ => False
  | .insert t m k v => match kd t with
    | .keys so => HSet so h (ev m) (ev k) (ev v) K
    | _ => False
  | .store t p v => match kd t with
    | .rcd zs => HStoreA zs.length h (ev p) (ev v) K
    | .arr n _ => HStoreA n h (ev p) (ev v) K
    | d => d.one = true ∧ HStore h (ev p) (ev v) K
  | .alloc t => match kd t with
    | .arr n z => K (.s (.pa h.length n)) (h ++ [.own (List.replicate n (.pl z))])
    | d => match d.zeros with
      | some zs => K (.s (.ptr h.length 0)) (h ++ [.own (zs.map .pl)])
      | none => False
  | .slice t x lo hi none => match kd t with
    | .arr n _ => HSliceA n (ev x) (lo.map ev) (hi.map ev) (fun v => K v h)
    | .str => HSub (ev x) (lo.map ev) (hi.map ev) (fun v => K v h)
    | d => d.isSl = true ∧ HSlice h (ev x) (lo.map ev) (hi.map ev) (fun v => K v h)
  | .slice t x (some lo) (some hi) (some mx) => (kd t).isSl = true ∧ HSlice3 (ev x) (ev lo) (ev hi) (ev mx) (fun v => K v h)
  | .makeSlice t l c => match kd t with
    | .sl z => HMake z (ev l) (ev c) h K
    | _ => False
  | .buildSlice t n parts => match kd t with
    | .sl z => HLit z n (partsOf ev 0 parts.toList) h K
    | .slw zs => HLitW zs.length n (partsW ev 0 parts.toList) h K
    | _ => False
  | .box t x => match ev x with
    | .agg xs => match kd t with
      | .arr n _ => HBoxP n xs h K
      | _ => HBoxA xs h K
    | x => (kd t).one = true ∧ HBox x h K
  | .build t parts => match kd t with
    | .rcd zs => HRec (setParts ev (zs.map .pl) parts.toList) (atoms (parts.toList.map fun p => ev p.2)) (fun v => K v h)
    | .arr n z => HRec (setParts ev (List.replicate n (.pl z)) parts.toList) (atoms (parts.toList.map fun p => ev p.2)) (fun v => K v h)
    | _ => False
  | .fieldAddr s x f => match kd s with
    | .rcd zs => HField zs.length (ev x) f (fun v => K v h)
    | _ => False
  | .field s x f => match kd s with
    | .rcd zs => HPart zs.length (ev x) f (fun v => K v h)
    | _ => False
  | .nilCheck x => hCheck (ev x) (fun v => K v h)
  | .convert s t x => match kd t with
    | .int k => match kd s with
      | .int _ => HConv k (ev x) (fun v => K v h)
      | _ => False
    | .str => HText P s t h (ev x) (fun v => K v h)
    | _ => False
  | .index t x i => match kd t with
    | .str => HByte (ev x) (ev i) (fun v => K v h)
    | .arr n _ => HAt n (ev x) (ev i) (fun v => K v h)
    | _ => False
  | .extract x i => match ev x with
    | .tup xs => match xs[i]? with
      | some c => K (.s c) h
      | none => False
    | _ => False
  | .makeFunc (.func f) first caps => match first.toList, atoms (caps.toList.map ev) with
    | [], some cs => K (.fn f cs) h
    | _, _ => False
  | .call c => hCall dm P kd c ev h K
  | _ => False

abbrev Fr := Nat → HV

def put (n : Nat) (fr : Fr) (dst : Option Tmp) (v : HV) (K : Fr → Prop) : Prop :=
  match dst with
  | some d => bif Nat.blt d n then K (fun t => bif Nat.beq t d then v else fr t) else False
  | none => K fr

def hEval (fr : Fr) : Operand → HV
  | .tmp t => fr t
  | .const v => .s (.pl v)
  | .global g => .s (.pl (.pointer (some ⟨g, 0, none⟩)))
  | .func f => .fn f []

/-- Is the operation wanted? The Bool that its guard looks at. -/
def guardOf (ops : List Oper) (fr : Fr) (j : Nat) : HV :=
  match ops[j]? with
  | some o => match o.dst with
    | some d => fr d
    | none => .dead
  | none => .dead

def hOps (dm : Bool) (P : Program) (kd : TypeId → Kd) (n : Nat) (ops : List Oper) (l : List Oper) : (Fr → Heap → Prop) → Fr → Heap → Prop :=
  List.rec (motive := fun _ => (Fr → Heap → Prop) → Fr → Heap → Prop) (fun Q fr h => Q fr h) (fun o _ ih Q fr h =>
    match o.guard with
    | none => hOp dm P kd o.op (hEval fr) h fun v h' => put n fr o.dst v fun fr' => ih Q fr' h'
    | some (j, w) => hGuard (guardOf ops fr j) w (hOp dm P kd o.op (hEval fr) h fun v h' => put n fr o.dst v fun fr' => ih Q fr' h')
        (put n fr o.dst (.tup []) fun fr' => ih Q fr' h)) l

theorem hOps_cons (dm : Bool) (P : Program) (kd : TypeId → Kd) (n : Nat) (ops : List Oper) (o : Oper) (rest : List Oper) (Q : Fr → Heap → Prop) (fr : Fr) (h : Heap) : hOps dm P kd n ops (o :: rest) Q fr h = (match o.guard with
    | none => hOp dm P kd o.op (hEval fr) h fun v h' => put n fr o.dst v fun fr' => hOps dm P kd n ops rest Q fr' h'
    | some (j, w) => hGuard (guardOf ops fr j) w (hOp dm P kd o.op (hEval fr) h fun v h' => put n fr o.dst v fun fr' => hOps dm P kd n ops rest Q fr' h')
        (put n fr o.dst (.tup []) fun fr' => hOps dm P kd n ops rest Q fr' h)) := rfl

/-! ### A region that draws its order: its operations only read; a call hands back a value without an address. -/

structure HCallQ (dm : Bool) (P : Program) (k : FuncId) (args : List HV) (h : Heap) (K : HV → Prop) : Prop where
  out : ∃ v, HCalls dm P k args (freeze h) (fun x _ => x = .s (.pl v)) ∧ K (.s (.pl v))

/-- Operations that leave the world alone. -/
def hOpV (kd : TypeId → Kd) (o : Op) (ev : Operand → HV) (h : Heap) (K : HV → Prop) : Prop :=
  match o with
  | .move x => hForce (ev x) K
  | .assign x => hForce (ev x) K
  | .pick c a b => hIf (ev c) (K (ev a)) (K (ev b))
  | .binOp op t x y _ => hBin op (kd t) (isK y) (ev x) (ev y) K
  | .unOp op _ x => hUn op (ev x) K
  | .indexAddr t x i => match kd t with
    | .slw zs => HIdxW zs.length (ev x) (ev i) K
    | .arr n _ => HIdxA n (ev x) (ev i) K
    | d => d.isSl = true ∧ HIdx h (ev x) (ev i) K
  | .load t p => match kd t with
    | .rcd zs => HLoadA zs.length h (ev p) K
    | .arr n _ => HLoadA n h (ev p) K
    | d => d.one = true ∧ HLoad h (ev p) K
  | .lookup t x i false => match kd t with
    | .keys so => HLook so h (ev x) (ev i) K
    | _ => False
  | .slice t x lo hi none => match kd t with
    | .arr n _ => HSliceA n (ev x) (lo.map ev) (hi.map ev) K
    | .str => HSub (ev x) (lo.map ev) (hi.map ev) K
    | d => d.isSl = true ∧ HSlice h (ev x) (lo.map ev) (hi.map ev) K
  | .fieldAddr s x f => match kd s with
    | .rcd zs => HField zs.length (ev x) f K
    | _ => False
  | .nilCheck x => hCheck (ev x) K
  | .convert s t x => match kd t with
    | .int k => match kd s with
      | .int _ => HConv k (ev x) K
      | _ => False
    | _ => False
  | .index t x i => match kd t with
    | .str => HByte (ev x) (ev i) K
    | .arr n _ => HAt n (ev x) (ev i) K
    | _ => False
  | .extract x i => match ev x with
    | .tup xs => match xs[i]? with
      | some c => K (.s c)
      | none => False
    | _ => False
  | .call c =>
    match c.callee with
    | .builtin .len => hBuiltin kd .len (c.args.toList.map ev) c.argTypes.toList h (fun v _ => K v)
    | _ => False
  | _ => False

def hOpQ (dm : Bool) (P : Program) (kd : TypeId → Kd) (o : Op) (ev : Operand → HV) (h : Heap) (K : HV → Prop) : Prop :=
  match o with
  | .call c =>
    match c.callee with
    | .value f =>
      match ev f with
      | .fn k caps => HCallQ dm P k (c.args.toList.map ev ++ caps.map .s) h K
      | _ => False
    | _ => hOpV kd o ev h K
  | _ => hOpV kd o ev h K

/-- The head of a region that draws its order, whose tail is forced. -/
def hOpsV (kd : TypeId → Kd) (n : Nat) (ops : List Oper) (l : List Oper) : (Fr → Prop) → Fr → Heap → Prop :=
  List.rec (motive := fun _ => (Fr → Prop) → Fr → Heap → Prop) (fun Q fr _ => Q fr) (fun o _ ih Q fr h =>
    match o.guard with
    | none => hOpV kd o.op (hEval fr) h fun v => put n fr o.dst v fun fr' => ih Q fr' h
    | some (j, w) => hGuard (guardOf ops fr j) w (hOpV kd o.op (hEval fr) h fun v => put n fr o.dst v fun fr' => ih Q fr' h)
        (put n fr o.dst (.tup []) fun fr' => ih Q fr' h)) l

theorem hOpsV_cons (kd : TypeId → Kd) (n : Nat) (ops : List Oper) (o : Oper) (rest : List Oper) (Q : Fr → Prop) (fr : Fr) (h : Heap) : hOpsV kd n ops (o :: rest) Q fr h = (match o.guard with
    | none => hOpV kd o.op (hEval fr) h fun v => put n fr o.dst v fun fr' => hOpsV kd n ops rest Q fr' h
    | some (j, w) => hGuard (guardOf ops fr j) w (hOpV kd o.op (hEval fr) h fun v => put n fr o.dst v fun fr' => hOpsV kd n ops rest Q fr' h)
        (put n fr o.dst (.tup []) fun fr' => hOpsV kd n ops rest Q fr' h)) := rfl

def hOpsQ (dm : Bool) (P : Program) (kd : TypeId → Kd) (n : Nat) (ops : List Oper) (l : List Oper) : (Fr → Prop) → Fr → Heap → Prop :=
  List.rec (motive := fun _ => (Fr → Prop) → Fr → Heap → Prop) (fun Q fr _ => Q fr) (fun o _ ih Q fr h =>
    match o.guard with
    | none => hOpQ dm P kd o.op (hEval fr) h fun v => put n fr o.dst v fun fr' => ih Q fr' h
    | some (j, w) => hGuard (guardOf ops fr j) w (hOpQ dm P kd o.op (hEval fr) h fun v => put n fr o.dst v fun fr' => ih Q fr' h)
        (put n fr o.dst (.tup []) fun fr' => ih Q fr' h)) l

theorem hOpsQ_cons (dm : Bool) (P : Program) (kd : TypeId → Kd) (n : Nat) (ops : List Oper) (o : Oper) (rest : List Oper) (Q : Fr → Prop) (fr : Fr) (h : Heap) : hOpsQ dm P kd n ops (o :: rest) Q fr h = (match o.guard with
    | none => hOpQ dm P kd o.op (hEval fr) h fun v => put n fr o.dst v fun fr' => hOpsQ dm P kd n ops rest Q fr' h
    | some (j, w) => hGuard (guardOf ops fr j) w (hOpQ dm P kd o.op (hEval fr) h fun v => put n fr o.dst v fun fr' => hOpsQ dm P kd n ops rest Q fr' h)
        (put n fr o.dst (.tup []) fun fr' => hOpsQ dm P kd n ops rest Q fr' h)) := rfl

/-! ### A region that draws its order: first what only reads, then the others as they must come. -/

structure HCallF (dm : Bool) (P : Program) (k : FuncId) (args : List HV) (h : Heap) (K : HV → Heap → Prop) : Prop where
  out : HCalls dm P k args (freeze h) (fun x h' => ∃ t, h' = freeze h ++ t ∧ (∀ r ∈ t, r.notRo = true) ∧ K x (h ++ t))

def hOpF (dm : Bool) (P : Program) (kd : TypeId → Kd) (o : Op) (ev : Operand → HV) (h : Heap) (K : HV → Heap → Prop) : Prop :=
  match o with
  | .makeSlice t l c => match kd t with
    | .sl z => HMake z (ev l) (ev c) h K
    | _ => False
  | .buildSlice t n parts => match kd t with
    | .sl z => HLit z n (partsOf ev 0 parts.toList) h K
    | .slw zs => HLitW zs.length n (partsW ev 0 parts.toList) h K
    | _ => False
  | .call c =>
    match c.callee with
    | .value f =>
      match ev f with
      | .fn k caps => HCallF dm P k (c.args.toList.map ev ++ caps.map .s) h K
      | _ => False
    | _ => hOpV kd o ev h (fun v => K v h)
  | _ => hOpV kd o ev h (fun v => K v h)

/-- The others, in their order; b: number t has not come up yet. -/
def hSig (dm : Bool) (P : Program) (kd : TypeId → Kd) (n : Nat) (ops : List Oper) (t : Nat) (l : List Nat) : Bool → (Fr → Heap → Prop) → Fr → Heap → Prop :=
  List.rec (motive := fun _ => Bool → (Fr → Heap → Prop) → Fr → Heap → Prop) (fun _ Q fr h => Q fr h) (fun i _ ih b Q fr h =>
    match ops[i]? with
    | none => False
    | some o =>
      match o.guard with
      | none => (bif b && !Nat.beq i t then hOpF dm P kd o.op (hEval fr) h else hOp dm P kd o.op (hEval fr) h) fun v h' => put n fr o.dst v fun fr' => ih (b && !Nat.beq i t) Q fr' h'
      | some (j, w) => hGuard (guardOf ops fr j) w ((bif b && !Nat.beq i t then hOpF dm P kd o.op (hEval fr) h else hOp dm P kd o.op (hEval fr) h) fun v h' => put n fr o.dst v fun fr' => ih (b && !Nat.beq i t) Q fr' h')
          (put n fr o.dst (.tup []) fun fr' => ih (b && !Nat.beq i t) Q fr' h)) l

theorem hSig_cons (dm : Bool) (P : Program) (kd : TypeId → Kd) (n : Nat) (ops : List Oper) (t i : Nat) (is : List Nat) (b : Bool) (Q : Fr → Heap → Prop) (fr : Fr) (h : Heap) : hSig dm P kd n ops t (i :: is) b Q fr h = (match ops[i]? with
    | none => False
    | some o =>
      match o.guard with
      | none => (bif b && !Nat.beq i t then hOpF dm P kd o.op (hEval fr) h else hOp dm P kd o.op (hEval fr) h) fun v h' => put n fr o.dst v fun fr' => hSig dm P kd n ops t is (b && !Nat.beq i t) Q fr' h'
      | some (j, w) => hGuard (guardOf ops fr j) w ((bif b && !Nat.beq i t then hOpF dm P kd o.op (hEval fr) h else hOp dm P kd o.op (hEval fr) h) fun v h' => put n fr o.dst v fun fr' => hSig dm P kd n ops t is (b && !Nat.beq i t) Q fr' h')
          (put n fr o.dst (.tup []) fun fr' => hSig dm P kd n ops t is (b && !Nat.beq i t) Q fr' h)) := rfl

/-- All orders of the rest. -/
def hTree (dm : Bool) (P : Program) (kd : TypeId → Kd) (n : Nat) (ops : List Oper) (t : Tr) : (Fr → Heap → Prop) → Fr → Heap → Prop :=
  Tr.rec (motive := fun _ => (Fr → Heap → Prop) → Fr → Heap → Prop) (fun Q fr h => Q fr h)
  (fun i _ ih Q fr h =>
    match ops[i]? with
    | none => False
    | some o =>
      match o.guard with
      | none => hOp dm P kd o.op (hEval fr) h fun v h' => put n fr o.dst v fun fr' => ih Q fr' h'
      | some _ => False)
  (fun i _ j _ ih ih2 Q fr h =>
    (match ops[i]? with
    | none => False
    | some o =>
      match o.guard with
      | none => hOp dm P kd o.op (hEval fr) h fun v h' => put n fr o.dst v fun fr' => ih Q fr' h'
      | some _ => False) ∧
    (match ops[j]? with
    | none => False
    | some o =>
      match o.guard with
      | none => hOp dm P kd o.op (hEval fr) h fun v h' => put n fr o.dst v fun fr' => ih2 Q fr' h'
      | some _ => False))
  (fun i _ j _ k _ ih ih2 ih3 Q fr h =>
    (match ops[i]? with
    | none => False
    | some o =>
      match o.guard with
      | none => hOp dm P kd o.op (hEval fr) h fun x h' => put n fr o.dst x fun fr' => ih Q fr' h'
      | some _ => False) ∧
    (match ops[j]? with
    | none => False
    | some o =>
      match o.guard with
      | none => hOp dm P kd o.op (hEval fr) h fun x h' => put n fr o.dst x fun fr' => ih2 Q fr' h'
      | some _ => False) ∧
    (match ops[k]? with
    | none => False
    | some o =>
      match o.guard with
      | none => hOp dm P kd o.op (hEval fr) h fun x h' => put n fr o.dst x fun fr' => ih3 Q fr' h'
      | some _ => False)) t

/-! ### Code -/

inductive Ex where
  | normal
  | exit (id : Nat)
  | ret

/-- The slots that a piece of code writes. -/
def writes : Code → List Nat
  | .region _ ops _ => ops.toList.filterMap (·.dst)
  | .seq a b => writes a ++ writes b
  | .cond _ a b => writes a ++ writes b
  | .block _ b => writes b
  | .loop b => writes b
  | .scope b => writes b
  | _ => []

def readsOf (xs : List Operand) : List Nat := xs.filterMap fun | .tmp t => some t | _ => none

/-- The slots that a list of operations reads before it has written them, given those that are written already. -/
def needOps (ops : List Oper) : List Oper → List Nat → List Nat × List Nat
  | [], done => ([], done)
  | o :: rest, done =>
    let r := (readsOf o.op.operands.toList ++ (match o.guard with
      | some (j, _) => (((ops[j]?).bind (·.dst)).toList)
      | none => [])).filter fun t => !done.contains t
    let (r', d') := needOps ops rest (match o.dst with
      | some d => d :: done
      | none => done)
    (r ++ r', d')

/-- The same of code: what is read before it is surely written, and what is surely written behind it. -/
def need : Code → List Nat → List Nat × List Nat
  | .region _ ops _, done => needOps ops.toList ops.toList done
  | .seq a b, done =>
    let (r, d) := need a done
    let (r', d') := need b d
    (r ++ r', d')
  | .cond c a b, done =>
    let (r, _) := need a done
    let (r', _) := need b done
    ((readsOf [c]).filter (fun t => !done.contains t) ++ r ++ r', done)
  | .block _ b, done => ((need b done).1, done)
  | .loop b, done => ((need b done).1, done)
  | .scope b, done => ((need b done).1, done)
  | _, done => ([], done)

/-- The slots that a loop hands on from round to round: those that its body writes and also reads before it writes them, and those that the code behind may want (the locals, of number below m). -/
def carried (m : Nat) (b : Code) : List Nat :=
  let w := writes b
  ((need b []).1.filter (fun t => w.contains t) ++ w.filter (fun t => Nat.blt t m)).eraseDups

/-- The frame in a round: what the body does not write is as it was; what is handed on comes out of the list; all else is not known. -/
noncomputable def place (fr : Fr) (w : List Nat) (l : List Nat) : List HV → Fr :=
  List.rec (motive := fun _ => List HV → Fr) (fun _ t => bif w.contains t then .dead else fr t) (fun l _ ih vs => match vs with
    | [] => fun t => bif Nat.beq t l then .dead else ih [] t
    | v :: vs => fun t => bif Nat.beq t l then v else ih vs t) l

theorem place_nil (fr : Fr) (w : List Nat) (vs : List HV) : place fr w [] vs = fun t => bif w.contains t then .dead else fr t := rfl
theorem place_none (fr : Fr) (w : List Nat) (l : Nat) (ls : List Nat) : place fr w (l :: ls) [] = fun t => bif Nat.beq t l then .dead else place fr w ls [] t := rfl
theorem place_cons (fr : Fr) (w : List Nat) (l : Nat) (ls : List Nat) (v : HV) (vs : List HV) : place fr w (l :: ls) (v :: vs) = fun t => bif Nat.beq t l then v else place fr w ls vs t := rfl

/-- A loop: something holds at its head in each round, and a number goes down. -/
structure HLoop (L W : List Nat) (fr : Fr) (h : Heap) (body : List Nat → Fr → Heap → (List HV → Heap → Prop) → Prop) : Prop where
  out : ∃ (J : List HV → Heap → Prop) (μ : List HV → Heap → Nat), J (L.map fr) h ∧ ∀ vs h, J vs h → body L (place fr W L vs) h fun vs' h' => J vs' h' ∧ μ vs' h' < μ vs h

theorem HLoop.intro {L W : List Nat} {fr : Fr} {h : Heap} {body : List Nat → Fr → Heap → (List HV → Heap → Prop) → Prop} (L' W' : List Nat) (hL : L = L') (hW : W = W') (J : List HV → Heap → Prop) (μ : List HV → Heap → Nat)
    (h0 : J (L'.map fr) h) (hr : ∀ vs h, J vs h → body L' (place fr W' L' vs) h fun vs' h' => J vs' h' ∧ μ vs' h' < μ vs h) : HLoop L W fr h body := by
  subst hL
  subst hW
  exact ⟨J, μ, h0, hr⟩

def hwp (dm : Bool) (P : Program) (kd : TypeId → Kd) (n m : Nat) (c : Code) : (Ex → Fr → Heap → Prop) → Fr → Heap → Prop :=
  Code.rec (motive := fun _ => (Ex → Fr → Heap → Prop) → Fr → Heap → Prop)
    (fun Q fr h => Q .normal fr h)
    (fun _ ops dr Q fr h => match dr with
      | false => hOps dm P kd n ops.toList ops.toList (Q .normal) fr h
      | true => (Region.lexB .any ops = true ∧ hOpsQ dm P kd n ops.toList ops.toList (fun fr' => Q .normal fr' h) fr h) ∨
        (∃ k, Region.lexTailB .any ops k = true ∧ hOpsV kd n ops.toList (ops.toList.take k) (fun fr' => hOps dm P kd n ops.toList (ops.toList.drop k) (Q .normal) fr' h) fr h) ∨
        (∃ (t : Nat) (ps ss : List Nat), heldOk ops t ps ss = true ∧ hOpsV kd n ops.toList (ps.filterMap fun i => ops.toList[i]?) (fun fr' => hSig dm P kd n ops.toList t ss true (Q .normal) fr' h) fr h) ∨
        ∃ (ps : List Nat) (tr : Tr), treeAll ops ps tr = true ∧ hOpsV kd n ops.toList (ps.filterMap fun i => ops.toList[i]?) (fun fr' => hTree dm P kd n ops.toList tr (Q .normal) fr' h) fr h)
    (fun _ _ iha ihb Q fr h => iha (fun e fr' h' => match e with | .normal => ihb Q fr' h' | e => Q e fr' h') fr h)
    (fun c _ _ iha ihb Q fr h => hIf (hEval fr c) (iha Q fr h) (ihb Q fr h))
    (fun id _ ih Q fr h => ih (fun e fr' h' => match e with | .exit j => (if j = id then Q .normal fr' h' else Q (.exit j) fr' h') | e => Q e fr' h') fr h)
    (fun b ih Q fr h => HLoop (carried m b) (writes b) fr h fun L fr2 h2 J => ih (fun e fr' h' => match e with | .normal => J (L.map fr') h' | e => Q e fr' h') fr2 h2)
    (fun _ _ _ _ _ _ _ _ _ => False)
    (fun id Q fr h => Q (.exit id) fr h)
    (fun _ ih Q fr h => ih Q fr h)
    (fun _ _ _ _ => False)
    (fun _ _ _ _ => False)
    (fun Q fr h => Q .ret fr h)
    (fun _ _ _ _ => False) c

end Go.Proofs.Ytjgnnjegaedinaa.Hx
