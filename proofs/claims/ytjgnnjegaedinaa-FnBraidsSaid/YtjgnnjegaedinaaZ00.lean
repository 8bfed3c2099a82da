/-
  The tables of start-up code that the calculus of rows knows of: the block, the cells.
  A small calculus of rows over the model's memory: abstract heaps of rows, abstract values, and what it means that a world of the model bears them. Nothing of a program is named here.
  A region that draws its order, taken in one order: first operations that only read, then the others in the one order that they allow. Until the operation number t has come up the world stays in a class C in which what only reads yields the same.
-/
import Derived.WalkKit
import Derived.WalkSpells
import Derived.WalkLawsBesides
import Derived.Deep.QuietTactic
import Derived.BigQuiet
import Derived.OrdersHeld
import Derived.StillTail
namespace Go.Proofs.Ytjgnnjegaedinaa.Hx
def tabG : Nat := 0
def tabI : List Nat := []
def tabE : List Nat := []
def tabs : List (Nat × Array Value) := []
end Go.Proofs.Ytjgnnjegaedinaa.Hx

namespace Go.Proofs.Ytjgnnjegaedinaa.Hx
open Go.RowKit
variable {dm : Bool}

/-- What a cell holds: a value without an address in it; a slice of a row; the address of a row's cell; a slice of elements of k cells each; a map; the address of an array of n cells. -/
inductive H0 where
  | pl (v : Value)
  | sl (r off len : Nat)
  | ptr (r off : Nat)
  | sw (k r off len : Nat)
  | mp (r : Nat)
  | pa (r n : Nat)
  deriving Inhabited

/-- A key of a map: a string; four numbers. -/
inductive Key where
  | str (s : ByteArray)
  | arr (a b c d : Int)
  deriving DecidableEq

def Key.val : Key → Value
  | .str s => .string s
  | .arr a b c d => .agg #[.int .i64 a, .int .i64 b, .int .i64 c, .int .i64 d]

def Key.isStr : Key → Bool
  | .str _ => true
  | .arr _ _ _ _ => false

theorem Key.val_inj {x y : Key} (h : x.val = y.val) : x = y := by
  cases x <;> cases y <;> simp_all [Key.val]

/-- What a slot holds. -/
inductive HV where
  | s (x : H0)
  | tup (xs : List H0)
  | fn (f : FuncId) (xs : List H0)
  | agg (xs : List H0)
  | dead
  deriving Inhabited

/-- A row of memory: only read; one's own; given up. And a map of one's own: its keys, all of which it holds true. -/
inductive Row where
  | ro (cells : List H0)
  | own (cells : List H0)
  | gone
  | keys (so : Bool) (ks : List Key)
  deriving Inhabited

abbrev Heap := List Row

/-- Where a row lies: the block, the offset of its first cell, the number of its cells. -/
structure Place where
  b : Nat
  o : Nat
  n : Nat

abbrev Plan := List Place

/-- The second plan goes on from the first. -/
def Sub (φ ψ : Plan) : Prop := ∀ (r : Nat) (p : Place), φ[r]? = some p → ψ[r]? = some p

theorem Sub.refl (φ : Plan) : Sub φ φ := fun _ _ h => h
theorem Sub.trans {a b c : Plan} (h : Sub a b) (k : Sub b c) : Sub a c := fun r p q => k r p (h r p q)
theorem Sub.push (φ : Plan) (p : Place) : Sub φ (φ ++ [p]) := by
  intro r q h
  have hr : r < φ.length := (List.getElem?_eq_some_iff.1 h).1
  rw [List.getElem?_append_left hr]
  exact h

def rep0 (φ : Plan) : H0 → Value → Prop
  | .pl v, u => u = v
  | .sl r off len, u => ∃ p a cap, φ[r]? = some p ∧ u = .slice (some a) len cap ∧ len ≤ cap ∧ cap ≤ maxLen ∧ off + cap = p.n ∧ (cap ≠ 0 → a = ⟨p.b, p.o + off, none⟩)
  | .ptr r off, u => ∃ p, φ[r]? = some p ∧ u = .pointer (some ⟨p.b, p.o + off, none⟩)
  | .sw k r off len, u => ∃ p a cap, φ[r]? = some p ∧ u = .slice (some a) len cap ∧ len ≤ cap ∧ cap ≤ maxLen ∧ off + k * cap = p.n ∧ (cap ≠ 0 → a = ⟨p.b, p.o + off, none⟩)
  | .mp r, u => ∃ p, φ[r]? = some p ∧ u = .map (some p.b)
  | .pa r n, u => ∃ p, φ[r]? = some p ∧ u = .pointer (some ⟨p.b, p.o, none⟩) ∧ p.n = n

def repL (φ : Plan) : List H0 → List Value → Prop
  | [], [] => True
  | x :: xs, v :: vs => rep0 φ x v ∧ repL φ xs vs
  | _, _ => False

def repV (φ : Plan) : HV → Value → Prop
  | .s x, v => rep0 φ x v
  | .tup xs, v => ∃ vs : Array Value, v = .tuple vs ∧ repL φ xs vs.toList
  | .fn f xs, v => ∃ vs : Array Value, v = .func (.func f) #[] vs ∧ repL φ xs vs.toList
  | .agg xs, v => ∃ vs : Array Value, v = .agg vs ∧ repL φ xs vs.toList
  | .dead, _ => True

def repVs (φ : Plan) : List HV → List Value → Prop
  | [], [] => True
  | x :: xs, v :: vs => repV φ x v ∧ repVs φ xs vs
  | _, _ => False

theorem rep0.mono {φ ψ : Plan} (h : Sub φ ψ) {x : H0} {v : Value} (k : rep0 φ x v) : rep0 ψ x v := by
  cases x with
  | pl u => exact k
  | sl r off len =>
    obtain ⟨p, a, cap, h1, h2⟩ := k
    exact ⟨p, a, cap, h _ _ h1, h2⟩
  | ptr r off =>
    obtain ⟨p, h1, h2⟩ := k
    exact ⟨p, h _ _ h1, h2⟩
  | sw k r off len =>
    obtain ⟨p, a, cap, h1, h2⟩ := k
    exact ⟨p, a, cap, h _ _ h1, h2⟩
  | mp r =>
    obtain ⟨p, h1, h2⟩ := k
    exact ⟨p, h _ _ h1, h2⟩
  | pa r n =>
    obtain ⟨p, h1, h2⟩ := k
    exact ⟨p, h _ _ h1, h2⟩

theorem repL.mono {φ ψ : Plan} (h : Sub φ ψ) : ∀ {xs : List H0} {vs : List Value}, repL φ xs vs → repL ψ xs vs
  | [], [], _ => trivial
  | _ :: _, _ :: _, k => ⟨k.1.mono h, repL.mono h k.2⟩

theorem repV.mono {φ ψ : Plan} (h : Sub φ ψ) {x : HV} {v : Value} (k : repV φ x v) : repV ψ x v := by
  cases x with
  | s x => exact rep0.mono h k
  | tup xs => obtain ⟨vs, e, k⟩ := k; exact ⟨vs, e, k.mono h⟩
  | fn f xs => obtain ⟨vs, e, k⟩ := k; exact ⟨vs, e, k.mono h⟩
  | agg xs => obtain ⟨vs, e, k⟩ := k; exact ⟨vs, e, k.mono h⟩
  | dead => trivial

theorem repVs.mono {φ ψ : Plan} (h : Sub φ ψ) : ∀ {xs : List HV} {vs : List Value}, repVs φ xs vs → repVs ψ xs vs
  | [], [], _ => trivial
  | _ :: _, _ :: _, k => ⟨k.1.mono h, repVs.mono h k.2⟩

theorem repL.length {φ : Plan} : ∀ {xs : List H0} {vs : List Value}, repL φ xs vs → xs.length = vs.length
  | [], [], _ => rfl
  | _ :: _, _ :: _, k => congrArg (· + 1) (repL.length k.2)

theorem repVs.length {φ : Plan} : ∀ {xs : List HV} {vs : List Value}, repVs φ xs vs → xs.length = vs.length
  | [], [], _ => rfl
  | _ :: _, _ :: _, k => congrArg (· + 1) (repVs.length k.2)

theorem repL.get {φ : Plan} : ∀ {xs : List H0} {vs : List Value}, repL φ xs vs → ∀ (i : Nat) (x : H0), xs[i]? = some x → ∃ v, vs[i]? = some v ∧ rep0 φ x v
  | [], [], _, _, _, h => by simp at h
  | _ :: _, v :: _, k, 0, x, h => by simp at h; subst h; exact ⟨v, rfl, k.1⟩
  | _ :: _, _ :: _, k, i + 1, x, h => by
    obtain ⟨v, e, r⟩ := repL.get k.2 i x (by simpa using h)
    exact ⟨v, by simpa using e, r⟩

theorem repVs.get {φ : Plan} : ∀ {xs : List HV} {vs : List Value}, repVs φ xs vs → ∀ (i : Nat) (x : HV), xs[i]? = some x → ∃ v, vs[i]? = some v ∧ repV φ x v
  | [], [], _, _, _, h => by simp at h
  | _ :: _, v :: _, k, 0, x, h => by simp at h; subst h; exact ⟨v, rfl, k.1⟩
  | _ :: _, _ :: _, k, i + 1, x, h => by
    obtain ⟨v, e, r⟩ := repVs.get k.2 i x (by simpa using h)
    exact ⟨v, by simpa using e, r⟩

theorem repVs.of {φ : Plan} : ∀ {xs : List HV} {vs : List Value}, xs.length = vs.length → (∀ (i : Nat) (x : HV) (v : Value), xs[i]? = some x → vs[i]? = some v → repV φ x v) → repVs φ xs vs
  | [], [], _, _ => trivial
  | x :: xs, v :: vs, h, k => ⟨k 0 x v rfl rfl, repVs.of (by simpa using h) fun i y u hy hu => k (i + 1) y u (by simpa using hy) (by simpa using hu)⟩
  | [], _ :: _, h, _ => by simp at h
  | _ :: _, [], h, _ => by simp at h

theorem repL.append {φ : Plan} : ∀ {xs : List H0} {vs : List Value} {ys : List H0} {us : List Value}, repL φ xs vs → repL φ ys us → repL φ (xs ++ ys) (vs ++ us)
  | [], [], _, _, _, k => k
  | _ :: _, _ :: _, _, _, h, k => ⟨h.1, repL.append h.2 k⟩

theorem repVs.append {φ : Plan} : ∀ {xs : List HV} {vs : List Value} {ys : List HV} {us : List Value}, repVs φ xs vs → repVs φ ys us → repVs φ (xs ++ ys) (vs ++ us)
  | [], [], _, _, _, k => k
  | _ :: _, _ :: _, _, _, h, k => ⟨h.1, repVs.append h.2 k⟩

theorem repVs.ofL {φ : Plan} : ∀ {xs : List H0} {vs : List Value}, repL φ xs vs → repVs φ (xs.map HV.s) vs
  | [], [], _ => trivial
  | _ :: _, _ :: _, h => ⟨h.1, repVs.ofL h.2⟩

/-- What the entries of a map say: all true, and just these keys. -/
structure Says (so : Bool) (ks : List Key) (ents : Array MapEntry) : Prop where
  all : ∀ e ∈ ents.toList, e.val = .bool true ∧ ∃ k ∈ ks, e.key = k.val
  has : ∀ k ∈ ks, k.isStr = so ∧ ∃ e ∈ ents.toList, e.key = k.val

/-- The cells of a block. -/
def blk (w : World) (g : Nat) : Option (Array Value) := match w.heap[g]? with
  | some (.cells cs _ _) => some cs
  | _ => none

/-- The listed tables lie below block B0, each with its cells; the listed numbers lie there too. -/
def TabAt (B0 : Nat) (w : World) : Prop := (∀ x ∈ tabs, x.1 < B0 ∧ blk w x.1 = some x.2) ∧ (∀ g ∈ tabI, g < B0 ∧ ∃ m, w.cell? ⟨g, 0, none⟩ = some (.int .i64 m)) ∧ ∀ g ∈ tabE, g < B0 ∧ ∃ ev, w.cell? ⟨g, 0, none⟩ = some ev ∧ (ev = .nilIface ∨ ∃ te pe, ev = .iface te pe)
theorem TabAt.keep {B0 : Nat} {w w' : World} (h : TabAt B0 w) (hb : ∀ k, k < B0 → w'.heap[k]? = w.heap[k]?) : TabAt B0 w' := by
  refine ⟨fun x hx => ?_, fun g hg => ?_, fun g hg => ?_⟩
  · obtain ⟨h1, h2⟩ := h.1 x hx
    refine ⟨h1, ?_⟩
    rw [← h2]
    unfold blk
    rw [hb _ h1]
  · obtain ⟨h1, m, h2⟩ := h.2.1 g hg
    exact ⟨h1, m, by rw [World.cell?_of_block (w := w) (hb _ h1)]; exact h2⟩
  · obtain ⟨h1, m, h2, h3⟩ := h.2.2 g hg
    exact ⟨h1, m, by rw [World.cell?_of_block (w := w) (hb _ h1)]; exact h2, h3⟩
theorem TabAt.mono {B0 B1 : Nat} {w : World} (h : TabAt B0 w) (k : B0 ≤ B1) : TabAt B1 w := ⟨fun x hx => ⟨Nat.lt_of_lt_of_le (h.1 x hx).1 k, (h.1 x hx).2⟩, fun g hg => ⟨Nat.lt_of_lt_of_le (h.2.1 g hg).1 k, (h.2.1 g hg).2⟩, fun g hg => ⟨Nat.lt_of_lt_of_le (h.2.2 g hg).1 k, (h.2.2 g hg).2⟩⟩

/-- A world bears a heap of rows by a plan; B0: below it nothing is one's own. -/
structure Rep (B0 : Nat) (φ : Plan) (h : Heap) (w : World) : Prop where
  len : φ.length = h.length
  base : B0 ≤ w.heap.size
  ro : ∀ (r : Nat) (cs : List H0) (p : Place), h[r]? = some (.ro cs) → φ[r]? = some p → p.b < B0 ∧ ∀ (k : Nat) (c : H0), cs[k]? = some c → ∃ v, w.cell? ⟨p.b, p.o + k, none⟩ = some v ∧ rep0 φ c v
  own : ∀ (r : Nat) (cs : List H0) (p : Place), h[r]? = some (.own cs) → φ[r]? = some p → p.o = 0 ∧ B0 ≤ p.b ∧ cs.length ≤ p.n ∧
    ∃ (cur : Array Value) (e : TypeId), w.heap[p.b]? = some (.cells cur e (0, 0)) ∧ cur.size = p.n ∧ ∀ (k : Nat) (c : H0), cs[k]? = some c → ∃ v, cur[k]? = some v ∧ rep0 φ c v
  apart : ∀ (r r' : Nat) (cs cs' : List H0) (p p' : Place), r ≠ r' → h[r]? = some (.own cs) → h[r']? = some (.own cs') → φ[r]? = some p → φ[r']? = some p' → p.b ≠ p'.b
  keys : ∀ (r : Nat) (so : Bool) (ks : List Key) (p : Place), h[r]? = some (.keys so ks) → φ[r]? = some p → B0 ≤ p.b ∧ ∃ (ents : Array MapEntry) (clk : Nat), w.heap[p.b]? = some (.map ents clk) ∧ Says so ks ents
  apartK : ∀ (r r' : Nat) (so so' : Bool) (ks ks' : List Key) (p p' : Place), r ≠ r' → h[r]? = some (.keys so ks) → h[r']? = some (.keys so' ks') → φ[r]? = some p → φ[r']? = some p' → p.b ≠ p'.b
  tab : TabAt B0 w

/-- A map and a row of one's own lie in two blocks. -/
theorem Rep.apartM {B0 : Nat} {φ : Plan} {h : Heap} {w : World} (R : Rep B0 φ h w) {r r' : Nat} {cs : List H0} {so : Bool} {ks : List Key} {p p' : Place} (h1 : h[r]? = some (.own cs)) (h2 : h[r']? = some (.keys so ks)) (hp : φ[r]? = some p) (hp' : φ[r']? = some p') : p'.b ≠ p.b := by
  intro e
  obtain ⟨_, _, _, cur, t, g, _⟩ := R.own r cs p h1 hp
  obtain ⟨_, ents, clk, g', _⟩ := R.keys r' so ks p' h2 hp'
  rw [e, g] at g'
  cases g'

theorem Rep.place {B0 : Nat} {φ : Plan} {h : Heap} {w : World} (R : Rep B0 φ h w) {r : Nat} {x : Row} (hr : h[r]? = some x) : ∃ p, φ[r]? = some p := by
  have : r < φ.length := by rw [R.len]; exact (List.getElem?_eq_some_iff.1 hr).1
  exact ⟨φ[r], List.getElem?_eq_getElem this⟩

/-- A later world: below block B all is as it was; where 'dm' says so it has drawn no less. -/
structure Lat (dm : Bool) (B : Nat) (w w' : World) : Prop extends Below B w w' where
  drawn : dm = true → w.drawn ≤ w'.drawn

theorem Lat.refl (B : Nat) (w : World) : Lat dm B w w := ⟨Below.refl B w, fun _ => Nat.le_refl _⟩
theorem Lat.trans {B : Nat} {a b c : World} (h : Lat dm B a b) (k : Lat dm B b c) : Lat dm B a c := ⟨h.toBelow.trans k.toBelow, fun e => Nat.le_trans (h.drawn e) (k.drawn e)⟩
theorem Lat.mono {B B' : Nat} {w w' : World} (h : Lat dm B w w') (hB : B' ≤ B) : Lat dm B' w w' := ⟨h.toBelow.mono hB, h.drawn⟩
theorem Lat.drew {B : Nat} {a w : World} (h : Lat dm B a w) : Lat dm B a w.drew := ⟨h.toBelow.drew, fun e => Nat.le_succ_of_le (h.drawn e)⟩
theorem Lat.alloc {B : Nat} {a w : World} (h : Lat dm B a w) (hB : B ≤ w.heap.size) (o : Obj) : Lat dm B a (w.alloc o) := ⟨h.toBelow.alloc hB o, h.drawn⟩
theorem Lat.setCell {B : Nat} {a w : World} (h : Lat dm B a w) {p : Addr} (hp : B ≤ p.block) (u : Value) : Lat dm B a (w.setCell p u) := ⟨h.toBelow.setCell hp u, h.drawn⟩

/-- All blocks that were there are as they were. -/
theorem Rep.still {B0 : Nat} {φ : Plan} {h : Heap} {w w' : World} (R : Rep B0 φ h w) (hs : w.heap.size ≤ w'.heap.size) (hb : ∀ k, k < w.heap.size → w'.heap[k]? = w.heap[k]?) : Rep B0 φ h w' where
  len := R.len
  base := Nat.le_trans R.base hs
  ro := fun r cs p h1 h2 => by
    obtain ⟨g1, g2⟩ := R.ro r cs p h1 h2
    refine ⟨g1, fun k c hc => ?_⟩
    obtain ⟨v, e1, e2⟩ := g2 k c hc
    exact ⟨v, by rw [World.cell?_of_block (w := w) (hb _ (Nat.lt_of_lt_of_le g1 R.base))]; exact e1, e2⟩
  own := fun r cs p h1 h2 => by
    obtain ⟨g1, g2, g3, cur, e, g4, g5⟩ := R.own r cs p h1 h2
    exact ⟨g1, g2, g3, cur, e, by rw [hb _ (Array.getElem?_eq_some_iff.1 g4).1]; exact g4, g5⟩
  apart := R.apart
  keys := fun r so ks p h1 h2 => by
    obtain ⟨g1, ents, clk, g2, g3⟩ := R.keys r so ks p h1 h2
    exact ⟨g1, ents, clk, by rw [hb _ (Array.getElem?_eq_some_iff.1 g2).1]; exact g2, g3⟩
  apartK := R.apartK
  tab := R.tab.keep fun k hk => hb k (Nat.lt_of_lt_of_le hk R.base)

theorem Rep.below {B0 : Nat} {φ : Plan} {h : Heap} {w w' : World} (R : Rep B0 φ h w) (hb : Lat dm w.heap.size w w') : Rep B0 φ h w' := R.still hb.size hb.block

/-- A new row. -/
theorem Rep.push {B0 : Nat} {φ : Plan} {h : Heap} {w : World} (R : Rep B0 φ h w) (cur : Array Value) (e : TypeId) (cs : List H0) (hl : cs.length ≤ cur.size)
    (hc : ∀ (k : Nat) (c : H0), cs[k]? = some c → ∃ v, cur[k]? = some v ∧ rep0 φ c v) : Rep B0 (φ ++ [⟨w.heap.size, 0, cur.size⟩]) (h ++ [.own cs]) (w.alloc (.cells cur e)) := by
  have R' : Rep B0 φ h (w.alloc (.cells cur e)) := R.still (by simp) (fun k hk => Below.heap_alloc w _ k hk)
  have hold : ∀ (r : Nat) (x : Row), r < h.length → (h ++ [Row.own cs])[r]? = some x → h[r]? = some x := fun r x hr hx => by rw [List.getElem?_append_left hr] at hx; exact hx
  have hpl : ∀ (r : Nat) (p : Place), r < h.length → (φ ++ [(⟨w.heap.size, 0, cur.size⟩ : Place)])[r]? = some p → φ[r]? = some p := fun r p hr hx => by rw [List.getElem?_append_left (by rw [R.len]; exact hr)] at hx; exact hx
  have hlast : ∀ (r : Nat) (x : Row), ¬ r < h.length → (h ++ [Row.own cs])[r]? = some x → r = h.length ∧ x = .own cs := fun r x hr hx => by
    rw [List.getElem?_append_right (by omega)] at hx
    have : r - h.length = 0 := by
      have := (List.getElem?_eq_some_iff.1 hx).1
      simp at this
      omega
    rw [this] at hx
    simp at hx
    exact ⟨by omega, hx.symm⟩
  have hplast : ∀ (p : Place), (φ ++ [(⟨w.heap.size, 0, cur.size⟩ : Place)])[h.length]? = some p → p = ⟨w.heap.size, 0, cur.size⟩ := fun p hx => by
    rw [← R.len, List.getElem?_append_right (Nat.le_refl _)] at hx
    simp at hx
    exact hx.symm
  refine ⟨by simp [R.len], R'.base, fun r xs p h1 h2 => ?_, fun r xs p h1 h2 => ?_, fun r r' xs xs' p p' hne h1 h1' h2 h2' => ?_, fun r so ks p h1 h2 => ?_, fun r r' so so' ks ks' p p' hne h1 h1' h2 h2' => ?_, R'.tab⟩
  rotate_right 2
  · by_cases hr : r < h.length
    · exact R'.keys r so ks p (hold r _ hr h1) (hpl r p hr h2)
    · cases (hlast r _ hr h1).2
  · have key : ∀ (q : Nat) (so : Bool) (ks : List Key), (h ++ [Row.own cs])[q]? = some (.keys so ks) → q < h.length := fun q so ks hq => by
      by_cases hl : q < h.length
      · exact hl
      · cases (hlast q _ hl hq).2
    have l1 := key r so ks h1
    have l2 := key r' so' ks' h1'
    exact R.apartK r r' so so' ks ks' p p' hne (hold r _ l1 h1) (hold r' _ l2 h1') (hpl r p l1 h2) (hpl r' p' l2 h2')
  · by_cases hr : r < h.length
    · obtain ⟨g1, g2⟩ := R'.ro r xs p (hold r _ hr h1) (hpl r p hr h2)
      refine ⟨g1, fun k c hk => ?_⟩
      obtain ⟨v, e1, e2⟩ := g2 k c hk
      exact ⟨v, e1, e2.mono (Sub.push _ _)⟩
    · have := (hlast r _ hr h1).2
      cases this
  · by_cases hr : r < h.length
    · obtain ⟨g1, g2, g3, cur', e', g4, g5, g6⟩ := R'.own r xs p (hold r _ hr h1) (hpl r p hr h2)
      refine ⟨g1, g2, g3, cur', e', g4, g5, fun k c hk => ?_⟩
      obtain ⟨v, e1, e2⟩ := g6 k c hk
      exact ⟨v, e1, e2.mono (Sub.push _ _)⟩
    · obtain ⟨e1, e2⟩ := hlast r _ hr h1
      subst e1
      cases e2
      obtain rfl := hplast p h2
      refine ⟨rfl, R.base, hl, cur, e, heap_alloc_new w _, rfl, fun k c hk => ?_⟩
      obtain ⟨v, e1, e2⟩ := hc k c hk
      exact ⟨v, e1, e2.mono (Sub.push _ _)⟩
  · have old : ∀ (q : Nat) (ys : List H0) (pq : Place), q < h.length → (h ++ [Row.own cs])[q]? = some (.own ys) → (φ ++ [(⟨w.heap.size, 0, cur.size⟩ : Place)])[q]? = some pq → pq.b < w.heap.size := fun q ys pq hq k1 k2 => by
      obtain ⟨_, _, _, cur', e', g4, _⟩ := R.own q ys pq (hold q _ hq k1) (hpl q pq hq k2)
      exact (Array.getElem?_eq_some_iff.1 g4).1
    by_cases hr : r < h.length <;> by_cases hr' : r' < h.length
    · exact R.apart r r' xs xs' p p' hne (hold r _ hr h1) (hold r' _ hr' h1') (hpl r p hr h2) (hpl r' p' hr' h2')
    · have := old r xs p hr h1 h2
      have e := (hlast r' _ hr' h1').1
      subst e
      obtain rfl := hplast p' h2'
      exact Nat.ne_of_lt this
    · have := old r' xs' p' hr' h1' h2'
      have e := (hlast r _ hr h1).1
      subst e
      obtain rfl := hplast p h2
      exact Nat.ne_of_gt this
    · exact absurd ((hlast r _ hr h1).1.trans (hlast r' _ hr' h1').1.symm) hne

/-- One's own row r is written anew, in the world and in the heap. -/
theorem Rep.rewrite {B0 : Nat} {φ : Plan} {h : Heap} {w w' : World} (R : Rep B0 φ h w) {r : Nat} {cs cs' : List H0} {p : Place} (hr : h[r]? = some (.own cs)) (hp : φ[r]? = some p)
    (hs : w'.heap.size = w.heap.size) (hb : ∀ k, k ≠ p.b → w'.heap[k]? = w.heap[k]?) {cur : Array Value} {e : TypeId} (hn : w'.heap[p.b]? = some (.cells cur e (0, 0))) (hc : cur.size = p.n) (hl : cs'.length ≤ p.n)
    (hcs : ∀ (k : Nat) (c : H0), cs'[k]? = some c → ∃ v, cur[k]? = some v ∧ rep0 φ c v) : Rep B0 φ (h.set r (.own cs')) w' := by
  obtain ⟨q1, q2, q3, _⟩ := R.own r cs p hr hp
  have hrl : r < h.length := (List.getElem?_eq_some_iff.1 hr).1
  have other : ∀ (q : Nat) (x : Row), q ≠ r → (h.set r (.own cs'))[q]? = some x → h[q]? = some x := fun q x hq hx => by rw [List.getElem?_set_ne (Ne.symm hq)] at hx; exact hx
  have same : ∀ (x : Row), (h.set r (.own cs'))[r]? = some x → x = .own cs' := fun x hx => by rw [List.getElem?_set_self hrl] at hx; exact (Option.some.inj hx).symm
  have keyq : ∀ (q : Nat) (so : Bool) (ks : List Key), (h.set r (.own cs'))[q]? = some (.keys so ks) → h[q]? = some (.keys so ks) := fun q so ks hq => by
    by_cases e : q = r
    · subst e; cases same _ hq
    · exact other q _ e hq
  refine ⟨by simp [R.len], by rw [hs]; exact R.base, fun q xs pq h1 h2 => ?_, fun q xs pq h1 h2 => ?_, fun q q' xs xs' pq pq' hne h1 h1' h2 h2' => ?_, fun q so ks pq h1 h2 => ?_, fun q q' so so' ks ks' pq pq' hne h1 h1' h2 h2' => R.apartK q q' so so' ks ks' pq pq' hne (keyq _ _ _ h1) (keyq _ _ _ h1') h2 h2', R.tab.keep fun k hk => hb k (by omega)⟩
  rotate_right
  · obtain ⟨g1, ents, clk, g2, g3⟩ := R.keys q so ks pq (keyq _ _ _ h1) h2
    exact ⟨g1, ents, clk, by rw [hb _ (R.apartM hr (keyq _ _ _ h1) hp h2)]; exact g2, g3⟩
  · by_cases hq : q = r
    · subst hq; cases same _ h1
    · obtain ⟨g1, g2⟩ := R.ro q xs pq (other q _ hq h1) h2
      refine ⟨g1, fun k c hk => ?_⟩
      obtain ⟨v, e1, e2⟩ := g2 k c hk
      exact ⟨v, by rw [World.cell?_of_block (w := w) (hb _ (by show pq.b ≠ p.b; omega))]; exact e1, e2⟩
  · by_cases hq : q = r
    · subst hq
      cases same _ h1
      obtain rfl : p = pq := Option.some.inj (hp.symm.trans h2)
      exact ⟨q1, q2, hl, cur, e, hn, hc, hcs⟩
    · obtain ⟨g1, g2, g3, cur', e', g4, g5⟩ := R.own q xs pq (other q _ hq h1) h2
      exact ⟨g1, g2, g3, cur', e', by rw [hb _ (R.apart q r xs cs pq p hq (other q _ hq h1) hr h2 hp)]; exact g4, g5⟩
  · have key : ∀ (x : Nat) (ys : List H0), (h.set r (.own cs'))[x]? = some (.own ys) → ∃ zs, h[x]? = some (.own zs) := fun x ys hx => by
      by_cases hxr : x = r
      · subst hxr; exact ⟨cs, hr⟩
      · exact ⟨ys, other x _ hxr hx⟩
    obtain ⟨z, hz⟩ := key q xs h1
    obtain ⟨z', hz'⟩ := key q' xs' h1'
    exact R.apart q q' z z' pq pq' hne hz hz' h2 h2'

/-- A new map. -/
theorem Rep.pushMap {B0 : Nat} {φ : Plan} {h : Heap} {w : World} (R : Rep B0 φ h w) (so : Bool) : Rep B0 (φ ++ [⟨w.heap.size, 0, 0⟩]) (h ++ [.keys so []]) (w.alloc (.map #[] 0)) := by
  have R' : Rep B0 φ h (w.alloc (.map #[] 0)) := R.still (by simp) (fun k hk => Below.heap_alloc w _ k hk)
  have hold : ∀ (r : Nat) (x : Row), r < h.length → (h ++ [Row.keys so []])[r]? = some x → h[r]? = some x := fun r x hr hx => by rw [List.getElem?_append_left hr] at hx; exact hx
  have hpl : ∀ (r : Nat) (p : Place), r < h.length → (φ ++ [(⟨w.heap.size, 0, 0⟩ : Place)])[r]? = some p → φ[r]? = some p := fun r p hr hx => by rw [List.getElem?_append_left (by rw [R.len]; exact hr)] at hx; exact hx
  have hlast : ∀ (r : Nat) (x : Row), ¬ r < h.length → (h ++ [Row.keys so []])[r]? = some x → r = h.length ∧ x = .keys so [] := fun r x hr hx => by
    rw [List.getElem?_append_right (by omega)] at hx
    have : r - h.length = 0 := by
      have := (List.getElem?_eq_some_iff.1 hx).1
      simp at this
      omega
    rw [this] at hx
    simp at hx
    exact ⟨by omega, hx.symm⟩
  have hplast : ∀ (p : Place), (φ ++ [(⟨w.heap.size, 0, 0⟩ : Place)])[h.length]? = some p → p = ⟨w.heap.size, 0, 0⟩ := fun p hx => by
    rw [← R.len, List.getElem?_append_right (Nat.le_refl _)] at hx
    simp at hx
    exact hx.symm
  have owq : ∀ (q : Nat) (ys : List H0), (h ++ [Row.keys so []])[q]? = some (.own ys) → q < h.length := fun q ys hq => by
    by_cases hl : q < h.length
    · exact hl
    · cases (hlast q _ hl hq).2
  refine ⟨by simp [R.len], R'.base, fun r xs p h1 h2 => ?_, fun r xs p h1 h2 => ?_, fun r r' xs xs' p p' hne h1 h1' h2 h2' => ?_, fun r so' ks p h1 h2 => ?_, fun r r' so1 so2 ks ks' p p' hne h1 h1' h2 h2' => ?_, R'.tab⟩
  · by_cases hr : r < h.length
    · obtain ⟨g1, g2⟩ := R'.ro r xs p (hold r _ hr h1) (hpl r p hr h2)
      refine ⟨g1, fun k c hk => ?_⟩
      obtain ⟨v, e1, e2⟩ := g2 k c hk
      exact ⟨v, e1, e2.mono (Sub.push _ _)⟩
    · cases (hlast r _ hr h1).2
  · have hr := owq r xs h1
    obtain ⟨g1, g2, g3, cur', e', g4, g5, g6⟩ := R'.own r xs p (hold r _ hr h1) (hpl r p hr h2)
    refine ⟨g1, g2, g3, cur', e', g4, g5, fun k c hk => ?_⟩
    obtain ⟨v, e1, e2⟩ := g6 k c hk
    exact ⟨v, e1, e2.mono (Sub.push _ _)⟩
  · have hr := owq r xs h1
    have hr' := owq r' xs' h1'
    exact R.apart r r' xs xs' p p' hne (hold r _ hr h1) (hold r' _ hr' h1') (hpl r p hr h2) (hpl r' p' hr' h2')
  · by_cases hr : r < h.length
    · exact R'.keys r so' ks p (hold r _ hr h1) (hpl r p hr h2)
    · obtain ⟨e1, e2⟩ := hlast r _ hr h1
      subst e1
      cases e2
      obtain rfl := hplast p h2
      exact ⟨R.base, #[], 0, heap_alloc_new w _, ⟨fun e he => by simp at he, fun k hk => by simp at hk⟩⟩
  · have old : ∀ (q : Nat) (so : Bool) (ys : List Key) (pq : Place), q < h.length → h[q]? = some (.keys so ys) → φ[q]? = some pq → pq.b < w.heap.size := fun q so ys pq hq k1 k2 => by
      obtain ⟨_, ents, clk, g4, _⟩ := R.keys q so ys pq k1 k2
      exact (Array.getElem?_eq_some_iff.1 g4).1
    by_cases hr : r < h.length <;> by_cases hr' : r' < h.length
    · exact R.apartK r r' so1 so2 ks ks' p p' hne (hold r _ hr h1) (hold r' _ hr' h1') (hpl r p hr h2) (hpl r' p' hr' h2')
    · have := old r so1 ks p hr (hold r _ hr h1) (hpl r p hr h2)
      have e := (hlast r' _ hr' h1').1
      subst e
      obtain rfl := hplast p' h2'
      exact Nat.ne_of_lt this
    · have := old r' so2 ks' p' hr' (hold r' _ hr' h1') (hpl r' p' hr' h2')
      have e := (hlast r _ hr h1).1
      subst e
      obtain rfl := hplast p h2
      exact Nat.ne_of_gt this
    · exact absurd ((hlast r _ hr h1).1.trans (hlast r' _ hr' h1').1.symm) hne

/-- A map of one's own is written anew. -/
theorem Rep.rewriteMap {B0 : Nat} {φ : Plan} {h : Heap} {w w' : World} (R : Rep B0 φ h w) {r : Nat} {so : Bool} {ks ks' : List Key} {p : Place} (hr : h[r]? = some (.keys so ks)) (hp : φ[r]? = some p)
    (hs : w'.heap.size = w.heap.size) (hb : ∀ k, k ≠ p.b → w'.heap[k]? = w.heap[k]?) {ents : Array MapEntry} {clk : Nat} (hn : w'.heap[p.b]? = some (.map ents clk)) (hc : Says so ks' ents) : Rep B0 φ (h.set r (.keys so ks')) w' := by
  obtain ⟨q1, _⟩ := R.keys r so ks p hr hp
  have hrl : r < h.length := (List.getElem?_eq_some_iff.1 hr).1
  have other : ∀ (q : Nat) (x : Row), q ≠ r → (h.set r (.keys so ks'))[q]? = some x → h[q]? = some x := fun q x hq hx => by rw [List.getElem?_set_ne (Ne.symm hq)] at hx; exact hx
  have same : ∀ (x : Row), (h.set r (.keys so ks'))[r]? = some x → x = .keys so ks' := fun x hx => by rw [List.getElem?_set_self hrl] at hx; exact (Option.some.inj hx).symm
  have ownq : ∀ (q : Nat) (xs : List H0), (h.set r (.keys so ks'))[q]? = some (.own xs) → h[q]? = some (.own xs) := fun q xs hq => by
    by_cases e : q = r
    · subst e; cases same _ hq
    · exact other q _ e hq
  refine ⟨by simp [R.len], by rw [hs]; exact R.base, fun q xs pq h1 h2 => ?_, fun q xs pq h1 h2 => ?_, fun q q' xs xs' pq pq' hne h1 h1' h2 h2' => R.apart q q' xs xs' pq pq' hne (ownq _ _ h1) (ownq _ _ h1') h2 h2', fun q so' ys pq h1 h2 => ?_, fun q q' so1 so2 xs xs' pq pq' hne h1 h1' h2 h2' => ?_, R.tab.keep fun k hk => hb k (by omega)⟩
  · by_cases hq : q = r
    · subst hq; cases same _ h1
    · obtain ⟨g1, g2⟩ := R.ro q xs pq (other q _ hq h1) h2
      refine ⟨g1, fun k c hk => ?_⟩
      obtain ⟨v, e1, e2⟩ := g2 k c hk
      exact ⟨v, by rw [World.cell?_of_block (w := w) (hb _ (by show pq.b ≠ p.b; omega))]; exact e1, e2⟩
  · obtain ⟨g1, g2, g3, cur', e', g4, g5⟩ := R.own q xs pq (ownq _ _ h1) h2
    exact ⟨g1, g2, g3, cur', e', by rw [hb _ (Ne.symm (R.apartM (ownq _ _ h1) hr h2 hp))]; exact g4, g5⟩
  · by_cases hq : q = r
    · subst hq
      cases same _ h1
      obtain rfl : p = pq := Option.some.inj (hp.symm.trans h2)
      exact ⟨q1, ents, clk, hn, hc⟩
    · obtain ⟨g1, ents', clk', g2, g3⟩ := R.keys q so' ys pq (other q _ hq h1) h2
      exact ⟨g1, ents', clk', by rw [hb _ (R.apartK q r so' so ys ks pq p hq (other q _ hq h1) hr h2 hp)]; exact g2, g3⟩
  · have key : ∀ (x : Nat) (s : Bool) (ys : List Key), (h.set r (.keys so ks'))[x]? = some (.keys s ys) → ∃ s' zs, h[x]? = some (.keys s' zs) := fun x s ys hx => by
      by_cases hxr : x = r
      · subst hxr; exact ⟨so, ks, hr⟩
      · exact ⟨s, ys, other x _ hxr hx⟩
    obtain ⟨s1, z, hz⟩ := key q so1 xs h1
    obtain ⟨s2, z', hz'⟩ := key q' so2 xs' h1'
    exact R.apartK q q' s1 s2 z z' pq pq' hne hz hz' h2 h2'

/-- A row is given up. -/
theorem Rep.drop {B0 : Nat} {φ : Plan} {h : Heap} {w : World} (R : Rep B0 φ h w) (r : Nat) : Rep B0 φ (h.set r .gone) w := by
  have other : ∀ (q : Nat) (x : Row), x ≠ .gone → (h.set r .gone)[q]? = some x → h[q]? = some x := fun q x hq hx => by
    by_cases hqr : r = q
    · subst hqr
      have hl : r < h.length := by have := (List.getElem?_eq_some_iff.1 hx).1; simpa using this
      rw [List.getElem?_set_self hl] at hx
      exact absurd (Option.some.inj hx).symm hq
    · rw [List.getElem?_set_ne hqr] at hx; exact hx
  exact ⟨by simp [R.len], R.base, fun q xs p h1 h2 => R.ro q xs p (other q _ (by simp) h1) h2, fun q xs p h1 h2 => R.own q xs p (other q _ (by simp) h1) h2,
    fun q q' xs xs' p p' hne h1 h1' h2 h2' => R.apart q q' xs xs' p p' hne (other q _ (by simp) h1) (other q' _ (by simp) h1') h2 h2',
    fun q so ks p h1 h2 => R.keys q so ks p (other q _ (by simp) h1) h2, fun q q' so so' ks ks' p p' hne h1 h1' h2 h2' => R.apartK q q' so so' ks ks' p p' hne (other q _ (by simp) h1) (other q' _ (by simp) h1') h2 h2', R.tab⟩

/-- A row goes on under a new number, in the same place. -/
theorem Rep.move {B0 : Nat} {φ : Plan} {h : Heap} {w : World} (R : Rep B0 φ h w) {r : Nat} {cs : List H0} {p : Place} (hr : h[r]? = some (.own cs)) (hp : φ[r]? = some p) :
    Rep B0 (φ ++ [p]) (h.set r .gone ++ [.own cs]) w := by
  have hrl : r < h.length := (List.getElem?_eq_some_iff.1 hr).1
  have D := R.drop r
  have hold : ∀ (q : Nat) (x : Row), q < h.length → (h.set r .gone ++ [Row.own cs])[q]? = some x → (h.set r .gone)[q]? = some x := fun q x hq hx => by rw [List.getElem?_append_left (by simpa using hq)] at hx; exact hx
  have hpl : ∀ (q : Nat) (y : Place), q < h.length → (φ ++ [p])[q]? = some y → φ[q]? = some y := fun q y hq hx => by rw [List.getElem?_append_left (by rw [R.len]; exact hq)] at hx; exact hx
  have hlast : ∀ (q : Nat) (x : Row), ¬ q < h.length → (h.set r .gone ++ [Row.own cs])[q]? = some x → q = h.length ∧ x = .own cs := fun q x hq hx => by
    rw [List.getElem?_append_right (by simpa using Nat.le_of_not_lt hq)] at hx
    have h0 : q - (h.set r .gone).length = 0 := by
      have := (List.getElem?_eq_some_iff.1 hx).1
      simp at this ⊢
      omega
    rw [h0] at hx
    simp at hx h0
    exact ⟨by omega, hx.symm⟩
  have hplast : ∀ (y : Place), (φ ++ [p])[h.length]? = some y → y = p := fun y hx => by
    rw [← R.len, List.getElem?_append_right (Nat.le_refl _)] at hx
    simp at hx
    exact hx.symm
  have live : ∀ (q : Nat) (ys : List H0), (h.set r .gone)[q]? = some (.own ys) → q ≠ r ∧ h[q]? = some (.own ys) := fun q ys hx => by
    by_cases hqr : q = r
    · subst hqr; rw [List.getElem?_set_self hrl] at hx; cases hx
    · rw [List.getElem?_set_ne (Ne.symm hqr)] at hx; exact ⟨hqr, hx⟩
  have keyq : ∀ (q : Nat) (so : Bool) (ks : List Key), (h.set r .gone ++ [Row.own cs])[q]? = some (.keys so ks) → q < h.length := fun q so ks hq => by
    by_cases hl : q < h.length
    · exact hl
    · cases (hlast q _ hl hq).2
  refine ⟨by simp [R.len], R.base, fun q xs y h1 h2 => ?_, fun q xs y h1 h2 => ?_, fun q q' xs xs' y y' hne h1 h1' h2 h2' => ?_, fun q so ks y h1 h2 => D.keys q so ks y (hold q _ (keyq _ _ _ h1) h1) (hpl q y (keyq _ _ _ h1) h2),
    fun q q' so so' ks ks' y y' hne h1 h1' h2 h2' => D.apartK q q' so so' ks ks' y y' hne (hold q _ (keyq _ _ _ h1) h1) (hold q' _ (keyq _ _ _ h1') h1') (hpl q y (keyq _ _ _ h1) h2) (hpl q' y' (keyq _ _ _ h1') h2'), R.tab⟩
  · by_cases hq : q < h.length
    · obtain ⟨g1, g2⟩ := D.ro q xs y (hold q _ hq h1) (hpl q y hq h2)
      refine ⟨g1, fun k c hk => ?_⟩
      obtain ⟨v, e1, e2⟩ := g2 k c hk
      exact ⟨v, e1, e2.mono (Sub.push _ _)⟩
    · cases (hlast q _ hq h1).2
  · by_cases hq : q < h.length
    · obtain ⟨g1, g2, g3, cur', e', g4, g5, g6⟩ := D.own q xs y (hold q _ hq h1) (hpl q y hq h2)
      refine ⟨g1, g2, g3, cur', e', g4, g5, fun k c hk => ?_⟩
      obtain ⟨v, e1, e2⟩ := g6 k c hk
      exact ⟨v, e1, e2.mono (Sub.push _ _)⟩
    · obtain ⟨e1, e2⟩ := hlast q _ hq h1
      subst e1
      cases e2
      obtain rfl := hplast y h2
      obtain ⟨g1, g2, g3, cur', e', g4, g5, g6⟩ := R.own r cs y hr hp
      refine ⟨g1, g2, g3, cur', e', g4, g5, fun k c hk => ?_⟩
      obtain ⟨v, e1, e2⟩ := g6 k c hk
      exact ⟨v, e1, e2.mono (Sub.push _ _)⟩
  · by_cases hq : q < h.length <;> by_cases hq' : q' < h.length
    · exact D.apart q q' xs xs' y y' hne (hold q _ hq h1) (hold q' _ hq' h1') (hpl q y hq h2) (hpl q' y' hq' h2')
    · obtain ⟨l1, l2⟩ := live q xs (hold q _ hq h1)
      have e := (hlast q' _ hq' h1').1
      subst e
      obtain rfl := hplast y' h2'
      exact R.apart q r xs cs y y' l1 l2 hr (hpl q y hq h2) hp
    · obtain ⟨l1, l2⟩ := live q' xs' (hold q' _ hq' h1')
      have e := (hlast q _ hq h1).1
      subst e
      obtain rfl := hplast y h2
      exact R.apart r q' cs xs' y y' (Ne.symm l1) hr l2 hp (hpl q' y' hq' h2')
    · exact absurd ((hlast q _ hq h1).1.trans (hlast q' _ hq' h1').1.symm) hne

/-- All rows become rows that are only read, and nothing that is there is one's own. -/
def freeze (h : Heap) : Heap := h.map fun | .own cs => .ro cs | .keys _ _ => .gone | x => x

theorem freeze_get {h : Heap} {r : Nat} {cs : List H0} (k : h[r]? = some (.ro cs) ∨ h[r]? = some (.own cs)) : (freeze h)[r]? = some (.ro cs) := by
  rcases k with k | k <;> simp [freeze, k]

theorem get_freeze {h : Heap} {r : Nat} {cs : List H0} (k : (freeze h)[r]? = some (.ro cs)) : h[r]? = some (.ro cs) ∨ h[r]? = some (.own cs) := by
  simp only [freeze, List.getElem?_map, Option.map_eq_some_iff] at k
  obtain ⟨x, hx, e⟩ := k
  cases x with
  | ro ys => cases e; exact Or.inl hx
  | own ys => cases e; exact Or.inr hx
  | gone => cases e
  | keys so ks => cases e

theorem freeze_no_keys {h : Heap} {r : Nat} {so : Bool} {ks : List Key} (k : (freeze h)[r]? = some (.keys so ks)) : False := by
  simp only [freeze, List.getElem?_map, Option.map_eq_some_iff] at k
  obtain ⟨x, _, e⟩ := k
  cases x <;> cases e

theorem freeze_no_own {h : Heap} {r : Nat} {cs : List H0} (k : (freeze h)[r]? = some (.own cs)) : False := by
  simp only [freeze, List.getElem?_map, Option.map_eq_some_iff] at k
  obtain ⟨x, _, e⟩ := k
  cases x <;> cases e

theorem Rep.frozen {B0 : Nat} {φ : Plan} {h : Heap} {w : World} (R : Rep B0 φ h w) : Rep w.heap.size φ (freeze h) w where
  len := by simp [freeze, R.len]
  base := Nat.le_refl _
  ro := fun r cs p h1 h2 => by
    rcases get_freeze h1 with h1 | h1
    · obtain ⟨g1, g2⟩ := R.ro r cs p h1 h2
      exact ⟨Nat.lt_of_lt_of_le g1 R.base, g2⟩
    · obtain ⟨g1, g2, g3, cur, e, g4, g5, g6⟩ := R.own r cs p h1 h2
      refine ⟨(Array.getElem?_eq_some_iff.1 g4).1, fun k c hk => ?_⟩
      obtain ⟨v, e1, e2⟩ := g6 k c hk
      exact ⟨v, by rw [g1, Nat.zero_add, cell_of_row w p.b k cur e (0, 0) g4]; exact e1, e2⟩
  own := fun r cs p h1 _ => (freeze_no_own h1).elim
  apart := fun r r' cs cs' p p' _ h1 _ _ _ => (freeze_no_own h1).elim
  keys := fun r so ks p h1 _ => (freeze_no_keys h1).elim
  apartK := fun r r' so so' ks ks' p p' _ h1 _ _ _ => (freeze_no_keys h1).elim
  tab := R.tab.mono R.base

def Row.notRo : Row → Bool
  | .ro _ => false
  | _ => true

/-- Back from the frozen heap: what was one's own is one's own again, and what has come since is kept. -/
theorem Rep.thaw {B0 : Nat} {φ ψ : Plan} {h t : Heap} {w w' : World} (R : Rep B0 φ h w) (s : Sub φ ψ) (R' : Rep w.heap.size ψ (freeze h ++ t) w') (hb : Lat dm w.heap.size w w') (ht : ∀ x ∈ t, x.notRo = true) : Rep B0 ψ (h ++ t) w' := by
  have R1 : Rep B0 φ h w' := R.below hb
  have hfl : (freeze h).length = h.length := by simp [freeze]
  have old : ∀ (r : Nat) (x : Row), r < h.length → (h ++ t)[r]? = some x → h[r]? = some x := fun r x hr hx => by rw [List.getElem?_append_left hr] at hx; exact hx
  have new : ∀ (r : Nat) (x : Row), ¬ r < h.length → (h ++ t)[r]? = some x → (freeze h ++ t)[r]? = some x ∧ x ∈ t := fun r x hr hx => by
    rw [List.getElem?_append_right (by omega)] at hx
    rw [List.getElem?_append_right (by omega), hfl]
    exact ⟨hx, List.mem_of_getElem? hx⟩
  have place : ∀ (r : Nat) (p : Place) (x : Row), h[r]? = some x → ψ[r]? = some p → φ[r]? = some p := fun r p x hx hp => by
    obtain ⟨q, hq⟩ := R.place hx
    have := s r q hq
    rw [hp] at this
    cases this
    exact hq
  have ownlt : ∀ (r : Nat) (xs : List H0) (p : Place), h[r]? = some (.own xs) → φ[r]? = some p → p.b < w.heap.size := fun r xs p h1 h2 => by
    obtain ⟨_, _, _, cur, e, g4, _⟩ := R.own r xs p h1 h2
    exact (Array.getElem?_eq_some_iff.1 g4).1
  have maplt : ∀ (r : Nat) (so : Bool) (ks : List Key) (p : Place), h[r]? = some (.keys so ks) → φ[r]? = some p → p.b < w.heap.size := fun r so ks p h1 h2 => by
    obtain ⟨_, ents, clk, g2, _⟩ := R.keys r so ks p h1 h2
    exact (Array.getElem?_eq_some_iff.1 g2).1
  refine ⟨by rw [R'.len]; simp [freeze], R1.base, fun r xs p h1 h2 => ?_, fun r xs p h1 h2 => ?_, fun r r' xs xs' p p' hne h1 h1' h2 h2' => ?_, fun r so ks p h1 h2 => ?_, fun r r' so so' ks ks' p p' hne h1 h1' h2 h2' => ?_, R1.tab⟩
  rotate_right 2
  · by_cases hr : r < h.length
    · have h1 := old r _ hr h1
      exact R1.keys r so ks p h1 (place r p _ h1 h2)
    · obtain ⟨g1, g2⟩ := R'.keys r so ks p (new r _ hr h1).1 h2
      exact ⟨Nat.le_trans R.base g1, g2⟩
  · by_cases hr : r < h.length <;> by_cases hr' : r' < h.length
    · have h1 := old r _ hr h1
      have h1' := old r' _ hr' h1'
      exact R.apartK r r' so so' ks ks' p p' hne h1 h1' (place r p _ h1 h2) (place r' p' _ h1' h2')
    · have h1 := old r _ hr h1
      have := maplt r so ks p h1 (place r p _ h1 h2)
      obtain ⟨g2, _⟩ := R'.keys r' so' ks' p' (new r' _ hr' h1').1 h2'
      omega
    · have h1' := old r' _ hr' h1'
      have := maplt r' so' ks' p' h1' (place r' p' _ h1' h2')
      obtain ⟨g2, _⟩ := R'.keys r so ks p (new r _ hr h1).1 h2
      omega
    · exact R'.apartK r r' so so' ks ks' p p' hne (new r _ hr h1).1 (new r' _ hr' h1').1 h2 h2'
  · by_cases hr : r < h.length
    · have h1 := old r _ hr h1
      obtain ⟨g1, g2⟩ := R1.ro r xs p h1 (place r p _ h1 h2)
      refine ⟨g1, fun k c hk => ?_⟩
      obtain ⟨v, e1, e2⟩ := g2 k c hk
      exact ⟨v, e1, e2.mono s⟩
    · have := ht _ (new r _ hr h1).2
      cases this
  · by_cases hr : r < h.length
    · have h1 := old r _ hr h1
      obtain ⟨g1, g2, g3, cur, e, g4, g5, g6⟩ := R1.own r xs p h1 (place r p _ h1 h2)
      refine ⟨g1, g2, g3, cur, e, g4, g5, fun k c hk => ?_⟩
      obtain ⟨v, e1, e2⟩ := g6 k c hk
      exact ⟨v, e1, e2.mono s⟩
    · obtain ⟨g1, g2, g3⟩ := R'.own r xs p (new r _ hr h1).1 h2
      exact ⟨g1, Nat.le_trans R.base g2, g3⟩
  · by_cases hr : r < h.length <;> by_cases hr' : r' < h.length
    · have h1 := old r _ hr h1
      have h1' := old r' _ hr' h1'
      exact R.apart r r' xs xs' p p' hne h1 h1' (place r p _ h1 h2) (place r' p' _ h1' h2')
    · have h1 := old r _ hr h1
      have := ownlt r xs p h1 (place r p _ h1 h2)
      obtain ⟨_, g2, _⟩ := R'.own r' xs' p' (new r' _ hr' h1').1 h2'
      omega
    · have h1' := old r' _ hr' h1'
      have := ownlt r' xs' p' h1' (place r' p' _ h1' h2')
      obtain ⟨_, g2, _⟩ := R'.own r xs p (new r _ hr h1).1 h2
      omega
    · exact R'.apart r r' xs xs' p p' hne (new r _ hr h1).1 (new r' _ hr' h1').1 h2 h2'

end Go.Proofs.Ytjgnnjegaedinaa.Hx

namespace Go.Proofs.Ytjgnnjegaedinaa.Hx
open Go.RowKit

section
variable {P : Program} {ops : Array Oper} {Q : Exit → Act → World → Prop} {t : Nat} {C : World → Prop}

/-- Either number t has come up, or the world is one of the class. -/
def Safe (t : Nat) (C : World → Prop) (listed : Array Bool) (w : World) : Prop := listed.getD t false = true ∨ C w

def wpAnyS (P : Program) (ops : Array Oper) (Q : Exit → Act → World → Prop) (t : Nat) (C : World → Prop) : Nat → Array Bool → Act → World → Prop
  | 0, listed, a, w => Region.ready .any ops listed = [] ∧ Q .normal a w
  | fuel + 1, listed, a, w =>
    (Region.ready .any ops listed = [] → Q .normal a w) ∧
    ∀ i ∈ Region.ready .any ops listed, wpOp P ops Q i (fun a' w' => Safe t C (listed.setIfInBounds i true) w' ∧ wpAnyS P ops Q t C fuel (listed.setIfInBounds i true) a' w') a w

theorem wpAny_of_S : ∀ (fuel : Nat) (listed : Array Bool) (a : Act) (w : World), wpAnyS P ops Q t C fuel listed a w → wpAny P .any ops Q fuel listed a w
  | 0, _, _, _, h => h
  | fuel + 1, _, _, _, h => ⟨h.1, fun i hi => wpOp_mono (fun a' w' h' => wpAny_of_S fuel _ a' w' h'.2) (h.2 i hi)⟩

/-- Whatever has come up, what it waits for has come up. -/
structure Closed (ops : Array Oper) (listed : Array Bool) : Prop where
  size : listed.size = ops.size
  closed : ∀ j oj, ops[j]? = some oj → listed.getD j false = true → ∀ e ∈ oj.after, Region.binds .any e = true → listed.getD e.on false = true

theorem Closed.set {i : Nat} {listed : Array Bool} (c : Closed ops listed) (hi : i ∈ Region.ready .any ops listed) : Closed ops (listed.setIfInBounds i true) := by
  obtain ⟨_, oi, hoi, hall⟩ := mem_ready.1 hi
  refine ⟨by simp [c.size], fun j oj hj hl e he hb => ?_⟩
  by_cases hij : i = j
  · subst hij
    have : oj = oi := Option.some.inj (hj.symm.trans hoi)
    subst this
    exact getD_set_true (hall e he hb)
  · rw [getD_set_ne false hij] at hl
    exact getD_set_true (c.closed j oj hj hl e he hb)

/-- Number t waits for number i, through at most so many steps. -/
def waits (ops : Array Oper) : Nat → Nat → Nat → Bool
  | 0, _, _ => false
  | f + 1, t, i => match ops[t]? with
    | some o => o.after.any fun e => Region.binds .any e && (e.on == i || waits ops f e.on i)
    | none => false

theorem waits_listed {listed : Array Bool} (c : Closed ops listed) : ∀ (f t i : Nat), waits ops f t i = true → listed.getD t false = true → listed.getD i false = true
  | 0, _, _, h, _ => by simp [waits] at h
  | f + 1, t, i, h, ht => by
    unfold waits at h
    split at h
    · rename_i o ho
      obtain ⟨e, he, hb⟩ := Array.any_eq_true'.1 h
      simp only [Bool.and_eq_true, Bool.or_eq_true, beq_iff_eq] at hb
      have hl := c.closed t o ho ht e he hb.1
      rcases hb.2 with h1 | h1
      · rw [← h1]; exact hl
      · exact waits_listed c f e.on i h1 hl
    · cases h

theorem waits_ready {listed : Array Bool} (c : Closed ops listed) {f t i : Nat} (h : waits ops f t i = true) (ht : t ∈ Region.ready .any ops listed) : listed.getD i false = true := by
  obtain ⟨_, ot, hot, hall⟩ := mem_ready.1 ht
  cases f with
  | zero => simp [waits] at h
  | succ f =>
    unfold waits at h
    simp only [hot] at h
    obtain ⟨e, he, hb⟩ := Array.any_eq_true'.1 h
    simp only [Bool.and_eq_true, Bool.or_eq_true, beq_iff_eq] at hb
    have hl := hall e he hb.1
    rcases hb.2 with h1 | h1
    · rw [← h1]; exact hl
    · exact waits_listed c f e.on i h1 hl

/-- An operation that may come up now may be taken first. -/
theorem wpAnyS_first {i : Nat} {oi : Oper} {v : Value} {f : Nat} (hi : ops[i]? = some oi) (hsel : ∀ (j : Nat) (o : Oper) cs b, ops[j]? = some o → o.op ≠ .select cs b) (hit : i ≠ t) (hw : t < ops.size → waits ops f t i = true)
    (hQ : ∀ c a w, Q (.panic c) (a.put oi.dst v) w → Q (.panic c) a w) :
    ∀ (fuel : Nat) (listed : Array Bool) (a : Act) (w : World), Closed ops listed →
      (∀ j oj, ops[j]? = some oj → j ≠ i → listed.getD j true = false → (∀ e ∈ oj.after, Region.binds .any e = true → e.on ≠ i) → oi.apart ops oj = true) →
      i ∈ Region.ready .any ops listed → YieldsIf P ops C oi v a → C w →
      wpAnyS P ops Q t C fuel (listed.setIfInBounds i true) (a.put oi.dst v) w → wpAnyS P ops Q t C (fuel + 1) listed a w := by
  intro fuel
  induction fuel with
  | zero =>
    intro listed a w _ hfree hr hy hS H
    refine ⟨fun h => (by rw [h] at hr; cases hr), fun j hj => ?_⟩
    by_cases hji : j = i
    · subst hji; exact hy.wpOp hi hS ⟨Or.inr hS, H⟩
    · have := ready_mono hj hji
      rw [H.1] at this
      cases this
  | succ fuel ih =>
    intro listed a w hcl hfree hr hy hS H
    have hun := (mem_ready.1 hr).1
    have hun' := getD_both hun
    refine ⟨fun h => (by rw [h] at hr; cases hr), fun j hj => ?_⟩
    by_cases hji : j = i
    · subst hji; exact hy.wpOp hi hS ⟨Or.inr hS, H⟩
    · have h1 := H.2 j (ready_mono hj hji)
      obtain ⟨hjun, oj, hoj, hall⟩ := mem_ready.1 hj
      have hnot : ∀ e ∈ oj.after, Region.binds .any e = true → e.on ≠ i := fun e he hb heq => by
        have h1 := hall e he hb
        rw [heq, hun'] at h1
        cases h1
      have htj : t ≠ j := fun e => by
        subst e
        have htl : t < ops.size := (Array.getElem?_eq_some_iff.1 hoj).1
        have := waits_ready hcl (hw htl) hj
        rw [hun'] at this
        cases this
      have htl : listed.getD t false = true → False := fun h => by
        have hts : t < ops.size := by
          rw [← hcl.size]
          by_cases hlt : t < listed.size
          · exact hlt
          · simp [Array.getElem?_eq_none (Nat.le_of_not_lt hlt)] at h
        have := waits_listed hcl f t i (hw hts) h
        rw [hun'] at this
        cases this
      have safe : ∀ w', Safe t C ((listed.setIfInBounds i true).setIfInBounds j true) w' → C w' := fun w' h => by
        rcases h with h | h
        · rw [getD_set_ne false (Ne.symm htj), getD_set_ne false hit] at h
          exact (htl h).elim
        · exact h
      have h2 := wpOp_putIf hoj (hfree j oj hoj hji hjun hnot) (fun cs b => hsel i oi cs b hi) (fun cs b => hsel j oj cs b hoj) hQ hy h1
      have hfree' : ∀ k ok, ops[k]? = some ok → k ≠ i → (listed.setIfInBounds j true).getD k true = false →
          (∀ e ∈ ok.after, Region.binds .any e = true → e.on ≠ i) → oi.apart ops ok = true := fun k ok hk hki hun2 hno => by
        refine hfree k ok hk hki ?_ hno
        by_cases hjk : j = k
        · subst hjk; exact hjun
        · rw [getD_set_ne true hjk] at hun2; exact hun2
      refine wpOp_mono (fun a' w' h3 => ⟨Or.inr (safe w' h3.2.1), ih (listed.setIfInBounds j true) a' w' (hcl.set hj) hfree' (ready_mono hr (Ne.symm hji)) h3.1 (safe w' h3.2.1) ?_⟩) h2
      rw [Array.setIfInBounds_comm _ _ hji]
      exact h3.2.2

/-- What looks at no world may be taken first, whatever waits for it. -/
theorem wpAnyS_first_pure {i : Nat} {oi : Oper} {v : Value} (hi : ops[i]? = some oi) (hsel : ∀ (j : Nat) (o : Oper) cs b, ops[j]? = some o → o.op ≠ .select cs b) (hit : i ≠ t)
    (hQ : ∀ c a w, Q (.panic c) (a.put oi.dst v) w → Q (.panic c) a w) :
    ∀ (fuel : Nat) (listed : Array Bool) (a : Act) (w : World),
      (∀ j oj, ops[j]? = some oj → j ≠ i → listed.getD j true = false → (∀ e ∈ oj.after, Region.binds .any e = true → e.on ≠ i) → oi.apart ops oj = true) →
      i ∈ Region.ready .any ops listed → YieldsIf P ops (fun _ => True) oi v a → Safe t C listed w →
      wpAnyS P ops Q t C fuel (listed.setIfInBounds i true) (a.put oi.dst v) w → wpAnyS P ops Q t C (fuel + 1) listed a w := by
  have keep : ∀ (l : Array Bool) w, Safe t C l w → Safe t C (l.setIfInBounds i true) w := fun l w h => by
    rcases h with h | h
    · exact Or.inl (by rw [getD_set_ne false hit]; exact h)
    · exact Or.inr h
  have back : ∀ (l : Array Bool) w, Safe t C (l.setIfInBounds i true) w → Safe t C l w := fun l w h => by
    rcases h with h | h
    · exact Or.inl (by rw [getD_set_ne false hit] at h; exact h)
    · exact Or.inr h
  intro fuel
  induction fuel with
  | zero =>
    intro listed a w hfree hr hy hS H
    refine ⟨fun h => (by rw [h] at hr; cases hr), fun j hj => ?_⟩
    by_cases hji : j = i
    · subst hji; exact hy.wpOp hi trivial ⟨keep _ _ hS, H⟩
    · have := ready_mono hj hji
      rw [H.1] at this
      cases this
  | succ fuel ih =>
    intro listed a w hfree hr hy hS H
    have hun := (mem_ready.1 hr).1
    have hun' := getD_both hun
    refine ⟨fun h => (by rw [h] at hr; cases hr), fun j hj => ?_⟩
    by_cases hji : j = i
    · subst hji; exact hy.wpOp hi trivial ⟨keep _ _ hS, H⟩
    · have h1 := H.2 j (ready_mono hj hji)
      obtain ⟨hjun, oj, hoj, hall⟩ := mem_ready.1 hj
      have hnot : ∀ e ∈ oj.after, Region.binds .any e = true → e.on ≠ i := fun e he hb heq => by
        have h1 := hall e he hb
        rw [heq, hun'] at h1
        cases h1
      have h2 := wpOp_putIf hoj (hfree j oj hoj hji hjun hnot) (fun cs b => hsel i oi cs b hi) (fun cs b => hsel j oj cs b hoj) hQ hy h1
      have hfree' : ∀ k ok, ops[k]? = some ok → k ≠ i → (listed.setIfInBounds j true).getD k true = false →
          (∀ e ∈ ok.after, Region.binds .any e = true → e.on ≠ i) → oi.apart ops ok = true := fun k ok hk hki hun2 hno => by
        refine hfree k ok hk hki ?_ hno
        by_cases hjk : j = k
        · subst hjk; exact hjun
        · rw [getD_set_ne true hjk] at hun2; exact hun2
      refine wpOp_mono (fun a' w' h3 => ?_) h2
      have hS' : Safe t C (listed.setIfInBounds j true) w' := back _ _ (by rw [Array.setIfInBounds_comm _ _ hji]; exact h3.2.1)
      refine ⟨hS', ih (listed.setIfInBounds j true) a' w' hfree' (ready_mono hr (Ne.symm hji)) h3.1 hS' ?_⟩
      rw [Array.setIfInBounds_comm _ _ hji]
      exact h3.2.2

def isLoad : Op → Bool
  | .load _ _ => true
  | .lookup _ _ _ _ => true
  | _ => false

/-- What does not read memory may be taken first, whatever waits for it. -/
def isFree (ops : Array Oper) (i : Nat) : Bool :=
  match ops[i]? with
  | some o => !isLoad o.op
  | none => false

/-- The first ones, one after the other: each may come up, and nobody who could come before it touches its temporaries. -/
def piOk (ops : Array Oper) (t : Nat) : List Nat → Array Bool → Bool
  | [], _ => true
  | i :: is, listed => (Region.ready .any ops listed).contains i && Region.free .any ops listed i && (i != t) && (decide (ops.size ≤ t) || waits ops ops.size t i || isFree ops i) && piOk ops t is (listed.setIfInBounds i true)

def listAll : List Nat → Array Bool → Array Bool
  | [], listed => listed
  | i :: is, listed => listAll is (listed.setIfInBounds i true)

def isPlain : Op → Bool
  | .move _ => true
  | .assign _ => true
  | .pick _ _ _ => true
  | .binOp _ _ _ _ _ => true
  | .unOp _ _ _ => true
  | .extract _ _ => true
  | _ => false

def isPlainAt (ops : Array Oper) (i : Nat) : Bool :=
  match ops[i]? with
  | some o => isPlain o.op
  | none => false

/-- The others: each is the one that may come up, or looks at no world and may come up. -/
def sigOk (ops : Array Oper) (t : Nat) : List Nat → Array Bool → Bool
  | [], listed => (Region.ready .any ops listed).isEmpty
  | i :: is, listed => ((Region.ready .any ops listed == [i]) || ((Region.ready .any ops listed).contains i && Region.free .any ops listed i && (i != t) && isPlainAt ops i)) && sigOk ops t is (listed.setIfInBounds i true)

def heldOk (ops : Array Oper) (t : Nat) (ps ss : List Nat) : Bool :=
  Region.noSelect ops && piOk ops t ps (Array.replicate ops.size false) && sigOk ops t ss (listAll ps (Array.replicate ops.size false)) && (ps.length + ss.length == ops.size)

/-- Orders in which the rest may come up: one number may, or two may, or three. -/
inductive Tr where
  | done
  | one (i : Nat) (t : Tr)
  | two (i : Nat) (t : Tr) (j : Nat) (u : Tr)
  | three (i : Nat) (t : Tr) (j : Nat) (u : Tr) (k : Nat) (v : Tr)

def Tr.len : Tr → Nat
  | .done => 0
  | .one _ t => t.len + 1
  | .two _ t _ _ => t.len + 1
  | .three _ t _ _ _ _ => t.len + 1

def treeOk (ops : Array Oper) : Tr → Array Bool → Bool
  | .done, listed => (Region.ready .any ops listed).isEmpty
  | .one i t, listed => (Region.ready .any ops listed == [i]) && treeOk ops t (listed.setIfInBounds i true)
  | .two i t j u, listed => (Region.ready .any ops listed == [i, j]) && (t.len == u.len) && treeOk ops t (listed.setIfInBounds i true) && treeOk ops u (listed.setIfInBounds j true)
  | .three i t j u k v, listed => (Region.ready .any ops listed == [i, j, k]) && (t.len == u.len) && (t.len == v.len) && treeOk ops t (listed.setIfInBounds i true) && treeOk ops u (listed.setIfInBounds j true) && treeOk ops v (listed.setIfInBounds k true)

/-- What reads no memory, first. -/
def pfOk (ops : Array Oper) : List Nat → Array Bool → Bool
  | [], _ => true
  | i :: is, listed => (Region.ready .any ops listed).contains i && Region.free .any ops listed i && isFree ops i && pfOk ops is (listed.setIfInBounds i true)

def treeAll (ops : Array Oper) (ps : List Nat) (tr : Tr) : Bool :=
  Region.noSelect ops && pfOk ops ps (Array.replicate ops.size false) && treeOk ops tr (listAll ps (Array.replicate ops.size false)) && (ps.length + tr.len == ops.size)

end
end Go.Proofs.Ytjgnnjegaedinaa.Hx
