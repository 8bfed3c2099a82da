/-
  A long function walked in parts: between two parts only some slots are handed on, and what is said of them.
  Numbers and weights read back from their texts: the reference.
  The contract of ParseWeight of the reference.
  DERIVED: THE SHELF's CONTRACTS AT THIS DUMP, IN PLAIN WORDS (tools/lay-plain.mjs out of 'YtgliajcgcbnemaaGreatDoorSa.lean', which tools/lay-shelf.mjs wrote): THE SAME DECLARATIONS UNDER THE SAME NAMES: 'import', 'namespace', 'open', 'def', 'theorem' AND NOTHING ELSE: no command of the shelf's: FOR A HAND-IN. Each laying: the table of numbers ('.._ren') and one theorem, a field a fact of the dump's own or the kernel's comparison; each contract: ONE APPLICATION.
  Numbers and weights read back from their texts: the program. strconv.Atoi, ParseInt, parseInts, ParseWeight.
  The contracts of parseInts and ParseWeight of the program.
-/
import Derived.Test.YtgliajcgcbnemaaGreatDoorZ14
import Derived.Shelf.LaysC
import Derived.Shelf.Strconv.AtoiAll
import Derived.Ground.NamesProg
import Derived.Test.YtgliajcgcbnemaaGreatDoorProg
namespace Go.Proofs.YtgliajcgcbnemaaGreatDoor.Hx
open Go.RowKit
variable {dm : Bool}

section
variable {P : Program} {kd : TypeId → Kd} {n m : Nat}

/-- The first k parts of a row of parts; K speaks of what they leave. -/
def hcut (dm : Bool) (P : Program) (kd : TypeId → Kd) (n m : Nat) (k : Nat) : Code → (Ex → Fr → Heap → Prop) → (Fr → Heap → Prop) → Fr → Heap → Prop :=
  Nat.rec (motive := fun _ => Code → (Ex → Fr → Heap → Prop) → (Fr → Heap → Prop) → Fr → Heap → Prop) (fun _ _ K fr h => K fr h) (fun _ ih c Q K fr h => match c with
    | .seq a b => hwp dm P kd n m a (fun e fr' h' => match e with | .normal => ih b Q K fr' h' | e => Q e fr' h') fr h
    | _ => False) k

/-- The rest. -/
noncomputable def chop (k : Nat) : Code → Code :=
  Nat.rec (motive := fun _ => Code → Code) (fun c => c) (fun _ ih c => match c with
    | .seq _ b => ih b
    | c => c) k

/-- Parts: so many parts, the slots handed on, and what is said of them. -/
def hparts (dm : Bool) (P : Program) (kd : TypeId → Kd) (n m : Nat) (l : List (Nat × List Nat × (List HV → Heap → Prop))) : Code → (Ex → Fr → Heap → Prop) → Fr → Heap → Prop :=
  List.rec (motive := fun _ => Code → (Ex → Fr → Heap → Prop) → Fr → Heap → Prop) (fun c Q fr h => hwp dm P kd n m c Q fr h) (fun x _ ih c Q fr h =>
    hcut dm P kd n m x.1 c Q (fun fr' h' => x.2.2 (x.2.1.map fr') h') fr h ∧ ∀ vs h', x.2.2 vs h' → ih (chop x.1 c) Q (place (fun _ => .dead) [] x.2.1 vs) h') l

theorem hcut_sound (E : ∀ t, (kd t).ok P t) (hm : P.follows .mixedOrders = true) : ∀ (k : Nat) (c : Code) {Qh : Ex → Fr → Heap → Prop} {K : Fr → Heap → Prop} {fr : Fr} {a : Act} {h : Heap} {φ : Plan} {w : World} {B0 : Nat}, Rep B0 φ h w → FrRep φ n fr a → hcut dm P kd n m k c Qh K fr h →
    ∀ {Q : Exit → Act → World → Prop}, (∀ e fr' a' h' φ' w', Qh e fr' h' → Sub φ φ' → Rep B0 φ' h' w' → FrRep φ' n fr' a' → Lat dm B0 w w' → Q e.toExit a' w') →
    (∀ fr' a' h' φ' w', K fr' h' → Sub φ φ' → Rep B0 φ' h' w' → FrRep φ' n fr' a' → Lat dm B0 w w' → (chop k c).wp P Q a' w') → c.wp P Q a w
  | 0, c, Qh, K, fr, a, h, φ, w, B0, R, F, H, Q, _, hK => hK fr a h φ w H (Sub.refl φ) R F (Lat.refl B0 w)
  | k + 1, c, Qh, K, fr, a, h, φ, w, B0, R, F, H, Q, hQ, hK => by
    cases c with
    | seq x y =>
      refine wp_seq (hwp_sound E hm x R F H (fun e fr' a' h' φ' w' q s r f b u => ?_))
      cases e with
      | normal => exact hcut_sound E hm k y r f q (fun e2 fr2 a2 h2 φ2 w2 q2 s2 r2 f2 b2 => hQ e2 fr2 a2 h2 φ2 w2 q2 (s.trans s2) r2 f2 (b.trans b2)) (fun fr2 a2 h2 φ2 w2 q2 s2 r2 f2 b2 => hK fr2 a2 h2 φ2 w2 q2 (s.trans s2) r2 f2 (b.trans b2))
      | exit id => exact hQ (.exit id) fr' a' h' φ' w' q s r f b
      | ret => exact hQ .ret fr' a' h' φ' w' q s r f b
    | _ => exact H.elim

theorem only_rep {φ : Plan} {fr' : Fr} {a : Act} (F : FrRep φ n fr' a) (l : List Nat) : FrRep φ n (place (fun _ => .dead) [] l (l.map fr')) a := by
  have key : ∀ (l : List Nat) (t : Nat), place (fun _ => .dead) [] l (l.map fr') t = .dead ∨ place (fun _ => .dead) [] l (l.map fr') t = fr' t := by
    intro l
    induction l with
    | nil => intro t; exact Or.inl rfl
    | cons x l ih =>
      intro t
      simp only [place_cons, List.map_cons]
      by_cases ht : t = x
      · subst ht
        simp
      · simp only [beq_ne ht, cond_false]
        exact ih t
  refine ⟨F.size, fun t ht => ?_, fun t ht => ?_, F.defers⟩
  · rcases key l t with e | e
    · rw [e]; trivial
    · rw [e]; exact F.has t ht
  · rcases key l t with e | e
    · exact e
    · rw [e]; exact F.out t ht

theorem hparts_sound (E : ∀ t, (kd t).ok P t) (hm : P.follows .mixedOrders = true) : ∀ (l : List (Nat × List Nat × (List HV → Heap → Prop))) (c : Code) {Qh : Ex → Fr → Heap → Prop} {fr : Fr} {a : Act} {h : Heap} {φ : Plan} {w : World} {B0 : Nat}, Rep B0 φ h w → FrRep φ n fr a → hparts dm P kd n m l c Qh fr h →
    ∀ {Q : Exit → Act → World → Prop}, (∀ e fr' a' h' φ' w', Qh e fr' h' → Sub φ φ' → Rep B0 φ' h' w' → FrRep φ' n fr' a' → Lat dm B0 w w' → Q e.toExit a' w') → c.wp P Q a w
  | [], c, Qh, fr, a, h, φ, w, B0, R, F, H, Q, hQ => hwp_sound E hm c R F H (fun e fr' a' h' φ' w' q s r f b _ => hQ e fr' a' h' φ' w' q s r f b)
  | x :: rest, c, Qh, fr, a, h, φ, w, B0, R, F, H, Q, hQ =>
    hcut_sound E hm x.1 c R F H.1 hQ (fun fr' a' h' φ' w' q s r f b =>
      hparts_sound E hm rest (chop x.1 c) r (only_rep f x.2.1) (H.2 _ _ q) (fun e2 fr2 a2 h2 φ2 w2 q2 s2 r2 f2 b2 => hQ e2 fr2 a2 h2 φ2 w2 q2 (s.trans s2) r2 f2 (b.trans b2)))

def hFunS (dm : Bool) (P : Program) (kd : TypeId → Kd) (n m : Nat) (rs : List ResultVar) (c : Code) (cuts : List (Nat × List Nat × (List HV → Heap → Prop))) (args : List HV) (h : Heap) (R : HV → Heap → Prop) : Prop :=
  hparts dm P kd n m cuts c (fun e fr h' => match e with
    | .exit _ => False
    | _ => hRet rs fr fun x => R x h') (frameOf args) h

theorem calls_of_hSeg (cuts : List (Nat × List Nat × (List HV → Heap → Prop))) (E : ∀ t, (kd t).ok P t) (hm : P.follows .mixedOrders = true) {k : FuncId} {fn : Func} {c : Code} (hf : P.funcs[k]? = some fn) (hb : fn.body = some c) (hname : (fn.name == "runtime.NumGoroutine") = false)
    (hn : fn.ntmps = n) {rs : List ResultVar} (hr : fn.results.toList = rs) {args : List HV} (hargs : args.length ≤ n) {h : Heap} {R : HV → Heap → Prop} (H : hFunS dm P kd n m rs c cuts args h R) : HCalls dm P k args h R := by
  refine ⟨fun as1 w => ?_, fun B0 φ w vargs r ha => ?_⟩
  · have hbn : fn.body.isNone = false := by simp [hb]
    simp only [callFunc, Sem.run_bind, run_program, Result.andThen_ok, hf, hname, hbn, Bool.false_eq_true, if_false, Sem.run_pure]
  · have hlen := ha.length
    have hvl : vargs.size = args.length := by simpa using hlen.symm
    refine calls_of_wp hf hb (hparts_sound (n := n) (m := m) E hm cuts c r (φ := φ) (fr := frameOf args) ?_ H (fun e fr' a' h' φ' w' q s r' f b => ?_))
    · refine ⟨by simp [hn, hvl]; omega, fun t ht => ?_, fun t ht => ?_, rfl⟩
      · rw [frameOf_get]
        by_cases htl : t < args.length
        · obtain ⟨v, e1, e2⟩ := ha.get t args[t] (List.getElem?_eq_getElem htl)
          have hv : vargs[t]? = some v := by simpa using e1
          have : (vargs ++ Array.replicate (fn.ntmps - vargs.size) undef).getD t undef = v := by
            rw [Array.getD_eq_getD_getElem?, Array.getElem?_append_left (by omega), hv]
            rfl
          show repV φ _ _
          rw [this]
          have h2 : args.getD t .dead = args[t] := by simp [List.getD, htl]
          rw [h2]
          exact e2
        · have h2 : args.getD t .dead = .dead := by simp [List.getD, Nat.le_of_not_lt htl]
          rw [h2]
          trivial
      · rw [frameOf_get]
        simp [List.getD, show args.length ≤ t by omega]
    · have fin : ∀ (hh : hRet rs fr' fun x => R x h'), a'.defers = [] ∧ ∃ v, (results fn a'.tmps).run P w' = .ok v w' ∧ ∃ v' x h'' φ'', Ending.returned v = .returned v' ∧ R x h'' ∧ Sub φ φ'' ∧ Rep B0 φ'' h'' w' ∧ repV φ'' x v' ∧ Lat dm B0 w w' := by
        intro hh
        obtain ⟨v, x, e1, e2, e3⟩ := hRet_sound (P := P) hh f hr w'
        exact ⟨f.defers, v, e1, v, x, h', φ', rfl, e3, s, r', e2, b⟩
      cases e with
      | normal => exact fin q
      | ret => exact fin q
      | exit j => exact q.elim

end

theorem HIf.same {b : Bool} {A C : Prop} (h : A) : HIf (b == b) A C := HIf.isT (by simp) h
theorem HIf.nsame {b : Bool} {A C : Prop} (h : C) : HIf (!(b == b)) A C := HIf.isF (by simp) h

end Go.Proofs.YtgliajcgcbnemaaGreatDoor.Hx

namespace Go.Proofs.YtgliajcgcbnemaaGreatDoor.Hx
open Go.RowKit
variable {dm : Bool}

/-- The digits among the first signs of a text. -/
def dg (s : List UInt8) (i : Nat) : List UInt8 := (s.take i).filter isDig
theorem dg_on {s : List UInt8} {i : Nat} (hi : i < s.length) (h : isDig (s.getD i 0) = true) : dg s (i + 1) = dg s i ++ [s.getD i 0] := by
  have e : s.getD i 0 = s[i] := by simp [List.getD, hi]
  unfold dg
  rw [List.take_succ_eq_append_getElem hi, List.filter_append, ← e]
  simp only [List.filter_cons, h, if_true, List.filter_nil]
theorem dg_off {s : List UInt8} {i : Nat} (hi : i < s.length) (h : isDig (s.getD i 0) = false) : dg s (i + 1) = dg s i := by
  have e : s.getD i 0 = s[i] := by simp [List.getD, hi]
  unfold dg
  rw [List.take_succ_eq_append_getElem hi, List.filter_append, ← e]
  simp only [List.filter_cons, h, Bool.false_eq_true, if_false, List.filter_nil, List.append_nil]
theorem dg_len (s : List UInt8) (i : Nat) : (dg s i).length ≤ i := by
  have := List.length_filter_le isDig (s.take i)
  rw [List.length_take] at this
  unfold dg
  omega
theorem dg_val {s : List UInt8} {i : Nat} (hi : i ≤ 11) : dval 0 (dg s i) < 100000000000 := by
  have h1 := dval_lt (dg s i) 0 (fun b hb => by
    have := (List.mem_filter.1 hb).2
    simp only [isDig, Bool.and_eq_true, decide_eq_true_eq] at this
    exact this.2)
  have h2 := dg_len s i
  have h3 : 10 ^ (dg s i).length ≤ 10 ^ 11 := Nat.pow_le_pow_right (by omega) (by omega)
  have h4 : (10 : Nat) ^ 11 = 100000000000 := by decide
  omega
theorem dval_snoc (l : List UInt8) (b : UInt8) : dval 0 (l ++ [b]) = dval 0 l * 10 + (b.toNat - 48) := by
  rw [dval_app]
  rfl
theorem dg_itoa (n : Int) : (Lib.itoa n).filter isDig = Lib.decDigits n.natAbs := by
  have h : (Lib.decDigits n.natAbs).filter isDig = Lib.decDigits n.natAbs := by
    rw [List.filter_eq_self]
    intro b hb
    have := dec_dig _ b hb
    simp [isDig, this.1, this.2]
  rcases itoa_cases n with ⟨_, e⟩ | ⟨_, e⟩ <;> rw [e]
  · rw [List.filter_cons]
    simp only [show isDig 45 = false by decide, Bool.false_eq_true, if_false]
    exact h
  · exact h
/-- What the reading of a small number's text comes to. -/
theorem read_small {s : List UInt8} {m : Int} (h1 : -1000 ≤ m) (h2 : m ≤ 1000) (h : Lib.itoa m = s) : s.length ≤ 5 ∧ dg s s.length = Lib.decDigits m.natAbs ∧ dval 0 (dg s s.length) = m.natAbs ∧ (dg s s.length).length ≤ 4 ∧ s ≠ [] ∧ (s.getD 0 0 = 45 ↔ m < 0) := by
  obtain ⟨a, b⟩ := itoa_short (n := m) ⟨h1, h2⟩
  have e : dg s s.length = Lib.decDigits m.natAbs := by
    unfold dg
    rw [List.take_length, ← h]
    exact dg_itoa m
  refine ⟨by rw [← h]; exact a, e, by rw [e, dec_val], by rw [e]; exact b, by rw [← h]; exact itoa_ne m, ?_⟩
  rw [← h]
  rcases itoa_cases m with ⟨h0, e⟩ | ⟨h0, e⟩ <;> rw [e]
  · simp [h0]
  · cases hD : Lib.decDigits m.natAbs with
    | nil => exact absurd hD (dec_ne _)
    | cons b r =>
      have hb := dec_dig m.natAbs b (by rw [hD]; exact List.mem_cons_self)
      constructor
      · intro hx
        have : b = 45 := hx
        rw [this] at hb
        exact absurd hb.1 (by decide)
      · intro hx
        omega

theorem u8_dig {b : UInt8} (h : isDig b = true) : IntKind.i64.wrap (IntKind.u8.wrap ((b.toNat : Int) - 48)) = ((b.toNat - 48 : Nat) : Int) := by
  simp only [isDig, Bool.and_eq_true, decide_eq_true_eq] at h
  obtain ⟨d, hd⟩ : ∃ d, b.toNat = 48 + d := ⟨b.toNat - 48, by omega⟩
  rw [hd]
  have : d = 0 ∨ d = 1 ∨ d = 2 ∨ d = 3 ∨ d = 4 ∨ d = 5 ∨ d = 6 ∨ d = 7 ∨ d = 8 ∨ d = 9 := by omega
  rcases this with rfl | rfl | rfl | rfl | rfl | rfl | rfl | rfl | rfl | rfl <;> decide

/-- The outcome of the reading of a number. -/
def ReadN (s : List UInt8) (n : Int) (ok : Bool) : Prop := I64 n ∧ (ok = true → Lib.itoa n = s) ∧ ∀ m : Int, -1000 ≤ m → m ≤ 1000 → Lib.itoa m = s → ok = true
theorem ReadN.no {s : List UInt8} (h : ∀ m : Int, -1000 ≤ m → m ≤ 1000 → Lib.itoa m = s → False) : ReadN s 0 false := ⟨⟨by omega, by omega⟩, (fun e => by cases e), fun m a b c => (h m a b c).elim⟩
theorem ReadN.yes {s : List UInt8} {n : Int} (hn : I64 n) (h : Lib.itoa n = s) : ReadN s n true := ⟨hn, fun _ => h, fun _ _ _ _ => rfl⟩

def jP9 (h : Heap) (s : List UInt8) : List HV → Heap → Prop := fun vs h' => ∃ i : Nat, vs = [Tx s, I (dval 0 (dg s i)), I ((dg s i).length : Nat)] ∧ h' = h ∧ i ≤ 11 ∧ (i = s.length ∨ i < s.length ∧ i = 11)
def jP11 (h : Heap) (s : List UInt8) : List HV → Heap → Prop := fun vs h' => ∃ n k : Int, vs = [Tx s, I n, I k] ∧ h' = h ∧ -100000000000 ≤ n ∧ n ≤ 100000000000 ∧ ∀ m : Int, -1000 ≤ m → m ≤ 1000 → Lib.itoa m = s → n = m ∧ k ≤ 4 ∧ s.length ≤ 5


set_option maxHeartbeats 1000000 in
theorem spec_ParseInt (h : Heap) (s : List UInt8) (hs : s.length ≤ 1048576) : HCalls dm Tryz.prog 174 [Tx s] h (fun r h' => ∃ n ok, r = .tup [ci n, .pl (.bool ok)] ∧ Ext h h' ∧ ReadN s n ok) := by
  have hsz := tx_size s
  refine calls_of_hSeg (m := 0) [(4, [0, 4, 5], jP9 h s), (1, [0, 4, 5], jP11 h s)] kd_ok mixed Tryz.func174 rfl (by kernel_rfl) rfl rfl (of_decide_eq_true rfl) ?_; unfold hFunS; (conv => whnf)
  refine ⟨?_, ?_⟩
  refine HLoop.intro [6, 4, 5] [7, 8, 9, 10, 11, 12, 13, 14, 17, 18, 19, 20, 21, 22, 23, 24, 25, 26, 27, 28, 29, 30, 31, 32, 33, 34, 4, 35, 36, 5, 15, 16, 6] (by kernel_rfl) (by kernel_rfl) (fun vs h' => ∃ i : Nat, vs = [I i, I (dval 0 (dg s i)), I ((dg s i).length : Nat)] ∧ h' = h ∧ i ≤ s.length ∧ i ≤ 11) (fun vs _ => s.length - natAt vs 0) ⟨0, rfl, rfl, by omega, by omega⟩ ?_
  rintro vs h' ⟨i, rfl, hh, hi, hi11⟩
  subst h'
  have hv := dg_val (s := s) hi11
  have hgl := dg_len s i
  (conv => whnf)
  refine HLenS.mk ⟨_, rfl, ?_⟩
  rw [hsz]
  (conv => whnf)
  by_cases c1 : (i : Int) < (s.length : Int)
  · refine HIf.decT c1 ?_
    (conv => whnf)
    refine HIf.decT c1 ?_
    (conv => whnf)
    refine HIf.decT c1 ?_
    (conv => whnf)
    refine HIf.dec (fun c2 => ?_) (fun c2 => ?_)
    · have hil : i < s.length := by omega
      have h256 := (s.getD i 0).toNat_lt
      (conv => whnf)
      refine HByte.tx hil ?_
      (conv => whnf)
      have next : ∀ (a k : Int), a = (dval 0 (dg s (i + 1)) : Nat) → k = ((dg s (i + 1)).length : Nat) → (∃ j : Nat, [I ((i : Int) + 1), I a, I k] = [I j, I (dval 0 (dg s j)), I ((dg s j).length : Nat)] ∧ h = h ∧ j ≤ s.length ∧ j ≤ 11) ∧ s.length - natAt [I ((i : Int) + 1), I a, I k] 0 < s.length - natAt [I (i : Int)] 0 := fun a k ha hk => by
        subst ha hk
        exact ⟨⟨i + 1, rfl, rfl, by omega, by omega⟩, by show s.length - (i + 1) < s.length - i; omega⟩
      by_cases c3 : ((s.getD i 0).toNat : Int) ≥ 48
      · refine HIf.decT c3 ?_
        (conv => whnf)
        refine HIf.decT c3 ?_
        (conv => whnf)
        refine HIf.decT c3 ?_
        (conv => whnf)
        refine HByte.tx hil ?_
        (conv => whnf)
        refine HIf.decT c3 ?_
        (conv => whnf)
        refine HIf.decT c3 ?_
        (conv => whnf)
        refine HIf.dec (fun c4 => ?_) (fun c4 => ?_)
        · have hd : isDig (s.getD i 0) = true := by
            simp only [isDig, Bool.and_eq_true, decide_eq_true_eq]
            omega
          have e1 := dg_on hil hd
          have e2 := dval_snoc (dg s i) (s.getD i 0)
          rw [← e1] at e2
          have e3 : (dg s (i + 1)).length = (dg s i).length + 1 := by rw [e1, List.length_append, List.length_singleton]
          have hu := u8_dig hd
          (conv => whnf)
          refine HArith.fits (by omega) (by omega) ?_
          (conv => whnf)
          refine HByte.tx hil ?_
          (conv => whnf)
          refine HArith.any ?_
          (conv => whnf)
          refine HConv.of ?_
          rw [hu]
          (conv => whnf)
          refine HArith.fits (by omega) (by omega) ?_
          (conv => whnf)
          refine HArith.fits (by omega) (by omega) ?_
          (conv => whnf)
          refine HArith.fits (by omega) (by omega) ?_
          (conv => whnf)
          exact next _ _ (by omega) (by omega)
        · have hd : isDig (s.getD i 0) = false := by
            rw [Bool.eq_false_iff]
            simp only [isDig, Bool.and_eq_true, decide_eq_true_eq, ne_eq]
            omega
          have e1 := dg_off hil hd
          (conv => whnf)
          refine HArith.fits (by omega) (by omega) ?_
          (conv => whnf)
          exact next _ _ (by rw [e1]) (by rw [e1])
      · have hd : isDig (s.getD i 0) = false := by
          rw [Bool.eq_false_iff]
          simp only [isDig, Bool.and_eq_true, decide_eq_true_eq, ne_eq]
          omega
        have e1 := dg_off hil hd
        (repeat (refine HIf.decF c3 ?_; (conv => whnf)))
        (repeat (refine HIf.no ?_; (conv => whnf)))
        refine HArith.fits (by omega) (by omega) ?_
        (conv => whnf)
        exact next _ _ (by rw [e1]) (by rw [e1])
    · (conv => whnf)
      exact ⟨i, rfl, rfl, hi11, Or.inr ⟨by omega, by omega⟩⟩
  · (repeat (refine HIf.decF c1 ?_; (conv => whnf)))
    (repeat (refine HIf.no ?_; (conv => whnf)))
    exact ⟨i, rfl, rfl, hi11, Or.inl (by omega)⟩
  rintro vs h' ⟨i, rfl, hh, hi11, hx⟩
  subst h'
  have hv := dg_val (s := s) hi11
  have key : ∀ m : Int, -1000 ≤ m → m ≤ 1000 → Lib.itoa m = s → dval 0 (dg s i) = m.natAbs ∧ (dg s i).length ≤ 4 ∧ s ≠ [] ∧ (s.getD 0 0 = 45 ↔ m < 0) ∧ s.length ≤ 5 := fun m a b c => by
    obtain ⟨k1, k2, k3, k4, k5, k6⟩ := read_small a b c
    have : i = s.length := by omega
    rw [this]
    exact ⟨k3, k4, k5, k6, k1⟩
  generalize dval 0 (dg s i) = n at *
  generalize (dg s i).length = k at *
  (conv => whnf)
  refine ⟨?_, ?_⟩
  · refine HLenS.mk ⟨_, rfl, ?_⟩
    rw [hsz]
    (conv => whnf)
    by_cases c5 : (s.length : Int) > 0
    · refine HIf.decT c5 ?_
      (conv => whnf)
      refine HIf.decT c5 ?_
      (conv => whnf)
      refine HByte.tx (k := 0) (by omega) ?_
      (conv => whnf)
      refine HIf.decT c5 ?_
      (conv => whnf)
      refine HIf.decT c5 ?_
      (conv => whnf)
      refine HIf.beq (fun c6 => ?_) (fun c6 => ?_)
      · (conv => whnf)
        refine HArith.fits (by omega) (by omega) ?_
        (conv => whnf)
        refine ⟨0 - (n : Int), k, rfl, rfl, by omega, by omega, fun m a b c => ?_⟩
        obtain ⟨k1, k2, k3, k4, k5⟩ := key m a b c
        have : s.getD 0 0 = 45 := by
          apply UInt8.toNat_inj.1
          show (s.getD 0 0).toNat = 45
          omega
        have := k4.1 this
        exact ⟨by omega, by omega, k5⟩
      · (conv => whnf)
        refine ⟨(n : Int), k, rfl, rfl, by omega, by omega, fun m a b c => ?_⟩
        obtain ⟨k1, k2, k3, k4, k5⟩ := key m a b c
        have : ¬ m < 0 := fun hm => by
          have := k4.2 hm
          rw [this] at c6
          exact c6 rfl
        exact ⟨by omega, by omega, k5⟩
    · (repeat (refine HIf.decF c5 ?_; (conv => whnf)))
      (repeat (refine HIf.no ?_; (conv => whnf)))
      refine ⟨(n : Int), k, rfl, rfl, by omega, by omega, fun m a b c => ?_⟩
      exact absurd (List.length_eq_zero_iff.1 (by omega)) (key m a b c).2.2.1
  rintro vs h' ⟨n, k, rfl, hh, n1, n2, key⟩
  subst h'
  (conv => whnf)
  by_cases c1 : k > 9
  · (repeat (refine HIf.decT c1 ?_; (conv => whnf)))
    (repeat (refine HIf.yes ?_; (conv => whnf)))
    refine ⟨0, false, rfl, Ext.refl _, ReadN.no fun m a b c => ?_⟩
    have := (key m a b c).2.1
    omega
  · refine HIf.decF c1 ?_
    (conv => whnf)
    refine HIf.decF c1 ?_
    (conv => whnf)
    refine HLenS.mk ⟨_, rfl, ?_⟩
    rw [hsz]
    (conv => whnf)
    refine HIf.decF c1 ?_
    (conv => whnf)
    refine HIf.decF c1 ?_
    (conv => whnf)
    by_cases c2 : (s.length : Int) > 10
    · (repeat (refine HIf.decT c2 ?_; (conv => whnf)))
      (repeat (refine HIf.yes ?_; (conv => whnf)))
      refine ⟨0, false, rfl, Ext.refl _, ReadN.no fun m a b c => ?_⟩
      have := (key m a b c).2.2
      omega
    · refine HIf.decF c2 ?_
      (conv => whnf)
      refine HIf.decF c2 ?_
      (conv => whnf)
      have hI : I64 n := ⟨by omega, by omega⟩
      refine (spec_FormatInt _ n hI).mono ?_
      rintro r h2 ⟨rfl, E2⟩
      (conv => whnf)
      refine HIf.decF c2 ?_
      (conv => whnf)
      refine HIf.decF c2 ?_
      (conv => whnf)
      refine HStr.neqS ?_
      (conv => whnf)
      by_cases c3 : Lib.itoa n = s
      · have e : (!(Lib.itoa n == s)) = false := by rw [c3]; simp
        rw [e]
        refine HIf.decF c2 ?_
        (conv => whnf)
        refine HIf.no ?_
        (conv => whnf)
        exact ⟨n, true, rfl, E2, ReadN.yes hI c3⟩
      · have e : (!(Lib.itoa n == s)) = true := by simp [c3]
        rw [e]
        refine HIf.decF c2 ?_
        (conv => whnf)
        refine HIf.yes ?_
        (conv => whnf)
        exact ⟨0, false, rfl, E2, ReadN.no fun m a b c => c3 (by rw [(key m a b c).1]; exact c)⟩

theorem spec_l2Num (h : Heap) (s : List UInt8) (hs : s.length ≤ 1048576) : HCalls dm Tryz.prog 124 [Tx s, I 1001] h (fun r h' => ∃ n, r = I n ∧ Ext h h' ∧ I64 n ∧ ∀ m : Int, -1000 ≤ m → m ≤ 1000 → Lib.itoa m = s → n = m) := by
  refine calls_of_hFun (m := 0) kd_ok mixed Tryz.func124 rfl (by kernel_rfl) rfl rfl (of_decide_eq_true rfl) ?_; unfold hFun; (conv => whnf)
  refine (spec_ParseInt _ s hs).mono ?_
  rintro r h1 ⟨n, ok, rfl, E, hn, h2, h3⟩
  cases ok with
  | true =>
    (conv => whnf)
    refine HIf.no ?_
    (conv => whnf)
    exact ⟨n, rfl, E, hn, fun m a b c => itoa_inj (by rw [h2 rfl, c])⟩
  | false =>
    (conv => whnf)
    refine HIf.yes ?_
    (conv => whnf)
    exact ⟨1001, rfl, E, ⟨by omega, by omega⟩, fun m a b c => by have := h3 m a b c; cases this⟩

/-- The outcome of the reading of a weight. -/
def ReadW (c : List (List Int)) (s : List UInt8) (v : List Int) (ok : Bool) : Prop := (ok = true ↔ IsWText c s) ∧ (ok = true → fmtV v = s ∧ isWeight c v = true) ∧ (ok = false → v = [])
theorem ReadW.same {c : List (List Int)} {s : List UInt8} {v v' : List Int} {ok ok' : Bool} (h : ReadW c s v ok) (h' : ReadW c s v' ok') : ok = ok' := by
  rw [Bool.eq_iff_iff, h.1, h'.1]

end Go.Proofs.YtgliajcgcbnemaaGreatDoor.Hx

namespace Go.Proofs.YtgliajcgcbnemaaGreatDoor.Hx
open Go.RowKit
variable {dm : Bool}

/-- The numbers read from the first k parts of a text. -/
def PartsRead (s : List UInt8) (k : Nat) (v : List Int) : Prop := v.length = k ∧ (∀ n ∈ v, I64 n) ∧ ∀ u : List Int, u ≠ [] → (∀ n ∈ u, -1000 ≤ n ∧ n ≤ 1000) → fmtV u = s → v = u.take k
theorem PartsRead.none (s : List UInt8) : PartsRead s 0 [] := ⟨rfl, (fun n hn => by cases hn), fun u _ _ _ => rfl⟩
theorem PartsRead.snoc {s : List UInt8} {k : Nat} {v : List Int} {n : Int} (h : PartsRead s k v) (hk : k < (cutB 44 s).length) (hn : I64 n) (hr : ∀ m : Int, -1000 ≤ m → m ≤ 1000 → Lib.itoa m = (cutB 44 s).getD k [] → n = m) : PartsRead s (k + 1) (v ++ [n]) := by
  obtain ⟨h1, h2, h3⟩ := h
  refine ⟨by simp [h1], fun m hm => ?_, fun u u1 u2 u3 => ?_⟩
  · rcases List.mem_append.1 hm with hm | hm
    · exact h2 m hm
    · rw [List.mem_singleton.1 hm]
      exact hn
  · have hc : cutB 44 s = u.map Lib.itoa := by rw [← u3]; exact cut_fmt u1
    rw [hc, List.length_map] at hk
    have e : (cutB 44 s).getD k [] = Lib.itoa u[k] := by rw [hc]; simp [List.getD, hk]
    have hm := u2 u[k] (List.getElem_mem hk)
    rw [List.take_succ_eq_append_getElem hk, h3 u u1 u2 u3, hr u[k] hm.1 hm.2 e.symm]
theorem PartsRead.all {c : List (List Int)} {s : List UInt8} {v u : List Int} (h : PartsRead s (cutB 44 s).length v) (hu : isWeight c u = true) (hf : fmtV u = s) : v = u := by
  obtain ⟨u1, _, _, u2⟩ := weight_small hu
  have hc : cutB 44 s = u.map Lib.itoa := by rw [← hf]; exact cut_fmt u1
  have := h.2.2 u u1 u2 hf
  rw [hc, List.length_map, List.take_length] at this
  exact this


set_option maxHeartbeats 1000000 in
theorem spec_ParseWeight (h : Heap) (x : H0) (c : List (List Int)) (s : List UInt8) (hx : Rows h x c) (hc : c.length ≤ 1048576) (hs : s.length ≤ 1048575) :
    HCalls dm Tryz.prog 61 [.s x, Tx s] h (fun r h' => ∃ y v ok, r = T2 y ok ∧ Fresh h h' y v ∧ ReadW c s v ok) := by
  refine calls_of_hFun (m := 0) kd_ok mixed Tryz.func61 rfl (by kernel_rfl) rfl rfl (of_decide_eq_true rfl) ?_; unfold hFun; (conv => whnf)
  refine HLit.empty ?_
  have E0 := Ext.push h [Row.own []]
  have O0 : OwnR h.length (h ++ [Row.own []]) (.sl h.length 0 0) [] := OwnR.push h []
  have g0 := get_new h (Row.own [])
  generalize h ++ [Row.own []] = h0 at E0 O0 g0 ⊢
  (conv => whnf)
  refine (show HCalls _ _ _ [Tx s, .s (.pl (.int .u8 (((44 : UInt8).toNat : Nat) : Int)))] _ _ from (spec_l2Cut _ s 44 hs).mono ?_)
  rintro r h1 ⟨q, rfl, E1, hrow⟩
  have hcl := cutB_len 44 s
  have hcn : 0 < (cutB 44 s).length := by
    obtain ⟨a, b, e⟩ := cutB_ne 44 s
    rw [e]
    simp
  have hql := get_lt hrow
  have hO := O0.lt
  have hqne : q ≠ h.length := fun e => by
    have := E1.row g0
    rw [e] at hrow
    rw [hrow] at this
    cases hX : cutB 44 s with
    | nil => rw [hX] at hcn; simp at hcn
    | cons a b => rw [hX] at this; simp at this
  have O1 := O0.ext E1
  have E01 := E0.trans E1
  have hsn := fun k v n (hp : PartsRead s k v) hk hn hr => hp.snoc (n := n) hk hn hr
  have hall := fun v u (hp : PartsRead s (cutB 44 s).length v) hu hf => hp.all (c := c) (u := u) hu hf
  have hpart : ∀ k, k < (cutB 44 s).length → ((cutB 44 s).getD k []).length ≤ s.length := fun k hk => by
    have := cutB_mem 44 s ((cutB 44 s).getD k []) (by
      have e : (cutB 44 s).getD k [] = (cutB 44 s)[k] := by simp [List.getD, hk]
      rw [e]
      exact List.getElem_mem hk)
    exact this.2
  have hcell := fun k hk => txt_cell (cutB 44 s) (k := k) hk
  have hml : ((cutB 44 s).map stc).length = (cutB 44 s).length := by simp
  generalize cutB 44 s = xs at *
  (conv => whnf)
  refine HLoop.intro [8, 6] [12, 13, 14, 15, 18, 19, 20, 21, 22, 23, 24, 25, 6, 16, 17, 8] (by kernel_rfl) (by kernel_rfl) (fun vs h' => ∃ (k p : Nat) (z : H0) (v : List Int), vs = [I k, .s z] ∧ k ≤ xs.length ∧ Ext h h' ∧ h.length ≤ p ∧ p ≠ q ∧ OwnR p h' z v ∧ h'[q]? = some (.own (xs.map stc)) ∧ PartsRead s k v) (fun vs _ => xs.length - natAt vs 0) ⟨0, h.length, _, [], rfl, by omega, E01, Nat.le_refl _, Ne.symm hqne, O1, hrow, PartsRead.none s⟩ ?_
  rintro vs h' ⟨k, p, z, v, rfl, hk, E, hp, hpq, O, hcs, hread⟩
  have S1 := txt_shows hcs
  have hvl := hread.1
  (conv => whnf)
  refine ⟨rfl, Shows.len S1 ?_⟩
  rw [hml]
  (conv => whnf)
  refine HIf.dec (fun hlt => ?_) (fun hge => ?_)
  · have hkl : k < xs.length := by omega
    have hl := hpart k hkl
    have ec := hcell k hkl
    have hsn' := fun n hn hr => hsn k v n hread hkl hn hr
    generalize xs.getD k [] = l at *
    (conv => whnf)
    refine ⟨rfl, Shows.idx S1 (by omega) (by omega) (fun pp hpp => ?_)⟩
    rw [ec] at hpp
    (conv => whnf)
    refine ⟨rfl, hpp.load ?_⟩
    (conv => whnf)
    refine (spec_l2Num _ l (by omega)).mono ?_
    rintro r h2 ⟨n, rfl, E2, hn, hnm⟩
    have O2 := O.ext E2
    have hcs2 := E2.row hcs
    have hq2 := get_lt hcs2
    have e2 := E2.1
    have Ea := E.trans E2
    (conv => whnf)
    refine HLit.of (xs := [ci n]) rfl (by simp [H0.one, Value.oneCell']) (by omega) ?_
    (conv => whnf)
    refine ⟨rfl, rfl, HApp.litR [n] O2 (by simp; omega) (fun h3 r3 y3 B3 hr3 O3 => ?_)⟩
    have E3 : Ext h h3 := KeepN.ext (F := fun z => z = p) B3 (fun z e => by omega) Ea
    have hcs3 : h3[q]? = some (.own (xs.map stc)) := by rw [B3.2 q hq2 (by omega)]; exact hcs2
    have ea := Ea.1
    (conv => whnf)
    refine HArith.fits (by omega) (by omega) ?_
    (conv => whnf)
    exact ⟨⟨k + 1, r3, y3, v ++ [n], rfl, by omega, E3, by omega, by omega, O3, hcs3, hsn' n hn hnm⟩, by show xs.length - (k + 1) < xs.length - k; omega⟩
  · have ek : k = xs.length := by omega
    rw [ek] at hread
    have hR := hread
    have hallv := fun u hu hf => hall v u hread hu hf
    (conv => whnf)
    refine (spec_FormatWeight _ _ v O.ints hread.2.1 (by omega)).mono ?_
    rintro r h2 ⟨rfl, E2⟩
    have Ea := E.trans E2
    have O2 := O.ext E2
    (conv => whnf)
    refine HStr.neqS ?_
    (conv => whnf)
    have no : ∀ (h3 : Heap), Ext h h3 → (¬ (fmtV v = s ∧ isWeight c v = true)) → (∃ y v' ok, (HV.tup [.sl h3.length 0 0, .pl (.bool false)]) = T2 y ok ∧ Fresh h (h3 ++ [.own []]) y v' ∧ ReadW c s v' ok) := fun h3 E3 hno =>
      ⟨_, [], false, rfl, Fresh.ofRow (E3.pushed _) (OwnR.push h3 []) E3.1, ⟨(fun e => by cases e), fun ⟨u, u1, u2⟩ => absurd ⟨by rw [hallv u u1 u2]; exact u2, by rw [hallv u u1 u2]; exact u1⟩ hno⟩, (fun e => by cases e), fun _ => rfl⟩
    by_cases c1 : fmtV v = s
    · have e : (!(fmtV v == s)) = false := by rw [c1]; simp
      rw [e]
      (repeat (first | (refine HIf.bneF rfl ?_; (conv => whnf)) | (refine HIf.yes ?_; (conv => whnf)) | (refine HIf.no ?_; (conv => whnf)) | (refine HIf.same ?_; (conv => whnf)) | (refine HIf.nsame ?_; (conv => whnf)) | (refine And.intro (show Kd.isBool _ = true from rfl) ?_; (conv => whnf))))
      refine (spec_IsWeight _ _ _ c v (hx.ext Ea) O2.ints (by omega) (by omega)).mono ?_
      rintro r h3 ⟨rfl, hh⟩
      subst h3
      cases hw : isWeight c v with
      | true =>
        (conv => whnf)
        (repeat (first | (refine HIf.bneF rfl ?_; (conv => whnf)) | (refine HIf.yes ?_; (conv => whnf)) | (refine HIf.no ?_; (conv => whnf)) | (refine HIf.same ?_; (conv => whnf)) | (refine HIf.nsame ?_; (conv => whnf)) | (refine And.intro (show Kd.isBool _ = true from rfl) ?_; (conv => whnf))))
        exact ⟨_, v, true, rfl, Fresh.ofRow Ea O2 hp, ⟨fun _ => ⟨v, hw, c1⟩, fun _ => rfl⟩, fun _ => ⟨c1, hw⟩, (fun e => by cases e)⟩
      | false =>
        (conv => whnf)
        (repeat (first | (refine HIf.bneF rfl ?_; (conv => whnf)) | (refine HIf.yes ?_; (conv => whnf)) | (refine HIf.no ?_; (conv => whnf)) | (refine HIf.same ?_; (conv => whnf)) | (refine HIf.nsame ?_; (conv => whnf)) | (refine And.intro (show Kd.isBool _ = true from rfl) ?_; (conv => whnf))))
        refine HLit.empty ?_
        (conv => whnf)
        exact no _ Ea (fun hh => by rw [hw] at hh; cases hh.2)
    · have e : (!(fmtV v == s)) = true := by simp [c1]
      rw [e]
      (repeat (first | (refine HIf.bneF rfl ?_; (conv => whnf)) | (refine HIf.yes ?_; (conv => whnf)) | (refine HIf.no ?_; (conv => whnf)) | (refine HIf.same ?_; (conv => whnf)) | (refine HIf.nsame ?_; (conv => whnf)) | (refine And.intro (show Kd.isBool _ = true from rfl) ?_; (conv => whnf))))
      refine HLit.empty ?_
      (conv => whnf)
      exact no _ Ea (fun hh => c1 hh.1)

end Go.Proofs.YtgliajcgcbnemaaGreatDoor.Hx

namespace Go.Proofs
open Go.Shelf
def Tryz.atoiL_ren : Go.Shelf.Ren := ⟨fun | 172 => 216 | 244 => 246 | 245 => 247 | 247 => 267 | 279 => 268 | 280 => 269 | 281 => 270 | 282 => 271 | 287 => 293 | 316 => 294 | 171 => 215 | 205 => 295 | 321 => 306 | 322 => 307 | 243 => 245 | 246 => 266 | 283 => 289 | 284 => 290 | 285 => 291 | 286 => 292 | 129 => 208 | 317 => 302 | 318 => 303 | 319 => 304 | 320 => 305 | 337 => 309 | 338 => 310 | n => n, fun | 9 => 9 | 3 => 3 | 75 => 110 | 76 => 111 | 4 => 4 | 5 => 5 | 167 => 186 | 37 => 34 | 0 => 0 | 85 => 187 | 2 => 2 | 168 => 189 | 53 => 141 | 175 => 204 | 46 => 99 | 210 => 208 | 127 => 145 | 145 => 226 | 143 => 224 | 21 => 21 | 171 => 200 | 173 => 202 | 212 => 220 | 51 => 139 | 20 => 20 | 213 => 221 | 232 => 228 | 233 => 229 | 80 => 113 | n => n, fun | 15 => 1 | 16 => 2 | 17 => 5 | 18 => 6 | 19 => 7 | n => n⟩
theorem Tryz.atoiL : Go.Proofs.LaysC.n172 Tryz.prog Tryz.atoiL_ren := {
  mixed := by kernel_rfl
  f129 := Tryz.func208.trans (congrArg some (by kernel_rfl))
  f171 := Tryz.func215.trans (congrArg some (by kernel_rfl))
  f172 := Tryz.func216.trans (congrArg some (by kernel_rfl))
  f205 := Tryz.func295.trans (congrArg some (by kernel_rfl))
  f243 := Tryz.func245.trans (congrArg some (by kernel_rfl))
  f244 := Tryz.func246.trans (congrArg some (by kernel_rfl))
  f245 := Tryz.func247.trans (congrArg some (by kernel_rfl))
  f246 := Tryz.func266.trans (congrArg some (by kernel_rfl))
  f247 := Tryz.func267.trans (congrArg some (by kernel_rfl))
  f279 := Tryz.func268.trans (congrArg some (by kernel_rfl))
  f280 := Tryz.func269.trans (congrArg some (by kernel_rfl))
  f281 := Tryz.func270.trans (congrArg some (by kernel_rfl))
  f282 := Tryz.func271.trans (congrArg some (by kernel_rfl))
  f283 := Tryz.func289.trans (congrArg some (by kernel_rfl))
  f284 := Tryz.func290.trans (congrArg some (by kernel_rfl))
  f285 := Tryz.func291.trans (congrArg some (by kernel_rfl))
  f286 := Tryz.func292.trans (congrArg some (by kernel_rfl))
  f287 := Tryz.func293.trans (congrArg some (by kernel_rfl))
  f316 := Tryz.func294.trans (congrArg some (by kernel_rfl))
  f317 := Tryz.func302.trans (congrArg some (by kernel_rfl))
  f318 := Tryz.func303.trans (congrArg some (by kernel_rfl))
  f319 := Tryz.func304.trans (congrArg some (by kernel_rfl))
  f320 := Tryz.func305.trans (congrArg some (by kernel_rfl))
  f321 := Tryz.func306.trans (congrArg some (by kernel_rfl))
  f322 := Tryz.func307.trans (congrArg some (by kernel_rfl))
  f337 := Tryz.func309.trans (congrArg some (by kernel_rfl))
  f338 := Tryz.func310.trans (congrArg some (by kernel_rfl))
  t0 := Tryz.underlying0
  a0 := Tryz.isAgg0
  z0 := Tryz.sizeOf0
  v0 := Tryz.zeroValue0
  t2 := Tryz.underlying2
  a2 := Tryz.isAgg2
  z2 := Tryz.sizeOf2
  v2 := Tryz.zeroValue2
  t3 := Tryz.underlying3
  a3 := Tryz.isAgg3
  z3 := Tryz.sizeOf3
  v3 := Tryz.zeroValue3
  t4 := Tryz.underlying4
  a4 := Tryz.isAgg4
  z4 := Tryz.sizeOf4
  v4 := Tryz.zeroValue4
  t5 := Tryz.underlying5
  a5 := Tryz.isAgg5
  z5 := Tryz.sizeOf5
  v5 := Tryz.zeroValue5
  t9 := Tryz.underlying9
  a9 := Tryz.isAgg9
  z9 := Tryz.sizeOf9
  v9 := Tryz.zeroValue9
  t20 := Tryz.underlying20
  a20 := Tryz.isAgg20
  z20 := Tryz.sizeOf20
  v20 := Tryz.zeroValue20
  t21 := Tryz.underlying21
  a21 := Tryz.isAgg21
  z21 := Tryz.sizeOf21
  v21 := Tryz.zeroValue21
  t37 := Tryz.underlying34
  a37 := Tryz.isAgg34
  z37 := Tryz.sizeOf34
  v37 := Tryz.zeroValue34
  t46 := Tryz.underlying99
  a46 := Tryz.isAgg99
  z46 := Tryz.sizeOf99
  v46 := Tryz.zeroValue99
  t51 := Tryz.underlying139
  a51 := Tryz.isAgg139
  z51 := Tryz.sizeOf139
  v51 := Tryz.zeroValue139
  t53 := Tryz.underlying141
  a53 := Tryz.isAgg141
  z53 := Tryz.sizeOf141
  v53 := Tryz.zeroValue141
  t75 := Tryz.underlying110
  a75 := Tryz.isAgg110
  z75 := Tryz.sizeOf110
  v75 := Tryz.zeroValue110
  t76 := Tryz.underlying111
  a76 := Tryz.isAgg111
  z76 := Tryz.sizeOf111
  v76 := Tryz.zeroValue111
  t85 := Tryz.underlying187
  a85 := Tryz.isAgg187
  z85 := Tryz.sizeOf187
  v85 := Tryz.zeroValue187
  t127 := Tryz.underlying145
  a127 := Tryz.isAgg145
  z127 := Tryz.sizeOf145
  v127 := Tryz.zeroValue145
  t143 := Tryz.underlying224
  a143 := Tryz.isAgg224
  z143 := Tryz.sizeOf224
  v143 := Tryz.zeroValue224
  t145 := Tryz.underlying226
  a145 := Tryz.isAgg226
  z145 := Tryz.sizeOf226
  v145 := Tryz.zeroValue226
  t167 := Tryz.underlying186
  a167 := Tryz.isAgg186
  z167 := Tryz.sizeOf186
  v167 := Tryz.zeroValue186
  t168 := Tryz.underlying189
  a168 := Tryz.isAgg189
  z168 := Tryz.sizeOf189
  v168 := Tryz.zeroValue189
  t171 := Tryz.underlying200
  a171 := Tryz.isAgg200
  z171 := Tryz.sizeOf200
  v171 := Tryz.zeroValue200
  t173 := Tryz.underlying202
  a173 := Tryz.isAgg202
  z173 := Tryz.sizeOf202
  v173 := Tryz.zeroValue202
  t175 := Tryz.underlying204
  a175 := Tryz.isAgg204
  z175 := Tryz.sizeOf204
  v175 := Tryz.zeroValue204
  t210 := Tryz.underlying208
  a210 := Tryz.isAgg208
  z210 := Tryz.sizeOf208
  v210 := Tryz.zeroValue208
  t212 := Tryz.underlying220
  a212 := Tryz.isAgg220
  z212 := Tryz.sizeOf220
  v212 := Tryz.zeroValue220
  t213 := Tryz.underlying221
  a213 := Tryz.isAgg221
  z213 := Tryz.sizeOf221
  t232 := Tryz.underlying228
  a232 := Tryz.isAgg228
  z232 := Tryz.sizeOf228
  v232 := Tryz.zeroValue228
  t233 := Tryz.underlying229
  a233 := Tryz.isAgg229
  z233 := Tryz.sizeOf229
  v233 := Tryz.zeroValue229
  g15 := by kernel_rfl
  g16 := by kernel_rfl
  g17 := by kernel_rfl
  g18 := by kernel_rfl
  g19 := by kernel_rfl
  t80 := Tryz.underlying113
  a80 := Tryz.isAgg113
  z80 := Tryz.sizeOf113
  v80 := Tryz.zeroValue113
  i0 := by kernel_rfl
  i2 := by kernel_rfl
  i3 := by kernel_rfl
  i4 := by kernel_rfl
  i5 := by kernel_rfl
  i9 := by kernel_rfl
  i20 := by kernel_rfl
  i21 := by kernel_rfl
  i37 := by kernel_rfl
  i46 := by kernel_rfl
  i51 := by kernel_rfl
  i53 := by kernel_rfl
  i75 := by kernel_rfl
  i76 := by kernel_rfl
  i80 := by kernel_rfl
  i85 := by kernel_rfl
  i127 := by kernel_rfl
  i143 := by kernel_rfl
  i145 := by kernel_rfl
  i167 := by kernel_rfl
  i168 := by kernel_rfl
  i171 := by kernel_rfl
  i173 := by kernel_rfl
  i175 := by kernel_rfl
  i210 := by kernel_rfl
  i212 := by kernel_rfl
  i232 := by kernel_rfl
  i233 := by kernel_rfl
  m15 := by kernel_rfl
  m16 := by kernel_rfl
  m17 := by kernel_rfl
  m18 := by kernel_rfl
  m19 := by kernel_rfl
  c0 := by kernel_rfl
  c2 := by kernel_rfl
  c3 := by kernel_rfl
  c4 := by kernel_rfl
  c5 := by kernel_rfl
  c9 := by kernel_rfl
  c20 := by kernel_rfl
  c21 := by kernel_rfl
  c37 := by kernel_rfl
  c46 := by kernel_rfl
  c51 := by kernel_rfl
  c53 := by kernel_rfl
  c75 := by kernel_rfl
  c76 := by kernel_rfl
  c80 := by kernel_rfl
  c85 := by kernel_rfl
  c127 := by kernel_rfl
  c143 := by kernel_rfl
  c145 := by kernel_rfl
  c167 := by kernel_rfl
  c168 := by kernel_rfl
  c171 := by kernel_rfl
  c173 := by kernel_rfl
  c175 := by kernel_rfl
  c210 := by kernel_rfl
  c212 := by kernel_rfl
  c213 := by kernel_rfl
  c232 := by kernel_rfl
  c233 := by kernel_rfl }
end Go.Proofs

namespace Go.Proofs.YtgliajcgcbnemaaGreatDoor.Hx
open Go.RowKit
variable {dm : Bool}

theorem lib_Atoi (h : Heap) (s : List UInt8) (hs : s.length ≤ 1048576) :
    HCalls false Tryz.prog 216 [Tx s] h (fun r h' => ∃ n ev, r = .tup [ci n, .pl ev] ∧ h' = h ∧ I64 n ∧ (ev = .nilIface ∧ Lib.atoiAll s = .ok n ∨ (∃ te pe, ev = .iface te pe) ∧ ∀ v, Lib.atoiAll s ≠ .ok v)) := by
  refine ⟨enters_of Tryz.func216 (by kernel_rfl) rfl, fun B0 φ w vargs R ha => ?_⟩
  have hv : vargs = #[.string ⟨s.toArray⟩] := by
    rcases vargs with ⟨vs⟩
    match vs, ha with
    | [u], hh =>
      have : u = .string ⟨s.toArray⟩ := hh.1
      rw [this]
  subst hv
  have hdat : (⟨s.toArray⟩ : ByteArray).data.toList = s := by simp
  have hsz := tx_size s
  have fin : ∀ (n : Int) (ev : Value) (w' : World), Below w.heap.size w w' → I64 n → (ev = .nilIface ∧ Lib.atoiAll s = .ok n ∨ (∃ te pe, ev = .iface te pe) ∧ ∀ v, Lib.atoiAll s ≠ .ok v) →
      ∃ v x h' φ', Ending.returned (.tuple #[.int .i64 n, ev]) = .returned v ∧ (∃ n ev, x = .tup [ci n, .pl ev] ∧ h' = h ∧ I64 n ∧ (ev = .nilIface ∧ Lib.atoiAll s = .ok n ∨ (∃ te pe, ev = .iface te pe) ∧ ∀ v, Lib.atoiAll s ≠ .ok v)) ∧ Sub φ φ' ∧ Rep B0 φ' h' w' ∧ repV φ' x v ∧ Lat false B0 w w' := fun n ev w' hb hn hx =>
    ⟨_, _, h, φ, rfl, ⟨n, ev, rfl, rfl, hn, hx⟩, Sub.refl _, R.below (dm := false) ⟨hb, fun e => by cases e⟩, ⟨_, rfl, rfl, rfl, trivial⟩, ⟨hb.mono R.base, fun e => by cases e⟩⟩
  obtain ⟨sb0, sb1⟩ := Lib.atoiSat_bounds s
  obtain ⟨A, hA⟩ : ∃ A, Lib.atoiAll s = A := ⟨_, rfl⟩
  rcases A with v | _ | _
  · have hb := Lib.atoiAll_bounds hA
    refine (Any.strconv_Atoi_ok Tryz.atoiL ⟨s.toArray⟩ (by rw [hsz]; omega) v (by rw [hdat]; exact hA) w).mono ?_
    rintro e' w' ⟨rfl, hw⟩
    have hbw : Below w.heap.size w w' := by
      rcases hw with rfl | ⟨t, rfl⟩
      · exact Below.refl _ _
      · exact Lib.bytesWorld_below _ _ _
    exact fin v .nilIface w' hbw ⟨by omega, by omega⟩ (Or.inl ⟨rfl, hA⟩)
  · obtain ⟨_, ev, hc, hev⟩ := R.tab.2.2 1 (by unfold tabE; simp)
    refine (Any.strconv_Atoi_syntax Tryz.atoiL ⟨s.toArray⟩ (by rw [hsz]; omega) (by rw [hdat]; exact hA) ev w hc hev).mono ?_
    rintro e' w' ⟨Nn, rfl, h1, h2, hb⟩
    exact fin 0 _ w' hb ⟨by omega, by omega⟩ (Or.inr ⟨⟨_, _, rfl⟩, fun v hv => by rw [hA] at hv; cases hv⟩)
  · obtain ⟨_, ev, hc, hev⟩ := R.tab.2.2 2 (by unfold tabE; simp)
    refine (Any.strconv_Atoi_range Tryz.atoiL ⟨s.toArray⟩ (by rw [hsz]; omega) (by rw [hdat]; exact hA) ev w hc hev).mono ?_
    rintro e' w' ⟨Nn, rfl, h1, h2, hb⟩
    rw [hdat]
    exact fin _ _ w' hb ⟨by omega, by omega⟩ (Or.inr ⟨⟨_, _, rfl⟩, fun v hv => by rw [hA] at hv; cases hv⟩)


set_option maxHeartbeats 1000000 in
theorem impl_ParseInt (h : Heap) (s : List UInt8) (hs : s.length ≤ 1048576) : HCalls false Tryz.prog 171 [Tx s] h (fun r h' => ∃ n ok, r = .tup [ci n, .pl (.bool ok)] ∧ h' = h ∧ ReadN s n ok) := by
  have hsz := tx_size s
  refine calls_of_hFun (m := 0) kd_ok mixed Tryz.func171 rfl (by kernel_rfl) rfl rfl (of_decide_eq_true rfl) ?_; unfold hFun; (conv => whnf)
  refine HLenS.mk ⟨_, rfl, ?_⟩
  rw [hsz]
  (conv => whnf)
  have long : s.length ≥ 10 → ReadN s 0 false := fun hl => ReadN.no fun m a b c => by
    have := (read_small a b c).1
    omega
  have main : HCalls false Tryz.prog 216 [Tx s] h (fun r h' => ∃ n ev, r = .tup [ci n, .pl ev] ∧ h' = h ∧ I64 n ∧ (ev = .nilIface ∧ Lib.atoiAll s = .ok n ∨ (∃ te pe, ev = .iface te pe) ∧ ∀ v, Lib.atoiAll s ≠ .ok v)) := lib_Atoi h s hs
  have small : ∀ m : Int, -1000 ≤ m → m ≤ 1000 → Lib.itoa m = s → Lib.atoiAll s = .ok m := fun m a b c => by
    rw [← c]
    exact atoi_itoa ⟨a, b⟩
  by_cases c1 : (s.length : Int) > 10
  · (repeat (refine HIf.decT c1 ?_; (conv => whnf)))
    (repeat (refine HIf.yes ?_; (conv => whnf)))
    exact ⟨0, false, rfl, rfl, long (by omega)⟩
  · refine HIf.decF c1 ?_
    (conv => whnf)
    refine HIf.decF c1 ?_
    (conv => whnf)
    refine HLenS.mk ⟨_, rfl, ?_⟩
    rw [hsz]
    (conv => whnf)
    refine HIf.decF c1 ?_
    (conv => whnf)
    refine HIf.decF c1 ?_
    (conv => whnf)
    by_cases c2 : (s.length : Int) = 10
    · refine HIf.beqT c2 ?_
      (conv => whnf)
      refine HIf.beqT c2 ?_
      (conv => whnf)
      refine HByte.tx (k := 0) (by omega) ?_
      (conv => whnf)
      refine HIf.beqT c2 ?_
      (conv => whnf)
      refine HIf.decF c1 ?_
      (conv => whnf)
      refine HIf.beqT c2 ?_
      (conv => whnf)
      refine HIf.decF c1 ?_
      (conv => whnf)
      refine HIf.bne (fun c3 => ?_) (fun c3 => ?_)
      · (conv => whnf)
        exact ⟨0, false, rfl, rfl, long (by omega)⟩
      · (conv => whnf)
        refine main.mono ?_
        rintro r h1 ⟨n, ev, rfl, hh, hI, hx⟩
        subst h1
        rcases hx with ⟨rfl, hA⟩ | ⟨⟨te, pe, rfl⟩, hA⟩
        · (conv => whnf)
          refine ⟨rfl, ?_⟩
          (conv => whnf)
          (repeat (refine HIf.no ?_; (conv => whnf)))
          refine (lib_Itoa _ n hI).mono ?_
          rintro r h2 ⟨rfl, hh⟩
          subst h2
          (conv => whnf)
          (repeat (refine HIf.no ?_; (conv => whnf)))
          refine HStr.neqS ?_
          (conv => whnf)
          refine HIf.no ?_
          (conv => whnf)
          by_cases c4 : Lib.itoa n = s
          · have e : (!(Lib.itoa n == s)) = false := by rw [c4]; simp
            rw [e]
            refine HIf.no ?_
            (conv => whnf)
            exact ⟨n, true, rfl, rfl, ReadN.yes hI c4⟩
          · have e : (!(Lib.itoa n == s)) = true := by simp [c4]
            rw [e]
            refine HIf.yes ?_
            (conv => whnf)
            exact ⟨0, false, rfl, rfl, ReadN.no fun m a b c => c4 (by
              have h1 := small m a b c
              rw [hA] at h1
              injection h1 with h1
              rw [h1]
              exact c)⟩
        · (conv => whnf)
          refine ⟨rfl, ?_⟩
          (conv => whnf)
          (repeat (refine HIf.yes ?_; (conv => whnf)))
          exact ⟨0, false, rfl, rfl, ReadN.no fun m a b c => hA m (small m a b c)⟩
    · refine HIf.beqF c2 ?_
      (conv => whnf)
      refine HIf.beqF c2 ?_
      (conv => whnf)
      refine HIf.beqF c2 ?_
      (conv => whnf)
      refine HIf.decF c1 ?_
      (conv => whnf)
      refine HIf.beqF c2 ?_
      (conv => whnf)
      refine HIf.decF c1 ?_
      (conv => whnf)
      refine HIf.no ?_
      (conv => whnf)
      refine main.mono ?_
      rintro r h1 ⟨n, ev, rfl, hh, hI, hx⟩
      subst h1
      rcases hx with ⟨rfl, hA⟩ | ⟨⟨te, pe, rfl⟩, hA⟩
      · (conv => whnf)
        refine ⟨rfl, ?_⟩
        (conv => whnf)
        (repeat (refine HIf.no ?_; (conv => whnf)))
        refine (lib_Itoa _ n hI).mono ?_
        rintro r h2 ⟨rfl, hh⟩
        subst h2
        (conv => whnf)
        (repeat (refine HIf.no ?_; (conv => whnf)))
        refine HStr.neqS ?_
        (conv => whnf)
        refine HIf.no ?_
        (conv => whnf)
        by_cases c4 : Lib.itoa n = s
        · have e : (!(Lib.itoa n == s)) = false := by rw [c4]; simp
          rw [e]
          refine HIf.no ?_
          (conv => whnf)
          exact ⟨n, true, rfl, rfl, ReadN.yes hI c4⟩
        · have e : (!(Lib.itoa n == s)) = true := by simp [c4]
          rw [e]
          refine HIf.yes ?_
          (conv => whnf)
          exact ⟨0, false, rfl, rfl, ReadN.no fun m a b c => c4 (by
            have h1 := small m a b c
            rw [hA] at h1
            injection h1 with h1
            rw [h1]
            exact c)⟩
      · (conv => whnf)
        refine ⟨rfl, ?_⟩
        (conv => whnf)
        (repeat (refine HIf.yes ?_; (conv => whnf)))
        exact ⟨0, false, rfl, rfl, ReadN.no fun m a b c => hA m (small m a b c)⟩

end Go.Proofs.YtgliajcgcbnemaaGreatDoor.Hx

namespace Go.Proofs.YtgliajcgcbnemaaGreatDoor.Hx
open Go.RowKit
variable {dm : Bool}

theorem part_itoa {c : List (List Int)} {s : List UInt8} (h : IsWText c s) {k : Nat} (hk : k < (cutB 44 s).length) : ∃ m : Int, -1000 ≤ m ∧ m ≤ 1000 ∧ Lib.itoa m = (cutB 44 s).getD k [] := by
  obtain ⟨u, u1, u2⟩ := h
  obtain ⟨v1, _, _, v2⟩ := weight_small u1
  have hc : cutB 44 s = u.map Lib.itoa := by rw [← u2]; exact cut_fmt v1
  rw [hc, List.length_map] at hk
  have hm := v2 u[k] (List.getElem_mem hk)
  exact ⟨u[k], hm.1, hm.2, by rw [hc]; simp [List.getD, hk]⟩


set_option maxHeartbeats 1000000 in
theorem impl_parseInts (h : Heap) (s : List UInt8) (hs : s.length ≤ 1048575) :
    HCalls false Tryz.prog 120 [Tx s] h (fun r h' => ∃ y v ok, r = T2 y ok ∧ Ext h h' ∧ (ok = true → Fresh h h' y v ∧ PartsRead s (cutB 44 s).length v) ∧ (ok = false → ∀ c, ¬ IsWText c s)) := by
  refine calls_of_hFun (m := 0) kd_ok mixed Tryz.func120 rfl (by kernel_rfl) rfl rfl (of_decide_eq_true rfl) ?_; unfold hFun; (conv => whnf)
  refine HLit.empty ?_
  have E0 := Ext.push h [Row.own []]
  have O0 : OwnR h.length (h ++ [Row.own []]) (.sl h.length 0 0) [] := OwnR.push h []
  generalize h ++ [Row.own []] = h0 at E0 O0 ⊢
  (conv => whnf)
  refine (show HCalls _ _ _ [Tx s, Tx [44]] _ _ from (lib_Split _ s 44 (by omega)).mono ?_)
  rintro r h1 ⟨rfl, rfl⟩
  have E1 := Ext.push h0 [Row.own ((cutB 44 s).map stc)]
  have hrow := get_new h0 (Row.own ((cutB 44 s).map stc))
  have hcl := cutB_len 44 s
  have hO := O0.lt
  have O1 := O0.ext E1
  have E01 := E0.trans E1
  have hpi := fun c (h : IsWText c s) k hk => part_itoa h (k := k) hk
  have hsn := fun k v n (hp : PartsRead s k v) hk hn hr => hp.snoc (n := n) hk hn hr
  have hpart : ∀ k, k < (cutB 44 s).length → ((cutB 44 s).getD k []).length ≤ s.length := fun k hk => by
    have := cutB_mem 44 s ((cutB 44 s).getD k []) (by
      have e : (cutB 44 s).getD k [] = (cutB 44 s)[k] := by simp [List.getD, hk]
      rw [e]
      exact List.getElem_mem hk)
    exact this.2
  have hcell := fun k hk => txt_cell (cutB 44 s) (k := k) hk
  have hml : ((cutB 44 s).map stc).length = (cutB 44 s).length := by simp
  have S0 := txt_shows hrow
  have hq0 := get_lt hrow
  generalize cutB 44 s = xs at *
  generalize h0.length = q at *
  generalize h0 ++ [Row.own (xs.map stc)] = h1 at *
  (conv => whnf)
  refine ⟨rfl, Shows.len S0 ?_⟩
  rw [hml]
  (conv => whnf)
  refine HLoop.intro [13, 4] [14, 15, 16, 6, 18, 19, 17, 20, 21, 7, 8, 22, 23, 2, 3, 24, 25, 26, 27, 4, 28, 13] (by kernel_rfl) (by kernel_rfl) (fun vs h' => ∃ (k p : Nat) (z : H0) (v : List Int), vs = [I k, .s z] ∧ k ≤ xs.length ∧ Ext h h' ∧ h.length ≤ p ∧ p ≠ q ∧ OwnR p h' z v ∧ h'[q]? = some (.own (xs.map stc)) ∧ PartsRead s k v) (fun vs _ => xs.length - natAt vs 0) ⟨0, h.length, _, [], rfl, by omega, E01, Nat.le_refl _, by omega, O1, hrow, PartsRead.none s⟩ ?_
  rintro vs h' ⟨k, p, z, v, rfl, hk, E, hp, hpq, O, hcs, hread⟩
  have S1 := txt_shows hcs
  have hvl := hread.1
  (conv => whnf)
  refine HIf.dec (fun hlt => ?_) (fun hge => ?_)
  · have hkl : k < xs.length := by omega
    have hl := hpart k hkl
    have ec := hcell k hkl
    have hsn' := fun n hn hr => hsn k v n hread hkl hn hr
    have hno := fun c hw => hpi c hw k hkl
    generalize xs.getD k [] = l at *
    (conv => whnf)
    refine ⟨rfl, Shows.idx S1 (by omega) (by omega) (fun pp hpp => ?_)⟩
    rw [ec] at hpp
    (conv => whnf)
    refine ⟨rfl, hpp.load ?_⟩
    (conv => whnf)
    refine (impl_ParseInt _ l (by omega)).mono ?_
    rintro r h2 ⟨n, ok, rfl, hh, hn, h2', h3'⟩
    subst h2
    cases ok with
    | false =>
      (conv => whnf)
      (repeat (first | (refine HIf.bneF rfl ?_; (conv => whnf)) | (refine HIf.yes ?_; (conv => whnf)) | (refine HIf.no ?_; (conv => whnf)) | (refine HIf.same ?_; (conv => whnf)) | (refine HIf.nsame ?_; (conv => whnf)) | (refine And.intro (show Kd.isBool _ = true from rfl) ?_; (conv => whnf))))
      exact ⟨_, [], false, rfl, E, (fun e => by cases e), fun _ c hw => by
        obtain ⟨m, m1, m2, m3⟩ := hno c hw
        have := h3' m m1 m2 m3
        cases this⟩
    | true =>
      have hq2 := get_lt hcs
      (conv => whnf)
      (repeat (first | (refine HIf.bneF rfl ?_; (conv => whnf)) | (refine HIf.yes ?_; (conv => whnf)) | (refine HIf.no ?_; (conv => whnf)) | (refine HIf.same ?_; (conv => whnf)) | (refine HIf.nsame ?_; (conv => whnf)) | (refine And.intro (show Kd.isBool _ = true from rfl) ?_; (conv => whnf))))
      refine HLit.of (xs := [ci n]) rfl (by simp [H0.one, Value.oneCell']) (by omega) ?_
      (conv => whnf)
      refine ⟨rfl, rfl, HApp.litR [n] O (by simp; omega) (fun h3 r3 y3 B3 hr3 O3 => ?_)⟩
      have E3 : Ext h h3 := KeepN.ext (F := fun z => z = p) B3 (fun z e => by omega) E
      have hcs3 : h3[q]? = some (.own (xs.map stc)) := by rw [B3.2 q hq2 (by omega)]; exact hcs
      have ea := E.1
      (conv => whnf)
      refine HArith.fits (by omega) (by omega) ?_
      (conv => whnf)
      exact ⟨⟨k + 1, r3, y3, v ++ [n], rfl, by omega, E3, by omega, by omega, O3, hcs3, hsn' n hn (fun m a b c => itoa_inj (by rw [h2' rfl, c]))⟩, by show xs.length - (k + 1) < xs.length - k; omega⟩
  · have ek : k = xs.length := by omega
    rw [ek] at hread
    (conv => whnf)
    exact ⟨_, v, true, rfl, E, fun _ => ⟨Fresh.ofRow E O hp, hread⟩, (fun e => by cases e)⟩

set_option maxHeartbeats 1000000 in
theorem impl_ParseWeight (h : Heap) (x : H0) (c : List (List Int)) (s : List UInt8) (hx : Rows h x c) (hc : c.length ≤ 1048576) (hs : s.length ≤ 1048575) :
    HCalls false Tryz.prog 59 [.s x, Tx s] h (fun r h' => ∃ y v ok, r = T2 y ok ∧ Fresh h h' y v ∧ ReadW c s v ok) := by
  have hcl := cutB_len 44 s
  refine calls_of_hFun (m := 0) kd_ok mixed Tryz.func59 rfl (by kernel_rfl) rfl rfl (of_decide_eq_true rfl) ?_; unfold hFun; (conv => whnf)
  refine (impl_parseInts _ s hs).mono ?_
  rintro r h1 ⟨y, v, ok, rfl, E, h2, h3⟩
  have no : ∀ (h3 : Heap), Ext h h3 → (¬ IsWText c s) → (∃ y v' ok, (HV.tup [.sl h3.length 0 0, .pl (.bool false)]) = T2 y ok ∧ Fresh h (h3 ++ [.own []]) y v' ∧ ReadW c s v' ok) := fun h3 E3 hno =>
    ⟨_, [], false, rfl, Fresh.ofRow (E3.pushed _) (OwnR.push h3 []) E3.1, ⟨(fun e => by cases e), fun hw => absurd hw hno⟩, (fun e => by cases e), fun _ => rfl⟩
  cases ok with
  | false =>
    (conv => whnf)
    (repeat (first | (refine HIf.bneF rfl ?_; (conv => whnf)) | (refine HIf.yes ?_; (conv => whnf)) | (refine HIf.no ?_; (conv => whnf)) | (refine HIf.same ?_; (conv => whnf)) | (refine HIf.nsame ?_; (conv => whnf)) | (refine And.intro (show Kd.isBool _ = true from rfl) ?_; (conv => whnf))))
    refine HLit.empty ?_
    (conv => whnf)
    exact no _ E (h3 rfl c)
  | true =>
    obtain ⟨F, hread⟩ := h2 rfl
    have Iv := F.ints
    have hvl := hread.1
    (conv => whnf)
    (repeat (first | (refine HIf.bneF rfl ?_; (conv => whnf)) | (refine HIf.yes ?_; (conv => whnf)) | (refine HIf.no ?_; (conv => whnf)) | (refine HIf.same ?_; (conv => whnf)) | (refine HIf.nsame ?_; (conv => whnf)) | (refine And.intro (show Kd.isBool _ = true from rfl) ?_; (conv => whnf))))
    refine (impl_IsWeight _ _ _ c v (hx.ext E) Iv (by omega) (by omega)).mono ?_
    rintro r h4 ⟨rfl, hh⟩
    subst h4
    cases hw : isWeight c v with
    | false =>
      (conv => whnf)
      (repeat (first | (refine HIf.bneF rfl ?_; (conv => whnf)) | (refine HIf.yes ?_; (conv => whnf)) | (refine HIf.no ?_; (conv => whnf)) | (refine HIf.same ?_; (conv => whnf)) | (refine HIf.nsame ?_; (conv => whnf)) | (refine And.intro (show Kd.isBool _ = true from rfl) ?_; (conv => whnf))))
      refine HLit.empty ?_
      (conv => whnf)
      exact no _ E (fun ⟨u, u1, u2⟩ => by
        rw [hread.all u1 u2, u1] at hw
        cases hw)
    | true =>
      (conv => whnf)
      (repeat (first | (refine HIf.bneF rfl ?_; (conv => whnf)) | (refine HIf.yes ?_; (conv => whnf)) | (refine HIf.no ?_; (conv => whnf)) | (refine HIf.same ?_; (conv => whnf)) | (refine HIf.nsame ?_; (conv => whnf)) | (refine And.intro (show Kd.isBool _ = true from rfl) ?_; (conv => whnf))))
      refine (impl_FormatWeight _ _ v Iv hread.2.1 (by omega)).mono ?_
      rintro r h4 ⟨rfl, E4⟩
      have E5 := E.trans E4
      (conv => whnf)
      (repeat (first | (refine HIf.bneF rfl ?_; (conv => whnf)) | (refine HIf.yes ?_; (conv => whnf)) | (refine HIf.no ?_; (conv => whnf)) | (refine HIf.same ?_; (conv => whnf)) | (refine HIf.nsame ?_; (conv => whnf)) | (refine And.intro (show Kd.isBool _ = true from rfl) ?_; (conv => whnf))))
      refine HStr.neqS ?_
      (conv => whnf)
      by_cases c1 : fmtV v = s
      · have e : (!(fmtV v == s)) = false := by rw [c1]; simp
        rw [e]
        (repeat (first | (refine HIf.bneF rfl ?_; (conv => whnf)) | (refine HIf.yes ?_; (conv => whnf)) | (refine HIf.no ?_; (conv => whnf)) | (refine HIf.same ?_; (conv => whnf)) | (refine HIf.nsame ?_; (conv => whnf)) | (refine And.intro (show Kd.isBool _ = true from rfl) ?_; (conv => whnf))))
        exact ⟨_, v, true, rfl, (by obtain ⟨qf, hqf, Of⟩ := F.row; exact Fresh.ofRow E5 (Of.ext E4) hqf), ⟨fun _ => ⟨v, hw, c1⟩, fun _ => rfl⟩, fun _ => ⟨c1, hw⟩, (fun e => by cases e)⟩
      · have e : (!(fmtV v == s)) = true := by simp [c1]
        rw [e]
        (repeat (first | (refine HIf.bneF rfl ?_; (conv => whnf)) | (refine HIf.yes ?_; (conv => whnf)) | (refine HIf.no ?_; (conv => whnf)) | (refine HIf.same ?_; (conv => whnf)) | (refine HIf.nsame ?_; (conv => whnf)) | (refine And.intro (show Kd.isBool _ = true from rfl) ?_; (conv => whnf))))
        refine HLit.empty ?_
        (conv => whnf)
        exact no _ E5 (fun ⟨u, u1, u2⟩ => c1 (by rw [hread.all u1 u2]; exact u2))

end Go.Proofs.YtgliajcgcbnemaaGreatDoor.Hx
