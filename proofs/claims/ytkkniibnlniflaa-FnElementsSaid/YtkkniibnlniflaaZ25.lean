/-
  The reference's draws for the laws of exchanges; the laws' own small functions.
  A long function walked in parts: between two parts only some slots are handed on, and what is said of them.
  From the model's readings of arguments to rows: a slice of slices of ints that came in.
  The reference's draws for the laws of elements; letters that a code spells.
-/
import Derived.Test.YtkkniibnlniflaaZ24
namespace Go.Proofs.Ytkkniibnlniflaa.Hx
open Go.RowKit
variable {dm : Bool}

theorem Code0.bytes {h : Heap} {x : H0} {l : List Int} (H : Code0 h x l) (hl : l.length ≤ 1048576) : Bytes h x l := ⟨H.1, hl, H.2.2⟩
theorem Code0.len {h : Heap} {x : H0} {l : List Int} (H : Code0 h x l) {K : HV → Prop} (hK : K (I l.length)) : HLen (.s x) K := by
  have := Shows.len H.1 (K := K)
  simp only [List.length_map] at this
  exact this hK
theorem rem_pos {a b : Int} (ha : 0 ≤ a) (hb : 0 < b) : 0 ≤ a.tmod b ∧ a.tmod b < b := tmod_pos ha hb


theorem laws_big (h : Heap) (x : H0) (l : List Int) (hx : Code0 h x l) : HCalls dm Try.prog 22 [.s x] h (fun r h' => r = B (decide ((l.length : Int) > 1048576)) ∧ h' = h) := by
  refine calls_of_hFun (m := 0) kd_ok mixed Try.func22 rfl (by kernel_rfl) rfl rfl (of_decide_eq_true rfl) ?_; unfold hFun; (conv => whnf)
  refine ⟨rfl, hx.len ?_⟩
  (conv => whnf)
  exact ⟨rfl, rfl⟩

theorem laws_has (h : Heap) (x : H0) (l : List Int) (n : Int) (hx : Ints h x l) (hl : l.length ≤ 1048576) : HCalls dm Try.prog 27 [.s x, I n] h (fun r h' => r = B (decide (n ∈ l)) ∧ h' = h) := by
  refine calls_of_hFun (m := 0) kd_ok mixed Try.func27 rfl (by kernel_rfl) rfl rfl (of_decide_eq_true rfl) ?_; unfold hFun; (conv => whnf)
  refine HLoop.intro [5] [6, 7, 8, 9, 12, 13, 14, 15, 16, 17, 4, 10, 11, 5] (by kernel_rfl) (by kernel_rfl) (fun vs h' => ∃ i : Nat, vs = [I i] ∧ h' = h ∧ i ≤ l.length ∧ ∀ j, j < i → l.getD j 0 ≠ n) (fun vs _ => l.length - natAt vs 0) ⟨0, rfl, rfl, by omega, fun j hj => by omega⟩ ?_
  rintro vs h' ⟨i, rfl, hh, hi, hb⟩
  subst h'
  (conv => whnf)
  refine ⟨rfl, hx.len ?_⟩
  (conv => whnf)
  refine HIf.dec (fun hlt => ?_) (fun hge => ?_)
  · have hil : i < l.length := by omega
    have e : l.getD i 0 = l[i] := by simp [List.getD, hil]
    (conv => whnf)
    refine ⟨rfl, hx.idxN hil (fun p hp => ?_)⟩
    (conv => whnf)
    refine ⟨rfl, hp.load ?_⟩
    (conv => whnf)
    refine HIf.beq (fun heq => ?_) (fun hne => ?_)
    · (conv => whnf)
      exact ⟨bEq (decide_eq_true (by rw [← heq, e]; exact List.getElem_mem hil)), rfl⟩
    · (conv => whnf)
      refine HArith.fits (by omega) (by omega) ?_
      (conv => whnf)
      exact ⟨⟨i + 1, rfl, rfl, by omega, fun j hj => by
        by_cases hji : j = i
        · subst hji; exact hne
        · exact hb j (by omega)⟩, by show l.length - (i + 1) < l.length - i; omega⟩
  · have e : i = l.length := by omega
    subst e
    (conv => whnf)
    refine ⟨bEq (decide_eq_false (fun hm => ?_)), rfl⟩
    obtain ⟨j, hj, e⟩ := List.getElem_of_mem hm
    exact hb j hj (by simp [List.getD, hj, e])

theorem laws_sameInts (h : Heap) (x y : H0) (a b : List Int) (hx : Ints h x a) (hy : Ints h y b) (ha : a.length ≤ 1048576) : HCalls dm Try.prog 44 [.s x, .s y] h (fun r h' => r = B (decide (a = b)) ∧ h' = h) := by
  refine calls_of_hFun (m := 0) kd_ok mixed Try.func44 rfl (by kernel_rfl) rfl rfl (of_decide_eq_true rfl) ?_; unfold hFun; (conv => whnf)
  refine ⟨rfl, hx.len ?_⟩
  (conv => whnf)
  refine ⟨rfl, hy.len ?_⟩
  (conv => whnf)
  refine HIf.bne (fun hne => ?_) (fun heq => ?_)
  · (conv => whnf)
    exact ⟨bEq (decide_eq_false (fun e => hne (by rw [e]))), rfl⟩
  have hll : a.length = b.length := by omega
  (conv => whnf)
  refine HLoop.intro [5] [11, 12, 13, 14, 17, 18, 19, 20, 21, 22, 23, 24, 25, 4, 15, 16, 5] (by kernel_rfl) (by kernel_rfl) (fun vs h' => ∃ i : Nat, vs = [I i] ∧ h' = h ∧ i ≤ a.length ∧ a.take i = b.take i) (fun vs _ => a.length - natAt vs 0) ⟨0, rfl, rfl, by omega, rfl⟩ ?_
  rintro vs h' ⟨i, rfl, hh, hi, hb⟩
  subst h'
  (conv => whnf)
  refine ⟨rfl, hx.len ?_⟩
  (conv => whnf)
  refine HIf.dec (fun hlt => ?_) (fun hge => ?_)
  · (conv => whnf)
    refine Or.inl (And.intro (show Region.lexB _ _ = true by kernel_rfl) ?_); (conv => whnf)
    refine ⟨rfl, hx.idxN (by omega) (fun p hp => ?_)⟩
    (conv => whnf)
    refine ⟨rfl, hp.load ?_⟩
    (conv => whnf)
    refine ⟨rfl, hy.idxN (by omega) (fun p2 hp2 => ?_)⟩
    (conv => whnf)
    refine ⟨rfl, hp2.load ?_⟩
    (conv => whnf)
    refine HIf.bne (fun hne => ?_) (fun heq2 => ?_)
    · (conv => whnf)
      exact ⟨bEq (decide_eq_false (fun e => hne (by rw [e]))), rfl⟩
    · (conv => whnf)
      refine HArith.fits (by omega) (by omega) ?_
      (conv => whnf)
      exact ⟨⟨i + 1, rfl, rfl, by omega, take_more (by omega) (by omega) hb heq2⟩, by show a.length - (i + 1) < a.length - i; omega⟩
  · have e : i = a.length := by omega
    subst e
    (conv => whnf)
    exact ⟨bEq (decide_eq_true (eq_of_take hll hb)), rfl⟩

theorem spec_DrawExchangeIndex (h : Heap) (y : H0) (l : List Int) (hy : Bytes h y l) : HCalls dm Try.prog 23 [.s y] h (fun v h' => ∃ x L z w n, v = .tup [x, z, ci n] ∧ Ext h h' ∧ Rows h' x L ∧ Ints h' z w ∧ Small L ∧ w.length ≤ 7 ∧ 0 ≤ n ∧ n < 4) := by
  refine calls_of_hFun (m := 0) kd_ok mixed Try.func23 rfl (by kernel_rfl) rfl rfl (of_decide_eq_true rfl) ?_; unfold hFun; (conv => whnf)
  refine (spec_l8Two _ _ _ hy).mono ?_
  rintro v h1 ⟨x, L, z, w, u, t, rfl, E, R, I1, I2, S, h2, h3⟩
  (conv => whnf)
  refine ⟨rfl, (hy.ext E).len ?_⟩
  (conv => whnf)
  refine HRem.of (by decide) ?_
  (conv => whnf)
  have hm := tmod_pos (a := (l.length : Int)) (b := 4) (by omega) (by omega)
  exact ⟨_, _, _, _, _, rfl, E, R, I2, S, h3, hm.1, hm.2⟩

theorem spec_DrawDeletionPair (h : Heap) (y : H0) (l : List Int) (hy : Bytes h y l) : HCalls dm Try.prog 33 [.s y] h (fun v h' => ∃ x L z w, v = .tup [x, z] ∧ Ext h h' ∧ RowsN (fun q => q < h.length) h' x L ∧ IntsN (fun q => q < h.length) h' z w ∧ Small L ∧ w.length ≤ 10) := by
  refine calls_of_hFun (m := 0) kd_ok mixed Try.func33 rfl (by kernel_rfl) rfl rfl (of_decide_eq_true rfl) ?_; unfold hFun; (conv => whnf)
  refine (spec_l5Any _ _ _ hy).mono ?_
  rintro v h1 ⟨x, L, z, w, rfl, rest⟩
  (conv => whnf)
  exact ⟨_, _, _, _, rfl, rest⟩

theorem spec_DrawReduceByDeletion (h : Heap) (y : H0) (l : List Int) (hy : Bytes h y l) : HCalls dm Try.prog 37 [.s y] h (fun v h' => ∃ x L z w, v = .tup [x, z] ∧ Ext h h' ∧ RowsN (fun q => q < h.length) h' x L ∧ IntsN (fun q => q < h.length) h' z w ∧ Small L ∧ w.length ≤ 10) := by
  refine calls_of_hFun (m := 0) kd_ok mixed Try.func37 rfl (by kernel_rfl) rfl rfl (of_decide_eq_true rfl) ?_; unfold hFun; (conv => whnf)
  refine (spec_l5Any _ _ _ hy).mono ?_
  rintro v h1 ⟨x, L, z, w, rfl, rest⟩
  (conv => whnf)
  exact ⟨_, _, _, _, rfl, rest⟩

theorem spec_DrawDeleteAt (h : Heap) (y : H0) (l : List Int) (hy : Bytes h y l) : HCalls dm Try.prog 43 [.s y] h (fun v h' => ∃ z w n, v = .tup [z, ci n] ∧ Ext h h' ∧ Ints h' z w ∧ w.length ≤ 10 ∧ -1 ≤ n ∧ n < 9) := by
  refine calls_of_hFun (m := 0) kd_ok mixed Try.func43 rfl (by kernel_rfl) rfl rfl (of_decide_eq_true rfl) ?_; unfold hFun; (conv => whnf)
  refine (spec_l5Any _ _ _ hy).mono ?_
  rintro v h1 ⟨x, L, z, w, rfl, E, R, ⟨I1, _⟩, S, hw⟩
  have hm := tmod_pos (a := (l.length : Int)) (b := 9) (by omega) (by omega)
  (conv => whnf)
  refine ⟨rfl, (hy.ext E).len ?_⟩
  (conv => whnf)
  refine HRem.of (by decide) ?_
  (conv => whnf)
  refine HArith.fits (by omega) (by omega) ?_
  (conv => whnf)
  exact ⟨_, _, _, rfl, E, I1, hw, by omega, by omega⟩

theorem spec_DrawReplayDeletions (h : Heap) (y : H0) (l : List Int) (hy : Bytes h y l) : HCalls dm Try.prog 40 [.s y] h (fun v h' => ∃ z w u t, v = .tup [z, u] ∧ Ext h h' ∧ Ints h' z w ∧ Ints h' u t ∧ w.length ≤ 10 ∧ t.length ≤ 31) := by
  refine calls_of_hFun (m := 0) kd_ok mixed Try.func40 rfl (by kernel_rfl) rfl rfl (of_decide_eq_true rfl) ?_; unfold hFun; (conv => whnf)
  refine (spec_l1New _ _ _ hy).mono ?_
  rintro v h1 ⟨c, r, rfl, E1, hr, C1⟩
  have r1 := C1.lt
  (conv => whnf)
  refine (spec_l5Any _ _ _ (hy.ext E1)).mono ?_
  rintro v h2 ⟨x, L, z, w, rfl, E2, R2, I2, S, hw⟩
  have IZ : ∀ p o n, z = .sl p o n → p < h2.length := fun p o n e => by
    have := I2.1
    subst e
    exact Shows.in_lt this
  replace I2 : IntsN (fun q => q = r) h2 z w := ⟨I2.1, fun q o n e g => I2.2 q o n e (by have g : q = r := g; show q < h1.length; omega)⟩
  have C2 := C1.ext E2
  (conv => whnf)
  refine (spec_ReduceByDeletion _ _ _ _ _ R2.rows I2.1 S.sz (by omega)).mono ?_
  rintro v h3 ⟨y3, u, rfl, E3, e, he1, he2, O3, U3⟩
  have hlen := (red_le L 15 w []).2
  generalize (red L 15 w []).2 = t at hlen U3 ⊢
  have ht : t.length ≤ 30 := by simpa using hlen
  have I3 := I2.keep (KeepN.ofExt E3) (fun _ _ g => g)
  have C3 := C2.ext E3
  obtain ⟨q, hq1, hq2, U3⟩ := U3.row
  have n2 := E2.1
  (conv => whnf)
  refine (spec_l1Once _ r _ 4 C3 (by omega)).mono ?_
  rintro v h4 ⟨b, rfl, K4, C4⟩
  have I4 := I3.keep K4 (fun _ _ g => g)
  have U4 := U3.keep K4 (by omega)
  have E13 := E2.trans E3
  (conv => whnf)
  refine HIf.split (fun hb => ?_) (fun hb => ?_)
  · (conv => whnf)
    refine (spec_l1Below _ r _ 9 C4 (by omega)).mono ?_
    rintro v h5 ⟨m, rfl, m0, m1, _, K5, C5⟩
    have I5 := I4.keep K5 (fun _ _ g => g)
    have U5 := U4.keep K5 (by omega)
    have n5 := K5.1
    have n4 := K4.1
    have n3 := E3.1
    have E5 : Ext h h5 := KeepN.ext (K4.then K5) (fun p e => by omega) (E1.trans E13)
    (conv => whnf)
    refine HLit.of (xs := [ci m]) rfl (by simp [H0.one, Value.oneCell']) (by omega) ?_
    (conv => whnf)
    refine ⟨rfl, rfl, HApp.litR [m] U5 (by simp; omega) (fun h6 r6 y6 B6 hr6 U6 => ?_)⟩
    have I6 : Ints h6 z w := Shows.keep (F := fun p => p = q) I5.1 (fun p o n e g => by have g : p = q := g; have := IZ p o n e; omega) B6
    (conv => whnf)
    exact ⟨_, _, _, _, rfl, KeepN.ext (F := fun p => p = q) B6 (fun p e => by omega) E5, I6, U6.ints, hw, by simp; omega⟩
  · (conv => whnf)
    exact ⟨_, _, _, _, rfl, KeepN.ext K4 (fun p e => by omega) (E1.trans E13), I4.1, U4.ints, hw, by omega⟩

end Go.Proofs.Ytkkniibnlniflaa.Hx

namespace Go.Proofs.Ytkkniibnlniflaa.Hx
open Go.RowKit
variable {dm : Bool}

section
variable {P : Program} {kd : TypeId → Kd} {n m : Nat}

/-- The first k parts of a row of parts; K speaks of what they leave. -/
def hcut (dm : Bool) (P : Program) (kd : TypeId → Kd) (n m : Nat) (k : Nat) : Code → (Ex → Fr → Heap → Prop) → (Fr → Heap → Prop) → Fr → Heap → Prop :=
  Nat.rec (motive := fun _ => Code → (Ex → Fr → Heap → Prop) → (Fr → Heap → Prop) → Fr → Heap → Prop) (fun _ _ K fr h => K fr h) (fun _ ih c Q K fr h => match c with
    | .seq a b => hwp dm P kd n m a (fun e fr' h' => match e with | .normal => ih b Q K fr' h' | e => Q e fr' h') fr h
    | _ => False) k

/-- The rest. -/
noncomputable def chop (k : Nat) : Code → Code :=
  Nat.rec (motive := fun _ => Code → Code) (fun c => c) (fun _ ih c => match c with
    | .seq _ b => ih b
    | c => c) k

/-- Parts: so many parts, the slots handed on, and what is said of them. -/
def hparts (dm : Bool) (P : Program) (kd : TypeId → Kd) (n m : Nat) (l : List (Nat × List Nat × (List HV → Heap → Prop))) : Code → (Ex → Fr → Heap → Prop) → Fr → Heap → Prop :=
  List.rec (motive := fun _ => Code → (Ex → Fr → Heap → Prop) → Fr → Heap → Prop) (fun c Q fr h => hwp dm P kd n m c Q fr h) (fun x _ ih c Q fr h =>
    hcut dm P kd n m x.1 c Q (fun fr' h' => x.2.2 (x.2.1.map fr') h') fr h ∧ ∀ vs h', x.2.2 vs h' → ih (chop x.1 c) Q (place (fun _ => .dead) [] x.2.1 vs) h') l

theorem hcut_sound (E : ∀ t, (kd t).ok P t) (hm : P.follows .mixedOrders = true) : ∀ (k : Nat) (c : Code) {Qh : Ex → Fr → Heap → Prop} {K : Fr → Heap → Prop} {fr : Fr} {a : Act} {h : Heap} {φ : Plan} {w : World} {B0 : Nat}, Rep B0 φ h w → FrRep φ n fr a → hcut dm P kd n m k c Qh K fr h →
    ∀ {Q : Exit → Act → World → Prop}, (∀ e fr' a' h' φ' w', Qh e fr' h' → Sub φ φ' → Rep B0 φ' h' w' → FrRep φ' n fr' a' → Lat dm B0 w w' → Q e.toExit a' w') →
    (∀ fr' a' h' φ' w', K fr' h' → Sub φ φ' → Rep B0 φ' h' w' → FrRep φ' n fr' a' → Lat dm B0 w w' → (chop k c).wp P Q a' w') → c.wp P Q a w
  | 0, c, Qh, K, fr, a, h, φ, w, B0, R, F, H, Q, _, hK => hK fr a h φ w H (Sub.refl φ) R F (Lat.refl B0 w)
  | k + 1, c, Qh, K, fr, a, h, φ, w, B0, R, F, H, Q, hQ, hK => by
    cases c with
    | seq x y =>
      refine wp_seq (hwp_sound E hm x R F H (fun e fr' a' h' φ' w' q s r f b u => ?_))
      cases e with
      | normal => exact hcut_sound E hm k y r f q (fun e2 fr2 a2 h2 φ2 w2 q2 s2 r2 f2 b2 => hQ e2 fr2 a2 h2 φ2 w2 q2 (s.trans s2) r2 f2 (b.trans b2)) (fun fr2 a2 h2 φ2 w2 q2 s2 r2 f2 b2 => hK fr2 a2 h2 φ2 w2 q2 (s.trans s2) r2 f2 (b.trans b2))
      | exit id => exact hQ (.exit id) fr' a' h' φ' w' q s r f b
      | ret => exact hQ .ret fr' a' h' φ' w' q s r f b
    | _ => exact H.elim

theorem only_rep {φ : Plan} {fr' : Fr} {a : Act} (F : FrRep φ n fr' a) (l : List Nat) : FrRep φ n (place (fun _ => .dead) [] l (l.map fr')) a := by
  have key : ∀ (l : List Nat) (t : Nat), place (fun _ => .dead) [] l (l.map fr') t = .dead ∨ place (fun _ => .dead) [] l (l.map fr') t = fr' t := by
    intro l
    induction l with
    | nil => intro t; exact Or.inl rfl
    | cons x l ih =>
      intro t
      simp only [place_cons, List.map_cons]
      by_cases ht : t = x
      · subst ht
        simp
      · simp only [beq_ne ht, cond_false]
        exact ih t
  refine ⟨F.size, fun t ht => ?_, fun t ht => ?_, F.defers⟩
  · rcases key l t with e | e
    · rw [e]; trivial
    · rw [e]; exact F.has t ht
  · rcases key l t with e | e
    · exact e
    · rw [e]; exact F.out t ht

theorem hparts_sound (E : ∀ t, (kd t).ok P t) (hm : P.follows .mixedOrders = true) : ∀ (l : List (Nat × List Nat × (List HV → Heap → Prop))) (c : Code) {Qh : Ex → Fr → Heap → Prop} {fr : Fr} {a : Act} {h : Heap} {φ : Plan} {w : World} {B0 : Nat}, Rep B0 φ h w → FrRep φ n fr a → hparts dm P kd n m l c Qh fr h →
    ∀ {Q : Exit → Act → World → Prop}, (∀ e fr' a' h' φ' w', Qh e fr' h' → Sub φ φ' → Rep B0 φ' h' w' → FrRep φ' n fr' a' → Lat dm B0 w w' → Q e.toExit a' w') → c.wp P Q a w
  | [], c, Qh, fr, a, h, φ, w, B0, R, F, H, Q, hQ => hwp_sound E hm c R F H (fun e fr' a' h' φ' w' q s r f b _ => hQ e fr' a' h' φ' w' q s r f b)
  | x :: rest, c, Qh, fr, a, h, φ, w, B0, R, F, H, Q, hQ =>
    hcut_sound E hm x.1 c R F H.1 hQ (fun fr' a' h' φ' w' q s r f b =>
      hparts_sound E hm rest (chop x.1 c) r (only_rep f x.2.1) (H.2 _ _ q) (fun e2 fr2 a2 h2 φ2 w2 q2 s2 r2 f2 b2 => hQ e2 fr2 a2 h2 φ2 w2 q2 (s.trans s2) r2 f2 (b.trans b2)))

def hFunS (dm : Bool) (P : Program) (kd : TypeId → Kd) (n m : Nat) (rs : List ResultVar) (c : Code) (cuts : List (Nat × List Nat × (List HV → Heap → Prop))) (args : List HV) (h : Heap) (R : HV → Heap → Prop) : Prop :=
  hparts dm P kd n m cuts c (fun e fr h' => match e with
    | .exit _ => False
    | _ => hRet rs fr fun x => R x h') (frameOf args) h

theorem calls_of_hSeg (cuts : List (Nat × List Nat × (List HV → Heap → Prop))) (E : ∀ t, (kd t).ok P t) (hm : P.follows .mixedOrders = true) {k : FuncId} {fn : Func} {c : Code} (hf : P.funcs[k]? = some fn) (hb : fn.body = some c) (hname : (fn.name == "runtime.NumGoroutine") = false)
    (hn : fn.ntmps = n) {rs : List ResultVar} (hr : fn.results.toList = rs) {args : List HV} (hargs : args.length ≤ n) {h : Heap} {R : HV → Heap → Prop} (H : hFunS dm P kd n m rs c cuts args h R) : HCalls dm P k args h R := by
  refine ⟨fun as1 w => ?_, fun B0 φ w vargs r ha => ?_⟩
  · have hbn : fn.body.isNone = false := by simp [hb]
    simp only [callFunc, Sem.run_bind, run_program, Result.andThen_ok, hf, hname, hbn, Bool.false_eq_true, if_false, Sem.run_pure]
  · have hlen := ha.length
    have hvl : vargs.size = args.length := by simpa using hlen.symm
    refine calls_of_wp hf hb (hparts_sound (n := n) (m := m) E hm cuts c r (φ := φ) (fr := frameOf args) ?_ H (fun e fr' a' h' φ' w' q s r' f b => ?_))
    · refine ⟨by simp [hn, hvl]; omega, fun t ht => ?_, fun t ht => ?_, rfl⟩
      · rw [frameOf_get]
        by_cases htl : t < args.length
        · obtain ⟨v, e1, e2⟩ := ha.get t args[t] (List.getElem?_eq_getElem htl)
          have hv : vargs[t]? = some v := by simpa using e1
          have : (vargs ++ Array.replicate (fn.ntmps - vargs.size) undef).getD t undef = v := by
            rw [Array.getD_eq_getD_getElem?, Array.getElem?_append_left (by omega), hv]
            rfl
          show repV φ _ _
          rw [this]
          have h2 : args.getD t .dead = args[t] := by simp [List.getD, htl]
          rw [h2]
          exact e2
        · have h2 : args.getD t .dead = .dead := by simp [List.getD, Nat.le_of_not_lt htl]
          rw [h2]
          trivial
      · rw [frameOf_get]
        simp [List.getD, show args.length ≤ t by omega]
    · have fin : ∀ (hh : hRet rs fr' fun x => R x h'), a'.defers = [] ∧ ∃ v, (results fn a'.tmps).run P w' = .ok v w' ∧ ∃ v' x h'' φ'', Ending.returned v = .returned v' ∧ R x h'' ∧ Sub φ φ'' ∧ Rep B0 φ'' h'' w' ∧ repV φ'' x v' ∧ Lat dm B0 w w' := by
        intro hh
        obtain ⟨v, x, e1, e2, e3⟩ := hRet_sound (P := P) hh f hr w'
        exact ⟨f.defers, v, e1, v, x, h', φ', rfl, e3, s, r', e2, b⟩
      cases e with
      | normal => exact fin q
      | ret => exact fin q
      | exit j => exact q.elim

end

theorem HIf.same {b : Bool} {A C : Prop} (h : A) : HIf (b == b) A C := HIf.isT (by simp) h
theorem HIf.nsame {b : Bool} {A C : Prop} (h : C) : HIf (!(b == b)) A C := HIf.isF (by simp) h

end Go.Proofs.Ytkkniibnlniflaa.Hx

namespace Go.Proofs.Ytkkniibnlniflaa.Hx
open Go.RowKit Go.ChangeShapes Go.WideShapes Go.ChangeAt

theorem i64_wf {n : Int} (h : (Lit.int .i64 n).wf = true) : -9223372036854775808 ≤ n ∧ n ≤ 9223372036854775807 := by
  simp only [Lit.wf, Bool.and_eq_true, decide_eq_true_eq] at h
  have h1 : IntKind.i64.min = -9223372036854775808 := by decide
  have h2 : IntKind.i64.max = 9223372036854775807 := by decide
  rw [h1, h2] at h
  exact h

/-- Many values opened, one after the other. -/
theorem open_many {Q : List Int → Prop} {w : World} : ∀ (vs : List Value) {φ : Plan} {h : Heap}, Rep w.heap.size φ h w →
    (∀ v ∈ vs, ∃ l : List Int, Q l ∧ ∀ (φ : Plan) (h : Heap), Rep w.heap.size φ h w → Opened φ h w v (fun h' x => Ints h' x l)) →
    ∃ (xs : List H0) (L : List (List Int)) (φ' : Plan) (h' : Heap), Sub φ φ' ∧ Ext h h' ∧ Rep w.heap.size φ' h' w ∧ xs.length = vs.length ∧ L.length = vs.length ∧
      (∀ (i : Nat) (x : H0) (v : Value), xs[i]? = some x → vs[i]? = some v → rep0 φ' x v) ∧ (∀ (i : Nat) (x : H0) (l : List Int), xs[i]? = some x → L[i]? = some l → Ints h' x l) ∧ ∀ l ∈ L, Q l
  | [], φ, h, R, _ => ⟨[], [], φ, h, Sub.refl _, Ext.refl _, R, rfl, rfl, fun i x v e => by simp at e, fun i x v e => by simp at e, fun l e => by simp at e⟩
  | v :: vs, φ, h, R, each => by
    obtain ⟨l, hl, hop⟩ := each v (by simp)
    obtain ⟨x, φ1, h1, s1, e1, R1, r1, t1⟩ := hop φ h R
    obtain ⟨xs, L, φ2, h2, s2, e2, R2, n1, n2, r2, t2, b2⟩ := open_many vs R1 (fun v hv => each v (by simp [hv]))
    refine ⟨x :: xs, l :: L, φ2, h2, s1.trans s2, e1.trans e2, R2, by simp [n1], by simp [n2], fun i y v' hy hv => ?_, fun i y l' hy hl' => ?_, fun l' hl' => ?_⟩
    · cases i with
      | zero => simp at hy hv; subst hy; subst hv; exact rep0.mono s2 r1
      | succ i => exact r2 i y v' (by simpa using hy) (by simpa using hv)
    · cases i with
      | zero => simp at hy hl'; subst hy; subst hl'; exact t1.ext e2
      | succ i => exact t2 i y l' (by simpa using hy) (by simpa using hl')
    · rcases List.mem_cons.1 hl' with rfl | hm
      · exact hl
      · exact b2 l' hm

theorem Opened.mono {φ : Plan} {h : Heap} {w : World} {v : Value} {T T' : Heap → H0 → Prop} (H : Opened φ h w v T) (k : ∀ h' x, T h' x → T' h' x) : Opened φ h w v T' := by
  obtain ⟨x, φ', h', a, b, c, d, e⟩ := H
  exact ⟨x, φ', h', a, b, c, d, k _ _ e⟩

def Wide (l : List Int) : Prop := ∀ n ∈ l, -9223372036854775808 ≤ n ∧ n ≤ 9223372036854775807

def Sizes (L : List (List Int)) : Prop := L.length ≤ 9223372036854775807 ∧ ∀ i, (L.getD i []).length ≤ 9223372036854775807

/-- An argument that is a slice of slices of ints. -/
theorem open_arg_rowsI {H : Type} {enc : TypeId × Value → H} {P : Program} {w : World} {t u e : TypeId} {v : Value} {d : DataW H} {ps : List MemPlace} {base : Nat} (ht : P.underlying t = some (.slice u)) (hu : P.underlying u = some (.slice e)) (he : P.underlying e = some (.int .i64))
    (hcu : P.cellsOf u = 1) (hc : P.cellsOf e = 1) (hv : Value.okWide P w .any base t v) (h0 : DataW.Trod enc P w 0 (fun _ => true) true t v d ps) {φ : Plan} {h : Heap} (R : Rep w.heap.size φ h w) : ∃ L, Opened φ h w v (fun h' x => Rows h' x L ∧ Sizes L ∧ ∀ l ∈ L, Wide l) := by
  obtain ⟨a0, len, cap, rfl⟩ := okWide_slice ht hv
  obtain ⟨fuel, hf⟩ := h0
  have none_ : ∀ (ao : Option Addr) (cap : Nat), Opened φ h w (.slice ao 0 cap) (fun h' x => Rows h' x [] ∧ Sizes [] ∧ ∀ l ∈ ([] : List (List Int)), Wide l) := fun ao cap =>
    ⟨.pl (.slice ao 0 cap), φ, h, Sub.refl _, Ext.refl _, R, rfl, ⟨[], Shows.nils _ _, rfl, fun i y l e => by simp at e⟩, ⟨by simp, fun i => by simp⟩, fun l hl => by simp at hl⟩
  rcases DataW.trod_slice ht hf with ⟨hcs, hx⟩ | ⟨a, len', cap', elems, rest, n, rfl, hcs, _, _, hl, hm, hlen, hel, _⟩
  · simp [Value.cells] at hcs
    obtain ⟨rfl, rfl, rfl⟩ := hcs
    exact ⟨[], none_ none 0⟩
  · simp [Value.cells] at hcs
    obtain ⟨rfl, rfl, rfl⟩ := hcs
    by_cases hz : len = 0
    · subst hz
      exact ⟨[], none_ (some a) cap⟩
    have cell : ∀ i, i < len → ∃ c, w.cell? (a.add i) = some c ∧ ∃ l : List Int, (l.length ≤ maxLen ∧ Wide l) ∧ ∀ (φ : Plan) (h : Heap), Rep w.heap.size φ h w → Opened φ h w c (fun h' x => Ints h' x l) := by
      intro i hi
      have hE := hel i hi
      rw [hcu, Nat.mul_one, List.getElem?_eq_getElem (by omega), Option.bind_eq_some_iff] at hE
      obtain ⟨cs1, hc1, hy1⟩ := hE
      rcases open_ints hu he hc hy1 with ⟨rfl, _⟩ | ⟨b, l1, c1, zs, rfl, _, hl1, hm1, hz1, _, hcell, hwz⟩
      · exact ⟨_, cell_of_cells?_one hc1, [], ⟨by simp, fun n hn => by simp at hn⟩, fun φ h R => open_cells R none 0 0 [] (Nat.le_refl _) (by unfold maxLen; omega) rfl (fun _ => rfl) (fun a h => by cases h)⟩
      · simp only [if_true] at hz1
        exact ⟨_, cell_of_cells?_one hc1, zs.take l1, ⟨by simp; omega, fun n hn => i64_wf (hwz n (List.mem_of_mem_take hn))⟩, fun φ h R => open_cells R (some b) l1 c1 zs hl1 hm1 hz1 (fun h => by cases h) (fun a' h => by cases h; exact fun i hi => hcell i (by omega))⟩
    let vs : List Value := (List.range len).map fun i => (w.cell? (a.add i)).getD undef
    have hvl : vs.length = len := by simp [vs]
    have hvi : ∀ (i : Nat) (v : Value), vs[i]? = some v → i < len ∧ w.cell? (a.add i) = some v := by
      intro i v hv
      have hi : i < len := by have := (List.getElem?_eq_some_iff.1 hv).1; omega
      obtain ⟨c, hc, _⟩ := cell i hi
      simp only [vs, List.getElem?_map, List.getElem?_range hi, Option.map_some, hc, Option.getD_some, Option.some.injEq] at hv
      subst hv
      exact ⟨hi, hc⟩
    obtain ⟨xs, L, φ2, h2, s2, e2, R2, n1, n2, r2, t2, b2⟩ := open_many vs R (fun v hv => by
      obtain ⟨i, hi⟩ := List.getElem?_of_mem hv
      obtain ⟨hil, hc⟩ := hvi i v hi
      obtain ⟨c, hc2, rest⟩ := cell i hil
      rw [hc] at hc2
      cases hc2
      exact rest)
    obtain ⟨b, off, spot⟩ := a
    obtain ⟨c0, hc0, _⟩ := cell 0 (by omega)
    have hspot : spot = none := by simpa [Addr.add] using World.cell?_spot hc0
    subst hspot
    have hb : b < w.heap.size := World.block_lt_of_cell? w ⟨b, off, none⟩ (by simpa [Addr.add] using hc0)
    refine ⟨L, .sl h2.length 0 len, φ2 ++ [⟨b, off, cap⟩], h2 ++ [.ro xs], s2.trans (Sub.push _ _), e2.trans (Ext.push _ _), R2.pushRo ⟨b, off, cap⟩ hb _ (fun k c hk => ?_), ⟨⟨b, off, cap⟩, _, _, ?_, rfl, hl, hm, by simp, fun _ => rfl⟩, ⟨xs, ?_, by omega, fun i y l hy hl => (t2 i y l hy hl).ext (Ext.push _ _)⟩, ?_, fun l hl => (b2 l hl).2⟩
    · have hk2 : k < vs.length := by have := (List.getElem?_eq_some_iff.1 hk).1; omega
      obtain ⟨_, hc⟩ := hvi k vs[k] (List.getElem?_eq_getElem hk2)
      exact ⟨vs[k], by rw [← addr_add]; exact hc, r2 k c _ hk (List.getElem?_eq_getElem hk2)⟩
    · rw [← R2.len, List.getElem?_append_right (Nat.le_refl _)]
      simp
    · have := Shows.ro h2.length 0 len _ (get_new h2 (.ro xs)) (by omega)
      simp only [List.drop_zero] at this
      rw [List.take_of_length_le (by omega)] at this
      exact this
    · have hml : maxLen ≤ 9223372036854775807 := by unfold maxLen; omega
      refine ⟨by omega, fun i => ?_⟩
      by_cases hi : i < L.length
      · have := (b2 L[i] (List.getElem_mem hi)).1
        simp [List.getD, hi]
        omega
      · simp [List.getD, Nat.le_of_not_lt hi]

theorem open_arg_rows {H : Type} {enc : TypeId × Value → H} {P : Program} {w : World} {t u e : TypeId} {v : Value} {d : DataW H} {ps : List MemPlace} {base : Nat} (ht : P.underlying t = some (.slice u)) (hu : P.underlying u = some (.slice e)) (he : P.underlying e = some (.int .i64))
    (hcu : P.cellsOf u = 1) (hc : P.cellsOf e = 1) (hv : Value.okWide P w .any base t v) (h0 : DataW.Trod enc P w 0 (fun _ => true) true t v d ps) {φ : Plan} {h : Heap} (R : Rep w.heap.size φ h w) : ∃ L, Opened φ h w v (fun h' x => Rows h' x L ∧ Sizes L) := by
  obtain ⟨L, O⟩ := open_arg_rowsI ht hu he hcu hc hv h0 R
  exact ⟨L, O.mono fun h' x k => ⟨k.1, k.2.1⟩⟩

end Go.Proofs.Ytkkniibnlniflaa.Hx

namespace Go.Proofs.Ytkkniibnlniflaa.Hx
open Go.RowKit
variable {dm : Bool}

theorem Bytes.lenB {h : Heap} {x : H0} {l : List Int} (H : Bytes h x l) : l.length ≤ 1048576 := H.2.1


theorem laws_at (h : Heap) (x : H0) (l : List Int) (i : Int) (hx : Bytes h x l) (h0 : 0 ≤ i) (h1 : i ≤ 1000) : HCalls dm Try.prog 105 [.s x, I i] h (fun r h' => ∃ n : Int, r = I n ∧ 0 ≤ n ∧ n < 256 ∧ h' = h) := by
  have hl := hx.lenB
  refine calls_of_hFun (m := 0) kd_ok mixed Try.func105 rfl (by kernel_rfl) rfl rfl (of_decide_eq_true rfl) ?_; unfold hFun; (conv => whnf)
  refine ⟨rfl, hx.len ?_⟩
  (conv => whnf)
  refine HIf.dec (fun hlt => ?_) (fun hge => ?_)
  · (conv => whnf)
    refine ⟨rfl, hx.idx h0 hlt (fun p n n0 n1 hp => ?_)⟩
    (conv => whnf)
    refine ⟨rfl, hp.load ?_⟩
    (conv => whnf)
    refine HConv.of ?_
    rw [wrap_byte ⟨n0, n1⟩]
    (conv => whnf)
    exact ⟨n, rfl, n0, n1, rfl⟩
  · (conv => whnf)
    refine HArith.fits (by omega) (by omega) ?_
    (conv => whnf)
    refine ⟨rfl, hx.len ?_⟩
    (conv => whnf)
    refine HArith.fits (by omega) (by omega) ?_
    (conv => whnf)
    refine HArith.fits (by omega) (by omega) ?_
    (conv => whnf)
    refine HRem.of (by decide) ?_
    (conv => whnf)
    have ht := tmod_pos (a := i * 37 + (l.length : Int) * 11) (b := 256) (by omega) (by omega)
    exact ⟨_, rfl, ht.1, ht.2, rfl⟩

theorem laws_letters (h : Heap) (x : H0) (l : List Int) (y : H0) (c : List (List Int)) (i most : Int) (hx : Bytes h x l) (hy : Rows h y c) (hc : 1 ≤ c.length) (hc2 : c.length ≤ 1048576) (h0 : 0 ≤ i) (h1 : i ≤ 100) (hm : 0 ≤ most) (hm2 : most ≤ 100) :
    HCalls dm Try.prog 50 [.s x, I i, .s y, I most] h (fun r h' => ∃ z w, r = .s z ∧ Fresh h h' z w ∧ (w.length : Int) ≤ most ∧ lettersOk c w = true) := by
  refine calls_of_hFun (m := 0) kd_ok mixed Try.func50 rfl (by kernel_rfl) rfl rfl (of_decide_eq_true rfl) ?_; unfold hFun; (conv => whnf)
  refine HLit.empty ?_
  have E0 := Ext.push h [Row.own []]
  have O0 : OwnR h.length (h ++ [Row.own []]) (.sl h.length 0 0) [] := OwnR.push h []
  generalize h ++ [Row.own []] = hz at E0 O0 ⊢
  (conv => whnf)
  refine HLoop.intro [10, 9] [12, 13, 14, 15, 16, 17, 18, 19, 22, 23, 24, 25, 26, 27, 28, 29, 30, 31, 32, 33, 9, 20, 21, 10] (by kernel_rfl) (by kernel_rfl) (fun vs h' => ∃ (k : Nat) (z : H0) (w : List Int) (q : Nat), vs = [I k, .s z] ∧ (k : Int) ≤ most ∧ Ext h h' ∧ h.length ≤ q ∧ OwnR q h' z w ∧ w.length = k ∧ lettersOk c w = true) (fun vs _ => most.toNat - natAt vs 0) ⟨0, _, [], h.length, rfl, hm, E0, Nat.le_refl _, O0, rfl, rfl⟩ ?_
  rintro vs h' ⟨k, z, w, q, rfl, hk, E, hq, O, hw, hl⟩
  have hx' := hx.ext E
  have hy' := hy.ext E
  (conv => whnf)
  refine (laws_at _ _ _ i hx' h0 (by omega)).mono ?_
  rintro r h2 ⟨n, rfl, n0, n1, hh⟩
  subst h2
  (conv => whnf)
  refine HArith.fits (by omega) (by omega) ?_
  (conv => whnf)
  have ht := tmod_pos (a := n) (b := most + 1) n0 (by omega)
  refine HRem.of (by omega) ?_
  (conv => whnf)
  refine HIf.dec (fun hlt => ?_) (fun hge => ?_)
  · (conv => whnf)
    refine HArith.fits (by omega) (by omega) ?_
    (conv => whnf)
    refine HArith.fits (by omega) (by omega) ?_
    (conv => whnf)
    refine (laws_at _ _ _ _ hx' (by omega) (by omega)).mono ?_
    rintro r h2 ⟨n2, rfl, n20, n21, hh⟩
    subst h2
    (conv => whnf)
    refine ⟨rfl, hy'.len ?_⟩
    (conv => whnf)
    have ht2 := tmod_pos (a := n2) (b := (c.length : Int)) n20 (by omega)
    refine HRem.of (by omega) ?_
    generalize n2.tmod (c.length : Int) = v at ht2 ⊢
    (conv => whnf)
    refine HLit.of (xs := [ci v]) rfl (by simp [H0.one, Value.oneCell']) (by omega) ?_
    (conv => whnf)
    refine ⟨rfl, rfl, HApp.litR [v] O (by simp; omega) (fun h3 r3 y3 B3 hr3 O3 => ?_)⟩
    have E3 : Ext h h3 := KeepN.ext (F := fun p => p = q) B3 (fun p e => by omega) E
    have n3 := E.1
    (conv => whnf)
    refine HArith.fits (by omega) (by omega) ?_
    (conv => whnf)
    exact ⟨⟨k + 1, y3, w ++ [v], r3, rfl, by omega, E3, by omega, O3, by simp [hw], letters_app.2 ⟨hl, by simp [lettersOk, isPoint, inRange]; omega⟩⟩, by show most.toNat - (k + 1) < most.toNat - k; omega⟩
  · (conv => whnf)
    exact ⟨_, _, rfl, Fresh.ofRow E O hq, by omega, hl⟩

theorem spec_DrawMultiplyElements (h : Heap) (y : H0) (l : List Int) (hy : Bytes h y l) : HCalls dm Try.prog 46 [.s y] h (fun v h' => ∃ x L z w u t, v = .tup [x, z, u] ∧ Ext h h' ∧ Rows h' x L ∧ Ints h' z w ∧ Ints h' u t ∧ Small L ∧ w.length ≤ 7 ∧ t.length ≤ 7) := by
  refine calls_of_hFun (m := 0) kd_ok mixed Try.func46 rfl (by kernel_rfl) rfl rfl (of_decide_eq_true rfl) ?_; unfold hFun; (conv => whnf)
  refine (spec_l8Two _ _ _ hy).mono ?_
  rintro v h1 ⟨x, L, z, w, u, t, rfl, rest⟩
  (conv => whnf)
  exact ⟨_, _, _, _, _, _, rfl, rest⟩

theorem spec_DrawConjugateElement (h : Heap) (y : H0) (l : List Int) (hy : Bytes h y l) : HCalls dm Try.prog 56 [.s y] h (fun v h' => ∃ x L z w u t, v = .tup [x, z, u] ∧ Ext h h' ∧ Rows h' x L ∧ Ints h' z w ∧ Ints h' u t ∧ Small L ∧ w.length ≤ 7 ∧ t.length ≤ 7) := by
  refine calls_of_hFun (m := 0) kd_ok mixed Try.func56 rfl (by kernel_rfl) rfl rfl (of_decide_eq_true rfl) ?_; unfold hFun; (conv => whnf)
  refine (spec_l8Two _ _ _ hy).mono ?_
  rintro v h1 ⟨x, L, z, w, u, t, rfl, rest⟩
  (conv => whnf)
  exact ⟨_, _, _, _, _, _, rfl, rest⟩

theorem spec_DrawInverseElement (h : Heap) (y : H0) (l : List Int) (hy : Bytes h y l) : HCalls dm Try.prog 59 [.s y] h (fun v h' => ∃ x L z w, v = .tup [x, z] ∧ Ext h h' ∧ RowsN (fun q => q < h.length) h' x L ∧ IntsN (fun q => q < h.length) h' z w ∧ Small L ∧ w.length ≤ 10) := by
  refine calls_of_hFun (m := 0) kd_ok mixed Try.func59 rfl (by kernel_rfl) rfl rfl (of_decide_eq_true rfl) ?_; unfold hFun; (conv => whnf)
  refine (spec_l5Any _ _ _ hy).mono ?_
  rintro v h1 ⟨x, L, z, w, rfl, rest⟩
  (conv => whnf)
  exact ⟨_, _, _, _, rfl, rest⟩

theorem spec_DrawIsElement (h : Heap) (y : H0) (l : List Int) (hy : Bytes h y l) : HCalls dm Try.prog 62 [.s y] h (fun v h' => ∃ x L z w, v = .tup [x, z] ∧ Ext h h' ∧ Rows h' x L ∧ Ints h' z w ∧ Small L ∧ w.length ≤ 7) := by
  refine calls_of_hFun (m := 0) kd_ok mixed Try.func62 rfl (by kernel_rfl) rfl rfl (of_decide_eq_true rfl) ?_; unfold hFun; (conv => whnf)
  refine (spec_l8Two _ _ _ hy).mono ?_
  rintro v h1 ⟨x, L, z, w, u, t, rfl, E, R, I1, I2, S, h2, h3⟩
  (conv => whnf)
  refine ⟨rfl, (hy.ext E).len ?_⟩
  (conv => whnf)
  refine HRem.of (by decide) ?_
  (conv => whnf)
  refine HIf.beq (fun _ => ?_) (fun _ => ?_)
  · (conv => whnf)
    exact ⟨_, _, _, _, rfl, E, R, I2, S, h3⟩
  · (conv => whnf)
    exact ⟨_, _, _, _, rfl, E, R, I1, S, h2⟩

theorem spec_DrawPowerElement (h : Heap) (y : H0) (l : List Int) (hy : Bytes h y l) : HCalls dm Try.prog 53 [.s y] h (fun v h' => ∃ x L z w n, v = .tup [x, z, ci n] ∧ Ext h h' ∧ Rows h' x L ∧ Ints h' z w ∧ Small L ∧ w.length ≤ 4 ∧ -1 ≤ n ∧ n ≤ 61) := by
  refine calls_of_hFun (m := 0) kd_ok mixed Try.func53 rfl (by kernel_rfl) rfl rfl (of_decide_eq_true rfl) ?_; unfold hFun; (conv => whnf)
  refine (spec_l1New _ _ _ hy).mono ?_
  rintro v h1 ⟨c, r, rfl, E1, hr, C1⟩
  have r1 := C1.lt
  (conv => whnf)
  refine (spec_l2Any _ r _ C1).mono ?_
  rintro v h2 ⟨x, L, rfl, K2, C2, R2, S⟩
  replace R2 : RowsN (fun p => p = r) h2 x L := R2.more (fun p hp g => by omega)
  have n2 := K2.1
  (conv => whnf)
  refine (spec_l5Word _ r _ _ L 4 C2 R2 S.sz.1 (by omega)).mono ?_
  rintro v h3 ⟨z, w, q, rfl, K3, C3, hq, O3, hw⟩
  replace R2 := R2.keep K3 (fun _ _ g => g)
  have K3 := K2.then K3
  have n3 := K3.1
  (conv => whnf)
  refine HLit.of (xs := List.map ci [-1, 0, 1, 2, 3, 6, 60, 61]) rfl (ci_one _) (by decide) ?_
  have E5 := Ext.push h3 [Row.own (List.map ci [-1, 0, 1, 2, 3, 6, 60, 61])]
  have IN : IntsN (fun q => q = r) (h3 ++ [Row.own (List.map ci [-1, 0, 1, 2, 3, 6, 60, 61])]) (.sl h3.length 0 8) [-1, 0, 1, 2, 3, 6, 60, 61] := ⟨(OwnR.push h3 [-1, 0, 1, 2, 3, 6, 60, 61]).ints, fun q o n e g => by cases e; have g : h3.length = r := g; omega⟩
  have C5 := C3.ext E5
  have K5 := K3.ext E5
  have O5 := O3.ext E5
  replace R2 := R2.keep (KeepN.ofExt E5) (fun _ _ g => g)
  (conv => whnf)
  refine (spec_l1PickInt _ r _ _ _ C5 IN (by decide) (by decide)).mono ?_
  rintro v h6 ⟨v6, rfl, hv, K6, C6⟩
  have hv2 : -1 ≤ v6 ∧ v6 ≤ 61 := by
    simp only [List.mem_cons, List.not_mem_nil, or_false] at hv
    omega
  (conv => whnf)
  exact ⟨_, _, _, _, _, rfl, KeepN.ext (K5.then K6) (fun p e => by omega) E1, (R2.keep K6 (fun _ _ g => g)).rows, (O5.keep K6 (by omega)).ints, S, hw, hv2.1, hv2.2⟩

theorem spec_DrawIsInvolution (h : Heap) (y : H0) (l : List Int) (hy : Bytes h y l) : HCalls dm Try.prog 61 [.s y] h (fun v h' => ∃ x L z w, v = .tup [x, z] ∧ Ext h h' ∧ Rows h' x L ∧ Ints h' z w ∧ Small L ∧ w.length ≤ 7) := by
  refine calls_of_hFun (m := 0) kd_ok mixed Try.func61 rfl (by kernel_rfl) rfl rfl (of_decide_eq_true rfl) ?_; unfold hFun; (conv => whnf)
  refine (spec_l1New _ _ _ hy).mono ?_
  rintro v h1 ⟨c, r, rfl, E1, hr, C1⟩
  have r1 := C1.lt
  (conv => whnf)
  refine (spec_l2Any _ r _ C1).mono ?_
  rintro v h2 ⟨x, L, rfl, K2, C2, R2, S⟩
  replace R2 : RowsN (fun p => p = r) h2 x L := R2.more (fun p hp g => by omega)
  have n2 := K2.1
  (conv => whnf)
  refine (spec_l5Word _ r _ _ L 3 C2 R2 S.sz.1 (by omega)).mono ?_
  rintro v h3 ⟨z, w, q, rfl, K3, C3, hq, O3, hw⟩
  replace R2 := R2.keep K3 (fun _ _ g => g)
  have K3 := K2.then K3
  have n3 := K3.1
  (conv => whnf)
  refine (spec_l1Once _ r _ 2 C3 (by omega)).mono ?_
  rintro v h4 ⟨b, rfl, K4, C4⟩
  replace R2 := R2.keep K4 (fun _ _ g => g)
  have O4 := O3.keep K4 (by omega)
  have K4 := K3.then K4
  have n4 := K4.1
  have p1 := S.pos
  have p2 := S.le
  cases b with
  | false =>
    (conv => whnf)
    (repeat (refine HIf.no ?_; (conv => whnf)))
    exact ⟨_, _, _, _, rfl, KeepN.ext K4 (fun p e => by omega) E1, R2.rows, O4.ints, S, by omega⟩
  | true =>
    (conv => whnf)
    (repeat (refine HIf.yes ?_; (conv => whnf)))
    refine ⟨rfl, R2.rows.len ?_⟩
    (conv => whnf)
    (repeat (refine HIf.yes ?_; (conv => whnf)))
    refine HIf.decT (by omega) ?_
    (conv => whnf)
    refine ⟨rfl, R2.rows.len ?_⟩
    (conv => whnf)
    refine (spec_l1Below _ r _ _ C4 (by omega)).mono ?_
    rintro v h5 ⟨m, rfl, m0, m1, _, K5, C5⟩
    replace R2 := R2.keep K5 (fun _ _ g => g)
    have O5 := O4.keep K5 (by omega)
    have E5 : Ext h h5 := KeepN.ext (K4.then K5) (fun p e => by omega) E1
    (conv => whnf)
    refine HLit.of (xs := List.map ci [m]) rfl (ci_one _) (by decide) ?_
    have E6 := Ext.push h5 [Row.own (List.map ci [m])]
    have I6 : Ints (h5 ++ [Row.own (List.map ci [m])]) (.sl h5.length 0 1) [m] := (OwnR.push h5 [m]).ints
    generalize h5 ++ [Row.own (List.map ci [m])] = h6 at E6 I6 ⊢
    (conv => whnf)
    refine (spec_ConcatWords _ _ _ _ _ (O5.ints.ext E6) I6 (by omega) (by simp)).mono ?_
    rintro v h7 ⟨y7, rfl, F7⟩
    have E7 := F7.1
    (conv => whnf)
    refine (spec_ReverseWord _ _ _ ((O5.ints.ext E6).ext E7) (by omega)).mono ?_
    rintro v h8 ⟨y8, rfl, F8⟩
    have E8 := F8.1
    (conv => whnf)
    refine (spec_ConcatWords _ _ _ _ _ (F7.ints.ext E8) F8.ints (by simp; omega) (by simp; omega)).mono ?_
    rintro v h9 ⟨y9, rfl, F9⟩
    have E9 := F9.1
    (conv => whnf)
    exact ⟨_, _, _, _, rfl, (((E5.trans E6).trans E7).trans E8).trans E9, (((R2.rows.ext E6).ext E7).ext E8).ext E9, F9.ints, S, by simp; omega⟩

end Go.Proofs.Ytkkniibnlniflaa.Hx
