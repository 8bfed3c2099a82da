/-
  The calculus of rows is sound, part 5: regions that draw their order, loops, code, functions.
-/
import Derived.Test.YtjgnnjegaedinaaZ04
import Derived.Deep.LoopGhost
import Derived.StillTail
namespace Go.Proofs.Ytjgnnjegaedinaa.Hx
open Go.RowKit
variable {dm : Bool}

section
variable {P : Program} {kd : TypeId → Kd} {n m : Nat}

/-- What an operation that leaves the world alone yields, in every world of the class. -/
def QuietVal (dm : Bool) (P : Program) (o : Oper) (a : Act) (w : World) (φ : Plan) (K : HV → Prop) : Prop := ∃ v x, (∀ w', (isLoad o.op = true → Lat dm w.heap.size w w') → (execOp a.eval o).run P w' = .ok (.value v) w') ∧ repV φ x v ∧ K x

theorem quiet_val {o : Oper} {a : Act} {w : World} {φ : Plan} {K : HV → Prop} {v : Value} {x : HV} (hr : ∀ w', (isLoad o.op = true → Lat dm w.heap.size w w') → (execOp a.eval o).run P w' = .ok (.value v) w') (hx : repV φ x v) (hK : K x) : QuietVal dm P o a w φ K := ⟨v, x, hr, hx, hK⟩

/-- What an operation of a quiet region yields in every world of the class. -/
def QuietOk (dm : Bool) (P : Program) (o : Oper) (a : Act) (w : World) (φ : Plan) (K : HV → Prop) : Prop := ∃ v x, (∀ w', Lat dm w.heap.size w w' → o.quietAt P a (fun w'' => Lat dm w.heap.size w w'') w' v) ∧ repV φ x v ∧ K x

theorem quiet_value {o : Oper} {a : Act} {w : World} {φ : Plan} {K : HV → Prop} {v : Value} {x : HV} (hr : ∀ w', Lat dm w.heap.size w w' → (execOp a.eval o).run P w' = .ok (.value v) w') (hx : repV φ x v) (hK : K x) : QuietOk dm P o a w φ K :=
  ⟨v, x, fun w' hb => by unfold Oper.quietAt; rw [hr w' hb]; exact ⟨rfl, rfl⟩, hx, hK⟩

theorem hOpV_sound (E : ∀ t, (kd t).ok P t) {o : Oper} {fr : Fr} {a : Act} {h : Heap} {φ : Plan} {w : World} {B0 : Nat} (R : Rep B0 φ h w) (F : FrRep φ n fr a) {Kh : HV → Prop}
    (H : hOpV kd o.op (hEval fr) h Kh) : QuietVal dm P o a w φ Kh := by
  unfold hOpV at H
  split at H
  · rename_i x ho
    exact quiet_val (v := a.eval x) (fun w' _ => by simp [execOp, ho]) (F.eval x) (hForce_elim H)
  · rename_i x ho
    exact quiet_val (v := a.eval x) (fun w' _ => by simp [execOp, ho]) (F.eval x) (hForce_elim H)
  · rename_i c x y ho
    obtain ⟨b, e1, e2, e3⟩ := hIf_elim H (F.eval c)
    cases b
    · exact quiet_val (v := a.eval y) (fun w' _ => by simp [execOp, ho, e1, asBool]) (F.eval y) (e3 rfl)
    · exact quiet_val (v := a.eval x) (fun w' _ => by simp [execOp, ho, e1, asBool]) (F.eval x) (e2 rfl)
  · rename_i op t x y ty ho
    obtain ⟨r, e1, e2⟩ := hBin_run (P := P) (E t) x y (F.eval x) (F.eval y) H
    refine quiet_val (v := r) (fun w' _ => ?_) (x := .s (.pl r)) rfl e2
    have e1 := e1 w'
    simp only [execOp, ho, Sem.run_bind] at e1 ⊢
    rw [e1]
    rfl
  · rename_i op t x ho
    obtain ⟨r, e1, e2⟩ := hUn_run (P := P) (F.eval x) H
    exact quiet_val (v := r) (fun w' _ => by simp [execOp, ho, e1 w']) (x := .s (.pl r)) rfl e2
  · rename_i t x i ho
    split at H
    · rename_i zs hz
      obtain ⟨r, y, e1, e2, e3⟩ := hIdxW_run (P := P) (t := t) (hz ▸ E t) (F.eval x) (F.eval i) H
      exact quiet_val (v := r) (fun w' _ => by simp [execOp, ho, e1 w']) e2 e3
    · rename_i n z hz
      obtain ⟨r, y, e1, e2, e3⟩ := hIdxA_run (P := P) (t := t) (hz ▸ E t) (F.eval x) (F.eval i) H
      exact quiet_val (v := r) (fun w' _ => by simp [execOp, ho, e1 w']) e2 e3
    · obtain ⟨r, y, e1, e2, e3⟩ := hIdx_run (P := P) (E t) H.1 (F.eval x) (F.eval i) H.2
      exact quiet_val (v := r) (fun w' _ => by simp [execOp, ho, e1 w']) e2 e3
  · rename_i t p ho
    split at H
    · rename_i zs hz
      obtain ⟨ha, i, hi, hs⟩ := agg_rcd (P := P) (t := t) (hz ▸ E t)
      obtain ⟨r, y, e1, e2, e3⟩ := hLoadA_run (dm := dm) (P := P) R ha hi hs (F.eval p) H
      exact quiet_val (v := r) (fun w' hb => by simp [execOp, ho, e1 w' (hb (by rw [ho]; rfl))]) e2 e3
    · rename_i m z hz
      obtain ⟨ha, i, hi, hs⟩ := agg_arr (P := P) (t := t) (hz ▸ E t)
      obtain ⟨r, y, e1, e2, e3⟩ := hLoadA_run (dm := dm) (P := P) R ha hi hs (F.eval p) H
      exact quiet_val (v := r) (fun w' hb => by simp [execOp, ho, e1 w' (hb (by rw [ho]; rfl))]) e2 e3
    · obtain ⟨r, y, e1, e2, e3⟩ := hLoad_run (dm := dm) (P := P) R (Kd.ok_one (E t) H.1) (F.eval p) H.2
      exact quiet_val (v := r) (fun w' hb => by simp [execOp, ho, e1 w' (hb (by rw [ho]; rfl))]) e2 e3
  · rename_i t x i ho
    split at H
    · rename_i so hz
      obtain ⟨r, e1, e2⟩ := hLook_run (dm := dm) (P := P) R (t := t) (hz ▸ E t) (F.eval x) (F.eval i) H
      exact quiet_val (v := r) (fun w' hb => by simp [execOp, ho, e1 w' (hb (by rw [ho]; rfl))]) (x := .s (.pl r)) rfl e2
    · exact H.elim
  · rename_i t x lo hi ho
    split at H
    · rename_i m z hz
      obtain ⟨r, y, e1, e2, e3⟩ := hSliceA_run (P := P) H.small (t := t) (hz ▸ E t) (F.eval x) (optEval F lo) (optEval F hi) H
      exact quiet_val (v := r) (fun w' _ => by simp [execOp, ho, e1 w']) e2 e3
    · rename_i hz
      obtain ⟨r, e1, e2⟩ := hSub_run (P := P) (t := t) (hz ▸ E t) (F.eval x) (optEval F lo) (optEval F hi) H
      exact quiet_val (v := r) (fun w' _ => by simp [execOp, ho, e1 w']) (x := .s (.pl r)) rfl e2
    · obtain ⟨r, y, e1, e2, e3⟩ := hSlice_run (P := P) R (E t) H.1 (F.eval x) (optEval F lo) (optEval F hi) H.2
      exact quiet_val (v := r) (fun w' _ => by simp [execOp, ho, e1 w']) e2 e3
  · rename_i s x f ho
    split at H
    · rename_i zs hz
      obtain ⟨r, y, e1, e2, e3⟩ := hField_run (P := P) (t := s) (hz ▸ E s) (F.eval x) H
      exact quiet_val (v := r) (fun w' _ => by simp [execOp, ho, e1 w']) e2 e3
    · exact H.elim
  · rename_i x ho
    obtain ⟨e1, e2⟩ := hCheck_run ho (F.eval x) H
    exact quiet_val (v := a.eval x) (fun w' _ => e1 P w') (F.eval x) e2
  · rename_i s t x ho
    split at H
    · rename_i k hk
      split at H
      · rename_i k' hk'
        obtain ⟨r, e1, e2⟩ := hConv_run (P := P) (hk' ▸ E s) (hk ▸ E t) (F.eval x) H
        exact quiet_val (v := r) (fun w' _ => by simp [execOp, ho, e1 w']) (x := .s (.pl r)) rfl e2
      · exact H.elim
    · exact H.elim
  · rename_i t x i ho
    split at H
    · rename_i hk
      obtain ⟨r, e1, e2⟩ := hByte_run (P := P) (hk ▸ E t) (F.eval x) (F.eval i) H
      exact quiet_val (v := r) (fun w' _ => by simp [execOp, ho, e1 w']) (x := .s (.pl r)) rfl e2
    · rename_i m z hk
      obtain ⟨r, y, e1, e2, e3⟩ := hAt_run (P := P) (t := t) (hk ▸ E t) (F.eval x) (F.eval i) H
      exact quiet_val (v := r) (fun w' _ => by simp [execOp, ho, e1 w']) e2 e3
    · exact H.elim
  · rename_i x i ho
    split at H
    · rename_i xs hx
      split at H
      · rename_i c hc
        have r := F.eval x
        rw [hx] at r
        obtain ⟨vs, ev, r⟩ := r
        obtain ⟨v, e1, e2⟩ := r.get i c hc
        exact quiet_val (v := v) (fun w' _ => by
          have : vs[i]? = some v := by simpa using e1
          simp [execOp, ho, ev, Instr.extract, this]) (x := .s c) e2 H
      · exact H.elim
    · exact H.elim
  · rename_i c ho
    split at H
    · rename_i hcal
      have hxs := evals F c.args.toList
      have hmap : (c.args.map a.eval).toList = c.args.toList.map a.eval := by simp
      unfold hBuiltin at H
      simp only at H
      split at H
      · rename_i x hx
        split at H
        · rename_i t ht
          rw [hx] at hxs
          obtain ⟨v, hv⟩ : ∃ v, c.args.toList.map a.eval = [v] := by
            cases he : c.args.toList.map a.eval with
            | nil => rw [he] at hxs; exact hxs.elim
            | cons v vs =>
              rw [he] at hxs
              cases vs with
              | nil => exact ⟨v, rfl⟩
              | cons _ _ => exact hxs.2.elim
          rw [hv] at hxs
          split at H
          · rename_i hk
            obtain ⟨r, e1, e2⟩ := hLenS_run (P := P) (ty := o.type) (hk ▸ E t) hxs.1 H
            refine quiet_val (v := r) (fun w' _ => ?_) (x := .s (.pl r)) rfl e2
            have h1 := arr1 ht
            have h2 := arr1 (hmap.trans hv)
            simp only [execOp, ho, resolve, hcal, Sem.run_bind, Sem.run_pure, Result.andThen_ok, invoke, h1, h2]
            simp [builtin, e1 w']
          · rename_i hk
            obtain ⟨r, e1, e2⟩ := hLenW_run (P := P) (ty := o.type) (hk ▸ E t) hxs.1 H
            refine quiet_val (v := r) (fun w' _ => ?_) (x := .s (.pl r)) rfl e2
            have h1 := arr1 ht
            have h2 := arr1 (hmap.trans hv)
            simp only [execOp, ho, resolve, hcal, Sem.run_bind, Sem.run_pure, Result.andThen_ok, invoke, h1, h2]
            simp [builtin, e1 w']
          · obtain ⟨r, e1, e2⟩ := hLen_run (P := P) (ty := o.type) (E t) H.1 hxs.1 H.2
            refine quiet_val (v := r) (fun w' _ => ?_) (x := .s (.pl r)) rfl e2
            have h1 := arr1 ht
            have h2 := arr1 (hmap.trans hv)
            simp only [execOp, ho, resolve, hcal, Sem.run_bind, Sem.run_pure, Result.andThen_ok, invoke, h1, h2]
            simp [builtin, e1 w']
        · exact H.elim
      · exact H.elim
    · exact H.elim
  · exact H.elim

theorem hOpQ_sound (E : ∀ t, (kd t).ok P t) {o : Oper} {fr : Fr} {a : Act} {h : Heap} {φ : Plan} {w : World} {B0 : Nat} (R : Rep B0 φ h w) (F : FrRep φ n fr a) {Kh : HV → Prop}
    (H : hOpQ dm P kd o.op (hEval fr) h Kh) : QuietOk dm P o a w φ Kh := by
  have plain : hOpV kd o.op (hEval fr) h Kh → QuietOk dm P o a w φ Kh := by
    intro H
    obtain ⟨v, x, h1, h2, h3⟩ := hOpV_sound (dm := dm) E R F H
    exact quiet_value (fun w' hb => h1 w' fun _ => hb) h2 h3
  unfold hOpQ at H
  split at H
  · rename_i c ho
    split at H
    · rename_i f hcal
      split at H
      · rename_i k caps he
        obtain ⟨v, hc, hK⟩ := H.out
        have rf := F.eval f
        rw [he] at rf
        obtain ⟨vs, ev, rc⟩ := rf
        have hargs : repVs φ ((c.args.toList.map (hEval fr)) ++ caps.map HV.s) (c.args.map a.eval ++ vs).toList := by
          rw [Array.toList_append, Array.toList_map]
          exact (evals F _).append (repVs.ofL rc)
        refine ⟨v, .s (.pl v), fun w' hb => ?_, rfl, hK⟩
        have hrun : (execOp a.eval o).run P w' = .ok (.enter k (c.args.map a.eval ++ vs)) w' := by
          simp [execOp, ho, resolve, hcal, ev, Deferred.ofValue, invoke, hc.enters]
        unfold Oper.quietAt
        rw [hrun]
        refine ⟨rfl, (hc.out _ φ w' _ (R.below hb).frozen hargs).mono ?_⟩
        rintro e w'' ⟨v', x, h', φ', rfl, rfl, g2, g3, g4, g5⟩
        have hv : v' = v := rep0_pl g4
        subst hv
        exact ⟨rfl, hb.trans (g5.mono hb.size)⟩
      · exact H.elim
    · exact plain H
  · exact plain H

theorem hOpsV_sound (E : ∀ t, (kd t).ok P t) (ops : Array Oper) {h : Heap} {φ : Plan} {w w1 : World} {B0 : Nat} (R : Rep B0 φ h w) (hw1 : Lat dm w.heap.size w w1) : ∀ (l : List Oper) {Qh : Fr → Prop} {fr : Fr} {a : Act}, FrRep φ n fr a → hOpsV kd n ops.toList l Qh fr h →
    ∀ {Q : Act → Prop}, (∀ fr' a', Qh fr' → FrRep φ n fr' a' → (∀ t, t ∉ l.filterMap (·.dst) → fr' t = fr t) → Q a') → wpStill P ops w1 Q l a
  | [], Qh, fr, a, F, H, Q, hQ => hQ fr a H F (fun _ _ => rfl)
  | o :: rest, Qh, fr, a, F, H, Q, hQ => by
    have go : hOpV kd o.op (hEval fr) h (fun v => put n fr o.dst v fun fr' => hOpsV kd n ops.toList rest Qh fr' h) → o.still P a w1 (wpStill P ops w1 Q rest) := by
      intro H1
      obtain ⟨v, x, g1, g2, g3⟩ := hOpV_sound (dm := dm) E R F H1
      obtain ⟨fr', k1, k2, k3⟩ := put_elim g3
      unfold Oper.still
      rw [g1 w1 (fun _ => hw1)]
      exact ⟨rfl, hOpsV_sound E ops R hw1 rest (k2 φ a v F g2) k1 (fun fr2 a2 q f u => hQ fr2 a2 q f (outside k3 u))⟩
    have skip : (put n fr o.dst (.tup []) fun fr' => hOpsV kd n ops.toList rest Qh fr' h) → wpStill P ops w1 Q rest (a.put o.dst undef) := by
      intro H1
      obtain ⟨fr', k1, k2, k3⟩ := put_elim H1
      exact hOpsV_sound E ops R hw1 rest (k2 φ a undef F ⟨#[], rfl, trivial⟩) k1 (fun fr2 a2 q f u => hQ fr2 a2 q f (outside k3 u))
    unfold wpStill
    rw [hOpsV_cons] at H
    split at H
    · rename_i hg
      have : Region.wanted o (yielded ops a.tmps) = true := by simp [Region.wanted, hg]
      rw [if_pos this]
      exact go H
    · rename_i j wt hg
      rcases guard_rep F ops o j wt hg H with ⟨hw, H⟩ | ⟨hw, H⟩
      · rw [if_pos hw]
        exact go H
      · rw [if_neg (by simp [hw])]
        exact skip H

theorem hOpsQ_sound (E : ∀ t, (kd t).ok P t) (ops : Array Oper) {h : Heap} {φ : Plan} {w : World} {B0 : Nat} (R : Rep B0 φ h w) : ∀ (l : List Oper) {Qh : Fr → Prop} {fr : Fr} {a : Act}, FrRep φ n fr a → hOpsQ dm P kd n ops.toList l Qh fr h →
    ∀ {Q : Act → Prop}, (∀ fr' a', Qh fr' → FrRep φ n fr' a' → (∀ t, t ∉ l.filterMap (·.dst) → fr' t = fr t) → Q a') → wpQuiet P ops (fun w'' => Lat dm w.heap.size w w'') Q l a
  | [], Qh, fr, a, F, H, Q, hQ => hQ fr a H F (fun _ _ => rfl)
  | o :: rest, Qh, fr, a, F, H, Q, hQ => by
    have go : hOpQ dm P kd o.op (hEval fr) h (fun v => put n fr o.dst v fun fr' => hOpsQ dm P kd n ops.toList rest Qh fr' h) → o.quiet P a (fun w'' => Lat dm w.heap.size w w'') (wpQuiet P ops (fun w'' => Lat dm w.heap.size w w'') Q rest) := by
      intro H1
      obtain ⟨v, x, g1, g2, g3⟩ := hOpQ_sound E R F H1
      obtain ⟨fr', k1, k2, k3⟩ := put_elim g3
      exact ⟨v, g1, hOpsQ_sound E ops R rest (k2 φ a v F g2) k1 (fun fr2 a2 q f u => hQ fr2 a2 q f (outside k3 u))⟩
    have skip : (put n fr o.dst (.tup []) fun fr' => hOpsQ dm P kd n ops.toList rest Qh fr' h) → wpQuiet P ops (fun w'' => Lat dm w.heap.size w w'') Q rest (a.put o.dst undef) := by
      intro H1
      obtain ⟨fr', k1, k2, k3⟩ := put_elim H1
      exact hOpsQ_sound E ops R rest (k2 φ a undef F ⟨#[], rfl, trivial⟩) k1 (fun fr2 a2 q f u => hQ fr2 a2 q f (outside k3 u))
    unfold wpQuiet
    rw [hOpsQ_cons] at H
    split at H
    · rename_i hg
      have : Region.wanted o (yielded ops a.tmps) = true := by simp [Region.wanted, hg]
      rw [if_pos this]
      exact go H
    · rename_i j wt hg
      rcases guard_rep F ops o j wt hg H with ⟨hw, H⟩ | ⟨hw, H⟩
      · rw [if_pos hw]
        exact go H
      · rw [if_neg (by simp [hw])]
        exact skip H

/-- Q, but nothing at a panic. -/
def NP (Q : Exit → Act → World → Prop) : Exit → Act → World → Prop
  | .panic _, _, _ => False
  | e, a, w => Q e a w

theorem NP.imp {Q : Exit → Act → World → Prop} (e : Exit) (a : Act) (w : World) (h : NP Q e a w) : Q e a w := by
  cases e <;> first | exact h | exact (h : False).elim

/-- What an operation before the sink leaves: all blocks that were there are as they were. -/
def LeavesF (dm : Bool) (B0 : Nat) (φ : Plan) (w w' : World) (v : Value) (K : HV → Heap → Prop) : Prop := Lat dm w.heap.size w w' ∧ Leaves dm B0 φ w w' v K

theorem hOpF_sound (E : ∀ t, (kd t).ok P t) {o : Oper} {fr : Fr} {a : Act} {h : Heap} {φ : Plan} {w : World} {B0 : Nat} (R : Rep B0 φ h w) (F : FrRep φ n fr a) {Kh : HV → Heap → Prop}
    (H : hOpF dm P kd o.op (hEval fr) h Kh) {next : Act → World → Prop} {Q : Exit → Act → World → Prop} (hn : ∀ v w', LeavesF dm B0 φ w w' v Kh → next (a.put o.dst v) w') : o.wp P a w next Q := by
  have plain : hOpV kd o.op (hEval fr) h (fun v => Kh v h) → o.wp P a w next Q := by
    intro H
    obtain ⟨v, x, h1, h2, h3⟩ := hOpV_sound (dm := dm) E R F H
    exact wp_value (h1 w (fun _ => Lat.refl _ w)) (hn _ _ ⟨Lat.refl _ w, leaves_same R h2 h3⟩)
  unfold hOpF at H
  split at H
  · rename_i t l c ho
    split at H
    · rename_i z hz
      obtain ⟨w', r, e1, eb, e2⟩ := hMake_run (P := P) R (t := t) (hz ▸ E t) (F.eval l) (F.eval c) H
      exact wp_value (v := r) (w' := w') (by simp [execOp, ho, e1]) (hn _ _ ⟨eb, e2⟩)
    · exact H.elim
  · rename_i t len parts ho
    split at H
    · rename_i z hz
      obtain ⟨w', r, e1, eb, e2⟩ := hLit_run (P := P) R F (t := t) (hz ▸ E t) H
      exact wp_value (v := r) (w' := w') (by simp only [execOp, ho, Sem.run_bind, e1, Result.andThen_ok, Sem.run_pure]) (hn _ _ ⟨eb, e2⟩)
    · rename_i zs hz
      obtain ⟨w', r, e1, eb, e2⟩ := hLitW_run (P := P) R F (t := t) (hz ▸ E t) H.small H
      exact wp_value (v := r) (w' := w') (by simp only [execOp, ho, Sem.run_bind, e1, Result.andThen_ok, Sem.run_pure]) (hn _ _ ⟨eb, e2⟩)
    · exact H.elim
  · rename_i c ho
    split at H
    · rename_i f hcal
      split at H
      · rename_i k caps he
        have hc := H.out
        have rf := F.eval f
        rw [he] at rf
        obtain ⟨vs, ev, rc⟩ := rf
        have hargs : repVs φ ((c.args.toList.map (hEval fr)) ++ caps.map HV.s) (c.args.map a.eval ++ vs).toList := by
          rw [Array.toList_append, Array.toList_map]
          exact (evals F _).append (repVs.ofL rc)
        unfold Oper.wp
        have hrun : (execOp a.eval o).run P w = .ok (.enter k (c.args.map a.eval ++ vs)) w := by
          simp [execOp, ho, resolve, hcal, ev, Deferred.ofValue, invoke, hc.enters]
        rw [hrun, Oper.upon_enter]
        refine (hc.out _ φ w _ R.frozen hargs).mono ?_
        rintro e w' ⟨v, x, h', φ', rfl, ⟨t, rfl, ht, hK⟩, g2, g3, g4, g5⟩
        exact hn _ _ ⟨g5, x, _, φ', hK, g2, R.thaw g2 g3 g5 ht, g4, g5.mono R.base⟩
      · exact H.elim
    · exact plain H
  · exact plain H

theorem pi_sound (E : ∀ t, (kd t).ok P t) (ops : Array Oper) (t : Nat) {h : Heap} {φ : Plan} {w w1 : World} {B0 : Nat} (R : Rep B0 φ h w) (hw1 : Lat dm w.heap.size w w1) (hsel : Region.noSelect ops = true) {Q : Exit → Act → World → Prop} {fuel : Nat} :
    ∀ (ps : List Nat) (listed : Array Bool) {Qh : Fr → Prop} {fr : Fr} {a : Act}, Closed ops listed → piOk ops t ps listed = true → FrRep φ n fr a → hOpsV kd n ops.toList (ps.filterMap fun i => ops.toList[i]?) Qh fr h →
    (∀ fr' a', Qh fr' → FrRep φ n fr' a' → (∀ t, t ∉ ops.toList.filterMap (·.dst) → fr' t = fr t) → Closed ops (listAll ps listed) → wpAnyS P ops (NP Q) t (fun w' => Lat dm w.heap.size w w') fuel (listAll ps listed) a' w1) →
    wpAnyS P ops (NP Q) t (fun w' => Lat dm w.heap.size w w') (fuel + ps.length) listed a w1
  | [], listed, Qh, fr, a, hcl, _, F, H, hQ => hQ fr a H F (fun _ _ => rfl) hcl
  | i :: is, listed, Qh, fr, a, hcl, hok, F, H, hQ => by
    simp only [piOk, Bool.and_eq_true, bne_iff_ne] at hok
    obtain ⟨⟨⟨⟨hr, hf⟩, hit⟩, hw⟩, hok'⟩ := hok
    have hr' : i ∈ Region.ready .any ops listed := by simpa using hr
    obtain ⟨_, oi, hoi, _⟩ := mem_ready.1 hr'
    have hoi' : ops.toList[i]? = some oi := by simpa using hoi
    have hwt : (t < ops.size → waits ops ops.size t i = true) ∨ isLoad oi.op = false := by
      simp only [Bool.or_eq_true, decide_eq_true_eq] at hw
      rcases hw with (hw | hw) | hw
      · exact Or.inl fun _ => by omega
      · exact Or.inl fun _ => hw
      · refine Or.inr ?_
        unfold isFree at hw
        rw [hoi] at hw
        simpa using hw
    rw [List.filterMap_cons, hoi'] at H
    have hdst : ∀ s, oi.dst = some s → s ∈ ops.toList.filterMap (·.dst) := fun s hs => List.mem_filterMap.2 ⟨oi, List.mem_of_getElem? hoi', hs⟩
    have step : ∀ (v : Value) (fr' : Fr), YieldsIf P ops (fun w' => Lat dm w.heap.size w w') oi v a → (isLoad oi.op = false → YieldsIf P ops (fun _ => True) oi v a) → FrRep φ n fr' (a.put oi.dst v) → (∀ s, oi.dst ≠ some s → fr' s = fr s) →
        hOpsV kd n ops.toList (is.filterMap fun i => ops.toList[i]?) Qh fr' h → wpAnyS P ops (NP Q) t (fun w' => Lat dm w.heap.size w w') (fuel + (i :: is).length) listed a w1 := by
      intro v fr' hy hpure F' hout H'
      have more : wpAnyS P ops (NP Q) t (fun w' => Lat dm w.heap.size w w') (fuel + is.length) (listed.setIfInBounds i true) (a.put oi.dst v) w1 → wpAnyS P ops (NP Q) t (fun w' => Lat dm w.heap.size w w') (fuel + (i :: is).length) listed a w1 := by
        intro H2
        rcases hwt with hwt | hx
        · exact wpAnyS_first hoi (Region.noSelect_spec hsel) hit hwt (fun c a w hh => hh) (fuel + is.length) listed a w1 hcl (Region.free_spec hoi hf) hr' hy hw1 H2
        · exact wpAnyS_first_pure hoi (Region.noSelect_spec hsel) hit (fun c a w hh => hh) (fuel + is.length) listed a w1 (Region.free_spec hoi hf) hr' (hpure hx) (Or.inr hw1) H2
      refine more ?_
      exact pi_sound E ops t R hw1 hsel is _ (hcl.set hr') hok' F' H' (fun fr2 a2 q f u cl => hQ fr2 a2 q f (fun s hs => (u s hs).trans (hout s (fun e => hs (hdst s e)))) cl)
    have go : hOpV kd oi.op (hEval fr) h (fun v => put n fr oi.dst v fun fr' => hOpsV kd n ops.toList (is.filterMap fun i => ops.toList[i]?) Qh fr' h) → Region.wanted oi (yielded ops a.tmps) = true →
        wpAnyS P ops (NP Q) t (fun w' => Lat dm w.heap.size w w') (fuel + (i :: is).length) listed a w1 := by
      intro H1 hwd
      obtain ⟨v, x, g1, g2, g3⟩ := hOpV_sound (dm := dm) E R F H1
      obtain ⟨fr', k1, k2, k3⟩ := put_elim g3
      exact step v fr' (Or.inl ⟨hwd, fun w' hb => g1 w' fun _ => hb⟩) (fun hl => Or.inl ⟨hwd, fun w' _ => g1 w' fun e => by rw [hl] at e; cases e⟩) (k2 φ a v F g2) k3 k1
    have skip : (put n fr oi.dst (.tup []) fun fr' => hOpsV kd n ops.toList (is.filterMap fun i => ops.toList[i]?) Qh fr' h) → Region.wanted oi (yielded ops a.tmps) = false →
        wpAnyS P ops (NP Q) t (fun w' => Lat dm w.heap.size w w') (fuel + (i :: is).length) listed a w1 := by
      intro H1 hwd
      obtain ⟨fr', k1, k2, k3⟩ := put_elim H1
      exact step undef fr' (Or.inr ⟨hwd, rfl⟩) (fun _ => Or.inr ⟨hwd, rfl⟩) (k2 φ a undef F ⟨#[], rfl, trivial⟩) k3 k1
    rw [hOpsV_cons] at H
    split at H
    · rename_i hg
      exact go H (by simp [Region.wanted, hg])
    · rename_i j wt hg
      rcases guard_rep F ops oi j wt hg H with ⟨hw, H⟩ | ⟨hw, H⟩
      · exact go H hw
      · exact skip H hw

theorem sig_sound (E : ∀ t, (kd t).ok P t) (ops : Array Oper) (t : Nat) {w0 : World} {Q : Exit → Act → World → Prop} (hsel : Region.noSelect ops = true) :
    ∀ (ss : List Nat) (listed : Array Bool) (b : Bool) {Qh : Fr → Heap → Prop} {fr : Fr} {a : Act} {h : Heap} {φ : Plan} {w : World} {B0 : Nat}, Closed ops listed → sigOk ops t ss listed = true → Rep B0 φ h w → FrRep φ n fr a →
    (b = true → Lat dm w0.heap.size w0 w) → (b = false → listed.getD t false = true) → hSig dm P kd n ops.toList t ss b Qh fr h →
    (∀ fr' a' h' φ' w', Qh fr' h' → Sub φ φ' → Rep B0 φ' h' w' → FrRep φ' n fr' a' → Lat dm B0 w w' → (∀ t, t ∉ ops.toList.filterMap (·.dst) → fr' t = fr t) → Q .normal a' w') →
    wpAnyS P ops (NP Q) t (fun w' => Lat dm w0.heap.size w0 w') ss.length listed a w
  | [], listed, b, Qh, fr, a, h, φ, w, B0, _, hok, R, F, _, _, H, hQ => ⟨by simpa [sigOk] using hok, hQ fr a h φ w H (Sub.refl φ) R F (Lat.refl B0 w) (fun _ _ => rfl)⟩
  | i :: is, listed, b, Qh, fr, a, h, φ, w, B0, hcl, hok, R, F, hb1, hb2, H, hQ => by
    simp only [sigOk, Bool.and_eq_true, Bool.or_eq_true, beq_iff_eq, bne_iff_ne] at hok
    obtain ⟨hr0, hok'⟩ := hok
    have hr' : i ∈ Region.ready .any ops listed := by
      rcases hr0 with hr | ⟨⟨⟨hr, _⟩, _⟩, _⟩
      · rw [hr]; simp
      · simpa using hr
    obtain ⟨hun, oi, hoi, _⟩ := mem_ready.1 hr'
    have hoi' : ops.toList[i]? = some oi := by simpa using hoi
    have hil : i < listed.size := by rw [hcl.size]; exact (Array.getElem?_eq_some_iff.1 hoi).1
    have hdst : ∀ s, oi.dst = some s → s ∈ ops.toList.filterMap (·.dst) := fun s hs => List.mem_filterMap.2 ⟨oi, List.mem_of_getElem? hoi', hs⟩
    have rest : ∀ (b' : Bool) (fr' : Fr) (a' : Act) (h' : Heap) (φ' : Plan) (w' : World), (b' = (b && !Nat.beq i t)) → (b' = true → Lat dm w0.heap.size w0 w') → Sub φ φ' → Rep B0 φ' h' w' → FrRep φ' n fr' a' → Lat dm B0 w w' → (∀ s, oi.dst ≠ some s → fr' s = fr s) →
        hSig dm P kd n ops.toList t is b' Qh fr' h' → Safe t (fun w' => Lat dm w0.heap.size w0 w') (listed.setIfInBounds i true) w' ∧ wpAnyS P ops (NP Q) t (fun w' => Lat dm w0.heap.size w0 w') is.length (listed.setIfInBounds i true) a' w' := by
      intro b' fr' a' h' φ' w' hb' hC s r f bl hout H'
      have hlt : b' = false → (listed.setIfInBounds i true).getD t false = true := by
        intro hf
        by_cases hit : i = t
        · subst hit
          simp [hil]
        · rw [hb', beq_ne hit] at hf
          have hbf : b = false := by simpa using hf
          rw [getD_set_ne false hit]
          exact hb2 hbf
      refine ⟨?_, sig_sound E ops t hsel is _ b' (hcl.set hr') hok' r f hC hlt H' (fun fr2 a2 h2 φ2 w2 q s2 r2 f2 bl2 u => hQ fr2 a2 h2 φ2 w2 q (s.trans s2) r2 f2 (bl.trans bl2) (fun x hx => (u x hx).trans (hout x (fun e => hx (hdst x e)))))⟩
      cases hbb : b' with
      | true => exact Or.inr (hC hbb)
      | false => exact Or.inl (hlt hbb)
    have go : ((bif b && !Nat.beq i t then hOpF dm P kd oi.op (hEval fr) h else hOp dm P kd oi.op (hEval fr) h) fun v h' => put n fr oi.dst v fun fr' => hSig dm P kd n ops.toList t is (b && !Nat.beq i t) Qh fr' h') →
        oi.wp P a w (fun a' w' => Safe t (fun w' => Lat dm w0.heap.size w0 w') (listed.setIfInBounds i true) w' ∧ wpAnyS P ops (NP Q) t (fun w' => Lat dm w0.heap.size w0 w') is.length (listed.setIfInBounds i true) a' w') (NP Q) := by
      intro H1
      cases hbb : (b && !Nat.beq i t) with
      | true =>
        rw [hbb, cond_true] at H1
        have hb : b = true := by cases b <;> simp_all
        refine hOpF_sound E R F H1 (fun v w' ⟨hbel, x, h', φ', g1, g2, g3, g4, g5⟩ => ?_)
        obtain ⟨fr', k1, k2, k3⟩ := put_elim g1
        exact rest true fr' _ h' φ' w' hbb.symm (fun _ => (hb1 hb).trans (hbel.mono (hb1 hb).size)) g2 g3 (k2 φ' a v (F.mono g2) g4) g5 k3 k1
      | false =>
        rw [hbb, cond_false] at H1
        refine hOp_sound E R F H1 (fun v w' ⟨x, h', φ', g1, g2, g3, g4, g5⟩ => ?_)
        obtain ⟨fr', k1, k2, k3⟩ := put_elim g1
        exact rest false fr' _ h' φ' w' hbb.symm (fun e => by cases e) g2 g3 (k2 φ' a v (F.mono g2) g4) g5 k3 k1
    have skip : (put n fr oi.dst (.tup []) fun fr' => hSig dm P kd n ops.toList t is (b && !Nat.beq i t) Qh fr' h) →
        Safe t (fun w' => Lat dm w0.heap.size w0 w') (listed.setIfInBounds i true) w ∧ wpAnyS P ops (NP Q) t (fun w' => Lat dm w0.heap.size w0 w') is.length (listed.setIfInBounds i true) (a.put oi.dst undef) w := by
      intro H1
      obtain ⟨fr', k1, k2, k3⟩ := put_elim H1
      refine rest (b && !Nat.beq i t) fr' _ h φ w rfl (fun e => hb1 ?_) (Sub.refl φ) R (k2 φ a undef F ⟨#[], rfl, trivial⟩) (Lat.refl B0 w) k3 k1
      cases b <;> simp_all
    rw [hSig_cons] at H
    rw [hoi'] at H
    simp only at H
    rcases hr0 with hr | ⟨⟨⟨_, hfree⟩, hit⟩, hpl⟩
    rotate_left
    · have hplain : isPlain oi.op = true := by
        unfold isPlainAt at hpl
        rw [hoi] at hpl
        exact hpl
      have hload : isLoad oi.op = false := by
        cases ho : oi.op <;> rw [ho] at hplain <;> first | rfl | cases hplain
      have hsafe : Safe t (fun w' => Lat dm w0.heap.size w0 w') listed w := by
        cases hbb : b with
        | true => exact Or.inr (hb1 hbb)
        | false => exact Or.inl (hb2 hbb)
      have hbi : (b && !Nat.beq i t) = b := by rw [beq_ne hit]; simp
      rw [hbi] at H
      have asV : ∀ (K : HV → Heap → Prop), (bif b then hOpF dm P kd oi.op (hEval fr) h else hOp dm P kd oi.op (hEval fr) h) K → hOpV kd oi.op (hEval fr) h (fun v => K v h) := by
        intro K HK
        cases b
        · rw [cond_false] at HK
          cases ho : oi.op <;> rw [ho] at hplain HK <;> first | exact HK | cases hplain
        · rw [cond_true] at HK
          cases ho : oi.op <;> rw [ho] at hplain HK <;> first | exact HK | cases hplain
      have step : ∀ (v : Value) (fr' : Fr), YieldsIf P ops (fun _ => True) oi v a → FrRep φ n fr' (a.put oi.dst v) → (∀ s, oi.dst ≠ some s → fr' s = fr s) → hSig dm P kd n ops.toList t is b Qh fr' h →
          wpAnyS P ops (NP Q) t (fun w' => Lat dm w0.heap.size w0 w') (i :: is).length listed a w := by
        intro v fr' hy F' hout H'
        exact wpAnyS_first_pure hoi (Region.noSelect_spec hsel) hit (fun c a w hh => hh) is.length listed a w (Region.free_spec hoi hfree) hr' hy hsafe
          (rest b fr' _ h φ w hbi.symm hb1 (Sub.refl φ) R F' (Lat.refl B0 w) hout H').2
      have go2 : hOpV kd oi.op (hEval fr) h (fun v => put n fr oi.dst v fun fr' => hSig dm P kd n ops.toList t is b Qh fr' h) → Region.wanted oi (yielded ops a.tmps) = true →
          wpAnyS P ops (NP Q) t (fun w' => Lat dm w0.heap.size w0 w') (i :: is).length listed a w := by
        intro H1 hwd
        obtain ⟨v, x, g1, g2, g3⟩ := hOpV_sound (dm := dm) E R F H1
        obtain ⟨fr', k1, k2, k3⟩ := put_elim g3
        exact step v fr' (Or.inl ⟨hwd, fun w' _ => g1 w' fun e => by rw [hload] at e; cases e⟩) (k2 φ a v F g2) k3 k1
      split at H
      · rename_i hg
        exact go2 (asV _ H) (by simp [Region.wanted, hg])
      · rename_i j' wt hg
        rcases guard_rep F ops oi j' wt hg H with ⟨hw, H⟩ | ⟨hw, H⟩
        · exact go2 (asV _ H) hw
        · obtain ⟨fr', k1, k2, k3⟩ := put_elim H
          exact step undef fr' (Or.inr ⟨hw, rfl⟩) (k2 φ a undef F ⟨#[], rfl, trivial⟩) k3 k1
    refine ⟨fun h0 => (by rw [hr] at h0; cases h0), fun j hj => ?_⟩
    rw [hr] at hj
    obtain rfl : j = i := by simpa using hj
    unfold wpOp
    rw [hoi]
    simp only
    split at H
    · rename_i hg
      have : Region.wanted oi (yielded ops a.tmps) = true := by simp [Region.wanted, hg]
      rw [if_pos this]
      exact Or.inl (go H)
    · rename_i j' wt hg
      rcases guard_rep F ops oi j' wt hg H with ⟨hw, H⟩ | ⟨hw, H⟩
      · rw [if_pos hw]
        exact Or.inl (go H)
      · rw [if_neg (by simp [hw])]
        exact skip H

theorem held_sound (E : ∀ t, (kd t).ok P t) (hm : P.follows .mixedOrders = true) {id : Nat} {ops : Array Oper} {t : Nat} {ps ss : List Nat} (hok : heldOk ops t ps ss = true) {Qh : Fr → Heap → Prop} {fr : Fr} {a : Act} {h : Heap} {φ : Plan} {w : World} {B0 : Nat} (R : Rep B0 φ h w) (F : FrRep φ n fr a)
    (H : hOpsV kd n ops.toList (ps.filterMap fun i => ops.toList[i]?) (fun fr' => hSig dm P kd n ops.toList t ss true Qh fr' h) fr h) {Q : Exit → Act → World → Prop}
    (hQ : ∀ fr' a' h' φ' w', Qh fr' h' → Sub φ φ' → Rep B0 φ' h' w' → FrRep φ' n fr' a' → Lat dm B0 w w' → (∀ t, t ∉ ops.toList.filterMap (·.dst) → fr' t = fr t) → Q .normal a' w') : (Code.region id ops true).wp P Q a w := by
  simp only [heldOk, Bool.and_eq_true, beq_iff_eq] at hok
  obtain ⟨⟨⟨h1, h2⟩, h3⟩, h4⟩ := hok
  refine wp_mono (wp_region_any (Q := NP Q) hm (wpAny_of_S (t := t) (C := fun w' => Lat dm w.heap.size w w') _ _ _ _ ?_)) NP.imp
  have hc0 : Closed ops (Array.replicate ops.size false) := ⟨by simp, fun j oj _ hl => (by rw [getD_replicate_false] at hl; cases hl)⟩
  have hw1 : Lat dm w.heap.size w w.drew := (Lat.refl _ w).drew
  have := pi_sound (fuel := ss.length) (Q := Q) E ops t R hw1 h1 ps _ hc0 h2 F H (fun fr' a' q f u cl => by
    refine sig_sound E ops t h1 ss _ true cl h3 (R.below hw1) f (fun _ => hw1) (fun e => by cases e) q (fun fr2 a2 h2 φ2 w2 q2 s2 r2 f2 b2 u2 => ?_)
    exact hQ fr2 a2 h2 φ2 w2 q2 s2 r2 f2 (((Lat.refl B0 w).drew).trans b2) (fun x hx => (u2 x hx).trans (u x hx)))
  rw [show ss.length + ps.length = ops.size by omega] at this
  exact this

theorem pf_sound (E : ∀ t, (kd t).ok P t) (ops : Array Oper) {h : Heap} {φ : Plan} {w w1 : World} {B0 : Nat} (R : Rep B0 φ h w) (hsel : Region.noSelect ops = true) {Q : Exit → Act → World → Prop} {fuel : Nat} :
    ∀ (ps : List Nat) (listed : Array Bool) {Qh : Fr → Prop} {fr : Fr} {a : Act}, Closed ops listed → pfOk ops ps listed = true → FrRep φ n fr a → hOpsV kd n ops.toList (ps.filterMap fun i => ops.toList[i]?) Qh fr h →
    (∀ fr' a', Qh fr' → FrRep φ n fr' a' → (∀ t, t ∉ ops.toList.filterMap (·.dst) → fr' t = fr t) → Closed ops (listAll ps listed) → wpAnyS P ops (NP Q) ops.size (fun _ => True) fuel (listAll ps listed) a' w1) →
    wpAnyS P ops (NP Q) ops.size (fun _ => True) (fuel + ps.length) listed a w1
  | [], listed, Qh, fr, a, hcl, _, F, H, hQ => hQ fr a H F (fun _ _ => rfl) hcl
  | i :: is, listed, Qh, fr, a, hcl, hok, F, H, hQ => by
    simp only [pfOk, Bool.and_eq_true] at hok
    obtain ⟨⟨⟨hr, hf⟩, hw⟩, hok'⟩ := hok
    have hr' : i ∈ Region.ready .any ops listed := by simpa using hr
    obtain ⟨_, oi, hoi, _⟩ := mem_ready.1 hr'
    have hoi' : ops.toList[i]? = some oi := by simpa using hoi
    have hit : i ≠ ops.size := Nat.ne_of_lt (Array.getElem?_eq_some_iff.1 hoi).1
    have hload : isLoad oi.op = false := by
      unfold isFree at hw
      rw [hoi] at hw
      simpa using hw
    rw [List.filterMap_cons, hoi'] at H
    have hdst : ∀ s, oi.dst = some s → s ∈ ops.toList.filterMap (·.dst) := fun s hs => List.mem_filterMap.2 ⟨oi, List.mem_of_getElem? hoi', hs⟩
    have step : ∀ (v : Value) (fr' : Fr), YieldsIf P ops (fun _ => True) oi v a → FrRep φ n fr' (a.put oi.dst v) → (∀ s, oi.dst ≠ some s → fr' s = fr s) →
        hOpsV kd n ops.toList (is.filterMap fun i => ops.toList[i]?) Qh fr' h → wpAnyS P ops (NP Q) ops.size (fun _ => True) (fuel + (i :: is).length) listed a w1 := by
      intro v fr' hy F' hout H'
      refine wpAnyS_first_pure hoi (Region.noSelect_spec hsel) hit (fun c a w hh => hh) (fuel + is.length) listed a w1 (Region.free_spec hoi hf) hr' hy (Or.inr trivial) ?_
      exact pf_sound E ops R hsel is _ (hcl.set hr') hok' F' H' (fun fr2 a2 q f u cl => hQ fr2 a2 q f (fun s hs => (u s hs).trans (hout s (fun e => hs (hdst s e)))) cl)
    have go : hOpV kd oi.op (hEval fr) h (fun v => put n fr oi.dst v fun fr' => hOpsV kd n ops.toList (is.filterMap fun i => ops.toList[i]?) Qh fr' h) → Region.wanted oi (yielded ops a.tmps) = true →
        wpAnyS P ops (NP Q) ops.size (fun _ => True) (fuel + (i :: is).length) listed a w1 := by
      intro H1 hwd
      obtain ⟨v, x, g1, g2, g3⟩ := hOpV_sound (dm := true) E R F H1
      obtain ⟨fr', k1, k2, k3⟩ := put_elim g3
      exact step v fr' (Or.inl ⟨hwd, fun w' _ => g1 w' fun e => by rw [hload] at e; cases e⟩) (k2 φ a v F g2) k3 k1
    have skip : (put n fr oi.dst (.tup []) fun fr' => hOpsV kd n ops.toList (is.filterMap fun i => ops.toList[i]?) Qh fr' h) → Region.wanted oi (yielded ops a.tmps) = false →
        wpAnyS P ops (NP Q) ops.size (fun _ => True) (fuel + (i :: is).length) listed a w1 := by
      intro H1 hwd
      obtain ⟨fr', k1, k2, k3⟩ := put_elim H1
      exact step undef fr' (Or.inr ⟨hwd, rfl⟩) (k2 φ a undef F ⟨#[], rfl, trivial⟩) k3 k1
    rw [hOpsV_cons] at H
    split at H
    · rename_i hg
      exact go H (by simp [Region.wanted, hg])
    · rename_i j wt hg
      rcases guard_rep F ops oi j wt hg H with ⟨hw, H⟩ | ⟨hw, H⟩
      · exact go H hw
      · exact skip H hw

theorem tree_sound (E : ∀ t, (kd t).ok P t) (ops : Array Oper) {Q : Exit → Act → World → Prop} :
    ∀ (tr : Tr) (listed : Array Bool) {Qh : Fr → Heap → Prop} {fr : Fr} {a : Act} {h : Heap} {φ : Plan} {w : World} {B0 : Nat}, treeOk ops tr listed = true → Rep B0 φ h w → FrRep φ n fr a →
    hTree dm P kd n ops.toList tr Qh fr h →
    (∀ fr' a' h' φ' w', Qh fr' h' → Sub φ φ' → Rep B0 φ' h' w' → FrRep φ' n fr' a' → Lat dm B0 w w' → (∀ t, t ∉ ops.toList.filterMap (·.dst) → fr' t = fr t) → Q .normal a' w') →
    wpAnyS P ops (NP Q) ops.size (fun _ => True) tr.len listed a w := by
  intro tr
  have act : ∀ (i : Nat) (t : Tr) (listed : Array Bool) {Qh : Fr → Heap → Prop} {fr : Fr} {a : Act} {h : Heap} {φ : Plan} {w : World} {B0 : Nat},
      (∀ (listed : Array Bool) {Qh : Fr → Heap → Prop} {fr : Fr} {a : Act} {h : Heap} {φ : Plan} {w : World} {B0 : Nat}, treeOk ops t listed = true → Rep B0 φ h w → FrRep φ n fr a → hTree dm P kd n ops.toList t Qh fr h →
        (∀ fr' a' h' φ' w', Qh fr' h' → Sub φ φ' → Rep B0 φ' h' w' → FrRep φ' n fr' a' → Lat dm B0 w w' → (∀ t, t ∉ ops.toList.filterMap (·.dst) → fr' t = fr t) → Q .normal a' w') →
        wpAnyS P ops (NP Q) ops.size (fun _ => True) t.len listed a w) →
      treeOk ops t (listed.setIfInBounds i true) = true → Rep B0 φ h w → FrRep φ n fr a →
      (match ops.toList[i]? with
        | none => False
        | some o =>
          match o.guard with
          | none => hOp dm P kd o.op (hEval fr) h fun v h' => put n fr o.dst v fun fr' => hTree dm P kd n ops.toList t Qh fr' h'
          | some _ => False) →
      (∀ fr' a' h' φ' w', Qh fr' h' → Sub φ φ' → Rep B0 φ' h' w' → FrRep φ' n fr' a' → Lat dm B0 w w' → (∀ t, t ∉ ops.toList.filterMap (·.dst) → fr' t = fr t) → Q .normal a' w') →
      wpOp P ops (NP Q) i (fun a' w' => Safe ops.size (fun _ => True) (listed.setIfInBounds i true) w' ∧ wpAnyS P ops (NP Q) ops.size (fun _ => True) t.len (listed.setIfInBounds i true) a' w') a w := by
    intro i t listed Qh fr a h φ w B0 ih hok R F H hQ
    split at H
    · exact H.elim
    rename_i o ho
    have ho' : ops[i]? = some o := by simpa using ho
    have hdst : ∀ s, o.dst = some s → s ∈ ops.toList.filterMap (·.dst) := fun s hs => List.mem_filterMap.2 ⟨o, List.mem_of_getElem? ho, hs⟩
    split at H
    · rename_i hg
      unfold wpOp
      rw [ho']
      simp only
      rw [if_pos (by simp [Region.wanted, hg])]
      refine Or.inl (hOp_sound E R F H (fun v w' ⟨x, h', φ', g1, g2, g3, g4, g5⟩ => ?_))
      obtain ⟨fr', k1, k2, k3⟩ := put_elim g1
      refine ⟨Or.inr trivial, ih _ hok g3 (k2 φ' a v (F.mono g2) g4) k1 (fun fr2 a2 h2 φ2 w2 q s2 r2 f2 bl2 u => hQ fr2 a2 h2 φ2 w2 q (g2.trans s2) r2 f2 (g5.trans bl2) (fun x hx => (u x hx).trans (k3 x (fun e => hx (hdst x e)))))⟩
    · exact H.elim
  induction tr with
  | done => intro listed Qh fr a h φ w B0 hok R F H hQ; exact ⟨by simpa [treeOk] using hok, hQ fr a h φ w H (Sub.refl φ) R F (Lat.refl B0 w) (fun _ _ => rfl)⟩
  | one i t ih =>
    intro listed Qh fr a h φ w B0 hok R F H hQ
    simp only [treeOk, Bool.and_eq_true, beq_iff_eq] at hok
    refine ⟨fun h0 => (by rw [hok.1] at h0; cases h0), fun j hj => ?_⟩
    rw [hok.1] at hj
    obtain rfl : j = i := by simpa using hj
    exact act j t listed (fun listed => ih listed) hok.2 R F H hQ
  | two i t j u iht ihu =>
    intro listed Qh fr a h φ w B0 hok R F H hQ
    simp only [treeOk, Bool.and_eq_true, beq_iff_eq] at hok
    obtain ⟨⟨⟨hr, hl⟩, h1⟩, h2⟩ := hok
    refine ⟨fun h0 => (by rw [hr] at h0; cases h0), fun k hk => ?_⟩
    rw [hr] at hk
    rcases List.mem_cons.1 hk with rfl | hk
    · exact act k t listed (fun listed => iht listed) h1 R F H.1 hQ
    · obtain rfl : k = j := by simpa using hk
      have := act k u listed (fun listed => ihu listed) h2 R F H.2 hQ
      rw [← hl] at this
      exact this
  | three i t j u m v iht ihu ihv =>
    intro listed Qh fr a h φ w B0 hok R F H hQ
    simp only [treeOk, Bool.and_eq_true, beq_iff_eq] at hok
    obtain ⟨⟨⟨⟨⟨hr, hl⟩, hl2⟩, h1⟩, h2⟩, h3⟩ := hok
    refine ⟨fun h0 => (by rw [hr] at h0; cases h0), fun k hk => ?_⟩
    rw [hr] at hk
    rcases List.mem_cons.1 hk with rfl | hk
    · exact act k t listed (fun listed => iht listed) h1 R F H.1 hQ
    rcases List.mem_cons.1 hk with rfl | hk
    · have := act k u listed (fun listed => ihu listed) h2 R F H.2.1 hQ
      rw [← hl] at this
      exact this
    · obtain rfl : k = m := by simpa using hk
      have := act k v listed (fun listed => ihv listed) h3 R F H.2.2 hQ
      rw [← hl2] at this
      exact this

theorem treed_sound (E : ∀ t, (kd t).ok P t) (hm : P.follows .mixedOrders = true) {id : Nat} {ops : Array Oper} {ps : List Nat} {tr : Tr} (hok : treeAll ops ps tr = true) {Qh : Fr → Heap → Prop} {fr : Fr} {a : Act} {h : Heap} {φ : Plan} {w : World} {B0 : Nat} (R : Rep B0 φ h w) (F : FrRep φ n fr a)
    (H : hOpsV kd n ops.toList (ps.filterMap fun i => ops.toList[i]?) (fun fr' => hTree dm P kd n ops.toList tr Qh fr' h) fr h) {Q : Exit → Act → World → Prop}
    (hQ : ∀ fr' a' h' φ' w', Qh fr' h' → Sub φ φ' → Rep B0 φ' h' w' → FrRep φ' n fr' a' → Lat dm B0 w w' → (∀ t, t ∉ ops.toList.filterMap (·.dst) → fr' t = fr t) → Q .normal a' w') : (Code.region id ops true).wp P Q a w := by
  simp only [treeAll, Bool.and_eq_true, beq_iff_eq] at hok
  obtain ⟨⟨⟨h1, h2⟩, h3⟩, h4⟩ := hok
  refine wp_mono (wp_region_any (Q := NP Q) hm (wpAny_of_S (t := ops.size) (C := fun _ => True) _ _ _ _ ?_)) NP.imp
  have hc0 : Closed ops (Array.replicate ops.size false) := ⟨by simp, fun j oj _ hl => (by rw [getD_replicate_false] at hl; cases hl)⟩
  have hw1 : Lat dm w.heap.size w w.drew := (Lat.refl _ w).drew
  have := pf_sound (fuel := tr.len) (Q := Q) (w1 := w.drew) E ops R h1 ps _ hc0 h2 F H (fun fr' a' q f u cl => by
    refine tree_sound E ops tr _ h3 (R.below hw1) f q (fun fr2 a2 h2 φ2 w2 q2 s2 r2 f2 b2 u2 => ?_)
    exact hQ fr2 a2 h2 φ2 w2 q2 s2 r2 f2 (((Lat.refl B0 w).drew).trans b2) (fun x hx => (u2 x hx).trans (u x hx)))
  rw [show tr.len + ps.length = ops.size by omega] at this
  exact this

def Ex.toExit : Ex → Exit
  | .normal => .normal
  | .exit id => .exit id
  | .ret => .ret

theorem place_out (fr : Fr) (w : List Nat) : ∀ (l : List Nat) (vs : List HV) (t : Nat), t ∉ l → t ∉ w → place fr w l vs t = fr t
  | [], vs, t, _, hw => by
    have : w.contains t = false := by simpa using hw
    show (bif w.contains t then HV.dead else fr t) = fr t
    rw [this]
    rfl
  | a :: l, [], t, hl, hw => by
    simp only [List.mem_cons, not_or] at hl
    simp only [place_none, beq_ne hl.1, cond_false]
    exact place_out fr w l [] t hl.2 hw
  | a :: l, v :: vs, t, hl, hw => by
    simp only [List.mem_cons, not_or] at hl
    simp only [place_cons, beq_ne hl.1, cond_false]
    exact place_out fr w l vs t hl.2 hw

/-- A frame that fits, cut down to what is handed on. -/
theorem place_rep {φ : Plan} {fr fr' : Fr} {a : Act} (w : List Nat) (F : FrRep φ n fr' a) (hout : ∀ t, t ∉ w → fr' t = fr t) : ∀ (l : List Nat), (∀ t, t ∈ l → t ∈ w) → FrRep φ n (place fr w l (l.map fr')) a := by
  have key : ∀ (l : List Nat) (t : Nat), place fr w l (l.map fr') t = .dead ∨ place fr w l (l.map fr') t = fr' t := by
    intro l
    induction l with
    | nil =>
      intro t
      simp only [place_nil]
      cases hc : w.contains t with
      | true => exact Or.inl rfl
      | false => exact Or.inr (hout t (by simpa using hc)).symm
    | cons x l ih =>
      intro t
      simp only [place_cons, List.map_cons]
      by_cases ht : t = x
      · subst ht
        simp
      · simp only [beq_ne ht, cond_false]
        exact ih t
  intro l _
  refine ⟨F.size, fun t ht => ?_, fun t ht => ?_, F.defers⟩
  · rcases key l t with e | e
    · rw [e]; trivial
    · rw [e]; exact F.has t ht
  · rcases key l t with e | e
    · exact e
    · rw [e]; exact F.out t ht

theorem carried_writes (b : Code) : ∀ t, t ∈ carried m b → t ∈ writes b := by
  intro t ht
  unfold carried at ht
  have := List.mem_eraseDups.1 ht
  rcases List.mem_append.1 this with h | h
  · have := (List.mem_filter.1 h).2
    simpa using this
  · exact (List.mem_filter.1 h).1

theorem hwp_sound (E : ∀ t, (kd t).ok P t) (hm : P.follows .mixedOrders = true) : ∀ (c : Code) {Qh : Ex → Fr → Heap → Prop} {fr : Fr} {a : Act} {h : Heap} {φ : Plan} {w : World} {B0 : Nat}, Rep B0 φ h w → FrRep φ n fr a → hwp dm P kd n m c Qh fr h →
    ∀ {Q : Exit → Act → World → Prop}, (∀ e fr' a' h' φ' w', Qh e fr' h' → Sub φ φ' → Rep B0 φ' h' w' → FrRep φ' n fr' a' → Lat dm B0 w w' → (∀ t, t ∉ writes c → fr' t = fr t) → Q e.toExit a' w') → c.wp P Q a w := by
  intro c
  induction c with
  | skip => intro Qh fr a h φ w B0 R F H Q hQ; exact wp_skip (hQ .normal fr a h φ w H (Sub.refl φ) R F (Lat.refl B0 w) (fun _ _ => rfl))
  | exit id => intro Qh fr a h φ w B0 R F H Q hQ; exact wp_exit (hQ (.exit id) fr a h φ w H (Sub.refl φ) R F (Lat.refl B0 w) (fun _ _ => rfl))
  | ret => intro Qh fr a h φ w B0 R F H Q hQ; exact wp_ret (hQ .ret fr a h φ w H (Sub.refl φ) R F (Lat.refl B0 w) (fun _ _ => rfl))
  | region id ops draw =>
    intro Qh fr a h φ w B0 R F H Q hQ
    cases draw with
    | false =>
      refine wp_region_list (hOps_sound E ops ops.toList R F H (fun fr' a' h' φ' w' q s r f b u => hQ .normal fr' a' h' φ' w' q s r f b u))
    | true =>
      rcases H with ⟨hB, H⟩ | ⟨k, hB, H⟩ | ⟨t, ps, ss, hB, H⟩ | ⟨ps, tr, hB, H⟩
      · refine wp_region_quiet (C := fun w'' => Lat dm w.heap.size w w'') hm hB ((Lat.refl _ w).drew) (hOpsQ_sound E ops R ops.toList F H (fun fr' a' q f u w' hw' => ?_))
        exact hQ .normal fr' a' h φ w' q (Sub.refl φ) (R.below hw') f (hw'.mono R.base) u
      · have hw1 : Lat dm w.heap.size w w.drew := (Lat.refl _ w).drew
        have key := wp_region_still_tail (P := P) (id := id) (Q := Q) (a := a) (w := w) (l := ops.toList) k hm (by simpa using hB) (by
          refine hOpsV_sound E _ R hw1 _ F (by simpa using H) (fun fr' a' q f u => ?_)
          refine hOps_sound E _ _ (R.below hw1) f (by simpa using q) (fun fr2 a2 h2 φ2 w2 q2 s2 r2 f2 b2 u2 => ?_)
          refine hQ .normal fr2 a2 h2 φ2 w2 q2 s2 r2 f2 (((Lat.refl B0 w).drew).trans b2) (fun t ht => ?_)
          have ht' : t ∉ (ops.toList.take k).filterMap (·.dst) ∧ t ∉ (ops.toList.drop k).filterMap (·.dst) := by
            have e : (ops.toList.take k).filterMap (·.dst) ++ (ops.toList.drop k).filterMap (·.dst) = ops.toList.filterMap (·.dst) := by
              rw [← List.filterMap_append, List.take_append_drop]
            simp only [writes] at ht
            rw [← e, List.mem_append, not_or] at ht
            exact ht
          exact (u2 t ht'.2).trans (u t ht'.1))
        simpa using key
      · exact held_sound E hm hB R F H (fun fr' a' h' φ' w' q s r f b u => hQ .normal fr' a' h' φ' w' q s r f b u)
      · exact treed_sound E hm hB R F H (fun fr' a' h' φ' w' q s r f b u => hQ .normal fr' a' h' φ' w' q s r f b u)
  | seq x y ihx ihy =>
    intro Qh fr a h φ w B0 R F H Q hQ
    refine wp_seq (ihx R F H (fun e fr' a' h' φ' w' q s r f b u => ?_))
    have hu : ∀ t, t ∉ writes (.seq x y) → t ∉ writes x ∧ t ∉ writes y := fun t ht => by
      simp only [writes, List.mem_append, not_or] at ht
      exact ht
    cases e with
    | normal => exact ihy r f q (fun e2 fr2 a2 h2 φ2 w2 q2 s2 r2 f2 b2 u2 => hQ e2 fr2 a2 h2 φ2 w2 q2 (s.trans s2) r2 f2 (b.trans b2) (fun t ht => (u2 t (hu t ht).2).trans (u t (hu t ht).1)))
    | exit id => exact hQ (.exit id) fr' a' h' φ' w' q s r f b (fun t ht => u t (hu t ht).1)
    | ret => exact hQ .ret fr' a' h' φ' w' q s r f b (fun t ht => u t (hu t ht).1)
  | cond c x y ihx ihy =>
    intro Qh fr a h φ w B0 R F H Q hQ
    have hu : ∀ t, t ∉ writes (.cond c x y) → t ∉ writes x ∧ t ∉ writes y := fun t ht => by
      simp only [writes, List.mem_append, not_or] at ht
      exact ht
    obtain ⟨b, e1, e2, e3⟩ := hIf_elim H (F.eval c)
    refine wp_cond_split e1 (fun hb => ?_) (fun hb => ?_)
    · exact ihx R F (e2 hb) (fun e fr' a' h' φ' w' q s r f b u => hQ e fr' a' h' φ' w' q s r f b (fun t ht => u t (hu t ht).1))
    · exact ihy R F (e3 hb) (fun e fr' a' h' φ' w' q s r f b u => hQ e fr' a' h' φ' w' q s r f b (fun t ht => u t (hu t ht).2))
  | block id b ih =>
    intro Qh fr a h φ w B0 R F H Q hQ
    refine wp_block (ih R F H (fun e fr' a' h' φ' w' q s r f b u => ?_))
    cases e with
    | normal => exact hQ .normal fr' a' h' φ' w' q s r f b u
    | exit j =>
      show Exit.inBlock id Q (.exit j) a' w'
      simp only [Exit.inBlock]
      simp only at q
      by_cases hj : j = id
      · rw [if_pos hj] at q ⊢
        exact hQ .normal fr' a' h' φ' w' q s r f b u
      · rw [if_neg hj] at q ⊢
        exact hQ (.exit j) fr' a' h' φ' w' q s r f b u
    | ret => exact hQ .ret fr' a' h' φ' w' q s r f b u
  | loop b ih =>
    intro Qh fr a h φ w B0 R F H Q hQ
    obtain ⟨J, μ, h0, hround⟩ := HLoop.out H
    refine wp_loop_ghost (fun k a' w' => ∃ vs h' φ', μ vs h' = k ∧ J vs h' ∧ Sub φ φ' ∧ Rep B0 φ' h' w' ∧ FrRep φ' n (place fr (writes b) (carried m b) vs) a' ∧ Lat dm B0 w w') (μ ((carried m b).map fr) h)
      ⟨_, h, φ, rfl, h0, Sub.refl φ, R, place_rep (writes b) F (fun _ _ => rfl) _ (carried_writes b), Lat.refl B0 w⟩ ?_
    rintro k a' w' ⟨vs, h', φ', rfl, hJ, s, r, f, bl⟩
    refine ih r f (hround vs h' hJ) (fun e fr2 a2 h2 φ2 w2 q s2 r2 f2 b2 u2 => ?_)
    have hu : ∀ t, t ∉ writes b → fr2 t = fr t := fun t ht => (u2 t ht).trans (place_out fr _ _ _ t (fun hc => ht (carried_writes b t hc)) ht)
    cases e with
    | normal => exact ⟨_, q.2, _, h2, φ2, rfl, q.1, s.trans s2, r2, place_rep (writes b) f2 hu _ (carried_writes b), bl.trans b2⟩
    | exit id => exact hQ (.exit id) fr2 a2 h2 φ2 w2 q (s.trans s2) r2 f2 (bl.trans b2) hu
    | ret => exact hQ .ret fr2 a2 h2 φ2 w2 q (s.trans s2) r2 f2 (bl.trans b2) hu
  | scope b ih =>
    intro Qh fr a h φ w B0 R F H Q hQ
    refine wp_scope_straight (ih R F H (fun e fr' a' h' φ' w' q s r f b u => ?_))
    have := hQ e fr' a' h' φ' w' q s r f b u
    cases e <;> exact this
  | label l => intro Qh fr a h φ w B0 R F H; exact H.elim
  | goto l => intro Qh fr a h φ w B0 R F H; exact H.elim
  | refuse y => intro Qh fr a h φ w B0 R F H; exact H.elim
  | rangeFunc f ps x y _ _ => intro Qh fr a h φ w B0 R F H; exact H.elim

/-- What a function hands back. -/
def hRet (rs : List ResultVar) (fr : Fr) (K : HV → Prop) : Prop :=
  match rs with
  | [] => K (.tup [])
  | [.tmp t] => K (fr t)
  | [.tmp t, .tmp u] => match atoms [fr t, fr u] with
    | some cs => K (.tup cs)
    | none => False
  | [.tmp t, .tmp u, .tmp v] => match atoms [fr t, fr u, fr v] with
    | some cs => K (.tup cs)
    | none => False
  | _ => False

noncomputable def frameOf (l : List HV) : Fr :=
  List.rec (motive := fun _ => Fr) (fun _ => .dead) (fun x _ ih t => match t with
    | 0 => x
    | t + 1 => ih t) l

def hFun (dm : Bool) (P : Program) (kd : TypeId → Kd) (n m : Nat) (rs : List ResultVar) (c : Code) (args : List HV) (h : Heap) (R : HV → Heap → Prop) : Prop :=
  hwp dm P kd n m c (fun e fr h' => match e with
    | .exit _ => False
    | _ => hRet rs fr fun x => R x h') (frameOf args) h

theorem frameOf_get : ∀ (args : List HV) (t : Nat), frameOf args t = args.getD t .dead
  | [], t => by simp [frameOf]
  | x :: xs, 0 => rfl
  | x :: xs, t + 1 => by simpa [frameOf] using frameOf_get xs t

theorem hRet_sound {rs : List ResultVar} {fr : Fr} {K : HV → Prop} (H : hRet rs fr K) {φ : Plan} {a : Act} (F : FrRep φ n fr a) {fn : Func} (hr : fn.results.toList = rs) (w : World) :
    ∃ v x, (results fn a.tmps).run P w = .ok v w ∧ repV φ x v ∧ K x := by
  have get : ∀ t, repV φ (fr t) (a.tmps.getD t undef) := fun t => F.eval (.tmp t)
  unfold hRet at H
  split at H
  · exact ⟨_, .tup [], results_none (fn := fn) (by simpa using hr) _ _ _, ⟨#[], rfl, trivial⟩, H⟩
  · rename_i t
    exact ⟨_, fr t, results_tmp (fn := fn) (arr1 hr) _ _ _, get t, H⟩
  · rename_i t u
    split at H
    · rename_i cs hcs
      exact ⟨_, .tup cs, results_tmp2 (fn := fn) (arr2 hr) _ _ _, ⟨_, rfl, atoms_rep hcs ⟨get t, get u, trivial⟩⟩, H⟩
    · exact H.elim
  · rename_i t u v
    split at H
    · rename_i cs hcs
      have h3 : fn.results = #[.tmp t, .tmp u, .tmp v] := by
        have := congrArg List.toArray hr
        simpa using this
      exact ⟨_, .tup cs, results_tmp3 (fn := fn) h3 _ _ _, ⟨_, rfl, atoms_rep hcs ⟨get t, get u, get v, trivial⟩⟩, H⟩
    · exact H.elim
  · exact H.elim

/-- A function's contract, out of its code. -/
theorem calls_of_hFun (E : ∀ t, (kd t).ok P t) (hm : P.follows .mixedOrders = true) {k : FuncId} {fn : Func} {c : Code} (hf : P.funcs[k]? = some fn) (hb : fn.body = some c) (hname : (fn.name == "runtime.NumGoroutine") = false)
    (hn : fn.ntmps = n) {rs : List ResultVar} (hr : fn.results.toList = rs) {args : List HV} (hargs : args.length ≤ n) {h : Heap} {R : HV → Heap → Prop} (H : hFun dm P kd n m rs c args h R) : HCalls dm P k args h R := by
  refine ⟨fun as w => ?_, fun B0 φ w vargs r ha => ?_⟩
  · have hbn : fn.body.isNone = false := by simp [hb]
    simp only [callFunc, Sem.run_bind, run_program, Result.andThen_ok, hf, hname, hbn, Bool.false_eq_true, if_false, Sem.run_pure]
  · have hlen := ha.length
    have hvl : vargs.size = args.length := by simpa using hlen.symm
    refine calls_of_wp hf hb (hwp_sound (n := n) (m := m) E hm c r (φ := φ) (fr := frameOf args) ?_ H (fun e fr' a' h' φ' w' q s r' f b u => ?_))
    · refine ⟨by simp [hn, hvl]; omega, fun t ht => ?_, fun t ht => ?_, rfl⟩
      · rw [frameOf_get]
        by_cases htl : t < args.length
        · obtain ⟨v, e1, e2⟩ := ha.get t args[t] (List.getElem?_eq_getElem htl)
          have hv : vargs[t]? = some v := by simpa using e1
          have : (vargs ++ Array.replicate (fn.ntmps - vargs.size) undef).getD t undef = v := by
            rw [Array.getD_eq_getD_getElem?, Array.getElem?_append_left (by omega), hv]
            rfl
          show repV φ _ _
          rw [this]
          have h2 : args.getD t .dead = args[t] := by simp [List.getD, htl]
          rw [h2]
          exact e2
        · have h2 : args.getD t .dead = .dead := by simp [List.getD, Nat.le_of_not_lt htl]
          rw [h2]
          trivial
      · rw [frameOf_get]
        simp [List.getD, show args.length ≤ t by omega]
    · have fin : ∀ (hh : hRet rs fr' fun x => R x h'), a'.defers = [] ∧ ∃ v, (results fn a'.tmps).run P w' = .ok v w' ∧ ∃ v' x h'' φ'', Ending.returned v = .returned v' ∧ R x h'' ∧ Sub φ φ'' ∧ Rep B0 φ'' h'' w' ∧ repV φ'' x v' ∧ Lat dm B0 w w' := by
        intro hh
        obtain ⟨v, x, e1, e2, e3⟩ := hRet_sound (P := P) hh f hr w'
        exact ⟨f.defers, v, e1, v, x, h', φ', rfl, e3, s, r', e2, b⟩
      cases e with
      | normal => exact fin q
      | ret => exact fin q
      | exit j => exact q.elim

theorem one_of {t : TypeId} {d : TypeDesc} (h : (P.info? t).map (fun i => i.size) = some 1) (hu : P.underlying t = some d) (hd : flat d = true := by rfl) : One P t := by
  obtain ⟨i, hi, hs⟩ := Option.map_eq_some_iff.1 h
  exact ⟨⟨i, hi, hs⟩, d, hu, hd⟩

theorem one_of_map {t : TypeId} (h : (P.info? t).map (fun i => i.size) = some 1) (hu : (P.underlying t).map flat = some true) : One P t := by
  obtain ⟨i, hi, hs⟩ := Option.map_eq_some_iff.1 h
  obtain ⟨d, hd, hd2⟩ := Option.map_eq_some_iff.1 hu
  exact ⟨⟨i, hi, hs⟩, d, hd, hd2⟩

theorem sl_of {t e : TypeId} {z : Value} {by_ : Nat} (h : (P.info? t).map (fun i => i.size) = some 1) (hu : P.underlying t = some (.slice e)) (he : (P.info? e).map (fun i => (i.zero, i.size, i.bytes)) = some (some z, 1, by_))
    (hb : by_ ≤ 64) (hc : z.cells = #[z]) (h1 : z.oneCell' = true) : Kd.ok P t (.sl z) := by
  obtain ⟨i, hi, z1, z2, z3⟩ := info_parts he
  exact ⟨⟨e, i, hu, hi, z2, z1, by rw [z3]; exact hb, hc, h1⟩, one_of h hu⟩

def Ones (P : Program) : Nat → List (Nat × TypeId) → Prop
  | _, [] => True
  | k, x :: r => x.1 = k ∧ One P x.2 ∧ Ones P (k + 1) r

theorem Ones.get : ∀ {k0 : Nat} {l : List (Nat × TypeId)}, Ones P k0 l → ∀ (k : Nat) (x : Nat × TypeId), l[k]? = some x → x.1 = k0 + k ∧ One P x.2
  | _, [], _, k, x, hx => by simp at hx
  | k0, y :: r, h, 0, x, hx => by
    simp at hx
    subst hx
    exact ⟨h.1, h.2.1⟩
  | k0, y :: r, h, k + 1, x, hx => by
    obtain ⟨e1, e2⟩ := Ones.get h.2.2 k x (by simpa using hx)
    exact ⟨by omega, e2⟩

def fieldsOf : TypeDesc → Option (List (Nat × TypeId))
  | .struct fs => some (fs.toList.map fun f => (f.offset, f.type))
  | _ => none

theorem rcd_of {t : TypeId} {zs : List Value} {l : List (Nat × TypeId)} (hu : (P.underlying t).map fieldsOf = some (some l)) (hi : (P.info? t).map (fun i => (i.zero, i.size)) = some (some (.agg zs.toArray), zs.length))
    (hl : l.length = zs.length) (ho : Ones P 0 l) (h1 : ∀ z ∈ zs, z.oneCell' = true) : Kd.ok P t (.rcd zs) := by
  obtain ⟨d, hd, hf⟩ := Option.map_eq_some_iff.1 hu
  obtain ⟨i, hi1, hi2⟩ := Option.map_eq_some_iff.1 hi
  simp only [Prod.mk.injEq] at hi2
  cases d <;> simp only [fieldsOf, reduceCtorEq, Option.some.injEq] at hf
  rename_i fs
  refine ⟨fs, i, hd, hi1, hi2.1, hi2.2, ?_, fun k f hk => ?_, h1⟩
  · rw [← hl, ← hf]
    simp
  · have := Ones.get ho k (f.offset, f.type) (by rw [← hf]; simp [hk])
    simpa using this

theorem slw_of {t e : TypeId} {zs : List Value} {by_ : Nat} (h : (P.info? t).map (fun i => i.size) = some 1) (hz : (P.info? t).map (fun i => i.zero) = some (some (.slice none 0 0))) (hu : P.underlying t = some (.slice e))
    (he : (P.info? e).map (fun i => (i.zero, i.size, i.bytes)) = some (some (.agg zs.toArray), zs.length, by_)) (hb : by_ ≤ 512) (hp : 0 < zs.length) (h1 : ∀ z ∈ zs, z.oneCell' = true) : Kd.ok P t (.slw zs) := by
  obtain ⟨i, hi, z1⟩ := Option.map_eq_some_iff.1 he
  simp only [Prod.mk.injEq] at z1
  obtain ⟨j, hj, j1⟩ := Option.map_eq_some_iff.1 hz
  exact ⟨⟨e, i, hu, hi, z1.2.1, z1.1, by rw [z1.2.2]; exact hb, hp, h1⟩, ⟨j, hj, j1⟩, one_of h hu⟩

theorem keys_str {t kt et : TypeId} (h : (P.info? t).map (fun i => i.size) = some 1) (hz : (P.info? t).map (fun i => i.zero) = some (some (.map none))) (hu : P.underlying t = some (.map kt et))
    (he : (P.info? et).map (fun i => i.zero) = some (some (.bool false))) (hk : P.underlying kt = some .string) : Kd.ok P t (.keys true) := by
  obtain ⟨i, hi, z1⟩ := Option.map_eq_some_iff.1 he
  obtain ⟨j, hj, j1⟩ := Option.map_eq_some_iff.1 hz
  exact ⟨⟨kt, et, i, hu, hi, z1, fun _ => hk, fun e => by cases e⟩, ⟨j, hj, j1⟩, one_of h hu⟩

theorem keys_arr {t kt et ke : TypeId} (h : (P.info? t).map (fun i => i.size) = some 1) (hz : (P.info? t).map (fun i => i.zero) = some (some (.map none))) (hu : P.underlying t = some (.map kt et))
    (he : (P.info? et).map (fun i => i.zero) = some (some (.bool false))) (hk : P.underlying kt = some (.array 4 ke)) (hs : (P.info? ke).map (fun i => i.size) = some 1) (hi : P.underlying ke = some (.int .i64)) : Kd.ok P t (.keys false) := by
  obtain ⟨i, hi1, z1⟩ := Option.map_eq_some_iff.1 he
  obtain ⟨j, hj, j1⟩ := Option.map_eq_some_iff.1 hz
  obtain ⟨q, hq, q1⟩ := Option.map_eq_some_iff.1 hs
  exact ⟨⟨kt, et, i, hu, hi1, z1, fun e => (by cases e), fun _ => ⟨ke, q, hk, hq, q1, hi⟩⟩, ⟨j, hj, j1⟩, one_of h hu⟩

theorem arr_of {t e : TypeId} {n : Nat} {z : Value} {k : Kd} (hu : P.underlying t = some (.array n e)) (hi : (P.info? t).map (fun i => (i.zero, i.size)) = some (some (.agg (Array.replicate n z)), n)) (he : (P.info? e).map (fun i => i.size) = some 1)
    (hk : k.ok P e) (h1 : k.one = true) (hz : z.oneCell' = true) : Kd.ok P t (.arr n z) := by
  obtain ⟨i, hi1, z1⟩ := Option.map_eq_some_iff.1 hi
  simp only [Prod.mk.injEq] at z1
  obtain ⟨j, hj, j1⟩ := Option.map_eq_some_iff.1 he
  exact ⟨e, i, j, hu, hi1, z1.2, z1.1, hj, j1, Kd.ok_one hk h1, hz⟩

end
end Go.Proofs.Ytjgnnjegaedinaa.Hx
