
/-
  The calculus of rows is sound, part 4: lists of operations, regions, code, functions.
-/
import Derived.Test.YtecfgbjddkpkcaaHn
namespace Go.Proofs.Ytecfgbjddkpkcaa.Hx
open Go.RowKit
variable {dm : Bool}

section
variable {P : Program} {kd : TypeId → Kd} {n : Nat}

theorem leaves_same {B0 : Nat} {φ : Plan} {h : Heap} {w : World} (R : Rep B0 φ h w) {x : HV} {v : Value} (hx : repV φ x v) {K : HV → Heap → Prop} (hK : K x h) : Leaves dm B0 φ w w v K :=
  ⟨x, h, φ, hK, Sub.refl φ, R, hx, Lat.refl B0 w⟩

theorem arr1 {α : Type} {xs : Array α} {x : α} (h : xs.toList = [x]) : xs = #[x] := by
  have := congrArg List.toArray h
  simpa using this

theorem arr2 {α : Type} {xs : Array α} {x y : α} (h : xs.toList = [x, y]) : xs = #[x, y] := by
  have := congrArg List.toArray h
  simpa using this

theorem evals {φ : Plan} {fr : Fr} {a : Act} (F : FrRep φ n fr a) : ∀ (xs : List Operand), repVs φ (xs.map (hEval fr)) (xs.map a.eval)
  | [] => trivial
  | x :: xs => ⟨F.eval x, evals F xs⟩

theorem atoms_rep {φ : Plan} : ∀ {xs : List HV} {cs : List H0} {vs : List Value}, atoms xs = some cs → repVs φ xs vs → repL φ cs vs
  | [], cs, [], h, _ => by simp [atoms_nil] at h; subst h; trivial
  | x :: xs, cs, v :: vs, h, r => by
    rw [atoms_cons] at h
    split at h
    · rename_i a as h1 h2
      cases h
      cases x <;> simp [atom] at h1
      subst h1
      exact ⟨r.1, atoms_rep h2 r.2⟩
    · cases h
  | [], _, _ :: _, _, r => r.elim
  | _ :: _, _, [], _, r => r.elim

theorem optEval {φ : Plan} {fr : Fr} {a : Act} (F : FrRep φ n fr a) (o : Option Operand) : (o.map (hEval fr) = none ∧ o.map a.eval = none) ∨ ∃ y v, o.map (hEval fr) = some y ∧ o.map a.eval = some v ∧ repV φ y v := by
  cases o with
  | none => exact Or.inl ⟨rfl, rfl⟩
  | some x => exact Or.inr ⟨_, _, rfl, rfl, F.eval x⟩

theorem two {φ : Plan} {x y : HV} {l : List Value} (h : repVs φ [x, y] l) : ∃ v v', l = [v, v'] := by
  cases l with
  | nil => exact h.elim
  | cons v vs =>
    cases vs with
    | nil => exact h.2.elim
    | cons v' vs =>
      cases vs with
      | nil => exact ⟨v, v', rfl⟩
      | cons _ _ => exact h.2.2.elim

theorem hCall_sound (E : ∀ t, (kd t).ok P t) {o : Oper} {c : Call} (ho : o.op = .call c) {fr : Fr} {a : Act} {h : Heap} {φ : Plan} {w : World} {B0 : Nat} (R : Rep B0 φ h w) (F : FrRep φ n fr a) {Kh : HV → Heap → Prop}
    (H : hCall dm P kd c (hEval fr) h Kh) {next : Act → World → Prop} {Q : Exit → Act → World → Prop} (hn : ∀ v w', Leaves dm B0 φ w w' v Kh → next (a.put o.dst v) w') : o.wp P a w next Q := by
  obtain ⟨callee, args, argTypes⟩ := c
  unfold hCall at H
  simp only at H
  split at H
  · rename_i b
    have hxs := evals F args.toList
    have hrun : ∀ (v : Value) (w' : World), (builtin b argTypes o.type (args.map fun | .const _ => true | _ => false) (args.map a.eval)).run P w = .ok (.value v) w' → (execOp a.eval o).run P w = .ok (.value v) w' := by
      intro v w' hr
      simp only [execOp, ho, resolve, Sem.run_bind, Sem.run_pure, Result.andThen_ok, invoke]
      exact hr
    have hmap : (args.map a.eval).toList = args.toList.map a.eval := by simp
    unfold hBuiltin at H
    split at H
    · split at H
      · rename_i x hx
        split at H
        · rename_i t ht
          obtain rfl := arr1 ht
          rw [hx] at hxs
          obtain ⟨v, hv⟩ : ∃ v, args.toList.map a.eval = [v] := by
            cases he : args.toList.map a.eval with
            | nil => rw [he] at hxs; exact hxs.elim
            | cons v vs =>
              rw [he] at hxs
              cases vs with
              | nil => exact ⟨v, rfl⟩
              | cons _ _ => exact hxs.2.elim
          rw [hv] at hxs
          split at H
          · rename_i hk
            obtain ⟨r, e1, e2⟩ := hLenS_run (P := P) (ty := o.type) (hk ▸ E t) hxs.1 H
            refine wp_value (v := r) (w' := w) (hrun r w ?_) (hn _ _ (leaves_same R (x := .s (.pl r)) rfl e2))
            rw [arr1 (hmap.trans hv)]
            simp [builtin, e1 w]
          · rename_i hk
            obtain ⟨r, e1, e2⟩ := hLenW_run (P := P) (ty := o.type) (hk ▸ E t) hxs.1 H
            refine wp_value (v := r) (w' := w) (hrun r w ?_) (hn _ _ (leaves_same R (x := .s (.pl r)) rfl e2))
            rw [arr1 (hmap.trans hv)]
            simp [builtin, e1 w]
          · obtain ⟨r, e1, e2⟩ := hLen_run (P := P) (ty := o.type) (E t) H.1 hxs.1 H.2
            refine wp_value (v := r) (w' := w) (hrun r w ?_) (hn _ _ (leaves_same R (x := .s (.pl r)) rfl e2))
            rw [arr1 (hmap.trans hv)]
            simp [builtin, e1 w]
        · exact H.elim
      · exact H.elim
    · split at H
      · rename_i x y hx
        rw [hx] at hxs
        obtain ⟨v, v', hv⟩ : ∃ v v', args.toList.map a.eval = [v, v'] := two hxs
        rw [hv] at hxs
        obtain ⟨r, e1, e2⟩ := hMax_run (P := P) (ts := argTypes) (ty := o.type) hxs.1 hxs.2.1 H
        refine wp_value (v := r) (w' := w) (hrun r w ?_) (hn _ _ (leaves_same R (x := .s (.pl r)) rfl e2))
        rw [arr2 (hmap.trans hv)]
        simp [builtin, e1 w]
      · exact H.elim
    · split at H
      · rename_i x y hx
        rw [hx] at hxs
        obtain ⟨v, v', hv⟩ : ∃ v v', args.toList.map a.eval = [v, v'] := two hxs
        rw [hv] at hxs
        obtain ⟨r, e1, e2⟩ := hMin_run (P := P) (ts := argTypes) (ty := o.type) hxs.1 hxs.2.1 H
        refine wp_value (v := r) (w' := w) (hrun r w ?_) (hn _ _ (leaves_same R (x := .s (.pl r)) rfl e2))
        rw [arr2 (hmap.trans hv)]
        simp [builtin, e1 w]
      · exact H.elim
    · split at H
      · rename_i s x hx
        split at H
        · rename_i t u ht
          obtain rfl := arr2 ht
          rw [hx] at hxs
          obtain ⟨v, v', hv⟩ : ∃ v v', args.toList.map a.eval = [v, v'] := by
            cases he : args.toList.map a.eval with
            | nil => rw [he] at hxs; exact hxs.elim
            | cons v vs =>
              rw [he] at hxs
              cases vs with
              | nil => exact hxs.2.elim
              | cons v' vs =>
                cases vs with
                | nil => exact ⟨v, v', rfl⟩
                | cons _ _ => exact hxs.2.2.elim
          rw [hv] at hxs
          split at H
          · rename_i kn hkn
            split at H
            · rename_i z hz
              have hu := E u
              rw [hkn] at hu
              split at H
              · obtain ⟨w', r, e1, e2⟩ := hAppZ2_run (w := w) (ty := o.type) R (hz ▸ E t) hu.1 hxs.1 hxs.2.1 H
                refine wp_value (v := r) (w' := w') (hrun r w' ?_) (hn _ _ e2)
                rw [arr2 (hmap.trans hv)]
                simp [builtin, e1]
              · obtain ⟨w', r, e1, e2⟩ := hAppZ_run (w := w) (ty := o.type) R (hz ▸ E t) hu.1 hxs.1 hxs.2.1 H
                refine wp_value (v := r) (w' := w') (hrun r w' ?_) (hn _ _ e2)
                rw [arr2 (hmap.trans hv)]
                simp [builtin, e1]
            · exact H.elim
          · rename_i zs hzs
            obtain ⟨rfl, H⟩ := H
            obtain ⟨w', r, e1, e2⟩ := hAppW_run (w := w) (ty := o.type) R (hzs ▸ E t) hxs.1 hxs.2.1 H
            refine wp_value (v := r) (w' := w') (hrun r w' ?_) (hn _ _ e2)
            rw [arr2 (hmap.trans hv)]
            simp [builtin, e1]
          · obtain ⟨rfl, hs, H⟩ := H
            obtain ⟨w', r, e1, e2⟩ := hApp_run (w := w) (ty := o.type) R (E t) hs hxs.1 hxs.2.1 H
            refine wp_value (v := r) (w' := w') (hrun r w' ?_) (hn _ _ e2)
            rw [arr2 (hmap.trans hv)]
            simp [builtin, e1]
        · exact H.elim
      · exact H.elim
    · split at H
      · rename_i x y hx
        split at H
        · rename_i t u ht
          obtain rfl := arr2 ht
          rw [hx] at hxs
          obtain ⟨v, v', hv⟩ : ∃ v v', args.toList.map a.eval = [v, v'] := two hxs
          rw [hv] at hxs
          obtain ⟨rfl, hs, H⟩ := H
          obtain ⟨w', r, e1, e2⟩ := hCopy_run (w := w) (ty := o.type) R (E t) hs hxs.1 hxs.2.1 H
          refine wp_value (v := r) (w' := w') (hrun r w' ?_) (hn _ _ e2)
          rw [arr2 (hmap.trans hv)]
          simp [builtin, e1]
        · exact H.elim
      · exact H.elim
    · split at H
      · rename_i x hx
        split at H
        · rename_i t ht
          obtain rfl := arr1 ht
          split at H
          · rename_i z hz
            rw [hx] at hxs
            obtain ⟨v, hv⟩ : ∃ v, args.toList.map a.eval = [v] := by
              cases he : args.toList.map a.eval with
              | nil => rw [he] at hxs; exact hxs.elim
              | cons v vs =>
                rw [he] at hxs
                cases vs with
                | nil => exact ⟨v, rfl⟩
                | cons _ _ => exact hxs.2.elim
            rw [hv] at hxs
            obtain ⟨w', r, e1, e2⟩ := hClear_run (w := w) (ty := o.type) R (hz ▸ E t) hxs.1 H
            refine wp_value (v := r) (w' := w') (hrun r w' ?_) (hn _ _ e2)
            rw [arr1 (hmap.trans hv)]
            simp [builtin, e1]
          · exact H.elim
        · exact H.elim
      · exact H.elim
    · split at H
      · rename_i x hx
        split at H
        · rename_i t ht
          obtain rfl := arr1 ht
          rw [hx] at hxs
          obtain ⟨v, hv⟩ : ∃ v, args.toList.map a.eval = [v] := by
            cases he : args.toList.map a.eval with
            | nil => rw [he] at hxs; exact hxs.elim
            | cons v vs =>
              rw [he] at hxs
              cases vs with
              | nil => exact ⟨v, rfl⟩
              | cons _ _ => exact hxs.2.elim
          rw [hv] at hxs
          obtain ⟨hs, H⟩ := H
          obtain ⟨b, n, cp, rfl, hK⟩ := H.out
          have hv1 : v = .slice b n cp := hxs.1
          subst hv1
          obtain ⟨z, hz⟩ : ∃ z, kd t = .sl z := by cases hk : kd t <;> rw [hk] at hs <;> simp [Kd.isSl] at hs; exact ⟨_, rfl⟩
          obtain ⟨e, i, h1, _⟩ := Kd.sl_all (hz ▸ E t) rfl
          refine wp_value (v := .int .i64 cp) (w' := w) (hrun _ w ?_) (hn _ _ (leaves_same R (x := .s (.pl (.int .i64 cp))) rfl hK))
          rw [arr1 (hmap.trans hv)]
          simp [builtin, Builtin.cap_, run_underlying h1, goInt]
        · exact H.elim
      · exact H.elim
    · exact H.elim
  · rename_i f
    split at H
    · rename_i k caps he
      have rf := F.eval f
      rw [he] at rf
      obtain ⟨vs, ev, rc⟩ := rf
      have hargs : repVs φ ((args.toList.map (hEval fr)) ++ caps.map HV.s) (args.map a.eval ++ vs).toList := by
        rw [Array.toList_append, Array.toList_map]
        exact (evals F _).append (repVs.ofL rc)
      have hc := H.out B0 φ w _ R hargs
      unfold Oper.wp
      have hrun : (execOp a.eval o).run P w = .ok (.enter k (args.map a.eval ++ vs)) w := by
        simp [execOp, ho, resolve, ev, Deferred.ofValue, invoke, H.enters]
      rw [hrun, Oper.upon_enter]
      refine hc.mono ?_
      rintro e w' ⟨v, x, h', φ', rfl, g1, g2, g3, g4, g5⟩
      exact hn _ _ ⟨x, h', φ', g1, g2, g3, g4, g5⟩
    · exact H.elim
  · exact H.elim

theorem zeros_ok {P : Program} {t : TypeId} {d : Kd} (hd : d.ok P t) {zs : List Value} (h : d.zeros = some zs) : ∃ i z, P.info? t = some i ∧ i.zero = some z ∧ z.cells = zs.toArray := by
  cases d <;> simp only [Kd.zeros, Option.some.injEq, reduceCtorEq] at h
  · subst h
    obtain ⟨fs, i, h1, h2, h3, _⟩ := hd
    exact ⟨i, _, h2, h3, rfl⟩
  · subst h
    obtain ⟨_, ⟨j, h1, h2⟩, _⟩ := hd
    exact ⟨j, _, h1, h2, rfl⟩
  · subst h
    obtain ⟨_, ⟨j, h1, h2⟩, _⟩ := hd
    exact ⟨j, _, h1, h2, rfl⟩

theorem hCheck_run {φ : Plan} {o : Oper} {x : Operand} (ho : o.op = .nilCheck x) {ρ : Operand → Value} {y : HV} (hx : repV φ y (ρ x)) {K : HV → Prop} (H : hCheck y K) :
    (∀ (P : Program) (w : World), (execOp ρ o).run P w = .ok (.value (ρ x)) w) ∧ K y := by
  unfold hCheck at H
  split at H
  · obtain ⟨p, _, e⟩ := hx
    exact ⟨fun P w => by simp [execOp, ho, e], H⟩
  · obtain ⟨vs, e, _⟩ := hx
    exact ⟨fun P w => by simp [execOp, ho, e], H⟩
  · exact H.elim

theorem hOp_sound (E : ∀ t, (kd t).ok P t) {o : Oper} {fr : Fr} {a : Act} {h : Heap} {φ : Plan} {w : World} {B0 : Nat} (R : Rep B0 φ h w) (F : FrRep φ n fr a) {Kh : HV → Heap → Prop}
    (H : hOp dm P kd o.op (hEval fr) h Kh) {next : Act → World → Prop} {Q : Exit → Act → World → Prop} (hn : ∀ v w', Leaves dm B0 φ w w' v Kh → next (a.put o.dst v) w') : o.wp P a w next Q := by
  unfold hOp at H
  split at H
  · rename_i x ho
    exact wp_value (v := a.eval x) (w' := w) (by simp [execOp, ho]) (hn _ _ (leaves_same R (F.eval x) (hForce_elim H)))
  · rename_i x ho
    exact wp_value (v := a.eval x) (w' := w) (by simp [execOp, ho]) (hn _ _ (leaves_same R (F.eval x) (hForce_elim H)))
  · rename_i c x y ho
    obtain ⟨b, e1, e2, e3⟩ := hIf_elim H (F.eval c)
    refine wp_value (v := if b then a.eval x else a.eval y) (w' := w) (by simp [execOp, ho, e1, asBool]) (hn _ _ ?_)
    cases b
    · exact leaves_same R (F.eval y) (e3 rfl)
    · exact leaves_same R (F.eval x) (e2 rfl)
  · rename_i op t x y ty ho
    obtain ⟨r, e1, e2⟩ := hBin_run (P := P) (E t) x y (F.eval x) (F.eval y) H
    refine wp_value (v := r) (w' := w) ?_ (hn _ _ (leaves_same R (x := .s (.pl r)) rfl e2))
    have e1 := e1 w
    simp only [execOp, ho, Sem.run_bind] at e1 ⊢
    rw [e1]
    rfl
  · rename_i op t x ho
    obtain ⟨r, e1, e2⟩ := hUn_run (P := P) (F.eval x) H
    exact wp_value (v := r) (w' := w) (by simp [execOp, ho, e1 w]) (hn _ _ (leaves_same R (x := .s (.pl r)) rfl e2))
  · rename_i t x i ho
    split at H
    · rename_i zs hz
      obtain ⟨r, y, e1, e2, e3⟩ := hIdxW_run (P := P) (t := t) (hz ▸ E t) (F.eval x) (F.eval i) H
      exact wp_value (v := r) (w' := w) (by simp [execOp, ho, e1 w]) (hn _ _ (leaves_same R e2 e3))
    · rename_i n z hz
      obtain ⟨r, y, e1, e2, e3⟩ := hIdxA_run (P := P) (t := t) (hz ▸ E t) (F.eval x) (F.eval i) H
      exact wp_value (v := r) (w' := w) (by simp [execOp, ho, e1 w]) (hn _ _ (leaves_same R e2 e3))
    · obtain ⟨r, y, e1, e2, e3⟩ := hIdx_run (P := P) (E t) H.1 (F.eval x) (F.eval i) H.2
      exact wp_value (v := r) (w' := w) (by simp [execOp, ho, e1 w]) (hn _ _ (leaves_same R e2 e3))
  · rename_i t p ho
    split at H
    · rename_i zs hz
      obtain ⟨ha, i, hi, hs⟩ := agg_rcd (P := P) (t := t) (hz ▸ E t)
      obtain ⟨r, y, e1, e2, e3⟩ := hLoadA_run (dm := dm) (P := P) R ha hi hs (F.eval p) H
      exact wp_value (v := r) (w' := w) (by simp [execOp, ho, e1 w (Lat.refl (dm := dm) _ w)]) (hn _ _ (leaves_same R e2 e3))
    · rename_i m z hz
      obtain ⟨ha, i, hi, hs⟩ := agg_arr (P := P) (t := t) (hz ▸ E t)
      obtain ⟨r, y, e1, e2, e3⟩ := hLoadA_run (dm := dm) (P := P) R ha hi hs (F.eval p) H
      exact wp_value (v := r) (w' := w) (by simp [execOp, ho, e1 w (Lat.refl (dm := dm) _ w)]) (hn _ _ (leaves_same R e2 e3))
    · obtain ⟨r, y, e1, e2, e3⟩ := hLoad_run (dm := dm) (P := P) R (Kd.ok_one (E t) H.1) (F.eval p) H.2
      exact wp_value (v := r) (w' := w) (by simp [execOp, ho, e1 w (Lat.refl (dm := dm) _ w)]) (hn _ _ (leaves_same R e2 e3))
  · rename_i t ho
    split at H
    · rename_i so hz
      obtain ⟨w', r, e1, e2⟩ := hMakeMap_run (P := P) R t so H
      exact wp_value (v := r) (w' := w') (by simp [execOp, ho, e1]) (hn _ _ e2)
    · exact H.elim
  · rename_i t x i ho
    split at H
    · rename_i so hz
      obtain ⟨r, e1, e2⟩ := hLook_run (dm := dm) (P := P) R (t := t) (hz ▸ E t) (F.eval x) (F.eval i) H
      exact wp_value (v := r) (w' := w) (by simp [execOp, ho, e1 w (Lat.refl (dm := dm) _ w)]) (hn _ _ (leaves_same R (x := .s (.pl r)) rfl e2))
    · exact H.elim
  · rename_i t m k v ho
    split at H
    · rename_i so hz
      obtain ⟨w', e1, e2⟩ := hSet_run (P := P) R (t := t) (hz ▸ E t) (F.eval m) (F.eval k) (F.eval v) H
      exact wp_skips (w' := w') (by simp [execOp, ho, e1]) (hn _ _ e2)
    · exact H.elim
  · rename_i t m k v ho
    split at H
    · rename_i so hz
      obtain ⟨w', e1, e2⟩ := hSet_run (P := P) R (t := t) (hz ▸ E t) (F.eval m) (F.eval k) (F.eval v) H
      exact wp_skips (w' := w') (by simp [execOp, ho, e1]) (hn _ _ e2)
    · exact H.elim
  · rename_i t p v ho
    split at H
    · rename_i zs hz
      obtain ⟨_, i, hi, hs⟩ := agg_rcd (P := P) (t := t) (hz ▸ E t)
      obtain ⟨w', e1, e2⟩ := hStoreA_run (P := P) R hi hs (F.eval p) (F.eval v) H
      exact wp_skips (w' := w') (by simp [execOp, ho, e1]) (hn _ _ e2)
    · rename_i m z hz
      obtain ⟨_, i, hi, hs⟩ := agg_arr (P := P) (t := t) (hz ▸ E t)
      obtain ⟨w', e1, e2⟩ := hStoreA_run (P := P) R hi hs (F.eval p) (F.eval v) H
      exact wp_skips (w' := w') (by simp [execOp, ho, e1]) (hn _ _ e2)
    · obtain ⟨w', e1, e2⟩ := hStore_run (P := P) R (Kd.ok_one (E t) H.1) (F.eval p) (F.eval v) H.2
      exact wp_skips (w' := w') (by simp [execOp, ho, e1]) (hn _ _ e2)
  · rename_i t ho
    split at H
    · rename_i m z hz
      obtain ⟨w', r, e1, e2⟩ := hNewP_run (P := P) R (t := t) (hz ▸ E t) H
      exact wp_value (v := r) (w' := w') (by simp [execOp, ho, e1]) (hn _ _ e2)
    · split at H
      · rename_i zs hz
        obtain ⟨i, z, hi, hzz, hc⟩ := zeros_ok (E t) hz
        obtain ⟨w', r, e1, e2⟩ := hNew_run (P := P) R hi hzz hc H
        exact wp_value (v := r) (w' := w') (by simp [execOp, ho, e1]) (hn _ _ e2)
      · exact H.elim
  · rename_i t x lo hi ho
    split at H
    · rename_i m z hz
      by_cases hm : m ≤ 4096
      · obtain ⟨r, y, e1, e2, e3⟩ := hSliceA_run (P := P) hm (t := t) (hz ▸ E t) (F.eval x) (optEval F lo) (optEval F hi) H
        exact wp_value (v := r) (w' := w) (by simp [execOp, ho, e1 w]) (hn _ _ (leaves_same R e2 e3))
      · exact absurd H.small hm
    · rename_i hz
      obtain ⟨r, e1, e2⟩ := hSub_run (P := P) (t := t) (hz ▸ E t) (F.eval x) (optEval F lo) (optEval F hi) H
      exact wp_value (v := r) (w' := w) (by simp [execOp, ho, e1 w]) (hn _ _ (leaves_same R (x := .s (.pl r)) rfl e2))
    · obtain ⟨r, y, e1, e2, e3⟩ := hSlice_run (P := P) R (E t) H.1 (F.eval x) (optEval F lo) (optEval F hi) H.2
      exact wp_value (v := r) (w' := w) (by simp [execOp, ho, e1 w]) (hn _ _ (leaves_same R e2 e3))
  · rename_i t x lo hi mx ho
    obtain ⟨r, e1, e2⟩ := hSlice3_run (P := P) (E t) H.1 (F.eval x) (F.eval lo) (F.eval hi) (F.eval mx) H.2
    exact wp_value (v := r) (w' := w) (by simp [execOp, ho, e1 w]) (hn _ _ (leaves_same R (x := .dead) trivial e2))
  · rename_i t l c ho
    split at H
    · rename_i z hz
      obtain ⟨w', r, e1, _, e2⟩ := hMake_run (P := P) R (t := t) (hz ▸ E t) (F.eval l) (F.eval c) H
      exact wp_value (v := r) (w' := w') (by simp [execOp, ho, e1]) (hn _ _ e2)
    · exact H.elim
  · rename_i t len parts ho
    split at H
    · rename_i z hz
      obtain ⟨w', r, e1, _, e2⟩ := hLit_run (P := P) R F (t := t) (hz ▸ E t) H
      exact wp_value (v := r) (w' := w') (by simp only [execOp, ho, Sem.run_bind, e1, Result.andThen_ok, Sem.run_pure]) (hn _ _ e2)
    · rename_i zs hz
      obtain ⟨w', r, e1, _, e2⟩ := hLitW_run (P := P) R F (t := t) (hz ▸ E t) H.small H
      exact wp_value (v := r) (w' := w') (by simp only [execOp, ho, Sem.run_bind, e1, Result.andThen_ok, Sem.run_pure]) (hn _ _ e2)
    · exact H.elim
  · rename_i t x ho
    split at H
    · rename_i xs hx
      have rx := F.eval x
      rw [hx] at rx
      split at H
      · obtain ⟨w', r, e1, e2⟩ := hBoxP_run (P := P) R t rx H
        exact wp_value (v := r) (w' := w') (by simp [execOp, ho, e1]) (hn _ _ e2)
      · obtain ⟨w', r, e1, e2⟩ := hBoxA_run (P := P) R t rx H
        exact wp_value (v := r) (w' := w') (by simp [execOp, ho, e1]) (hn _ _ e2)
    · obtain ⟨w', r, e1, e2⟩ := hBox_run (P := P) R t (F.eval x) H.2
      exact wp_value (v := r) (w' := w') (by simp [execOp, ho, e1]) (hn _ _ e2)
  · rename_i t parts ho
    split at H
    · rename_i zs hz
      obtain ⟨r, y, e1, e2, e3⟩ := hRec_run (P := P) F (t := t) (hz ▸ E t) H
      exact wp_value (v := r) (w' := w) (by simp only [execOp, ho, Sem.run_bind, e1 w, Result.andThen_ok, Sem.run_pure]) (hn _ _ (leaves_same R e2 e3))
    · rename_i m z hz
      obtain ⟨r, y, e1, e2, e3⟩ := hArr_run (P := P) F (t := t) (hz ▸ E t) H
      exact wp_value (v := r) (w' := w) (by simp only [execOp, ho, Sem.run_bind, e1 w, Result.andThen_ok, Sem.run_pure]) (hn _ _ (leaves_same R e2 e3))
    · exact H.elim
  · rename_i s x f ho
    split at H
    · rename_i zs hz
      obtain ⟨r, y, e1, e2, e3⟩ := hField_run (P := P) (t := s) (hz ▸ E s) (F.eval x) H
      exact wp_value (v := r) (w' := w) (by simp [execOp, ho, e1 w]) (hn _ _ (leaves_same R e2 e3))
    · exact H.elim
  · rename_i s x f ho
    split at H
    · rename_i zs hz
      obtain ⟨r, y, e1, e2, e3⟩ := hPart_run (P := P) (t := s) (hz ▸ E s) (F.eval x) H
      exact wp_value (v := r) (w' := w) (by simp [execOp, ho, e1 w]) (hn _ _ (leaves_same R e2 e3))
    · exact H.elim
  · rename_i x ho
    obtain ⟨e1, e2⟩ := hCheck_run ho (F.eval x) H
    exact wp_value (v := a.eval x) (w' := w) (e1 P w) (hn _ _ (leaves_same R (F.eval x) e2))
  · rename_i s t x ho
    split at H
    · rename_i k hk
      split at H
      · rename_i k' hk'
        obtain ⟨r, e1, e2⟩ := hConv_run (P := P) (hk' ▸ E s) (hk ▸ E t) (F.eval x) H
        exact wp_value (v := r) (w' := w) (by simp [execOp, ho, e1 w]) (hn _ _ (leaves_same R (x := .s (.pl r)) rfl e2))
      · exact H.elim
    · obtain ⟨r, e1, e2⟩ := hText_run (P := P) R (F.eval x) H
      exact wp_value (v := r) (w' := w) (by simp [execOp, ho, e1]) (hn _ _ (leaves_same R (x := .s (.pl r)) rfl e2))
    · exact H.elim
  · rename_i t x i ho
    split at H
    · rename_i hk
      obtain ⟨r, e1, e2⟩ := hByte_run (P := P) (hk ▸ E t) (F.eval x) (F.eval i) H
      exact wp_value (v := r) (w' := w) (by simp [execOp, ho, e1 w]) (hn _ _ (leaves_same R (x := .s (.pl r)) rfl e2))
    · rename_i m z hk
      obtain ⟨r, y, e1, e2, e3⟩ := hAt_run (P := P) (t := t) (hk ▸ E t) (F.eval x) (F.eval i) H
      exact wp_value (v := r) (w' := w) (by simp [execOp, ho, e1 w]) (hn _ _ (leaves_same R e2 e3))
    · exact H.elim
  · rename_i x i ho
    split at H
    · rename_i xs hx
      split at H
      · rename_i c hc
        have r := F.eval x
        rw [hx] at r
        obtain ⟨vs, ev, r⟩ := r
        obtain ⟨v, e1, e2⟩ := r.get i c hc
        exact wp_value (v := v) (w' := w) (by
          have : vs[i]? = some v := by simpa using e1
          simp [execOp, ho, ev, Instr.extract, this]) (hn _ _ (leaves_same R (x := .s c) e2 H))
      · exact H.elim
    · exact H.elim
  · rename_i f first caps ho
    split at H
    · rename_i cs h1 h2
      have r : repL φ cs (caps.map a.eval).toList := by
        rw [Array.toList_map]
        exact atoms_rep h2 (evals F _)
      have hf : first = #[] := by simpa using h1
      subst hf
      exact wp_value (v := .func (.func f) #[] (caps.map a.eval)) (w' := w) (by simp [execOp, ho, Instr.makeFunc]) (hn _ _ (leaves_same R (x := .fn f cs) ⟨_, rfl, r⟩ H))
    · exact H.elim
  · rename_i c ho
    exact hCall_sound E ho R F H hn
  · exact H.elim

theorem guard_rep {φ : Plan} {fr : Fr} {a : Act} (F : FrRep φ n fr a) (ops : Array Oper) (o : Oper) (j : Nat) (wt : Bool) (hg : o.guard = some (j, wt)) {A C : Prop} (H : hGuard (guardOf ops.toList fr j) wt A C) :
    (Region.wanted o (yielded ops a.tmps) = true ∧ A) ∨ (Region.wanted o (yielded ops a.tmps) = false ∧ C) := by
  unfold guardOf at H
  split at H
  · rename_i oj ho
    have hj : ops[j]? = some oj := by simpa using ho
    split at H
    · rename_i d hd
      by_cases h : d < n
      · have r := F.has d h
        have hs : d < a.tmps.size := by rw [F.size]; exact h
        have hget : a.tmps[d]? = some (a.tmps.getD d undef) := by
          simp only [Array.getD_eq_getD_getElem?, Array.getElem?_eq_getElem hs, Option.getD_some]
        generalize a.tmps.getD d undef = v at r hget
        unfold hGuard at H
        split at H
        · rename_i b heq
          rw [heq] at r
          have hv := rep0_pl r
          subst hv
          have hy : yielded ops a.tmps j = some b := by simp [yielded, hj, hd, hget]
          cases wt <;> cases b <;> simp only at H
          · exact Or.inl ⟨by simp [Region.wanted, hg, hy], H.out.2 rfl⟩
          · exact Or.inr ⟨by simp [Region.wanted, hg, hy], H.out.1 rfl⟩
          · exact Or.inr ⟨by simp [Region.wanted, hg, hy], H.out.2 rfl⟩
          · exact Or.inl ⟨by simp [Region.wanted, hg, hy], H.out.1 rfl⟩
        · rename_i heq
          rw [heq] at r
          obtain ⟨vs, rfl, _⟩ := r
          exact Or.inr ⟨by simp [Region.wanted, hg, yielded, hj, hd, hget], H⟩
        · exact H.elim
      · rw [F.out d (Nat.le_of_not_lt h)] at H
        exact H.elim
    · exact H.elim
  · exact H.elim

theorem outside {o : Oper} {rest : List Oper} {fr fr' fr2 : Fr} (h1 : ∀ t, o.dst ≠ some t → fr' t = fr t) (h2 : ∀ t, t ∉ rest.filterMap (·.dst) → fr2 t = fr' t) : ∀ t, t ∉ (o :: rest).filterMap (·.dst) → fr2 t = fr t := by
  intro t ht
  rw [List.filterMap_cons] at ht
  cases hd : o.dst with
  | none =>
    rw [hd] at ht
    exact (h2 t ht).trans (h1 t (by rw [hd]; simp))
  | some d =>
    rw [hd] at ht
    simp only [List.mem_cons, not_or] at ht
    exact (h2 t ht.2).trans (h1 t (by rw [hd]; simp; exact fun e => ht.1 e.symm))

theorem hOps_sound (E : ∀ t, (kd t).ok P t) (ops : Array Oper) : ∀ (l : List Oper) {Qh : Fr → Heap → Prop} {fr : Fr} {a : Act} {h : Heap} {φ : Plan} {w : World} {B0 : Nat}, Rep B0 φ h w → FrRep φ n fr a → hOps dm P kd n ops.toList l Qh fr h →
    ∀ {Q : Exit → Act → World → Prop}, (∀ fr' a' h' φ' w', Qh fr' h' → Sub φ φ' → Rep B0 φ' h' w' → FrRep φ' n fr' a' → Lat dm B0 w w' → (∀ t, t ∉ l.filterMap (·.dst) → fr' t = fr t) → Q .normal a' w') → wpList P ops Q l a w
  | [], Qh, fr, a, h, φ, w, B0, R, F, H, Q, hQ => wpList_nil (hQ fr a h φ w H (Sub.refl φ) R F (Lat.refl B0 w) (fun _ _ => rfl))
  | o :: rest, Qh, fr, a, h, φ, w, B0, R, F, H, Q, hQ => by
    have go : ∀ (K : Act → World → Prop), (∀ a w, wpList P ops Q rest a w → K a w) → hOp dm P kd o.op (hEval fr) h (fun v h' => put n fr o.dst v fun fr' => hOps dm P kd n ops.toList rest Qh fr' h') → o.wp P a w K Q := by
      intro K hK H1
      refine hOp_sound E R F H1 (fun v w' ⟨x, h', φ', g1, g2, g3, g4, g5⟩ => hK _ _ ?_)
      obtain ⟨fr', k1, k2, k3⟩ := put_elim g1
      exact hOps_sound E ops rest g3 (k2 φ' a v (F.mono g2) g4) k1 (fun fr2 a2 h2 φ2 w2 q s r f b u => hQ fr2 a2 h2 φ2 w2 q (g2.trans s) r f (g5.trans b) (outside k3 u))
    have skip : ∀ (K : Act → World → Prop), (∀ a w, wpList P ops Q rest a w → K a w) → (put n fr o.dst (.tup []) fun fr' => hOps dm P kd n ops.toList rest Qh fr' h) → K (a.put o.dst undef) w := by
      intro K hK H1
      obtain ⟨fr', k1, k2, k3⟩ := put_elim H1
      exact hK _ _ (hOps_sound E ops rest R (k2 φ a undef F ⟨#[], rfl, trivial⟩) k1 (fun fr2 a2 h2 φ2 w2 q s r f b u => hQ fr2 a2 h2 φ2 w2 q s r f b (outside k3 u)))
    refine wpList_step fun K hK => ?_
    rw [hOps_cons] at H
    split at H
    · rename_i hg
      simp only [Region.wanted, hg, if_true]
      exact go K hK H
    · rename_i j wt hg
      rcases guard_rep F ops o j wt hg H with ⟨hw, H⟩ | ⟨hw, H⟩
      · rw [hw]
        exact go K hK H
      · rw [hw]
        exact skip K hK H

end
end Go.Proofs.Ytecfgbjddkpkcaa.Hx
