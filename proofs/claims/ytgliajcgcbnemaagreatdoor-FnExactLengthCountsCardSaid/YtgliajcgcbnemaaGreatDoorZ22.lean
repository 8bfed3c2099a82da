/-
  Contracts of InversionsOf and CommonInversions, of the program (slices.SortFunc) and of the reference (insertions).
  Functions whose one result is an array in a cell of its own.
  Lists of places as keys in the program's memory; the order of words of the program; sorted words.
  slices.SortFunc over a slice of elements of several cells, for the calculus of rows.
  DERIVED: THE SHELF's CONTRACTS AT THIS DUMP, IN PLAIN WORDS (tools/lay-plain.mjs out of 'YtgliajcgcbnemaaGreatDoorSp.lean', which tools/lay-shelf.mjs wrote): THE SAME DECLARATIONS UNDER THE SAME NAMES: 'import', 'namespace', 'open', 'def', 'theorem' AND NOTHING ELSE: no command of the shelf's: FOR A HAND-IN. Each laying: the table of numbers ('.._ren') and one theorem, a field a fact of the dump's own or the kernel's comparison; each contract: ONE APPLICATION.
  The roots up to a height as the program collects them.
  All elements of a small finite group, of the program: shell by shell.
-/
import Derived.Test.YtgliajcgcbnemaaGreatDoorZ21
import Derived.Shelf.SlSortCmp.NoneTotal
import Derived.Shelf.SlGeneric
import Derived.Ground.SlsfProg
import Derived.Test.YtgliajcgcbnemaaGreatDoorProg
namespace Go.Proofs.YtgliajcgcbnemaaGreatDoor.Hx
open Go.RowKit
variable {dm : Bool}

def inversions (c : List (List Int)) (w : List Int) : List (List Int) := if isWord c w then insR (rootsTo c (normF c w) (normF c w).length) else []

/-- How many of the first are in the second. -/
def commonTo (X Y : List (List Int)) (k : Nat) : Nat := ((X.take k).filter fun x => decide (x ∈ Y)).length
def common (c : List (List Int)) (a b : List Int) : Int := (commonTo (inversions c a) (inversions c b) (inversions c a).length : Nat)
end Go.Proofs.YtgliajcgcbnemaaGreatDoor.Hx

namespace Go.Proofs.YtgliajcgcbnemaaGreatDoor.Hx
open Go.RowKit
section
variable {dm : Bool} {P : Program} {kd : TypeId → Kd} {n m : Nat}

def hFunC (dm : Bool) (P : Program) (kd : TypeId → Kd) (n m : Nat) (t : Tmp) (nn : Nat) (c : Code) (args : List HV) (h : Heap) (R : HV → Heap → Prop) : Prop :=
  hwp dm P kd n m c (fun e fr h' => match e with
    | .exit _ => False
    | _ => HLoadA nn h' (fr t) fun x => R x h') (frameOf args) h

theorem calls_of_hFunC (E : ∀ t, (kd t).ok P t) (hm : P.follows .mixedOrders = true) {k : FuncId} {fn : Func} {c : Code} (hf : P.funcs[k]? = some fn) (hb : fn.body = some c) (hname : (fn.name == "runtime.NumGoroutine") = false)
    (hn : fn.ntmps = n) {t : Tmp} {ty : TypeId} {nn : Nat} {z : Value} (hr : fn.results = #[.cell t ty]) (hk : kd ty = .arr nn z) {args : List HV} (hargs : args.length ≤ n) {h : Heap} {R : HV → Heap → Prop} (H : hFunC dm P kd n m t nn c args h R) : HCalls dm P k args h R := by
  refine ⟨fun as1 w => ?_, fun B0 φ w vargs r ha => ?_⟩
  · have hbn : fn.body.isNone = false := by simp [hb]
    simp only [callFunc, Sem.run_bind, run_program, Result.andThen_ok, hf, hname, hbn, Bool.false_eq_true, if_false, Sem.run_pure]
  · have hlen := ha.length
    have hvl : vargs.size = args.length := by simpa using hlen.symm
    refine calls_of_wp hf hb (hwp_sound (n := n) (m := m) E hm c r (φ := φ) (fr := frameOf args) ?_ H (fun e fr' a' h' φ' w' q s r' f b u => ?_))
    · refine ⟨by simp [hn, hvl]; omega, fun t ht => ?_, fun t ht => ?_, rfl⟩
      · rw [frameOf_get]
        by_cases htl : t < args.length
        · obtain ⟨v, e1, e2⟩ := ha.get t args[t] (List.getElem?_eq_getElem htl)
          have hv : vargs[t]? = some v := by simpa using e1
          have : (vargs ++ Array.replicate (fn.ntmps - vargs.size) undef).getD t undef = v := by
            rw [Array.getD_eq_getD_getElem?, Array.getElem?_append_left (by omega), hv]
            rfl
          show repV φ _ _
          rw [this]
          have h2 : args.getD t .dead = args[t] := by simp [List.getD, htl]
          rw [h2]
          exact e2
        · have h2 : args.getD t .dead = .dead := by simp [List.getD, Nat.le_of_not_lt htl]
          rw [h2]
          trivial
      · rw [frameOf_get]
        simp [List.getD, show args.length ≤ t by omega]
    · have fin : ∀ (hh : HLoadA nn h' (fr' t) fun x => R x h'), a'.defers = [] ∧ ∃ v, (results fn a'.tmps).run P w' = .ok v w' ∧ ∃ v' x h'' φ'', Ending.returned v = .returned v' ∧ R x h'' ∧ Sub φ φ'' ∧ Rep B0 φ'' h'' w' ∧ repV φ'' x v' ∧ Lat dm B0 w w' := by
        intro hh
        obtain ⟨hg, i, hi, hs⟩ := agg_arr (P := P) (t := ty) (hk ▸ E ty)
        have get : repV φ' (fr' t) (a'.tmps.getD t undef) := f.eval (.tmp t)
        obtain ⟨v, x, e1, e2, e3⟩ := hLoadA_run (dm := dm) (P := P) r' hg hi hs get hh
        have e4 := e1 w' (Lat.refl (dm := dm) _ w')
        refine ⟨f.defers, v, ?_, v, x, h', φ', rfl, e3, s, r', e2, b⟩
        have hv : ∃ ad, a'.tmps[t]?.getD undef = .pointer (some ad) := by
          have hd : a'.tmps.getD t undef = a'.tmps[t]?.getD undef := by simp
          rw [← hd]
          obtain ⟨rr, oo, _, _, hp, _⟩ := hh.out
          rcases hp with e | ⟨⟨mm, e⟩, _⟩
          · rw [e] at get
            obtain ⟨p, _, g⟩ := get
            exact ⟨_, g⟩
          · rw [e] at get
            obtain ⟨p, _, g, _⟩ := get
            exact ⟨_, g⟩
        obtain ⟨ad, had⟩ := hv
        have had' : a'.tmps.getD t undef = .pointer (some ad) := by rw [← had]; simp
        rw [had'] at e4
        have e5 : (loadVar ty ad).run P w' = .ok v w' := by simpa [Instr.loadAt, Instr.sureAddr] using e4
        simp [results, hr, had, asAddr, e5]
      cases e with
      | normal => exact fin q
      | ret => exact fin q
      | exit j => exact q.elim

end
end Go.Proofs.YtgliajcgcbnemaaGreatDoor.Hx

namespace Go.Proofs.YtgliajcgcbnemaaGreatDoor.Hx
open Go.RowKit
variable {dm : Bool}

def vecs (S : List (List Int)) : List H0 := S.flatMap key4
theorem vecs_one (v : List Int) : vecs [v] = key4 v := by simp [vecs]
theorem vecs_snoc (S : List (List Int)) (v : List Int) : vecs (S ++ [v]) = vecs S ++ key4 v := by simp [vecs, List.flatMap_append]
theorem vecs_len : ∀ {S : List (List Int)}, (∀ v ∈ S, v.length ≤ 4) → (vecs S).length = 4 * S.length
  | [], _ => rfl
  | a :: t, h => by
    have h1 := vecs_len (S := t) fun v hv => h v (List.mem_cons_of_mem _ hv)
    have h2 := key4_length (h a (by simp))
    have e : vecs (a :: t) = key4 a ++ vecs t := rfl
    rw [e, List.length_append, h1, h2, List.length_cons]
    omega
theorem vecs_at : ∀ {S : List (List Int)} {k : Nat}, (∀ v ∈ S, v.length ≤ 4) → k < S.length → ((vecs S).drop (4 * k)).take 4 = key4 (S.getD k [])
  | a :: t, 0, h, _ => by
    have h2 := key4_length (h a (by simp))
    have e : vecs (a :: t) = key4 a ++ vecs t := rfl
    rw [e, Nat.mul_zero, List.drop_zero, List.take_append_of_le_length (by omega), List.take_of_length_le (by omega)]
    rfl
  | a :: t, k + 1, h, hk => by
    have h2 := key4_length (h a (by simp))
    have e : vecs (a :: t) = key4 a ++ vecs t := rfl
    have e2 : 4 * (k + 1) = (key4 a).length + 4 * k := by omega
    rw [e, e2, List.drop_append, List.drop_of_length_le (by omega), List.nil_append, Nat.add_sub_cancel_left, vecs_at (fun v hv => h v (List.mem_cons_of_mem _ hv)) (by simpa using hk)]
    simp
theorem key4_one (l : List Int) : ∀ c ∈ key4 l, c.one = true := by
  intro c hc
  unfold key4 at hc
  rcases List.mem_append.1 hc with hc | hc
  · obtain ⟨v, _, rfl⟩ := List.mem_map.1 hc
    rfl
  · rw [(List.mem_replicate.1 hc).2]
    rfl
theorem key4_get {l : List Int} {i : Nat} (hi : i < l.length) : (key4 l)[i]? = some (ci (l.getD i 0)) := by
  unfold key4
  rw [List.getElem?_append_left (by simpa using hi)]
  simp [List.getD, hi]
theorem key4_take (l : List Int) : ((key4 l).drop 0).take l.length = l.map ci := by
  unfold key4
  rw [List.drop_zero, List.take_append_of_le_length (by simp), List.take_of_length_le (by simp)]

/-! ### The order of words -/

theorem cmpW_swo : Go.Sort.SWO (ltOf cmpW) := ⟨fun x => by
    have := cmpW_self x
    simp only [ltOf, decide_eq_false_iff_not]
    omega, fun x y z h k => by
    simp only [ltOf, decide_eq_true_eq] at *
    exact cmpW_trans h k, fun x y z h k => by
    simp only [ltOf, decide_eq_false_iff_not] at *
    intro hl
    by_cases e : cmpW x y = 0
    · have := cmpW_eq e
      subst this
      exact k hl
    · have h1 : cmpW y x < 0 := by rw [cmpW_neg]; omega
      exact k (cmpW_trans h1 hl)⟩
theorem cmpW_or (a b : List Int) : orOf [cmp1 (a.length : Int) (b.length : Int), lexC a b] = cmpW a b := by
  unfold cmp1 cmpW
  by_cases h1 : a.length < b.length
  · have h1' : (a.length : Int) < b.length := by omega
    simp [orOf, h1, h1']
  · have h1' : ¬ (a.length : Int) < b.length := by omega
    by_cases h2 : b.length < a.length
    · have h2' : (b.length : Int) < a.length := by omega
      simp [orOf, h1, h2, h1', h2']
    · have h2' : ¬ (b.length : Int) < a.length := by omega
      simp only [if_neg h1, if_neg h2, if_neg h1', if_neg h2', orOf, if_true]
      by_cases h3 : lexC a b = 0
      · simp [h3]
      · simp [h3]

theorem sorted_ins {L : List (List Int)} (hn : L.Nodup) {σ : List Nat} (hp : σ.Perm (List.range L.length)) (hs : σ.Pairwise (fun i j => ¬ cmpW (L.getD j []) (L.getD i []) < 0)) : σ.map (fun i => L.getD i []) = insW L := by
  obtain ⟨k1, k2, k3⟩ := insW_facts L
  have hlt : ∀ i, i ∈ σ → i < L.length := fun i hi => by simpa using hp.mem_iff.1 hi
  have hnd : σ.Nodup := hp.nodup_iff.2 List.nodup_range
  refine sortedW_one ?_ k1 fun w => ?_
  · unfold SortedW
    rw [List.pairwise_map]
    refine List.Pairwise.imp_of_mem ?_ (hs.and hnd)
    rintro i j hi hj ⟨h1, h2⟩
    have hi := hlt i hi
    have hj := hlt j hj
    by_cases e : cmpW (L.getD i []) (L.getD j []) = 0
    · have e2 := cmpW_eq e
      have ei : L.getD i [] = L[i] := by simp [List.getD, hi]
      have ej : L.getD j [] = L[j] := by simp [List.getD, hj]
      rw [ei, ej] at e2
      unfold List.Nodup at hn
      rw [List.pairwise_iff_getElem] at hn
      rcases Nat.lt_or_gt_of_ne h2 with g | g
      · exact absurd e2 (hn i j hi hj g)
      · exact absurd e2.symm (hn j i hj hi g)
    · rw [cmpW_neg] at h1
      omega
  · rw [k2]
    constructor
    · intro h
      obtain ⟨i, hi, rfl⟩ := List.mem_map.1 h
      exact getD_mem (hlt i hi)
    · intro h
      obtain ⟨i, hi, e⟩ := List.getElem_of_mem h
      exact List.mem_map.2 ⟨i, hp.mem_iff.2 (List.mem_range.2 hi), by simp [List.getD, hi, e]⟩

/-- The sorted matrix is in rows of its own again. -/
theorem sorted_matW {h : Heap} {r : Nat} {ρ : Nat → Nat} {L T : List (List Int)} (m : MatAt h r ρ L) {cs : List H0} (hcs : ∀ i, i < L.length → cs[i]? = some (.sl (ρ i) 0 (L.getD i []).length))
    {σ : List Nat} (hp : σ.Perm (List.range L.length)) (hins : σ.map (fun i => L.getD i []) = T) : ∃ ρ', MatAt (h.set r (.own (sortedRow cs 0 L.length σ))) r ρ' T ∧ T.length = L.length ∧ ∀ i, i < L.length → ∃ j, j < L.length ∧ ρ' i = ρ j := by
  have hσl : σ.length = L.length := by simpa using hp.length_eq
  have hlt : ∀ i, i < L.length → σ.getD i 0 < L.length := fun i hi => by
    have : σ.getD i 0 ∈ σ := by
      rw [List.getD, List.getElem?_eq_getElem (by omega)]
      simp
    simpa using hp.mem_iff.1 this
  have hget : ∀ i, i < L.length → T.getD i [] = L.getD (σ.getD i 0) [] := fun i hi => by
    rw [← hins]
    simp [List.getD, show i < σ.length by omega]
  have hil : T.length = L.length := by rw [← hins, List.length_map, hσl]
  have hrl := (m.lt).1
  refine ⟨fun i => ρ (σ.getD i 0), ⟨⟨_, List.getElem?_set_self hrl, ?_, fun i hi => ?_⟩, fun i hi => ?_, fun i hi => ?_, fun i j hij hj => ?_⟩, hil, fun i hi => ⟨_, hlt i hi, rfl⟩⟩
  · simp [sortedRow, hσl, hil]
  · have hi' : i < L.length := by omega
    have h1 := hlt i hi'
    rw [hget i hi']
    simp only [sortedRow, List.take_zero, List.nil_append]
    rw [List.getElem?_append_left (by simp; omega), List.getElem?_map, List.getElem?_eq_getElem (show i < σ.length by omega)]
    have e : σ.getD i 0 = σ[i] := by simp [List.getD, show i < σ.length by omega]
    rw [e] at h1 ⊢
    simp only [Option.map_some, Nat.zero_add, Option.some.injEq]
    rw [List.getD, hcs _ h1]
    rfl
  · have hi' : i < L.length := by omega
    have h1 := hlt i hi'
    obtain ⟨t, ht⟩ := m.inner _ h1
    refine ⟨t, ?_⟩
    rw [hget i hi', List.getElem?_set_ne (Ne.symm (m.ne _ h1))]
    exact ht
  · exact m.ne _ (hlt i (by omega))
  · have hi' : i < L.length := by omega
    have hj' : j < L.length := by omega
    have hnd : σ.Nodup := hp.nodup_iff.2 List.nodup_range
    have hne : σ.getD i 0 ≠ σ.getD j 0 := by
      intro e
      rw [List.getD, List.getD, List.getElem?_eq_getElem (by omega), List.getElem?_eq_getElem (by omega)] at e
      exact List.pairwise_iff_getElem.1 hnd i j (by omega) (by omega) hij (by simpa using e)
    rcases Nat.lt_or_gt_of_ne hne with h | h
    · exact m.inj _ _ h (hlt j hj')
    · exact fun e => m.inj _ _ h (hlt i hi') e.symm

/-- Rows that are there, appended to a slice of slices. -/
theorem HApp.joinM {hb h : Heap} {e b2 : Nat} {z w : H0} {L T : List (List Int)} {K : HV → Heap → Prop} (E : Ext hb h) (M : OwnM hb.length e h z L) (W : OwnM b2 h.length h w T) (hd : e ≤ b2) (hb2 : hb.length ≤ b2) (hl : L.length + T.length < 2199023255552)
    (hK : ∀ h' z', Ext hb h' → (∀ p, p < h.length → ¬ (hb.length ≤ p ∧ p < e) → h'[p]? = h[p]?) → h.length ≤ h'.length → OwnM hb.length h'.length h' z' (L ++ T) → K (.s z') h') : HApp h (.s z) (.s w) K := by
  obtain ⟨r, ρ, rfl, hr1, hr2, hρ, m⟩ := M
  obtain ⟨q, τ, rfl, hq1, hq2, hτ, mt⟩ := W
  obtain ⟨cs, ho, hcl, hoc⟩ := m.outer
  obtain ⟨ds, hto, htl, htc⟩ := mt.outer
  have hlE := E.1
  have hs := Shows.own q 0 T.length ds hto (by omega)
  have new_at : ∀ i, i < T.length → ((ds.drop 0).take T.length)[i]? = some (.sl (τ i) 0 (T.getD i []).length) := fun i hi => by
    rw [List.drop_zero, List.getElem?_take_of_lt hi, htc i hi]
  have hnl : ((ds.drop 0).take T.length).length = T.length := by simp; omega
  generalize (ds.drop 0).take T.length = new at hs new_at hnl
  have hone : ∀ c ∈ new, c.one = true := fun c hc => by
    obtain ⟨i, hi, rfl⟩ := List.getElem_of_mem hc
    have := new_at i (by omega)
    rw [List.getElem?_eq_getElem hi] at this
    rw [Option.some.inj this]
    rfl
  refine ⟨new, hs, hone, cs, rfl, ho, hcl, Or.inl ⟨by omega, ?_⟩⟩
  have e1 : L.length + new.length = (L ++ T).length := by rw [List.length_append, hnl]
  rw [e1]
  have old : ∀ p, p < h.length → p ≠ r → (h.set r .gone ++ [Row.own (cs.take L.length ++ new)])[p]? = h[p]? := fun p hp hn => by
    rw [List.getElem?_append_left (by simpa using hp), List.getElem?_set_ne (Ne.symm hn)]
  have hlen : (h.set r .gone ++ [Row.own (cs.take L.length ++ new)]).length = h.length + 1 := by simp
  have gd1 : ∀ i, i < L.length → (L ++ T).getD i [] = L.getD i [] := fun i hi => by
    simp only [List.getD]
    rw [List.getElem?_append_left hi]
  have gd2 : ∀ i, L.length ≤ i → (L ++ T).getD i [] = T.getD (i - L.length) [] := fun i hi => by
    simp only [List.getD]
    rw [List.getElem?_append_right hi]
  have hρb : ∀ i, i < L.length → ρ i < h.length := m.lt.2
  have hτb : ∀ i, i < T.length → τ i < h.length := mt.lt.2
  refine hK _ _ ⟨by omega, fun p hp => by rw [old p (by omega) (by omega)]; exact E.2 p hp⟩ (fun p hp hn => old p hp fun e => hn (by omega)) (by omega) ⟨h.length, fun i => if i < L.length then ρ i else τ (i - L.length), rfl, by omega, by omega, fun i hi => ?_, ⟨cs.take L.length ++ new, ?_, ?_, fun i hi => ?_⟩, fun i hi => ?_, fun i hi => ?_, fun i j hij hj => ?_⟩
  · rw [List.length_append] at hi
    by_cases hi2 : i < L.length
    · have := hρ i hi2
      have := hρb i hi2
      simp only [hi2, if_true]
      omega
    · have := hτ (i - L.length) (by omega)
      have := hτb (i - L.length) (by omega)
      simp only [hi2, if_false]
      omega
  · have := get_new (h.set r .gone) (Row.own (cs.take L.length ++ new))
    rw [List.length_set] at this
    exact this
  · rw [List.length_append, List.length_append, List.length_take, hnl]
    omega
  · rw [List.length_append] at hi
    by_cases hi2 : i < L.length
    · rw [List.getElem?_append_left (by simp; omega), List.getElem?_take_of_lt hi2, hoc i hi2, gd1 i hi2]
      simp only [hi2, if_true]
    · rw [List.getElem?_append_right (by simp; omega), gd2 i (by omega)]
      have e2 : i - (cs.take L.length).length = i - L.length := by simp; omega
      rw [e2, new_at _ (by omega)]
      simp only [hi2, if_false]
  · rw [List.length_append] at hi
    by_cases hi2 : i < L.length
    · obtain ⟨t, ht⟩ := m.inner i hi2
      refine ⟨t, ?_⟩
      rw [gd1 i hi2, if_pos hi2, old _ (hρb i hi2) (m.ne i hi2)]
      exact ht
    · obtain ⟨t, ht⟩ := mt.inner (i - L.length) (by omega)
      have := hτ (i - L.length) (by omega)
      refine ⟨t, ?_⟩
      rw [gd2 i (by omega), if_neg hi2, old _ (hτb _ (by omega)) (by omega)]
      exact ht
  · rw [List.length_append] at hi
    by_cases hi2 : i < L.length
    · have := hρb i hi2
      simp only [hi2, if_true]
      omega
    · have := hτb (i - L.length) (by omega)
      simp only [hi2, if_false]
      omega
  · rw [List.length_append] at hj
    by_cases hi2 : i < L.length
    · by_cases hj2 : j < L.length
      · simp only [hi2, hj2, if_true]
        exact m.inj i j hij hj2
      · have h1 := hρ i hi2
        have h2 := hτ (j - L.length) (by omega)
        simp only [hi2, hj2, if_true, if_false]
        omega
    · have hj2 : ¬ j < L.length := by omega
      simp only [hi2, hj2, if_false]
      exact mt.inj _ _ (by omega) (by omega)

theorem HStoreA.new {n m : Nat} {zs xs : List H0} {h : Heap} {K : HV → Heap → Prop} (hz : zs.length = n) (hx : xs.length = n) (h1 : ∀ c ∈ xs, c.one = true) (hK : ∀ h' : Heap, Ext h h' → h'.length = h.length + 1 → h'[h.length]? = some (.own xs) → K .dead h') : HStoreA n (h ++ [.own zs]) (.s (.pa h.length m)) (.agg xs) K :=
  HStoreA.all (Or.inr ⟨m, rfl⟩) (get_new _ _) hz hx h1 (by rw [set_new]; exact hK _ (Ext.push _ _) (by simp) (get_new _ _))
theorem HLook.yes {so : Bool} {h : Heap} {r : Nat} {ks : List Key} {k : Key} {x : HV} {K : HV → Prop} (hr : h[r]? = some (.keys so ks)) (hk : keyAt x = some k) (hs : k.isStr = so) (hm : k ∈ ks) (hK : K (.s (.pl (.bool true)))) : HLook so h (.s (.mp r)) x K :=
  ⟨r, ks, k, rfl, hr, hk, hs, by rw [decide_eq_true hm]; exact hK⟩
theorem HLook.no {so : Bool} {h : Heap} {r : Nat} {ks : List Key} {k : Key} {x : HV} {K : HV → Prop} (hr : h[r]? = some (.keys so ks)) (hk : keyAt x = some k) (hs : k.isStr = so) (hm : k ∉ ks) (hK : K (.s (.pl (.bool false)))) : HLook so h (.s (.mp r)) x K :=
  ⟨r, ks, k, rfl, hr, hk, hs, by rw [decide_eq_false hm]; exact hK⟩
theorem HSet.new {so : Bool} {h : Heap} {r : Nat} {ks : List Key} {k : Key} {x : HV} {K : HV → Heap → Prop} (hr : h[r]? = some (.keys so ks)) (hk : keyAt x = some k) (hs : k.isStr = so) (hn : k ∉ ks)
    (hK : ∀ h' : Heap, h'.length = h.length → h'[r]? = some (.keys so (k :: ks)) → (∀ q, q ≠ r → h'[q]? = h[q]?) → K .dead h') : HSet so h (.s (.mp r)) x (.s (.pl (.bool true))) K :=
  ⟨r, ks, k, rfl, rfl, hr, hk, hs, hn, hK _ List.length_set (List.getElem?_set_self (get_lt hr)) fun q hq => List.getElem?_set_ne (Ne.symm hq)⟩
theorem HAppW.snocN {k r len : Nat} {cs xs : List H0} {h : Heap} {K : HV → Heap → Prop} (hr : h[r]? = some (.own cs)) (hcs : cs.length = k * len) (hx : xs.length = k) (hone : ∀ c ∈ xs, c.one = true) (hlen : len ≤ 1048576)
    (hK : ∀ (h' : Heap) (r' : Nat), h'[r']? = some (.own (cs ++ xs)) → h.length ≤ r' → h.length ≤ h'.length → (∀ q, q < h.length → q ≠ r → h'[q]? = h[q]?) → K (.s (.sw k r' 0 (len + 1))) h') : HAppW k (h ++ [.own xs]) (.s (.sw k r 0 len)) (.s (.sw k h.length 0 1)) K := by
  refine HAppW.snoc (cs := cs) (xs := xs) (by rw [List.getElem?_append_left (get_lt hr)]; exact hr) hcs (get_new _ _) hx hone hlen ?_
  have h1 := get_new ((h ++ [Row.own xs]).set r .gone) (Row.own (cs ++ xs))
  rw [List.length_set] at h1
  refine hK _ _ h1 (by simp) (by simp; omega) fun q hq hn => ?_
  rw [List.getElem?_append_left (by simp; omega), List.getElem?_set_ne (Ne.symm hn), List.getElem?_append_left hq]


theorem impl_CompareWords (h : Heap) (x y : H0) (a b : List Int) (hx : Ints h x a) (hy : Ints h y b) (hal : a.length ≤ 1048576) (hbl : b.length ≤ 1048576) :
    HCalls dm Tryz.prog 197 [.s x, .s y] h (fun r h' => r = I (cmpW a b) ∧ Ext h h') := by
  refine calls_of_hFun (m := 0) kd_ok mixed Tryz.func197 rfl (by kernel_rfl) rfl rfl (of_decide_eq_true rfl) ?_; unfold hFun; (conv => whnf)
  refine ⟨rfl, hx.len ?_⟩
  (conv => whnf)
  refine ⟨rfl, hy.len ?_⟩
  (conv => whnf)
  refine (lib_cmp _ _ _).mono ?_
  rintro r h1 ⟨rfl, hh⟩
  subst h1
  (conv => whnf)
  refine (lib_sCompare _ _ _ _ _ hx hy (by omega)).mono ?_
  rintro r h1 ⟨rfl, hh⟩
  subst h1
  (conv => whnf)
  refine HLit.two ?_
  (conv => whnf)
  have hor := (OwnR.push h [cmp1 (a.length : Int) (b.length : Int), lexC a b]).ints
  refine (lib_Or _ _ _ hor (by simp)).mono ?_
  rintro r h1 ⟨rfl, hh⟩
  subst h1
  (conv => whnf)
  exact ⟨iEq' (cmpW_or _ _), Ext.push _ _⟩

theorem impl_vectorOf (h : Heap) (x : H0) (l : List Int) (hx : Ints h x l) (hl : l.length ≤ 4) :
    HCalls dm Tryz.prog 195 [.s x] h (fun r h' => r = .agg (key4 l) ∧ Ext h h') := by
  have E1 := Ext.push h [Row.own (List.replicate 4 (ci 0))]
  refine calls_of_hFunC (m := 0) kd_ok mixed Tryz.func195 rfl (by kernel_rfl) rfl rfl rfl (of_decide_eq_true rfl) ?_
  unfold hFunC
  (conv => whnf)
  refine HRec.of (fun c hc => by simp at hc) ?_
  (conv => whnf)
  refine HStoreA.all (Or.inr ⟨4, rfl⟩) (get_new _ _) (by simp) (by simp) (fun c hc => by rw [(List.mem_replicate.1 hc).2]; rfl) ?_
  rw [set_new]
  (conv => whnf)
  refine ⟨by decide, _, 0, 4, rfl, Or.inl ⟨rfl, rfl⟩, Or.inl ⟨rfl, rfl⟩, by omega, by omega, ?_⟩
  (conv => whnf)
  refine ⟨rfl, rfl, HCopy.key (get_new _ _) ((hx.ext E1).ext (Ext.push _ _)) hl ?_⟩
  rw [set_new]
  (conv => whnf)
  refine HLoadA.arr (get_new _ _) (key4_length hl) ?_
  (conv => whnf)
  have g0 : (h ++ [Row.own (List.replicate 4 (ci 0))] ++ [Row.own (key4 l)])[h.length]? = some (Row.own (List.replicate 4 (ci 0))) := by
    rw [List.getElem?_append_left (by simp)]
    exact get_new _ _
  refine HStoreA.all (Or.inr ⟨4, rfl⟩) g0 (by simp) (key4_length hl) (key4_one l) ?_
  (conv => whnf)
  have g1 : ((h ++ [Row.own (List.replicate 4 (ci 0))] ++ [Row.own (key4 l)]).set h.length (Row.own (key4 l)))[h.length]? = some (Row.own (key4 l)) := List.getElem?_set_self (by simp)
  refine HLoadA.arr g1 (key4_length hl) ?_
  (conv => whnf)
  exact ⟨rfl, (E1.pushed _).set (Nat.le_refl _) _⟩

theorem impl_list (h : Heap) (l : List Int) (n : Nat) (hn : n = l.length) (hl : l.length ≤ 4) :
    HCalls dm Tryz.prog 196 [.agg (key4 l), I n] h (fun r h' => ∃ y, r = .s y ∧ Fresh h h' y l) := by
  subst hn
  have E1 := Ext.push h [Row.own (key4 l)]
  have hk := key4_length hl
  refine calls_of_hFun (m := 0) kd_ok mixed Tryz.func196 rfl (by kernel_rfl) rfl rfl (of_decide_eq_true rfl) ?_; unfold hFun; (conv => whnf)
  refine ⟨hk, key4_one l, ?_⟩
  (conv => whnf)
  refine HLit.empty ?_
  (conv => whnf)
  refine ⟨by decide, h.length, 0, l.length, rfl, Or.inl ⟨rfl, rfl⟩, Or.inr ⟨.i64, rfl⟩, by omega, by omega, ?_⟩
  (conv => whnf)
  have hI : Ints (h ++ [Row.own (key4 l)] ++ [Row.own []]) (.sl h.length 0 l.length) l := by
    have hr : (h ++ [Row.own (key4 l)] ++ [Row.own []])[h.length]? = some (Row.own (key4 l)) := by
      rw [List.getElem?_append_left (by simp)]
      exact get_new _ _
    have := Shows.own h.length 0 l.length (key4 l) hr (by omega)
    rw [key4_take] at this
    exact this
  refine ⟨rfl, rfl, HApp.moreR (OwnR.push (h ++ [Row.own (key4 l)]) []) hI (by rw [List.length_nil]; omega) (fun h2 r2 y2 B2 hr2 O2 => ?_)⟩
  rw [List.nil_append] at O2
  (conv => whnf)
  exact ⟨_, rfl, Fresh.ofRow ((E1.pushed [Row.own []]).but B2 (by simp)) O2 (by simp at hr2; omega)⟩

end Go.Proofs.YtgliajcgcbnemaaGreatDoor.Hx

namespace Go.Proofs.YtgliajcgcbnemaaGreatDoor.Hx
open Go.RowKit
variable {dm : Bool}

/-- An element's cells. -/
def chunk (k : Nat) (cs : List H0) (i : Nat) : List H0 := (cs.drop (k * i)).take k

end Go.Proofs.YtgliajcgcbnemaaGreatDoor.Hx

namespace Go.Proofs
open Go.Shelf
def Tryz.sortP_ren : Go.Shelf.Ren := ⟨fun | 6 => 241 | 15 => 151 | 14 => 265 | 28 => 207 | 29 => 208 | 20 => 281 | 21 => 282 | 22 => 283 | 23 => 284 | 24 => 285 | 25 => 286 | 26 => 287 | 27 => 288 | 46 => 299 | 47 => 235 | 48 => 236 | 49 => 300 | 50 => 301 | 57 => 308 | n => n, fun | 22 => 160 | 24 => 163 | 25 => 166 | 3 => 3 | 39 => 99 | 0 => 0 | 53 => 139 | 55 => 141 | 4 => 4 | 46 => 133 | 45 => 132 | 50 => 116 | 5 => 5 | 9 => 9 | 66 => 154 | 70 => 158 | 76 => 181 | 77 => 182 | n => n, fun | n => n⟩
theorem Tryz.sortP : Go.Proofs.SlLaysF0.n6 Tryz.prog Tryz.sortP_ren := {
  mixed := by kernel_rfl
  f6 := ⟨Tryz.f241.name, by decide, Tryz.func241.trans (congrArg some (by kernel_rfl))⟩
  f14 := ⟨Tryz.f265.name, by decide, Tryz.func265.trans (congrArg some (by kernel_rfl))⟩
  f15 := Tryz.func151.trans (congrArg some (by kernel_rfl))
  f20 := ⟨Tryz.f281.name, by decide, Tryz.func281.trans (congrArg some (by kernel_rfl))⟩
  f21 := ⟨Tryz.f282.name, by decide, Tryz.func282.trans (congrArg some (by kernel_rfl))⟩
  f22 := ⟨Tryz.f283.name, by decide, Tryz.func283.trans (congrArg some (by kernel_rfl))⟩
  f23 := ⟨Tryz.f284.name, by decide, Tryz.func284.trans (congrArg some (by kernel_rfl))⟩
  f24 := ⟨Tryz.f285.name, by decide, Tryz.func285.trans (congrArg some (by kernel_rfl))⟩
  f25 := ⟨Tryz.f286.name, by decide, Tryz.func286.trans (congrArg some (by kernel_rfl))⟩
  f26 := ⟨Tryz.f287.name, by decide, Tryz.func287.trans (congrArg some (by kernel_rfl))⟩
  f27 := ⟨Tryz.f288.name, by decide, Tryz.func288.trans (congrArg some (by kernel_rfl))⟩
  f28 := Tryz.func207.trans (congrArg some (by kernel_rfl))
  f29 := Tryz.func208.trans (congrArg some (by kernel_rfl))
  f46 := ⟨Tryz.f299.name, by decide, Tryz.func299.trans (congrArg some (by kernel_rfl))⟩
  f47 := Tryz.func235.trans (congrArg some (by kernel_rfl))
  f48 := Tryz.func236.trans (congrArg some (by kernel_rfl))
  f49 := ⟨Tryz.f300.name, by decide, Tryz.func300.trans (congrArg some (by kernel_rfl))⟩
  f50 := ⟨Tryz.f301.name, by decide, Tryz.func301.trans (congrArg some (by kernel_rfl))⟩
  f57 := ⟨Tryz.f308.name, by decide, Tryz.func308.trans (congrArg some (by kernel_rfl))⟩
  t0 := Tryz.underlying0
  a0 := Tryz.isAgg0
  z0 := Tryz.sizeOf0
  v0 := Tryz.zeroValue0
  t3 := Tryz.underlying3
  a3 := Tryz.isAgg3
  z3 := Tryz.sizeOf3
  v3 := Tryz.zeroValue3
  t4 := Tryz.underlying4
  a4 := Tryz.isAgg4
  z4 := Tryz.sizeOf4
  v4 := Tryz.zeroValue4
  t5 := Tryz.underlying5
  a5 := Tryz.isAgg5
  z5 := Tryz.sizeOf5
  v5 := Tryz.zeroValue5
  t9 := Tryz.underlying9
  a9 := Tryz.isAgg9
  z9 := Tryz.sizeOf9
  v9 := Tryz.zeroValue9
  t22 := Tryz.underlying160
  a22 := Tryz.isAgg160
  z22 := Tryz.sizeOf160
  v22 := Tryz.zeroValue160
  t25 := Tryz.underlying166
  a25 := Tryz.isAgg166
  z25 := Tryz.sizeOf166
  v25 := Tryz.zeroValue166
  t39 := Tryz.underlying99
  a39 := Tryz.isAgg99
  z39 := Tryz.sizeOf99
  v39 := Tryz.zeroValue99
  t45 := Tryz.underlying132
  a45 := Tryz.isAgg132
  z45 := Tryz.sizeOf132
  v45 := Tryz.zeroValue132
  t46 := Tryz.underlying133
  a46 := Tryz.isAgg133
  z46 := Tryz.sizeOf133
  v46 := Tryz.zeroValue133
  t50 := Tryz.underlying116
  a50 := Tryz.isAgg116
  z50 := Tryz.sizeOf116
  v50 := Tryz.zeroValue116
  t53 := Tryz.underlying139
  a53 := Tryz.isAgg139
  z53 := Tryz.sizeOf139
  v53 := Tryz.zeroValue139
  t55 := Tryz.underlying141
  a55 := Tryz.isAgg141
  z55 := Tryz.sizeOf141
  v55 := Tryz.zeroValue141
  t66 := Tryz.underlying154
  a66 := Tryz.isAgg154
  z66 := Tryz.sizeOf154
  v66 := Tryz.zeroValue154
  t70 := Tryz.underlying158
  a70 := Tryz.isAgg158
  z70 := Tryz.sizeOf158
  v70 := Tryz.zeroValue158
  t76 := Tryz.underlying181
  a76 := Tryz.isAgg181
  z76 := Tryz.sizeOf181
  v76 := Tryz.zeroValue181
  t77 := Tryz.underlying182
  a77 := Tryz.isAgg182
  z77 := Tryz.sizeOf182
  v77 := Tryz.zeroValue182 }
end Go.Proofs

namespace Go.Proofs.YtgliajcgcbnemaaGreatDoor.Hx
open Go.RowKit
variable {dm : Bool}

def trRow (c : List (List Int)) (i k : Nat) : List Int := (List.range k).map fun j => ent c j i
def trTo (c : List (List Int)) (k : Nat) : List (List Int) := (List.range k).map fun i => trRow c i c.length
def simples (c : List (List Int)) (k : Nat) : List (List Int) := (List.range k).map fun i => simpleRoot c (i : Nat)
theorem HIdxW.nat {n r len j : Nat} {k : IntKind} {K : HV → Prop} (h1 : j < len) (hK : K (.s (.ptr r (n * j)))) : HIdxW n (.s (.sw n r 0 len)) (.s (.pl (.int k (j : Int)))) K :=
  ⟨r, 0, len, k, j, rfl, rfl, by omega, by omega, by rw [Int.toNat_natCast, Nat.zero_add]; exact hK⟩
end Go.Proofs.YtgliajcgcbnemaaGreatDoor.Hx

namespace Go.Proofs.YtgliajcgcbnemaaGreatDoor.Hx
open Go.RowKit
variable {dm : Bool}

/-- Where the making of the next shell stands. -/
structure NextSt (c : List (List Int)) (n : Nat) (S : List (List Int)) (k i : Nat) (N : List (List Int)) : Prop where
  nd : N.Nodup
  pl : ∀ v ∈ N, PlayL c (n + 1) v
  full : ∀ j, j < k → ∀ t, t < c.length → 0 < (S.getD j []).getD t 0 → reflW c t (S.getD j []) ∈ N
  part : ∀ t, t < i → 0 < (S.getD k []).getD t 0 → reflW c t (S.getD k []) ∈ N
theorem NextSt.start (c : List (List Int)) (n : Nat) (S : List (List Int)) : NextSt c n S 0 0 [] :=
  ⟨List.nodup_nil, fun v hv => by simp at hv, fun j hj => by omega, fun t ht => by omega⟩
theorem NextSt.skip {c : List (List Int)} {n : Nat} {S : List (List Int)} {k i : Nat} {N : List (List Int)} (A : NextSt c n S k i N) (h : 0 < (S.getD k []).getD i 0 → reflW c i (S.getD k []) ∈ N) : NextSt c n S k (i + 1) N :=
  ⟨A.nd, A.pl, A.full, fun t ht hp => by
    by_cases e : t = i
    · subst e
      exact h hp
    · exact A.part t (by omega) hp⟩
theorem NextSt.add {c : List (List Int)} {n : Nat} {S : List (List Int)} {k i : Nat} {N : List (List Int)} (A : NextSt c n S k i N) {v : List Int} (hv : v = reflW c i (S.getD k [])) (P : PlayL c (n + 1) v) (hn : v ∉ N) : NextSt c n S k (i + 1) (N ++ [v]) := by
  refine ⟨?_, fun u hu => ?_, fun j hj t ht hp => List.mem_append_left _ (A.full j hj t ht hp), fun t ht hp => ?_⟩
  · rw [List.nodup_append]
    refine ⟨A.nd, by simp, fun a ha b hb e => hn ?_⟩
    obtain rfl : b = v := by simpa using hb
    rw [← e]
    exact ha
  · rcases List.mem_append.1 hu with hu | hu
    · exact A.pl u hu
    · obtain rfl : u = v := by simpa using hu
      exact P
  · by_cases e : t = i
    · subst e
      rw [← hv]
      simp
    · exact List.mem_append_left _ (A.part t (by omega) hp)
theorem NextSt.next {c : List (List Int)} {n : Nat} {S : List (List Int)} {k : Nat} {N : List (List Int)} (A : NextSt c n S k c.length N) : NextSt c n S (k + 1) 0 N :=
  ⟨A.nd, A.pl, fun j hj t ht hp => by
    by_cases e : j = k
    · subst e
      exact A.part t ht hp
    · exact A.full j (by omega) t ht hp, fun t ht => by omega⟩
theorem NextSt.done {c : List (List Int)} (hC : Cartan c) {n : Nat} {S N : List (List Int)} (A : NextSt c n S S.length 0 N) (hS : ∀ v, v ∈ S ↔ PlayL c n v) (hn : n + 1 ≤ 30) (v : List Int) : v ∈ N ↔ PlayL c (n + 1) v := by
  refine ⟨A.pl v, fun P => ?_⟩
  have h := (mem_shell hC (n + 1) v hn).2 P
  have h : v ∈ (shell c n).flatMap (kids c) := h
  obtain ⟨u, hu, hk⟩ := List.mem_flatMap.1 h
  obtain ⟨i, hi, h0, _, rfl⟩ := kid_mem.1 hk
  obtain ⟨j, hj, e⟩ := List.getElem_of_mem ((hS u).2 ((mem_shell hC n u (by omega)).1 hu))
  have e2 : S.getD j [] = u := by simp [List.getD, hj, e]
  have := A.full j hj i hi
  rw [e2] at this
  exact this h0
theorem NextSt.room {c : List (List Int)} (hC : Cartan c) (hN : cntT c 30 (List.replicate c.length 1) ≤ 200) {n : Nat} {S N : List (List Int)} {k i : Nat} (A : NextSt c n S k i N) (hn : n + 1 ≤ 30) : (elemsTo c (n + 1)).length + N.length ≤ 200 := by
  have hle : N.length ≤ (shell c (n + 1)).length := nodup_le A.nd fun v hv => (mem_shell hC (n + 1) v hn).2 (A.pl v hv)
  by_cases e : n + 1 = 30
  · rw [e] at hle ⊢
    rw [shell_none hN] at hle
    have := elems_len hN
    have h2 : (elems c).length = (elemsTo c 30).length := rfl
    simp only [List.length_nil] at hle
    omega
  · have := shell_room hN (n := n + 1) (by omega)
    omega
theorem next_words {c : List (List Int)} (hC : Cartan c) {n : Nat} (hn : n + 1 ≤ 30) {N : List (List Int)} (h : ∀ v, v ∈ N ↔ PlayL c (n + 1) v) : insW (N.map (nf c 31)) = wordsAt c (n + 1) := by
  refine sortedW_one (insW_facts _).1 (insW_facts _).1 fun w => ?_
  rw [(insW_facts _).2.1, mem_wordsAt hC hn, List.mem_map]
  constructor
  · rintro ⟨v, hv, rfl⟩
    exact ⟨v, (h v).1 hv, rfl⟩
  · rintro ⟨v, P, rfl⟩
    exact ⟨v, (h v).2 P, rfl⟩
theorem nf_nodup {c : List (List Int)} (hC : Cartan c) {n : Nat} (hn : n ≤ 30) {N : List (List Int)} (hd : N.Nodup) (h : ∀ v ∈ N, PlayL c n v) : (N.map (nf c 31)).Nodup := by
  unfold List.Nodup at *
  rw [List.pairwise_map]
  refine List.Pairwise.imp_of_mem ?_ hd
  intro a b ha hb hab e
  have e1 := nf_image hC n a 31 (h a ha) hn (by omega)
  have e2 := nf_image hC n b 31 (h b hb) hn (by omega)
  rw [e] at e1
  exact hab (e1.symm.trans e2)
theorem shell_stop {c : List (List Int)} {n : Nat} (h : shell c n = []) : ∀ k, shell c (n + k) = []
  | 0 => h
  | k + 1 => by
    show (shell c (n + k)).flatMap (kids c) = []
    rw [shell_stop h k]
    rfl
theorem elems_stop {c : List (List Int)} {n : Nat} (h : shell c n = []) : ∀ k, elemsTo c (n + k) = elemsTo c n
  | 0 => rfl
  | k + 1 => by
    rw [← Nat.add_assoc, elemsTo_succ, elems_stop h k]
    unfold wordsAt
    rw [shell_stop h k]
    simp [insW]
theorem elems_end {c : List (List Int)} (hC : Cartan c) {n : Nat} (hn : n ≤ 30) (h : ∀ v, ¬ PlayL c n v) : elemsTo c (n + 1) = elems c := by
  have h0 : shell c n = [] := List.eq_nil_iff_forall_not_mem.2 fun v hv => h v ((mem_shell hC n v hn).1 hv)
  have e1 := elems_stop h0 1
  have e2 := elems_stop h0 (30 - n)
  rw [show n + (30 - n) = 30 by omega] at e2
  rw [e1, ← e2]
  rfl
theorem elemsTo_one {c : List (List Int)} (hC : Cartan c) : elemsTo c 1 = [[]] := by
  have e : nf c 31 (List.replicate c.length 1) = [] := List.length_eq_zero_iff.1 (nf_len hC 0 _ 31 (PlayL.ones c) (by omega) (by omega))
  rw [elemsTo_succ, elemsTo_zero, List.nil_append]
  show insW ([List.replicate c.length 1].map (nf c 31)) = [[]]
  rw [List.map_singleton, e]
  rfl


set_option maxHeartbeats 4000000 in
theorem impl_ball (h : Heap) (x0 : H0) (c : List (List Int)) (hx0 : Rows h x0 c) (hC : Cartan c) (hN : cntT c 30 (List.replicate c.length 1) ≤ 200) :
    HCalls dm Tryz.prog 143 [.s x0, I 60, I 200] h (fun r h' => ∃ y, r = T2 y true ∧ Ext h h' ∧ OwnM h.length h'.length h' y (elems c)) := by
  have h4 := hC.le
  have hlen : (List.replicate c.length (1 : Int)).length = c.length := by simp
  refine calls_of_hFun (m := 0) kd_ok mixed Tryz.func143 rfl (by kernel_rfl) rfl rfl (of_decide_eq_true rfl) ?_; unfold hFun; (conv => whnf)
  refine HLit.empty ?_
  (conv => whnf)
  refine HLit.row (y := .sl h.length 0 0) rfl ?_
  (conv => whnf)
  have E1 := Ext.push h [Row.own []]
  have M1 : MatP (fun p => h.length ≤ p) (h ++ [Row.own []] ++ [Row.own [.sl h.length 0 0]]) (.sl (h ++ [Row.own []]).length 0 1) [[]] := by
    refine ⟨(h ++ [Row.own []]).length, fun _ => h.length, rfl, by simp, fun i _ => Nat.le_refl _, ⟨_, get_new _ _, by simp, fun i hi => ?_⟩, fun i hi => ?_, fun i _ => by simp, fun i j hij hj => ?_⟩
    · have : i = 0 := by simp at hi; omega
      subst this
      rfl
    · have : i = 0 := by simp at hi; omega
      subst this
      exact ⟨[], by rw [List.getElem?_append_left (by simp)]; exact get_new h _⟩
    · simp at hj
      omega
  have E2 := E1.pushed [Row.own [.sl h.length 0 0]]
  have M1 := M1.own (b := h.length) (fun p _ hp => hp)
  rw [← elemsTo_one hC] at M1
  generalize h ++ [Row.own []] ++ [Row.own [.sl h.length 0 0]] = h2 at *
  generalize H0.sl (h ++ [Row.own []]).length 0 1 = z0 at *
  refine ⟨rfl, (hx0.ext E2).len ?_⟩
  (conv => whnf)
  refine (impl_ones _ c.length (by omega)).mono ?_
  rintro r h3 ⟨y3, rfl, F3⟩
  (conv => whnf)
  refine (impl_vectorOf _ _ _ F3.ints (by omega)).mono ?_
  rintro r h4' ⟨rfl, E4⟩
  (conv => whnf)
  refine HLitW.one (k := 4) (by decide) (key4_length (by omega)) (key4_one _) ?_
  (conv => whnf)
  have E24 := F3.1.trans E4
  have M4 := (M1.ext E24).widen E24.1
  have E5 : Ext h (h4' ++ [Row.own (key4 (List.replicate c.length 1))]) := (E2.trans E24).pushed _
  have M5 := (M4.ext (Ext.push h4' [Row.own (key4 (List.replicate c.length 1))])).widen (Ext.push h4' [Row.own (key4 (List.replicate c.length 1))]).1
  have g5 : (h4' ++ [Row.own (key4 (List.replicate c.length 1))])[h4'.length]? = some (.own (vecs [List.replicate c.length 1])) := by rw [vecs_one]; exact get_new _ _
  have hl5 := (E2.trans E24).1
  generalize h4' ++ [Row.own (key4 (List.replicate c.length 1))] = h5 at *
  have hS0 : ∀ v, v ∈ [List.replicate c.length (1 : Int)] ↔ PlayL c 0 v := fun v => mem_shell hC 0 v (by omega)
  refine HLoop.intro [10, 9, 8] [28, 29, 30, 31, 32, 33, 34, 35, 38, 11, 39, 12, 40, 41, 42, 43, 44, 45, 14, 46, 47, 48, 49, 50, 15, 51, 52, 53, 54, 55, 56, 57, 58, 16, 59, 60, 61, 62, 63, 64, 17, 65, 66, 67, 68, 69, 70, 71, 72, 73, 74, 12, 75, 48, 76, 42, 77, 78, 79, 80, 81, 82, 83, 84, 6, 7, 85, 18, 86, 87, 88, 89, 90, 91, 20, 92, 93, 94, 95, 96, 97, 98, 99, 100, 18, 101, 88, 102, 103, 104, 105, 106, 8, 107, 9, 36, 37, 10] (by kernel_rfl) (by kernel_rfl) (fun vs h' => ∃ (n r : Nat) (z : H0) (S : List (List Int)), vs = [I ((n + 1 : Nat) : Int), .s (.sw 4 r 0 S.length), .s z] ∧ n ≤ 30 ∧ S.length ≤ 200 ∧ Ext h h' ∧ h.length ≤ r ∧ h'[r]? = some (.own (vecs S)) ∧ (∀ v, v ∈ S ↔ PlayL c n v) ∧ OwnM h.length h'.length h' z (elemsTo c (n + 1))) (fun vs _ => 32 - natAt vs 0) ⟨0, h4'.length, z0, [List.replicate c.length 1], rfl, by omega, by simp, E5, hl5, g5, hS0, M5⟩ ?_
  clear E1 E2 M1 F3 E4 E24 M4 E5 M5 g5 hS0 hl5
  rintro vs hb ⟨n, r, z, S, rfl, hn, hSl, E, hr, hrow, hS, O⟩
  have hS4 : ∀ v ∈ S, v.length ≤ 4 := fun v hv => by rw [((hS v).1 hv).1]; exact h4
  have hvl := vecs_len hS4
  have h60 : ((n + 1 : Nat) : Int) ≤ 60 := by omega
  have hEb := E.1
  (conv => whnf)
  refine HIf.decT h60 ?_
  (conv => whnf)
  refine HIf.decT h60 ?_
  (conv => whnf)
  refine HLenW.at ?_
  (conv => whnf)
  refine HIf.decT h60 ?_
  (conv => whnf)
  refine HIf.decT h60 ?_
  (conv => whnf)
  refine HIf.dec (fun hgt => ?_) (fun hle => ?_)
  rotate_left
  · have e0 : S = [] := List.length_eq_zero_iff.1 (by omega)
    have he := elems_end hC hn fun v P => by
      have := (hS v).2 P
      rw [e0] at this
      simp at this
    rw [he] at O
    (conv => whnf)
    exact ⟨_, rfl, E, O⟩
  have hn30 : n + 1 ≤ 30 := by
    have hm : S.getD 0 [] ∈ S := getD_mem (by omega)
    have := play_short hC hN ((hS _).1 hm) hn
    omega
  (conv => whnf)
  refine HLitW.none (k := 4) (by decide) ?_
  (conv => whnf)
  refine HLenW.at ?_
  (conv => whnf)
  have E1 := (Ext.push hb [Row.keys false []]).pushed [Row.own []]
  have gm : (hb ++ [Row.keys false []] ++ [Row.own []])[hb.length]? = some (Row.keys false []) := by
    rw [List.getElem?_append_left (by simp)]
    exact get_new _ _
  have gq : (hb ++ [Row.keys false []] ++ [Row.own []])[(hb ++ [Row.keys false []]).length]? = some (Row.own (vecs [])) := get_new _ _
  have hq0 : hb.length ≤ (hb ++ [Row.keys false []]).length := by simp
  generalize (hb ++ [Row.keys false []]).length = q0 at *
  generalize hb ++ [Row.keys false []] ++ [Row.own []] = h1 at *
  refine HLoop.intro [42, 12] [43, 44, 45, 14, 46, 47, 48, 49, 50, 15, 51, 52, 53, 54, 55, 56, 57, 58, 16, 59, 60, 61, 62, 63, 64, 17, 65, 66, 67, 68, 69, 70, 71, 72, 73, 74, 12, 75, 48, 76, 42] (by kernel_rfl) (by kernel_rfl) (fun vs hx => ∃ (k q : Nat) (N : List (List Int)) (ks : List Key), vs = [I k, .s (.sw 4 q 0 N.length)] ∧ k ≤ S.length ∧ Ext hb hx ∧ hb.length ≤ q ∧ hx[q]? = some (.own (vecs N)) ∧ hx[hb.length]? = some (.keys false ks) ∧ (∀ K, K ∈ ks ↔ ∃ v ∈ N, K = keyL v) ∧ NextSt c n S k 0 N) (fun vs _ => S.length - natAt vs 0) ⟨0, q0, [], [], rfl, by omega, E1, hq0, gq, gm, fun K => by simp, NextSt.start c n S⟩ ?_
  clear E1 gm gq hq0
  rintro vs hx ⟨k, q, N, ks, rfl, hk, EX, hq, gq, gm, hks, A⟩
  (conv => whnf)
  refine HIf.dec (fun hlt => ?_) (fun hge => ?_)
  · have hkl : k < S.length := by omega
    have hXm : S.getD k [] ∈ S := getD_mem hkl
    have hXP := (hS _).1 hXm
    have hAt := vecs_at hS4 hkl
    (conv => whnf)
    refine HIdxW.nat (n := 4) hkl ?_
    (conv => whnf)
    refine HLoadA.row (EX.row hrow) (by omega) ?_
    rw [hAt]
    generalize hX : S.getD k [] = X at *
    have hX4 : X.length ≤ 4 := by rw [hXP.1]; exact h4
    (conv => whnf)
    refine HStoreA.new (by simp) (key4_length hX4) (key4_one X) (fun hy EY _ ga => ?_)
    have EP := EX.trans EY
    have gq' := EY.row gq
    have gm' := EY.row gm
    have hqa : q ≠ hx.length := by have := get_lt gq; omega
    have hal : hb.length ≤ hx.length := EX.1
    clear gq gm EX
    (conv => whnf)
    refine ⟨rfl, (hx0.ext (E.trans EP)).len ?_⟩
    (conv => whnf)
    refine HLoop.intro [48, 12] [49, 50, 15, 51, 52, 53, 54, 55, 56, 57, 58, 16, 59, 60, 61, 62, 63, 64, 17, 65, 66, 67, 68, 69, 70, 71, 72, 73, 74, 12, 75, 48] (by kernel_rfl) (by kernel_rfl) (fun vs hz => ∃ (i q : Nat) (N : List (List Int)) (ks : List Key), vs = [I i, .s (.sw 4 q 0 N.length)] ∧ i ≤ c.length ∧ Ext hb hz ∧ hz[hx.length]? = some (.own (key4 X)) ∧ hb.length ≤ q ∧ q ≠ hx.length ∧ hz[q]? = some (.own (vecs N)) ∧ hz[hb.length]? = some (.keys false ks) ∧ (∀ K, K ∈ ks ↔ ∃ v ∈ N, K = keyL v) ∧ NextSt c n S k i N) (fun vs _ => c.length - natAt vs 0) ⟨0, q, N, ks, rfl, by omega, EP, ga, hq, hqa, gq', gm', hks, A⟩ ?_
    clear EP ga hq hqa gq' gm' hks A
    rintro vs hz ⟨i, q, N, ks, rfl, hi, EZ, ga, hq, hqa, gq, gm, hks, A⟩
    (conv => whnf)
    refine HIf.dec (fun hlti => ?_) (fun hgei => ?_)
    rotate_left
    · have ei : i = c.length := by omega
      subst ei
      (conv => whnf)
      refine HArith.fits (by omega) (by omega) ?_
      (conv => whnf)
      exact ⟨⟨k + 1, q, N, ks, rfl, by omega, EZ, hq, gq, gm, hks, A.next⟩, by show S.length - (k + 1) < S.length - k; omega⟩
    have hil : i < c.length := by omega
    have hiX : i < X.length := by rw [hXP.1]; exact hil
    have hne := hXP.ne hC hil
    have hskip := A.skip
    obtain ⟨V, hV⟩ : ∃ V, reflW c i X = V := ⟨_, rfl⟩
    have hadd := A.add (v := V)
    have hup := hXP.upL hC (by omega) hil
    have hroom := A.room hC hN hn30
    rw [hX] at hskip hadd
    rw [hV] at hskip hadd hup
    (conv => whnf)
    refine ⟨hx.length, .i64, i, rfl, rfl, by omega, ?_⟩
    (conv => whnf)
    refine ⟨rfl, At.load ⟨hx.length, i, _, key4 X, rfl, ga, rfl, key4_get hiX⟩ ?_⟩
    (conv => whnf)
    refine HIf.dec (fun hneg => ?_) (fun hpos => ?_)
    · (conv => whnf)
      refine HArith.fits (by omega) (by omega) ?_
      (conv => whnf)
      exact ⟨⟨i + 1, q, N, ks, rfl, by omega, EZ, ga, hq, hqa, gq, gm, hks, hskip fun h => by omega⟩, by show c.length - (i + 1) < c.length - i; omega⟩
    have hP1 := hup (by omega)
    have hl4 : V.length ≤ 4 := by rw [hP1.1]; exact h4
    (conv => whnf)
    refine HLoadA.arr ga (key4_length hX4) ?_
    (conv => whnf)
    refine ⟨rfl, (hx0.ext (E.trans EZ)).len ?_⟩
    (conv => whnf)
    refine (impl_list _ X c.length hXP.1.symm hX4).mono ?_
    rintro v hw ⟨yw, rfl, FW⟩
    (conv => whnf)
    refine (impl_reflected hz hw _ _ c i X (hx0.ext (E.trans EZ)) FW.1 FW.own hC hil hXP.1).mono ?_
    rintro v hu ⟨rfl, EU, OU⟩
    rw [hV] at OU
    (conv => whnf)
    refine (impl_vectorOf _ _ V OU.ints hl4).mono ?_
    rintro v ht ⟨rfl, ET⟩
    (conv => whnf)
    refine HStoreA.new (by simp) (key4_length hl4) (key4_one V) (fun hA EV hln gb => ?_)
    have EA := (EU.trans ET).trans EV
    have hbl : hz.length ≤ ht.length := (EU.trans ET).1
    have ga2 := EA.row ga
    have gq2 := EA.row gq
    have gm2 := EA.row gm
    have EZ2 := EZ.trans EA
    have hqz := get_lt gq
    have hmz := get_lt gm
    have haz := get_lt ga
    have hbn : ht.length ≠ hb.length := by omega
    have hmem : keyL V ∈ ks ↔ V ∈ N := by
      rw [hks]
      constructor
      · rintro ⟨u, hu, e⟩
        rw [keyL_inj (by rw [hP1.1, (A.pl u hu).1]) hl4 e]
        exact hu
      · exact fun h => ⟨V, h, rfl⟩
    (conv => whnf)
    refine HLoadA.arr gb (key4_length hl4) ?_
    (conv => whnf)
    by_cases hin : V ∈ N
    · refine HLook.yes gm2 (keyAt_key4 hl4) rfl (hmem.2 hin) ?_
      (conv => whnf)
      (repeat (refine HIf.no ?_; conv => whnf))
      refine HArith.fits (by omega) (by omega) ?_
      (conv => whnf)
      exact ⟨⟨i + 1, q, N, ks, rfl, by omega, EZ2, ga2, hq, hqa, gq2, gm2, hks, hskip fun _ => hin⟩, by show c.length - (i + 1) < c.length - i; omega⟩
    refine HLook.no gm2 (keyAt_key4 hl4) rfl (fun k => hin (hmem.1 k)) ?_
    (conv => whnf)
    (repeat (refine HIf.yes ?_; conv => whnf))
    refine HLoadA.arr gb (key4_length hl4) ?_
    (conv => whnf)
    have hN4 : ∀ v ∈ N, v.length ≤ 4 := fun v hv => by rw [(A.pl v hv).1]; exact h4
    have hvN := vecs_len hN4
    have hqm : q ≠ hb.length := fun e => by rw [e, gm2] at gq2; cases gq2
    have hbq : ht.length ≠ q := by omega
    have hba : ht.length ≠ hx.length := by omega
    have ham : hx.length ≠ hb.length := fun e => by rw [e, gm2] at ga2; cases ga2
    have hhb := EZ2.1
    refine HSet.new gm2 (keyAt_key4 hl4) rfl (fun k => hin (hmem.1 k)) (fun hB hBl gm3 kB => ?_)
    have gb3 : hB[ht.length]? = some (.own (key4 V)) := by rw [kB _ hbn]; exact gb
    have ga3 : hB[hx.length]? = some (.own (key4 X)) := by rw [kB _ ham]; exact ga2
    have gq3 : hB[q]? = some (.own (vecs N)) := by rw [kB _ hqm]; exact gq2
    have EZ3 : Ext hb hB := ⟨by omega, fun p hp => by rw [kB p (by omega)]; exact EZ2.2 p hp⟩
    (conv => whnf)
    refine HLoadA.arr gb3 (key4_length hl4) ?_
    (conv => whnf)
    refine HLitW.one (k := 4) (by decide) (key4_length hl4) (key4_one V) ?_
    (conv => whnf)
    refine ⟨rfl, HAppW.snocN (k := 4) (cs := vecs N) (xs := key4 V) gq3 hvN (key4_length hl4) (key4_one V) (by omega) (fun hF qF gqF hqF hlF kF => ?_)⟩
    have haL := get_lt ga3
    have hmL := get_lt gm3
    have hE3 := EZ3.1
    have EF : Ext hb hF := ⟨by omega, fun p hp => by rw [kF p (by omega) (by omega)]; exact EZ3.2 p hp⟩
    have gaF : hF[hx.length]? = some (.own (key4 X)) := by rw [kF _ haL (Ne.symm hqa)]; exact ga3
    have gmF : hF[hb.length]? = some (Row.keys false (keyL V :: ks)) := by rw [kF _ hmL (Ne.symm hqm)]; exact gm3
    rw [← vecs_snoc] at gqF
    have hNl : N.length + 1 = (N ++ [V]).length := by simp
    have hqaF : qF ≠ hx.length := by omega
    have hqF' : hb.length ≤ qF := by omega
    rw [hNl]
    (conv => whnf)
    refine HArith.fits (by omega) (by omega) ?_
    (conv => whnf)
    refine ⟨⟨i + 1, qF, N ++ [V], keyL V :: ks, rfl, by omega, EF, gaF, hqF', hqaF, gqF, gmF, fun K => ?_, hadd rfl hP1 hin⟩, by show c.length - (i + 1) < c.length - i; omega⟩
    simp only [List.mem_cons, List.mem_append, List.not_mem_nil, or_false]
    rw [hks]
    constructor
    · rintro (rfl | ⟨u, h1, h2⟩)
      · exact ⟨V, Or.inr rfl, rfl⟩
      · exact ⟨u, Or.inl h1, h2⟩
    · rintro ⟨u, h1 | rfl, h2⟩
      · exact Or.inr ⟨u, h1, h2⟩
      · exact Or.inl h2
  have ek : k = S.length := by omega
  subst ek
  have hdone := A.done hC hS hn30
  have hroom := A.room hC hN hn30
  have hnd := A.nd
  have hpl := A.pl
  have hwords := next_words hC hn30 hdone
  have hN4 : ∀ v ∈ N, v.length ≤ 4 := fun v hv => by rw [(hpl v hv).1]; exact h4
  have hvN := vecs_len hN4
  have OX := O.ext EX
  have hEX := EX.1
  clear A gm hks
  (conv => whnf)
  refine ⟨rfl, OX.rows.len ?_⟩
  (conv => whnf)
  refine HLenW.at ?_
  (conv => whnf)
  refine HArith.fits (by omega) (by omega) ?_
  (conv => whnf)
  refine HIf.decF (by omega) ?_
  (conv => whnf)
  refine HLit.empty ?_
  (conv => whnf)
  refine HLenW.at ?_
  (conv => whnf)
  have hxl : hx.length ≤ (hx ++ [Row.own []]).length := by simp
  refine HLoop.intro [88, 18] [89, 90, 91, 20, 92, 93, 94, 95, 96, 97, 98, 99, 100, 18, 101, 88] (by kernel_rfl) (by kernel_rfl) (fun vs hz => ∃ (j : Nat) (zw : H0), vs = [I j, .s zw] ∧ j ≤ N.length ∧ Ext hx hz ∧ OwnM hx.length hz.length hz zw ((N.take j).map (nf c 31))) (fun vs _ => N.length - natAt vs 0) ⟨0, .sl hx.length 0 0, rfl, by omega, Ext.push _ _, OwnM.none hx⟩ ?_
  rintro vs hz ⟨j, zw, rfl, hj, EZ, OW⟩
  have EXZ := EX.trans EZ
  (conv => whnf)
  refine HIf.dec (fun hltj => ?_) (fun hgej => ?_)
  · have hjl : j < N.length := by omega
    have hVm : N.getD j [] ∈ N := getD_mem hjl
    have hVP := hpl _ hVm
    have hAt := vecs_at hN4 hjl
    have htk : (N.take (j + 1)).map (nf c 31) = (N.take j).map (nf c 31) ++ [nf c 31 (N.getD j [])] := by
      rw [List.take_succ_eq_append_getElem hjl, List.map_append]
      have e : N.getD j [] = N[j] := by simp [List.getD, hjl]
      rw [e]
      rfl
    have htl : ((N.take j).map (nf c 31)).length ≤ 200 := by simp; omega
    (conv => whnf)
    refine HIdxW.nat (n := 4) hjl ?_
    (conv => whnf)
    refine HLoadA.row (EZ.row gq) (by omega) ?_
    rw [hAt]
    generalize N.getD j [] = V at *
    have hV4 : V.length ≤ 4 := by rw [hVP.1]; exact h4
    (conv => whnf)
    refine HStoreA.new (by simp) (key4_length hV4) (key4_one V) (fun hy EP _ ga => ?_)
    (conv => whnf)
    refine HLoadA.arr ga (key4_length hV4) ?_
    (conv => whnf)
    refine ⟨rfl, (hx0.ext ((E.trans EXZ).trans EP)).len ?_⟩
    (conv => whnf)
    refine (impl_list _ V c.length hVP.1.symm hV4).mono ?_
    rintro v hw ⟨yw, rfl, FW⟩
    (conv => whnf)
    refine (impl_normal _ _ c _ V (n + 1) (hx0.ext (((E.trans EXZ).trans EP).trans FW.1)) FW.ints hC hVP (by omega)).mono ?_
    rintro v hu ⟨yu, rfl, FU⟩
    obtain ⟨r2, hr2, O2⟩ := FU.row
    have EW := EP.trans FW.1
    have hEW := EW.1
    have F2 := O2.own (b := hz.length) (by omega)
    (conv => whnf)
    refine HLit.row F2.one ?_
    (conv => whnf)
    refine ⟨rfl, rfl, HApp.snocM EZ OW (EW.trans FU.1) F2 (by omega) (fun h5 z5 E5 O5 => ?_)⟩
    rw [← htk] at O5
    (conv => whnf)
    refine HArith.fits (by omega) (by omega) ?_
    (conv => whnf)
    exact ⟨⟨j + 1, z5, rfl, by omega, E5, O5⟩, by show N.length - (j + 1) < N.length - j; omega⟩
  have ej : j = N.length := by omega
  subst ej
  rw [List.take_length] at OW
  have hwn := nf_nodup hC hn30 hnd hpl
  have hwl : ∀ w ∈ N.map (nf c 31), w.length ≤ 30 := fun w hw => by
    obtain ⟨v, hv, rfl⟩ := List.mem_map.1 hw
    rw [nf_len hC (n + 1) v 31 (hpl v hv) hn30 (by omega)]
    exact hn30
  have hWl : (N.map (nf c 31)).length = N.length := by simp
  generalize N.map (nf c 31) = W at *
  obtain ⟨rw_, ρ, rfl, g2, g3, g4, m⟩ := OW
  obtain ⟨cs, c1, c2, c3⟩ := m.outer
  have cell : ∀ (i : Nat) (x : H0) (l : List Int), i < W.length → cs[0 + i]? = some x → W[i]? = some l → x = .sl (ρ i) 0 l.length ∧ Ints (hz.set rw_ .gone) x l ∧ l.length ≤ 30 := fun i x l hi hx hl => by
    have e : W.getD i [] = l := by simp [List.getD, hl]
    rw [Nat.zero_add, c3 i hi, e] at hx
    cases hx
    refine ⟨rfl, ?_, hwl l (List.mem_of_getElem? hl)⟩
    obtain ⟨t, ht⟩ := m.inner i hi
    rw [e] at ht
    exact Ints.ofOwn (t := t) (by rw [List.getElem?_set_ne (Ne.symm (m.ne i hi))]; exact ht)
  have hsort := sort_calls (dm := dm) (P := Tryz.prog) Tryz.sortL (CR := 197) (enters_of Tryz.func197 (by kernel_rfl) rfl) cmpW cmpW_swo (h := hz) (r := rw_) (off := 0) (len := W.length) (cs := cs) (Ls := W) c1 (by omega) rfl (by omega)
    (fun i x l hi hx hl => (cell i x l hi hx hl).2.1)
    (fun i j x y a b hi hj hx hy ha hb => by
      have kx := cell i x a hi hx ha
      have ky := cell j y b hj hy hb
      exact (impl_CompareWords _ _ _ _ _ kx.2.1.frz ky.2.1.frz (by omega) (by omega)).mono (fun z h' hz => hz.1))
  change HCalls dm Tryz.prog 86 _ _ _ at hsort
  (conv => whnf)
  refine hsort.mono ?_
  rintro v h4' ⟨rfl, σ, hp, hs, rfl⟩
  obtain ⟨ρ', m', hTl, hρ'⟩ := sorted_matW m c3 hp (sorted_ins hwn hp hs)
  rw [hwords] at m' hTl
  have E4 : Ext hx (hz.set rw_ (.own (sortedRow cs 0 W.length σ))) := EZ.set g2 _
  have hsl : (hz.set rw_ (.own (sortedRow cs 0 W.length σ))).length = hz.length := List.length_set
  have OW' : OwnM hx.length (hz.set rw_ (.own (sortedRow cs 0 W.length σ))).length (hz.set rw_ (.own (sortedRow cs 0 W.length σ))) (.sl rw_ 0 W.length) (wordsAt c (n + 1)) := by
    refine ⟨rw_, ρ', by rw [hTl], g2, by omega, fun i hi => ?_, m'⟩
    obtain ⟨j, hj, e⟩ := hρ' i (by omega)
    have := g4 j hj
    rw [e]
    omega
  have gq4 := E4.row gq
  have EX4 := EX.trans E4
  have O4 := O.ext EX4
  have Eh4 := E.trans EX4
  generalize hz.set rw_ (.own (sortedRow cs 0 W.length σ)) = h6 at *
  have hq6 := get_lt gq4
  (conv => whnf)
  refine ⟨rfl, rfl, HApp.joinM Eh4 O4 OW' hEX (by omega) (by omega) (fun h7 z7 E7 k7 l7 O7 => ?_)⟩
  rw [← elemsTo_succ] at O7
  have gq7 : h7[q]? = some (.own (vecs N)) := by rw [k7 q hq6 (by omega)]; exact gq4
  (conv => whnf)
  refine HArith.to (e' := ((n + 1 + 1 : Nat) : Int)) (by omega) (by omega) (by omega) ?_
  (conv => whnf)
  exact ⟨⟨n + 1, q, z7, N, rfl, by omega, by omega, E7, by omega, gq7, hdone, O7⟩, by show 32 - (n + 1 + 1) < 32 - (n + 1); omega⟩

end Go.Proofs.YtgliajcgcbnemaaGreatDoor.Hx
