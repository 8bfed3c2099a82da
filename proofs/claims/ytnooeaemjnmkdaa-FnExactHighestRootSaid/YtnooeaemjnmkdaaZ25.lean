/-
  The roots up to a height as the program collects them: the whole function.
  Contracts of InversionsOf and CommonInversions, of the program (slices.SortFunc) and of the reference (insertions).
-/
import Derived.Test.YtnooeaemjnmkdaaZ24
namespace Go.Proofs.Ytnooeaemjnmkdaa.Hx
open Go.RowKit
variable {dm : Bool}

/-- What the list holds while the roots are mirrored one after the other. -/
structure Coll (c : List (List Int)) (H : Int) (Q : List (List Int)) : Prop where
  nodup : Q.Nodup
  up : ∀ r ∈ Q, RootUp c H r
  simple : ∀ i, i < c.length → simpleRoot c (i : Nat) ∈ Q

def ClosedAt (c : List (List Int)) (H : Int) (Q : List (List Int)) (r : List Int) (i : Nat) : Prop := rootSign (mirror c i r) = 1 → heightOf (mirror c i r) ≤ H → mirror c i r ∈ Q

theorem Coll.all {c : List (List Int)} {H : Int} {Q : List (List Int)} (C : Coll c H Q) (h : ∀ r ∈ Q, ∀ i, i < c.length → ClosedAt c H Q r i) (r : List Int) : r ∈ Q ↔ RootUp c H r := by
  refine ⟨C.up r, fun hr => ?_⟩
  induction hr with
  | simple i hi => exact C.simple i hi
  | step i hi _ hs hh _ ih => exact h _ ih i hi hs hh

/-- A state of the memory with some list. -/
def StV (b bm bh bl m : Nat) (ht : Int) (N : Nat) (Q : List (List Int)) (h : Heap) : Prop := ∃ q ρ τ T, Prs b bm bh bl m q ht N ρ τ Q T h

theorem simple_facts {c : List (List Int)} (hC : Cartan c) {i : Nat} (hi : i < c.length) : rootSign (simpleRoot c (i : Nat)) = 1 ∧ heightOf (simpleRoot c (i : Nat)) = 1 ∧ (simpleRoot c (i : Nat)).length = c.length := by
  obtain ⟨n, R, g1, g2⟩ := (RootUp.simple (c := c) (H := 1) i hi).facts hC (by omega) (by omega)
  have e := (simple_pos hC hi).2
  have hn : n = 1 := by omega
  subst hn
  refine ⟨rootSign_one.2 ⟨R.nonneg, i, ?_⟩, R.height, R.len⟩
  have : (simpleRoot c (i : Nat)).getD i 0 = 1 := by
    have := congrFun e i
    rw [show unitP i i = 1 by unfold unitP; rw [if_pos rfl]] at this
    exact this
  omega

theorem HApp.rawS {h : Heap} {r q n : Nat} {cs : List H0} {y : H0} {K : HV → Heap → Prop} (hr : h[r]? = some (.own cs)) (hq : h[q]? = some (.own [y])) (hn : cs.length = n) (h1 : y.one = true) (hl : n ≤ 1048576) (hK : K (.s (.sl h.length 0 (n + 1))) (h.set r .gone ++ [.own (cs ++ [y])])) : HApp h (.s (.sl r 0 n)) (.s (.sl q 0 1)) K := by
  have hs : Shows h (.s (.sl q 0 1)) [y] := Shows.own q 0 1 [y] hq (by simp)
  refine ⟨[y], hs, fun c hc => ?_, cs, rfl, hr, by omega, Or.inl ⟨by simp; omega, ?_⟩⟩
  · obtain rfl : c = y := by simpa using hc
    exact h1
  · have e : cs.take n = cs := by rw [← hn, List.take_length]
    rw [e]
    exact hK

theorem rawS_facts {h : Heap} {r : Nat} {x y : Row} (hr : r < h.length) : ((h ++ [x]).set r .gone ++ [y]).length = h.length + 2 ∧ ((h ++ [x]).set r .gone ++ [y])[h.length + 1]? = some y ∧ ∀ z, z < h.length → z ≠ r → ((h ++ [x]).set r .gone ++ [y])[z]? = h[z]? := by
  have hL : ((h ++ [x]).set r Row.gone).length = h.length + 1 := by simp
  refine ⟨by simp, ?_, fun z hz hn => ?_⟩
  · have := get_new ((h ++ [x]).set r .gone) y
    rwa [hL] at this
  · rw [List.getElem?_append_left (by omega), List.getElem?_set_ne (Ne.symm hn), List.getElem?_append_left hz]

def slCells (N : Nat) (ρ : Nat → Nat) (n : Nat) : List H0 := (List.range n).map fun j => .sl (ρ j) 0 N
theorem slCells_length (N : Nat) (ρ : Nat → Nat) (n : Nat) : (slCells N ρ n).length = n := by simp [slCells]
theorem slCells_succ (N : Nat) (ρ : Nat → Nat) (n : Nat) : slCells N ρ (n + 1) = slCells N ρ n ++ [.sl (ρ n) 0 N] := by simp [slCells, List.range_succ]
theorem slCells_get (N : Nat) (ρ : Nat → Nat) {n i : Nat} (hi : i < n) : (slCells N ρ n)[i]? = some (.sl (ρ i) 0 N) := by simp [slCells, hi]

theorem flatMap_range (f : Nat → List H0) : ∀ (σ : List Nat), σ.flatMap f = (List.range σ.length).flatMap fun j => f (σ.getD j 0)
  | [] => rfl
  | a :: σ => by
    rw [List.length_cons, List.range_succ_eq_map, List.flatMap_cons, List.flatMap_cons, List.flatMap_map, flatMap_range f σ]
    rfl

theorem sorted_cells {N n : Nat} {ρ τ : Nat → Nat} {σ : List Nat} (hp : σ.Perm (List.range n)) : σ.flatMap (chunk 2 (prCells N ρ τ n)) = prCells N (fun j => ρ (σ.getD j 0)) (fun j => τ (σ.getD j 0)) n := by
  have hl : σ.length = n := by simpa using hp.length_eq
  rw [flatMap_range, hl]
  unfold prCells
  rw [List.flatMap_def, List.flatMap_def]
  refine congrArg List.flatten (List.map_congr_left fun j hj => ?_)
  have hj := List.mem_range.1 hj
  have hm : σ.getD j 0 ∈ σ := by simp [List.getD, show j < σ.length by omega]
  have hlt : σ.getD j 0 < n := by simpa using hp.mem_iff.1 hm
  exact prCells_chunk N ρ τ hlt

theorem getD_in {L : List (List Int)} {i : Nat} (h : i < L.length) : L.getD i [] ∈ L := by
  simp [List.getD, h]
theorem getD_pre {Q X : List (List Int)} {i : Nat} (h : i < Q.length) : (Q ++ X).getD i [] = Q.getD i [] := by
  simp only [List.getD]
  rw [List.getElem?_append_left h]
theorem ClosedAt.more {c : List (List Int)} {H : Int} {Q X : List (List Int)} {r : List Int} {i : Nat} (h : ClosedAt c H Q r i) : ClosedAt c H (Q ++ X) r i := fun a b => List.mem_append.2 (Or.inl (h a b))


set_option maxHeartbeats 4000000 in
theorem impl_pairedRoots (h : Heap) (x0 : H0) (c : List (List Int)) (H : Int) (hx0 : Rows h x0 c) (hC : Cartan c) (hH1 : 1 ≤ H) (hH : H ≤ 12) :
    HCalls dm Try.prog 47 [.s x0, I H] h (fun r h' => ∃ y z, r = .tup [y, z] ∧ Ext h h' ∧ ∃ L, RootList c H L ∧ OwnM h.length h'.length h' y L) := by
  have h4 := hC.le
  have hpos := hC.pos
  refine calls_of_hFun (m := 0) kd_ok mixed Try.func47 rfl (by kernel_rfl) rfl rfl (of_decide_eq_true rfl) ?_; unfold hFun; (conv => whnf)
  refine ⟨rfl, ci H, rfl, rfl, ?_⟩
  have E1 := Ext.push h [Row.own [ci H]]
  have gh := get_new h (Row.own [ci H])
  generalize h ++ [Row.own [ci H]] = h1 at E1 gh ⊢
  (conv => whnf)
  refine (impl_TransposeCartan _ _ _ (hx0.ext E1) hC).mono ?_
  rintro r hT ⟨yt, rfl, ET, OT⟩
  have RT := OT.rows
  have gh := ET.row gh
  have E := E1.trans ET
  have hx := hx0.ext E
  (conv => whnf)
  refine HLitW.none (by decide) ?_
  (conv => whnf)
  refine ⟨rfl, HStore.own (get_new _ _) Nat.zero_lt_one rfl ?_⟩
  rw [set_new]
  (conv => whnf)
  refine ⟨rfl, HStore.own (get_new _ _) Nat.zero_lt_one rfl ?_⟩
  rw [set_new]
  have e0 : ∀ (v : H0) (z : Value), ([z].map H0.pl).set 0 v = [v] := fun _ _ => rfl
  rw [e0, e0]
  have P0 : Prs hT.length (hT.length + 3) h.length (hT.length + 1) (hT.length + 2) hT.length H c.length id id [] [] (hT ++ [Row.own []] ++ [Row.own [H0.sw 2 hT.length 0 0]] ++ [Row.keys false []] ++ [Row.own [H0.mp (hT.length + 2)]]) := by
    have hl := get_lt gh
    refine ⟨by simp, ?_, by simp, ⟨[], by simp, by simp⟩, by simp [prCells], fun i hi => by simp at hi, fun i hi => by simp at hi, fun i j _ hj => by simp at hj, rfl, by omega, by omega, by omega, by omega, fun i hi => by simp at hi⟩
    rw [List.getElem?_append_left (by simp; omega), List.getElem?_append_left (by simp; omega), List.getElem?_append_left (by simp; omega), List.getElem?_append_left hl]
    exact gh
  have n1 : (hT ++ [Row.own []]).length = hT.length + 1 := by simp
  have n2 : (hT ++ [Row.own []] ++ [Row.own [H0.sw [Value.slice none 0 0, Value.slice none 0 0].length hT.length 0 0]]).length = hT.length + 2 := by simp
  have n3 : (hT ++ [Row.own []] ++ [Row.own [H0.sw [Value.slice none 0 0, Value.slice none 0 0].length hT.length 0 0]] ++ [Row.keys false []]).length = hT.length + 3 := by simp
  rw [n3, n2, n1]
  have E2 : Ext hT (hT ++ [Row.own []] ++ [Row.own [H0.sw 2 hT.length 0 0]] ++ [Row.keys false []] ++ [Row.own [H0.mp (hT.length + 2)]]) := (((Ext.push hT _).pushed _).pushed _).pushed _
  have e2 : ([Value.slice none 0 0, Value.slice none 0 0] : List Value).length = 2 := rfl
  rw [e2]
  generalize hT ++ [Row.own []] ++ [Row.own [H0.sw 2 hT.length 0 0]] ++ [Row.keys false []] ++ [Row.own [H0.mp (hT.length + 2)]] = h2 at P0 E2 ⊢
  clear n1 n2 n3 e0 e2 gh
  (conv => whnf)
  refine ⟨rfl, (hx.ext E2).len ?_⟩
  (conv => whnf)
  generalize hT.length + 3 = bm at P0 ⊢
  generalize hT.length + 2 = m at P0 ⊢
  generalize hT.length + 1 = bl at P0 ⊢
  generalize hbh : h.length = bh at P0 ⊢
  refine HLoop.intro [25] [26, 27, 10, 28, 29, 30, 31, 32, 33, 34, 35, 36, 37, 38, 25] (by kernel_rfl) (by kernel_rfl) (fun vs h' => ∃ i : Nat, vs = [I i] ∧ i ≤ c.length ∧ Ext hT h' ∧ StV hT.length bm bh bl m H c.length (simples c i) h') (fun vs _ => c.length - natAt vs 0) ⟨0, rfl, by omega, E2, _, _, _, _, P0⟩ ?_
  rintro vs h3 ⟨i, rfl, hi, E3, q, ρ, τ, T, P⟩
  (conv => whnf)
  refine HIf.dec (fun hlt => ?_) (fun hge => ?_)
  · have hi' : i < c.length := by omega
    (conv => whnf)
    refine ⟨rfl, (hx.ext E3).len ?_⟩
    (conv => whnf)
    refine (impl_simple _ c.length (i : Int) (by omega) (by omega) (by omega)).mono ?_
    rintro r h5 ⟨y5, rfl, E5, a, t, rfl, ha0, ha⟩
    (conv => whnf)
    refine ⟨rfl, (hx.ext (E3.trans E5)).len ?_⟩
    (conv => whnf)
    refine (impl_simple _ c.length (i : Int) (by omega) (by omega) (by omega)).mono ?_
    rintro r h6 ⟨y6, rfl, E6, a', t', rfl, ha0', ha'⟩
    have es : (List.replicate c.length (0 : Int)).set (i : Int).toNat 1 = simpleRoot c (i : Nat) := ((simple_pos hC hi').1).symm
    rw [es] at ha ha' ⊢
    obtain ⟨s1, s2, s3⟩ := simple_facts hC hi'
    rw [s3]
    have E56 := E5.trans E6
    have P6 := P.ext E56
    have hl3 := P.rt
    have hfr : ∀ k, k < (simples c i).length → ρ k ≠ a := fun k hk e => by
      obtain ⟨_, t, g⟩ := P.rt k hk
      have := get_lt g
      omega
    have hsl := simples_len c i
    have hE3 := E3.1
    (conv => whnf)
    refine (impl_add _ P6 hpos h4 (by omega) s3 s3 (E6.row ha) ha' hfr (by omega)).mono ?_
    rintro r h7 ⟨rfl, K7, h7⟩
    have E7 := P6.change rfl (E3.trans E56) K7
    (conv => whnf)
    refine HArith.fits (by omega) (by omega) ?_
    (conv => whnf)
    refine ⟨⟨i + 1, rfl, by omega, E7, ?_⟩, by show c.length - (i + 1) < c.length - i; omega⟩
    rw [simples_succ]
    have hnin : simpleRoot c (i : Nat) ∉ simples c i := fun hm => by
      obtain ⟨j, hj, e⟩ := mem_simples.1 hm
      have := simple_inj hC hi' (by omega) e
      omega
    rcases h7 with ⟨hno, _⟩ | ⟨_, q', _, P7⟩
    · exact absurd ⟨hnin, s1, by rw [s2]; exact hH1⟩ hno
    · exact ⟨q', _, _, _, P7⟩
  have ei : i = c.length := by omega
  subst ei
  clear hge hi
  have C0 : Coll c H (simples c c.length) := ⟨simples_nodup hC _ (Nat.le_refl _), fun r hr => by
    obtain ⟨j, hj, rfl⟩ := mem_simples.1 hr
    exact .simple j hj, fun j hj => mem_simples.2 ⟨j, hj, rfl⟩⟩
  (conv => whnf)
  refine HLoop.intro [11] [39, 40, 41, 42, 45, 46, 47, 48, 12, 49, 50, 51, 52, 53, 13, 54, 55, 56, 57, 58, 59, 60, 61, 62, 63, 64, 65, 66, 51, 43, 44, 11] (by kernel_rfl) (by kernel_rfl) (fun vs h' => ∃ (k : Nat) (Q : List (List Int)), vs = [I k] ∧ k ≤ Q.length ∧ Ext hT h' ∧ StV hT.length bm bh bl m H c.length Q h' ∧ Coll c H Q ∧ ∀ j, j < k → ∀ i, i < c.length → ClosedAt c H Q (Q.getD j []) i) (fun vs _ => 28562 - natAt vs 0) ⟨0, _, rfl, by omega, E3, ⟨q, ρ, τ, T, P⟩, C0, fun j hj => by omega⟩ ?_
  clear P C0 E3 q ρ τ T h3
  rintro vs h3 ⟨k, Q, rfl, hk, E3, ⟨q, ρ, τ, T, P⟩, C, hcl⟩
  have hQ := roots_few hC hH hH1 C.nodup C.up
  (conv => whnf)
  refine ⟨rfl, At.load ⟨bl, 0, _, [.sw 2 q 0 Q.length], rfl, P.gl, rfl, rfl⟩ ?_⟩
  (conv => whnf)
  refine HLenW.at ?_
  (conv => whnf)
  refine HIf.dec (fun hlt => ?_) (fun hge => ?_)
  · have hk' : k < Q.length := by omega
    (conv => whnf)
    refine ⟨rfl, At.load ⟨bl, 0, _, [.sw 2 q 0 Q.length], rfl, P.gl, rfl, rfl⟩ ?_⟩
    (conv => whnf)
    refine HIdxW.nat (n := 2) hk' ?_
    (conv => whnf)
    refine HLoadA.row (n := 2) P.ls (by rw [prCells_length]; omega) ?_
    rw [prCells_chunk _ _ _ hk']
    (conv => whnf)
    have hone : ∀ c' ∈ [H0.sl (ρ k) 0 c.length, H0.sl (τ k) 0 c.length], c'.one = true := fun c' hc => by
      simp only [List.mem_cons, List.not_mem_nil, or_false] at hc
      rcases hc with rfl | rfl <;> rfl
    refine HStoreA.all (Or.inl rfl) (get_new _ _) rfl rfl hone ?_
    rw [set_new]
    have Ep := Ext.push h3 [Row.own [H0.sl (ρ k) 0 c.length, H0.sl (τ k) 0 c.length]]
    have gp := get_new h3 (Row.own [H0.sl (ρ k) 0 c.length, H0.sl (τ k) 0 c.length])
    have hqp : q ≠ h3.length := fun e => by have := get_lt P.ls; omega
    have P1 := P.ext Ep
    have E4 := E3.trans Ep
    obtain ⟨rl, rt, hrk⟩ := P1.rt k hk'
    obtain ⟨cl, ct, hck⟩ := P1.ct k hk'
    have hup : RootUp c H (Q.getD k []) := C.up _ (getD_in hk')
    generalize h3 ++ [Row.own [H0.sl (ρ k) 0 c.length, H0.sl (τ k) 0 c.length]] = h5 at Ep gp P1 E4 hrk hck ⊢
    generalize h3.length = rp at gp hqp ⊢
    generalize hRk : Q.getD k [] = R at *
    generalize T.getD k [] = U at *
    (conv => whnf)
    refine ⟨rfl, (hx.ext E4).len ?_⟩
    (conv => whnf)
    generalize ρ k = A at gp hrk ⊢
    generalize τ k = B' at gp hck ⊢
    refine HLoop.intro [51] [52, 53, 13, 54, 55, 56, 57, 58, 59, 60, 61, 62, 63, 64, 65, 66, 51] (by kernel_rfl) (by kernel_rfl) (fun vs h' => ∃ (i : Nat) (X : List (List Int)), vs = [I i] ∧ i ≤ c.length ∧ Ext hT h' ∧ (∃ q ρ τ T, Prs hT.length bm bh bl m q H c.length ρ τ (Q ++ X) T h' ∧ q ≠ rp) ∧ Coll c H (Q ++ X) ∧ (∀ t, t < i → ClosedAt c H (Q ++ X) R t) ∧
      h'[rp]? = some (.own [H0.sl A 0 c.length, H0.sl B' 0 c.length]) ∧ h'[A]? = some (.own (R.map ci ++ rt)) ∧ h'[B']? = some (.own (U.map ci ++ ct))) (fun vs _ => c.length - natAt vs 0) ⟨0, [], rfl, by omega, E4, ⟨q, ρ, τ, T, by rw [List.append_nil]; exact P1, hqp⟩, by rw [List.append_nil]; exact C, fun t ht => by omega, gp, hrk, hck⟩ ?_
    clear P1 P C hqp gp hrk hck E4 E3 Ep hone ρ τ T
    rintro vs h5 ⟨i, X, rfl, hi, E5, ⟨q, ρ, τ, T, P, hqp⟩, C, hci, gp, hrk, hck⟩
    (conv => whnf)
    refine HIf.dec (fun hlt2 => ?_) (fun hge2 => ?_)
    · have hi' : i < c.length := by omega
      have hiR : Ints h5 (.sl A 0 c.length) R := by have := Ints.ofOwn hrk; rwa [rl] at this
      have hiU : Ints h5 (.sl B' 0 c.length) U := by have := Ints.ofOwn hck; rwa [cl] at this
      have hrow1 := hC.row i hi'
      have hrow2 := (transp_cartan hC).row i (by rw [transp_length]; exact hi')
      rw [transp_length] at hrow2
      (conv => whnf)
      refine Or.inr (Or.inr (Or.inl (Exists.intro 11 (Exists.intro [0, 1, 2, 3, 4, 6, 7, 8, 9] (Exists.intro [5, 10, 11] (And.intro (show heldOk _ _ _ _ = true by kernel_rfl) ?_))))))
      (conv => whnf)
      refine HField.at' (by decide) ?_
      (conv => whnf)
      refine ⟨rfl, At.load ⟨rp, 0, _, _, rfl, gp, rfl, rfl⟩ ?_⟩
      (conv => whnf)
      refine HField.at' (by decide) ?_
      (conv => whnf)
      refine ⟨rfl, At.load ⟨rp, 1, _, _, rfl, gp, rfl, rfl⟩ ?_⟩
      (conv => whnf)
      refine HCallF.fresh (impl_mirrored _ _ _ c i R (hx.ext E5).frz hiR.frz hi' (by omega) (by omega) (by omega)) (fun h6 y6 F6 => ?_)
      (conv => whnf)
      refine HCallF.fresh (impl_mirrored _ _ _ (transp c) i U ((RT.ext E5).ext F6.1).frz (hiU.ext F6.1).frz (by rw [transp_length]; exact hi') (by omega) (by omega) (by omega)) (fun h7 y7 F7 => ?_)
      (conv => whnf)
      have E57 := F6.1.trans F7.1
      obtain ⟨E6, a, t6, rfl, ha0, ha⟩ := F6
      obtain ⟨E7, a', t7, rfl, ha0', ha'⟩ := F7
      have el : (mirror c i R).length = c.length := by rw [mirror_length, rl]
      have el' : (mirror (transp c) i U).length = c.length := by rw [mirror_length, cl]
      rw [el, el']
      have hQX := roots_few hC hH hH1 C.nodup C.up
      have P7 := P.ext E57
      have hfr : ∀ t, t < (Q ++ X).length → ρ t ≠ a := fun t ht e => by
        obtain ⟨_, u, g⟩ := P.rt t ht
        have := get_lt g
        omega
      have hE5 := E5.1
      have hE57 := E57.1
      refine (impl_add _ P7 hpos h4 (by omega) el el' (E7.row ha) ha' hfr (by omega)).mono ?_
      rintro r h8 ⟨rfl, K8, hcase⟩
      have E8 := P7.change rfl (E5.trans E57) K8
      have hrpl := get_lt gp
      have hrp : rp ≠ m ∧ rp ≠ bl := by
        obtain ⟨ks, hm1, _⟩ := P.mp
        refine ⟨fun e => ?_, fun e => ?_⟩
        · rw [e, hm1] at gp; cases gp
        · rw [e, P.gl] at gp; simp at gp
      have kp : ∀ {z : Nat} {x : Row}, h5[z]? = some x → z ≠ m ∧ z ≠ q ∧ z ≠ bl → h8[z]? = some x := fun {z x} g hn => by
        rw [K8.2 z (get_lt (E57.row g)) (fun e => e.elim hn.1 fun e => e.elim hn.2.1 hn.2.2)]
        exact E57.row g
      have gp8 := kp gp ⟨hrp.1, Ne.symm hqp, hrp.2⟩
      have hrk8 := kp hrk (P.nrow hpos rl hrk)
      have hck8 := kp hck (P.nrow hpos cl hck)
      (conv => whnf)
      refine HArith.fits (by omega) (by omega) ?_
      (conv => whnf)
      rcases hcase with ⟨hno, P8⟩ | ⟨⟨y1, y2, y3⟩, q', hq', P8⟩
      · refine ⟨⟨i + 1, X, rfl, by omega, E8, ⟨q, _, _, _, P8, hqp⟩, C, fun t ht => ?_, gp8, hrk8, hck8⟩, by show c.length - (i + 1) < c.length - i; omega⟩
        by_cases e : t = i
        · subst e
          intro z1 z2
          refine Classical.byContradiction fun z3 => hno ⟨z3, z1, z2⟩
        · exact hci t (by omega)
      · refine ⟨⟨i + 1, X ++ [mirror c i R], rfl, by omega, E8, ⟨q', _, _, _, by rw [← List.append_assoc]; exact P8, by omega⟩, ?_, fun t ht => ?_, gp8, hrk8, hck8⟩, by show c.length - (i + 1) < c.length - i; omega⟩
        · rw [← List.append_assoc]
          refine ⟨?_, fun r hr => ?_, fun t ht => List.mem_append.2 (Or.inl (C.simple t ht))⟩
          · rw [List.nodup_append]
            exact ⟨C.nodup, by simp, fun x hx y hy e => by
              obtain rfl : y = _ := by simpa using hy
              exact y1 (e ▸ hx)⟩
          · rcases List.mem_append.1 hr with hr | hr
            · exact C.up r hr
            · obtain rfl : r = _ := by simpa using hr
              exact hup.close hC hH hH1 hi' y2 y3
        · rw [← List.append_assoc]
          by_cases e : t = i
          · subst e
            exact fun _ _ => List.mem_append.2 (Or.inr (by simp))
          · exact (hci t (by omega)).more
    · have ei : i = c.length := by omega
      subst ei
      (conv => whnf)
      refine HArith.fits (by omega) (by omega) ?_
      (conv => whnf)
      refine ⟨⟨k + 1, Q ++ X, rfl, by simp; omega, E5, ⟨q, ρ, τ, T, P⟩, C, fun t ht i hi => ?_⟩, by show 28562 - (k + 1) < 28562 - k; omega⟩
      rw [getD_pre (by omega)]
      by_cases e : t = k
      · subst e
        rw [hRk]
        exact hci i hi
      · exact (hcl t (by omega) i hi).more
  have ek : k = Q.length := by omega
  subst ek
  clear hge hk
  have hall : ∀ r, r ∈ Q ↔ RootUp c H r := C.all fun r hr i hi => by
    obtain ⟨j, hj, rfl⟩ := List.getElem_of_mem hr
    have := hcl j hj i hi
    simpa [List.getD, hj] using this
  have hlen : ∀ a ∈ Q, a.length = c.length := fun a ha => by
    obtain ⟨n, R, _⟩ := (C.up a ha).facts hC hH hH1
    exact R.len
  have hL : RootList c H (insR Q) := ⟨insR_sorted Q hlen, (insR_perm Q).nodup_iff.2 C.nodup, fun r => (insR_perm Q).mem_iff.trans (hall r)⟩
  obtain ⟨aE, ti, hti, hts⟩ := agg_rcd (P := Try.prog) (t := 65) (zs := [.slice none 0 0, .slice none 0 0]) (kd_ok _)
  have hnb : ∀ {z : Nat} {l : List Int} {t : List H0}, l.length = c.length → h3[z]? = some (.own (l.map ci ++ t)) → z ≠ q := fun hl g => (P.nrow hpos hl g).2.1
  have hsort := sortW_calls (dm := dm) (P := Try.prog) Try.sortP (k := 2) (by omega) aE (fun w => by show (Go.sizeOf 65).run Try.prog w = _; simp [sizeOf, typeInfo, hti, hts]) (CR := 73) (enters_of Try.func73 (by kernel_rfl) rfl)
    (fun i j => cmpR (Q.getD i []) (Q.getD j [])) ⟨fun x => cmpR_swo.irrefl _, fun x y z => cmpR_swo.trans _ _ _, fun x y z => cmpR_swo.ntrans _ _ _⟩ (h := h3) (r := q) (len := Q.length) P.ls (prCells_length _ _ _ _) (prCells_one _ _ _ _) (by omega)
    (fun i j hi hj => by
      have ci : chunk 2 (prCells c.length ρ τ Q.length) i = [.sl (ρ i) 0 c.length, .sl (τ i) 0 c.length] := prCells_chunk _ _ _ hi
      have cj : chunk 2 (prCells c.length ρ τ Q.length) j = [.sl (ρ j) 0 c.length, .sl (τ j) 0 c.length] := prCells_chunk _ _ _ hj
      rw [ci, cj]
      obtain ⟨e1, t1, g1⟩ := P.rt i hi
      obtain ⟨e2, t2, g2⟩ := P.rt j hj
      have i1 : Ints (h3.set q .gone) (.sl (ρ i) 0 c.length) (Q.getD i []) := by
        have := Ints.ofOwn (h := h3.set q .gone) (r := ρ i) (t := t1) (by rw [List.getElem?_set_ne (Ne.symm (hnb e1 g1))]; exact g1)
        rwa [e1] at this
      have i2 : Ints (h3.set q .gone) (.sl (ρ j) 0 c.length) (Q.getD j []) := by
        have := Ints.ofOwn (h := h3.set q .gone) (r := ρ j) (t := t2) (by rw [List.getElem?_set_ne (Ne.symm (hnb e2 g2))]; exact g2)
        rwa [e2] at this
      exact impl_cmpPair _ _ _ _ _ _ _ i1.frz i2.frz rfl rfl rfl rfl (by omega) (by omega))
  change HCalls dm Try.prog 72 _ _ _ at hsort
  (conv => whnf)
  refine ⟨rfl, At.load ⟨bl, 0, _, [.sw 2 q 0 Q.length], rfl, P.gl, rfl, rfl⟩ ?_⟩
  (conv => whnf)
  refine hsort.mono ?_
  rintro z hS ⟨rfl, σ, hp, hs, hSe⟩
  have hσl : σ.length = Q.length := by simpa using hp.length_eq
  have hσm : ∀ j, j < Q.length → σ.getD j 0 < Q.length := fun j hj => by
    have hm : σ.getD j 0 ∈ σ := by simp [List.getD, show j < σ.length by omega]
    simpa using hp.mem_iff.1 hm
  have hσi : ∀ i j, i < j → j < Q.length → σ.getD i 0 ≠ σ.getD j 0 := fun i j hij hj e => by
    have hnd : σ.Nodup := hp.nodup_iff.2 List.nodup_range
    have := (List.pairwise_iff_getElem.1 hnd) i j (by omega) (by omega) hij
    simp only [List.getD, show i < σ.length by omega, show j < σ.length by omega, List.getElem?_eq_getElem, Option.getD_some] at e
    exact this e
  have hQs := sorted_insR hlen hp hs
  have hLl := insR_length Q
  have hLg : ∀ j, j < Q.length → (insR Q).getD j [] = Q.getD (σ.getD j 0) [] := fun j hj => by
    rw [← hQs]
    simp [List.getD, show j < σ.length by omega]
  rw [sorted_cells hp] at hSe
  obtain ⟨ρ', hρ⟩ : ∃ f : Nat → Nat, ∀ j, f j = ρ (σ.getD j 0) := ⟨_, fun _ => rfl⟩
  obtain ⟨τ', hτ⟩ : ∃ f : Nat → Nat, ∀ j, f j = τ (σ.getD j 0) := ⟨_, fun _ => rfl⟩
  rw [show (fun j => ρ (σ.getD j 0)) = ρ' from funext fun j => (hρ j).symm, show (fun j => τ (σ.getD j 0)) = τ' from funext fun j => (hτ j).symm] at hSe
  obtain ⟨w1, w3, w4, w5, w6⟩ := P.low
  have hE3 := E3.1
  have hET := E.1
  have ES : Ext hT hS := by rw [hSe]; exact E3.set (by omega) _
  have gq : hS[q]? = some (.own (prCells c.length ρ' τ' Q.length)) := by
    rw [hSe, List.getElem?_set_self (get_lt P.ls)]
  have hqb : q ≠ bl := fun e => by
    have g1 := P.gl
    rw [← e, P.ls] at g1
    simp only [Option.some.injEq, Row.own.injEq] at g1
    have := prCells_length c.length ρ τ Q.length
    rw [g1] at this
    simp at this
    omega
  have gbl : hS[bl]? = some (.own [.sw 2 q 0 Q.length]) := by
    rw [hSe, List.getElem?_set_ne hqb]
    exact P.gl
  have grow : ∀ j, j < Q.length → ∃ t, hS[ρ' j]? = some (.own (((insR Q).getD j []).map ci ++ t)) := fun j hj => by
    obtain ⟨e, t, g⟩ := P.rt _ (hσm j hj)
    rw [hLg j hj, hSe, hρ]
    exact ⟨t, by rw [List.getElem?_set_ne (Ne.symm (hnb e g))]; exact g⟩
  have hSl : hS.length = h3.length := by rw [hSe]; simp
  have hinj : ∀ i j, i < j → j < Q.length → ρ' i ≠ ρ' j := fun i j hij hj e => by
    rw [hρ, hρ] at e
    have := hσi i j hij hj
    rcases Nat.lt_or_gt_of_ne this with h | h
    · exact P.inj _ _ h (hσm j hj) e
    · exact P.inj _ _ h (hσm i (by omega)) e.symm
  have hlow : ∀ j, j < Q.length → hT.length ≤ ρ' j := fun j hj => by rw [hρ]; exact w6 _ (hσm j hj)
  have hLen := hL.1
  clear hsort hnb P hs hp hSe aE hti hts hρ hτ hσi hσm hLg hQs
  (conv => whnf)
  refine HLit.empty ?_
  (conv => whnf)
  refine HLit.empty ?_
  (conv => whnf)
  have Ea : Ext hS (hS ++ [Row.own []] ++ [Row.own []]) := (Ext.push hS _).pushed _
  have ga : (hS ++ [Row.own []] ++ [Row.own []])[hS.length]? = some (.own []) := by simp
  have gb : (hS ++ [Row.own []] ++ [Row.own []])[hS.length + 1]? = some (.own []) := by simp
  have n1 : (hS ++ [Row.own []]).length = hS.length + 1 := by simp
  rw [n1]
  generalize hS ++ [Row.own []] ++ [Row.own []] = h6 at Ea ga gb ⊢
  refine ⟨rfl, At.load ⟨bl, 0, _, [.sw 2 q 0 Q.length], rfl, Ea.row gbl, rfl, rfl⟩ ?_⟩
  (conv => whnf)
  refine HLenW.at ?_
  (conv => whnf)
  refine HLoop.intro [73, 14, 15] [74, 75, 76, 17, 77, 78, 79, 80, 81, 14, 82, 83, 84, 85, 86, 15, 87, 73] (by kernel_rfl) (by kernel_rfl) (fun vs h' => ∃ (i r1 r2 : Nat), vs = [I i, .s (.sl r1 0 i), .s (.sl r2 0 i)] ∧ i ≤ Q.length ∧ Ext hS h' ∧ hS.length ≤ r1 ∧ hS.length ≤ r2 ∧ r1 ≠ r2 ∧ h'[r1]? = some (.own (slCells c.length ρ' i)) ∧ h'[r2]? = some (.own (slCells c.length τ' i))) (fun vs _ => Q.length - natAt vs 0)
    ⟨0, hS.length, hS.length + 1, rfl, by omega, Ea, Nat.le_refl _, by omega, by omega, ga, gb⟩ ?_
  clear Ea ga gb n1 h6
  rintro vs h6 ⟨i, r1, r2, rfl, hi, E6, hr1, hr2, hr12, g1, g2⟩
  (conv => whnf)
  refine HIf.dec (fun hlt => ?_) (fun hge => ?_)
  · have hi' : i < Q.length := by omega
    (conv => whnf)
    refine HIdxW.nat (n := 2) hi' ?_
    (conv => whnf)
    refine HLoadA.row (n := 2) (E6.row gq) (by rw [prCells_length]; omega) ?_
    rw [prCells_chunk _ _ _ hi']
    (conv => whnf)
    have hone : ∀ c' ∈ [H0.sl (ρ' i) 0 c.length, H0.sl (τ' i) 0 c.length], c'.one = true := fun c' hc => by
      simp only [List.mem_cons, List.not_mem_nil, or_false] at hc
      rcases hc with rfl | rfl <;> rfl
    refine HStoreA.all (Or.inl rfl) (get_new _ _) rfl rfl hone ?_
    rw [set_new]
    have Ep := Ext.push h6 [Row.own [H0.sl (ρ' i) 0 c.length, H0.sl (τ' i) 0 c.length]]
    have gp := get_new h6 (Row.own [H0.sl (ρ' i) 0 c.length, H0.sl (τ' i) 0 c.length])
    have l1 := get_lt g1
    have l2 := get_lt g2
    have g1 := Ep.row g1
    have g2 := Ep.row g2
    have E7 := E6.trans Ep
    generalize hrp : h6.length = rp at gp l1 l2 ⊢
    generalize h6 ++ [Row.own [H0.sl (ρ' i) 0 c.length, H0.sl (τ' i) 0 c.length]] = h7 at Ep gp g1 g2 E7 ⊢
    (conv => whnf)
    refine HField.at' (by decide) ?_
    (conv => whnf)
    refine ⟨rfl, At.load ⟨rp, 0, _, _, rfl, gp, rfl, rfl⟩ ?_⟩
    (conv => whnf)
    refine HLit.row rfl ?_
    (conv => whnf)
    refine ⟨rfl, rfl, HApp.rawS ((Ext.push h7 _).row g1) (get_new _ _) (slCells_length _ _ _) rfl (by omega) ?_⟩
    have l1' := get_lt g1
    have l2' := get_lt g2
    have hE7 := E7.1
    obtain ⟨n8, a8, k8⟩ := rawS_facts (h := h7) (x := Row.own [H0.sl (ρ' i) 0 c.length]) (y := Row.own (slCells c.length ρ' i ++ [H0.sl (ρ' i) 0 c.length])) l1'
    have nl : (h7 ++ [Row.own [H0.sl (ρ' i) 0 c.length]]).length = h7.length + 1 := by simp
    rw [nl, ← slCells_succ]
    rw [← slCells_succ] at n8 a8 k8
    have gp8 := (k8 rp (get_lt gp) (by omega)).trans gp
    have g28 := (k8 r2 l2' (Ne.symm hr12)).trans g2
    have E8 : Ext hS ((h7 ++ [Row.own [H0.sl (ρ' i) 0 c.length]]).set r1 .gone ++ [Row.own (slCells c.length ρ' (i + 1))]) := ⟨by omega, fun z hz => by rw [k8 z (by omega) (by omega)]; exact E7.2 z hz⟩
    generalize (h7 ++ [Row.own [H0.sl (ρ' i) 0 c.length]]).set r1 .gone ++ [Row.own (slCells c.length ρ' (i + 1))] = h8 at n8 a8 k8 gp8 g28 E8 ⊢
    (conv => whnf)
    refine HField.at' (by decide) ?_
    (conv => whnf)
    refine ⟨rfl, At.load ⟨rp, 1, _, _, rfl, gp8, rfl, rfl⟩ ?_⟩
    (conv => whnf)
    refine HLit.row rfl ?_
    (conv => whnf)
    refine ⟨rfl, rfl, HApp.rawS ((Ext.push h8 _).row g28) (get_new _ _) (slCells_length _ _ _) rfl (by omega) ?_⟩
    have l28 := get_lt g28
    obtain ⟨n9, a9, k9⟩ := rawS_facts (h := h8) (x := Row.own [H0.sl (τ' i) 0 c.length]) (y := Row.own (slCells c.length τ' i ++ [H0.sl (τ' i) 0 c.length])) l28
    have nl9 : (h8 ++ [Row.own [H0.sl (τ' i) 0 c.length]]).length = h8.length + 1 := by simp
    rw [nl9, ← slCells_succ]
    rw [← slCells_succ] at n9 a9 k9
    have g19 := (k9 (h7.length + 1) (by omega) (by omega)).trans a8
    have E9 : Ext hS ((h8 ++ [Row.own [H0.sl (τ' i) 0 c.length]]).set r2 .gone ++ [Row.own (slCells c.length τ' (i + 1))]) := ⟨by omega, fun z hz => by rw [k9 z (by omega) (by omega)]; exact E8.2 z hz⟩
    generalize (h8 ++ [Row.own [H0.sl (τ' i) 0 c.length]]).set r2 .gone ++ [Row.own (slCells c.length τ' (i + 1))] = h9 at n9 a9 k9 g19 E9 ⊢
    (conv => whnf)
    refine HArith.fits (by omega) (by omega) ?_
    (conv => whnf)
    exact ⟨⟨i + 1, h7.length + 1, h8.length + 1, rfl, by omega, E9, by omega, by omega, by omega, g19, a9⟩, by show Q.length - (i + 1) < Q.length - i; omega⟩
  have ei : i = Q.length := by omega
  subst ei
  (conv => whnf)
  have EF := (E.trans ES).trans E6
  have hg1 := get_lt g1
  refine ⟨_, _, rfl, EF, _, hL, r1, ρ', by rw [hLl], by omega, hg1, fun j hj => ?_, ⟨_, g1, by rw [slCells_length, hLl]; exact Nat.le_refl _, fun j hj => ?_⟩, fun j hj => ?_, fun j hj => ?_, fun j k hjk hk => hinj j k hjk (by omega)⟩
  · rw [hLl] at hj
    obtain ⟨t, g⟩ := grow j hj
    have := hlow j hj
    have := get_lt (E6.row g)
    omega
  · rw [hLl] at hj
    rw [slCells_get _ _ hj]
    have hm : (insR Q).getD j [] ∈ insR Q := getD_in (by omega)
    have := hlen _ ((insR_perm Q).mem_iff.1 hm)
    rw [this]
  · rw [hLl] at hj
    obtain ⟨t, g⟩ := grow j hj
    exact ⟨t, E6.row g⟩
  · rw [hLl] at hj
    obtain ⟨t, g⟩ := grow j hj
    have := get_lt g
    omega

end Go.Proofs.Ytnooeaemjnmkdaa.Hx

namespace Go.Proofs.Ytnooeaemjnmkdaa.Hx
open Go.RowKit
variable {dm : Bool}

def inversions (c : List (List Int)) (w : List Int) : List (List Int) := if isWord c w then insR (rootsTo c (normF c w) (normF c w).length) else []

theorem inversions_off {c : List (List Int)} {w : List Int} (h : isWord c w = false) : inversions c w = [] := by simp [inversions, h]
theorem inversions_on {c : List (List Int)} {w : List Int} (h : isWord c w = true) : inversions c w = insR (rootsTo c (normF c w) (normF c w).length) := by simp [inversions, h]
theorem rootsTo_len (c : List (List Int)) (w : List Int) (k : Nat) : ∀ a ∈ rootsTo c w k, a.length = c.length := by
  intro a ha
  obtain ⟨i, _, rfl⟩ := List.mem_map.1 ha
  exact rootAt_length c w i
theorem rootSeq_normal (c : List (List Int)) (w : List Int) : rootSeq c (normalForm c w) = if isWord c w then rootsTo c (normF c w) (normF c w).length else [] := by
  cases h : isWord c w
  · rw [normalForm_off h]
    unfold rootSeq
    split <;> rfl
  · rw [normalForm_on h, rootSeq_on (normF_word h).2]
    rfl
theorem inversions_size (c : List (List Int)) (w : List Int) : (inversions c w).length ≤ 31 ∧ tot (inversions c w) ≤ 4 * 31 := by
  cases h : isWord c w
  · rw [inversions_off h]
    exact ⟨by simp, by simp [tot]⟩
  · have hC := (word_cartan h).1.le
    have hl := normF_le c w
    rw [inversions_on h]
    have e1 : (insR (rootsTo c (normF c w) (normF c w).length)).length = (normF c w).length := by rw [insR_length, rootsTo_length]
    have e2 := tot_le 4 (insR (rootsTo c (normF c w) (normF c w).length)) (fun l hl => by
      rw [rootsTo_len c _ _ l ((insR_perm _).mem_iff.1 hl)]
      exact hC)
    omega

/-- How many of the first are in the second. -/
def commonTo (X Y : List (List Int)) (k : Nat) : Nat := ((X.take k).filter fun x => decide (x ∈ Y)).length
def common (c : List (List Int)) (a b : List Int) : Int := (commonTo (inversions c a) (inversions c b) (inversions c a).length : Nat)
theorem commonTo_le (X Y : List (List Int)) (k : Nat) : commonTo X Y k ≤ k := by
  unfold commonTo
  have h1 := List.length_filter_le (fun x => decide (x ∈ Y)) (X.take k)
  simp at h1
  omega
theorem commonTo_succ {X Y : List (List Int)} {k : Nat} (hk : k < X.length) : commonTo X Y (k + 1) = commonTo X Y k + if X.getD k [] ∈ Y then 1 else 0 := by
  unfold commonTo
  rw [List.take_succ_eq_append_getElem hk, List.filter_append]
  have e : X.getD k [] = X[k] := by simp [List.getD, hk]
  rw [e]
  by_cases h : X[k] ∈ Y
  · simp [h]
  · simp [h]

/-- The sorted matrix is in rows of its own again. -/
theorem sorted_mat {h : Heap} {r : Nat} {ρ : Nat → Nat} {L : List (List Int)} (m : MatAt h r ρ L) {n : Nat} (hn : ∀ a ∈ L, a.length = n) {cs : List H0} (hcs : ∀ i, i < L.length → cs[i]? = some (.sl (ρ i) 0 (L.getD i []).length))
    {σ : List Nat} (hp : σ.Perm (List.range L.length)) (hs : σ.Pairwise (fun i j => ¬ cmpR (L.getD j []) (L.getD i []) < 0)) : ∃ ρ', MatAt (h.set r (.own (sortedRow cs 0 L.length σ))) r ρ' (insR L) ∧ ∀ i, i < L.length → ∃ j, j < L.length ∧ ρ' i = ρ j := by
  have hσl : σ.length = L.length := by simpa using hp.length_eq
  have hlt : ∀ i, i < L.length → σ.getD i 0 < L.length := fun i hi => by
    have : σ.getD i 0 ∈ σ := by
      rw [List.getD, List.getElem?_eq_getElem (by omega)]
      simp
    simpa using hp.mem_iff.1 this
  have hins := sorted_insR hn hp hs
  have hget : ∀ i, i < L.length → (insR L).getD i [] = L.getD (σ.getD i 0) [] := fun i hi => by
    rw [← hins]
    simp [List.getD, show i < σ.length by omega]
  have hil : (insR L).length = L.length := insR_length L
  have hrl := (m.lt).1
  refine ⟨fun i => ρ (σ.getD i 0), ⟨⟨_, List.getElem?_set_self hrl, ?_, fun i hi => ?_⟩, fun i hi => ?_, fun i hi => ?_, fun i j hij hj => ?_⟩, fun i hi => ⟨_, hlt i hi, rfl⟩⟩
  · simp [sortedRow, hσl, hil]
  · have hi' : i < L.length := by omega
    have h1 := hlt i hi'
    rw [hget i hi']
    simp only [sortedRow, List.take_zero, List.nil_append]
    rw [List.getElem?_append_left (by simp; omega), List.getElem?_map, List.getElem?_eq_getElem (show i < σ.length by omega)]
    have e : σ.getD i 0 = σ[i] := by simp [List.getD, show i < σ.length by omega]
    rw [e] at h1 ⊢
    simp only [Option.map_some, Nat.zero_add, Option.some.injEq]
    rw [List.getD, hcs _ h1]
    rfl
  · have hi' : i < L.length := by omega
    have h1 := hlt i hi'
    obtain ⟨t, ht⟩ := m.inner _ h1
    refine ⟨t, ?_⟩
    rw [hget i hi', List.getElem?_set_ne (Ne.symm (m.ne _ h1))]
    exact ht
  · exact m.ne _ (hlt i (by omega))
  · have hi' : i < L.length := by omega
    have hj' : j < L.length := by omega
    have hnd : σ.Nodup := hp.nodup_iff.2 List.nodup_range
    have hne : σ.getD i 0 ≠ σ.getD j 0 := by
      intro e
      rw [List.getD, List.getD, List.getElem?_eq_getElem (by omega), List.getElem?_eq_getElem (by omega)] at e
      exact List.pairwise_iff_getElem.1 hnd i j (by omega) (by omega) hij (by simpa using e)
    rcases Nat.lt_or_gt_of_ne hne with h | h
    · exact m.inj _ _ h (hlt j hj')
    · exact fun e => m.inj _ _ h (hlt i hi') e.symm


set_option maxHeartbeats 1000000 in
theorem spec_l7Put (h : Heap) (r0 : Nat) (ρ : Nat → Nat) (L : List (List Int)) (x1 : H0) (w : List Int) (m0 : MatAt h r0 ρ L) (hx1 : Ints h x1 w) (hL : L.length ≤ 1048576) (hw : w.length ≤ 1048576) (hLl : ∀ i, i < L.length → (L.getD i []).length ≤ 1048576) :
    HCalls dm Try.prog 41 [.s (.sl r0 0 L.length), .s x1] h (fun r h' => ∃ y, r = .s y ∧ Ext h h' ∧ MatIn h.length (fun q => (∃ m, m < L.length ∧ q = ρ m) ∨ h.length ≤ q) h' y (putR w L)) := by
  have hρ := m0.lt.2
  refine calls_of_hFun (m := 0) kd_ok mixed Try.func41 rfl (by kernel_rfl) rfl rfl (of_decide_eq_true rfl) ?_; unfold hFun; (conv => whnf)
  refine HLit.empty ?_
  (conv => whnf)
  refine HLoop.intro [7, 6, 5] [9, 10, 11, 12, 15, 16, 17, 18, 19, 20, 21, 22, 23, 24, 25, 26, 27, 28, 29, 30, 5, 6, 31, 32, 33, 34, 35, 36, 37, 5, 13, 14, 7] (by kernel_rfl) (by kernel_rfl) (fun vs h' => ∃ (i : Nat) (pl : Bool) (z : H0) (T : List (List Int)), vs = [I i, B pl, .s z] ∧ i ≤ L.length ∧ Ext h h' ∧ MatIn h.length (fun q => (∃ m, m < i ∧ q = ρ m) ∨ (pl = true ∧ h.length ≤ q)) h' z T ∧ (pl = true → T ++ L.drop i = putR w L) ∧ (pl = false → T ++ putR w (L.drop i) = putR w L)) (fun vs _ => L.length - natAt vs 0) ⟨0, false, _, [], rfl, by omega, Ext.push _ _, MatIn.none h _, (fun e => by cases e), (fun _ => rfl)⟩ ?_
  rintro vs h' ⟨i, pl, z, T, rfl, hi, E, M, hT1, hT2⟩
  have hpl := putR_length w L
  have hTl : T.length ≤ 1048577 := by
    cases pl
    · have := congrArg List.length (hT2 rfl)
      rw [List.length_append, putR_length] at this
      omega
    · have := congrArg List.length (hT1 rfl)
      rw [List.length_append] at this
      omega
  have m1 := m0.ext E
  have hx1 := hx1.ext E
  -- the last step of a round: a row of the old slice is appended
  (conv => whnf)
  refine ⟨rfl, m1.rows.len ?_⟩
  (conv => whnf)
  refine HIf.dec (fun hlt => ?_) (fun hge => ?_)
  · have hil : i < L.length := by omega
    have hrow := m1.inner' hil
    have hle := hLl i hil
    have hpa := putR_at (w := w) hil
    have hda := drop_at hil
    have hne : ∀ m, m < i → ρ i ≠ ρ m := fun m hm e => m0.inj m i hm hil e.symm
    have hE := E.1
    cases pl
    · have hT := hT2 rfl
      rw [hpa] at hT
      (conv => whnf)
      (repeat (first | (refine ⟨rfl, Ints.len (by assumption) ?_⟩; conv => whnf) | (refine ⟨rfl, Rows.len (by assumption) ?_⟩; conv => whnf) | (refine ⟨rfl, HLen.sl ?_⟩; conv => whnf) | (refine ⟨rfl, At.load (by assumption) ?_⟩; conv => whnf) | (refine HIf.yes ?_; conv => whnf) | (refine HIf.no ?_; conv => whnf) | (refine HIf.isT (by assumption) ?_; conv => whnf) | (refine HIf.isF (by assumption) ?_; conv => whnf) | (refine HIf.decT (by assumption) ?_; conv => whnf) | (refine HIf.decF (by assumption) ?_; conv => whnf) | (refine HIf.beqT (by assumption) ?_; conv => whnf) | (refine HIf.beqF (by assumption) ?_; conv => whnf) | (refine HIf.bneT (by assumption) ?_; conv => whnf) | (refine HIf.bneF (by assumption) ?_; conv => whnf) | (refine ⟨rfl, Ints.idxN (by assumption) (by omega) (fun p hp => ?_)⟩; conv => whnf) | (refine ⟨rfl, Rows.idxN (by assumption) (by omega) (fun p y hp hy => ?_)⟩; conv => whnf) | (refine And.intro (show Kd.isBool _ = true from rfl) ?_; conv => whnf) | (refine ⟨rfl, Ints.idx (by assumption) (by omega) (by omega) (fun p hp => ?_)⟩; conv => whnf) | (refine ⟨rfl, Rows.idx (by assumption) (by omega) (by omega) (fun p y hp hy => ?_)⟩; conv => whnf) | (refine HArith.fits (by omega) (by omega) ?_; conv => whnf) | (refine Or.inl (And.intro (show Region.lexB _ _ = true by kernel_rfl) ?_); conv => whnf)))
      refine ⟨rfl, m1.idx hil (fun p hp => ?_)⟩
      (conv => whnf)
      (repeat (first | (refine ⟨rfl, Ints.len (by assumption) ?_⟩; conv => whnf) | (refine ⟨rfl, Rows.len (by assumption) ?_⟩; conv => whnf) | (refine ⟨rfl, HLen.sl ?_⟩; conv => whnf) | (refine ⟨rfl, At.load (by assumption) ?_⟩; conv => whnf) | (refine HIf.yes ?_; conv => whnf) | (refine HIf.no ?_; conv => whnf) | (refine HIf.isT (by assumption) ?_; conv => whnf) | (refine HIf.isF (by assumption) ?_; conv => whnf) | (refine HIf.decT (by assumption) ?_; conv => whnf) | (refine HIf.decF (by assumption) ?_; conv => whnf) | (refine HIf.beqT (by assumption) ?_; conv => whnf) | (refine HIf.beqF (by assumption) ?_; conv => whnf) | (refine HIf.bneT (by assumption) ?_; conv => whnf) | (refine HIf.bneF (by assumption) ?_; conv => whnf) | (refine ⟨rfl, Ints.idxN (by assumption) (by omega) (fun p hp => ?_)⟩; conv => whnf) | (refine ⟨rfl, Rows.idxN (by assumption) (by omega) (fun p y hp hy => ?_)⟩; conv => whnf) | (refine And.intro (show Kd.isBool _ = true from rfl) ?_; conv => whnf) | (refine ⟨rfl, Ints.idx (by assumption) (by omega) (by omega) (fun p hp => ?_)⟩; conv => whnf) | (refine ⟨rfl, Rows.idx (by assumption) (by omega) (by omega) (fun p y hp hy => ?_)⟩; conv => whnf) | (refine HArith.fits (by omega) (by omega) ?_; conv => whnf) | (refine Or.inl (And.intro (show Region.lexB _ _ = true by kernel_rfl) ?_); conv => whnf)))
      refine (spec_l7Before _ _ _ _ _ hx1 hrow.ints hw hle).mono ?_
      rintro v h2 ⟨rfl, hh⟩
      subst h2
      cases hbf : beforeR w (L.getD i [])
      · rw [hbf] at hT
        (conv => whnf)
        (repeat (first | (refine ⟨rfl, Ints.len (by assumption) ?_⟩; conv => whnf) | (refine ⟨rfl, Rows.len (by assumption) ?_⟩; conv => whnf) | (refine ⟨rfl, HLen.sl ?_⟩; conv => whnf) | (refine ⟨rfl, At.load (by assumption) ?_⟩; conv => whnf) | (refine HIf.yes ?_; conv => whnf) | (refine HIf.no ?_; conv => whnf) | (refine HIf.isT (by assumption) ?_; conv => whnf) | (refine HIf.isF (by assumption) ?_; conv => whnf) | (refine HIf.decT (by assumption) ?_; conv => whnf) | (refine HIf.decF (by assumption) ?_; conv => whnf) | (refine HIf.beqT (by assumption) ?_; conv => whnf) | (refine HIf.beqF (by assumption) ?_; conv => whnf) | (refine HIf.bneT (by assumption) ?_; conv => whnf) | (refine HIf.bneF (by assumption) ?_; conv => whnf) | (refine ⟨rfl, Ints.idxN (by assumption) (by omega) (fun p hp => ?_)⟩; conv => whnf) | (refine ⟨rfl, Rows.idxN (by assumption) (by omega) (fun p y hp hy => ?_)⟩; conv => whnf) | (refine And.intro (show Kd.isBool _ = true from rfl) ?_; conv => whnf) | (refine ⟨rfl, Ints.idx (by assumption) (by omega) (by omega) (fun p hp => ?_)⟩; conv => whnf) | (refine ⟨rfl, Rows.idx (by assumption) (by omega) (by omega) (fun p y hp hy => ?_)⟩; conv => whnf) | (refine HArith.fits (by omega) (by omega) ?_; conv => whnf) | (refine Or.inl (And.intro (show Region.lexB _ _ = true by kernel_rfl) ?_); conv => whnf)))
        refine ⟨rfl, m1.idx hil (fun p2 hp2 => ?_)⟩
        (conv => whnf)
        refine ⟨rfl, hp2.load ?_⟩
        (conv => whnf)
        refine HLit.row rfl ?_
        (conv => whnf)
        refine ⟨rfl, rfl, HApp.snocS E M (Ext.refl _) hrow (by
          rintro (⟨m, hm, e⟩ | ⟨e, _⟩)
          · exact hne m hm e
          · cases e) (Or.inl (hρ i hil)) (by omega) (fun h3 z3 E3 hl3 M3 => ?_)⟩
        (conv => whnf)
        refine HArith.fits (by omega) (by omega) ?_
        (conv => whnf)
        refine ⟨⟨i + 1, false, z3, _, rfl, by omega, E3, M3.weaken ?_, (fun e => by cases e), (fun _ => by rw [List.append_assoc]; exact hT)⟩, by show L.length - (i + 1) < L.length - i; omega⟩
        rintro q _ ((⟨m, hm, e⟩ | ⟨e, _⟩) | e)
        · exact Or.inl ⟨m, by omega, e⟩
        · cases e
        · exact Or.inl ⟨i, by omega, e⟩
      · rw [hbf] at hT
        (conv => whnf)
        (repeat (first | (refine ⟨rfl, Ints.len (by assumption) ?_⟩; conv => whnf) | (refine ⟨rfl, Rows.len (by assumption) ?_⟩; conv => whnf) | (refine ⟨rfl, HLen.sl ?_⟩; conv => whnf) | (refine ⟨rfl, At.load (by assumption) ?_⟩; conv => whnf) | (refine HIf.yes ?_; conv => whnf) | (refine HIf.no ?_; conv => whnf) | (refine HIf.isT (by assumption) ?_; conv => whnf) | (refine HIf.isF (by assumption) ?_; conv => whnf) | (refine HIf.decT (by assumption) ?_; conv => whnf) | (refine HIf.decF (by assumption) ?_; conv => whnf) | (refine HIf.beqT (by assumption) ?_; conv => whnf) | (refine HIf.beqF (by assumption) ?_; conv => whnf) | (refine HIf.bneT (by assumption) ?_; conv => whnf) | (refine HIf.bneF (by assumption) ?_; conv => whnf) | (refine ⟨rfl, Ints.idxN (by assumption) (by omega) (fun p hp => ?_)⟩; conv => whnf) | (refine ⟨rfl, Rows.idxN (by assumption) (by omega) (fun p y hp hy => ?_)⟩; conv => whnf) | (refine And.intro (show Kd.isBool _ = true from rfl) ?_; conv => whnf) | (refine ⟨rfl, Ints.idx (by assumption) (by omega) (by omega) (fun p hp => ?_)⟩; conv => whnf) | (refine ⟨rfl, Rows.idx (by assumption) (by omega) (by omega) (fun p y hp hy => ?_)⟩; conv => whnf) | (refine HArith.fits (by omega) (by omega) ?_; conv => whnf) | (refine Or.inl (And.intro (show Region.lexB _ _ = true by kernel_rfl) ?_); conv => whnf)))
        refine HLit.empty ?_
        (conv => whnf)
        refine ⟨rfl, rfl, HApp.moreR (OwnR.push h' []) (hx1.ext (Ext.push _ _)) (by simp; omega) (fun h3 r3 y3 B3 hr3 O3 => ?_)⟩
        have E3 : Ext h' h3 := (Ext.push h' [Row.own []]).but B3 (Nat.le_refl _)
        have hl3 : h'.length ≤ r3 := by simp at hr3; omega
        rw [List.nil_append] at O3
        (conv => whnf)
        refine HLit.row (O3.own (b := 0) (by omega)).one ?_
        (conv => whnf)
        refine ⟨rfl, rfl, HApp.snocS E M E3 O3 (by
          rintro (⟨m, hm, e⟩ | ⟨e, _⟩)
          · have := hρ m (by omega)
            omega
          · cases e) (Or.inr hl3) (by omega) (fun h4 z4 E4 hl4 M4 => ?_)⟩
        have m4 := m0.ext E4
        have hrow4 := m4.inner' hil
        (conv => whnf)
        refine ⟨rfl, m4.idx hil (fun p2 hp2 => ?_)⟩
        (conv => whnf)
        refine ⟨rfl, hp2.load ?_⟩
        (conv => whnf)
        refine HLit.row rfl ?_
        (conv => whnf)
        refine ⟨rfl, rfl, HApp.snocS E4 M4 (Ext.refl _) hrow4 (by
          have := hρ i hil
          rintro ((⟨m, hm, e⟩ | ⟨e, _⟩) | e)
          · exact hne m hm e
          · cases e
          · omega) (Or.inl (hρ i hil)) (by simp; omega) (fun h5 z5 E5 hl5 M5 => ?_)⟩
        (conv => whnf)
        refine HArith.fits (by omega) (by omega) ?_
        (conv => whnf)
        refine ⟨⟨i + 1, true, z5, _, rfl, by omega, E5, M5.weaken ?_, (fun _ => by rw [List.append_assoc, List.append_assoc, ← hT, hda]; rfl), (fun e => by cases e)⟩, by show L.length - (i + 1) < L.length - i; omega⟩
        rintro q _ (((⟨m, hm, e⟩ | ⟨e, _⟩) | e) | e)
        · exact Or.inl ⟨m, by omega, e⟩
        · cases e
        · exact Or.inr ⟨rfl, by omega⟩
        · exact Or.inl ⟨i, by omega, e⟩
    · have hT := hT1 rfl
      rw [hda] at hT
      (conv => whnf)
      (repeat (first | (refine ⟨rfl, Ints.len (by assumption) ?_⟩; conv => whnf) | (refine ⟨rfl, Rows.len (by assumption) ?_⟩; conv => whnf) | (refine ⟨rfl, HLen.sl ?_⟩; conv => whnf) | (refine ⟨rfl, At.load (by assumption) ?_⟩; conv => whnf) | (refine HIf.yes ?_; conv => whnf) | (refine HIf.no ?_; conv => whnf) | (refine HIf.isT (by assumption) ?_; conv => whnf) | (refine HIf.isF (by assumption) ?_; conv => whnf) | (refine HIf.decT (by assumption) ?_; conv => whnf) | (refine HIf.decF (by assumption) ?_; conv => whnf) | (refine HIf.beqT (by assumption) ?_; conv => whnf) | (refine HIf.beqF (by assumption) ?_; conv => whnf) | (refine HIf.bneT (by assumption) ?_; conv => whnf) | (refine HIf.bneF (by assumption) ?_; conv => whnf) | (refine ⟨rfl, Ints.idxN (by assumption) (by omega) (fun p hp => ?_)⟩; conv => whnf) | (refine ⟨rfl, Rows.idxN (by assumption) (by omega) (fun p y hp hy => ?_)⟩; conv => whnf) | (refine And.intro (show Kd.isBool _ = true from rfl) ?_; conv => whnf) | (refine ⟨rfl, Ints.idx (by assumption) (by omega) (by omega) (fun p hp => ?_)⟩; conv => whnf) | (refine ⟨rfl, Rows.idx (by assumption) (by omega) (by omega) (fun p y hp hy => ?_)⟩; conv => whnf) | (refine HArith.fits (by omega) (by omega) ?_; conv => whnf) | (refine Or.inl (And.intro (show Region.lexB _ _ = true by kernel_rfl) ?_); conv => whnf)))
      refine ⟨rfl, m1.idx hil (fun p2 hp2 => ?_)⟩
      (conv => whnf)
      refine ⟨rfl, hp2.load ?_⟩
      (conv => whnf)
      refine HLit.row rfl ?_
      (conv => whnf)
      refine ⟨rfl, rfl, HApp.snocS E M (Ext.refl _) hrow (by
        have := hρ i hil
        rintro (⟨m, hm, e⟩ | ⟨_, e⟩)
        · exact hne m hm e
        · omega) (Or.inl (hρ i hil)) (by omega) (fun h3 z3 E3 hl3 M3 => ?_)⟩
      (conv => whnf)
      refine HArith.fits (by omega) (by omega) ?_
      (conv => whnf)
      refine ⟨⟨i + 1, true, z3, _, rfl, by omega, E3, M3.weaken ?_, (fun _ => by rw [List.append_assoc]; exact hT), (fun e => by cases e)⟩, by show L.length - (i + 1) < L.length - i; omega⟩
      rintro q _ ((⟨m, hm, e⟩ | ⟨_, e⟩) | e)
      · exact Or.inl ⟨m, by omega, e⟩
      · exact Or.inr ⟨rfl, e⟩
      · exact Or.inl ⟨i, by omega, e⟩
  · have e : i = L.length := by omega
    have hd : L.drop i = [] := List.drop_eq_nil_of_le (by omega)
    cases pl
    · have hT := hT2 rfl
      rw [hd] at hT
      (conv => whnf)
      (repeat (first | (refine ⟨rfl, Ints.len (by assumption) ?_⟩; conv => whnf) | (refine ⟨rfl, Rows.len (by assumption) ?_⟩; conv => whnf) | (refine ⟨rfl, HLen.sl ?_⟩; conv => whnf) | (refine ⟨rfl, At.load (by assumption) ?_⟩; conv => whnf) | (refine HIf.yes ?_; conv => whnf) | (refine HIf.no ?_; conv => whnf) | (refine HIf.isT (by assumption) ?_; conv => whnf) | (refine HIf.isF (by assumption) ?_; conv => whnf) | (refine HIf.decT (by assumption) ?_; conv => whnf) | (refine HIf.decF (by assumption) ?_; conv => whnf) | (refine HIf.beqT (by assumption) ?_; conv => whnf) | (refine HIf.beqF (by assumption) ?_; conv => whnf) | (refine HIf.bneT (by assumption) ?_; conv => whnf) | (refine HIf.bneF (by assumption) ?_; conv => whnf) | (refine ⟨rfl, Ints.idxN (by assumption) (by omega) (fun p hp => ?_)⟩; conv => whnf) | (refine ⟨rfl, Rows.idxN (by assumption) (by omega) (fun p y hp hy => ?_)⟩; conv => whnf) | (refine And.intro (show Kd.isBool _ = true from rfl) ?_; conv => whnf) | (refine ⟨rfl, Ints.idx (by assumption) (by omega) (by omega) (fun p hp => ?_)⟩; conv => whnf) | (refine ⟨rfl, Rows.idx (by assumption) (by omega) (by omega) (fun p y hp hy => ?_)⟩; conv => whnf) | (refine HArith.fits (by omega) (by omega) ?_; conv => whnf) | (refine Or.inl (And.intro (show Region.lexB _ _ = true by kernel_rfl) ?_); conv => whnf)))
      refine HLit.empty ?_
      (conv => whnf)
      refine ⟨rfl, rfl, HApp.moreR (OwnR.push h' []) (hx1.ext (Ext.push _ _)) (by simp; omega) (fun h3 r3 y3 B3 hr3 O3 => ?_)⟩
      have E3 : Ext h' h3 := (Ext.push h' [Row.own []]).but B3 (Nat.le_refl _)
      have hl3 : h'.length ≤ r3 := by simp at hr3; omega
      have hE := E.1
      rw [List.nil_append] at O3
      (conv => whnf)
      refine HLit.row (O3.own (b := 0) (by omega)).one ?_
      (conv => whnf)
      refine ⟨rfl, rfl, HApp.snocS E M E3 O3 (by
        rintro (⟨m, hm, e⟩ | ⟨e, _⟩)
        · have := hρ m (by omega)
          omega
        · cases e) (Or.inr hl3) (by omega) (fun h4 z4 E4 hl4 M4 => ?_)⟩
      (conv => whnf)
      refine ⟨_, rfl, E4, ?_⟩
      rw [← hT]
      refine M4.weaken ?_
      rintro q _ ((⟨m, hm, e⟩ | ⟨e, _⟩) | e)
      · exact Or.inl ⟨m, by omega, e⟩
      · cases e
      · exact Or.inr (by omega)
    · have hT := hT1 rfl
      rw [hd, List.append_nil] at hT
      (conv => whnf)
      (repeat (first | (refine ⟨rfl, Ints.len (by assumption) ?_⟩; conv => whnf) | (refine ⟨rfl, Rows.len (by assumption) ?_⟩; conv => whnf) | (refine ⟨rfl, HLen.sl ?_⟩; conv => whnf) | (refine ⟨rfl, At.load (by assumption) ?_⟩; conv => whnf) | (refine HIf.yes ?_; conv => whnf) | (refine HIf.no ?_; conv => whnf) | (refine HIf.isT (by assumption) ?_; conv => whnf) | (refine HIf.isF (by assumption) ?_; conv => whnf) | (refine HIf.decT (by assumption) ?_; conv => whnf) | (refine HIf.decF (by assumption) ?_; conv => whnf) | (refine HIf.beqT (by assumption) ?_; conv => whnf) | (refine HIf.beqF (by assumption) ?_; conv => whnf) | (refine HIf.bneT (by assumption) ?_; conv => whnf) | (refine HIf.bneF (by assumption) ?_; conv => whnf) | (refine ⟨rfl, Ints.idxN (by assumption) (by omega) (fun p hp => ?_)⟩; conv => whnf) | (refine ⟨rfl, Rows.idxN (by assumption) (by omega) (fun p y hp hy => ?_)⟩; conv => whnf) | (refine And.intro (show Kd.isBool _ = true from rfl) ?_; conv => whnf) | (refine ⟨rfl, Ints.idx (by assumption) (by omega) (by omega) (fun p hp => ?_)⟩; conv => whnf) | (refine ⟨rfl, Rows.idx (by assumption) (by omega) (by omega) (fun p y hp hy => ?_)⟩; conv => whnf) | (refine HArith.fits (by omega) (by omega) ?_; conv => whnf) | (refine Or.inl (And.intro (show Region.lexB _ _ = true by kernel_rfl) ?_); conv => whnf)))
      refine ⟨_, rfl, E, ?_⟩
      rw [← hT]
      refine M.weaken ?_
      rintro q _ (⟨m, hm, e⟩ | ⟨_, e⟩)
      · exact Or.inl ⟨m, by omega, e⟩
      · exact Or.inr e

end Go.Proofs.Ytnooeaemjnmkdaa.Hx
