/-
  Isomorphic matrices: of the program.
  The matrices of all types, of both sides.
-/
import Derived.Test.YtgliajcgcbnemaaGreatDoorZ14
namespace Go.Proofs.YtgliajcgcbnemaaGreatDoor.Hx
open Go.RowKit
variable {dm : Bool}

/-- What a slice of the program's own is, where only its number of entries matters. -/
def OwnAny (b q : Nat) (h : Heap) (cnt : Nat) : Prop := b ≤ q ∧ ∃ cs, h[q]? = some (.own cs) ∧ cnt ≤ cs.length ∧ ∀ c ∈ cs, c.one = true

theorem OwnAny.len {b q cnt : Nat} {h : Heap} (_ : OwnAny b q h cnt) {K : HV → Prop} (hK : K (I cnt)) : HLen (.s (.sl q 0 cnt)) K := HLen.sl hK
theorem OwnAny.ext {b q cnt : Nat} {h h' : Heap} (H : OwnAny b q h cnt) (E : Ext h h') : OwnAny b q h' cnt := by
  obtain ⟨h1, cs, h2, h3, h4⟩ := H
  exact ⟨h1, cs, E.row h2, h3, h4⟩
/-- A few entries, appended to nothing. -/
theorem HApp.any {b b2 q q2 cnt : Nat} {h0 h : Heap} {K : HV → Heap → Prop} (E : Ext h0 h) (hb : h0.length ≤ b) (H : OwnAny b q h 0) (H2 : OwnAny b2 q2 h cnt) (hc : cnt ≤ 1) (hK : ∀ h' q', Ext h0 h' → OwnAny b q' h' cnt → K (.s (.sl q' 0 cnt)) h') : HApp h (.s (.sl q 0 0)) (.s (.sl q2 0 cnt)) K := by
  obtain ⟨g1, cs, g2, g3, g4⟩ := H
  obtain ⟨k1, ds, k2, k3, k4⟩ := H2
  have hs := Shows.own q2 0 cnt ds k2 (by omega)
  have hl : ((ds.drop 0).take cnt).length = cnt := by simp; omega
  have ho : ∀ c ∈ (ds.drop 0).take cnt, c.one = true := fun c hc => k4 c (List.mem_of_mem_drop (List.mem_of_mem_take hc))
  generalize (ds.drop 0).take cnt = new at hs hl ho
  refine ⟨new, hs, ho, cs, rfl, g2, Nat.zero_le _, Or.inl ⟨by omega, ?_⟩⟩
  have e : 0 + new.length = cnt := by omega
  rw [e]
  have hlt := get_lt g2
  have hl2 : (h.set q .gone).length = h.length := by simp
  have hn := get_new (h.set q .gone) (.own (cs.take 0 ++ new))
  rw [hl2] at hn
  exact hK _ _ ((E.set (Nat.le_trans hb g1) _).pushed _) ⟨by omega, _, hn, by simp; omega, by simpa using ho⟩

theorem HLit.anyNil {z : Value} {h0 h : Heap} {K : HV → Heap → Prop} (E : Ext h0 h) (hK : ∀ h' q, Ext h h' → Ext h0 h' → OwnAny h0.length q h' 0 → K (.s (.sl q 0 0)) h') : HLit z 0 (some []) h K :=
  HLit.empty (hK _ _ (Ext.push _ _) (E.pushed _) ⟨E.1, [], get_new _ _, Nat.le_refl _, by simp⟩)

/-- An order as the program hands it on: nil, or a row of its own. -/
def OrdR (h : Heap) (x : H0) (o : List Int) : Prop := (x = .pl (.slice none 0 0) ∧ o = []) ∨ ∃ r, OwnR r h x o
theorem OrdR.ints {h : Heap} {x : H0} {o : List Int} (H : OrdR h x o) : Ints h x o := by
  rcases H with ⟨rfl, rfl⟩ | ⟨r, H⟩
  · exact Shows.nils _ _
  · exact H.ints
def FitAt (a b : List (List Int)) (o : List Int) (i j : Nat) : Prop := ent a i (o.getD j 0).toNat = ent b o.length j ∧ ent a (o.getD j 0).toNat i = ent b j o.length

theorem HApp.nilOne {h : Heap} {v : Int} {K : HV → Heap → Prop} (hK : ∀ h' r y, Ext h h' → h.length ≤ r → OwnR r h' y [v] → K (.s y) h') : HApp (h ++ [.own [ci v]]) (.s (.pl (.slice none 0 0))) (.s (.sl h.length 0 1)) K := by
  have hs : Shows (h ++ [Row.own [ci v]]) (.s (.sl h.length 0 1)) [ci v] := Shows.own h.length 0 1 [ci v] (get_new _ _) (by simp)
  refine ⟨[ci v], hs, fun c hc => ?_, by simp, ?_⟩
  · obtain rfl : c = ci v := by simpa using hc
    rfl
  · show K _ _
    exact hK _ (h ++ [Row.own [ci v]]).length _ ((Ext.push _ _).pushed _) (by simp) (OwnR.push (h ++ [Row.own [ci v]]) [v])


theorem lib_Clone2 (h : Heap) (r : Nat) (x : H0) (l : List Int) (hx : OwnR r h x l) (hl : l.length ≤ 1048576) :
    HCalls dm Tryz.prog 262 [.s x] h (fun v h' => ∃ y, v = .s y ∧ Fresh h h' y l) := by
  have hi := hx.ints
  obtain ⟨t, rfl, hr⟩ := hx
  refine calls_of_hFun (m := 0) kd_ok mixed Tryz.func262 rfl (by kernel_rfl) rfl rfl (of_decide_eq_true rfl) ?_; unfold hFun; (conv => whnf)
  refine ⟨rfl, ?_⟩
  (conv => whnf)
  refine HIf.no ?_
  (conv => whnf)
  refine HLit.empty ?_
  (conv => whnf)
  refine ⟨rfl, rfl, HApp.moreR (OwnR.push h []) (hi.ext (Ext.push _ _)) (by rw [List.length_nil]; omega) (fun h2 r2 y2 B2 hr2 O2 => ?_)⟩
  rw [List.nil_append] at O2
  (conv => whnf)
  exact ⟨_, rfl, Fresh.ofRow ((Ext.push h [Row.own []]).but B2 (Nat.le_refl _)) O2 (by simp at hr2; omega)⟩

theorem lib_CloneNil (h : Heap) : HCalls dm Tryz.prog 262 [.s (.pl (.slice none 0 0))] h (fun v h' => v = .s (.pl (.slice none 0 0)) ∧ h' = h) := by
  refine calls_of_hFun (m := 0) kd_ok mixed Tryz.func262 rfl (by kernel_rfl) rfl rfl (of_decide_eq_true rfl) ?_; unfold hFun; (conv => whnf)
  refine ⟨rfl, ?_⟩
  (conv => whnf)
  refine HIf.yes ?_
  (conv => whnf)
  exact ⟨rfl, rfl⟩

set_option maxHeartbeats 4000000 in
theorem impl_matches {a b : List (List Int)} (ha : Cartan a) (hb : Cartan b) (hl : a.length = b.length) : ∀ (f : Nat) (h : Heap) (x0 x1 x2 : H0) (o : List Int), Rows h x0 a → Rows h x1 b → OrdR h x2 o → OrdOk a.length o → o.length + f = a.length →
    HCalls dm Tryz.prog 233 [.s x0, .s x1, .s x2, I 1] h (fun r h' => ∃ q cnt, r = .s (.sl q 0 cnt) ∧ Ext h h' ∧ OwnAny h.length q h' cnt ∧ cnt ≤ 1 ∧ (0 < cnt ↔ ExtM a b f o)) := by
  have ha4 := ha.le
  have hap := ha.pos
  intro f
  induction f with
  | zero =>
    intro h x0 x1 x2 o hx0 hx1 hx2 hok hlen
    have hxi := hx2.ints
    refine calls_of_hFun (m := 0) kd_ok mixed Tryz.func233 rfl (by kernel_rfl) rfl rfl (of_decide_eq_true rfl) ?_; unfold hFun; (conv => whnf)
    refine ⟨rfl, hxi.len ?_⟩
    (conv => whnf)
    refine ⟨rfl, hx1.len ?_⟩
    (conv => whnf)
    refine HIf.beqT (by omega) ?_
    (conv => whnf)
    obtain ⟨r, O⟩ : ∃ r, OwnR r h x2 o := by
      rcases hx2 with ⟨_, e⟩ | H
      · subst e; simp at hlen; omega
      · exact H
    refine (lib_Clone2 _ r _ o O (by omega)).mono ?_
    rintro v h2 ⟨y, rfl, F⟩
    (conv => whnf)
    refine HLit.row F.own.one ?_
    (conv => whnf)
    exact ⟨h2.length, 1, rfl, F.1.pushed _, ⟨F.1.1, [y], get_new _ _, by simp, fun c hc => by
      obtain rfl : c = y := by simpa using hc
      exact F.own.one⟩, Nat.le_refl _, ⟨fun _ => trivial, fun _ => by omega⟩⟩
  | succ f ih =>
    intro h x0 x1 x2 o hx0 hx1 hx2 hok hlen
    have hxi := hx2.ints
    have hext : ExtM a b (f + 1) o ↔ ∃ i : Nat, i < a.length ∧ (i : Int) ∉ o ∧ Fit a b o i ∧ ExtM a b f (o ++ [(i : Int)]) := Iff.rfl
    refine calls_of_hFun (m := 0) kd_ok mixed Tryz.func233 rfl (by kernel_rfl) rfl rfl (of_decide_eq_true rfl) ?_; unfold hFun; (conv => whnf)
    refine ⟨rfl, hxi.len ?_⟩
    (conv => whnf)
    refine ⟨rfl, hx1.len ?_⟩
    (conv => whnf)
    refine HIf.beqF (by omega) ?_
    (conv => whnf)
    refine HLit.anyNil (Ext.refl h) (fun h1 q1 _ E1 O1 => ?_)
    (conv => whnf)
    refine ⟨rfl, (hx0.ext E1).len ?_⟩
    (conv => whnf)
    refine HLoop.intro [27, 10] [28, 29, 11, 30, 31, 32, 12, 33, 34, 35, 36, 37, 38, 39, 13, 14, 40, 41, 42, 43, 44, 45, 46, 47, 48, 49, 50, 51, 52, 53, 54, 55, 56, 57, 58, 59, 60, 61, 62, 63, 64, 65, 66, 67, 68, 69, 70, 71, 72, 73, 74, 12, 75, 35, 76, 77, 78, 79, 80, 81, 82, 83, 84, 85, 86, 87, 88, 89, 90, 10, 91, 92, 93, 94, 95, 27] (by kernel_rfl) (by kernel_rfl) (fun vs h' => ∃ i q : Nat, vs = [I i, .s (.sl q 0 0)] ∧ i ≤ a.length ∧ Ext h h' ∧ OwnAny h.length q h' 0 ∧ ∀ t : Nat, t < i → ¬ ((t : Int) ∉ o ∧ Fit a b o t ∧ ExtM a b f (o ++ [(t : Int)]))) (fun vs _ => a.length - natAt vs 0) ⟨0, q1, rfl, by omega, E1, O1, fun t ht => by omega⟩ ?_
    clear E1 O1
    rintro vs h' ⟨i, q, rfl, hi, E, O, hno⟩
    have hx0' := hx0.ext E
    have hx1' := hx1.ext E
    have hxi' := hxi.ext E
    (conv => whnf)
    refine HIf.dec (fun hlt => ?_) (fun hge => ?_)
    rotate_left
    · have ei : i = a.length := by omega
      (conv => whnf)
      refine ⟨q, 0, rfl, E, O, by omega, ⟨fun e => by omega, fun e => ?_⟩⟩
      obtain ⟨t, h1, h2⟩ := hext.1 e
      exact absurd h2 (hno t (by omega))
    have hil : i < a.length := by omega
    have next : ¬ ((i : Int) ∉ o ∧ Fit a b o i ∧ ExtM a b f (o ++ [(i : Int)])) → ∀ t : Nat, t < i + 1 → ¬ ((t : Int) ∉ o ∧ Fit a b o t ∧ ExtM a b f (o ++ [(t : Int)])) := fun hn t ht => by
      by_cases e : t = i
      · subst e; exact hn
      · exact hno t (by omega)
    (conv => whnf)
    refine (lib_Contains _ _ o (i : Int) hxi' (by omega)).mono ?_
    rintro v h3 ⟨rfl, hh⟩
    subst h3
    (conv => whnf)
    by_cases hin : (i : Int) ∈ o
    · refine HIf.decT hin ?_
      (conv => whnf)
      refine HArith.fits (by omega) (by omega) ?_
      (conv => whnf)
      exact ⟨⟨i + 1, q, rfl, by omega, E, O, next fun k => k.1 hin⟩, by show a.length - (i + 1) < a.length - i; omega⟩
    refine HIf.decF hin ?_
    (conv => whnf)
    refine ⟨rfl, hxi'.len ?_⟩
    (conv => whnf)
    refine HLoop.intro [35, 12] [36, 37, 38, 39, 13, 14, 40, 41, 42, 43, 44, 45, 46, 47, 48, 49, 50, 51, 52, 53, 54, 55, 56, 57, 58, 59, 60, 61, 62, 63, 64, 65, 66, 67, 68, 69, 70, 71, 72, 73, 74, 12, 75, 35] (by kernel_rfl) (by kernel_rfl) (fun vs h2 => ∃ (j : Nat) (ft : Bool), vs = [I j, B ft] ∧ j ≤ o.length ∧ h2 = h' ∧ (ft = true ↔ ∀ t, t < j → FitAt a b o i t)) (fun vs _ => o.length - natAt vs 0) ⟨0, true, rfl, by omega, rfl, ⟨fun _ t ht => by omega, fun _ => rfl⟩⟩ ?_
    rintro vs h2 ⟨j, ft, rfl, hj, hh, hft⟩
    subst h2
    (conv => whnf)
    refine HIf.dec (fun hltj => ?_) (fun hgej => ?_)
    · have hjl : j < o.length := by omega
      obtain ⟨p, hp, hpn⟩ := hok.at hjl
      have hra := ha.row i hil
      have hrp := ha.row p hpn
      have hrk := hb.row o.length (by omega)
      have hrj := hb.row j (by omega)
      have fat : FitAt a b o i j ↔ ent a i p = ent b o.length j ∧ ent a p i = ent b j o.length := by
        unfold FitAt
        rw [hp, Int.toNat_natCast]
      (conv => whnf)
      refine ⟨rfl, Ints.idxN hxi' hjl (fun p1 hp1 => ?_)⟩
      rw [hp] at hp1
      (conv => whnf)
      refine ⟨rfl, hp1.load ?_⟩
      (conv => whnf)
      refine Or.inl (And.intro (show Region.lexB _ _ = true by kernel_rfl) ?_); (conv => whnf)
      cases ft
      · (repeat (first | (refine HIf.no ?_; conv => whnf)))
        refine HArith.fits (by omega) (by omega) ?_
        (conv => whnf)
        exact ⟨⟨j + 1, false, rfl, by omega, rfl, ⟨(fun e => by cases e), fun k => hft.2 fun t ht => k t (by omega)⟩⟩, by show o.length - (j + 1) < o.length - j; omega⟩
      have hft1 := hft.1 rfl
      (repeat (first | (refine HIf.yes ?_; conv => whnf)))
      refine ⟨rfl, Rows.idxN hx0' hil (fun p2 y2 hp2 hy2 => ?_)⟩
      (conv => whnf)
      (repeat (first | (refine HIf.yes ?_; conv => whnf)))
      refine ⟨rfl, hp2.load ?_⟩
      (conv => whnf)
      (repeat (first | (refine HIf.yes ?_; conv => whnf)))
      refine ⟨rfl, Ints.idxN hy2 (by omega) (fun p3 hp3 => ?_)⟩
      (conv => whnf)
      (repeat (first | (refine HIf.yes ?_; conv => whnf)))
      refine ⟨rfl, hp3.load ?_⟩
      rw [ent_eq]
      (conv => whnf)
      (repeat (first | (refine HIf.yes ?_; conv => whnf)))
      refine ⟨rfl, Rows.idxN hx1' (by omega) (fun p4 y4 hp4 hy4 => ?_)⟩
      (conv => whnf)
      (repeat (first | (refine HIf.yes ?_; conv => whnf)))
      refine ⟨rfl, hp4.load ?_⟩
      (conv => whnf)
      (repeat (first | (refine HIf.yes ?_; conv => whnf)))
      refine ⟨rfl, Ints.idxN hy4 (by omega) (fun p5 hp5 => ?_)⟩
      (conv => whnf)
      (repeat (first | (refine HIf.yes ?_; conv => whnf)))
      refine ⟨rfl, hp5.load ?_⟩
      rw [ent_eq]
      (conv => whnf)
      (repeat (first | (refine HIf.yes ?_; conv => whnf)))
      generalize hea : ent a i p = ea at *
      generalize heb : ent b o.length j = eb at *
      by_cases he1 : ea = eb
      rotate_left
      · (repeat (refine HIf.beqF he1 ?_; conv => whnf))
        (repeat (first | (refine HIf.no ?_; conv => whnf)))
        refine HArith.fits (by omega) (by omega) ?_
        (conv => whnf)
        exact ⟨⟨j + 1, _, rfl, by omega, rfl, ⟨(fun e => by cases e), fun k => absurd (fat.1 (k j (by omega))).1 he1⟩⟩, by show o.length - (j + 1) < o.length - j; omega⟩
      refine HIf.beqT he1 ?_
      (conv => whnf)
      refine HIf.beqT he1 ?_
      (conv => whnf)
      refine HIf.beqT he1 ?_
      (conv => whnf)
      refine ⟨rfl, Rows.idxN hx0' hpn (fun p6 y6 hp6 hy6 => ?_)⟩
      (conv => whnf)
      refine HIf.beqT he1 ?_
      (conv => whnf)
      refine ⟨rfl, hp6.load ?_⟩
      (conv => whnf)
      refine HIf.beqT he1 ?_
      (conv => whnf)
      refine HIf.beqT he1 ?_
      (conv => whnf)
      refine ⟨rfl, Ints.idxN hy6 (by omega) (fun p7 hp7 => ?_)⟩
      (conv => whnf)
      refine HIf.beqT he1 ?_
      (conv => whnf)
      refine ⟨rfl, hp7.load ?_⟩
      rw [ent_eq]
      (conv => whnf)
      refine HIf.beqT he1 ?_
      (conv => whnf)
      refine HIf.beqT he1 ?_
      (conv => whnf)
      refine HIf.beqT he1 ?_
      (conv => whnf)
      refine ⟨rfl, Rows.idxN hx1' (by omega) (fun p8 y8 hp8 hy8 => ?_)⟩
      (conv => whnf)
      refine HIf.beqT he1 ?_
      (conv => whnf)
      refine ⟨rfl, hp8.load ?_⟩
      (conv => whnf)
      refine HIf.beqT he1 ?_
      (conv => whnf)
      refine HIf.beqT he1 ?_
      (conv => whnf)
      refine ⟨rfl, Ints.idxN hy8 (by omega) (fun p9 hp9 => ?_)⟩
      (conv => whnf)
      refine HIf.beqT he1 ?_
      (conv => whnf)
      refine ⟨rfl, hp9.load ?_⟩
      rw [ent_eq]
      (conv => whnf)
      (repeat (refine HIf.beqT he1 ?_; conv => whnf))
      refine HArith.fits (by omega) (by omega) ?_
      (conv => whnf)
      refine ⟨⟨j + 1, _, rfl, by omega, rfl, ⟨fun e t ht => ?_, fun k => ?_⟩⟩, by show o.length - (j + 1) < o.length - j; omega⟩
      · by_cases et : t = j
        · subst et
          exact fat.2 ⟨he1, by simpa using e⟩
        · exact hft1 t (by omega)
      · have := (fat.1 (k j (by omega))).2
        simpa using this
    have ej : j = o.length := by omega
    subst ej
    have hfit : ft = true ↔ Fit a b o i := hft
    (conv => whnf)
    cases ft
    · refine HIf.no ?_
      (conv => whnf)
      refine ⟨rfl, O.len ?_⟩
      (conv => whnf)
      refine HIf.decF (by omega) ?_
      (conv => whnf)
      refine HArith.fits (by omega) (by omega) ?_
      (conv => whnf)
      exact ⟨⟨i + 1, q, rfl, by omega, E, O, next fun k => by have := hfit.2 k.2.1; cases this⟩, by show a.length - (i + 1) < a.length - i; omega⟩
    have hF := hfit.1 rfl
    refine HIf.yes ?_
    (conv => whnf)
    rcases hx2 with ⟨rfl, rfl⟩ | ⟨rx, hx2⟩
    · refine (lib_CloneNil _).mono ?_
      rintro v h3 ⟨rfl, hh⟩
      subst h3
      (conv => whnf)
      refine HLit.one ?_
      (conv => whnf)
      refine ⟨rfl, rfl, HApp.nilOne (fun h3 r3 y3 E3 hr3 O3 => ?_)⟩
      (conv => whnf)
      refine ⟨rfl, (O.ext E3).len ?_⟩
      (conv => whnf)
      refine HArith.to (e' := 1) (by omega) (by omega) (by omega) ?_
      (conv => whnf)
      refine (ih _ _ _ _ _ (hx0'.ext E3) (hx1'.ext E3) (Or.inr ⟨r3, O3⟩) (hok.snoc hil hin) (by simp only [List.length_nil, List.length_singleton, List.length_append] at hlen ⊢; omega)).mono ?_
      rintro v h4 ⟨q4, cnt, rfl, E4, O4, hc, hiff⟩
      have E34 := E3.trans E4
      (conv => whnf)
      refine ⟨rfl, rfl, HApp.any (E.trans E34) (Nat.le_refl _) (O.ext E34) O4 hc (fun h5 q5 E5 O5 => ?_)⟩
      (conv => whnf)
      refine ⟨rfl, O5.len ?_⟩
      (conv => whnf)
      refine HIf.dec (fun hge => ?_) (fun hlt0 => ?_)
      · (conv => whnf)
        exact ⟨q5, cnt, rfl, E5, O5, hc, ⟨fun _ => hext.2 ⟨i, hil, hin, hF, hiff.1 (by omega)⟩, fun _ => by omega⟩⟩
      · obtain rfl : cnt = 0 := by omega
        (conv => whnf)
        refine HArith.fits (by omega) (by omega) ?_
        (conv => whnf)
        exact ⟨⟨i + 1, q5, rfl, by omega, E5, O5, next fun k => by have := hiff.2 k.2.2; omega⟩, by show a.length - (i + 1) < a.length - i; omega⟩
    · refine (lib_Clone2 _ rx _ o (hx2.ext E) (by omega)).mono ?_
      rintro v h2 ⟨y2, rfl, F⟩
      obtain ⟨r2, hr2, O2⟩ := F.row
      (conv => whnf)
      refine HLit.one ?_
      (conv => whnf)
      refine ⟨rfl, rfl, HApp.litR [(i : Int)] O2 (by simp; omega) (fun h3 r3 y3 B3 hr3 O3 => ?_)⟩
      have E3 : Ext h' h3 := F.1.but B3 hr2
      (conv => whnf)
      refine ⟨rfl, (O.ext E3).len ?_⟩
      (conv => whnf)
      refine HArith.to (e' := 1) (by omega) (by omega) (by omega) ?_
      (conv => whnf)
      refine (ih _ _ _ _ _ (hx0'.ext E3) (hx1'.ext E3) (Or.inr ⟨r3, O3⟩) (hok.snoc hil hin) (by simp only [List.length_nil, List.length_singleton, List.length_append] at hlen ⊢; omega)).mono ?_
      rintro v h4 ⟨q4, cnt, rfl, E4, O4, hc, hiff⟩
      have E34 := E3.trans E4
      (conv => whnf)
      refine ⟨rfl, rfl, HApp.any (E.trans E34) (Nat.le_refl _) (O.ext E34) O4 hc (fun h5 q5 E5 O5 => ?_)⟩
      (conv => whnf)
      refine ⟨rfl, O5.len ?_⟩
      (conv => whnf)
      refine HIf.dec (fun hge => ?_) (fun hlt0 => ?_)
      · (conv => whnf)
        exact ⟨q5, cnt, rfl, E5, O5, hc, ⟨fun _ => hext.2 ⟨i, hil, hin, hF, hiff.1 (by omega)⟩, fun _ => by omega⟩⟩
      · obtain rfl : cnt = 0 := by omega
        (conv => whnf)
        refine HArith.fits (by omega) (by omega) ?_
        (conv => whnf)
        exact ⟨⟨i + 1, q5, rfl, by omega, E5, O5, next fun k => by have := hiff.2 k.2.2; omega⟩, by show a.length - (i + 1) < a.length - i; omega⟩

set_option maxHeartbeats 1000000 in
theorem impl_AreIsomorphic (h : Heap) (x0 : H0) (a : List (List Int)) (x1 : H0) (b : List (List Int)) (hx0 : Rows h x0 a) (hx1 : Rows h x1 b) (ha : isCartan a = true) (hb : isCartan b = true) :
    HCalls dm Tryz.prog 192 [.s x0, .s x1] h (fun r h' => ∃ y, r = T2 y (isoB a b) ∧ Ext h h') := by
  have hA := (isCartan_iff a).1 ha
  have hB := (isCartan_iff b).1 hb
  have ha4 := hA.le
  have hb4 := hB.le
  obtain ⟨V, hV⟩ : ∃ V, V = isoB a b := ⟨_, rfl⟩
  rw [← hV]
  refine calls_of_hFun (m := 0) kd_ok mixed Tryz.func192 rfl (by kernel_rfl) rfl rfl (of_decide_eq_true rfl) ?_; unfold hFun; (conv => whnf)
  refine (impl_IsCartan _ _ _ hx0 (by omega)).mono ?_
  rintro r h1 ⟨rfl, hh⟩
  subst h1
  rw [ha]
  (conv => whnf)
  (repeat (first | (refine HIf.yes ?_; conv => whnf) | (refine HIf.no ?_; conv => whnf)))
  refine (impl_IsCartan _ _ _ hx1 (by omega)).mono ?_
  rintro r h1 ⟨rfl, hh⟩
  subst h1
  rw [hb]
  (conv => whnf)
  (repeat (first | (refine HIf.yes ?_; conv => whnf) | (refine HIf.no ?_; conv => whnf) | (refine ⟨rfl, hx0.len ?_⟩; conv => whnf) | (refine ⟨rfl, hx1.len ?_⟩; conv => whnf)))
  by_cases hl : (a.length : Int) = (b.length : Int)
  rotate_left
  · refine HIf.bneT hl ?_
    (conv => whnf)
    refine HLit.empty ?_
    (conv => whnf)
    have : V = false := by rw [hV, isoB_offl (Or.inr (Or.inr (by omega)))]
    rw [this]
    exact ⟨_, rfl, Ext.push _ _⟩
  have hln : a.length = b.length := by omega
  have iff := (isoB_on ha hb hln).trans (iso_iff hA hB hln).symm
  rw [← hV] at iff
  refine HIf.bneF hl ?_
  (conv => whnf)
  refine (impl_matches hA hB hln a.length _ _ _ (.pl (.slice none 0 0)) [] hx0 hx1 (Or.inl ⟨rfl, rfl⟩) (by simp [OrdOk]) (by simp)).mono ?_
  rintro r h2 ⟨q, cnt, rfl, E2, O2, hc, hiff⟩
  rw [← iff] at hiff
  (conv => whnf)
  refine ⟨rfl, O2.len ?_⟩
  (conv => whnf)
  refine HIf.beq (fun h0 => ?_) (fun h0 => ?_)
  · have : V = false := by
      cases hv : V
      · rfl
      · have := hiff.2 hv
        omega
    rw [this]
    (conv => whnf)
    refine HLit.empty ?_
    (conv => whnf)
    exact ⟨_, rfl, E2.pushed _⟩
  · have : V = true := hiff.1 (by omega)
    rw [this]
    obtain ⟨_, cs, hq, hcl, h1⟩ := O2
    have hcl0 : 0 < cs.length := by omega
    (conv => whnf)
    refine ⟨rfl, HIdx.sl (by omega) (by omega) ?_⟩
    (conv => whnf)
    refine ⟨rfl, At.load ⟨q, 0, _, cs, rfl, hq, rfl, List.getElem?_eq_getElem hcl0⟩ ?_⟩
    (conv => whnf)
    exact ⟨_, rfl, E2⟩

end Go.Proofs.YtgliajcgcbnemaaGreatDoor.Hx

namespace Go.Proofs.YtgliajcgcbnemaaGreatDoor.Hx
open Go.RowKit
variable {dm : Bool}

/-- The names of all types, each with its matrix. -/
def typeL : List (ByteArray × List (List Int)) := [(⟨#[65, 49]⟩, chainC 1), (⟨#[65, 50]⟩, chainC 2), (⟨#[65, 51]⟩, chainC 3), (⟨#[65, 52]⟩, chainC 4), (⟨#[66, 50]⟩, setC (chainC 2) 0 1 (-1) (-2)), (⟨#[66, 51]⟩, setC (chainC 3) 1 2 (-1) (-2)), (⟨#[66, 52]⟩, setC (chainC 4) 2 3 (-1) (-2)), (⟨#[67, 51]⟩, setC (chainC 3) 1 2 (-2) (-1)), (⟨#[67, 52]⟩, setC (chainC 4) 2 3 (-2) (-1)), (⟨#[68, 52]⟩, setC (setC (chainC 4) 2 3 0 0) 1 3 (-1) (-1)), (⟨#[70, 52]⟩, setC (chainC 4) 1 2 (-1) (-2)), (⟨#[71, 50]⟩, setC (chainC 2) 0 1 (-1) (-3)), (⟨#[65, 49, 126]⟩, setC (chainC 2) 0 1 (-2) (-2)), (⟨#[65, 50, 126]⟩, setC (chainC 3) 0 2 (-1) (-1)), (⟨#[65, 51, 126]⟩, setC (chainC 4) 0 3 (-1) (-1)), (⟨#[67, 50, 126]⟩, setC (setC (chainC 3) 0 1 (-1) (-2)) 1 2 (-2) (-1)), (⟨#[71, 50, 126]⟩, setC (chainC 3) 1 2 (-1) (-3))]
theorem tyA1 : ((⟨#[65, 49]⟩ : ByteArray), chainC 1) ∈ typeL := by simp [typeL]
theorem tyA2 : ((⟨#[65, 50]⟩ : ByteArray), chainC 2) ∈ typeL := by simp [typeL]
theorem tyA3 : ((⟨#[65, 51]⟩ : ByteArray), chainC 3) ∈ typeL := by simp [typeL]
theorem tyA4 : ((⟨#[65, 52]⟩ : ByteArray), chainC 4) ∈ typeL := by simp [typeL]
theorem tyB2 : ((⟨#[66, 50]⟩ : ByteArray), setC (chainC 2) 0 1 (-1) (-2)) ∈ typeL := by simp [typeL]
theorem tyB3 : ((⟨#[66, 51]⟩ : ByteArray), setC (chainC 3) 1 2 (-1) (-2)) ∈ typeL := by simp [typeL]
theorem tyB4 : ((⟨#[66, 52]⟩ : ByteArray), setC (chainC 4) 2 3 (-1) (-2)) ∈ typeL := by simp [typeL]
theorem tyC3 : ((⟨#[67, 51]⟩ : ByteArray), setC (chainC 3) 1 2 (-2) (-1)) ∈ typeL := by simp [typeL]
theorem tyC4 : ((⟨#[67, 52]⟩ : ByteArray), setC (chainC 4) 2 3 (-2) (-1)) ∈ typeL := by simp [typeL]
theorem tyD4 : ((⟨#[68, 52]⟩ : ByteArray), setC (setC (chainC 4) 2 3 0 0) 1 3 (-1) (-1)) ∈ typeL := by simp [typeL]
theorem tyF4 : ((⟨#[70, 52]⟩ : ByteArray), setC (chainC 4) 1 2 (-1) (-2)) ∈ typeL := by simp [typeL]
theorem tyG2 : ((⟨#[71, 50]⟩ : ByteArray), setC (chainC 2) 0 1 (-1) (-3)) ∈ typeL := by simp [typeL]
theorem tyA1t : ((⟨#[65, 49, 126]⟩ : ByteArray), setC (chainC 2) 0 1 (-2) (-2)) ∈ typeL := by simp [typeL]
theorem tyA2t : ((⟨#[65, 50, 126]⟩ : ByteArray), setC (chainC 3) 0 2 (-1) (-1)) ∈ typeL := by simp [typeL]
theorem tyA3t : ((⟨#[65, 51, 126]⟩ : ByteArray), setC (chainC 4) 0 3 (-1) (-1)) ∈ typeL := by simp [typeL]
theorem tyC2t : ((⟨#[67, 50, 126]⟩ : ByteArray), setC (setC (chainC 3) 0 1 (-1) (-2)) 1 2 (-2) (-1)) ∈ typeL := by simp [typeL]
theorem tyG2t : ((⟨#[71, 50, 126]⟩ : ByteArray), setC (chainC 3) 1 2 (-1) (-3)) ∈ typeL := by simp [typeL]

/-- Entries of a matrix are set: rows, columns and values by threes. -/
def withE : List (List Int) → List Int → List (List Int)
  | L, i :: j :: v :: t => withE (setM L i.toNat j.toNat v) t
  | L, _ => L
theorem withE_step {L : List (List Int)} {es : List Int} {k : Nat} (h : k + 2 < es.length) : withE L (es.drop k) = withE (setM L (es.getD k 0).toNat (es.getD (k + 1) 0).toNat (es.getD (k + 2) 0)) (es.drop (k + 3)) := by
  rw [List.drop_eq_getElem_cons (show k < es.length by omega), List.drop_eq_getElem_cons (show k + 1 < es.length by omega), List.drop_eq_getElem_cons (show k + 1 + 1 < es.length by omega)]
  simp [withE, List.getD, show k < es.length by omega, show k + 1 < es.length by omega, show k + 2 < es.length by omega]
theorem withE_end {L : List (List Int)} {es : List Int} {k : Nat} (h : es.length ≤ k + 2) : withE L (es.drop k) = L := by
  have hl : (es.drop k).length ≤ 2 := by simp; omega
  match es.drop k, hl with
  | [], _ => rfl
  | [_], _ => rfl
  | [_, _], _ => rfl
theorem weB2 : withE (chainC 2) [1, 0, -2] = setC (chainC 2) 0 1 (-1) (-2) := by decide +kernel
theorem weB3 : withE (chainC 3) [2, 1, -2] = setC (chainC 3) 1 2 (-1) (-2) := by decide +kernel
theorem weB4 : withE (chainC 4) [3, 2, -2] = setC (chainC 4) 2 3 (-1) (-2) := by decide +kernel
theorem weC3 : withE (chainC 3) [1, 2, -2] = setC (chainC 3) 1 2 (-2) (-1) := by decide +kernel
theorem weC4 : withE (chainC 4) [2, 3, -2] = setC (chainC 4) 2 3 (-2) (-1) := by decide +kernel
theorem weD4 : withE (chainC 4) [2, 3, 0, 3, 2, 0, 1, 3, -1, 3, 1, -1] = setC (setC (chainC 4) 2 3 0 0) 1 3 (-1) (-1) := by decide +kernel
theorem weF4 : withE (chainC 4) [2, 1, -2] = setC (chainC 4) 1 2 (-1) (-2) := by decide +kernel
theorem weG2 : withE (chainC 2) [1, 0, -3] = setC (chainC 2) 0 1 (-1) (-3) := by decide +kernel
theorem weA1t : withE (chainC 2) [0, 1, -2, 1, 0, -2] = setC (chainC 2) 0 1 (-2) (-2) := by decide +kernel
theorem weA2t : withE (chainC 3) [0, 2, -1, 2, 0, -1] = setC (chainC 3) 0 2 (-1) (-1) := by decide +kernel
theorem weA3t : withE (chainC 4) [0, 3, -1, 3, 0, -1] = setC (chainC 4) 0 3 (-1) (-1) := by decide +kernel
theorem weC2t : withE (chainC 3) [1, 0, -2, 1, 2, -2] = setC (setC (chainC 3) 0 1 (-1) (-2)) 1 2 (-2) (-1) := by decide +kernel
theorem weG2t : withE (chainC 3) [2, 1, -3] = setC (chainC 3) 1 2 (-1) (-3) := by decide +kernel

theorem HLit.many {z : Value} (l : List Int) {n : Nat} {h : Heap} {K : HV → Heap → Prop} (hn : n = l.length) (hl : l.length ≤ 4096) (hK : K (.s (.sl h.length 0 n)) (h ++ [.own (l.map ci)])) : HLit z n (some (l.map ci)) h K :=
  ⟨l.map ci, rfl, by simp [hn], by omega, by simp [H0.one, Value.oneCell'], hK⟩
theorem MatAt.ownLow {h : Heap} {r b : Nat} {ρ : Nat → Nat} {L : List (List Int)} (m : MatAt h r ρ L) {x : H0} (hx : x = .sl r 0 L.length) (hb : b ≤ r) (hρ : ∀ i, i < L.length → b ≤ ρ i) : OwnM b h.length h x L := by
  obtain ⟨k1, k2⟩ := m.lt
  exact ⟨r, ρ, hx, hb, k1, fun i hi => ⟨hρ i hi, k2 i hi⟩, m⟩
theorem KeepN.at {q : Nat} {h h' : Heap} {x : H0} {l : List Int} {F : Nat → Prop} (k : KeepN F h h') (O : OwnR q h x l) (hq : ¬ F q) : OwnR q h' x l := by
  have := O.lt
  obtain ⟨t, g1, g2⟩ := O
  exact ⟨t, g1, by rw [k.2 q this hq]; exact g2⟩


set_option maxRecDepth 20000 in
theorem spec_TypeCartanN (h : Heap) (s : ByteArray) (hs : s ∈ namesT) : HCalls dm Tryz.prog 182 [St s] h (fun r h' => ∃ y L, r = TM y true ∧ Ext h h' ∧ OwnM h.length h'.length h' y L ∧ (s, L) ∈ typeL) := by
  refine calls_of_hFun (m := 0) kd_ok mixed Tryz.func182 rfl (by kernel_rfl) rfl rfl (of_decide_eq_true rfl) ?_; unfold hFun; (conv => whnf)
  refine HStr.eql ?_
  (conv => whnf)
  refine HIf.str (fun e => ?_) (fun neA1 => ?_)
  · subst e
    (conv => whnf)
    refine HIf.strT rfl ?_
    (conv => whnf)
    refine ⟨_, .i64, 1, by decide, rfl, rfl, ?_⟩
    (conv => whnf)
    refine HArith.any ?_
    (conv => whnf)
    refine HConv.of ?_
    (conv => whnf)
    refine (show HCalls _ _ _ [I ((1 : Nat) : Int)] _ _ from (spec_l2Chain h 1 (by omega)).mono ?_)
    rintro r h1 ⟨y1, rfl, E1, O1⟩
    (conv => whnf)
    exact ⟨_, _, rfl, E1, O1, tyA1⟩
  (conv => whnf)
  refine HStr.eql ?_
  (conv => whnf)
  refine HIf.str (fun e => ?_) (fun neA2 => ?_)
  · subst e
    (conv => whnf)
    refine HIf.strT rfl ?_
    (conv => whnf)
    refine ⟨_, .i64, 1, by decide, rfl, rfl, ?_⟩
    (conv => whnf)
    refine HArith.any ?_
    (conv => whnf)
    refine HConv.of ?_
    (conv => whnf)
    refine (show HCalls _ _ _ [I ((2 : Nat) : Int)] _ _ from (spec_l2Chain h 2 (by omega)).mono ?_)
    rintro r h1 ⟨y1, rfl, E1, O1⟩
    (conv => whnf)
    exact ⟨_, _, rfl, E1, O1, tyA2⟩
  (conv => whnf)
  refine HStr.eql ?_
  (conv => whnf)
  refine HIf.str (fun e => ?_) (fun neA3 => ?_)
  · subst e
    (conv => whnf)
    refine HIf.strT rfl ?_
    (conv => whnf)
    refine ⟨_, .i64, 1, by decide, rfl, rfl, ?_⟩
    (conv => whnf)
    refine HArith.any ?_
    (conv => whnf)
    refine HConv.of ?_
    (conv => whnf)
    refine (show HCalls _ _ _ [I ((3 : Nat) : Int)] _ _ from (spec_l2Chain h 3 (by omega)).mono ?_)
    rintro r h1 ⟨y1, rfl, E1, O1⟩
    (conv => whnf)
    exact ⟨_, _, rfl, E1, O1, tyA3⟩
  (conv => whnf)
  refine HStr.eql ?_
  (conv => whnf)
  refine HIf.str (fun e => ?_) (fun neA4 => ?_)
  · subst e
    (conv => whnf)
    refine ⟨_, .i64, 1, by decide, rfl, rfl, ?_⟩
    (conv => whnf)
    refine HArith.any ?_
    (conv => whnf)
    refine HConv.of ?_
    (conv => whnf)
    refine (show HCalls _ _ _ [I ((4 : Nat) : Int)] _ _ from (spec_l2Chain h 4 (by omega)).mono ?_)
    rintro r h1 ⟨y1, rfl, E1, O1⟩
    (conv => whnf)
    exact ⟨_, _, rfl, E1, O1, tyA4⟩
  (conv => whnf)
  refine HStr.eql ?_
  (conv => whnf)
  refine HIf.str (fun e => ?_) (fun neB2 => ?_)
  · subst e
    (conv => whnf)
    refine (show HCalls _ _ _ [I ((2 : Nat) : Int)] _ _ from (spec_l2Chain h 2 (by omega)).mono ?_)
    rintro r h1 ⟨y1, rfl, E1, O1⟩
    (conv => whnf)
    refine (spec_l2Set h1 _ (chainC 2) 0 1 (-1) (-2) O1.rows (by decide +kernel) (by decide +kernel) (by decide +kernel) (by decide +kernel) (by decide +kernel)).mono ?_
    rintro r h2 ⟨y2, rfl, E2, O2⟩
    (conv => whnf)
    replace O2 := O2.lower E1.1
    replace E2 := E1.trans E2
    exact ⟨_, _, rfl, E2, O2, tyB2⟩
  (conv => whnf)
  refine HStr.eql ?_
  (conv => whnf)
  refine HIf.str (fun e => ?_) (fun neB3 => ?_)
  · subst e
    (conv => whnf)
    refine (show HCalls _ _ _ [I ((3 : Nat) : Int)] _ _ from (spec_l2Chain h 3 (by omega)).mono ?_)
    rintro r h1 ⟨y1, rfl, E1, O1⟩
    (conv => whnf)
    refine (spec_l2Set h1 _ (chainC 3) 1 2 (-1) (-2) O1.rows (by decide +kernel) (by decide +kernel) (by decide +kernel) (by decide +kernel) (by decide +kernel)).mono ?_
    rintro r h2 ⟨y2, rfl, E2, O2⟩
    (conv => whnf)
    replace O2 := O2.lower E1.1
    replace E2 := E1.trans E2
    exact ⟨_, _, rfl, E2, O2, tyB3⟩
  (conv => whnf)
  refine HStr.eql ?_
  (conv => whnf)
  refine HIf.str (fun e => ?_) (fun neB4 => ?_)
  · subst e
    (conv => whnf)
    refine (show HCalls _ _ _ [I ((4 : Nat) : Int)] _ _ from (spec_l2Chain h 4 (by omega)).mono ?_)
    rintro r h1 ⟨y1, rfl, E1, O1⟩
    (conv => whnf)
    refine (spec_l2Set h1 _ (chainC 4) 2 3 (-1) (-2) O1.rows (by decide +kernel) (by decide +kernel) (by decide +kernel) (by decide +kernel) (by decide +kernel)).mono ?_
    rintro r h2 ⟨y2, rfl, E2, O2⟩
    (conv => whnf)
    replace O2 := O2.lower E1.1
    replace E2 := E1.trans E2
    exact ⟨_, _, rfl, E2, O2, tyB4⟩
  (conv => whnf)
  refine HStr.eql ?_
  (conv => whnf)
  refine HIf.str (fun e => ?_) (fun neC3 => ?_)
  · subst e
    (conv => whnf)
    refine (show HCalls _ _ _ [I ((3 : Nat) : Int)] _ _ from (spec_l2Chain h 3 (by omega)).mono ?_)
    rintro r h1 ⟨y1, rfl, E1, O1⟩
    (conv => whnf)
    refine (spec_l2Set h1 _ (chainC 3) 1 2 (-2) (-1) O1.rows (by decide +kernel) (by decide +kernel) (by decide +kernel) (by decide +kernel) (by decide +kernel)).mono ?_
    rintro r h2 ⟨y2, rfl, E2, O2⟩
    (conv => whnf)
    replace O2 := O2.lower E1.1
    replace E2 := E1.trans E2
    exact ⟨_, _, rfl, E2, O2, tyC3⟩
  (conv => whnf)
  refine HStr.eql ?_
  (conv => whnf)
  refine HIf.str (fun e => ?_) (fun neC4 => ?_)
  · subst e
    (conv => whnf)
    refine (show HCalls _ _ _ [I ((4 : Nat) : Int)] _ _ from (spec_l2Chain h 4 (by omega)).mono ?_)
    rintro r h1 ⟨y1, rfl, E1, O1⟩
    (conv => whnf)
    refine (spec_l2Set h1 _ (chainC 4) 2 3 (-2) (-1) O1.rows (by decide +kernel) (by decide +kernel) (by decide +kernel) (by decide +kernel) (by decide +kernel)).mono ?_
    rintro r h2 ⟨y2, rfl, E2, O2⟩
    (conv => whnf)
    replace O2 := O2.lower E1.1
    replace E2 := E1.trans E2
    exact ⟨_, _, rfl, E2, O2, tyC4⟩
  (conv => whnf)
  refine HStr.eql ?_
  (conv => whnf)
  refine HIf.str (fun e => ?_) (fun neD4 => ?_)
  · subst e
    (conv => whnf)
    refine (show HCalls _ _ _ [I ((4 : Nat) : Int)] _ _ from (spec_l2Chain h 4 (by omega)).mono ?_)
    rintro r h1 ⟨y1, rfl, E1, O1⟩
    (conv => whnf)
    refine (spec_l2Set h1 _ (chainC 4) 2 3 0 0 O1.rows (by decide +kernel) (by decide +kernel) (by decide +kernel) (by decide +kernel) (by decide +kernel)).mono ?_
    rintro r h2 ⟨y2, rfl, E2, O2⟩
    (conv => whnf)
    replace O2 := O2.lower E1.1
    replace E2 := E1.trans E2
    refine (spec_l2Set h2 _ (setC (chainC 4) 2 3 0 0) 1 3 (-1) (-1) O2.rows (by decide +kernel) (by decide +kernel) (by decide +kernel) (by decide +kernel) (by decide +kernel)).mono ?_
    rintro r h3 ⟨y3, rfl, E3, O3⟩
    (conv => whnf)
    replace O3 := O3.lower E2.1
    replace E3 := E2.trans E3
    exact ⟨_, _, rfl, E3, O3, tyD4⟩
  (conv => whnf)
  refine HStr.eql ?_
  (conv => whnf)
  refine HIf.str (fun e => ?_) (fun neF4 => ?_)
  · subst e
    (conv => whnf)
    refine (show HCalls _ _ _ [I ((4 : Nat) : Int)] _ _ from (spec_l2Chain h 4 (by omega)).mono ?_)
    rintro r h1 ⟨y1, rfl, E1, O1⟩
    (conv => whnf)
    refine (spec_l2Set h1 _ (chainC 4) 1 2 (-1) (-2) O1.rows (by decide +kernel) (by decide +kernel) (by decide +kernel) (by decide +kernel) (by decide +kernel)).mono ?_
    rintro r h2 ⟨y2, rfl, E2, O2⟩
    (conv => whnf)
    replace O2 := O2.lower E1.1
    replace E2 := E1.trans E2
    exact ⟨_, _, rfl, E2, O2, tyF4⟩
  (conv => whnf)
  refine HStr.eql ?_
  (conv => whnf)
  refine HIf.str (fun e => ?_) (fun neG2 => ?_)
  · subst e
    (conv => whnf)
    refine (show HCalls _ _ _ [I ((2 : Nat) : Int)] _ _ from (spec_l2Chain h 2 (by omega)).mono ?_)
    rintro r h1 ⟨y1, rfl, E1, O1⟩
    (conv => whnf)
    refine (spec_l2Set h1 _ (chainC 2) 0 1 (-1) (-3) O1.rows (by decide +kernel) (by decide +kernel) (by decide +kernel) (by decide +kernel) (by decide +kernel)).mono ?_
    rintro r h2 ⟨y2, rfl, E2, O2⟩
    (conv => whnf)
    replace O2 := O2.lower E1.1
    replace E2 := E1.trans E2
    exact ⟨_, _, rfl, E2, O2, tyG2⟩
  (conv => whnf)
  refine HStr.eql ?_
  (conv => whnf)
  refine HIf.str (fun e => ?_) (fun neA1t => ?_)
  · subst e
    (conv => whnf)
    refine (show HCalls _ _ _ [I ((2 : Nat) : Int)] _ _ from (spec_l2Chain h 2 (by omega)).mono ?_)
    rintro r h1 ⟨y1, rfl, E1, O1⟩
    (conv => whnf)
    refine (spec_l2Set h1 _ (chainC 2) 0 1 (-2) (-2) O1.rows (by decide +kernel) (by decide +kernel) (by decide +kernel) (by decide +kernel) (by decide +kernel)).mono ?_
    rintro r h2 ⟨y2, rfl, E2, O2⟩
    (conv => whnf)
    replace O2 := O2.lower E1.1
    replace E2 := E1.trans E2
    exact ⟨_, _, rfl, E2, O2, tyA1t⟩
  (conv => whnf)
  refine HStr.eql ?_
  (conv => whnf)
  refine HIf.str (fun e => ?_) (fun neA2t => ?_)
  · subst e
    (conv => whnf)
    refine (show HCalls _ _ _ [I ((3 : Nat) : Int)] _ _ from (spec_l2Chain h 3 (by omega)).mono ?_)
    rintro r h1 ⟨y1, rfl, E1, O1⟩
    (conv => whnf)
    refine (spec_l2Set h1 _ (chainC 3) 0 2 (-1) (-1) O1.rows (by decide +kernel) (by decide +kernel) (by decide +kernel) (by decide +kernel) (by decide +kernel)).mono ?_
    rintro r h2 ⟨y2, rfl, E2, O2⟩
    (conv => whnf)
    replace O2 := O2.lower E1.1
    replace E2 := E1.trans E2
    exact ⟨_, _, rfl, E2, O2, tyA2t⟩
  (conv => whnf)
  refine HStr.eql ?_
  (conv => whnf)
  refine HIf.str (fun e => ?_) (fun neA3t => ?_)
  · subst e
    (conv => whnf)
    refine (show HCalls _ _ _ [I ((4 : Nat) : Int)] _ _ from (spec_l2Chain h 4 (by omega)).mono ?_)
    rintro r h1 ⟨y1, rfl, E1, O1⟩
    (conv => whnf)
    refine (spec_l2Set h1 _ (chainC 4) 0 3 (-1) (-1) O1.rows (by decide +kernel) (by decide +kernel) (by decide +kernel) (by decide +kernel) (by decide +kernel)).mono ?_
    rintro r h2 ⟨y2, rfl, E2, O2⟩
    (conv => whnf)
    replace O2 := O2.lower E1.1
    replace E2 := E1.trans E2
    exact ⟨_, _, rfl, E2, O2, tyA3t⟩
  (conv => whnf)
  refine HStr.eql ?_
  (conv => whnf)
  refine HIf.str (fun e => ?_) (fun neC2t => ?_)
  · subst e
    (conv => whnf)
    refine (show HCalls _ _ _ [I ((3 : Nat) : Int)] _ _ from (spec_l2Chain h 3 (by omega)).mono ?_)
    rintro r h1 ⟨y1, rfl, E1, O1⟩
    (conv => whnf)
    refine (spec_l2Set h1 _ (chainC 3) 0 1 (-1) (-2) O1.rows (by decide +kernel) (by decide +kernel) (by decide +kernel) (by decide +kernel) (by decide +kernel)).mono ?_
    rintro r h2 ⟨y2, rfl, E2, O2⟩
    (conv => whnf)
    replace O2 := O2.lower E1.1
    replace E2 := E1.trans E2
    refine (spec_l2Set h2 _ (setC (chainC 3) 0 1 (-1) (-2)) 1 2 (-2) (-1) O2.rows (by decide +kernel) (by decide +kernel) (by decide +kernel) (by decide +kernel) (by decide +kernel)).mono ?_
    rintro r h3 ⟨y3, rfl, E3, O3⟩
    (conv => whnf)
    replace O3 := O3.lower E2.1
    replace E3 := E2.trans E3
    exact ⟨_, _, rfl, E3, O3, tyC2t⟩
  (conv => whnf)
  refine HStr.eql ?_
  (conv => whnf)
  refine HIf.str (fun e => ?_) (fun neG2t => ?_)
  · subst e
    (conv => whnf)
    refine (show HCalls _ _ _ [I ((3 : Nat) : Int)] _ _ from (spec_l2Chain h 3 (by omega)).mono ?_)
    rintro r h1 ⟨y1, rfl, E1, O1⟩
    (conv => whnf)
    refine (spec_l2Set h1 _ (chainC 3) 1 2 (-1) (-3) O1.rows (by decide +kernel) (by decide +kernel) (by decide +kernel) (by decide +kernel) (by decide +kernel)).mono ?_
    rintro r h2 ⟨y2, rfl, E2, O2⟩
    (conv => whnf)
    replace O2 := O2.lower E1.1
    replace E2 := E1.trans E2
    exact ⟨_, _, rfl, E2, O2, tyG2t⟩
  (conv => whnf)
  exfalso
  simp only [namesT, List.mem_cons, List.not_mem_nil, or_false] at hs
  rcases hs with rfl | rfl | rfl | rfl | rfl | rfl | rfl | rfl | rfl | rfl | rfl | rfl | rfl | rfl | rfl | rfl | rfl <;> contradiction


theorem impl_chain (h : Heap) (n : Nat) (hn : n ≤ 4) : HCalls dm Tryz.prog 231 [I n] h (fun r h' => ∃ y, r = .s y ∧ Ext h h' ∧ OwnM h.length h'.length h' y (chainC n)) := by
  refine calls_of_hFun (m := 0) kd_ok mixed Tryz.func231 rfl (by kernel_rfl) rfl rfl (of_decide_eq_true rfl) ?_; unfold hFun; (conv => whnf)
  refine HLit.empty ?_
  (conv => whnf)
  refine HLoop.intro [8, 3] [9, 10, 4, 11, 12, 5, 13, 14, 15, 16, 17, 18, 19, 20, 21, 22, 23, 24, 25, 26, 27, 28, 29, 30, 31, 32, 33, 3, 34, 8] (by kernel_rfl) (by kernel_rfl) (fun vs h' => ∃ (k : Nat) (z : H0), vs = [I k, .s z] ∧ k ≤ n ∧ Ext h h' ∧ OwnM h.length h'.length h' z (chainTo n k)) (fun vs _ => n - natAt vs 0) ⟨0, _, rfl, by omega, Ext.push _ _, OwnM.none h⟩ ?_
  rintro vs h' ⟨k, z, rfl, hk, E, O⟩
  have hcl := chainTo_length n k
  (conv => whnf)
  refine HIf.dec (fun hlt => ?_) (fun hge => ?_)
  · (conv => whnf)
    refine HMake.ints n rfl (by omega) ?_
    have O1 : OwnR h'.length (h' ++ [.own (List.replicate n (ci 0))]) (.sl h'.length 0 n) (List.replicate n (0 : Int)) := ⟨[], by simp, by rw [get_new]; simp⟩
    have E1 := Ext.push h' [.own (List.replicate n (ci 0))]
    generalize h' ++ [Row.own (List.replicate n (ci 0))] = h1 at O1 E1 ⊢
    have hE1 := E1.1
    have hrl : (List.replicate n (0 : Int)).length = n := by simp
    (conv => whnf)
    refine ⟨rfl, O1.idx (by omega) (by omega) ?_⟩
    (conv => whnf)
    refine ⟨rfl, O1.put (o := k) (by omega) (fun h2 B2 n2 O2 => ?_)⟩
    have E2 := E1.but B2 (Nat.le_refl _)
    have l2 : (((List.replicate n (0 : Int)).set k 2)).length = n := by simp
    (conv => whnf)
    refine HIf.dec (fun h0 => ?_) (fun h0 => ?_)
    · (conv => whnf)
      refine HArith.fits (by omega) (by omega) ?_
      (conv => whnf)
      refine ⟨rfl, O2.idx (by omega) (by omega) ?_⟩
      (conv => whnf)
      refine ⟨rfl, O2.put (by omega) (fun h3 B3 n3 O3 => ?_)⟩
      have E3 := E2.but B3 (Nat.le_refl _)
      have e3 : ((k : Int) - 1).toNat = k - 1 := by omega
      rw [e3] at O3
      have l3 : ((((List.replicate n (0 : Int)).set k 2)).set (k - 1) (-1)).length = n := by simp
      (conv => whnf)
      refine HArith.fits (by omega) (by omega) ?_
      (conv => whnf)
      refine HIf.dec (fun h1 => ?_) (fun h1 => ?_)
      · (conv => whnf)
        refine HArith.fits (by omega) (by omega) ?_
        (conv => whnf)
        refine ⟨rfl, O3.idx (by omega) (by omega) ?_⟩
        (conv => whnf)
        refine ⟨rfl, O3.put (by omega) (fun h4 B4 n4 O4 => ?_)⟩
        have E4 := E3.but B4 (Nat.le_refl _)
        have e4 : ((k : Int) + 1).toNat = k + 1 := by omega
        have e5 : (((((List.replicate n (0 : Int)).set k 2)).set (k - 1) (-1)).set ((k : Int) + 1).toNat (-1)) = chainR n k := by
          rw [e4]
          unfold chainR
          simp only
          rw [if_pos (by omega), if_pos (by omega)]
        rw [e5] at O4
        (conv => whnf)
        refine HLit.row (O4.own (Nat.zero_le _)).one ?_
        (conv => whnf)
        refine ⟨rfl, rfl, HApp.snocM E O E4 (O4.own (by omega)) (by omega) (fun h6 y6 E6 O6 => ?_)⟩
        rw [← chainTo_succ] at O6
        (conv => whnf)
        refine HArith.fits (by omega) (by omega) ?_
        (conv => whnf)
        exact ⟨⟨k + 1, y6, rfl, by omega, E6, O6⟩, by show n - (k + 1) < n - k; omega⟩
      · have e5 : ((((List.replicate n (0 : Int)).set k 2)).set (k - 1) (-1)) = chainR n k := by
          unfold chainR
          simp only
          rw [if_neg (by omega), if_pos (by omega)]
        rw [e5] at O3
        (conv => whnf)
        refine HLit.row (O3.own (Nat.zero_le _)).one ?_
        (conv => whnf)
        refine ⟨rfl, rfl, HApp.snocM E O E3 (O3.own (by omega)) (by omega) (fun h6 y6 E6 O6 => ?_)⟩
        rw [← chainTo_succ] at O6
        (conv => whnf)
        refine HArith.fits (by omega) (by omega) ?_
        (conv => whnf)
        exact ⟨⟨k + 1, y6, rfl, by omega, E6, O6⟩, by show n - (k + 1) < n - k; omega⟩
    · (conv => whnf)
      refine HArith.fits (by omega) (by omega) ?_
      (conv => whnf)
      refine HIf.dec (fun h1 => ?_) (fun h1 => ?_)
      · (conv => whnf)
        refine HArith.fits (by omega) (by omega) ?_
        (conv => whnf)
        refine ⟨rfl, O2.idx (by omega) (by omega) ?_⟩
        (conv => whnf)
        refine ⟨rfl, O2.put (by omega) (fun h4 B4 n4 O4 => ?_)⟩
        have E4 := E2.but B4 (Nat.le_refl _)
        have e4 : ((k : Int) + 1).toNat = k + 1 := by omega
        have e5 : (((List.replicate n (0 : Int)).set k 2)).set ((k : Int) + 1).toNat (-1) = chainR n k := by
          rw [e4]
          unfold chainR
          simp only
          rw [if_pos (by omega), if_neg (by omega)]
        rw [e5] at O4
        (conv => whnf)
        refine HLit.row (O4.own (Nat.zero_le _)).one ?_
        (conv => whnf)
        refine ⟨rfl, rfl, HApp.snocM E O E4 (O4.own (by omega)) (by omega) (fun h6 y6 E6 O6 => ?_)⟩
        rw [← chainTo_succ] at O6
        (conv => whnf)
        refine HArith.fits (by omega) (by omega) ?_
        (conv => whnf)
        exact ⟨⟨k + 1, y6, rfl, by omega, E6, O6⟩, by show n - (k + 1) < n - k; omega⟩
      · have e5 : (((List.replicate n (0 : Int)).set k 2)) = chainR n k := by
          unfold chainR
          simp only
          rw [if_neg (by omega), if_neg (by omega)]
        rw [e5] at O2
        (conv => whnf)
        refine HLit.row (O2.own (Nat.zero_le _)).one ?_
        (conv => whnf)
        refine ⟨rfl, rfl, HApp.snocM E O E2 (O2.own (by omega)) (by omega) (fun h6 y6 E6 O6 => ?_)⟩
        rw [← chainTo_succ] at O6
        (conv => whnf)
        refine HArith.fits (by omega) (by omega) ?_
        (conv => whnf)
        exact ⟨⟨k + 1, y6, rfl, by omega, E6, O6⟩, by show n - (k + 1) < n - k; omega⟩
  · have e : k = n := by omega
    subst e
    (conv => whnf)
    exact ⟨_, rfl, E, O⟩


set_option maxHeartbeats 1000000 in
theorem impl_with {h0 : Heap} (h : Heap) (r : Nat) (ρ : Nat → Nat) (L : List (List Int)) (n : Nat) (y : H0) (q : Nat) (es : List Int) (m : MatAt h r ρ L) (hb : h0.length ≤ r ∧ ∀ i, i < L.length → h0.length ≤ ρ i) (E : Ext h0 h) (O : OwnR q h y es) (hq : q ≠ r ∧ ∀ i, i < L.length → q ≠ ρ i)
    (hn : L.length = n) (hr : ∀ i, i < n → (L.getD i []).length = n) (hv : ∀ k, k < es.length → k + 2 < es.length → k % 3 = 0 → 0 ≤ es.getD k 0 ∧ es.getD k 0 < n ∧ 0 ≤ es.getD (k + 1) 0 ∧ es.getD (k + 1) 0 < n) (hl : es.length ≤ 100) :
    HCalls dm Tryz.prog 232 [.s (.sl r 0 L.length), .s y] h (fun v h' => v = .s (.sl r 0 L.length) ∧ Ext h0 h' ∧ MatAt h' r ρ (withE L es)) := by
  refine calls_of_hFun (m := 0) kd_ok mixed Tryz.func232 rfl (by kernel_rfl) rfl rfl (of_decide_eq_true rfl) ?_; unfold hFun; (conv => whnf)
  refine HLoop.intro [5] [6, 7, 8, 9, 10, 13, 14, 15, 16, 17, 18, 19, 20, 21, 22, 23, 24, 25, 26, 27, 28, 29, 30, 11, 12, 5] (by kernel_rfl) (by kernel_rfl) (fun vs h' => ∃ (k : Nat) (M : List (List Int)), vs = [I k] ∧ k % 3 = 0 ∧ k ≤ es.length ∧ Ext h0 h' ∧ MatAt h' r ρ M ∧ M.length = L.length ∧ (∀ i, i < n → (M.getD i []).length = n) ∧ withE M (es.drop k) = withE L es ∧ OwnR q h' y es) (fun vs _ => es.length - natAt vs 0) ⟨0, L, rfl, rfl, by omega, E, m, rfl, hr, by rw [List.drop_zero], O⟩ ?_
  clear E m hr O
  rintro vs h' ⟨k, M, rfl, hk, hkl, E, m, hM, hr, hw, O⟩
  (conv => whnf)
  refine HArith.fits (by omega) (by omega) ?_
  (conv => whnf)
  refine ⟨rfl, O.ints.len ?_⟩
  (conv => whnf)
  refine HIf.dec (fun hlt => ?_) (fun hge => ?_)
  rotate_left
  · rw [withE_end (by omega)] at hw
    subst hw
    (conv => whnf)
    exact ⟨rfl, E, m⟩
  have hv2 := hv k (by omega) (by omega) hk
  obtain ⟨i, hi⟩ : ∃ i : Nat, es.getD k 0 = (i : Int) := ⟨(es.getD k 0).toNat, by omega⟩
  obtain ⟨j, hj⟩ : ∃ j : Nat, es.getD (k + 1) 0 = (j : Int) := ⟨(es.getD (k + 1) 0).toNat, by omega⟩
  rw [hi, hj] at hv2
  have hst := withE_step (L := M) (es := es) (k := k) (by omega)
  rw [hw, hi, hj, Int.toNat_natCast, Int.toNat_natCast] at hst
  have hiM : i < M.length := by omega
  have hri := hr i (by omega)
  generalize hev : es.getD (k + 2) 0 = v at *
  (conv => whnf)
  have gi : ∀ {K : HV → Prop}, (∀ p, At h' p (.sl (ρ i) 0 (M.getD i []).length) → K (.s p)) → HIdx h' (.s (.sl r 0 L.length)) (I i) K := fun hK => by rw [← hM]; exact m.idx hiM hK
  refine Or.inr (Or.inr (Or.inl (Exists.intro 18 (Exists.intro [0, 1, 2, 3, 4, 5, 6, 7, 8, 9, 10, 11, 12, 13, 14, 15, 16, 17] (Exists.intro [18] (And.intro (show heldOk _ _ _ _ = true by kernel_rfl) ?_)))))); (conv => whnf)
  refine ⟨rfl, O.ints.idxN (n := k) (by omega) (fun p1 hp1 => ?_)⟩
  rw [hi] at hp1
  (conv => whnf)
  refine ⟨rfl, hp1.load ?_⟩
  (conv => whnf)
  refine ⟨rfl, gi (fun p2 hp2 => ?_)⟩
  (conv => whnf)
  refine ⟨rfl, hp2.load ?_⟩
  (conv => whnf)
  refine HArith.to (e' := ((k + 1 : Nat) : Int)) (by omega) (by omega) (by omega) ?_
  (conv => whnf)
  refine ⟨rfl, O.ints.idxN (n := k + 1) (by omega) (fun p3 hp3 => ?_)⟩
  rw [hj] at hp3
  (conv => whnf)
  refine ⟨rfl, hp3.load ?_⟩
  (conv => whnf)
  refine HArith.to (e' := ((k + 2 : Nat) : Int)) (by omega) (by omega) (by omega) ?_
  (conv => whnf)
  refine ⟨rfl, O.ints.idxN (n := k + 2) (by omega) (fun p4 hp4 => ?_)⟩
  rw [hev] at hp4
  (conv => whnf)
  refine ⟨rfl, hp4.load ?_⟩
  (conv => whnf)
  refine ⟨rfl, (m.inner' hiM).idx (j := (j : Int)) (by omega) (by omega) ?_⟩
  rw [Int.toNat_natCast]
  (conv => whnf)
  refine ⟨rfl, m.put hiM (by omega) (fun h2 n2 k2 m2 => ?_)⟩
  (conv => whnf)
  refine HArith.to (e' := ((k + 3 : Nat) : Int)) (by omega) (by omega) (by omega) ?_
  (conv => whnf)
  refine ⟨⟨k + 3, _, rfl, by omega, by omega, k2.ext (fun q e => by have := hb.2 i (by omega); omega) E, m2, by rw [setM_length]; exact hM, fun t ht => by rw [setM_row hiM]; exact hr t ht, hst.symm, k2.at O (fun e => hq.2 i (by omega) e)⟩, by show es.length - (k + 3) < es.length - k; omega⟩

end Go.Proofs.YtgliajcgcbnemaaGreatDoor.Hx
