/-
  The law FnBraids walked: for every input it comes back true.
-/
import Derived.Test.YtjgnnjegaedinaaZ24
namespace Go.Proofs.Ytjgnnjegaedinaa.Hx
open Go.RowKit
variable {dm : Bool}

def jBr (x0 : H0) (l0 : List Int) : List HV → Heap → Prop := fun vs h => ∃ x c z w, vs = [.s x0, .s x, .s z] ∧ Bytes h x0 l0 ∧ Rows h x c ∧ Ints h z w ∧ Small c ∧ w.length ≤ 7


set_option maxHeartbeats 8000000 in
theorem law_Braids (h : Heap) (x0 : H0) (l0 : List Int) (hx : Code0 h x0 l0) : HCalls dm Try.prog 3 [.s x0] h (fun r _ => r = B true) := by
  refine calls_of_hSeg (m := 0) [(7, [0, 3, 4], jBr x0 l0), (5, [0, 3, 4], jBr x0 l0)] kd_ok mixed Try.func3 rfl (by kernel_rfl) rfl rfl (of_decide_eq_true rfl) ?_; unfold hFunS; (conv => whnf)
  refine ⟨?_, ?_⟩
  · refine (laws_big _ _ _ hx).mono ?_
    rintro r h' ⟨rfl, hh⟩
    subst h'
    (conv => whnf)
    refine HIf.dec (fun _ => ?_) (fun hle => ?_)
    · (conv => whnf)
      rfl
    have hB := hx.bytes (by omega)
    clear hx
    (conv => whnf)
    refine (spec_DrawBraidAt _ _ _ hB).mono ?_
    rintro r h1 ⟨x, c, z, w, n, rfl, Et, R, Iw, S, lw, n1, n2⟩
    have sz := S.sz
    have hbl := braid_len c w n
    replace hB := hB.ext Et
    (conv => whnf)
    refine (impl_BraidAt0 _ _ _ _ _ n R Iw sz (by omega)).mono ?_
    rintro r h2 ⟨y1, rfl, F2⟩
    have En := F2.1
    have I1 := F2.ints
    (conv => whnf)
    refine (spec_BraidAt0 _ _ _ _ _ n (R.ext En) (Iw.ext En) sz (by omega)).mono ?_
    rintro r h3 ⟨y2, rfl, F3⟩
    have E3 := F3.1
    have I2 := F3.ints
    replace I1 := I1.ext E3
    replace En := En.trans E3
    cases hok : brOk c w n with
    | false =>
      (conv => whnf)
      (repeat (first | (refine HIf.bneF rfl ?_; (conv => whnf)) | (refine HIf.yes ?_; (conv => whnf)) | (refine HIf.no ?_; (conv => whnf)) | (refine HIf.same ?_; (conv => whnf)) | (refine HIf.nsame ?_; (conv => whnf)) | (refine And.intro (show Kd.isBool _ = true from rfl) ?_; (conv => whnf))))
      refine (laws_sameInts _ _ _ _ _ I1 I2 (by omega)).mono ?_
      rintro r h4 ⟨rfl, hh⟩
      subst h4
      rw [decide_eq_true rfl]
      (conv => whnf)
      (repeat (first | (refine HIf.bneF rfl ?_; (conv => whnf)) | (refine HIf.yes ?_; (conv => whnf)) | (refine HIf.no ?_; (conv => whnf)) | (refine HIf.same ?_; (conv => whnf)) | (refine HIf.nsame ?_; (conv => whnf)) | (refine And.intro (show Kd.isBool _ = true from rfl) ?_; (conv => whnf))))
      exact ⟨x, c, z, w, rfl, hB.ext En, R.ext En, Iw.ext En, S, lw⟩
    | true =>
      have hn0 : 0 ≤ n := by
        simp only [brOk, Bool.and_eq_true, decide_eq_true_eq] at hok
        exact hok.1.2.1
      obtain ⟨k, rfl⟩ : ∃ k : Nat, n = k := ⟨n.toNat, by omega⟩
      have hsame := braid_areSame hok
      obtain ⟨hb1, hb2⟩ := braid_back hok
      have hlen := (br_of_braid hok).length
      (conv => whnf)
      (repeat (first | (refine HIf.bneF rfl ?_; (conv => whnf)) | (refine HIf.yes ?_; (conv => whnf)) | (refine HIf.no ?_; (conv => whnf)) | (refine HIf.same ?_; (conv => whnf)) | (refine HIf.nsame ?_; (conv => whnf)) | (refine And.intro (show Kd.isBool _ = true from rfl) ?_; (conv => whnf))))
      refine (laws_sameInts _ _ _ _ _ I1 I2 (by omega)).mono ?_
      rintro r h4 ⟨rfl, hh⟩
      subst h4
      rw [decide_eq_true rfl]
      (conv => whnf)
      (repeat (first | (refine HIf.bneF rfl ?_; (conv => whnf)) | (refine HIf.yes ?_; (conv => whnf)) | (refine HIf.no ?_; (conv => whnf)) | (refine HIf.same ?_; (conv => whnf)) | (refine HIf.nsame ?_; (conv => whnf)) | (refine And.intro (show Kd.isBool _ = true from rfl) ?_; (conv => whnf))))
      refine (impl_AreSame _ _ _ _ _ _ _ (R.ext En) (Iw.ext En) I2 sz (by omega) (by omega)).mono ?_
      rintro r h5 ⟨rfl, E5⟩
      rw [hsame]
      replace I2 := I2.ext E5
      replace En := En.trans E5
      (conv => whnf)
      (repeat (first | (refine HIf.bneF rfl ?_; (conv => whnf)) | (refine HIf.yes ?_; (conv => whnf)) | (refine HIf.no ?_; (conv => whnf)) | (refine HIf.same ?_; (conv => whnf)) | (refine HIf.nsame ?_; (conv => whnf)) | (refine And.intro (show Kd.isBool _ = true from rfl) ?_; (conv => whnf))))
      refine ⟨rfl, I2.len ?_⟩
      rw [hlen]
      (conv => whnf)
      (repeat (first | (refine HIf.bneF rfl ?_; (conv => whnf)) | (refine HIf.yes ?_; (conv => whnf)) | (refine HIf.no ?_; (conv => whnf)) | (refine HIf.same ?_; (conv => whnf)) | (refine HIf.nsame ?_; (conv => whnf)) | (refine And.intro (show Kd.isBool _ = true from rfl) ?_; (conv => whnf))))
      refine ⟨rfl, (Iw.ext En).len ?_⟩
      (conv => whnf)
      (repeat (first | (refine HIf.bneF rfl ?_; (conv => whnf)) | (refine HIf.yes ?_; (conv => whnf)) | (refine HIf.no ?_; (conv => whnf)) | (refine HIf.same ?_; (conv => whnf)) | (refine HIf.nsame ?_; (conv => whnf)) | (refine And.intro (show Kd.isBool _ = true from rfl) ?_; (conv => whnf))))
      refine (impl_BraidAt0 _ _ _ _ _ (k : Int) (R.ext En) I2 sz (by omega)).mono ?_
      rintro r h6 ⟨y6, rfl, F6⟩
      rw [hb1]
      have I6 := F6.ints
      rw [hb2] at I6
      replace En := En.trans F6.1
      (conv => whnf)
      (repeat (first | (refine HIf.bneF rfl ?_; (conv => whnf)) | (refine HIf.yes ?_; (conv => whnf)) | (refine HIf.no ?_; (conv => whnf)) | (refine HIf.same ?_; (conv => whnf)) | (refine HIf.nsame ?_; (conv => whnf)) | (refine And.intro (show Kd.isBool _ = true from rfl) ?_; (conv => whnf))))
      refine (laws_sameInts _ _ _ _ _ I6 (Iw.ext En) (by omega)).mono ?_
      rintro r h7 ⟨rfl, hh⟩
      subst h7
      rw [decide_eq_true rfl]
      (conv => whnf)
      (repeat (first | (refine HIf.bneF rfl ?_; (conv => whnf)) | (refine HIf.yes ?_; (conv => whnf)) | (refine HIf.no ?_; (conv => whnf)) | (refine HIf.same ?_; (conv => whnf)) | (refine HIf.nsame ?_; (conv => whnf)) | (refine And.intro (show Kd.isBool _ = true from rfl) ?_; (conv => whnf))))
      exact ⟨x, c, z, w, rfl, hB.ext En, R.ext En, Iw.ext En, S, lw⟩
  rintro vs h' ⟨x, c, z, w, rfl, hB, R, Iw, S, lw⟩
  (conv => whnf)
  refine ⟨?_, ?_⟩
  · refine (spec_DrawReducedWords _ _ _ hB).mono ?_
    rintro r h1 ⟨xd, d, zu, u, rfl, E1, Rd, Iu, Sd, lu⟩
    replace Rd := Rd.rows
    replace Iu := Iu.1
    have szd := Sd.sz
    (conv => whnf)
    refine (impl_ReducedWords _ _ _ _ _ Rd Iu szd (by omega)).mono ?_
    rintro r h2 ⟨yl, rfl, E2, O2⟩
    have Rl := O2.rows
    (conv => whnf)
    refine (spec_ReducedWords _ _ _ _ _ (Rd.ext E2) (Iu.ext E2) szd (by omega)).mono ?_
    rintro r h3 ⟨ym, rfl, E3, O3⟩
    have Rm := O3.rows
    replace Rl := Rl.ext E3
    have En := (E1.trans E2).trans E3
    have hsz := reducedWords_size d u
    (conv => whnf)
    (repeat (first | (refine HIf.bneF rfl ?_; (conv => whnf)) | (refine HIf.yes ?_; (conv => whnf)) | (refine HIf.no ?_; (conv => whnf)) | (refine HIf.same ?_; (conv => whnf)) | (refine HIf.nsame ?_; (conv => whnf)) | (refine And.intro (show Kd.isBool _ = true from rfl) ?_; (conv => whnf))))
    refine (laws_sameWords _ _ _ _ _ Rl Rm rfl (by omega)).mono ?_
    rintro r h4 ⟨rfl, hh⟩
    subst h4
    (conv => whnf)
    (repeat (first | (refine HIf.bneF rfl ?_; (conv => whnf)) | (refine HIf.yes ?_; (conv => whnf)) | (refine HIf.no ?_; (conv => whnf)) | (refine HIf.same ?_; (conv => whnf)) | (refine HIf.nsame ?_; (conv => whnf)) | (refine And.intro (show Kd.isBool _ = true from rfl) ?_; (conv => whnf))))
    have okM : ∀ i : Nat, i < (reducedWords d u).length → redOk d u = true := fun i hi => by
      cases hok : redOk d u
      · rw [reducedWords_off hok] at hi
        simp at hi
      · rfl
    refine HLoop.intro [18] [127, 128, 129, 130, 131, 132, 133, 134, 138, 139, 140, 141, 142, 143, 144, 145, 146, 147, 148, 149, 150, 137, 151, 152, 19, 20, 154, 155, 156, 157, 158, 159, 153, 160, 161, 21, 22, 162, 163, 164, 165, 166, 167, 168, 169, 170, 171, 172, 173, 174, 175, 176, 177, 178, 179, 180, 181, 182, 183, 184, 185, 186, 187, 188, 189, 190, 191, 192, 193, 194, 195, 196, 197, 198, 199, 2, 135, 136, 18] (by kernel_rfl) (by kernel_rfl) (fun vs h2 => ∃ i : Nat, vs = [I i] ∧ Ext h3 h2 ∧ i ≤ (reducedWords d u).length) (fun vs _ => (reducedWords d u).length - natAt vs 0) ⟨0, rfl, Ext.refl _, by omega⟩ ?_
    rintro vs h4 ⟨i, rfl, E, hi⟩
    have fin : ∃ x c z w, [HV.s x0, HV.s x, HV.s z] = [.s x0, .s x, .s z] ∧ Bytes h4 x0 l0 ∧ Rows h4 x c ∧ Ints h4 z w ∧ Small c ∧ w.length ≤ 7 := ⟨x, c, z, w, rfl, hB.ext (En.trans E), R.ext (En.trans E), Iw.ext (En.trans E), S, lw⟩
    have fin2 : ∀ h5, Ext h4 h5 → jBr x0 l0 [.s x0, .s x, .s z] h5 := fun h5 E5 => ⟨x, c, z, w, rfl, hB.ext ((En.trans E).trans E5), R.ext ((En.trans E).trans E5), Iw.ext ((En.trans E).trans E5), S, lw⟩
    clear fin
    (conv => whnf)
    refine ⟨rfl, (Rl.ext E).len ?_⟩
    (conv => whnf)
    by_cases c1 : (i : Int) < ((reducedWords d u).length : Int)
    rotate_left
    · (repeat (refine HIf.decF c1 ?_; (conv => whnf)))
      refine HIf.no ?_
      (conv => whnf)
      exact fin2 _ (Ext.refl _)
    have hil : i < (reducedWords d u).length := by omega
    have hql : (reducedWords d u).length - 1 - i < (reducedWords d u).length := by omega
    have h0l : (0 : Nat) < (reducedWords d u).length := by omega
    obtain ⟨q1, q2, _, _, _, q6⟩ := red_words (okM i hil) hil
    obtain ⟨_, _, p3, p4, p5, p6⟩ := red_words (okM i hil) hql
    obtain ⟨_, _, _, _, _, o6⟩ := red_words (okM i hil) h0l
    have hpl := bpPath_len d ((reducedWords d u).getD 0 []) ((reducedWords d u).getD ((reducedWords d u).length - 1 - i) [])
    have eq1 : ((reducedWords d u).length : Int) - 1 - (i : Int) = (((reducedWords d u).length - 1 - i : Nat) : Int) := by omega
    refine HIf.decT c1 ?_
    (conv => whnf)
    refine HIf.decT c1 ?_
    (conv => whnf)
    refine HIf.decT c1 ?_
    (conv => whnf)
    refine HIf.dec (fun h6 => ?_) (fun h6 => ?_)
    rotate_left
    · (conv => whnf)
      exact fin2 _ (Ext.refl _)
    (conv => whnf)
    refine Or.inr (Or.inr (Or.inl (Exists.intro 18 (Exists.intro [0, 1, 2, 3, 4, 5, 6, 7, 8, 9, 10, 11] (Exists.intro [12, 13, 14, 15, 16, 17] (And.intro (show heldOk _ _ _ _ = true by kernel_rfl) ?_)))))); (conv => whnf)
    refine ⟨rfl, Rows.idx (Rm.ext E) (j := 0) (by omega) (by omega) (fun pa ya hpa hya => ?_)⟩
    rw [show (0 : Int).toNat = 0 from rfl] at hya
    (conv => whnf)
    refine ⟨rfl, hpa.load ?_⟩
    (conv => whnf)
    refine ⟨rfl, (Rm.ext E).len ?_⟩
    (conv => whnf)
    refine HArith.fits (by omega) (by omega) ?_
    (conv => whnf)
    refine HArith.to eq1 (by omega) (by omega) ?_
    (conv => whnf)
    refine ⟨rfl, Rows.idxN (Rm.ext E) hql (fun pb yb hpb hyb => ?_)⟩
    (conv => whnf)
    refine ⟨rfl, hpb.load ?_⟩
    (conv => whnf)
    refine HCallF.tupF (impl_BraidPath _ _ _ _ _ _ _ ((Rd.ext (E2.trans (E3.trans E))).frz) hya.frz hyb.frz szd (by omega) (by omega)) (fun h5 y5 f5 => ?_)
    rw [p3]
    have E5 := E.trans f5.1
    (conv => whnf)
    refine ⟨rfl, Rows.idx (Rm.ext E5) (j := 0) (by omega) (by omega) (fun pc yc hpc hyc => ?_)⟩
    rw [show (0 : Int).toNat = 0 from rfl] at hyc
    (conv => whnf)
    refine ⟨rfl, hpc.load ?_⟩
    (conv => whnf)
    refine (impl_ApplyBraids _ _ _ _ _ _ _ (Rd.ext (E2.trans (E3.trans E5))) hyc f5.ints szd (by omega) (by omega)).mono ?_
    rintro r h7 ⟨y7, rfl, f7⟩
    rw [p4]
    have I7 := f7.ints
    rw [p5] at I7
    have E7 := E5.trans f7.1
    (conv => whnf)
    refine ⟨rfl, Rows.idxN (Rm.ext E7) hil (fun pd yd hpd hyd => ?_)⟩
    (conv => whnf)
    refine ⟨rfl, hpd.load ?_⟩
    (conv => whnf)
    refine (impl_IsReduced _ _ _ _ _ (Rd.ext (E2.trans (E3.trans E7))) hyd szd (by omega)).mono ?_
    rintro r h8 ⟨rfl, E8⟩
    rw [q1]
    have E8' := E7.trans E8
    (conv => whnf)
    (repeat (first | (refine HIf.bneF rfl ?_; (conv => whnf)) | (refine HIf.yes ?_; (conv => whnf)) | (refine HIf.no ?_; (conv => whnf)) | (refine HIf.same ?_; (conv => whnf)) | (refine HIf.nsame ?_; (conv => whnf)) | (refine And.intro (show Kd.isBool _ = true from rfl) ?_; (conv => whnf))))
    refine ⟨rfl, Rows.idxN (Rm.ext E8') hil (fun pe ye hpe hye => ?_)⟩
    (conv => whnf)
    (repeat (first | (refine HIf.bneF rfl ?_; (conv => whnf)) | (refine HIf.yes ?_; (conv => whnf)) | (refine HIf.no ?_; (conv => whnf)) | (refine HIf.same ?_; (conv => whnf)) | (refine HIf.nsame ?_; (conv => whnf)) | (refine And.intro (show Kd.isBool _ = true from rfl) ?_; (conv => whnf))))
    refine ⟨rfl, hpe.load ?_⟩
    (conv => whnf)
    (repeat (first | (refine HIf.bneF rfl ?_; (conv => whnf)) | (refine HIf.yes ?_; (conv => whnf)) | (refine HIf.no ?_; (conv => whnf)) | (refine HIf.same ?_; (conv => whnf)) | (refine HIf.nsame ?_; (conv => whnf)) | (refine And.intro (show Kd.isBool _ = true from rfl) ?_; (conv => whnf))))
    refine (impl_AreSame _ _ _ _ _ _ _ (Rd.ext (E2.trans (E3.trans E8'))) hye (Iu.ext (E2.trans (E3.trans E8'))) szd (by omega) (by omega)).mono ?_
    rintro r h9 ⟨rfl, E9⟩
    rw [q2]
    have E9' := E8'.trans E9
    (conv => whnf)
    (repeat (first | (refine HIf.bneF rfl ?_; (conv => whnf)) | (refine HIf.yes ?_; (conv => whnf)) | (refine HIf.no ?_; (conv => whnf)) | (refine HIf.same ?_; (conv => whnf)) | (refine HIf.nsame ?_; (conv => whnf)) | (refine And.intro (show Kd.isBool _ = true from rfl) ?_; (conv => whnf))))
    refine ⟨rfl, (Rm.ext E9').len ?_⟩
    (conv => whnf)
    (repeat (first | (refine HIf.bneF rfl ?_; (conv => whnf)) | (refine HIf.yes ?_; (conv => whnf)) | (refine HIf.no ?_; (conv => whnf)) | (refine HIf.same ?_; (conv => whnf)) | (refine HIf.nsame ?_; (conv => whnf)) | (refine And.intro (show Kd.isBool _ = true from rfl) ?_; (conv => whnf))))
    refine HArith.fits (by omega) (by omega) ?_
    (conv => whnf)
    (repeat (first | (refine HIf.bneF rfl ?_; (conv => whnf)) | (refine HIf.yes ?_; (conv => whnf)) | (refine HIf.no ?_; (conv => whnf)) | (refine HIf.same ?_; (conv => whnf)) | (refine HIf.nsame ?_; (conv => whnf)) | (refine And.intro (show Kd.isBool _ = true from rfl) ?_; (conv => whnf))))
    refine HArith.to eq1 (by omega) (by omega) ?_
    (conv => whnf)
    (repeat (first | (refine HIf.bneF rfl ?_; (conv => whnf)) | (refine HIf.yes ?_; (conv => whnf)) | (refine HIf.no ?_; (conv => whnf)) | (refine HIf.same ?_; (conv => whnf)) | (refine HIf.nsame ?_; (conv => whnf)) | (refine And.intro (show Kd.isBool _ = true from rfl) ?_; (conv => whnf))))
    refine ⟨rfl, Rows.idxN (Rm.ext E9') hql (fun pf yf hpf hyf => ?_)⟩
    (conv => whnf)
    (repeat (first | (refine HIf.bneF rfl ?_; (conv => whnf)) | (refine HIf.yes ?_; (conv => whnf)) | (refine HIf.no ?_; (conv => whnf)) | (refine HIf.same ?_; (conv => whnf)) | (refine HIf.nsame ?_; (conv => whnf)) | (refine And.intro (show Kd.isBool _ = true from rfl) ?_; (conv => whnf))))
    refine ⟨rfl, hpf.load ?_⟩
    (conv => whnf)
    (repeat (first | (refine HIf.bneF rfl ?_; (conv => whnf)) | (refine HIf.yes ?_; (conv => whnf)) | (refine HIf.no ?_; (conv => whnf)) | (refine HIf.same ?_; (conv => whnf)) | (refine HIf.nsame ?_; (conv => whnf)) | (refine And.intro (show Kd.isBool _ = true from rfl) ?_; (conv => whnf))))
    refine (laws_sameInts _ _ _ _ _ ((I7.ext E8).ext E9) hyf (by omega)).mono ?_
    rintro r h10 ⟨rfl, hh⟩
    subst h10
    rw [decide_eq_true rfl]
    (conv => whnf)
    (repeat (first | (refine HIf.bneF rfl ?_; (conv => whnf)) | (refine HIf.yes ?_; (conv => whnf)) | (refine HIf.no ?_; (conv => whnf)) | (refine HIf.same ?_; (conv => whnf)) | (refine HIf.nsame ?_; (conv => whnf)) | (refine And.intro (show Kd.isBool _ = true from rfl) ?_; (conv => whnf))))
    refine HArith.fits (by omega) (by omega) ?_
    (conv => whnf)
    exact ⟨⟨i + 1, rfl, E9', by omega⟩, by show (reducedWords d u).length - (i + 1) < (reducedWords d u).length - i; omega⟩
  rintro vs h' ⟨x, c, z, w, rfl, hB, R, Iw, S, lw⟩
  have sz := S.sz
  (conv => whnf)
  refine (spec_DrawBraidPath _ _ _ hB).mono ?_
  rintro r h1 ⟨xe, e, za, a, zb, b, rfl, E1, Re, Ia, Ib, Se, la, lb⟩
  replace Re := Re.rows
  replace Ia := Ia.1
  replace Ib := Ib.1
  have sze := Se.sz
  have hpl := bpPath_len e a b
  (conv => whnf)
  refine (impl_BraidPath _ _ _ _ _ _ _ Re Ia Ib sze (by omega) (by omega)).mono ?_
  rintro r h2 ⟨y2, rfl, f2⟩
  (conv => whnf)
  refine (spec_BraidPath _ _ _ _ _ _ _ (Re.ext f2.1) (Ia.ext f2.1) (Ib.ext f2.1) sze (by omega) (by omega)).mono ?_
  rintro r h3 ⟨y3, rfl, f3⟩
  have I2 := f2.ints.ext f3.1
  have I3 := f3.ints
  have En := (E1.trans f2.1).trans f3.1
  (conv => whnf)
  refine (spec_DrawApplyBraids _ _ _ (hB.ext En)).mono ?_
  rintro r h4 ⟨xf, f, zg, g, zh, q, rfl, E4, Rf, Ig, Ih, Sf, lg, lh⟩
  have szf := Sf.sz
  have hal := apW_len f g q
  (conv => whnf)
  refine (impl_ApplyBraids _ _ _ _ _ _ _ Rf Ig Ih szf (by omega) (by omega)).mono ?_
  rintro r h5 ⟨y5, rfl, f5⟩
  (conv => whnf)
  refine (spec_ApplyBraids _ _ _ _ _ _ _ (Rf.ext f5.1) (Ig.ext f5.1) (Ih.ext f5.1) szf (by omega) (by omega)).mono ?_
  rintro r h6 ⟨y6, rfl, f6⟩
  have E6 := (E4.trans f5.1).trans f6.1
  have I5 := f5.ints.ext f6.1
  have I6 := f6.ints
  generalize bpOk e a b = b1 at *
  generalize bpPath e a b = P at *
  generalize apOk f g q = b2 at *
  generalize apW f g q = A at *
  (conv => whnf)
  (repeat (first | (refine HIf.bneF rfl ?_; (conv => whnf)) | (refine HIf.yes ?_; (conv => whnf)) | (refine HIf.no ?_; (conv => whnf)) | (refine HIf.same ?_; (conv => whnf)) | (refine HIf.nsame ?_; (conv => whnf)) | (refine And.intro (show Kd.isBool _ = true from rfl) ?_; (conv => whnf))))
  refine (laws_sameInts _ _ _ _ _ (I2.ext E6) (I3.ext E6) (by omega)).mono ?_
  rintro r h7 ⟨rfl, hh⟩
  subst h7
  rw [decide_eq_true rfl]
  (conv => whnf)
  (repeat (first | (refine HIf.bneF rfl ?_; (conv => whnf)) | (refine HIf.yes ?_; (conv => whnf)) | (refine HIf.no ?_; (conv => whnf)) | (refine HIf.same ?_; (conv => whnf)) | (refine HIf.nsame ?_; (conv => whnf)) | (refine And.intro (show Kd.isBool _ = true from rfl) ?_; (conv => whnf))))
  refine (laws_sameInts _ _ _ _ _ I5 I6 (by omega)).mono ?_
  rintro r h7 ⟨rfl, hh⟩
  subst h7
  rw [decide_eq_true rfl]
  (conv => whnf)
  (repeat (first | (refine HIf.bneF rfl ?_; (conv => whnf)) | (refine HIf.yes ?_; (conv => whnf)) | (refine HIf.no ?_; (conv => whnf)) | (refine HIf.same ?_; (conv => whnf)) | (refine HIf.nsame ?_; (conv => whnf)) | (refine And.intro (show Kd.isBool _ = true from rfl) ?_; (conv => whnf))))
  have E7 := En.trans E6
  refine (impl_BraidPlaces _ _ _ _ _ (R.ext E7) (Iw.ext E7) sz (by omega)).mono ?_
  rintro r h8 ⟨y8, rfl, f8⟩
  have E8 := E7.trans f8.1
  (conv => whnf)
  (repeat (first | (refine HIf.bneF rfl ?_; (conv => whnf)) | (refine HIf.yes ?_; (conv => whnf)) | (refine HIf.no ?_; (conv => whnf)) | (refine HIf.same ?_; (conv => whnf)) | (refine HIf.nsame ?_; (conv => whnf)) | (refine And.intro (show Kd.isBool _ = true from rfl) ?_; (conv => whnf))))
  refine (spec_BraidPlaces _ _ _ _ _ (R.ext E8) (Iw.ext E8) sz (by omega)).mono ?_
  rintro r h9 ⟨y9, rfl, f9⟩
  have E9 := E8.trans f9.1
  have hbr := brTo_le c w w.length
  (conv => whnf)
  (repeat (first | (refine HIf.bneF rfl ?_; (conv => whnf)) | (refine HIf.yes ?_; (conv => whnf)) | (refine HIf.no ?_; (conv => whnf)) | (refine HIf.same ?_; (conv => whnf)) | (refine HIf.nsame ?_; (conv => whnf)) | (refine And.intro (show Kd.isBool _ = true from rfl) ?_; (conv => whnf))))
  refine (laws_sameInts _ _ _ _ _ (f8.ints.ext f9.1) f9.ints (by omega)).mono ?_
  rintro r h10 ⟨rfl, hh⟩
  subst h10
  rw [decide_eq_true rfl]
  (conv => whnf)
  (repeat (first | (refine HIf.bneF rfl ?_; (conv => whnf)) | (refine HIf.yes ?_; (conv => whnf)) | (refine HIf.no ?_; (conv => whnf)) | (refine HIf.same ?_; (conv => whnf)) | (refine HIf.nsame ?_; (conv => whnf)) | (refine And.intro (show Kd.isBool _ = true from rfl) ?_; (conv => whnf))))
  refine (impl_SquareFree _ _ _ (Iw.ext E9) (by omega)).mono ?_
  rintro r h10 ⟨rfl, hh⟩
  subst h10
  (conv => whnf)
  (repeat (first | (refine HIf.bneF rfl ?_; (conv => whnf)) | (refine HIf.yes ?_; (conv => whnf)) | (refine HIf.no ?_; (conv => whnf)) | (refine HIf.same ?_; (conv => whnf)) | (refine HIf.nsame ?_; (conv => whnf)) | (refine And.intro (show Kd.isBool _ = true from rfl) ?_; (conv => whnf))))
  refine (spec_SquareFree _ _ _ (Iw.ext E9) (by omega)).mono ?_
  rintro r h10 ⟨rfl, hh⟩
  subst h10
  (conv => whnf)
  (repeat (first | (refine HIf.bneF rfl ?_; (conv => whnf)) | (refine HIf.yes ?_; (conv => whnf)) | (refine HIf.no ?_; (conv => whnf)) | (refine HIf.same ?_; (conv => whnf)) | (refine HIf.nsame ?_; (conv => whnf)) | (refine And.intro (show Kd.isBool _ = true from rfl) ?_; (conv => whnf))))
  exact bEq (by simp)

end Go.Proofs.Ytjgnnjegaedinaa.Hx
