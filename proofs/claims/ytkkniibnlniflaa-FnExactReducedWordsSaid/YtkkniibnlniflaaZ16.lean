/-
  Images of rho and the game of signs: no number is zero, and the reduction by first descents comes back. Plain theory on lists.
  Contracts of the normal form, of the program and of the reference.
  Contract of AreSame of the reference.
-/
import Derived.Test.YtkkniibnlniflaaZ15
namespace Go.Proofs.Ytkkniibnlniflaa.Hx
open Go.RowKit

theorem matOk {c : List (List Int)} (hC : Cartan c) : MatOk c.length (ent c) := by
  refine ⟨fun i hi => ?_, fun i j hi hj hij => ?_, fun i j hi hj h0 => ?_⟩
  · have h := hC.ok i hi i hi
    simp only [cartBad, decide_true, Bool.true_and, Bool.not_true, Bool.false_and, Bool.or_false, Bool.not_eq_false', beq_iff_eq] at h
    exact h
  · have h := hC.ok i hi j hj
    simp only [cartBad, hij, decide_false, Bool.false_and, Bool.not_false, Bool.true_and, Bool.false_or, Bool.or_eq_false_iff, decide_eq_false_iff_not] at h
    omega
  · by_cases hij : i = j
    · subst hij; exact h0
    · have h := hC.ok i hi j hj
      simp only [cartBad, hij, decide_false, Bool.false_and, Bool.not_false, Bool.true_and, Bool.false_or, Bool.or_eq_false_iff] at h
      have h2 := h.2
      rw [h0] at h2
      simpa using h2

theorem ent_off {c : List (List Int)} {k i : Nat} (h : c.length ≤ k) : ent c k i = 0 := by
  unfold ent
  have : c.getD k [] = [] := by simp [List.getD, h]
  rw [this]
  rfl

def posOf (v : List Int) : Pos := fun k => v.getD k 0

def PlayL (c : List (List Int)) (n : Nat) (v : List Int) : Prop := v.length = c.length ∧ Play c.length (ent c) n (posOf v)

theorem w64_in {e : Int} (h1 : -9223372036854775808 ≤ e) (h2 : e ≤ 9223372036854775807) : w64 e = e := IntWalk.i64_in e ⟨h1, h2⟩

theorem PlayL.size {c : List (List Int)} (hC : Cartan c) {n : Nat} {v : List Int} (P : PlayL c n v) (hn : n ≤ 30) {k : Nat} (hk : k < c.length) : -1152921504606846976 ≤ v.getD k 0 ∧ v.getD k 0 ≤ 1152921504606846976 := by
  have h := P.2.size (matOk hC) k hk
  have h4 : 4 ^ n ≤ 4 ^ 30 := Nat.pow_le_pow_right (by omega) hn
  have e : (4 : Nat) ^ 30 = 1152921504606846976 := by decide
  rw [e] at h4
  simp only [posOf] at h
  omega

theorem pos_refl {c : List (List Int)} (hC : Cartan c) {n : Nat} {v : List Int} (P : PlayL c n v) (hn : n ≤ 30) {i : Nat} (hi : i < c.length) : posOf (reflW c i v) = sr (ent c) i (posOf v) := by
  funext k
  by_cases hk : k < c.length
  · have b1 := P.size hC hn hk
    have b2 := P.size hC hn hi
    have hkv : k < v.length := by rw [P.1]; exact hk
    have e : posOf (reflW c i v) k = reflNew c i v k := by simp [posOf, reflW, List.getD, hkv]
    rw [e]
    unfold reflNew sr posOf
    have f : ent c k i = 2 ∨ ent c k i = 0 ∨ ent c k i = -1 ∨ ent c k i = -2 ∨ ent c k i = -3 := by
      by_cases hki : k = i
      · subst hki; exact Or.inl ((matOk hC).diag k hk)
      · have := (matOk hC).off k i hk hi hki
        omega
    generalize v.getD k 0 = a at *
    generalize v.getD i 0 = b at *
    rcases f with f | f | f | f | f <;> rw [f] <;> rw [w64_in (e := b * _) (by omega) (by omega), w64_in (by omega) (by omega)]
  · have e1 : posOf (reflW c i v) k = 0 := by
      have : (reflW c i v).length ≤ k := by rw [reflW_length, P.1]; omega
      simp [posOf, List.getD, this]
    have e2 : posOf v k = 0 := by
      have : v.length ≤ k := by rw [P.1]; omega
      simp [posOf, List.getD, this]
    rw [e1]
    unfold sr
    rw [e2, ent_off (by omega)]
    simp

theorem PlayL.ne {c : List (List Int)} (hC : Cartan c) {n : Nat} {v : List Int} (P : PlayL c n v) {i : Nat} (hi : i < c.length) : v.getD i 0 ≠ 0 := P.2.ne (matOk hC) hi

theorem PlayL.any {c : List (List Int)} (hC : Cartan c) {n : Nat} {v : List Int} (P : PlayL c n v) (hn : n ≤ 30) {i : Nat} (hi : i < c.length) : ∃ m, m ≤ n + 1 ∧ PlayL c m (reflW c i v) := by
  obtain ⟨m, h1, h2⟩ := P.2.any (matOk hC) hi
  exact ⟨m, h1, by rw [reflW_length]; exact P.1, by rw [pos_refl hC P hn hi]; exact h2⟩

theorem PlayL.down {c : List (List Int)} (hC : Cartan c) {n : Nat} {v : List Int} (P : PlayL c n v) (hn : n ≤ 30) {i : Nat} (hi : i < c.length) (h : v.getD i 0 < 0) : ∃ m, n = m + 1 ∧ PlayL c m (reflW c i v) := by
  obtain ⟨m, h1, h2⟩ := P.2.down (matOk hC) hi h
  exact ⟨m, h1, by rw [reflW_length]; exact P.1, by rw [pos_refl hC P hn hi]; exact h2⟩

theorem PlayL.ones (c : List (List Int)) : PlayL c 0 (List.replicate c.length 1) := ⟨by simp, .done fun i hi => by simp [posOf, List.getD, hi]⟩

theorem posOf_inj {v u : List Int} (hl : v.length = u.length) (h : posOf v = posOf u) : v = u := by
  apply List.ext_getElem hl
  intro k h1 h2
  have := congrFun h k
  simpa [posOf, List.getD, h1, h2] using this

theorem reflW_twice {c : List (List Int)} (hC : Cartan c) {n m : Nat} {v : List Int} (P : PlayL c n v) (hn : n ≤ 30) {i : Nat} (hi : i < c.length) (P2 : PlayL c m (reflW c i v)) (hm : m ≤ 30) : reflW c i (reflW c i v) = v := by
  apply posOf_inj (by rw [reflW_length, reflW_length])
  rw [pos_refl hC P2 hm hi, pos_refl hC P hn hi, sr_sr ((matOk hC).diag i hi)]

theorem play_act {c : List (List Int)} (hC : Cartan c) : ∀ (w : List Int), lettersOk c w = true → w.length ≤ 31 → ∃ n, n ≤ w.length ∧ PlayL c n (actW c w (List.replicate c.length 1))
  | [], _, _ => ⟨0, Nat.le_refl _, PlayL.ones c⟩
  | i :: w, h, hl => by
    have h2 : isPoint c i = true ∧ lettersOk c w = true := by simpa [lettersOk] using h
    have hi := point_of h2.1
    have hl' : w.length + 1 ≤ 31 := by simpa using hl
    obtain ⟨n, h3, P⟩ := play_act hC w h2.2 (by omega)
    obtain ⟨m, h4, P2⟩ := P.any hC (by omega) (i := i.toNat) (by omega)
    exact ⟨m, by simp; omega, P2⟩

theorem play_image {c : List (List Int)} (hC : Cartan c) {w : List Int} (h : lettersOk c w = true) (hl : w.length ≤ 31) : ∃ n, n ≤ w.length ∧ PlayL c n (imageOf c w) := play_act hC w h hl

/-- The first negative number. -/
def fd (v : List Int) : Nat := v.findIdx fun x => decide (x < 0)

/-- The letters by which the reduction by first descents goes, at most f. -/
def nf (c : List (List Int)) : Nat → List Int → List Int
  | 0, _ => []
  | f + 1, v => if fd v < v.length then (fd v : Int) :: nf c f (reflW c (fd v) v) else []

theorem fd_at {v : List Int} {i : Nat} (hi : i < v.length) (h : v.getD i 0 < 0) (hb : ∀ k, k < i → 0 ≤ v.getD k 0) : fd v = i := by
  unfold fd
  rw [List.findIdx_eq hi]
  refine ⟨by simpa [List.getD, hi] using h, fun j hj => ?_⟩
  have := hb j hj
  have hjl : j < v.length := by omega
  simp only [List.getD, List.getElem?_eq_getElem hjl, Option.getD_some] at this
  simp
  omega
theorem fd_lt {v : List Int} (h : fd v < v.length) : v.getD (fd v) 0 < 0 := by
  have := List.findIdx_getElem (xs := v) (p := fun x => decide (x < 0)) (w := h)
  unfold fd at h ⊢
  simp only [List.getD, List.getElem?_eq_getElem h, Option.getD_some]
  simpa using this
theorem fd_end {v : List Int} (h : ¬ fd v < v.length) : ∀ k, k < v.length → 0 ≤ v.getD k 0 := by
  intro k hk
  have e : fd v = v.length := by
    have := List.findIdx_le_length (p := fun x => decide (x < 0)) (xs := v)
    unfold fd at *
    omega
  unfold fd at e
  rw [List.findIdx_eq_length] at e
  have := e v[k] (List.getElem_mem hk)
  simp only [List.getD, List.getElem?_eq_getElem hk, Option.getD_some]
  simp at this
  omega
theorem nf_zero (c : List (List Int)) (v : List Int) : nf c 0 v = [] := rfl
theorem nf_step {c : List (List Int)} {f i : Nat} {v : List Int} (hi : i < v.length) (h : v.getD i 0 < 0) (hb : ∀ k, k < i → 0 ≤ v.getD k 0) : nf c (f + 1) v = (i : Int) :: nf c f (reflW c i v) := by
  have e := fd_at hi h hb
  rw [nf, e, if_pos hi]
theorem nf_stop {c : List (List Int)} {f : Nat} {v : List Int} (hb : ∀ k, k < v.length → 0 ≤ v.getD k 0) : nf c f v = [] := by
  cases f with
  | zero => rfl
  | succ f =>
    rw [nf, if_neg]
    intro h
    have h1 := fd_lt h
    have := hb _ h
    omega

theorem nf_more {c : List (List Int)} (hC : Cartan c) : ∀ (n : Nat) (v : List Int) (f g : Nat), PlayL c n v → n ≤ 30 → n ≤ f → n ≤ g → nf c f v = nf c g v
  | n, v, f, g, P, hn, hf, hg => by
    by_cases h : fd v < v.length
    · have hlt := fd_lt h
      obtain ⟨m, rfl, P2⟩ := P.down hC hn (i := fd v) (by rw [← P.1]; exact h) hlt
      obtain ⟨f, rfl⟩ : ∃ f', f = f' + 1 := ⟨f - 1, by omega⟩
      obtain ⟨g, rfl⟩ : ∃ g', g = g' + 1 := ⟨g - 1, by omega⟩
      rw [nf, nf, if_pos h, if_pos h, nf_more hC m _ f g P2 (by omega) (by omega) (by omega)]
    · rw [nf_stop (fd_end h), nf_stop (fd_end h)]

theorem nf_len {c : List (List Int)} (hC : Cartan c) : ∀ (n : Nat) (v : List Int) (f : Nat), PlayL c n v → n ≤ 30 → n ≤ f → (nf c f v).length = n
  | n, v, f, P, hn, hf => by
    by_cases h : fd v < v.length
    · have hlt := fd_lt h
      obtain ⟨m, rfl, P2⟩ := P.down hC hn (i := fd v) (by rw [← P.1]; exact h) hlt
      obtain ⟨f, rfl⟩ : ∃ f', f = f' + 1 := ⟨f - 1, by omega⟩
      rw [nf, if_pos h, List.length_cons, nf_len hC m _ f P2 (by omega) (by omega)]
    · rw [nf_stop (fd_end h)]
      have := (P.2.stop fun i hi => fd_end h i (by rw [P.1]; exact hi)).1
      simp [this]

theorem nf_letters {c : List (List Int)} (hC : Cartan c) : ∀ (n : Nat) (v : List Int) (f : Nat), PlayL c n v → n ≤ 30 → n ≤ f → lettersOk c (nf c f v) = true
  | n, v, f, P, hn, hf => by
    by_cases h : fd v < v.length
    · have hlt := fd_lt h
      have hc : fd v < c.length := by rw [← P.1]; exact h
      obtain ⟨m, rfl, P2⟩ := P.down hC hn (i := fd v) hc hlt
      obtain ⟨f, rfl⟩ : ∃ f', f = f' + 1 := ⟨f - 1, by omega⟩
      rw [nf, if_pos h]
      have ih := nf_letters hC m _ f P2 (by omega) (by omega)
      have hp : isPoint c (fd v) = true := by simp [isPoint, inRange]; omega
      simp only [lettersOk, List.all_cons, Bool.and_eq_true] at ih ⊢
      exact ⟨hp, ih⟩
    · rw [nf_stop (fd_end h)]
      rfl

theorem nf_image {c : List (List Int)} (hC : Cartan c) : ∀ (n : Nat) (v : List Int) (f : Nat), PlayL c n v → n ≤ 30 → n ≤ f → imageOf c (nf c f v) = v
  | n, v, f, P, hn, hf => by
    by_cases h : fd v < v.length
    · have hlt := fd_lt h
      have hc : fd v < c.length := by rw [← P.1]; exact h
      obtain ⟨m, rfl, P2⟩ := P.down hC hn (i := fd v) hc hlt
      obtain ⟨f, rfl⟩ : ∃ f', f = f' + 1 := ⟨f - 1, by omega⟩
      have ih := nf_image hC m _ f P2 (by omega) (by omega)
      have e : imageOf c ((fd v : Int) :: nf c f (reflW c (fd v) v)) = reflW c (fd v) (imageOf c (nf c f (reflW c (fd v) v))) := by simp [imageOf, actW]
      rw [nf, if_pos h, e, ih]
      exact reflW_twice hC P hn hc P2 (by omega)
    · rw [nf_stop (fd_end h)]
      have h1 := (P.2.stop fun i hi => fd_end h i (by rw [P.1]; exact hi)).2
      apply posOf_inj (by rw [imageOf_length, P.1])
      funext k
      by_cases hk : k < c.length
      · rw [h1 k hk]
        simp [posOf, imageOf, actW, List.getD, hk]
      · have hv : v.length ≤ k := by rw [P.1]; omega
        have hk' : c.length ≤ k := by omega
        simp [posOf, imageOf, actW, List.getD, hv, hk']

end Go.Proofs.Ytkkniibnlniflaa.Hx

namespace Go.Proofs.Ytkkniibnlniflaa.Hx
open Go.RowKit
variable {dm : Bool}

def fdI (v : List Int) : Int := if fd v < v.length then (fd v : Int) else -1
theorem fdI_at {v : List Int} {i : Nat} (hi : i < v.length) (h : v.getD i 0 < 0) (hb : ∀ k, k < i → 0 ≤ v.getD k 0) : fdI v = i := by
  unfold fdI
  rw [fd_at hi h hb, if_pos hi]
theorem fdI_none {v : List Int} (hb : ∀ k, k < v.length → 0 ≤ v.getD k 0) : fdI v = -1 := by
  unfold fdI
  rw [if_neg]
  intro h
  have h1 := fd_lt h
  have := hb _ h
  omega

/-- What is only read: it lay there before, or lies in a row of its own that is not row r. -/
def Rd (h0 : Heap) (r : Nat) (h : Heap) (y : H0) (u : List Int) : Prop := Ints h0 y u ∨ ∃ q, h0.length ≤ q ∧ q ≠ r ∧ OwnR q h y u

theorem Rd.ints {h0 h : Heap} {r : Nat} {y : H0} {u : List Int} (H : Rd h0 r h y u) (E : Ext h0 h) : Ints h y u := by
  rcases H with H | ⟨q, _, _, O⟩
  · exact H.ext E
  · exact O.ints
theorem Rd.but {h0 h h' : Heap} {r r' : Nat} {y : H0} {u : List Int} (H : Rd h0 r h y u) (B : But r h h') (hr : h.length ≤ r') : Rd h0 r' h' y u := by
  rcases H with H | ⟨q, h1, h2, O⟩
  · exact Or.inl H
  · have := O.lt
    exact Or.inr ⟨q, h1, by omega, O.but B h2⟩

def lenAt (vs : List HV) (k : Nat) : Nat := match vs[k]? with
  | some (.s (.sl _ _ n)) => n
  | _ => 0

def normF (c : List (List Int)) (w : List Int) : List Int := nf c 31 (imageOf c w)

/-- A step of the reduction, with fuel to spare. -/
theorem nf_next {c : List (List Int)} (hC : Cartan c) {m i : Nat} {u : List Int} (P : PlayL c (m + 1) u) (hm : m + 1 ≤ 30) (hi : i < u.length) (h : u.getD i 0 < 0) (hb : ∀ k, k < i → 0 ≤ u.getD k 0) :
    nf c 31 u = (i : Int) :: nf c 31 (reflW c i u) ∧ PlayL c m (reflW c i u) := by
  obtain ⟨m', e, P2⟩ := P.down hC hm (i := i) (by rw [← P.1]; exact hi) h
  have : m' = m := by omega
  subst this
  refine ⟨?_, P2⟩
  rw [nf_step hi h hb, nf_more hC m' _ 30 31 P2 (by omega) (by omega) (by omega)]
theorem play_neg {c : List (List Int)} (hC : Cartan c) {m i : Nat} {u : List Int} (P : PlayL c m u) (hm : m ≤ 30) (hi : i < u.length) (h : u.getD i 0 < 0) : ∃ m', m = m' + 1 := by
  obtain ⟨m', e, _⟩ := P.down hC hm (i := i) (by rw [← P.1]; exact hi) h
  exact ⟨m', e⟩


theorem impl_reflectedR (h0 h : Heap) (r : Nat) (x y : H0) (c : List (List Int)) (i : Nat) (v : List Int) (hx : Rows h0 x c) (E : Ext h0 h) (hr : h0.length ≤ r) (O : OwnR r h y v) (hC : Cartan c) (hi : i < c.length) (hl : v.length = c.length) :
    HCalls dm Try.prog 136 [.s x, I i, .s y] h (fun r' h' => r' = .tup [] ∧ But r h h' ∧ OwnR r h' y (reflW c i v)) := by
  have h4 := hC.le
  refine calls_of_hFun (m := 0) kd_ok mixed Try.func136 rfl (by kernel_rfl) rfl rfl (of_decide_eq_true rfl) ?_; unfold hFun; (conv => whnf)
  refine ⟨rfl, Ints.idxN O.ints (by omega) (fun p hp => ?_)⟩
  (conv => whnf)
  refine ⟨rfl, hp.load ?_⟩
  (conv => whnf)
  refine ⟨rfl, O.ints.len ?_⟩
  (conv => whnf)
  refine HLoop.intro [14] [15, 16, 7, 17, 18, 19, 20, 21, 22, 23, 24, 25, 26, 27, 28, 29, 30, 31, 32, 14] (by kernel_rfl) (by kernel_rfl) (fun vs h' => ∃ k : Nat, vs = [I k] ∧ k ≤ v.length ∧ But r h h' ∧ OwnR r h' y (reflTo c i v k)) (fun vs _ => v.length - natAt vs 0) ⟨0, rfl, by omega, But.refl _ _, by rw [reflTo_none]; exact O⟩ ?_
  rintro vs h' ⟨k, rfl, hk, B, O⟩
  have hx := hx.ext (E.but B hr)
  have hlen := reflTo_length c i v k
  (conv => whnf)
  refine HIf.dec (fun hlt => ?_) (fun hge => ?_)
  · have hrow := hC.row k (by omega)
    have hget := reflTo_get c i v k (by omega)
    have hsucc := reflTo_succ c i v k
    obtain ⟨cs, rfl, hq, hql, B2, O2⟩ := OwnR.store (v := reflNew c i v k) O (show k < (reflTo c i v k).length by omega)
    rw [hsucc] at O2
    (conv => whnf)
    refine Or.inr (Or.inl (Exists.intro 15 (And.intro (show Region.lexTailB _ _ _ = true by kernel_rfl) ?_))); (conv => whnf)
    refine ⟨rfl, Ints.idxN O.ints (by omega) (fun p hp => ?_)⟩
    rw [hget] at hp
    (conv => whnf)
    refine ⟨rfl, hp.load ?_⟩
    (conv => whnf)
    refine ⟨rfl, Rows.idxN hx (by omega) (fun p2 z hp2 hz => ?_)⟩
    (conv => whnf)
    refine ⟨rfl, hp2.load ?_⟩
    (conv => whnf)
    refine ⟨rfl, Ints.idxN hz (by omega) (fun p3 hp3 => ?_)⟩
    (conv => whnf)
    refine ⟨rfl, hp3.load ?_⟩
    rw [ent_eq]
    (conv => whnf)
    refine HArith.any ?_
    (conv => whnf)
    refine HArith.any ?_
    (conv => whnf)
    refine ⟨rfl, HIdx.sl (by omega) (by omega) ?_⟩
    (conv => whnf)
    have e0 : 0 + (k : Int).toNat = k := by omega
    rw [e0]
    refine ⟨rfl, HStore.own hq (by omega) rfl ?_⟩
    (conv => whnf)
    refine HArith.fits (by omega) (by omega) ?_
    (conv => whnf)
    exact ⟨⟨k + 1, rfl, by omega, B.trans B2, O2⟩, by show v.length - (k + 1) < v.length - k; omega⟩
  · have e : k = v.length := by omega
    subst e
    rw [reflTo_all] at O
    (conv => whnf)
    exact ⟨rfl, B, O⟩

theorem impl_firstDescent (h : Heap) (x : H0) (v : List Int) (hx : Ints h x v) (hv : v.length ≤ 1048576) : HCalls dm Try.prog 152 [.s x] h (fun r h' => r = I (fdI v) ∧ h' = h) := by
  refine calls_of_hFun (m := 0) kd_ok mixed Try.func152 rfl (by kernel_rfl) rfl rfl (of_decide_eq_true rfl) ?_; unfold hFun; (conv => whnf)
  refine ⟨rfl, hx.len ?_⟩
  (conv => whnf)
  refine HLoop.intro [7] [8, 9, 10, 11, 3, 4, 12, 13, 14, 2, 15, 7] (by kernel_rfl) (by kernel_rfl) (fun vs h' => ∃ i : Nat, vs = [I i] ∧ h' = h ∧ i ≤ v.length ∧ ∀ k, k < i → 0 ≤ v.getD k 0) (fun vs _ => v.length - natAt vs 0) ⟨0, rfl, rfl, by omega, fun k hk => by omega⟩ ?_
  rintro vs h' ⟨i, rfl, hh, hi, hb⟩
  subst h'
  (conv => whnf)
  refine HIf.dec (fun hlt => ?_) (fun hge => ?_)
  · (conv => whnf)
    refine ⟨rfl, Ints.idxN hx (by omega) (fun p hp => ?_)⟩
    (conv => whnf)
    refine ⟨rfl, hp.load ?_⟩
    (conv => whnf)
    refine HIf.dec (fun hneg => ?_) (fun hpos => ?_)
    · rw [fdI_at (by omega) hneg hb]
      (conv => whnf)
      exact ⟨rfl, rfl⟩
    · (conv => whnf)
      refine HArith.fits (by omega) (by omega) ?_
      (conv => whnf)
      refine ⟨⟨i + 1, rfl, rfl, by omega, fun k hk => ?_⟩, by show v.length - (i + 1) < v.length - i; omega⟩
      by_cases e : k = i
      · subst e; omega
      · exact hb k (by omega)
  · rw [fdI_none (fun k hk => hb k (by omega))]
    (conv => whnf)
    exact ⟨rfl, rfl⟩

theorem impl_normal (h : Heap) (x0 : H0) (a0 : List (List Int)) (x1 : H0) (v : List Int) (n : Nat) (hx0 : Rows h x0 a0) (hx1 : Ints h x1 v) (hC : Cartan a0) (P : PlayL a0 n v) (hn : n ≤ 30) :
    HCalls dm Try.prog 122 [.s x0, .s x1] h (fun r h' => ∃ y, r = .s y ∧ Fresh h h' y (nf a0 31 v)) := by
  have h4 := hC.le
  have hvl := P.1
  refine calls_of_hFun (m := 0) kd_ok mixed Try.func122 rfl (by kernel_rfl) rfl rfl (of_decide_eq_true rfl) ?_; unfold hFun; (conv => whnf)
  refine HLit.empty ?_
  (conv => whnf)
  refine ⟨rfl, rfl, HApp.copy hx1 (by omega) (fun h1 y1 E1 O1 => ?_)⟩
  obtain ⟨r2, hr2, hr2l, O2⟩ := O1.row
  have E2 := E1.trans (Ext.push h1 [Row.own []])
  have O3 := OwnR.push h1 []
  have hEl := E1.1
  (conv => whnf)
  refine HLit.empty ?_
  (conv => whnf)
  refine HLoop.intro [5] [11, 12, 6, 13, 14, 15, 4, 16, 17, 18, 19, 5, 20, 21, 22, 23] (by kernel_rfl) (by kernel_rfl) (fun vs h' => ∃ (z : H0) (r1 : Nat) (u l : List Int) (m : Nat), vs = [.s z] ∧ Ext h h' ∧ h.length ≤ r1 ∧ r1 ≠ r2 ∧ OwnR r1 h' z l ∧ OwnR r2 h' y1 u ∧ PlayL a0 m u ∧ m + l.length ≤ 30 ∧ l ++ nf a0 31 u = nf a0 31 v) (fun vs _ => 31 - lenAt vs 0) ⟨_, h1.length, v, [], n, rfl, E2, hEl, by omega, O3, O2.ext (Ext.push _ _), P, by simpa using hn, rfl⟩ ?_
  rintro vs h' ⟨z, r1, u, l, m, rfl, E, hr1, hne, Oz, Oy, Pu, hml, hl⟩
  have hul := Pu.1
  (conv => whnf)
  refine (impl_firstDescent _ _ u Oy.ints (by omega)).mono ?_
  rintro r h3 ⟨rfl, hh⟩
  subst h3
  (conv => whnf)
  by_cases hf : fd u < u.length
  · have hneg := fd_lt hf
    have hb : ∀ k, k < fd u → 0 ≤ u.getD k 0 := fun k hk => by
      have hk2 : k < u.length := by omega
      have := List.not_of_lt_findIdx (xs := u) (p := fun x => decide (x < 0)) (i := k) hk
      simp only [List.getD, List.getElem?_eq_getElem hk2, Option.getD_some]
      simp at this
      omega
    obtain ⟨m, rfl⟩ := play_neg hC Pu (by omega) hf hneg
    obtain ⟨hnx, P2⟩ := nf_next hC Pu (by omega) hf hneg hb
    rw [fdI_at hf hneg hb]
    generalize fd u = i at *
    rw [hnx] at hl
    refine HIf.decF (by omega) ?_
    (conv => whnf)
    refine HLit.one ?_
    (conv => whnf)
    refine ⟨rfl, rfl, HApp.snocR Oz (by omega) (fun h3 r3 y3 B3 hr3 O3 => ?_)⟩
    have := Oy.lt
    have := E.1
    (conv => whnf)
    refine (impl_reflectedR h _ r2 _ _ a0 i u hx0 (E.but B3 hr1) hr2 (Oy.but B3 (Ne.symm hne)) hC (by omega) hul).mono ?_
    rintro r h5 ⟨rfl, B5, O5⟩
    have hzl : z = .sl r1 0 l.length := by obtain ⟨t, e, _⟩ := Oz; exact e
    have hyl : y3 = .sl r3 0 (l ++ [(i : Int)]).length := by obtain ⟨t, e, _⟩ := O3; exact e
    (conv => whnf)
    refine ⟨⟨y3, r3, reflW a0 i u, l ++ [(i : Int)], m, rfl, (E.but B3 hr1).but B5 hr2, by omega, by omega, O3.but B5 (by omega), O5, P2, by simp; omega, by rw [List.append_assoc]; exact hl⟩, ?_⟩
    subst hzl
    subst hyl
    show 31 - (l ++ [(i : Int)]).length < 31 - l.length
    simp
    omega
  · have hb := fd_end hf
    rw [fdI_none hb]
    rw [nf_stop hb, List.append_nil] at hl
    refine HIf.decT (by omega) ?_
    (conv => whnf)
    rw [← hl]
    exact ⟨_, rfl, Fresh.ofRow E Oz hr1⟩

theorem impl_reduced (h : Heap) (x0 : H0) (a0 : List (List Int)) (x1 : H0) (a1 : List Int) (hx0 : Rows h x0 a0) (hx1 : Ints h x1 a1) (hC : Cartan a0) (hw : lettersOk a0 a1 = true) (s1 : a1.length ≤ 30) :
    HCalls dm Try.prog 74 [.s x0, .s x1] h (fun r h' => ∃ y, r = .s y ∧ Fresh h h' y (normF a0 a1)) := by
  obtain ⟨n, hn, P⟩ := play_image hC hw (by omega)
  refine calls_of_hFun (m := 0) kd_ok mixed Try.func74 rfl (by kernel_rfl) rfl rfl (of_decide_eq_true rfl) ?_; unfold hFun; (conv => whnf)
  refine (impl_image _ _ a0 _ a1 hx0 hx1 hC hw (by omega)).mono ?_
  rintro r h1 ⟨y1, rfl, f1⟩
  (conv => whnf)
  refine (impl_normal _ _ a0 _ _ n (hx0.ext f1.1) f1.ints hC P (by omega)).mono ?_
  rintro r h2 ⟨y2, rfl, f2⟩
  have hz := Fresh.inner f1.1 f2
  (conv => whnf)
  exact ⟨_, rfl, Fresh.of hz.1 hz.2⟩

theorem spec_l8Form (h : Heap) (x0 : H0) (a0 : List (List Int)) (x1 : H0) (v : List Int) (n : Nat) (hx0 : Rows h x0 a0) (hx1 : Ints h x1 v) (hC : Cartan a0) (P : PlayL a0 n v) (hn : n ≤ 30) :
    HCalls dm Try.prog 147 [.s x0, .s x1] h (fun r h' => ∃ y, r = .s y ∧ Fresh h h' y (nf a0 31 v)) := by
  have h4 := hC.le
  have hvl := P.1
  have E0 := Ext.push h [Row.own []]
  have O0 := OwnR.push h []
  refine calls_of_hFun (m := 0) kd_ok mixed Try.func147 rfl (by kernel_rfl) rfl rfl (of_decide_eq_true rfl) ?_; unfold hFun; (conv => whnf)
  refine HLit.empty ?_
  (conv => whnf)
  refine HLoop.intro [6, 1, 5] [9, 10, 7, 13, 14, 15, 16, 17, 18, 19, 20, 21, 22, 23, 24, 25, 7, 26, 27, 28, 29, 30, 4, 31, 32, 33, 34, 5, 35, 36, 37, 38, 1, 11, 12, 6] (by kernel_rfl) (by kernel_rfl) (fun vs h' => ∃ (k : Nat) (z : H0) (r1 : Nat) (y : H0) (u l : List Int) (m : Nat), vs = [I k, .s y, .s z] ∧ Ext h h' ∧ h.length ≤ r1 ∧ OwnR r1 h' z l ∧ Rd h r1 h' y u ∧ PlayL a0 m u ∧ m + k ≤ 30 ∧ l.length = k ∧ l ++ nf a0 31 u = nf a0 31 v) (fun vs _ => 31 - natAt vs 0) ⟨0, _, h.length, x1, v, [], n, rfl, E0, Nat.le_refl _, O0, Or.inl hx1, P, hn, rfl, rfl⟩ ?_
  rintro vs h' ⟨k, z, r1, y, u, l, m, rfl, E, hr1, Oz, Ry, Pu, hmk, hlk, hl⟩
  have hul := Pu.1
  have hx00 := hx0
  have hx0 := hx0.ext E
  have hy := Ry.ints E
  (conv => whnf)
  refine HIf.decT (by omega) ?_
  (conv => whnf)
  refine HLoop.intro [7] [13, 14, 15, 16, 17, 18, 19, 20, 21, 22, 23, 24, 25, 7] (by kernel_rfl) (by kernel_rfl) (fun vs h2 => ∃ i : Nat, vs = [I i] ∧ h2 = h' ∧ i ≤ u.length ∧ ∀ t, t < i → 0 ≤ u.getD t 0) (fun vs _ => u.length - natAt vs 0) ⟨0, rfl, rfl, by omega, fun k hk => by omega⟩ ?_
  rintro vs h2 ⟨i, rfl, hh, hi, hb⟩
  subst h2
  have out : i = u.length → nf a0 31 v = l := fun e => by
    subst e
    rw [nf_stop hb, List.append_nil] at hl
    exact hl.symm
  have huy := hy
  (conv => whnf)
  refine ⟨rfl, hy.len ?_⟩
  (conv => whnf)
  refine HIf.dec (fun hlt => ?_) (fun hge => ?_)
  · (conv => whnf)
    (repeat (first | (refine ⟨rfl, Ints.len (by assumption) ?_⟩; conv => whnf) | (refine ⟨rfl, Rows.len (by assumption) ?_⟩; conv => whnf) | (refine ⟨rfl, HLen.sl ?_⟩; conv => whnf) | (refine ⟨rfl, At.load (by assumption) ?_⟩; conv => whnf) | (refine HIf.yes ?_; conv => whnf) | (refine HIf.no ?_; conv => whnf) | (refine HIf.isT (by assumption) ?_; conv => whnf) | (refine HIf.isF (by assumption) ?_; conv => whnf) | (refine HIf.decT (by assumption) ?_; conv => whnf) | (refine HIf.decF (by assumption) ?_; conv => whnf) | (refine HIf.beqT (by assumption) ?_; conv => whnf) | (refine HIf.beqF (by assumption) ?_; conv => whnf) | (refine HIf.bneT (by assumption) ?_; conv => whnf) | (refine HIf.bneF (by assumption) ?_; conv => whnf) | (refine ⟨rfl, Ints.idxN (by assumption) (by omega) (fun p hp => ?_)⟩; conv => whnf) | (refine ⟨rfl, Rows.idxN (by assumption) (by omega) (fun p y hp hy => ?_)⟩; conv => whnf) | (refine And.intro (show Kd.isBool _ = true from rfl) ?_; conv => whnf) | (refine ⟨rfl, Ints.idx (by assumption) (by omega) (by omega) (fun p hp => ?_)⟩; conv => whnf) | (refine ⟨rfl, Rows.idx (by assumption) (by omega) (by omega) (fun p y hp hy => ?_)⟩; conv => whnf) | (refine HArith.fits (by omega) (by omega) ?_; conv => whnf) | (refine Or.inl (And.intro (show Region.lexB _ _ = true by kernel_rfl) ?_); conv => whnf)))
    refine HIf.dec (fun hpos => ?_) (fun hneg0 => ?_)
    · (conv => whnf)
      refine HArith.fits (by omega) (by omega) ?_
      (conv => whnf)
      refine ⟨⟨i + 1, rfl, rfl, by omega, fun t ht => ?_⟩, by show u.length - (i + 1) < u.length - i; omega⟩
      by_cases e : t = i
      · subst e; omega
      · exact hb t (by omega)
    · have hne := Pu.ne hC (i := i) (by omega)
      have hneg : u.getD i 0 < 0 := by omega
      obtain ⟨m, rfl⟩ := play_neg hC Pu (by omega) (by omega) hneg
      obtain ⟨hnx, P2⟩ := nf_next hC Pu (by omega) (by omega) hneg hb
      rw [hnx] at hl
      (conv => whnf)
      refine ⟨rfl, hy.len ?_⟩
      (conv => whnf)
      refine HIf.beqF (by omega) ?_
      (conv => whnf)
      refine HLit.one ?_
      (conv => whnf)
      refine ⟨rfl, rfl, HApp.snocR Oz (by omega) (fun h3 r3 y3 B3 hr3 O3 => ?_)⟩
      have hE := E.1
      have R3 := Ry.but B3 hr3
      have E3 := E.but B3 hr1
      (conv => whnf)
      refine (spec_l6Reflect _ _ _ a0 i u (hx00.ext E3) (R3.ints E3) hC (by omega) hul).mono ?_
      rintro r h5 ⟨y5, rfl, f5⟩
      obtain ⟨r5, hr5, O5⟩ := f5.row
      have := O3.lt
      have hE3 := E3.1
      (conv => whnf)
      refine HArith.fits (by omega) (by omega) ?_
      (conv => whnf)
      exact ⟨⟨k + 1, _, r3, _, _, l ++ [(i : Int)], m, rfl, E3.trans f5.1, by omega, O3.ext f5.1, Or.inr ⟨r5, by omega, by omega, O5⟩, P2, by omega, by simp; omega, by rw [List.append_assoc]; exact hl⟩, by show 31 - (k + 1) < 31 - k; omega⟩
  · (conv => whnf)
    (repeat (first | (refine HIf.decF hge ?_; conv => whnf) | (refine HIf.no ?_; conv => whnf)))
    refine ⟨rfl, hy.len ?_⟩
    (conv => whnf)
    refine HIf.beqT (by omega) ?_
    (conv => whnf)
    rw [out (by omega)]
    exact ⟨_, rfl, Fresh.ofRow E Oz hr1⟩

theorem spec_l8Normal (h : Heap) (x0 : H0) (a0 : List (List Int)) (x1 : H0) (a1 : List Int) (hx0 : Rows h x0 a0) (hx1 : Ints h x1 a1) (hC : Cartan a0) (hw : lettersOk a0 a1 = true) (s1 : a1.length ≤ 30) :
    HCalls dm Try.prog 114 [.s x0, .s x1] h (fun r h' => ∃ y, r = .s y ∧ Fresh h h' y (normF a0 a1)) := by
  obtain ⟨n, hn, P⟩ := play_image hC hw (by omega)
  refine calls_of_hFun (m := 0) kd_ok mixed Try.func114 rfl (by kernel_rfl) rfl rfl (of_decide_eq_true rfl) ?_; unfold hFun; (conv => whnf)
  refine (spec_l8Image _ _ a0 _ a1 hx0 hx1 ((isCartan_iff a0).2 hC) hw (by omega)).mono ?_
  rintro r h1 ⟨y1, rfl, f1⟩
  (conv => whnf)
  refine (spec_l8Form _ _ a0 _ _ n (hx0.ext f1.1) f1.ints hC P (by omega)).mono ?_
  rintro r h2 ⟨y2, rfl, f2⟩
  have hz := Fresh.inner f1.1 f2
  (conv => whnf)
  exact ⟨_, rfl, Fresh.of hz.1 hz.2⟩

end Go.Proofs.Ytkkniibnlniflaa.Hx

namespace Go.Proofs.Ytkkniibnlniflaa.Hx
open Go.RowKit
variable {dm : Bool}



theorem spec_AreSame (h : Heap) (x0 : H0) (a0 : List (List Int)) (x1 : H0) (a1 : List Int) (x2 : H0) (a2 : List Int) (hx0 : Rows h x0 a0) (hx1 : Ints h x1 a1) (hx2 : Ints h x2 a2) (s0 : a0.length ≤ 1048576 ∧ tot a0 ≤ 1048576) (s1 : a1.length ≤ 1048576) (s2 : a2.length ≤ 1048576) :
    HCalls dm Try.prog 112 [.s x0, .s x1, .s x2] h (fun r h' => r = B (areSame a0 a1 a2) ∧ Ext h h') := by
  refine calls_of_hFun (m := 0) kd_ok mixed Try.func112 rfl (by kernel_rfl) rfl rfl (of_decide_eq_true rfl) ?_; unfold hFun; (conv => whnf)
  refine (spec_IsWord _ _ _ a0 a1 hx0 hx1 (by omega) (by omega)).mono ?_
  rintro r h1 ⟨rfl, rfl⟩
  (conv => whnf)
  cases hc1 : isWord a0 a1
  · (repeat (first | (refine ⟨rfl, Ints.len (by assumption) ?_⟩; conv => whnf) | (refine ⟨rfl, Rows.len (by assumption) ?_⟩; conv => whnf) | (refine ⟨rfl, HLen.sl ?_⟩; conv => whnf) | (refine ⟨rfl, At.load (by assumption) ?_⟩; conv => whnf) | (refine HIf.yes ?_; conv => whnf) | (refine HIf.no ?_; conv => whnf) | (refine HIf.isT (by assumption) ?_; conv => whnf) | (refine HIf.isF (by assumption) ?_; conv => whnf) | (refine HIf.decT (by assumption) ?_; conv => whnf) | (refine HIf.decF (by assumption) ?_; conv => whnf) | (refine HIf.beqT (by assumption) ?_; conv => whnf) | (refine HIf.beqF (by assumption) ?_; conv => whnf) | (refine HIf.bneT (by assumption) ?_; conv => whnf) | (refine HIf.bneF (by assumption) ?_; conv => whnf) | (refine ⟨rfl, Ints.idxN (by assumption) (by omega) (fun p hp => ?_)⟩; conv => whnf) | (refine ⟨rfl, Rows.idxN (by assumption) (by omega) (fun p y hp hy => ?_)⟩; conv => whnf) | (refine And.intro (show Kd.isBool _ = true from rfl) ?_; conv => whnf) | (refine ⟨rfl, Ints.idx (by assumption) (by omega) (by omega) (fun p hp => ?_)⟩; conv => whnf) | (refine ⟨rfl, Rows.idx (by assumption) (by omega) (by omega) (fun p y hp hy => ?_)⟩; conv => whnf) | (refine HArith.fits (by omega) (by omega) ?_; conv => whnf) | (refine Or.inl (And.intro (show Region.lexB _ _ = true by kernel_rfl) ?_); conv => whnf)))
    exact ⟨bEq (by simp [areSame, hc1]), Ext.refl _⟩
  (repeat (first | (refine ⟨rfl, Ints.len (by assumption) ?_⟩; conv => whnf) | (refine ⟨rfl, Rows.len (by assumption) ?_⟩; conv => whnf) | (refine ⟨rfl, HLen.sl ?_⟩; conv => whnf) | (refine ⟨rfl, At.load (by assumption) ?_⟩; conv => whnf) | (refine HIf.yes ?_; conv => whnf) | (refine HIf.no ?_; conv => whnf) | (refine HIf.isT (by assumption) ?_; conv => whnf) | (refine HIf.isF (by assumption) ?_; conv => whnf) | (refine HIf.decT (by assumption) ?_; conv => whnf) | (refine HIf.decF (by assumption) ?_; conv => whnf) | (refine HIf.beqT (by assumption) ?_; conv => whnf) | (refine HIf.beqF (by assumption) ?_; conv => whnf) | (refine HIf.bneT (by assumption) ?_; conv => whnf) | (refine HIf.bneF (by assumption) ?_; conv => whnf) | (refine ⟨rfl, Ints.idxN (by assumption) (by omega) (fun p hp => ?_)⟩; conv => whnf) | (refine ⟨rfl, Rows.idxN (by assumption) (by omega) (fun p y hp hy => ?_)⟩; conv => whnf) | (refine And.intro (show Kd.isBool _ = true from rfl) ?_; conv => whnf) | (refine ⟨rfl, Ints.idx (by assumption) (by omega) (by omega) (fun p hp => ?_)⟩; conv => whnf) | (refine ⟨rfl, Rows.idx (by assumption) (by omega) (by omega) (fun p y hp hy => ?_)⟩; conv => whnf) | (refine HArith.fits (by omega) (by omega) ?_; conv => whnf) | (refine Or.inl (And.intro (show Region.lexB _ _ = true by kernel_rfl) ?_); conv => whnf)))
  refine (spec_IsWord _ _ _ a0 a2 hx0 hx2 (by omega) (by omega)).mono ?_
  rintro r h1 ⟨rfl, rfl⟩
  (conv => whnf)
  cases hc2 : isWord a0 a2
  · (repeat (first | (refine ⟨rfl, Ints.len (by assumption) ?_⟩; conv => whnf) | (refine ⟨rfl, Rows.len (by assumption) ?_⟩; conv => whnf) | (refine ⟨rfl, HLen.sl ?_⟩; conv => whnf) | (refine ⟨rfl, At.load (by assumption) ?_⟩; conv => whnf) | (refine HIf.yes ?_; conv => whnf) | (refine HIf.no ?_; conv => whnf) | (refine HIf.isT (by assumption) ?_; conv => whnf) | (refine HIf.isF (by assumption) ?_; conv => whnf) | (refine HIf.decT (by assumption) ?_; conv => whnf) | (refine HIf.decF (by assumption) ?_; conv => whnf) | (refine HIf.beqT (by assumption) ?_; conv => whnf) | (refine HIf.beqF (by assumption) ?_; conv => whnf) | (refine HIf.bneT (by assumption) ?_; conv => whnf) | (refine HIf.bneF (by assumption) ?_; conv => whnf) | (refine ⟨rfl, Ints.idxN (by assumption) (by omega) (fun p hp => ?_)⟩; conv => whnf) | (refine ⟨rfl, Rows.idxN (by assumption) (by omega) (fun p y hp hy => ?_)⟩; conv => whnf) | (refine And.intro (show Kd.isBool _ = true from rfl) ?_; conv => whnf) | (refine ⟨rfl, Ints.idx (by assumption) (by omega) (by omega) (fun p hp => ?_)⟩; conv => whnf) | (refine ⟨rfl, Rows.idx (by assumption) (by omega) (by omega) (fun p y hp hy => ?_)⟩; conv => whnf) | (refine HArith.fits (by omega) (by omega) ?_; conv => whnf) | (refine Or.inl (And.intro (show Region.lexB _ _ = true by kernel_rfl) ?_); conv => whnf)))
    exact ⟨bEq (by simp [areSame, hc2]), Ext.refl _⟩
  have w1 := word_cartan hc1
  have w2 := word_cartan hc2
  have h4 := w1.1.le
  have hic := (isCartan_iff a0).2 w1.1
  (repeat (first | (refine ⟨rfl, Ints.len (by assumption) ?_⟩; conv => whnf) | (refine ⟨rfl, Rows.len (by assumption) ?_⟩; conv => whnf) | (refine ⟨rfl, HLen.sl ?_⟩; conv => whnf) | (refine ⟨rfl, At.load (by assumption) ?_⟩; conv => whnf) | (refine HIf.yes ?_; conv => whnf) | (refine HIf.no ?_; conv => whnf) | (refine HIf.isT (by assumption) ?_; conv => whnf) | (refine HIf.isF (by assumption) ?_; conv => whnf) | (refine HIf.decT (by assumption) ?_; conv => whnf) | (refine HIf.decF (by assumption) ?_; conv => whnf) | (refine HIf.beqT (by assumption) ?_; conv => whnf) | (refine HIf.beqF (by assumption) ?_; conv => whnf) | (refine HIf.bneT (by assumption) ?_; conv => whnf) | (refine HIf.bneF (by assumption) ?_; conv => whnf) | (refine ⟨rfl, Ints.idxN (by assumption) (by omega) (fun p hp => ?_)⟩; conv => whnf) | (refine ⟨rfl, Rows.idxN (by assumption) (by omega) (fun p y hp hy => ?_)⟩; conv => whnf) | (refine And.intro (show Kd.isBool _ = true from rfl) ?_; conv => whnf) | (refine ⟨rfl, Ints.idx (by assumption) (by omega) (by omega) (fun p hp => ?_)⟩; conv => whnf) | (refine ⟨rfl, Rows.idx (by assumption) (by omega) (by omega) (fun p y hp hy => ?_)⟩; conv => whnf) | (refine HArith.fits (by omega) (by omega) ?_; conv => whnf) | (refine Or.inl (And.intro (show Region.lexB _ _ = true by kernel_rfl) ?_); conv => whnf)))
  refine (spec_l8Image _ _ a0 _ a1 hx0 hx1 hic w1.2.2 s1).mono ?_
  rintro r h2 ⟨y1, rfl, f1⟩
  (conv => whnf)
  (repeat (first | (refine ⟨rfl, Ints.len (by assumption) ?_⟩; conv => whnf) | (refine ⟨rfl, Rows.len (by assumption) ?_⟩; conv => whnf) | (refine ⟨rfl, HLen.sl ?_⟩; conv => whnf) | (refine ⟨rfl, At.load (by assumption) ?_⟩; conv => whnf) | (refine HIf.yes ?_; conv => whnf) | (refine HIf.no ?_; conv => whnf) | (refine HIf.isT (by assumption) ?_; conv => whnf) | (refine HIf.isF (by assumption) ?_; conv => whnf) | (refine HIf.decT (by assumption) ?_; conv => whnf) | (refine HIf.decF (by assumption) ?_; conv => whnf) | (refine HIf.beqT (by assumption) ?_; conv => whnf) | (refine HIf.beqF (by assumption) ?_; conv => whnf) | (refine HIf.bneT (by assumption) ?_; conv => whnf) | (refine HIf.bneF (by assumption) ?_; conv => whnf) | (refine ⟨rfl, Ints.idxN (by assumption) (by omega) (fun p hp => ?_)⟩; conv => whnf) | (refine ⟨rfl, Rows.idxN (by assumption) (by omega) (fun p y hp hy => ?_)⟩; conv => whnf) | (refine And.intro (show Kd.isBool _ = true from rfl) ?_; conv => whnf) | (refine ⟨rfl, Ints.idx (by assumption) (by omega) (by omega) (fun p hp => ?_)⟩; conv => whnf) | (refine ⟨rfl, Rows.idx (by assumption) (by omega) (by omega) (fun p y hp hy => ?_)⟩; conv => whnf) | (refine HArith.fits (by omega) (by omega) ?_; conv => whnf) | (refine Or.inl (And.intro (show Region.lexB _ _ = true by kernel_rfl) ?_); conv => whnf)))
  refine (spec_l8Image _ _ a0 _ a2 (hx0.ext f1.1) (hx2.ext f1.1) hic w2.2.2 s2).mono ?_
  rintro r h3 ⟨y2, rfl, f2⟩
  (conv => whnf)
  (repeat (first | (refine ⟨rfl, Ints.len (by assumption) ?_⟩; conv => whnf) | (refine ⟨rfl, Rows.len (by assumption) ?_⟩; conv => whnf) | (refine ⟨rfl, HLen.sl ?_⟩; conv => whnf) | (refine ⟨rfl, At.load (by assumption) ?_⟩; conv => whnf) | (refine HIf.yes ?_; conv => whnf) | (refine HIf.no ?_; conv => whnf) | (refine HIf.isT (by assumption) ?_; conv => whnf) | (refine HIf.isF (by assumption) ?_; conv => whnf) | (refine HIf.decT (by assumption) ?_; conv => whnf) | (refine HIf.decF (by assumption) ?_; conv => whnf) | (refine HIf.beqT (by assumption) ?_; conv => whnf) | (refine HIf.beqF (by assumption) ?_; conv => whnf) | (refine HIf.bneT (by assumption) ?_; conv => whnf) | (refine HIf.bneF (by assumption) ?_; conv => whnf) | (refine ⟨rfl, Ints.idxN (by assumption) (by omega) (fun p hp => ?_)⟩; conv => whnf) | (refine ⟨rfl, Rows.idxN (by assumption) (by omega) (fun p y hp hy => ?_)⟩; conv => whnf) | (refine And.intro (show Kd.isBool _ = true from rfl) ?_; conv => whnf) | (refine ⟨rfl, Ints.idx (by assumption) (by omega) (by omega) (fun p hp => ?_)⟩; conv => whnf) | (refine ⟨rfl, Rows.idx (by assumption) (by omega) (by omega) (fun p y hp hy => ?_)⟩; conv => whnf) | (refine HArith.fits (by omega) (by omega) ?_; conv => whnf) | (refine Or.inl (And.intro (show Region.lexB _ _ = true by kernel_rfl) ?_); conv => whnf)))
  refine (spec_EqualWords _ _ _ _ _ (f1.ints.ext f2.1) f2.ints (by rw [imageOf_length]; omega)).mono ?_
  rintro r h4 ⟨rfl, rfl⟩
  (conv => whnf)
  (repeat (first | (refine ⟨rfl, Ints.len (by assumption) ?_⟩; conv => whnf) | (refine ⟨rfl, Rows.len (by assumption) ?_⟩; conv => whnf) | (refine ⟨rfl, HLen.sl ?_⟩; conv => whnf) | (refine ⟨rfl, At.load (by assumption) ?_⟩; conv => whnf) | (refine HIf.yes ?_; conv => whnf) | (refine HIf.no ?_; conv => whnf) | (refine HIf.isT (by assumption) ?_; conv => whnf) | (refine HIf.isF (by assumption) ?_; conv => whnf) | (refine HIf.decT (by assumption) ?_; conv => whnf) | (refine HIf.decF (by assumption) ?_; conv => whnf) | (refine HIf.beqT (by assumption) ?_; conv => whnf) | (refine HIf.beqF (by assumption) ?_; conv => whnf) | (refine HIf.bneT (by assumption) ?_; conv => whnf) | (refine HIf.bneF (by assumption) ?_; conv => whnf) | (refine ⟨rfl, Ints.idxN (by assumption) (by omega) (fun p hp => ?_)⟩; conv => whnf) | (refine ⟨rfl, Rows.idxN (by assumption) (by omega) (fun p y hp hy => ?_)⟩; conv => whnf) | (refine And.intro (show Kd.isBool _ = true from rfl) ?_; conv => whnf) | (refine ⟨rfl, Ints.idx (by assumption) (by omega) (by omega) (fun p hp => ?_)⟩; conv => whnf) | (refine ⟨rfl, Rows.idx (by assumption) (by omega) (by omega) (fun p y hp hy => ?_)⟩; conv => whnf) | (refine HArith.fits (by omega) (by omega) ?_; conv => whnf) | (refine Or.inl (And.intro (show Region.lexB _ _ = true by kernel_rfl) ?_); conv => whnf)))
  exact ⟨bEq (by simp [areSame, hc1, hc2]), f1.1.trans f2.1⟩

end Go.Proofs.Ytkkniibnlniflaa.Hx
