/-
  The laws FnExactSignOf, FnExactHeightOf, FnExactSquareFree, FnExactRootSign walked: whatever the slice, each comes back true.
-/
import Derived.Test.YtplilopilfaogaaFa
namespace Go.Proofs.Ytplilopilfaogaa.Hx
open Go.RowKit

theorem law_SignOf (h : Heap) (x : H0) (a : List Int) (hx : Ints h x a) : HCalls Try.prog 3 [.s x] h (fun r _ => r = B true) := by
  refine calls_of_hFun (m := 0) kd_ok mixed Try.func3 rfl (by kernel_rfl) rfl rfl (of_decide_eq_true rfl) ?_; unfold hFun; conv => whnf
  refine ⟨rfl, hx.len ?_⟩
  (conv => whnf)
  refine HIf.dec (fun _ => ?_) (fun hle => ?_)
  · (conv => whnf)
    rfl
  have hal : a.length ≤ 2199023255552 := by omega
  (conv => whnf)
  refine (toIntS_fresh _ _ _ hx hal).mono ?_
  rintro r h1 ⟨y, rfl, hf⟩
  have hy := hf.ints
  have hx1 := hx.ext hf.1
  clear hx hf
  (conv => whnf)
  refine (spec_SignOf _ _ _ hy).mono ?_
  rintro r h1 ⟨rfl, rfl⟩
  (conv => whnf)
  clear hy
  refine (toIntS_fresh _ _ _ hx1 hal).mono ?_
  rintro r h2 ⟨y2, rfl, hf⟩
  have hy := hf.ints
  have hx2 := hx1.ext hf.1
  clear hx1 hf
  (conv => whnf)
  refine (impl_SignOf _ _ _ hy).mono ?_
  rintro r h2 ⟨rfl, rfl⟩
  (conv => whnf)
  refine HIf.bneF rfl ?_
  (conv => whnf)
  refine (toIntS_fresh _ _ _ hx2 hal).mono ?_
  rintro r h3 ⟨y3, rfl, hf⟩
  have hy3 := hf.ints
  have hy2 := hy.ext hf.1
  (conv => whnf)
  refine (eqIntS_any _ _ _ _ _ hy2 hy3 hal).mono ?_
  rintro r h3 ⟨rfl, rfl⟩
  (conv => whnf)
  refine HIf.bnot (HIf.decT rfl ?_)
  (conv => whnf)
  rfl

theorem law_HeightOf (h : Heap) (x : H0) (a : List Int) (hx : Ints h x a) : HCalls Try.prog 4 [.s x] h (fun r _ => r = B true) := by
  refine calls_of_hFun (m := 0) kd_ok mixed Try.func4 rfl (by kernel_rfl) rfl rfl (of_decide_eq_true rfl) ?_; unfold hFun; conv => whnf
  refine ⟨rfl, hx.len ?_⟩
  (conv => whnf)
  refine HIf.dec (fun _ => ?_) (fun hle => ?_)
  · (conv => whnf)
    rfl
  have hal : a.length ≤ 2199023255552 := by omega
  (conv => whnf)
  refine (toIntS_fresh _ _ _ hx hal).mono ?_
  rintro r h1 ⟨y, rfl, hf⟩
  have hy := hf.ints
  have hx1 := hx.ext hf.1
  clear hx hf
  (conv => whnf)
  refine (spec_HeightOf _ _ _ hy hal).mono ?_
  rintro r h1 ⟨rfl, rfl⟩
  (conv => whnf)
  clear hy
  refine (toIntS_fresh _ _ _ hx1 hal).mono ?_
  rintro r h2 ⟨y2, rfl, hf⟩
  have hy := hf.ints
  have hx2 := hx1.ext hf.1
  clear hx1 hf
  (conv => whnf)
  refine (impl_HeightOf _ _ _ hy hal).mono ?_
  rintro r h2 ⟨rfl, rfl⟩
  (conv => whnf)
  refine HIf.bneF rfl ?_
  (conv => whnf)
  refine (toIntS_fresh _ _ _ hx2 hal).mono ?_
  rintro r h3 ⟨y3, rfl, hf⟩
  have hy3 := hf.ints
  have hy2 := hy.ext hf.1
  (conv => whnf)
  refine (eqIntS_any _ _ _ _ _ hy2 hy3 hal).mono ?_
  rintro r h3 ⟨rfl, rfl⟩
  (conv => whnf)
  refine HIf.bnot (HIf.decT rfl ?_)
  (conv => whnf)
  rfl

theorem law_SquareFree (h : Heap) (x : H0) (a : List Int) (hx : Ints h x a) : HCalls Try.prog 5 [.s x] h (fun r _ => r = B true) := by
  refine calls_of_hFun (m := 0) kd_ok mixed Try.func5 rfl (by kernel_rfl) rfl rfl (of_decide_eq_true rfl) ?_; unfold hFun; conv => whnf
  refine ⟨rfl, hx.len ?_⟩
  (conv => whnf)
  refine HIf.dec (fun _ => ?_) (fun hle => ?_)
  · (conv => whnf)
    rfl
  have hal : a.length ≤ 2199023255552 := by omega
  (conv => whnf)
  refine (toIntS_fresh _ _ _ hx hal).mono ?_
  rintro r h1 ⟨y, rfl, hf⟩
  have hy := hf.ints
  have hx1 := hx.ext hf.1
  clear hx hf
  (conv => whnf)
  refine (spec_SquareFree _ _ _ hy hal).mono ?_
  rintro r h1 ⟨rfl, rfl⟩
  (conv => whnf)
  clear hy
  refine (toIntS_fresh _ _ _ hx1 hal).mono ?_
  rintro r h2 ⟨y2, rfl, hf⟩
  have hy := hf.ints
  have hx2 := hx1.ext hf.1
  clear hx1 hf
  (conv => whnf)
  refine (impl_SquareFree _ _ _ hy hal).mono ?_
  rintro r h2 ⟨rfl, rfl⟩
  (conv => whnf)
  refine ⟨rfl, ?_⟩; (conv => whnf); refine HIf.bnot (HIf.isT (by simp) ?_)
  (conv => whnf)
  refine (toIntS_fresh _ _ _ hx2 hal).mono ?_
  rintro r h3 ⟨y3, rfl, hf⟩
  have hy3 := hf.ints
  have hy2 := hy.ext hf.1
  (conv => whnf)
  refine (eqIntS_any _ _ _ _ _ hy2 hy3 hal).mono ?_
  rintro r h3 ⟨rfl, rfl⟩
  (conv => whnf)
  refine HIf.bnot (HIf.decT rfl ?_)
  (conv => whnf)
  rfl

theorem law_RootSign (h : Heap) (x : H0) (a : List Int) (hx : Ints h x a) : HCalls Try.prog 6 [.s x] h (fun r _ => r = B true) := by
  refine calls_of_hFun (m := 0) kd_ok mixed Try.func6 rfl (by kernel_rfl) rfl rfl (of_decide_eq_true rfl) ?_; unfold hFun; conv => whnf
  refine ⟨rfl, hx.len ?_⟩
  (conv => whnf)
  refine HIf.dec (fun _ => ?_) (fun hle => ?_)
  · (conv => whnf)
    rfl
  have hal : a.length ≤ 2199023255552 := by omega
  (conv => whnf)
  refine (toIntS_fresh _ _ _ hx hal).mono ?_
  rintro r h1 ⟨y, rfl, hf⟩
  have hy := hf.ints
  have hx1 := hx.ext hf.1
  clear hx hf
  (conv => whnf)
  refine (spec_RootSign _ _ _ hy hal).mono ?_
  rintro r h1 ⟨rfl, rfl⟩
  (conv => whnf)
  clear hy
  refine (toIntS_fresh _ _ _ hx1 hal).mono ?_
  rintro r h2 ⟨y2, rfl, hf⟩
  have hy := hf.ints
  have hx2 := hx1.ext hf.1
  clear hx1 hf
  (conv => whnf)
  refine (impl_RootSign _ _ _ hy hal).mono ?_
  rintro r h2 ⟨rfl, rfl⟩
  (conv => whnf)
  refine HIf.bneF rfl ?_
  (conv => whnf)
  refine (toIntS_fresh _ _ _ hx2 hal).mono ?_
  rintro r h3 ⟨y3, rfl, hf⟩
  have hy3 := hf.ints
  have hy2 := hy.ext hf.1
  (conv => whnf)
  refine (eqIntS_any _ _ _ _ _ hy2 hy3 hal).mono ?_
  rintro r h3 ⟨rfl, rfl⟩
  (conv => whnf)
  refine HIf.bnot (HIf.decT rfl ?_)
  (conv => whnf)
  rfl

end Go.Proofs.Ytplilopilfaogaa.Hx
