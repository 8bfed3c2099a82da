/-
  Numbers, weights and lists of roots as texts: in plain words, and of the reference.
  DERIVED: THE SHELF's CONTRACTS AT THIS DUMP, IN PLAIN WORDS (tools/lay-plain.mjs out of 'YtgliajcgcbnemaaGreatDoorSt.lean', which tools/lay-shelf.mjs wrote): THE SAME DECLARATIONS UNDER THE SAME NAMES: 'import', 'namespace', 'open', 'def', 'theorem' AND NOTHING ELSE: no command of the shelf's: FOR A HAND-IN. Each laying: the table of numbers ('.._ren') and one theorem, a field a fact of the dump's own or the kernel's comparison; each contract: ONE APPLICATION.
  The contract of strings.Join, led over to rows.
  The contracts of strconv.Itoa and strings.Join, led over to rows; FormatInt, FormatWeight of both sides.
  FormatRoots of both sides.
  What the reference draws: a weight of small numbers.
-/
import Derived.Test.YtgliajcgcbnemaaGreatDoorZ24
import Derived.Lib.ItoaNum
import Derived.Lib.ItoaLen
import Derived.Lib.Join
import Derived.Shelf.Strings.OnBuilder
import Derived.Shelf.LaysM
import Derived.Shelf.Strconv.Itoa3
import Derived.Ground.NamesProg
import Derived.Test.YtgliajcgcbnemaaGreatDoorProg
import Derived.Lib.LaidTab
namespace Go.Proofs.YtgliajcgcbnemaaGreatDoor.Hx
open Go.RowKit
variable {dm : Bool}

/-- A text as a slot's value, as a cell. -/
abbrev Tx (l : List UInt8) : HV := .s (.pl (.string ⟨l.toArray⟩))
abbrev stc (l : List UInt8) : H0 := .pl (.string ⟨l.toArray⟩)

theorem bytes_app (a b : List UInt8) : (⟨a.toArray⟩ : ByteArray) ++ ⟨b.toArray⟩ = ⟨(a ++ b).toArray⟩ := by
  apply ByteArray.ext
  simp
theorem HStr.add {a b : List UInt8} {K : HV → Prop} (hl : a.length + b.length ≤ 9223372036854775807) (hK : K (Tx (a ++ b))) : HStr .add ⟨a.toArray⟩ ⟨b.toArray⟩ K :=
  ⟨.string ⟨(a ++ b).toArray⟩, fun P w => by
    have h : ¬ (((⟨a.toArray⟩ : ByteArray).size + (⟨b.toArray⟩ : ByteArray).size : Nat) : Int) > IntKind.i64.max := by
      have e1 : (⟨a.toArray⟩ : ByteArray).size = a.length := by simp [ByteArray.size]
      have e2 : (⟨b.toArray⟩ : ByteArray).size = b.length := by simp [ByteArray.size]
      rw [e1, e2, show IntKind.i64.max = 9223372036854775807 from rfl]
      omega
    simp only [Op.stringOp, if_neg h, bytes_app]
    rfl, hK⟩
/-! ### Digits -/

theorem tmod10 (m : Int) : (m.tmod 10 < 0 → 0 - m.tmod 10 = ((m.natAbs % 10 : Nat) : Int)) ∧ (¬ m.tmod 10 < 0 → m.tmod 10 = ((m.natAbs % 10 : Nat) : Int)) := by
  cases m with
  | ofNat a =>
    have e : (Int.ofNat a).tmod 10 = ((a % 10 : Nat) : Int) := rfl
    have hn : (Int.ofNat a).natAbs = a := rfl
    have ho : Int.ofNat a = (a : Int) := rfl
    rw [e, hn]
    try rw [ho]
    omega
  | negSucc a =>
    have e : (Int.negSucc a).tmod 10 = -(((a + 1) % 10 : Nat) : Int) := rfl
    have hn : (Int.negSucc a).natAbs = a + 1 := rfl
    rw [e, hn]
    omega
theorem tdiv10 (m : Int) : (m.tdiv 10).natAbs = m.natAbs / 10 ∧ (0 ≤ m → 0 ≤ m.tdiv 10) ∧ (m ≤ 0 → m.tdiv 10 ≤ 0) := by
  cases m with
  | ofNat a =>
    have e : (Int.ofNat a).tdiv 10 = ((a / 10 : Nat) : Int) := rfl
    have hn : (Int.ofNat a).natAbs = a := rfl
    have ho : Int.ofNat a = (a : Int) := rfl
    rw [e, hn]
    try rw [ho]
    omega
  | negSucc a =>
    have e : (Int.negSucc a).tdiv 10 = -(((a + 1) / 10 : Nat) : Int) := rfl
    have hn : (Int.negSucc a).natAbs = a + 1 := rfl
    rw [e, hn]
    omega

/-- What is still to be written of a number, and what is there. -/
def restD (u : Nat) (out : List UInt8) : List UInt8 := if u = 0 then out else Lib.decDigits u ++ out
theorem restD_step {u : Nat} (h : u ≠ 0) (out : List UInt8) : restD (u / 10) (UInt8.ofNat (48 + u % 10) :: out) = restD u out := by
  unfold restD
  rw [if_neg h]
  by_cases h10 : u < 10
  · rw [if_pos (by omega), Lib.decDigits, dif_pos h10, Nat.mod_eq_of_lt h10]
    rfl
  · rw [if_neg (by omega)]
    conv => rhs; rw [Lib.decDigits, dif_neg h10]
    simp
theorem restD_len (u : Nat) (out : List UInt8) : out.length ≤ (restD u out).length := by
  unfold restD
  split
  · exact Nat.le_refl _
  · simp
theorem digit_wrap (d : Nat) (h : d < 10) : IntKind.u8.wrap (48 + (d : Int)) = ((UInt8.ofNat (48 + d)).toNat : Int) := by
  have : d = 0 ∨ d = 1 ∨ d = 2 ∨ d = 3 ∨ d = 4 ∨ d = 5 ∨ d = 6 ∨ d = 7 ∨ d = 8 ∨ d = 9 := by omega
  rcases this with rfl | rfl | rfl | rfl | rfl | rfl | rfl | rfl | rfl | rfl <;> decide

/-- A weight's text; the text of a list of roots. -/
def fmtV (v : List Int) : List UInt8 := Lib.join (v.map Lib.itoa) [44]
def fmtR (L : List (List Int)) : List UInt8 := if L.length = 0 then [110, 111, 110, 101] else Lib.join (L.map fmtV) [32]

theorem join_snoc {xs : List (List UInt8)} (x sep : List UInt8) (h : xs ≠ []) : Lib.join (xs ++ [x]) sep = Lib.join xs sep ++ sep ++ x := by
  cases xs with
  | nil => exact absurd rfl h
  | cons y r => simp [Lib.join_cons, Lib.joinTail]
theorem join_take {α : Type} (f : α → List UInt8) (sep : List UInt8) (xs : List α) {k : Nat} (h : k < xs.length) (h0 : 0 < k) : Lib.join ((xs.take (k + 1)).map f) sep = Lib.join ((xs.take k).map f) sep ++ sep ++ f xs[k] := by
  rw [List.take_succ_eq_append_getElem h, List.map_append, List.map_singleton, join_snoc _ _ (by
    intro e
    have := congrArg List.length e
    simp only [List.length_map, List.length_take, List.length_nil] at this
    omega)]
theorem join_first {α : Type} (f : α → List UInt8) (sep : List UInt8) (xs : List α) (h : 0 < xs.length) : Lib.join ((xs.take 1).map f) sep = f xs[0] := by
  cases xs with
  | nil => simp at h
  | cons y r => simp [Lib.join_one]
theorem join_le (sep : List UInt8) {b : Nat} (hs : sep.length ≤ 1) : ∀ (xs : List (List UInt8)), (∀ x ∈ xs, x.length ≤ b) → (Lib.join xs sep).length ≤ (b + 1) * xs.length
  | [], _ => by simp [Lib.join_nil]
  | x :: r, h => by
    rw [Lib.join_cons, List.length_append, Lib.joinTail]
    have hr : ∀ (r : List (List UInt8)), (∀ x ∈ r, x.length ≤ b) → ((r.map (sep ++ ·)).flatten).length ≤ (b + 1) * r.length := by
      intro r
      induction r with
      | nil => simp
      | cons y t ih =>
        intro h
        have h1 := h y (by simp)
        have h2 := ih fun z hz => h z (by simp [hz])
        simp only [List.map_cons, List.flatten_cons, List.length_append, List.length_cons, Nat.mul_add]
        omega
    have h1 := h x (by simp)
    have h2 := hr r fun z hz => h z (by simp [hz])
    simp only [List.length_cons, Nat.mul_add]
    omega

def absAt (vs : List HV) (k : Nat) : Nat := match vs[k]? with
  | some (HV.s (H0.pl (Value.int _ m))) => m.natAbs
  | _ => 0

def I64 (n : Int) : Prop := -9223372036854775808 ≤ n ∧ n ≤ 9223372036854775807

theorem itoa_le {n : Int} (h : I64 n) : (Lib.itoa n).length ≤ 21 := Lib.itoa_length_le n h.1 h.2
theorem fmtV_le {v : List Int} (h : ∀ x ∈ v, I64 x) : (fmtV v).length ≤ 22 * v.length := by
  unfold fmtV
  have := join_le (b := 21) [44] (by simp) (v.map Lib.itoa) (fun x hx => by
    obtain ⟨n, hn, rfl⟩ := List.mem_map.1 hx
    exact itoa_le (h n hn))
  simpa using this


set_option maxHeartbeats 1000000 in
theorem spec_FormatInt (h : Heap) (n : Int) (hn : I64 n) : HCalls dm Tryz.prog 127 [I n] h (fun r h' => r = Tx (Lib.itoa n) ∧ Ext h h') := by
  obtain ⟨hn1, hn2⟩ := hn
  have htot : (Lib.decDigits n.natAbs).length ≤ 20 := by
    rw [Lib.decDigits_length]
    exact Lib.nDigits_le20 _ (by omega)
  refine calls_of_hFun (m := 0) kd_ok mixed Tryz.func127 rfl (by kernel_rfl) rfl rfl (of_decide_eq_true rfl) ?_; unfold hFun; (conv => whnf)
  refine HIf.beq (fun h0 => ?_) (fun h0 => ?_)
  · (conv => whnf)
    refine ⟨?_, Ext.refl h⟩
    subst h0
    rw [show Lib.itoa 0 = [48] by simp [Lib.itoa, Lib.decDigits_one]]
    rfl
  (conv => whnf)
  have start : restD n.natAbs [] = Lib.decDigits n.natAbs := by
    unfold restD
    rw [if_neg (by omega), List.append_nil]
  refine HLoop.intro [0, 3] [10, 11, 12, 13, 5, 14, 15, 16, 17, 5, 18, 19, 20, 21, 22, 23, 24, 3, 25, 26, 0] (by kernel_rfl) (by kernel_rfl) (fun vs h' => ∃ (m : Int) (out : List UInt8), vs = [I m, .s (stc out)] ∧ Ext h h' ∧ m.natAbs ≤ n.natAbs ∧ (0 ≤ n → 0 ≤ m) ∧ (n ≤ 0 → m ≤ 0) ∧ restD m.natAbs out = Lib.decDigits n.natAbs) (fun vs _ => absAt vs 0) ⟨n, [], rfl, Ext.refl h, Nat.le_refl _, fun e => e, fun e => e, start⟩ ?_
  clear start
  rintro vs h' ⟨m, out, rfl, E, hm, hp, hg, hr⟩
  have hol := restD_len m.natAbs out
  rw [hr] at hol
  (conv => whnf)
  refine HIf.bne (fun hm0 => ?_) (fun hm0 => ?_)
  · have hst := restD_step (u := m.natAbs) (by omega) out
    rw [hr] at hst
    obtain ⟨hdv, hdp, hdn⟩ := tdiv10 m
    obtain ⟨t1, t2⟩ := tmod10 m
    have hlt : m.natAbs % 10 < 10 := Nat.mod_lt _ (by decide)
    have hdw := digit_wrap (m.natAbs % 10) hlt
    have hb1 : (m.tdiv 10).natAbs < m.natAbs := by rw [hdv]; omega
    rw [← hdv] at hst
    generalize m.natAbs % 10 = d at *
    have go : ∀ (K : HV → Prop), (K (I (d : Int))) → True := fun _ _ => trivial
    clear go
    (conv => whnf)
    refine HRem.of (by decide) ?_
    (conv => whnf)
    refine HIf.dec (fun hneg => ?_) (fun hpos => ?_)
    · have e1 := t1 hneg
      (conv => whnf)
      refine HArith.fits (by omega) (by omega) ?_
      rw [e1]
      (conv => whnf)
      refine HArith.fits (by omega) (by omega) ?_
      (conv => whnf)
      refine ⟨.i64, _, rfl, ?_⟩
      rw [hdw]
      (conv => whnf)
      refine HLit.row rfl ?_
      (conv => whnf)
      refine ⟨5, [UInt8.ofNat (48 + d)], by kernel_rfl, by kernel_rfl, by kernel_rfl, ?_, ?_⟩
      · exact Shows.own h'.length 0 1 _ (get_new _ _) (by simp)
      (conv => whnf)
      refine HStr.add (a := [UInt8.ofNat (48 + d)]) (b := out) (by simp; omega) ?_
      (conv => whnf)
      refine HQuo.of (by decide) ?_
      have hw : IntKind.i64.wrap (m.tdiv 10) = m.tdiv 10 := IntWalk.i64_in _ ⟨by omega, by omega⟩
      rw [hw]
      (conv => whnf)
      exact ⟨⟨m.tdiv 10, _, rfl, E.pushed _, by omega, fun e => hdp (hp e), fun e => hdn (hg e), hst⟩, hb1⟩
    · have e1 := t2 hpos
      rw [e1]
      (conv => whnf)
      refine HArith.fits (by omega) (by omega) ?_
      (conv => whnf)
      refine ⟨.i64, _, rfl, ?_⟩
      rw [hdw]
      (conv => whnf)
      refine HLit.row rfl ?_
      (conv => whnf)
      refine ⟨5, [UInt8.ofNat (48 + d)], by kernel_rfl, by kernel_rfl, by kernel_rfl, ?_, ?_⟩
      · exact Shows.own h'.length 0 1 _ (get_new _ _) (by simp)
      (conv => whnf)
      refine HStr.add (a := [UInt8.ofNat (48 + d)]) (b := out) (by simp; omega) ?_
      (conv => whnf)
      refine HQuo.of (by decide) ?_
      have hw : IntKind.i64.wrap (m.tdiv 10) = m.tdiv 10 := IntWalk.i64_in _ ⟨by omega, by omega⟩
      rw [hw]
      (conv => whnf)
      exact ⟨⟨m.tdiv 10, _, rfl, E.pushed _, by omega, fun e => hdp (hp e), fun e => hdn (hg e), hst⟩, hb1⟩
  · subst hm0
    have ho : out = Lib.decDigits n.natAbs := by
      rw [← hr]
      rfl
    subst ho
    (conv => whnf)
    refine HIf.dec (fun hneg => ?_) (fun hpos => ?_)
    · (conv => whnf)
      refine HStr.add (a := [45]) (by simp; omega) ?_
      (conv => whnf)
      refine ⟨?_, E⟩
      rw [Lib.itoa, if_pos hneg]
      rfl
    · (conv => whnf)
      refine ⟨?_, E⟩
      rw [Lib.itoa, if_neg hpos, show n.toNat = n.natAbs by omega]
      rfl

end Go.Proofs.YtgliajcgcbnemaaGreatDoor.Hx

namespace Go.Proofs
open Go.Shelf
def Tryz.joinL_ren : Go.Shelf.Ren := ⟨fun | 156 => 111 | 165 => 167 | 166 => 168 | 169 => 169 | 240 => 213 | 241 => 214 | 276 => 243 | 277 => 244 | n => n, fun | 31 => 77 | 9 => 9 | 3 => 3 | 4 => 4 | 0 => 0 | 20 => 20 | 72 => 107 | 76 => 111 | 70 => 105 | 37 => 34 | 75 => 110 | 127 => 145 | 164 => 167 | 5 => 5 | 80 => 113 | n => n, fun | n => n⟩
theorem Tryz.joinL : Go.Proofs.Lays.n156 Tryz.prog Tryz.joinL_ren := {
  mixed := by kernel_rfl
  f156 := Tryz.func111.trans (congrArg some (by kernel_rfl))
  f165 := Tryz.func167.trans (congrArg some (by kernel_rfl))
  f166 := Tryz.func168.trans (congrArg some (by kernel_rfl))
  f169 := Tryz.func169.trans (congrArg some (by kernel_rfl))
  f240 := Tryz.func213.trans (congrArg some (by kernel_rfl))
  f241 := Tryz.func214.trans (congrArg some (by kernel_rfl))
  f276 := Tryz.func243.trans (congrArg some (by kernel_rfl))
  f277 := Tryz.func244.trans (congrArg some (by kernel_rfl))
  t0 := Tryz.underlying0
  a0 := Tryz.isAgg0
  z0 := Tryz.sizeOf0
  v0 := Tryz.zeroValue0
  t3 := Tryz.underlying3
  a3 := Tryz.isAgg3
  z3 := Tryz.sizeOf3
  v3 := Tryz.zeroValue3
  t4 := Tryz.underlying4
  a4 := Tryz.isAgg4
  z4 := Tryz.sizeOf4
  v4 := Tryz.zeroValue4
  t9 := Tryz.underlying9
  a9 := Tryz.isAgg9
  z9 := Tryz.sizeOf9
  v9 := Tryz.zeroValue9
  t20 := Tryz.underlying20
  a20 := Tryz.isAgg20
  z20 := Tryz.sizeOf20
  v20 := Tryz.zeroValue20
  t31 := Tryz.underlying77
  a31 := Tryz.isAgg77
  z31 := Tryz.sizeOf77
  v31 := Tryz.zeroValue77
  t37 := Tryz.underlying34
  a37 := Tryz.isAgg34
  z37 := Tryz.sizeOf34
  v37 := Tryz.zeroValue34
  t70 := Tryz.underlying105
  a70 := Tryz.isAgg105
  z70 := Tryz.sizeOf105
  v70 := Tryz.zeroValue105
  t72 := Tryz.underlying107
  a72 := Tryz.isAgg107
  z72 := Tryz.sizeOf107
  v72 := Tryz.zeroValue107
  t75 := Tryz.underlying110
  a75 := Tryz.isAgg110
  z75 := Tryz.sizeOf110
  v75 := Tryz.zeroValue110
  t76 := Tryz.underlying111
  a76 := Tryz.isAgg111
  z76 := Tryz.sizeOf111
  v76 := Tryz.zeroValue111
  t127 := Tryz.underlying145
  a127 := Tryz.isAgg145
  z127 := Tryz.sizeOf145
  v127 := Tryz.zeroValue145
  t164 := Tryz.underlying167
  a164 := Tryz.isAgg167
  z164 := Tryz.sizeOf167
  v164 := Tryz.zeroValue167 }
theorem Tryz.joinX : Builder.Extra Tryz.prog Tryz.joinL_ren := {
  sizeBuilder := by kernel_rfl
  liesBuilder := by kernel_rfl
  t5 := Tryz.underlying5
  a5 := Tryz.isAgg5
  z5 := Tryz.sizeOf5
  v5 := Tryz.zeroValue5
  infoByte := by kernel_rfl
  cellsByte := by kernel_rfl
  sizeByte := by kernel_rfl
  neB5 := by decide }
def Tryz.splitL_ren : Go.Shelf.Ren := ⟨fun | 146 => 135 | 221 => 187 | 268 => 227 | 138 => 228 | 143 => 229 | 195 => 249 | 197 => 250 | 218 => 251 | 219 => 252 | 260 => 272 | 217 => 273 | 225 => 274 | 224 => 275 | 267 => 276 | 266 => 296 | 314 => 297 | n => n, fun | 9 => 9 | 31 => 77 | 3 => 3 | 4 => 4 | 0 => 0 | 105 => 172 | 21 => 21 | 5 => 5 | 46 => 99 | 119 => 210 | 139 => 213 | 138 => 212 | 146 => 214 | 51 => 139 | n => n, fun | 1 => 0 | 3 => 3 | 4 => 4 | n => n⟩
theorem Tryz.splitL : Go.Proofs.LaysM.n146 Tryz.prog Tryz.splitL_ren := {
  mixed := by kernel_rfl
  f138 := Tryz.func228.trans (congrArg some (by kernel_rfl))
  f143 := Tryz.func229.trans (congrArg some (by kernel_rfl))
  f146 := Tryz.func135.trans (congrArg some (by kernel_rfl))
  f195 := Tryz.func249.trans (congrArg some (by kernel_rfl))
  f197 := Tryz.func250.trans (congrArg some (by kernel_rfl))
  f217 := Tryz.func273.trans (congrArg some (by kernel_rfl))
  f218 := Tryz.func251.trans (congrArg some (by kernel_rfl))
  f219 := Tryz.func252.trans (congrArg some (by kernel_rfl))
  f221 := Tryz.func187.trans (congrArg some (by kernel_rfl))
  f224 := Tryz.func275.trans (congrArg some (by kernel_rfl))
  f225 := Tryz.func274.trans (congrArg some (by kernel_rfl))
  f260 := Tryz.func272.trans (congrArg some (by kernel_rfl))
  f266 := Tryz.func296.trans (congrArg some (by kernel_rfl))
  f267 := Tryz.func276.trans (congrArg some (by kernel_rfl))
  f268 := Tryz.func227.trans (congrArg some (by kernel_rfl))
  f314 := Tryz.func297.trans (congrArg some (by kernel_rfl))
  t0 := Tryz.underlying0
  a0 := Tryz.isAgg0
  z0 := Tryz.sizeOf0
  v0 := Tryz.zeroValue0
  t3 := Tryz.underlying3
  a3 := Tryz.isAgg3
  z3 := Tryz.sizeOf3
  v3 := Tryz.zeroValue3
  t4 := Tryz.underlying4
  a4 := Tryz.isAgg4
  z4 := Tryz.sizeOf4
  v4 := Tryz.zeroValue4
  t5 := Tryz.underlying5
  a5 := Tryz.isAgg5
  z5 := Tryz.sizeOf5
  v5 := Tryz.zeroValue5
  t9 := Tryz.underlying9
  a9 := Tryz.isAgg9
  z9 := Tryz.sizeOf9
  v9 := Tryz.zeroValue9
  t21 := Tryz.underlying21
  a21 := Tryz.isAgg21
  z21 := Tryz.sizeOf21
  v21 := Tryz.zeroValue21
  t31 := Tryz.underlying77
  a31 := Tryz.isAgg77
  z31 := Tryz.sizeOf77
  v31 := Tryz.zeroValue77
  t46 := Tryz.underlying99
  a46 := Tryz.isAgg99
  z46 := Tryz.sizeOf99
  v46 := Tryz.zeroValue99
  t51 := Tryz.underlying139
  a51 := Tryz.isAgg139
  z51 := Tryz.sizeOf139
  v51 := Tryz.zeroValue139
  t105 := Tryz.underlying172
  a105 := Tryz.isAgg172
  z105 := Tryz.sizeOf172
  v105 := Tryz.zeroValue172
  t119 := Tryz.underlying210
  a119 := Tryz.isAgg210
  z119 := Tryz.sizeOf210
  t138 := Tryz.underlying212
  a138 := Tryz.isAgg212
  z138 := Tryz.sizeOf212
  v138 := Tryz.zeroValue212
  t139 := Tryz.underlying213
  a139 := Tryz.isAgg213
  z139 := Tryz.sizeOf213
  v139 := Tryz.zeroValue213
  t146 := Tryz.underlying214
  a146 := Tryz.isAgg214
  z146 := Tryz.sizeOf214
  v146 := Tryz.zeroValue214
  g1 := by kernel_rfl
  g3 := by kernel_rfl
  g4 := by kernel_rfl
  i0 := by kernel_rfl
  i3 := by kernel_rfl
  i4 := by kernel_rfl
  i5 := by kernel_rfl
  i9 := by kernel_rfl
  i21 := by kernel_rfl
  i31 := by kernel_rfl
  i46 := by kernel_rfl
  i51 := by kernel_rfl
  i105 := by kernel_rfl
  i138 := by kernel_rfl
  i139 := by kernel_rfl
  i146 := by kernel_rfl
  m1 := by kernel_rfl
  s1_3 := fun w h => Go.Proofs.cell_of_shapedOpen_int (zero := #[.int .i64 0]) (t := 3) h (of_decide_eq_true (by kernel_rfl)) (by kernel_rfl) rfl (by kernel_rfl) (by kernel_rfl) Tryz.underlying3
  m3 := by kernel_rfl
  m4 := by kernel_rfl }
def Tryz.itoaL_ren : Go.Shelf.Ren := ⟨fun | 171 => 215 | 243 => 245 | 246 => 266 | 283 => 289 | 284 => 290 | 285 => 291 | 286 => 292 | 129 => 208 | 317 => 302 | 318 => 303 | 319 => 304 | 320 => 305 | 337 => 309 | 338 => 310 | n => n, fun | 3 => 3 | 9 => 9 | 2 => 2 | 4 => 4 | 171 => 200 | 0 => 0 | 53 => 141 | 37 => 34 | 5 => 5 | 173 => 202 | 212 => 220 | 51 => 139 | 20 => 20 | 213 => 221 | 46 => 99 | 232 => 228 | 233 => 229 | n => n, fun | 17 => 5 | 18 => 6 | 19 => 7 | n => n⟩
theorem Tryz.itoaL : Go.Proofs.LaysM.n171 Tryz.prog Tryz.itoaL_ren := {
  mixed := by kernel_rfl
  f129 := Tryz.func208.trans (congrArg some (by kernel_rfl))
  f171 := Tryz.func215.trans (congrArg some (by kernel_rfl))
  f243 := Tryz.func245.trans (congrArg some (by kernel_rfl))
  f246 := Tryz.func266.trans (congrArg some (by kernel_rfl))
  f283 := Tryz.func289.trans (congrArg some (by kernel_rfl))
  f284 := Tryz.func290.trans (congrArg some (by kernel_rfl))
  f285 := Tryz.func291.trans (congrArg some (by kernel_rfl))
  f286 := Tryz.func292.trans (congrArg some (by kernel_rfl))
  f317 := Tryz.func302.trans (congrArg some (by kernel_rfl))
  f318 := Tryz.func303.trans (congrArg some (by kernel_rfl))
  f319 := Tryz.func304.trans (congrArg some (by kernel_rfl))
  f320 := Tryz.func305.trans (congrArg some (by kernel_rfl))
  f337 := Tryz.func309.trans (congrArg some (by kernel_rfl))
  f338 := Tryz.func310.trans (congrArg some (by kernel_rfl))
  t0 := Tryz.underlying0
  a0 := Tryz.isAgg0
  z0 := Tryz.sizeOf0
  v0 := Tryz.zeroValue0
  t2 := Tryz.underlying2
  a2 := Tryz.isAgg2
  z2 := Tryz.sizeOf2
  v2 := Tryz.zeroValue2
  t3 := Tryz.underlying3
  a3 := Tryz.isAgg3
  z3 := Tryz.sizeOf3
  v3 := Tryz.zeroValue3
  t4 := Tryz.underlying4
  a4 := Tryz.isAgg4
  z4 := Tryz.sizeOf4
  v4 := Tryz.zeroValue4
  t5 := Tryz.underlying5
  a5 := Tryz.isAgg5
  z5 := Tryz.sizeOf5
  v5 := Tryz.zeroValue5
  t9 := Tryz.underlying9
  a9 := Tryz.isAgg9
  z9 := Tryz.sizeOf9
  v9 := Tryz.zeroValue9
  t20 := Tryz.underlying20
  a20 := Tryz.isAgg20
  z20 := Tryz.sizeOf20
  v20 := Tryz.zeroValue20
  t37 := Tryz.underlying34
  a37 := Tryz.isAgg34
  z37 := Tryz.sizeOf34
  v37 := Tryz.zeroValue34
  t46 := Tryz.underlying99
  a46 := Tryz.isAgg99
  z46 := Tryz.sizeOf99
  v46 := Tryz.zeroValue99
  t51 := Tryz.underlying139
  a51 := Tryz.isAgg139
  z51 := Tryz.sizeOf139
  v51 := Tryz.zeroValue139
  t53 := Tryz.underlying141
  a53 := Tryz.isAgg141
  z53 := Tryz.sizeOf141
  v53 := Tryz.zeroValue141
  t171 := Tryz.underlying200
  a171 := Tryz.isAgg200
  z171 := Tryz.sizeOf200
  v171 := Tryz.zeroValue200
  t173 := Tryz.underlying202
  a173 := Tryz.isAgg202
  z173 := Tryz.sizeOf202
  v173 := Tryz.zeroValue202
  t212 := Tryz.underlying220
  a212 := Tryz.isAgg220
  z212 := Tryz.sizeOf220
  v212 := Tryz.zeroValue220
  t213 := Tryz.underlying221
  a213 := Tryz.isAgg221
  z213 := Tryz.sizeOf221
  t232 := Tryz.underlying228
  a232 := Tryz.isAgg228
  z232 := Tryz.sizeOf228
  v232 := Tryz.zeroValue228
  t233 := Tryz.underlying229
  a233 := Tryz.isAgg229
  z233 := Tryz.sizeOf229
  v233 := Tryz.zeroValue229
  g17 := by kernel_rfl
  g18 := by kernel_rfl
  g19 := by kernel_rfl
  i0 := by kernel_rfl
  i2 := by kernel_rfl
  i3 := by kernel_rfl
  i4 := by kernel_rfl
  i5 := by kernel_rfl
  i9 := by kernel_rfl
  i20 := by kernel_rfl
  i37 := by kernel_rfl
  i46 := by kernel_rfl
  i51 := by kernel_rfl
  i53 := by kernel_rfl
  i171 := by kernel_rfl
  i173 := by kernel_rfl
  i212 := by kernel_rfl
  i232 := by kernel_rfl
  i233 := by kernel_rfl
  m17 := by kernel_rfl
  m18 := by kernel_rfl
  m19 := by kernel_rfl }
end Go.Proofs

namespace Go.Proofs.YtgliajcgcbnemaaGreatDoor.Hx
open Go.RowKit
variable {dm : Bool}

theorem lat_grow {B0 : Nat} {w : World} (hb : B0 ≤ w.heap.size) (k : Nat) (os : Array Obj) : Lat dm B0 w (Go.Sort.grow (w.drewN k) os) :=
  ⟨⟨rfl, rfl, rfl, by simp [Go.Sort.grow, World.drewN], fun q hq => by
    show (w.heap ++ os)[q]? = _
    rw [Array.getElem?_append_left (by omega)]⟩, fun _ => by show w.drawn ≤ w.drawn + k; omega⟩

theorem strs_back (xs : List (List UInt8)) : (xs.map fun l => (⟨l.toArray⟩ : ByteArray)).map (·.data.toList) = xs := by
  rw [List.map_map]
  conv => rhs; rw [← List.map_id xs]
  refine List.map_congr_left fun l _ => ?_
  simp

theorem lib_Join (h : Heap) (r : Nat) (xs : List (List UInt8)) (sep : List UInt8) (t : List H0) (hr : h[r]? = some (.own (xs.map stc ++ t))) (hN : xs.length ≤ 1048576) (hlen : (Lib.join xs sep).length ≤ 140737488355328) :
    HCalls false Tryz.prog 111 [.s (.sl r 0 xs.length), Tx sep] h (fun z h' => z = Tx (Lib.join xs sep) ∧ h' = h) := by
  refine ⟨enters_of Tryz.func111 (by kernel_rfl) rfl, fun B0 φ w vargs R ha => ?_⟩
  obtain ⟨p, hp⟩ := R.place hr
  obtain ⟨q1, q2, q3, cur, e, q4, q5, q6⟩ := R.own r _ p hr hp
  have hvs : ∃ u, vargs = #[u, .string ⟨sep.toArray⟩] ∧ rep0 φ (.sl r 0 xs.length) u := by
    rcases vargs with ⟨vs⟩
    match vs, ha with
    | [u, v], hh =>
      have : v = .string ⟨sep.toArray⟩ := hh.2.1
      exact ⟨u, by rw [this], hh.1⟩
  obtain ⟨u, rfl, hu⟩ := hvs
  obtain ⟨p', a, cap, hp', rfl, hc1, hc2, hc3, hc4⟩ := hu
  obtain rfl : p' = p := Option.some.inj (hp'.symm.trans hp)
  have fin : ∀ w', Below w.heap.size w w' → ∃ v x h' φ', Ending.returned (.string ⟨(Lib.join xs sep).toArray⟩) = .returned v ∧ (x = Tx (Lib.join xs sep) ∧ h' = h) ∧ Sub φ φ' ∧ Rep B0 φ' h' w' ∧ repV φ' x v ∧ Lat false B0 w w' := fun w' hb =>
    ⟨_, _, h, φ, rfl, ⟨rfl, rfl⟩, Sub.refl _, R.below (dm := false) ⟨hb, fun e => by cases e⟩, rfl, ⟨hb.mono R.base, fun e => by cases e⟩⟩
  by_cases h0 : xs.length = 0
  · have e0 : xs = [] := List.length_eq_zero_iff.1 h0
    subst e0
    refine (Any.strings_Join_none Tryz.joinL Tryz.joinX (some a) cap ⟨sep.toArray⟩ w).mono ?_
    rintro e' w' ⟨rfl, rfl⟩
    exact fin _ (Below.refl _ _)
  · have ha : a = ⟨p'.b, 0, none⟩ := by rw [hc4 (by omega), q1]
    subst ha
    have hblk : p'.b < w.heap.size := (Array.getElem?_eq_some_iff.1 q4).1
    have hmain := Any.strings_Join Tryz.joinL Tryz.joinX p'.b 0 cap (xs.map fun l => (⟨l.toArray⟩ : ByteArray)) ⟨sep.toArray⟩ w (fun j x hx => by
      rw [List.getElem?_map, Option.map_eq_some_iff] at hx
      obtain ⟨l, hl, rfl⟩ := hx
      have hjl : j < xs.length := (List.getElem?_eq_some_iff.1 hl).1
      have hc : (xs.map stc ++ t)[j]? = some (stc l) := by
        rw [List.getElem?_append_left (by simpa using hjl), List.getElem?_map, hl]
        rfl
      obtain ⟨v, e1, e2⟩ := q6 _ _ hc
      have e3 : v = .string ⟨l.toArray⟩ := e2
      rw [Nat.zero_add, cell_of_row w p'.b j cur e (0, 0) q4, e1, e3]) hblk (by simp; omega) (by simpa using hc1) (by
      rw [strs_back]
      exact hlen)
    rw [strs_back, List.length_map] at hmain
    refine hmain.mono ?_
    rintro e' w' ⟨rfl, hb⟩
    exact fin _ hb

/-- A text, appended to a slice of texts of one's own. -/
theorem HApp.text {h : Heap} {r q n : Nat} {xs : List (List UInt8)} {x : List UInt8} {K : HV → Heap → Prop} (hr : h[r]? = some (.own (xs.map stc))) (hq : h[q]? = some (.own [stc x])) (hn : xs.length = n) (hl : n ≤ 1048576)
    (hK : K (.s (.sl h.length 0 (n + 1))) (h.set r .gone ++ [.own ((xs ++ [x]).map stc)])) : HApp h (.s (.sl r 0 n)) (.s (.sl q 0 1)) K := by
  have hs : Shows h (.s (.sl q 0 1)) [stc x] := Shows.own q 0 1 [stc x] hq (by simp)
  refine ⟨[stc x], hs, fun c hc => ?_, xs.map stc, rfl, hr, by simp; omega, Or.inl ⟨by simp; omega, ?_⟩⟩
  · obtain rfl : c = stc x := by simpa using hc
    rfl
  · have e : (xs.map stc).take n = xs.map stc := by rw [← hn, ← List.length_map (f := stc), List.take_length]
    rw [e, ← List.map_singleton (f := stc), ← List.map_append]
    exact hK

end Go.Proofs.YtgliajcgcbnemaaGreatDoor.Hx

namespace Go.Proofs.YtgliajcgcbnemaaGreatDoor.Hx
open Go.RowKit
variable {dm : Bool}

theorem lib_Itoa (h : Heap) (n : Int) (hn : I64 n) : HCalls dm Tryz.prog 215 [I n] h (fun r h' => r = Tx (Lib.itoa n) ∧ h' = h) := by
  refine ⟨enters_of Tryz.func215 (by kernel_rfl) rfl, fun B0 φ w vargs R ha => ?_⟩
  have hv : vargs = #[.int .i64 n] := by
    rcases vargs with ⟨vs⟩
    match vs, ha with
    | [u], hh =>
      have : u = .int .i64 n := hh.1
      rw [this]
  subst hv
  have hmain := Any.strconv_Itoa Tryz.itoaL n hn.1 hn.2 w (by
    have h1 := (R.tab.1 _ (by unfold tabs; exact List.mem_singleton.2 rfl)).2
    unfold Lib.TabIs World.var?
    refine Eq.trans (congrArg (fun o => Option.bind o _) (show _ = some tabG by kernel_rfl)) ?_
    exact h1)
  refine hmain.mono ?_
  rintro e' w' ⟨rfl, k, os, rfl⟩
  exact ⟨_, _, h, φ, rfl, ⟨rfl, rfl⟩, Sub.refl _, R.below (lat_grow (dm := dm) (Nat.le_refl _) k os), rfl, lat_grow R.base k os⟩


theorem impl_FormatInt (h : Heap) (n : Int) (hn : I64 n) : HCalls dm Tryz.prog 170 [I n] h (fun r h' => r = Tx (Lib.itoa n) ∧ h' = h) := by
  refine calls_of_hFun (m := 0) kd_ok mixed Tryz.func170 rfl (by kernel_rfl) rfl rfl (of_decide_eq_true rfl) ?_; unfold hFun; (conv => whnf)
  refine (lib_Itoa _ _ hn).mono ?_
  rintro r h' ⟨rfl, rfl⟩
  (conv => whnf)
  exact ⟨rfl, rfl⟩

theorem impl_joinInts (h : Heap) (x : H0) (v : List Int) (sep : List UInt8) (hx : Ints h x v) (hv : ∀ n ∈ v, I64 n) (hl : v.length ≤ 1048576) (hlen : (Lib.join (v.map Lib.itoa) sep).length ≤ 140737488355328) :
    HCalls false Tryz.prog 119 [.s x, Tx sep] h (fun r h' => r = Tx (Lib.join (v.map Lib.itoa) sep) ∧ Ext h h') := by
  refine calls_of_hFun (m := 0) kd_ok mixed Tryz.func119 rfl (by kernel_rfl) rfl rfl (of_decide_eq_true rfl) ?_; unfold hFun; (conv => whnf)
  refine HLit.empty ?_
  (conv => whnf)
  have E0 := Ext.push h [Row.own []]
  refine ⟨rfl, (hx.ext E0).len ?_⟩
  (conv => whnf)
  refine HLoop.intro [11, 5] [12, 13, 14, 7, 15, 16, 17, 18, 19, 5, 20, 11] (by kernel_rfl) (by kernel_rfl) (fun vs h' => ∃ (k r : Nat), vs = [I k, .s (.sl r 0 k)] ∧ k ≤ v.length ∧ Ext h h' ∧ h.length ≤ r ∧ h'[r]? = some (.own (((v.take k).map Lib.itoa).map stc))) (fun vs _ => v.length - natAt vs 0) ⟨0, h.length, rfl, by omega, E0, Nat.le_refl _, get_new _ _⟩ ?_
  rintro vs h' ⟨k, r, rfl, hk, E, hr, hcs⟩
  (conv => whnf)
  refine HIf.dec (fun hlt => ?_) (fun hge => ?_)
  · have hkl : k < v.length := by omega
    have hin : v.getD k 0 ∈ v := by
      have e : v.getD k 0 = v[k] := by simp [List.getD, hkl]
      rw [e]
      exact List.getElem_mem hkl
    have htk : (v.take (k + 1)).map Lib.itoa = (v.take k).map Lib.itoa ++ [Lib.itoa (v.getD k 0)] := by
      rw [List.take_succ_eq_append_getElem hkl, List.map_append]
      have e : v.getD k 0 = v[k] := by simp [List.getD, hkl]
      rw [e]
      rfl
    have hkn : ((v.take k).map Lib.itoa).length = k := by simp; omega
    (conv => whnf)
    refine ⟨rfl, (hx.ext E).idxN hkl (fun p hp => ?_)⟩
    (conv => whnf)
    refine ⟨rfl, hp.load ?_⟩
    (conv => whnf)
    refine (impl_FormatInt _ _ (hv _ hin)).mono ?_
    rintro r2 h2 ⟨rfl, rfl⟩
    (conv => whnf)
    refine HLit.row (y := stc (Lib.itoa (v.getD k 0))) rfl ?_
    (conv => whnf)
    have hrl := get_lt hcs
    have hE := E.1
    refine ⟨rfl, rfl, HApp.text (by rw [List.getElem?_append_left hrl]; exact hcs) (get_new _ _) hkn (by omega) ?_⟩
    rw [← htk]
    have E2 : Ext h ((h2 ++ [Row.own [stc (Lib.itoa (v.getD k 0))]]).set r Row.gone ++ [Row.own (((v.take (k + 1)).map Lib.itoa).map stc)]) := ((E.pushed _).set hr _).pushed _
    have hnew := get_new ((h2 ++ [Row.own [stc (Lib.itoa (v.getD k 0))]]).set r Row.gone) (Row.own (((v.take (k + 1)).map Lib.itoa).map stc))
    rw [List.length_set] at hnew
    have hnl : h.length ≤ (h2 ++ [Row.own [stc (Lib.itoa (v.getD k 0))]]).length := by simp; omega
    generalize (h2 ++ [Row.own [stc (Lib.itoa (v.getD k 0))]]).length = N at *
    generalize (h2 ++ [Row.own [stc (Lib.itoa (v.getD k 0))]]).set r Row.gone ++ [Row.own (((v.take (k + 1)).map Lib.itoa).map stc)] = h3 at *
    (conv => whnf)
    refine HArith.fits (by omega) (by omega) ?_
    (conv => whnf)
    exact ⟨⟨k + 1, N, rfl, by omega, E2, hnl, hnew⟩, by show v.length - (k + 1) < v.length - k; omega⟩
  · have ek : k = v.length := by omega
    subst ek
    rw [List.take_length] at hcs
    have hj := lib_Join h' r (v.map Lib.itoa) sep [] (by rw [List.append_nil]; exact hcs) (by simpa using hl) hlen
    rw [List.length_map] at hj
    (conv => whnf)
    refine hj.mono ?_
    rintro r2 h2 ⟨rfl, rfl⟩
    (conv => whnf)
    exact ⟨rfl, E⟩

theorem impl_FormatWeight (h : Heap) (x : H0) (v : List Int) (hx : Ints h x v) (hv : ∀ n ∈ v, I64 n) (hl : v.length ≤ 1048576) :
    HCalls false Tryz.prog 58 [.s x] h (fun r h' => r = Tx (fmtV v) ∧ Ext h h') := by
  have hle := fmtV_le hv
  refine calls_of_hFun (m := 0) kd_ok mixed Tryz.func58 rfl (by kernel_rfl) rfl rfl (of_decide_eq_true rfl) ?_; unfold hFun; (conv => whnf)
  refine (impl_joinInts _ _ v [44] hx hv hl (by unfold fmtV at hle; omega)).mono ?_
  rintro r h' ⟨rfl, E⟩
  (conv => whnf)
  exact ⟨rfl, E⟩

set_option maxHeartbeats 1000000 in
theorem spec_FormatWeight (h : Heap) (x : H0) (v : List Int) (hx : Ints h x v) (hv : ∀ n ∈ v, I64 n) (hl : v.length ≤ 1048576) :
    HCalls dm Tryz.prog 65 [.s x] h (fun r h' => r = Tx (fmtV v) ∧ Ext h h') := by
  refine calls_of_hFun (m := 0) kd_ok mixed Tryz.func65 rfl (by kernel_rfl) rfl rfl (of_decide_eq_true rfl) ?_; unfold hFun; (conv => whnf)
  refine HLoop.intro [4, 3] [5, 6, 7, 8, 11, 12, 13, 14, 3, 15, 16, 17, 18, 19, 20, 21, 3, 9, 10, 4] (by kernel_rfl) (by kernel_rfl) (fun vs h' => ∃ (k : Nat) (s : List UInt8), vs = [I k, .s (stc s)] ∧ k ≤ v.length ∧ Ext h h' ∧ s = Lib.join ((v.take k).map Lib.itoa) [44]) (fun vs _ => v.length - natAt vs 0) ⟨0, [], rfl, by omega, Ext.refl h, by simp [Lib.join_nil]⟩ ?_
  rintro vs h' ⟨k, s, rfl, hk, E, hs⟩
  have hsl : s.length ≤ 22 * k := by
    have := fmtV_le (v := v.take k) (fun n hn => hv n (List.mem_of_mem_take hn))
    rw [hs]
    unfold fmtV at this
    simp only [List.length_take] at this
    omega
  (conv => whnf)
  refine ⟨rfl, (hx.ext E).len ?_⟩
  (conv => whnf)
  refine HIf.dec (fun hlt => ?_) (fun hge => ?_)
  · have hkl : k < v.length := by omega
    have ev : v.getD k 0 = v[k] := by simp [List.getD, hkl]
    have hin : I64 (v.getD k 0) := hv _ (by rw [ev]; exact List.getElem_mem hkl)
    have hil := itoa_le hin
    (conv => whnf)
    refine HIf.dec (fun h0 => ?_) (fun h0 => ?_)
    · have hst := join_take Lib.itoa [44] v hkl (by omega)
      rw [← hs, ← ev] at hst
      (conv => whnf)
      refine HStr.add (a := s) (b := [44]) (by simp; omega) ?_
      (conv => whnf)
      refine ⟨rfl, (hx.ext E).idxN hkl (fun p hp => ?_)⟩
      (conv => whnf)
      refine ⟨rfl, hp.load ?_⟩
      (conv => whnf)
      refine (spec_FormatInt _ _ hin).mono ?_
      rintro r h2 ⟨rfl, E2⟩
      (conv => whnf)
      refine HStr.add (a := s ++ [44]) (b := Lib.itoa (v.getD k 0)) (by rw [List.length_append, List.length_singleton]; omega) ?_
      (conv => whnf)
      refine HArith.fits (by omega) (by omega) ?_
      (conv => whnf)
      exact ⟨⟨k + 1, _, rfl, by omega, E.trans E2, hst.symm⟩, by show v.length - (k + 1) < v.length - k; omega⟩
    · have e0 : k = 0 := by omega
      subst e0
      have hst := join_first Lib.itoa [44] v hkl
      have hs0 : s = [] := by rw [hs]; simp [Lib.join_nil]
      subst hs0
      (conv => whnf)
      refine ⟨rfl, (hx.ext E).idxN hkl (fun p hp => ?_)⟩
      (conv => whnf)
      refine ⟨rfl, hp.load ?_⟩
      (conv => whnf)
      refine (spec_FormatInt _ _ hin).mono ?_
      rintro r h2 ⟨rfl, E2⟩
      (conv => whnf)
      refine HStr.add (a := []) (b := Lib.itoa (v.getD 0 0)) (by rw [List.length_nil]; omega) ?_
      rw [List.nil_append]
      (conv => whnf)
      refine HArith.fits (by omega) (by omega) ?_
      (conv => whnf)
      exact ⟨⟨1, _, rfl, by omega, E.trans E2, by rw [hst, ev]⟩, by show v.length - (0 + 1) < v.length - 0; omega⟩
  · have ek : k = v.length := by omega
    subst ek
    rw [List.take_length] at hs
    (conv => whnf)
    exact ⟨by rw [hs]; rfl, E⟩

end Go.Proofs.YtgliajcgcbnemaaGreatDoor.Hx

namespace Go.Proofs.YtgliajcgcbnemaaGreatDoor.Hx
open Go.RowKit
variable {dm : Bool}

/-- All numbers are int64. -/
def I64s (L : List (List Int)) : Prop := ∀ v ∈ L, ∀ n ∈ v, I64 n

theorem I64s.at {L : List (List Int)} (h : I64s L) {k : Nat} (hk : k < L.length) : ∀ n ∈ L.getD k [], I64 n := by
  have e : L.getD k [] = L[k] := by simp [List.getD, hk]
  rw [e]
  exact h _ (List.getElem_mem hk)
theorem fmtR_le {L : List (List Int)} (h : I64s L) (hl : L.length ≤ 1048576 ∧ tot L ≤ 1048576) : (Lib.join (L.map fmtV) [32]).length ≤ 46137344 * L.length := by
  have := join_le (b := 22 * 1048576) [32] (by simp) (L.map fmtV) (fun x hx => by
    obtain ⟨v, hv, rfl⟩ := List.mem_map.1 hx
    have h1 := fmtV_le (h v hv)
    obtain ⟨k, hk, rfl⟩ := List.getElem_of_mem hv
    have h2 := len_le_tot hk
    have e : L.getD k [] = L[k] := by simp [List.getD, hk]
    rw [e] at h2
    omega)
  simp only [List.length_map] at this
  omega


theorem impl_FormatRoots (h : Heap) (x : H0) (L : List (List Int)) (hx : Rows h x L) (hv : I64s L) (hl : L.length ≤ 1048576 ∧ tot L ≤ 1048576) :
    HCalls false Tryz.prog 45 [.s x] h (fun r h' => r = Tx (fmtR L) ∧ Ext h h') := by
  have hle := fmtR_le hv hl
  refine calls_of_hFun (m := 0) kd_ok mixed Tryz.func45 rfl (by kernel_rfl) rfl rfl (of_decide_eq_true rfl) ?_; unfold hFun; (conv => whnf)
  refine ⟨rfl, hx.len ?_⟩
  (conv => whnf)
  refine HIf.beq (fun h0 => ?_) (fun h0 => ?_)
  · (conv => whnf)
    refine ⟨?_, Ext.refl h⟩
    rw [fmtR, if_pos (by omega)]
    rfl
  have hne : L.length ≠ 0 := by omega
  (conv => whnf)
  refine HLit.empty ?_
  (conv => whnf)
  have E0 := Ext.push h [Row.own []]
  refine ⟨rfl, (hx.ext E0).len ?_⟩
  (conv => whnf)
  refine HLoop.intro [12, 3] [13, 14, 15, 5, 16, 17, 18, 19, 20, 3, 21, 12] (by kernel_rfl) (by kernel_rfl) (fun vs h' => ∃ (k r : Nat), vs = [I k, .s (.sl r 0 k)] ∧ k ≤ L.length ∧ Ext h h' ∧ h.length ≤ r ∧ h'[r]? = some (.own (((L.take k).map fmtV).map stc))) (fun vs _ => L.length - natAt vs 0) ⟨0, h.length, rfl, by omega, E0, Nat.le_refl _, get_new _ _⟩ ?_
  rintro vs h' ⟨k, r, rfl, hk, E, hr, hcs⟩
  (conv => whnf)
  refine HIf.dec (fun hlt => ?_) (fun hge => ?_)
  · have hkl : k < L.length := by omega
    have htk : (L.take (k + 1)).map fmtV = (L.take k).map fmtV ++ [fmtV (L.getD k [])] := by
      rw [List.take_succ_eq_append_getElem hkl, List.map_append]
      have e : L.getD k [] = L[k] := by simp [List.getD, hkl]
      rw [e]
      rfl
    have hkn : ((L.take k).map fmtV).length = k := by simp; omega
    have hin := hv.at hkl
    have hlt2 := len_le_tot hkl
    generalize hg : L.getD k [] = v at *
    (conv => whnf)
    refine ⟨rfl, (hx.ext E).idxN hkl (fun p y hp hy => ?_)⟩
    rw [hg] at hy
    (conv => whnf)
    refine ⟨rfl, hp.load ?_⟩
    (conv => whnf)
    refine (impl_FormatWeight _ _ v hy hin (by omega)).mono ?_
    rintro r2 h2 ⟨rfl, E2⟩
    (conv => whnf)
    refine HLit.row (y := stc (fmtV v)) rfl ?_
    (conv => whnf)
    have hrl := get_lt hcs
    have hE := E.1
    have hE2 := E2.1
    replace hcs := E2.row hcs
    replace E := E.trans E2
    refine ⟨rfl, rfl, HApp.text (by rw [List.getElem?_append_left (by omega)]; exact hcs) (get_new _ _) hkn (by omega) ?_⟩
    rw [← htk]
    have E3 : Ext h ((h2 ++ [Row.own [stc (fmtV v)]]).set r Row.gone ++ [Row.own (((L.take (k + 1)).map fmtV).map stc)]) := ((E.pushed _).set hr _).pushed _
    have hnew := get_new ((h2 ++ [Row.own [stc (fmtV v)]]).set r Row.gone) (Row.own (((L.take (k + 1)).map fmtV).map stc))
    rw [List.length_set] at hnew
    have hnl : h.length ≤ (h2 ++ [Row.own [stc (fmtV v)]]).length := by simp; omega
    generalize (h2 ++ [Row.own [stc (fmtV v)]]).length = N at *
    generalize (h2 ++ [Row.own [stc (fmtV v)]]).set r Row.gone ++ [Row.own (((L.take (k + 1)).map fmtV).map stc)] = h3 at *
    (conv => whnf)
    refine HArith.fits (by omega) (by omega) ?_
    (conv => whnf)
    exact ⟨⟨k + 1, N, rfl, by omega, E3, hnl, hnew⟩, by show L.length - (k + 1) < L.length - k; omega⟩
  · have ek : k = L.length := by omega
    subst ek
    rw [List.take_length] at hcs
    have hj := lib_Join h' r (L.map fmtV) [32] [] (by rw [List.append_nil]; exact hcs) (by simpa using hl.1) (by omega)
    rw [List.length_map] at hj
    (conv => whnf)
    refine hj.mono ?_
    rintro r2 h2 ⟨rfl, rfl⟩
    (conv => whnf)
    refine ⟨?_, E⟩
    rw [fmtR, if_neg hne]
    rfl

set_option maxHeartbeats 1000000 in
theorem spec_FormatRoots (h : Heap) (x : H0) (L : List (List Int)) (hx : Rows h x L) (hv : I64s L) (hl : L.length ≤ 1048576 ∧ tot L ≤ 1048576) :
    HCalls dm Tryz.prog 46 [.s x] h (fun r h' => r = Tx (fmtR L) ∧ Ext h h') := by
  refine calls_of_hFun (m := 0) kd_ok mixed Tryz.func46 rfl (by kernel_rfl) rfl rfl (of_decide_eq_true rfl) ?_; unfold hFun; (conv => whnf)
  refine HLoop.intro [4, 3] [5, 6, 7, 8, 11, 12, 13, 14, 3, 15, 16, 17, 18, 19, 20, 21, 3, 9, 10, 4] (by kernel_rfl) (by kernel_rfl) (fun vs h' => ∃ (k : Nat) (s : List UInt8), vs = [I k, .s (stc s)] ∧ k ≤ L.length ∧ Ext h h' ∧ s = Lib.join ((L.take k).map fmtV) [32]) (fun vs _ => L.length - natAt vs 0) ⟨0, [], rfl, by omega, Ext.refl h, by simp [Lib.join_nil]⟩ ?_
  rintro vs h' ⟨k, s, rfl, hk, E, hs⟩
  have hsl : s.length ≤ 46137344 * k := by
    have hlt : (L.take k).length = k := by simp; omega
    have := fmtR_le (L := L.take k) (fun v hv2 => hv v (List.mem_of_mem_take hv2)) ⟨by omega, by have := tot_take_le L k; omega⟩
    rw [hs]
    omega
  (conv => whnf)
  refine ⟨rfl, (hx.ext E).len ?_⟩
  (conv => whnf)
  refine HIf.dec (fun hlt => ?_) (fun hge => ?_)
  · have hkl : k < L.length := by omega
    have ev : L.getD k [] = L[k] := by simp [List.getD, hkl]
    have hin := hv.at hkl
    have hil := fmtV_le hin
    have htl := len_le_tot hkl
    (conv => whnf)
    refine HIf.dec (fun h0 => ?_) (fun h0 => ?_)
    · have hst := join_take fmtV [32] L hkl (by omega)
      rw [← hs, ← ev] at hst
      (conv => whnf)
      refine HStr.add (a := s) (b := [32]) (by rw [List.length_singleton]; omega) ?_
      (conv => whnf)
      refine ⟨rfl, (hx.ext E).idxN hkl (fun p y hp hy => ?_)⟩
      (conv => whnf)
      refine ⟨rfl, hp.load ?_⟩
      (conv => whnf)
      refine (spec_FormatWeight _ _ _ hy hin (by omega)).mono ?_
      rintro r h2 ⟨rfl, E2⟩
      (conv => whnf)
      refine HStr.add (a := s ++ [32]) (b := fmtV (L.getD k [])) (by rw [List.length_append, List.length_singleton]; omega) ?_
      (conv => whnf)
      refine HArith.fits (by omega) (by omega) ?_
      (conv => whnf)
      exact ⟨⟨k + 1, _, rfl, by omega, E.trans E2, hst.symm⟩, by show L.length - (k + 1) < L.length - k; omega⟩
    · have e0 : k = 0 := by omega
      subst e0
      have hst := join_first fmtV [32] L hkl
      have hs0 : s = [] := by rw [hs]; simp [Lib.join_nil]
      subst hs0
      (conv => whnf)
      refine ⟨rfl, (hx.ext E).idxN hkl (fun p y hp hy => ?_)⟩
      (conv => whnf)
      refine ⟨rfl, hp.load ?_⟩
      (conv => whnf)
      refine (spec_FormatWeight _ _ _ hy hin (by omega)).mono ?_
      rintro r h2 ⟨rfl, E2⟩
      (conv => whnf)
      refine HStr.add (a := []) (b := fmtV (L.getD 0 [])) (by rw [List.length_nil]; omega) ?_
      rw [List.nil_append]
      (conv => whnf)
      refine HArith.fits (by omega) (by omega) ?_
      (conv => whnf)
      exact ⟨⟨1, _, rfl, by omega, E.trans E2, by rw [hst, ev]⟩, by show L.length - (0 + 1) < L.length - 0; omega⟩
  · have ek : k = L.length := by omega
    subst ek
    rw [List.take_length] at hs
    (conv => whnf)
    refine ⟨rfl, (hx.ext E).len ?_⟩
    (conv => whnf)
    refine HIf.beq (fun h0 => ?_) (fun h0 => ?_)
    · (conv => whnf)
      refine ⟨?_, E⟩
      rw [fmtR, if_pos (by omega)]
      rfl
    · (conv => whnf)
      refine ⟨?_, E⟩
      rw [fmtR, if_neg (by omega), hs]
      rfl

end Go.Proofs.YtgliajcgcbnemaaGreatDoor.Hx

namespace Go.Proofs.YtgliajcgcbnemaaGreatDoor.Hx
open Go.RowKit
variable {dm : Bool}


theorem spec_l6Weight (h : Heap) (r : Nat) (x y : H0) (L : List (List Int)) (most : Nat) (C : Cur r h x) (hy : RowsN (fun q => q = r) h y L) (hL : L.length ≤ 1048576) (hm : most ≤ 1000) :
    HCalls dm Tryz.prog 126 [.s x, .s y, I most] h (fun v h' => ∃ z w q, v = .s z ∧ KeepR r h h' ∧ Cur r h' x ∧ h.length ≤ q ∧ OwnR q h' z w ∧ w.length = L.length ∧ ∀ n ∈ w, -(most : Int) ≤ n ∧ n ≤ most) := by
  have hr := C.lt
  refine calls_of_hFun (m := 0) kd_ok mixed Tryz.func126 rfl (by kernel_rfl) rfl rfl (of_decide_eq_true rfl) ?_; unfold hFun; (conv => whnf)
  refine HLit.empty ?_
  have E0 := Ext.push h [Row.own []]
  have O0 : OwnR h.length (h ++ [Row.own []]) (.sl h.length 0 0) [] := OwnR.push h []
  have C0 := C.ext E0
  generalize h ++ [Row.own []] = h0 at E0 O0 C0 ⊢
  have n0 := E0.1
  have K0 : KeepR r h h0 := KeepN.ofExt E0
  (conv => whnf)
  refine HLoop.intro [8, 7] [10, 11, 12, 13, 16, 17, 18, 19, 20, 21, 22, 23, 24, 25, 7, 14, 15, 8] (by kernel_rfl) (by kernel_rfl) (fun vs h' => ∃ (k : Nat) (z : H0) (w : List Int) (q : Nat), vs = [I k, .s z] ∧ k ≤ L.length ∧ KeepR r h h' ∧ Cur r h' x ∧ h.length ≤ q ∧ OwnR q h' z w ∧ w.length = k ∧ ∀ n ∈ w, -(most : Int) ≤ n ∧ n ≤ most) (fun vs _ => L.length - natAt vs 0) ⟨0, _, [], h.length, rfl, by omega, K0, C0, Nat.le_refl _, O0, rfl, fun n hn => by cases hn⟩ ?_
  rintro vs h' ⟨k, z, w, q, rfl, hk, K, C, hq, O, hw, hb⟩
  have hy' := (hy.keep K (fun _ _ g => g)).rows
  have hkl := K.1
  (conv => whnf)
  refine ⟨rfl, hy'.len ?_⟩
  (conv => whnf)
  refine HIf.dec (fun hlt => ?_) (fun hge => ?_)
  · (conv => whnf)
    refine HArith.fits (by omega) (by omega) ?_
    (conv => whnf)
    refine HArith.fits (by omega) (by omega) ?_
    (conv => whnf)
    refine (spec_l1Below _ r _ _ C (by omega)).mono ?_
    rintro v h2 ⟨b, rfl, b0, b1, _, K2, C2⟩
    have b1 := b1 (by omega)
    have O2 := O.keep K2 (by omega)
    have K2 := K.then K2
    have n2 := K2.1
    (conv => whnf)
    refine HArith.fits (by omega) (by omega) ?_
    (conv => whnf)
    refine HLit.of (xs := [ci (b - most)]) rfl (by simp [H0.one, Value.oneCell']) (by omega) ?_
    (conv => whnf)
    refine ⟨rfl, rfl, HApp.litR [b - most] O2 (by simp; omega) (fun h3 r3 y3 B3 hr3 O3 => ?_)⟩
    have K3 : KeepR r h h3 := K2.trans (G := fun p => p = q) B3 (fun p hp e => by omega)
    have C3 := C2.keep (F := fun p => p = q) B3 (fun p e => by omega)
    (conv => whnf)
    refine HArith.fits (by omega) (by omega) ?_
    (conv => whnf)
    exact ⟨⟨k + 1, y3, w ++ [b - most], r3, rfl, by omega, K3, C3, by omega, O3, by simp [hw], fun n hn => by
      rcases List.mem_append.1 hn with hn | hn
      · exact hb n hn
      · have := List.mem_singleton.1 hn
        omega⟩, by show L.length - (k + 1) < L.length - k; omega⟩
  · (conv => whnf)
    exact ⟨_, _, _, rfl, K, C, hq, O, by omega, hb⟩

end Go.Proofs.YtgliajcgcbnemaaGreatDoor.Hx
