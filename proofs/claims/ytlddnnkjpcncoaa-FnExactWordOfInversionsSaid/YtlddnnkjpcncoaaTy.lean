/-
  What is known of the types of this seat: their kinds, each a closed fact over the translation. Printed by gen_ty.py.
-/
import Derived.Test.YtlddnnkjpcncoaaHg
import Derived.Test.YtlddnnkjpcncoaaRows
namespace Go.Proofs.Ytlddnnkjpcncoaa.Hx
open Go.RowKit

theorem inf1 : (Try.prog.info? 1).map (fun i => i.size) = some 1 := by kernel_rfl
theorem und1 : (Try.prog.underlying 1).map flat = some true := by kernel_rfl
theorem k1 : Kd.ok Try.prog 1 .oth := one_of_map inf1 und1
theorem inf2 : (Try.prog.info? 2).map (fun i => i.size) = some 1 := by kernel_rfl
theorem und2 : Try.prog.underlying 2 = some (.int .i64) := by kernel_rfl
theorem k2 : Kd.ok Try.prog 2 (.int .i64) := ⟨und2, one_of inf2 und2⟩
theorem inf3 : (Try.prog.info? 3).map (fun i => i.size) = some 1 := by kernel_rfl
theorem und3 : Try.prog.underlying 3 = some (.int .i64) := by kernel_rfl
theorem k3 : Kd.ok Try.prog 3 (.int .i64) := ⟨und3, one_of inf3 und3⟩
theorem inf4 : (Try.prog.info? 4).map (fun i => i.size) = some 1 := by kernel_rfl
theorem und4 : Try.prog.underlying 4 = some (.bool) := by kernel_rfl
theorem k4 : Kd.ok Try.prog 4 (.bool) := ⟨und4, one_of inf4 und4⟩
theorem inf5 : (Try.prog.info? 5).map (fun i => i.size) = some 1 := by kernel_rfl
theorem und5 : Try.prog.underlying 5 = some (.int .u8) := by kernel_rfl
theorem k5 : Kd.ok Try.prog 5 (.int .u8) := ⟨und5, one_of inf5 und5⟩
theorem inf6 : (Try.prog.info? 6).map (fun i => i.size) = some 1 := by kernel_rfl
theorem und6 : Try.prog.underlying 6 = some (.int .u8) := by kernel_rfl
theorem k6 : Kd.ok Try.prog 6 (.int .u8) := ⟨und6, one_of inf6 und6⟩
theorem inf9 : (Try.prog.info? 9).map (fun i => i.size) = some 1 := by kernel_rfl
theorem und9 : Try.prog.underlying 9 = some (.string) := by kernel_rfl
theorem k9 : Kd.ok Try.prog 9 (.str) := ⟨und9, one_of inf9 und9⟩
theorem inf10 : (Try.prog.info? 10).map (fun i => i.size) = some 1 := by kernel_rfl
theorem und10 : Try.prog.underlying 10 = some (.string) := by kernel_rfl
theorem k10 : Kd.ok Try.prog 10 (.str) := ⟨und10, one_of inf10 und10⟩
theorem inf11 : (Try.prog.info? 11).map (fun i => i.size) = some 1 := by kernel_rfl
theorem und11 : Try.prog.underlying 11 = some (.string) := by kernel_rfl
theorem k11 : Kd.ok Try.prog 11 (.str) := ⟨und11, one_of inf11 und11⟩
theorem inf12 : (Try.prog.info? 12).map (fun i => i.size) = some 1 := by kernel_rfl
theorem und12 : Try.prog.underlying 12 = some (.int .u64) := by kernel_rfl
theorem k12 : Kd.ok Try.prog 12 (.int .u64) := ⟨und12, one_of inf12 und12⟩
theorem inf15 : (Try.prog.info? 15).map (fun i => i.size) = some 1 := by kernel_rfl
theorem und15 : (Try.prog.underlying 15).map flat = some true := by kernel_rfl
theorem k15 : Kd.ok Try.prog 15 .oth := one_of_map inf15 und15
theorem inf16 : (Try.prog.info? 16).map (fun i => i.size) = some 1 := by kernel_rfl
theorem und16 : (Try.prog.underlying 16).map flat = some true := by kernel_rfl
theorem k16 : Kd.ok Try.prog 16 .oth := one_of_map inf16 und16
theorem inf17 : (Try.prog.info? 17).map (fun i => i.size) = some 1 := by kernel_rfl
theorem und17 : (Try.prog.underlying 17).map flat = some true := by kernel_rfl
theorem k17 : Kd.ok Try.prog 17 .oth := one_of_map inf17 und17
theorem inf20 : (Try.prog.info? 20).map (fun i => i.size) = some 1 := by kernel_rfl
theorem und20 : Try.prog.underlying 20 = some (.interface (Try.prog.methodsAt 20)) := by kernel_rfl
theorem k20 : Kd.ok Try.prog 20 (.ifc) := ⟨und20, one_of inf20 und20⟩
theorem inf21 : (Try.prog.info? 21).map (fun i => i.size) = some 1 := by kernel_rfl
theorem und21 : Try.prog.underlying 21 = some (.int .i32) := by kernel_rfl
theorem k21 : Kd.ok Try.prog 21 (.int .i32) := ⟨und21, one_of inf21 und21⟩
theorem inf22 : (Try.prog.info? 22).map (fun i => i.size) = some 1 := by kernel_rfl
theorem und22 : Try.prog.underlying 22 = some (.slice 3) := by kernel_rfl
theorem elt22 : (Try.prog.info? 3).map (fun i => (i.zero, i.size, i.bytes)) = some (some (.int .i64 0), 1, 8) := by kernel_rfl
theorem k22 : Kd.ok Try.prog 22 (.sl (.int .i64 0)) := sl_of inf22 und22 elt22 (by decide) rfl rfl
theorem inf24 : (Try.prog.info? 24).map (fun i => i.size) = some 1 := by kernel_rfl
theorem und24 : (Try.prog.underlying 24).map flat = some true := by kernel_rfl
theorem k24 : Kd.ok Try.prog 24 .oth := one_of_map inf24 und24
theorem inf25 : (Try.prog.info? 25).map (fun i => i.size) = some 1 := by kernel_rfl
theorem und25 : (Try.prog.underlying 25).map flat = some true := by kernel_rfl
theorem k25 : Kd.ok Try.prog 25 .oth := one_of_map inf25 und25
theorem inf26 : (Try.prog.info? 26).map (fun i => i.size) = some 1 := by kernel_rfl
theorem und26 : (Try.prog.underlying 26).map flat = some true := by kernel_rfl
theorem k26 : Kd.ok Try.prog 26 .oth := one_of_map inf26 und26
theorem inf27 : (Try.prog.info? 27).map (fun i => i.size) = some 1 := by kernel_rfl
theorem und27 : (Try.prog.underlying 27).map flat = some true := by kernel_rfl
theorem k27 : Kd.ok Try.prog 27 .oth := one_of_map inf27 und27
theorem inf28 : (Try.prog.info? 28).map (fun i => i.size) = some 1 := by kernel_rfl
theorem und28 : Try.prog.underlying 28 = some (.slice 22) := by kernel_rfl
theorem elt28 : (Try.prog.info? 22).map (fun i => (i.zero, i.size, i.bytes)) = some (some (.slice none 0 0), 1, 24) := by kernel_rfl
theorem k28 : Kd.ok Try.prog 28 (.sl (.slice none 0 0)) := sl_of inf28 und28 elt28 (by decide) rfl rfl
theorem inf29 : (Try.prog.info? 29).map (fun i => i.size) = some 1 := by kernel_rfl
theorem und29 : (Try.prog.underlying 29).map flat = some true := by kernel_rfl
theorem k29 : Kd.ok Try.prog 29 .oth := one_of_map inf29 und29
theorem inf30 : (Try.prog.info? 30).map (fun i => i.size) = some 1 := by kernel_rfl
theorem und30 : (Try.prog.underlying 30).map flat = some true := by kernel_rfl
theorem k30 : Kd.ok Try.prog 30 .oth := one_of_map inf30 und30
theorem inf31 : (Try.prog.info? 31).map (fun i => i.size) = some 1 := by kernel_rfl
theorem und31 : (Try.prog.underlying 31).map flat = some true := by kernel_rfl
theorem k31 : Kd.ok Try.prog 31 .oth := one_of_map inf31 und31
theorem inf32 : (Try.prog.info? 32).map (fun i => i.size) = some 1 := by kernel_rfl
theorem und32 : (Try.prog.underlying 32).map flat = some true := by kernel_rfl
theorem k32 : Kd.ok Try.prog 32 .oth := one_of_map inf32 und32
theorem inf33 : (Try.prog.info? 33).map (fun i => i.size) = some 1 := by kernel_rfl
theorem und33 : (Try.prog.underlying 33).map flat = some true := by kernel_rfl
theorem k33 : Kd.ok Try.prog 33 .oth := one_of_map inf33 und33
theorem inf35 : (Try.prog.info? 35).map (fun i => i.size) = some 1 := by kernel_rfl
theorem und35 : (Try.prog.underlying 35).map flat = some true := by kernel_rfl
theorem k35 : Kd.ok Try.prog 35 .oth := one_of_map inf35 und35
theorem inf36 : (Try.prog.info? 36).map (fun i => i.size) = some 1 := by kernel_rfl
theorem und36 : (Try.prog.underlying 36).map flat = some true := by kernel_rfl
theorem k36 : Kd.ok Try.prog 36 .oth := one_of_map inf36 und36
theorem inf37 : (Try.prog.info? 37).map (fun i => i.size) = some 1 := by kernel_rfl
theorem und37 : (Try.prog.underlying 37).map flat = some true := by kernel_rfl
theorem k37 : Kd.ok Try.prog 37 .oth := one_of_map inf37 und37
theorem inf38 : (Try.prog.info? 38).map (fun i => i.size) = some 1 := by kernel_rfl
theorem und38 : (Try.prog.underlying 38).map flat = some true := by kernel_rfl
theorem k38 : Kd.ok Try.prog 38 .oth := one_of_map inf38 und38
theorem inf39 : (Try.prog.info? 39).map (fun i => i.size) = some 1 := by kernel_rfl
theorem und39 : (Try.prog.underlying 39).map flat = some true := by kernel_rfl
theorem k39 : Kd.ok Try.prog 39 .oth := one_of_map inf39 und39
theorem inf40 : (Try.prog.info? 40).map (fun i => i.size) = some 1 := by kernel_rfl
theorem und40 : (Try.prog.underlying 40).map flat = some true := by kernel_rfl
theorem k40 : Kd.ok Try.prog 40 .oth := one_of_map inf40 und40
theorem inf41 : (Try.prog.info? 41).map (fun i => i.size) = some 1 := by kernel_rfl
theorem und41 : (Try.prog.underlying 41).map flat = some true := by kernel_rfl
theorem k41 : Kd.ok Try.prog 41 .oth := one_of_map inf41 und41
theorem inf42 : (Try.prog.info? 42).map (fun i => i.size) = some 1 := by kernel_rfl
theorem und42 : (Try.prog.underlying 42).map flat = some true := by kernel_rfl
theorem k42 : Kd.ok Try.prog 42 .oth := one_of_map inf42 und42
theorem inf43 : (Try.prog.info? 43).map (fun i => i.size) = some 1 := by kernel_rfl
theorem und43 : (Try.prog.underlying 43).map flat = some true := by kernel_rfl
theorem k43 : Kd.ok Try.prog 43 .oth := one_of_map inf43 und43
theorem inf44 : (Try.prog.info? 44).map (fun i => i.size) = some 1 := by kernel_rfl
theorem und44 : (Try.prog.underlying 44).map flat = some true := by kernel_rfl
theorem k44 : Kd.ok Try.prog 44 .oth := one_of_map inf44 und44
theorem inf45 : (Try.prog.info? 45).map (fun i => i.size) = some 1 := by kernel_rfl
theorem und45 : (Try.prog.underlying 45).map flat = some true := by kernel_rfl
theorem k45 : Kd.ok Try.prog 45 .oth := one_of_map inf45 und45
theorem inf46 : (Try.prog.info? 46).map (fun i => i.size) = some 1 := by kernel_rfl
theorem und46 : (Try.prog.underlying 46).map flat = some true := by kernel_rfl
theorem k46 : Kd.ok Try.prog 46 .oth := one_of_map inf46 und46
theorem inf48 : (Try.prog.info? 48).map (fun i => i.size) = some 1 := by kernel_rfl
theorem und48 : (Try.prog.underlying 48).map flat = some true := by kernel_rfl
theorem k48 : Kd.ok Try.prog 48 .oth := one_of_map inf48 und48
theorem inf49 : (Try.prog.info? 49).map (fun i => i.size) = some 1 := by kernel_rfl
theorem und49 : (Try.prog.underlying 49).map flat = some true := by kernel_rfl
theorem k49 : Kd.ok Try.prog 49 .oth := one_of_map inf49 und49
theorem inf50 : (Try.prog.info? 50).map (fun i => i.size) = some 1 := by kernel_rfl
theorem und50 : (Try.prog.underlying 50).map flat = some true := by kernel_rfl
theorem k50 : Kd.ok Try.prog 50 .oth := one_of_map inf50 und50
theorem inf51 : (Try.prog.info? 51).map (fun i => i.size) = some 1 := by kernel_rfl
theorem und51 : (Try.prog.underlying 51).map flat = some true := by kernel_rfl
theorem k51 : Kd.ok Try.prog 51 .oth := one_of_map inf51 und51
theorem inf52 : (Try.prog.info? 52).map (fun i => i.size) = some 1 := by kernel_rfl
theorem und52 : (Try.prog.underlying 52).map flat = some true := by kernel_rfl
theorem k52 : Kd.ok Try.prog 52 .oth := one_of_map inf52 und52
theorem inf53 : (Try.prog.info? 53).map (fun i => i.size) = some 1 := by kernel_rfl
theorem und53 : (Try.prog.underlying 53).map flat = some true := by kernel_rfl
theorem k53 : Kd.ok Try.prog 53 .oth := one_of_map inf53 und53
theorem inf54 : (Try.prog.info? 54).map (fun i => i.size) = some 1 := by kernel_rfl
theorem und54 : (Try.prog.underlying 54).map flat = some true := by kernel_rfl
theorem k54 : Kd.ok Try.prog 54 .oth := one_of_map inf54 und54
theorem inf55 : (Try.prog.info? 55).map (fun i => i.size) = some 1 := by kernel_rfl
theorem und55 : (Try.prog.underlying 55).map flat = some true := by kernel_rfl
theorem k55 : Kd.ok Try.prog 55 .oth := one_of_map inf55 und55
theorem inf56 : (Try.prog.info? 56).map (fun i => i.size) = some 1 := by kernel_rfl
theorem und56 : (Try.prog.underlying 56).map flat = some true := by kernel_rfl
theorem k56 : Kd.ok Try.prog 56 .oth := one_of_map inf56 und56
theorem inf57 : (Try.prog.info? 57).map (fun i => i.size) = some 1 := by kernel_rfl
theorem und57 : (Try.prog.underlying 57).map flat = some true := by kernel_rfl
theorem k57 : Kd.ok Try.prog 57 .oth := one_of_map inf57 und57
theorem inf58 : (Try.prog.info? 58).map (fun i => i.size) = some 1 := by kernel_rfl
theorem und58 : (Try.prog.underlying 58).map flat = some true := by kernel_rfl
theorem k58 : Kd.ok Try.prog 58 .oth := one_of_map inf58 und58
theorem inf59 : (Try.prog.info? 59).map (fun i => i.size) = some 1 := by kernel_rfl
theorem und59 : (Try.prog.underlying 59).map flat = some true := by kernel_rfl
theorem k59 : Kd.ok Try.prog 59 .oth := one_of_map inf59 und59
theorem inf60 : (Try.prog.info? 60).map (fun i => i.size) = some 1 := by kernel_rfl
theorem und60 : (Try.prog.underlying 60).map flat = some true := by kernel_rfl
theorem k60 : Kd.ok Try.prog 60 .oth := one_of_map inf60 und60
theorem inf61 : (Try.prog.info? 61).map (fun i => i.size) = some 1 := by kernel_rfl
theorem und61 : (Try.prog.underlying 61).map flat = some true := by kernel_rfl
theorem k61 : Kd.ok Try.prog 61 .oth := one_of_map inf61 und61
theorem inf62 : (Try.prog.info? 62).map (fun i => i.size) = some 1 := by kernel_rfl
theorem und62 : (Try.prog.underlying 62).map flat = some true := by kernel_rfl
theorem k62 : Kd.ok Try.prog 62 .oth := one_of_map inf62 und62
theorem inf63 : (Try.prog.info? 63).map (fun i => i.size) = some 1 := by kernel_rfl
theorem und63 : (Try.prog.underlying 63).map flat = some true := by kernel_rfl
theorem k63 : Kd.ok Try.prog 63 .oth := one_of_map inf63 und63
theorem inf64 : (Try.prog.info? 64).map (fun i => i.size) = some 1 := by kernel_rfl
theorem und64 : (Try.prog.underlying 64).map flat = some true := by kernel_rfl
theorem k64 : Kd.ok Try.prog 64 .oth := one_of_map inf64 und64
theorem inf65 : (Try.prog.info? 65).map (fun i => i.size) = some 1 := by kernel_rfl
theorem und65 : (Try.prog.underlying 65).map flat = some true := by kernel_rfl
theorem k65 : Kd.ok Try.prog 65 .oth := one_of_map inf65 und65
theorem inf66 : (Try.prog.info? 66).map (fun i => i.size) = some 1 := by kernel_rfl
theorem und66 : (Try.prog.underlying 66).map flat = some true := by kernel_rfl
theorem k66 : Kd.ok Try.prog 66 .oth := one_of_map inf66 und66
theorem inf67 : (Try.prog.info? 67).map (fun i => i.size) = some 1 := by kernel_rfl
theorem und67 : (Try.prog.underlying 67).map flat = some true := by kernel_rfl
theorem k67 : Kd.ok Try.prog 67 .oth := one_of_map inf67 und67
theorem inf68 : (Try.prog.info? 68).map (fun i => i.size) = some 1 := by kernel_rfl
theorem und68 : (Try.prog.underlying 68).map flat = some true := by kernel_rfl
theorem k68 : Kd.ok Try.prog 68 .oth := one_of_map inf68 und68
theorem inf74 : (Try.prog.info? 74).map (fun i => i.size) = some 1 := by kernel_rfl
theorem und74 : (Try.prog.underlying 74).map flat = some true := by kernel_rfl
theorem k74 : Kd.ok Try.prog 74 .oth := one_of_map inf74 und74
theorem inf75 : (Try.prog.info? 75).map (fun i => i.size) = some 1 := by kernel_rfl
theorem und75 : Try.prog.underlying 75 = some (.int .u32) := by kernel_rfl
theorem k75 : Kd.ok Try.prog 75 (.int .u32) := ⟨und75, one_of inf75 und75⟩
theorem inf76 : (Try.prog.info? 76).map (fun i => i.size) = some 1 := by kernel_rfl
theorem und76 : Try.prog.underlying 76 = some (.int .u8) := by kernel_rfl
theorem k76 : Kd.ok Try.prog 76 (.int .u8) := ⟨und76, one_of inf76 und76⟩
theorem inf77 : (Try.prog.info? 77).map (fun i => i.size) = some 1 := by kernel_rfl
theorem und77 : Try.prog.underlying 77 = some (.int .u8) := by kernel_rfl
theorem k77 : Kd.ok Try.prog 77 (.int .u8) := ⟨und77, one_of inf77 und77⟩
theorem inf78 : (Try.prog.info? 78).map (fun i => i.size) = some 1 := by kernel_rfl
theorem und78 : (Try.prog.underlying 78).map flat = some true := by kernel_rfl
theorem k78 : Kd.ok Try.prog 78 .oth := one_of_map inf78 und78
theorem inf79 : (Try.prog.info? 79).map (fun i => i.size) = some 1 := by kernel_rfl
theorem und79 : (Try.prog.underlying 79).map flat = some true := by kernel_rfl
theorem k79 : Kd.ok Try.prog 79 .oth := one_of_map inf79 und79
theorem inf80 : (Try.prog.info? 80).map (fun i => i.size) = some 1 := by kernel_rfl
theorem und80 : Try.prog.underlying 80 = some (.int .i32) := by kernel_rfl
theorem k80 : Kd.ok Try.prog 80 (.int .i32) := ⟨und80, one_of inf80 und80⟩
theorem inf81 : (Try.prog.info? 81).map (fun i => i.size) = some 1 := by kernel_rfl
theorem und81 : Try.prog.underlying 81 = some (.int .i32) := by kernel_rfl
theorem k81 : Kd.ok Try.prog 81 (.int .i32) := ⟨und81, one_of inf81 und81⟩

/-- The kinds of the types, by their numbers. -/
def kd (t : TypeId) : Kd :=
  bif Nat.beq t 1 then .oth else bif Nat.beq t 2 then .int .i64 else bif Nat.beq t 3 then .int .i64 else bif Nat.beq t 4 then .bool else bif Nat.beq t 5 then .int .u8 else bif Nat.beq t 6 then .int .u8 else bif Nat.beq t 9 then .str else bif Nat.beq t 10 then .str else bif Nat.beq t 11 then .str else bif Nat.beq t 12 then .int .u64 else bif Nat.beq t 15 then .oth else bif Nat.beq t 16 then .oth else bif Nat.beq t 17 then .oth else bif Nat.beq t 20 then .ifc else bif Nat.beq t 21 then .int .i32 else bif Nat.beq t 22 then .sl (.int .i64 0) else bif Nat.beq t 24 then .oth else bif Nat.beq t 25 then .oth else bif Nat.beq t 26 then .oth else bif Nat.beq t 27 then .oth else bif Nat.beq t 28 then .sl (.slice none 0 0) else bif Nat.beq t 29 then .oth else bif Nat.beq t 30 then .oth else bif Nat.beq t 31 then .oth else bif Nat.beq t 32 then .oth else bif Nat.beq t 33 then .oth else bif Nat.beq t 35 then .oth else bif Nat.beq t 36 then .oth else bif Nat.beq t 37 then .oth else bif Nat.beq t 38 then .oth else bif Nat.beq t 39 then .oth else bif Nat.beq t 40 then .oth else bif Nat.beq t 41 then .oth else bif Nat.beq t 42 then .oth else bif Nat.beq t 43 then .oth else bif Nat.beq t 44 then .oth else bif Nat.beq t 45 then .oth else bif Nat.beq t 46 then .oth else bif Nat.beq t 48 then .oth else bif Nat.beq t 49 then .oth else bif Nat.beq t 50 then .oth else bif Nat.beq t 51 then .oth else bif Nat.beq t 52 then .oth else bif Nat.beq t 53 then .oth else bif Nat.beq t 54 then .oth else bif Nat.beq t 55 then .oth else bif Nat.beq t 56 then .oth else bif Nat.beq t 57 then .oth else bif Nat.beq t 58 then .oth else bif Nat.beq t 59 then .oth else bif Nat.beq t 60 then .oth else bif Nat.beq t 61 then .oth else bif Nat.beq t 62 then .oth else bif Nat.beq t 63 then .oth else bif Nat.beq t 64 then .oth else bif Nat.beq t 65 then .oth else bif Nat.beq t 66 then .oth else bif Nat.beq t 67 then .oth else bif Nat.beq t 68 then .oth else bif Nat.beq t 74 then .oth else bif Nat.beq t 75 then .int .u32 else bif Nat.beq t 76 then .int .u8 else bif Nat.beq t 77 then .int .u8 else bif Nat.beq t 78 then .oth else bif Nat.beq t 79 then .oth else bif Nat.beq t 80 then .int .i32 else bif Nat.beq t 81 then .int .i32 else .no

theorem kd_ok (t : TypeId) : Kd.ok Try.prog t (kd t) := by
  unfold kd
  by_cases h1 : t = 1
  · subst h1; exact k1
  rw [beq_ne h1, cond_false]
  by_cases h2 : t = 2
  · subst h2; exact k2
  rw [beq_ne h2, cond_false]
  by_cases h3 : t = 3
  · subst h3; exact k3
  rw [beq_ne h3, cond_false]
  by_cases h4 : t = 4
  · subst h4; exact k4
  rw [beq_ne h4, cond_false]
  by_cases h5 : t = 5
  · subst h5; exact k5
  rw [beq_ne h5, cond_false]
  by_cases h6 : t = 6
  · subst h6; exact k6
  rw [beq_ne h6, cond_false]
  by_cases h9 : t = 9
  · subst h9; exact k9
  rw [beq_ne h9, cond_false]
  by_cases h10 : t = 10
  · subst h10; exact k10
  rw [beq_ne h10, cond_false]
  by_cases h11 : t = 11
  · subst h11; exact k11
  rw [beq_ne h11, cond_false]
  by_cases h12 : t = 12
  · subst h12; exact k12
  rw [beq_ne h12, cond_false]
  by_cases h15 : t = 15
  · subst h15; exact k15
  rw [beq_ne h15, cond_false]
  by_cases h16 : t = 16
  · subst h16; exact k16
  rw [beq_ne h16, cond_false]
  by_cases h17 : t = 17
  · subst h17; exact k17
  rw [beq_ne h17, cond_false]
  by_cases h20 : t = 20
  · subst h20; exact k20
  rw [beq_ne h20, cond_false]
  by_cases h21 : t = 21
  · subst h21; exact k21
  rw [beq_ne h21, cond_false]
  by_cases h22 : t = 22
  · subst h22; exact k22
  rw [beq_ne h22, cond_false]
  by_cases h24 : t = 24
  · subst h24; exact k24
  rw [beq_ne h24, cond_false]
  by_cases h25 : t = 25
  · subst h25; exact k25
  rw [beq_ne h25, cond_false]
  by_cases h26 : t = 26
  · subst h26; exact k26
  rw [beq_ne h26, cond_false]
  by_cases h27 : t = 27
  · subst h27; exact k27
  rw [beq_ne h27, cond_false]
  by_cases h28 : t = 28
  · subst h28; exact k28
  rw [beq_ne h28, cond_false]
  by_cases h29 : t = 29
  · subst h29; exact k29
  rw [beq_ne h29, cond_false]
  by_cases h30 : t = 30
  · subst h30; exact k30
  rw [beq_ne h30, cond_false]
  by_cases h31 : t = 31
  · subst h31; exact k31
  rw [beq_ne h31, cond_false]
  by_cases h32 : t = 32
  · subst h32; exact k32
  rw [beq_ne h32, cond_false]
  by_cases h33 : t = 33
  · subst h33; exact k33
  rw [beq_ne h33, cond_false]
  by_cases h35 : t = 35
  · subst h35; exact k35
  rw [beq_ne h35, cond_false]
  by_cases h36 : t = 36
  · subst h36; exact k36
  rw [beq_ne h36, cond_false]
  by_cases h37 : t = 37
  · subst h37; exact k37
  rw [beq_ne h37, cond_false]
  by_cases h38 : t = 38
  · subst h38; exact k38
  rw [beq_ne h38, cond_false]
  by_cases h39 : t = 39
  · subst h39; exact k39
  rw [beq_ne h39, cond_false]
  by_cases h40 : t = 40
  · subst h40; exact k40
  rw [beq_ne h40, cond_false]
  by_cases h41 : t = 41
  · subst h41; exact k41
  rw [beq_ne h41, cond_false]
  by_cases h42 : t = 42
  · subst h42; exact k42
  rw [beq_ne h42, cond_false]
  by_cases h43 : t = 43
  · subst h43; exact k43
  rw [beq_ne h43, cond_false]
  by_cases h44 : t = 44
  · subst h44; exact k44
  rw [beq_ne h44, cond_false]
  by_cases h45 : t = 45
  · subst h45; exact k45
  rw [beq_ne h45, cond_false]
  by_cases h46 : t = 46
  · subst h46; exact k46
  rw [beq_ne h46, cond_false]
  by_cases h48 : t = 48
  · subst h48; exact k48
  rw [beq_ne h48, cond_false]
  by_cases h49 : t = 49
  · subst h49; exact k49
  rw [beq_ne h49, cond_false]
  by_cases h50 : t = 50
  · subst h50; exact k50
  rw [beq_ne h50, cond_false]
  by_cases h51 : t = 51
  · subst h51; exact k51
  rw [beq_ne h51, cond_false]
  by_cases h52 : t = 52
  · subst h52; exact k52
  rw [beq_ne h52, cond_false]
  by_cases h53 : t = 53
  · subst h53; exact k53
  rw [beq_ne h53, cond_false]
  by_cases h54 : t = 54
  · subst h54; exact k54
  rw [beq_ne h54, cond_false]
  by_cases h55 : t = 55
  · subst h55; exact k55
  rw [beq_ne h55, cond_false]
  by_cases h56 : t = 56
  · subst h56; exact k56
  rw [beq_ne h56, cond_false]
  by_cases h57 : t = 57
  · subst h57; exact k57
  rw [beq_ne h57, cond_false]
  by_cases h58 : t = 58
  · subst h58; exact k58
  rw [beq_ne h58, cond_false]
  by_cases h59 : t = 59
  · subst h59; exact k59
  rw [beq_ne h59, cond_false]
  by_cases h60 : t = 60
  · subst h60; exact k60
  rw [beq_ne h60, cond_false]
  by_cases h61 : t = 61
  · subst h61; exact k61
  rw [beq_ne h61, cond_false]
  by_cases h62 : t = 62
  · subst h62; exact k62
  rw [beq_ne h62, cond_false]
  by_cases h63 : t = 63
  · subst h63; exact k63
  rw [beq_ne h63, cond_false]
  by_cases h64 : t = 64
  · subst h64; exact k64
  rw [beq_ne h64, cond_false]
  by_cases h65 : t = 65
  · subst h65; exact k65
  rw [beq_ne h65, cond_false]
  by_cases h66 : t = 66
  · subst h66; exact k66
  rw [beq_ne h66, cond_false]
  by_cases h67 : t = 67
  · subst h67; exact k67
  rw [beq_ne h67, cond_false]
  by_cases h68 : t = 68
  · subst h68; exact k68
  rw [beq_ne h68, cond_false]
  by_cases h74 : t = 74
  · subst h74; exact k74
  rw [beq_ne h74, cond_false]
  by_cases h75 : t = 75
  · subst h75; exact k75
  rw [beq_ne h75, cond_false]
  by_cases h76 : t = 76
  · subst h76; exact k76
  rw [beq_ne h76, cond_false]
  by_cases h77 : t = 77
  · subst h77; exact k77
  rw [beq_ne h77, cond_false]
  by_cases h78 : t = 78
  · subst h78; exact k78
  rw [beq_ne h78, cond_false]
  by_cases h79 : t = 79
  · subst h79; exact k79
  rw [beq_ne h79, cond_false]
  by_cases h80 : t = 80
  · subst h80; exact k80
  rw [beq_ne h80, cond_false]
  by_cases h81 : t = 81
  · subst h81; exact k81
  rw [beq_ne h81, cond_false]
  exact trivial

theorem mixed : Try.prog.follows .mixedOrders = true := by kernel_rfl

end Go.Proofs.Ytlddnnkjpcncoaa.Hx
