/-
  What is known of the types of this seat: their kinds, each a closed fact over the translation. Printed by gen_ty.py.
-/
import Derived.Test.YtecfgbjddkpkcaaHg
import Derived.Test.YtecfgbjddkpkcaaRows
namespace Go.Proofs.Ytecfgbjddkpkcaa.Hx
open Go.RowKit

theorem inf1 : (Try.prog.info? 1).map (fun i => i.size) = some 1 := by kernel_rfl
theorem und1 : (Try.prog.underlying 1).map flat = some true := by kernel_rfl
theorem k1 : Kd.ok Try.prog 1 .oth := one_of_map inf1 und1
theorem inf2 : (Try.prog.info? 2).map (fun i => i.size) = some 1 := by kernel_rfl
theorem und2 : Try.prog.underlying 2 = some (.int .i64) := by kernel_rfl
theorem k2 : Kd.ok Try.prog 2 (.int .i64) := ⟨und2, one_of inf2 und2⟩
theorem inf3 : (Try.prog.info? 3).map (fun i => i.size) = some 1 := by kernel_rfl
theorem und3 : Try.prog.underlying 3 = some (.int .i64) := by kernel_rfl
theorem k3 : Kd.ok Try.prog 3 (.int .i64) := ⟨und3, one_of inf3 und3⟩
theorem inf4 : (Try.prog.info? 4).map (fun i => i.size) = some 1 := by kernel_rfl
theorem und4 : Try.prog.underlying 4 = some (.bool) := by kernel_rfl
theorem k4 : Kd.ok Try.prog 4 (.bool) := ⟨und4, one_of inf4 und4⟩
theorem inf5 : (Try.prog.info? 5).map (fun i => i.size) = some 1 := by kernel_rfl
theorem und5 : Try.prog.underlying 5 = some (.int .u8) := by kernel_rfl
theorem k5 : Kd.ok Try.prog 5 (.int .u8) := ⟨und5, one_of inf5 und5⟩
theorem inf6 : (Try.prog.info? 6).map (fun i => i.size) = some 1 := by kernel_rfl
theorem und6 : Try.prog.underlying 6 = some (.int .u8) := by kernel_rfl
theorem k6 : Kd.ok Try.prog 6 (.int .u8) := ⟨und6, one_of inf6 und6⟩
theorem inf9 : (Try.prog.info? 9).map (fun i => i.size) = some 1 := by kernel_rfl
theorem und9 : Try.prog.underlying 9 = some (.string) := by kernel_rfl
theorem k9 : Kd.ok Try.prog 9 (.str) := ⟨und9, one_of inf9 und9⟩
theorem inf10 : (Try.prog.info? 10).map (fun i => i.size) = some 1 := by kernel_rfl
theorem und10 : Try.prog.underlying 10 = some (.string) := by kernel_rfl
theorem k10 : Kd.ok Try.prog 10 (.str) := ⟨und10, one_of inf10 und10⟩
theorem inf11 : (Try.prog.info? 11).map (fun i => i.size) = some 1 := by kernel_rfl
theorem und11 : Try.prog.underlying 11 = some (.string) := by kernel_rfl
theorem k11 : Kd.ok Try.prog 11 (.str) := ⟨und11, one_of inf11 und11⟩
theorem inf12 : (Try.prog.info? 12).map (fun i => i.size) = some 1 := by kernel_rfl
theorem und12 : Try.prog.underlying 12 = some (.int .u64) := by kernel_rfl
theorem k12 : Kd.ok Try.prog 12 (.int .u64) := ⟨und12, one_of inf12 und12⟩
theorem inf15 : (Try.prog.info? 15).map (fun i => i.size) = some 1 := by kernel_rfl
theorem und15 : (Try.prog.underlying 15).map flat = some true := by kernel_rfl
theorem k15 : Kd.ok Try.prog 15 .oth := one_of_map inf15 und15
theorem inf16 : (Try.prog.info? 16).map (fun i => i.size) = some 1 := by kernel_rfl
theorem und16 : (Try.prog.underlying 16).map flat = some true := by kernel_rfl
theorem k16 : Kd.ok Try.prog 16 .oth := one_of_map inf16 und16
theorem inf17 : (Try.prog.info? 17).map (fun i => i.size) = some 1 := by kernel_rfl
theorem und17 : (Try.prog.underlying 17).map flat = some true := by kernel_rfl
theorem k17 : Kd.ok Try.prog 17 .oth := one_of_map inf17 und17
theorem inf20 : (Try.prog.info? 20).map (fun i => i.size) = some 1 := by kernel_rfl
theorem und20 : Try.prog.underlying 20 = some (.interface (Try.prog.methodsAt 20)) := by kernel_rfl
theorem k20 : Kd.ok Try.prog 20 (.ifc) := ⟨und20, one_of inf20 und20⟩
theorem inf21 : (Try.prog.info? 21).map (fun i => i.size) = some 1 := by kernel_rfl
theorem und21 : Try.prog.underlying 21 = some (.int .i32) := by kernel_rfl
theorem k21 : Kd.ok Try.prog 21 (.int .i32) := ⟨und21, one_of inf21 und21⟩
theorem inf22 : (Try.prog.info? 22).map (fun i => i.size) = some 1 := by kernel_rfl
theorem und22 : Try.prog.underlying 22 = some (.slice 24) := by kernel_rfl
theorem elt22 : (Try.prog.info? 24).map (fun i => (i.zero, i.size, i.bytes)) = some (some (.slice none 0 0), 1, 24) := by kernel_rfl
theorem k22 : Kd.ok Try.prog 22 (.sl (.slice none 0 0)) := sl_of inf22 und22 elt22 (by decide) rfl rfl
theorem inf23 : (Try.prog.info? 23).map (fun i => i.size) = some 1 := by kernel_rfl
theorem und23 : (Try.prog.underlying 23).map flat = some true := by kernel_rfl
theorem k23 : Kd.ok Try.prog 23 .oth := one_of_map inf23 und23
theorem inf24 : (Try.prog.info? 24).map (fun i => i.size) = some 1 := by kernel_rfl
theorem und24 : Try.prog.underlying 24 = some (.slice 3) := by kernel_rfl
theorem elt24 : (Try.prog.info? 3).map (fun i => (i.zero, i.size, i.bytes)) = some (some (.int .i64 0), 1, 8) := by kernel_rfl
theorem k24 : Kd.ok Try.prog 24 (.sl (.int .i64 0)) := sl_of inf24 und24 elt24 (by decide) rfl rfl
theorem inf26 : (Try.prog.info? 26).map (fun i => i.size) = some 1 := by kernel_rfl
theorem und26 : (Try.prog.underlying 26).map flat = some true := by kernel_rfl
theorem k26 : Kd.ok Try.prog 26 .oth := one_of_map inf26 und26
theorem inf27 : (Try.prog.info? 27).map (fun i => i.size) = some 1 := by kernel_rfl
theorem und27 : (Try.prog.underlying 27).map flat = some true := by kernel_rfl
theorem k27 : Kd.ok Try.prog 27 .oth := one_of_map inf27 und27
theorem inf28 : (Try.prog.info? 28).map (fun i => i.size) = some 1 := by kernel_rfl
theorem und28 : (Try.prog.underlying 28).map flat = some true := by kernel_rfl
theorem k28 : Kd.ok Try.prog 28 .oth := one_of_map inf28 und28
theorem inf29 : (Try.prog.info? 29).map (fun i => i.size) = some 1 := by kernel_rfl
theorem und29 : (Try.prog.underlying 29).map flat = some true := by kernel_rfl
theorem k29 : Kd.ok Try.prog 29 .oth := one_of_map inf29 und29
theorem inf30 : (Try.prog.info? 30).map (fun i => i.size) = some 1 := by kernel_rfl
theorem und30 : (Try.prog.underlying 30).map flat = some true := by kernel_rfl
theorem k30 : Kd.ok Try.prog 30 .oth := one_of_map inf30 und30
theorem inf31 : (Try.prog.info? 31).map (fun i => i.size) = some 1 := by kernel_rfl
theorem und31 : (Try.prog.underlying 31).map flat = some true := by kernel_rfl
theorem k31 : Kd.ok Try.prog 31 .oth := one_of_map inf31 und31
theorem inf32 : (Try.prog.info? 32).map (fun i => i.size) = some 1 := by kernel_rfl
theorem und32 : (Try.prog.underlying 32).map flat = some true := by kernel_rfl
theorem k32 : Kd.ok Try.prog 32 .oth := one_of_map inf32 und32
theorem inf33 : (Try.prog.info? 33).map (fun i => i.size) = some 1 := by kernel_rfl
theorem und33 : (Try.prog.underlying 33).map flat = some true := by kernel_rfl
theorem k33 : Kd.ok Try.prog 33 .oth := one_of_map inf33 und33
theorem inf34 : (Try.prog.info? 34).map (fun i => i.size) = some 1 := by kernel_rfl
theorem und34 : (Try.prog.underlying 34).map flat = some true := by kernel_rfl
theorem k34 : Kd.ok Try.prog 34 .oth := one_of_map inf34 und34
theorem inf35 : (Try.prog.info? 35).map (fun i => i.size) = some 1 := by kernel_rfl
theorem und35 : (Try.prog.underlying 35).map flat = some true := by kernel_rfl
theorem k35 : Kd.ok Try.prog 35 .oth := one_of_map inf35 und35
theorem inf36 : (Try.prog.info? 36).map (fun i => i.size) = some 1 := by kernel_rfl
theorem und36 : (Try.prog.underlying 36).map flat = some true := by kernel_rfl
theorem k36 : Kd.ok Try.prog 36 .oth := one_of_map inf36 und36
theorem inf37 : (Try.prog.info? 37).map (fun i => i.size) = some 1 := by kernel_rfl
theorem und37 : (Try.prog.underlying 37).map flat = some true := by kernel_rfl
theorem k37 : Kd.ok Try.prog 37 .oth := one_of_map inf37 und37
theorem inf38 : (Try.prog.info? 38).map (fun i => i.size) = some 1 := by kernel_rfl
theorem und38 : (Try.prog.underlying 38).map flat = some true := by kernel_rfl
theorem k38 : Kd.ok Try.prog 38 .oth := one_of_map inf38 und38
theorem inf39 : (Try.prog.info? 39).map (fun i => i.size) = some 1 := by kernel_rfl
theorem und39 : (Try.prog.underlying 39).map flat = some true := by kernel_rfl
theorem k39 : Kd.ok Try.prog 39 .oth := one_of_map inf39 und39
theorem inf40 : (Try.prog.info? 40).map (fun i => i.size) = some 1 := by kernel_rfl
theorem und40 : (Try.prog.underlying 40).map flat = some true := by kernel_rfl
theorem k40 : Kd.ok Try.prog 40 .oth := one_of_map inf40 und40
theorem inf41 : (Try.prog.info? 41).map (fun i => i.size) = some 1 := by kernel_rfl
theorem und41 : (Try.prog.underlying 41).map flat = some true := by kernel_rfl
theorem k41 : Kd.ok Try.prog 41 .oth := one_of_map inf41 und41
theorem inf42 : (Try.prog.info? 42).map (fun i => i.size) = some 1 := by kernel_rfl
theorem und42 : (Try.prog.underlying 42).map flat = some true := by kernel_rfl
theorem k42 : Kd.ok Try.prog 42 .oth := one_of_map inf42 und42
theorem inf43 : (Try.prog.info? 43).map (fun i => i.size) = some 1 := by kernel_rfl
theorem und43 : (Try.prog.underlying 43).map flat = some true := by kernel_rfl
theorem k43 : Kd.ok Try.prog 43 .oth := one_of_map inf43 und43
theorem inf44 : (Try.prog.info? 44).map (fun i => i.size) = some 1 := by kernel_rfl
theorem und44 : (Try.prog.underlying 44).map flat = some true := by kernel_rfl
theorem k44 : Kd.ok Try.prog 44 .oth := one_of_map inf44 und44
theorem inf45 : (Try.prog.info? 45).map (fun i => i.size) = some 1 := by kernel_rfl
theorem und45 : (Try.prog.underlying 45).map flat = some true := by kernel_rfl
theorem k45 : Kd.ok Try.prog 45 .oth := one_of_map inf45 und45
theorem inf46 : (Try.prog.info? 46).map (fun i => i.size) = some 1 := by kernel_rfl
theorem und46 : (Try.prog.underlying 46).map flat = some true := by kernel_rfl
theorem k46 : Kd.ok Try.prog 46 .oth := one_of_map inf46 und46
theorem inf47 : (Try.prog.info? 47).map (fun i => i.size) = some 1 := by kernel_rfl
theorem und47 : (Try.prog.underlying 47).map flat = some true := by kernel_rfl
theorem k47 : Kd.ok Try.prog 47 .oth := one_of_map inf47 und47
theorem inf48 : (Try.prog.info? 48).map (fun i => i.size) = some 1 := by kernel_rfl
theorem und48 : (Try.prog.underlying 48).map flat = some true := by kernel_rfl
theorem k48 : Kd.ok Try.prog 48 .oth := one_of_map inf48 und48
theorem inf49 : (Try.prog.info? 49).map (fun i => i.size) = some 1 := by kernel_rfl
theorem und49 : (Try.prog.underlying 49).map flat = some true := by kernel_rfl
theorem k49 : Kd.ok Try.prog 49 .oth := one_of_map inf49 und49
theorem inf51 : (Try.prog.info? 51).map (fun i => i.size) = some 1 := by kernel_rfl
theorem und51 : (Try.prog.underlying 51).map flat = some true := by kernel_rfl
theorem k51 : Kd.ok Try.prog 51 .oth := one_of_map inf51 und51
theorem inf52 : (Try.prog.info? 52).map (fun i => i.size) = some 1 := by kernel_rfl
theorem und52 : (Try.prog.underlying 52).map flat = some true := by kernel_rfl
theorem k52 : Kd.ok Try.prog 52 .oth := one_of_map inf52 und52
theorem inf53 : (Try.prog.info? 53).map (fun i => i.size) = some 1 := by kernel_rfl
theorem und53 : (Try.prog.underlying 53).map flat = some true := by kernel_rfl
theorem k53 : Kd.ok Try.prog 53 .oth := one_of_map inf53 und53
theorem inf54 : (Try.prog.info? 54).map (fun i => i.size) = some 1 := by kernel_rfl
theorem und54 : (Try.prog.underlying 54).map flat = some true := by kernel_rfl
theorem k54 : Kd.ok Try.prog 54 .oth := one_of_map inf54 und54
theorem inf55 : (Try.prog.info? 55).map (fun i => i.size) = some 1 := by kernel_rfl
theorem und55 : (Try.prog.underlying 55).map flat = some true := by kernel_rfl
theorem k55 : Kd.ok Try.prog 55 .oth := one_of_map inf55 und55
theorem inf56 : (Try.prog.info? 56).map (fun i => i.size) = some 1 := by kernel_rfl
theorem und56 : (Try.prog.underlying 56).map flat = some true := by kernel_rfl
theorem k56 : Kd.ok Try.prog 56 .oth := one_of_map inf56 und56
theorem inf57 : (Try.prog.info? 57).map (fun i => i.size) = some 1 := by kernel_rfl
theorem und57 : (Try.prog.underlying 57).map flat = some true := by kernel_rfl
theorem k57 : Kd.ok Try.prog 57 .oth := one_of_map inf57 und57
theorem inf58 : (Try.prog.info? 58).map (fun i => i.size) = some 1 := by kernel_rfl
theorem und58 : (Try.prog.underlying 58).map flat = some true := by kernel_rfl
theorem k58 : Kd.ok Try.prog 58 .oth := one_of_map inf58 und58
theorem inf59 : (Try.prog.info? 59).map (fun i => i.size) = some 1 := by kernel_rfl
theorem und59 : (Try.prog.underlying 59).map flat = some true := by kernel_rfl
theorem k59 : Kd.ok Try.prog 59 .oth := one_of_map inf59 und59
theorem inf60 : (Try.prog.info? 60).map (fun i => i.size) = some 1 := by kernel_rfl
theorem und60 : (Try.prog.underlying 60).map flat = some true := by kernel_rfl
theorem k60 : Kd.ok Try.prog 60 .oth := one_of_map inf60 und60
theorem inf61 : (Try.prog.info? 61).map (fun i => i.size) = some 1 := by kernel_rfl
theorem und61 : (Try.prog.underlying 61).map flat = some true := by kernel_rfl
theorem k61 : Kd.ok Try.prog 61 .oth := one_of_map inf61 und61
theorem inf67 : (Try.prog.info? 67).map (fun i => i.size) = some 1 := by kernel_rfl
theorem und67 : (Try.prog.underlying 67).map flat = some true := by kernel_rfl
theorem k67 : Kd.ok Try.prog 67 .oth := one_of_map inf67 und67
theorem inf68 : (Try.prog.info? 68).map (fun i => i.size) = some 1 := by kernel_rfl
theorem und68 : Try.prog.underlying 68 = some (.int .u32) := by kernel_rfl
theorem k68 : Kd.ok Try.prog 68 (.int .u32) := ⟨und68, one_of inf68 und68⟩
theorem inf69 : (Try.prog.info? 69).map (fun i => i.size) = some 1 := by kernel_rfl
theorem und69 : Try.prog.underlying 69 = some (.int .u8) := by kernel_rfl
theorem k69 : Kd.ok Try.prog 69 (.int .u8) := ⟨und69, one_of inf69 und69⟩
theorem inf70 : (Try.prog.info? 70).map (fun i => i.size) = some 1 := by kernel_rfl
theorem und70 : Try.prog.underlying 70 = some (.int .u8) := by kernel_rfl
theorem k70 : Kd.ok Try.prog 70 (.int .u8) := ⟨und70, one_of inf70 und70⟩
theorem inf71 : (Try.prog.info? 71).map (fun i => i.size) = some 1 := by kernel_rfl
theorem und71 : (Try.prog.underlying 71).map flat = some true := by kernel_rfl
theorem k71 : Kd.ok Try.prog 71 .oth := one_of_map inf71 und71
theorem inf72 : (Try.prog.info? 72).map (fun i => i.size) = some 1 := by kernel_rfl
theorem und72 : (Try.prog.underlying 72).map flat = some true := by kernel_rfl
theorem k72 : Kd.ok Try.prog 72 .oth := one_of_map inf72 und72
theorem inf73 : (Try.prog.info? 73).map (fun i => i.size) = some 1 := by kernel_rfl
theorem und73 : Try.prog.underlying 73 = some (.int .i32) := by kernel_rfl
theorem k73 : Kd.ok Try.prog 73 (.int .i32) := ⟨und73, one_of inf73 und73⟩
theorem inf74 : (Try.prog.info? 74).map (fun i => i.size) = some 1 := by kernel_rfl
theorem und74 : Try.prog.underlying 74 = some (.int .i32) := by kernel_rfl
theorem k74 : Kd.ok Try.prog 74 (.int .i32) := ⟨und74, one_of inf74 und74⟩

/-- The kinds of the types, by their numbers. -/
def kd (t : TypeId) : Kd :=
  bif Nat.beq t 1 then .oth else bif Nat.beq t 2 then .int .i64 else bif Nat.beq t 3 then .int .i64 else bif Nat.beq t 4 then .bool else bif Nat.beq t 5 then .int .u8 else bif Nat.beq t 6 then .int .u8 else bif Nat.beq t 9 then .str else bif Nat.beq t 10 then .str else bif Nat.beq t 11 then .str else bif Nat.beq t 12 then .int .u64 else bif Nat.beq t 15 then .oth else bif Nat.beq t 16 then .oth else bif Nat.beq t 17 then .oth else bif Nat.beq t 20 then .ifc else bif Nat.beq t 21 then .int .i32 else bif Nat.beq t 22 then .sl (.slice none 0 0) else bif Nat.beq t 23 then .oth else bif Nat.beq t 24 then .sl (.int .i64 0) else bif Nat.beq t 26 then .oth else bif Nat.beq t 27 then .oth else bif Nat.beq t 28 then .oth else bif Nat.beq t 29 then .oth else bif Nat.beq t 30 then .oth else bif Nat.beq t 31 then .oth else bif Nat.beq t 32 then .oth else bif Nat.beq t 33 then .oth else bif Nat.beq t 34 then .oth else bif Nat.beq t 35 then .oth else bif Nat.beq t 36 then .oth else bif Nat.beq t 37 then .oth else bif Nat.beq t 38 then .oth else bif Nat.beq t 39 then .oth else bif Nat.beq t 40 then .oth else bif Nat.beq t 41 then .oth else bif Nat.beq t 42 then .oth else bif Nat.beq t 43 then .oth else bif Nat.beq t 44 then .oth else bif Nat.beq t 45 then .oth else bif Nat.beq t 46 then .oth else bif Nat.beq t 47 then .oth else bif Nat.beq t 48 then .oth else bif Nat.beq t 49 then .oth else bif Nat.beq t 51 then .oth else bif Nat.beq t 52 then .oth else bif Nat.beq t 53 then .oth else bif Nat.beq t 54 then .oth else bif Nat.beq t 55 then .oth else bif Nat.beq t 56 then .oth else bif Nat.beq t 57 then .oth else bif Nat.beq t 58 then .oth else bif Nat.beq t 59 then .oth else bif Nat.beq t 60 then .oth else bif Nat.beq t 61 then .oth else bif Nat.beq t 67 then .oth else bif Nat.beq t 68 then .int .u32 else bif Nat.beq t 69 then .int .u8 else bif Nat.beq t 70 then .int .u8 else bif Nat.beq t 71 then .oth else bif Nat.beq t 72 then .oth else bif Nat.beq t 73 then .int .i32 else bif Nat.beq t 74 then .int .i32 else .no

theorem kd_ok (t : TypeId) : Kd.ok Try.prog t (kd t) := by
  unfold kd
  by_cases h1 : t = 1
  · subst h1; exact k1
  rw [beq_ne h1, cond_false]
  by_cases h2 : t = 2
  · subst h2; exact k2
  rw [beq_ne h2, cond_false]
  by_cases h3 : t = 3
  · subst h3; exact k3
  rw [beq_ne h3, cond_false]
  by_cases h4 : t = 4
  · subst h4; exact k4
  rw [beq_ne h4, cond_false]
  by_cases h5 : t = 5
  · subst h5; exact k5
  rw [beq_ne h5, cond_false]
  by_cases h6 : t = 6
  · subst h6; exact k6
  rw [beq_ne h6, cond_false]
  by_cases h9 : t = 9
  · subst h9; exact k9
  rw [beq_ne h9, cond_false]
  by_cases h10 : t = 10
  · subst h10; exact k10
  rw [beq_ne h10, cond_false]
  by_cases h11 : t = 11
  · subst h11; exact k11
  rw [beq_ne h11, cond_false]
  by_cases h12 : t = 12
  · subst h12; exact k12
  rw [beq_ne h12, cond_false]
  by_cases h15 : t = 15
  · subst h15; exact k15
  rw [beq_ne h15, cond_false]
  by_cases h16 : t = 16
  · subst h16; exact k16
  rw [beq_ne h16, cond_false]
  by_cases h17 : t = 17
  · subst h17; exact k17
  rw [beq_ne h17, cond_false]
  by_cases h20 : t = 20
  · subst h20; exact k20
  rw [beq_ne h20, cond_false]
  by_cases h21 : t = 21
  · subst h21; exact k21
  rw [beq_ne h21, cond_false]
  by_cases h22 : t = 22
  · subst h22; exact k22
  rw [beq_ne h22, cond_false]
  by_cases h23 : t = 23
  · subst h23; exact k23
  rw [beq_ne h23, cond_false]
  by_cases h24 : t = 24
  · subst h24; exact k24
  rw [beq_ne h24, cond_false]
  by_cases h26 : t = 26
  · subst h26; exact k26
  rw [beq_ne h26, cond_false]
  by_cases h27 : t = 27
  · subst h27; exact k27
  rw [beq_ne h27, cond_false]
  by_cases h28 : t = 28
  · subst h28; exact k28
  rw [beq_ne h28, cond_false]
  by_cases h29 : t = 29
  · subst h29; exact k29
  rw [beq_ne h29, cond_false]
  by_cases h30 : t = 30
  · subst h30; exact k30
  rw [beq_ne h30, cond_false]
  by_cases h31 : t = 31
  · subst h31; exact k31
  rw [beq_ne h31, cond_false]
  by_cases h32 : t = 32
  · subst h32; exact k32
  rw [beq_ne h32, cond_false]
  by_cases h33 : t = 33
  · subst h33; exact k33
  rw [beq_ne h33, cond_false]
  by_cases h34 : t = 34
  · subst h34; exact k34
  rw [beq_ne h34, cond_false]
  by_cases h35 : t = 35
  · subst h35; exact k35
  rw [beq_ne h35, cond_false]
  by_cases h36 : t = 36
  · subst h36; exact k36
  rw [beq_ne h36, cond_false]
  by_cases h37 : t = 37
  · subst h37; exact k37
  rw [beq_ne h37, cond_false]
  by_cases h38 : t = 38
  · subst h38; exact k38
  rw [beq_ne h38, cond_false]
  by_cases h39 : t = 39
  · subst h39; exact k39
  rw [beq_ne h39, cond_false]
  by_cases h40 : t = 40
  · subst h40; exact k40
  rw [beq_ne h40, cond_false]
  by_cases h41 : t = 41
  · subst h41; exact k41
  rw [beq_ne h41, cond_false]
  by_cases h42 : t = 42
  · subst h42; exact k42
  rw [beq_ne h42, cond_false]
  by_cases h43 : t = 43
  · subst h43; exact k43
  rw [beq_ne h43, cond_false]
  by_cases h44 : t = 44
  · subst h44; exact k44
  rw [beq_ne h44, cond_false]
  by_cases h45 : t = 45
  · subst h45; exact k45
  rw [beq_ne h45, cond_false]
  by_cases h46 : t = 46
  · subst h46; exact k46
  rw [beq_ne h46, cond_false]
  by_cases h47 : t = 47
  · subst h47; exact k47
  rw [beq_ne h47, cond_false]
  by_cases h48 : t = 48
  · subst h48; exact k48
  rw [beq_ne h48, cond_false]
  by_cases h49 : t = 49
  · subst h49; exact k49
  rw [beq_ne h49, cond_false]
  by_cases h51 : t = 51
  · subst h51; exact k51
  rw [beq_ne h51, cond_false]
  by_cases h52 : t = 52
  · subst h52; exact k52
  rw [beq_ne h52, cond_false]
  by_cases h53 : t = 53
  · subst h53; exact k53
  rw [beq_ne h53, cond_false]
  by_cases h54 : t = 54
  · subst h54; exact k54
  rw [beq_ne h54, cond_false]
  by_cases h55 : t = 55
  · subst h55; exact k55
  rw [beq_ne h55, cond_false]
  by_cases h56 : t = 56
  · subst h56; exact k56
  rw [beq_ne h56, cond_false]
  by_cases h57 : t = 57
  · subst h57; exact k57
  rw [beq_ne h57, cond_false]
  by_cases h58 : t = 58
  · subst h58; exact k58
  rw [beq_ne h58, cond_false]
  by_cases h59 : t = 59
  · subst h59; exact k59
  rw [beq_ne h59, cond_false]
  by_cases h60 : t = 60
  · subst h60; exact k60
  rw [beq_ne h60, cond_false]
  by_cases h61 : t = 61
  · subst h61; exact k61
  rw [beq_ne h61, cond_false]
  by_cases h67 : t = 67
  · subst h67; exact k67
  rw [beq_ne h67, cond_false]
  by_cases h68 : t = 68
  · subst h68; exact k68
  rw [beq_ne h68, cond_false]
  by_cases h69 : t = 69
  · subst h69; exact k69
  rw [beq_ne h69, cond_false]
  by_cases h70 : t = 70
  · subst h70; exact k70
  rw [beq_ne h70, cond_false]
  by_cases h71 : t = 71
  · subst h71; exact k71
  rw [beq_ne h71, cond_false]
  by_cases h72 : t = 72
  · subst h72; exact k72
  rw [beq_ne h72, cond_false]
  by_cases h73 : t = 73
  · subst h73; exact k73
  rw [beq_ne h73, cond_false]
  by_cases h74 : t = 74
  · subst h74; exact k74
  rw [beq_ne h74, cond_false]
  exact trivial

theorem mixed : Try.prog.follows .mixedOrders = true := by kernel_rfl

end Go.Proofs.Ytecfgbjddkpkcaa.Hx
