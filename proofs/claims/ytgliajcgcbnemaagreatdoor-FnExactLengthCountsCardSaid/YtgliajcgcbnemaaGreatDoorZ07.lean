/-
  What is known of the types of this seat: their kinds, each a closed fact over the translation. Printed by gen_ty.py.
-/
import Derived.Test.YtgliajcgcbnemaaGreatDoorZ06
import Derived.Test.YtgliajcgcbnemaaGreatDoorRows
namespace Go.Proofs.YtgliajcgcbnemaaGreatDoor.Hx
open Go.RowKit

theorem inf1 : (Tryz.prog.info? 1).map (fun i => i.size) = some 1 := by kernel_rfl
theorem und1 : (Tryz.prog.underlying 1).map flat = some true := by kernel_rfl
theorem k1 : Kd.ok Tryz.prog 1 .oth := one_of_map inf1 und1
theorem inf2 : (Tryz.prog.info? 2).map (fun i => i.size) = some 1 := by kernel_rfl
theorem und2 : Tryz.prog.underlying 2 = some (.int .i64) := by kernel_rfl
theorem k2 : Kd.ok Tryz.prog 2 (.int .i64) := ⟨und2, one_of inf2 und2⟩
theorem inf3 : (Tryz.prog.info? 3).map (fun i => i.size) = some 1 := by kernel_rfl
theorem und3 : Tryz.prog.underlying 3 = some (.int .i64) := by kernel_rfl
theorem k3 : Kd.ok Tryz.prog 3 (.int .i64) := ⟨und3, one_of inf3 und3⟩
theorem inf4 : (Tryz.prog.info? 4).map (fun i => i.size) = some 1 := by kernel_rfl
theorem und4 : Tryz.prog.underlying 4 = some (.bool) := by kernel_rfl
theorem k4 : Kd.ok Tryz.prog 4 (.bool) := ⟨und4, one_of inf4 und4⟩
theorem inf5 : (Tryz.prog.info? 5).map (fun i => i.size) = some 1 := by kernel_rfl
theorem und5 : Tryz.prog.underlying 5 = some (.int .u8) := by kernel_rfl
theorem k5 : Kd.ok Tryz.prog 5 (.int .u8) := ⟨und5, one_of inf5 und5⟩
theorem inf6 : (Tryz.prog.info? 6).map (fun i => i.size) = some 1 := by kernel_rfl
theorem und6 : Tryz.prog.underlying 6 = some (.int .u8) := by kernel_rfl
theorem k6 : Kd.ok Tryz.prog 6 (.int .u8) := ⟨und6, one_of inf6 und6⟩
theorem inf9 : (Tryz.prog.info? 9).map (fun i => i.size) = some 1 := by kernel_rfl
theorem und9 : Tryz.prog.underlying 9 = some (.string) := by kernel_rfl
theorem k9 : Kd.ok Tryz.prog 9 (.str) := ⟨und9, one_of inf9 und9⟩
theorem inf10 : (Tryz.prog.info? 10).map (fun i => i.size) = some 1 := by kernel_rfl
theorem und10 : Tryz.prog.underlying 10 = some (.string) := by kernel_rfl
theorem k10 : Kd.ok Tryz.prog 10 (.str) := ⟨und10, one_of inf10 und10⟩
theorem inf11 : (Tryz.prog.info? 11).map (fun i => i.size) = some 1 := by kernel_rfl
theorem und11 : Tryz.prog.underlying 11 = some (.string) := by kernel_rfl
theorem k11 : Kd.ok Tryz.prog 11 (.str) := ⟨und11, one_of inf11 und11⟩
theorem inf12 : (Tryz.prog.info? 12).map (fun i => i.size) = some 1 := by kernel_rfl
theorem und12 : Tryz.prog.underlying 12 = some (.int .u64) := by kernel_rfl
theorem k12 : Kd.ok Tryz.prog 12 (.int .u64) := ⟨und12, one_of inf12 und12⟩
theorem inf15 : (Tryz.prog.info? 15).map (fun i => i.size) = some 1 := by kernel_rfl
theorem und15 : (Tryz.prog.underlying 15).map flat = some true := by kernel_rfl
theorem k15 : Kd.ok Tryz.prog 15 .oth := one_of_map inf15 und15
theorem inf16 : (Tryz.prog.info? 16).map (fun i => i.size) = some 1 := by kernel_rfl
theorem und16 : (Tryz.prog.underlying 16).map flat = some true := by kernel_rfl
theorem k16 : Kd.ok Tryz.prog 16 .oth := one_of_map inf16 und16
theorem inf17 : (Tryz.prog.info? 17).map (fun i => i.size) = some 1 := by kernel_rfl
theorem und17 : (Tryz.prog.underlying 17).map flat = some true := by kernel_rfl
theorem k17 : Kd.ok Tryz.prog 17 .oth := one_of_map inf17 und17
theorem inf20 : (Tryz.prog.info? 20).map (fun i => i.size) = some 1 := by kernel_rfl
theorem und20 : Tryz.prog.underlying 20 = some (.interface (Tryz.prog.methodsAt 20)) := by kernel_rfl
theorem k20 : Kd.ok Tryz.prog 20 (.ifc) := ⟨und20, one_of inf20 und20⟩
theorem inf21 : (Tryz.prog.info? 21).map (fun i => i.size) = some 1 := by kernel_rfl
theorem und21 : Tryz.prog.underlying 21 = some (.int .i32) := by kernel_rfl
theorem k21 : Kd.ok Tryz.prog 21 (.int .i32) := ⟨und21, one_of inf21 und21⟩
theorem inf22 : (Tryz.prog.info? 22).map (fun i => i.size) = some 1 := by kernel_rfl
theorem und22 : Tryz.prog.underlying 22 = some (.slice 30) := by kernel_rfl
theorem elt22 : (Tryz.prog.info? 30).map (fun i => (i.zero, i.size, i.bytes)) = some (some (.slice none 0 0), 1, 24) := by kernel_rfl
theorem k22 : Kd.ok Tryz.prog 22 (.sl (.slice none 0 0)) := sl_of inf22 und22 elt22 (by decide) rfl rfl
theorem inf23 : (Tryz.prog.info? 23).map (fun i => i.size) = some 1 := by kernel_rfl
theorem und23 : (Tryz.prog.underlying 23).map flat = some true := by kernel_rfl
theorem k23 : Kd.ok Tryz.prog 23 .oth := one_of_map inf23 und23
theorem inf24 : (Tryz.prog.info? 24).map (fun i => i.size) = some 1 := by kernel_rfl
theorem und24 : (Tryz.prog.underlying 24).map flat = some true := by kernel_rfl
theorem k24 : Kd.ok Tryz.prog 24 .oth := one_of_map inf24 und24
theorem inf25 : (Tryz.prog.info? 25).map (fun i => i.size) = some 1 := by kernel_rfl
theorem und25 : (Tryz.prog.underlying 25).map flat = some true := by kernel_rfl
theorem k25 : Kd.ok Tryz.prog 25 .oth := one_of_map inf25 und25
theorem inf26 : (Tryz.prog.info? 26).map (fun i => i.size) = some 1 := by kernel_rfl
theorem und26 : (Tryz.prog.underlying 26).map flat = some true := by kernel_rfl
theorem k26 : Kd.ok Tryz.prog 26 .oth := one_of_map inf26 und26
theorem inf27 : (Tryz.prog.info? 27).map (fun i => i.size) = some 1 := by kernel_rfl
theorem und27 : (Tryz.prog.underlying 27).map flat = some true := by kernel_rfl
theorem k27 : Kd.ok Tryz.prog 27 .oth := one_of_map inf27 und27
theorem inf29 : (Tryz.prog.info? 29).map (fun i => i.size) = some 1 := by kernel_rfl
theorem und29 : (Tryz.prog.underlying 29).map flat = some true := by kernel_rfl
theorem k29 : Kd.ok Tryz.prog 29 .oth := one_of_map inf29 und29
theorem inf30 : (Tryz.prog.info? 30).map (fun i => i.size) = some 1 := by kernel_rfl
theorem und30 : Tryz.prog.underlying 30 = some (.slice 3) := by kernel_rfl
theorem elt30 : (Tryz.prog.info? 3).map (fun i => (i.zero, i.size, i.bytes)) = some (some (.int .i64 0), 1, 8) := by kernel_rfl
theorem k30 : Kd.ok Tryz.prog 30 (.sl (.int .i64 0)) := sl_of inf30 und30 elt30 (by decide) rfl rfl
theorem inf31 : (Tryz.prog.info? 31).map (fun i => i.size) = some 1 := by kernel_rfl
theorem und31 : (Tryz.prog.underlying 31).map flat = some true := by kernel_rfl
theorem k31 : Kd.ok Tryz.prog 31 .oth := one_of_map inf31 und31
theorem inf32 : (Tryz.prog.info? 32).map (fun i => i.size) = some 1 := by kernel_rfl
theorem und32 : (Tryz.prog.underlying 32).map flat = some true := by kernel_rfl
theorem k32 : Kd.ok Tryz.prog 32 .oth := one_of_map inf32 und32
theorem inf33 : (Tryz.prog.info? 33).map (fun i => i.size) = some 1 := by kernel_rfl
theorem und33 : (Tryz.prog.underlying 33).map flat = some true := by kernel_rfl
theorem k33 : Kd.ok Tryz.prog 33 .oth := one_of_map inf33 und33
theorem inf34 : (Tryz.prog.info? 34).map (fun i => i.size) = some 1 := by kernel_rfl
theorem und34 : Tryz.prog.underlying 34 = some (.slice 5) := by kernel_rfl
theorem elt34 : (Tryz.prog.info? 5).map (fun i => (i.zero, i.size, i.bytes)) = some (some (.int .u8 0), 1, 1) := by kernel_rfl
theorem k34 : Kd.ok Tryz.prog 34 (.sl (.int .u8 0)) := sl_of inf34 und34 elt34 (by decide) rfl rfl
theorem inf35 : (Tryz.prog.info? 35).map (fun i => i.size) = some 1 := by kernel_rfl
theorem und35 : (Tryz.prog.underlying 35).map flat = some true := by kernel_rfl
theorem k35 : Kd.ok Tryz.prog 35 .oth := one_of_map inf35 und35
theorem inf37 : (Tryz.prog.info? 37).map (fun i => i.size) = some 1 := by kernel_rfl
theorem und37 : (Tryz.prog.underlying 37).map flat = some true := by kernel_rfl
theorem k37 : Kd.ok Tryz.prog 37 .oth := one_of_map inf37 und37
theorem inf38 : (Tryz.prog.info? 38).map (fun i => i.size) = some 1 := by kernel_rfl
theorem und38 : (Tryz.prog.underlying 38).map flat = some true := by kernel_rfl
theorem k38 : Kd.ok Tryz.prog 38 .oth := one_of_map inf38 und38
theorem inf39 : (Tryz.prog.info? 39).map (fun i => i.size) = some 1 := by kernel_rfl
theorem und39 : (Tryz.prog.underlying 39).map flat = some true := by kernel_rfl
theorem k39 : Kd.ok Tryz.prog 39 .oth := one_of_map inf39 und39
theorem inf41 : (Tryz.prog.info? 41).map (fun i => i.size) = some 1 := by kernel_rfl
theorem und41 : (Tryz.prog.underlying 41).map flat = some true := by kernel_rfl
theorem k41 : Kd.ok Tryz.prog 41 .oth := one_of_map inf41 und41
theorem inf42 : (Tryz.prog.info? 42).map (fun i => i.size) = some 1 := by kernel_rfl
theorem und42 : (Tryz.prog.underlying 42).map flat = some true := by kernel_rfl
theorem k42 : Kd.ok Tryz.prog 42 .oth := one_of_map inf42 und42
theorem inf43 : (Tryz.prog.info? 43).map (fun i => i.size) = some 1 := by kernel_rfl
theorem und43 : (Tryz.prog.underlying 43).map flat = some true := by kernel_rfl
theorem k43 : Kd.ok Tryz.prog 43 .oth := one_of_map inf43 und43
theorem inf45 : (Tryz.prog.info? 45).map (fun i => i.size) = some 1 := by kernel_rfl
theorem und45 : (Tryz.prog.underlying 45).map flat = some true := by kernel_rfl
theorem k45 : Kd.ok Tryz.prog 45 .oth := one_of_map inf45 und45
theorem inf47 : (Tryz.prog.info? 47).map (fun i => i.size) = some 1 := by kernel_rfl
theorem und47 : (Tryz.prog.underlying 47).map flat = some true := by kernel_rfl
theorem k47 : Kd.ok Tryz.prog 47 .oth := one_of_map inf47 und47
theorem inf48 : (Tryz.prog.info? 48).map (fun i => i.size) = some 1 := by kernel_rfl
theorem und48 : (Tryz.prog.underlying 48).map flat = some true := by kernel_rfl
theorem k48 : Kd.ok Tryz.prog 48 .oth := one_of_map inf48 und48
theorem inf49 : (Tryz.prog.info? 49).map (fun i => i.size) = some 1 := by kernel_rfl
theorem und49 : (Tryz.prog.underlying 49).map flat = some true := by kernel_rfl
theorem k49 : Kd.ok Tryz.prog 49 .oth := one_of_map inf49 und49
theorem inf51 : (Tryz.prog.info? 51).map (fun i => i.size) = some 1 := by kernel_rfl
theorem und51 : (Tryz.prog.underlying 51).map flat = some true := by kernel_rfl
theorem k51 : Kd.ok Tryz.prog 51 .oth := one_of_map inf51 und51
theorem inf52 : (Tryz.prog.info? 52).map (fun i => i.size) = some 1 := by kernel_rfl
theorem und52 : (Tryz.prog.underlying 52).map flat = some true := by kernel_rfl
theorem k52 : Kd.ok Tryz.prog 52 .oth := one_of_map inf52 und52
theorem inf53 : (Tryz.prog.info? 53).map (fun i => i.size) = some 1 := by kernel_rfl
theorem und53 : (Tryz.prog.underlying 53).map flat = some true := by kernel_rfl
theorem k53 : Kd.ok Tryz.prog 53 .oth := one_of_map inf53 und53
theorem inf54 : (Tryz.prog.info? 54).map (fun i => i.size) = some 1 := by kernel_rfl
theorem und54 : (Tryz.prog.underlying 54).map flat = some true := by kernel_rfl
theorem k54 : Kd.ok Tryz.prog 54 .oth := one_of_map inf54 und54
theorem inf55 : (Tryz.prog.info? 55).map (fun i => i.size) = some 1 := by kernel_rfl
theorem und55 : (Tryz.prog.underlying 55).map flat = some true := by kernel_rfl
theorem k55 : Kd.ok Tryz.prog 55 .oth := one_of_map inf55 und55
theorem inf56 : (Tryz.prog.info? 56).map (fun i => i.size) = some 1 := by kernel_rfl
theorem und56 : (Tryz.prog.underlying 56).map flat = some true := by kernel_rfl
theorem k56 : Kd.ok Tryz.prog 56 .oth := one_of_map inf56 und56
theorem inf57 : (Tryz.prog.info? 57).map (fun i => i.size) = some 1 := by kernel_rfl
theorem und57 : (Tryz.prog.underlying 57).map flat = some true := by kernel_rfl
theorem k57 : Kd.ok Tryz.prog 57 .oth := one_of_map inf57 und57
theorem inf58 : (Tryz.prog.info? 58).map (fun i => i.size) = some 1 := by kernel_rfl
theorem und58 : (Tryz.prog.underlying 58).map flat = some true := by kernel_rfl
theorem k58 : Kd.ok Tryz.prog 58 .oth := one_of_map inf58 und58
theorem inf60 : (Tryz.prog.info? 60).map (fun i => i.size) = some 1 := by kernel_rfl
theorem und60 : (Tryz.prog.underlying 60).map flat = some true := by kernel_rfl
theorem k60 : Kd.ok Tryz.prog 60 .oth := one_of_map inf60 und60
theorem inf62 : (Tryz.prog.info? 62).map (fun i => i.size) = some 1 := by kernel_rfl
theorem und62 : (Tryz.prog.underlying 62).map flat = some true := by kernel_rfl
theorem k62 : Kd.ok Tryz.prog 62 .oth := one_of_map inf62 und62
theorem inf64 : (Tryz.prog.info? 64).map (fun i => i.size) = some 1 := by kernel_rfl
theorem und64 : (Tryz.prog.underlying 64).map flat = some true := by kernel_rfl
theorem k64 : Kd.ok Tryz.prog 64 .oth := one_of_map inf64 und64
theorem inf65 : (Tryz.prog.info? 65).map (fun i => i.size) = some 1 := by kernel_rfl
theorem und65 : (Tryz.prog.underlying 65).map flat = some true := by kernel_rfl
theorem k65 : Kd.ok Tryz.prog 65 .oth := one_of_map inf65 und65
theorem inf66 : (Tryz.prog.info? 66).map (fun i => i.size) = some 1 := by kernel_rfl
theorem und66 : (Tryz.prog.underlying 66).map flat = some true := by kernel_rfl
theorem k66 : Kd.ok Tryz.prog 66 .oth := one_of_map inf66 und66
theorem inf67 : (Tryz.prog.info? 67).map (fun i => i.size) = some 1 := by kernel_rfl
theorem und67 : (Tryz.prog.underlying 67).map flat = some true := by kernel_rfl
theorem k67 : Kd.ok Tryz.prog 67 .oth := one_of_map inf67 und67
theorem inf68 : (Tryz.prog.info? 68).map (fun i => i.size) = some 1 := by kernel_rfl
theorem und68 : (Tryz.prog.underlying 68).map flat = some true := by kernel_rfl
theorem k68 : Kd.ok Tryz.prog 68 .oth := one_of_map inf68 und68
theorem inf69 : (Tryz.prog.info? 69).map (fun i => i.size) = some 1 := by kernel_rfl
theorem und69 : (Tryz.prog.underlying 69).map flat = some true := by kernel_rfl
theorem k69 : Kd.ok Tryz.prog 69 .oth := one_of_map inf69 und69
theorem inf70 : (Tryz.prog.info? 70).map (fun i => i.size) = some 1 := by kernel_rfl
theorem und70 : (Tryz.prog.underlying 70).map flat = some true := by kernel_rfl
theorem k70 : Kd.ok Tryz.prog 70 .oth := one_of_map inf70 und70
theorem inf71 : (Tryz.prog.info? 71).map (fun i => i.size) = some 1 := by kernel_rfl
theorem und71 : (Tryz.prog.underlying 71).map flat = some true := by kernel_rfl
theorem k71 : Kd.ok Tryz.prog 71 .oth := one_of_map inf71 und71
theorem inf72 : (Tryz.prog.info? 72).map (fun i => i.size) = some 1 := by kernel_rfl
theorem und72 : (Tryz.prog.underlying 72).map flat = some true := by kernel_rfl
theorem k72 : Kd.ok Tryz.prog 72 .oth := one_of_map inf72 und72
theorem inf73 : (Tryz.prog.info? 73).map (fun i => i.size) = some 1 := by kernel_rfl
theorem und73 : (Tryz.prog.underlying 73).map flat = some true := by kernel_rfl
theorem k73 : Kd.ok Tryz.prog 73 .oth := one_of_map inf73 und73
theorem inf74 : (Tryz.prog.info? 74).map (fun i => i.size) = some 1 := by kernel_rfl
theorem und74 : (Tryz.prog.underlying 74).map flat = some true := by kernel_rfl
theorem k74 : Kd.ok Tryz.prog 74 .oth := one_of_map inf74 und74
theorem inf75 : (Tryz.prog.info? 75).map (fun i => i.size) = some 1 := by kernel_rfl
theorem und75 : (Tryz.prog.underlying 75).map flat = some true := by kernel_rfl
theorem k75 : Kd.ok Tryz.prog 75 .oth := one_of_map inf75 und75
theorem inf76 : (Tryz.prog.info? 76).map (fun i => i.size) = some 1 := by kernel_rfl
theorem und76 : (Tryz.prog.underlying 76).map flat = some true := by kernel_rfl
theorem k76 : Kd.ok Tryz.prog 76 .oth := one_of_map inf76 und76
theorem inf77 : (Tryz.prog.info? 77).map (fun i => i.size) = some 1 := by kernel_rfl
theorem und77 : Tryz.prog.underlying 77 = some (.slice 9) := by kernel_rfl
theorem elt77 : (Tryz.prog.info? 9).map (fun i => (i.zero, i.size, i.bytes)) = some (some (.string ByteArray.empty), 1, 16) := by kernel_rfl
theorem k77 : Kd.ok Tryz.prog 77 (.sl (.string ByteArray.empty)) := sl_of inf77 und77 elt77 (by decide) rfl rfl
theorem inf78 : (Tryz.prog.info? 78).map (fun i => i.size) = some 1 := by kernel_rfl
theorem und78 : (Tryz.prog.underlying 78).map flat = some true := by kernel_rfl
theorem k78 : Kd.ok Tryz.prog 78 .oth := one_of_map inf78 und78
theorem inf79 : (Tryz.prog.info? 79).map (fun i => i.size) = some 1 := by kernel_rfl
theorem und79 : (Tryz.prog.underlying 79).map flat = some true := by kernel_rfl
theorem k79 : Kd.ok Tryz.prog 79 .oth := one_of_map inf79 und79
theorem inf80 : (Tryz.prog.info? 80).map (fun i => i.size) = some 1 := by kernel_rfl
theorem und80 : (Tryz.prog.underlying 80).map flat = some true := by kernel_rfl
theorem k80 : Kd.ok Tryz.prog 80 .oth := one_of_map inf80 und80
theorem inf81 : (Tryz.prog.info? 81).map (fun i => i.size) = some 1 := by kernel_rfl
theorem und81 : (Tryz.prog.underlying 81).map flat = some true := by kernel_rfl
theorem k81 : Kd.ok Tryz.prog 81 .oth := one_of_map inf81 und81
theorem inf82 : (Tryz.prog.info? 82).map (fun i => i.size) = some 1 := by kernel_rfl
theorem und82 : (Tryz.prog.underlying 82).map flat = some true := by kernel_rfl
theorem k82 : Kd.ok Tryz.prog 82 .oth := one_of_map inf82 und82
theorem inf83 : (Tryz.prog.info? 83).map (fun i => i.size) = some 1 := by kernel_rfl
theorem und83 : (Tryz.prog.underlying 83).map flat = some true := by kernel_rfl
theorem k83 : Kd.ok Tryz.prog 83 .oth := one_of_map inf83 und83
theorem inf84 : (Tryz.prog.info? 84).map (fun i => i.size) = some 1 := by kernel_rfl
theorem und84 : (Tryz.prog.underlying 84).map flat = some true := by kernel_rfl
theorem k84 : Kd.ok Tryz.prog 84 .oth := one_of_map inf84 und84
theorem inf85 : (Tryz.prog.info? 85).map (fun i => i.size) = some 1 := by kernel_rfl
theorem und85 : (Tryz.prog.underlying 85).map flat = some true := by kernel_rfl
theorem k85 : Kd.ok Tryz.prog 85 .oth := one_of_map inf85 und85
theorem inf86 : (Tryz.prog.info? 86).map (fun i => i.size) = some 1 := by kernel_rfl
theorem und86 : (Tryz.prog.underlying 86).map flat = some true := by kernel_rfl
theorem k86 : Kd.ok Tryz.prog 86 .oth := one_of_map inf86 und86
theorem inf87 : (Tryz.prog.info? 87).map (fun i => i.size) = some 1 := by kernel_rfl
theorem und87 : (Tryz.prog.underlying 87).map flat = some true := by kernel_rfl
theorem k87 : Kd.ok Tryz.prog 87 .oth := one_of_map inf87 und87
theorem inf88 : (Tryz.prog.info? 88).map (fun i => i.size) = some 1 := by kernel_rfl
theorem und88 : (Tryz.prog.underlying 88).map flat = some true := by kernel_rfl
theorem k88 : Kd.ok Tryz.prog 88 .oth := one_of_map inf88 und88
theorem inf89 : (Tryz.prog.info? 89).map (fun i => i.size) = some 1 := by kernel_rfl
theorem und89 : (Tryz.prog.underlying 89).map flat = some true := by kernel_rfl
theorem k89 : Kd.ok Tryz.prog 89 .oth := one_of_map inf89 und89
theorem inf90 : (Tryz.prog.info? 90).map (fun i => i.size) = some 1 := by kernel_rfl
theorem und90 : (Tryz.prog.underlying 90).map flat = some true := by kernel_rfl
theorem k90 : Kd.ok Tryz.prog 90 .oth := one_of_map inf90 und90
theorem inf91 : (Tryz.prog.info? 91).map (fun i => i.size) = some 1 := by kernel_rfl
theorem und91 : (Tryz.prog.underlying 91).map flat = some true := by kernel_rfl
theorem k91 : Kd.ok Tryz.prog 91 .oth := one_of_map inf91 und91
theorem inf92 : (Tryz.prog.info? 92).map (fun i => i.size) = some 1 := by kernel_rfl
theorem und92 : (Tryz.prog.underlying 92).map flat = some true := by kernel_rfl
theorem k92 : Kd.ok Tryz.prog 92 .oth := one_of_map inf92 und92
theorem inf93 : (Tryz.prog.info? 93).map (fun i => i.size) = some 1 := by kernel_rfl
theorem und93 : (Tryz.prog.underlying 93).map flat = some true := by kernel_rfl
theorem k93 : Kd.ok Tryz.prog 93 .oth := one_of_map inf93 und93
theorem inf94 : (Tryz.prog.info? 94).map (fun i => i.size) = some 1 := by kernel_rfl
theorem und94 : (Tryz.prog.underlying 94).map flat = some true := by kernel_rfl
theorem k94 : Kd.ok Tryz.prog 94 .oth := one_of_map inf94 und94
theorem inf95 : (Tryz.prog.info? 95).map (fun i => i.size) = some 1 := by kernel_rfl
theorem und95 : (Tryz.prog.underlying 95).map flat = some true := by kernel_rfl
theorem k95 : Kd.ok Tryz.prog 95 .oth := one_of_map inf95 und95
theorem inf96 : (Tryz.prog.info? 96).map (fun i => i.size) = some 1 := by kernel_rfl
theorem und96 : (Tryz.prog.underlying 96).map flat = some true := by kernel_rfl
theorem k96 : Kd.ok Tryz.prog 96 .oth := one_of_map inf96 und96
theorem inf97 : (Tryz.prog.info? 97).map (fun i => i.size) = some 1 := by kernel_rfl
theorem und97 : (Tryz.prog.underlying 97).map flat = some true := by kernel_rfl
theorem k97 : Kd.ok Tryz.prog 97 .oth := one_of_map inf97 und97
theorem inf98 : (Tryz.prog.info? 98).map (fun i => i.size) = some 1 := by kernel_rfl
theorem und98 : (Tryz.prog.underlying 98).map flat = some true := by kernel_rfl
theorem k98 : Kd.ok Tryz.prog 98 .oth := one_of_map inf98 und98
theorem inf99 : (Tryz.prog.info? 99).map (fun i => i.size) = some 1 := by kernel_rfl
theorem und99 : Tryz.prog.underlying 99 = some (.int .u64) := by kernel_rfl
theorem k99 : Kd.ok Tryz.prog 99 (.int .u64) := ⟨und99, one_of inf99 und99⟩
theorem inf100 : (Tryz.prog.info? 100).map (fun i => i.size) = some 1 := by kernel_rfl
theorem und100 : (Tryz.prog.underlying 100).map flat = some true := by kernel_rfl
theorem k100 : Kd.ok Tryz.prog 100 .oth := one_of_map inf100 und100
theorem inf101 : (Tryz.prog.info? 101).map (fun i => i.size) = some 1 := by kernel_rfl
theorem und101 : (Tryz.prog.underlying 101).map flat = some true := by kernel_rfl
theorem k101 : Kd.ok Tryz.prog 101 .oth := one_of_map inf101 und101
theorem inf102 : (Tryz.prog.info? 102).map (fun i => i.size) = some 1 := by kernel_rfl
theorem und102 : (Tryz.prog.underlying 102).map flat = some true := by kernel_rfl
theorem k102 : Kd.ok Tryz.prog 102 .oth := one_of_map inf102 und102
theorem inf103 : (Tryz.prog.info? 103).map (fun i => i.size) = some 1 := by kernel_rfl
theorem und103 : (Tryz.prog.underlying 103).map flat = some true := by kernel_rfl
theorem k103 : Kd.ok Tryz.prog 103 .oth := one_of_map inf103 und103
theorem inf104 : (Tryz.prog.info? 104).map (fun i => i.size) = some 1 := by kernel_rfl
theorem und104 : (Tryz.prog.underlying 104).map flat = some true := by kernel_rfl
theorem k104 : Kd.ok Tryz.prog 104 .oth := one_of_map inf104 und104
theorem inf105 : (Tryz.prog.info? 105).map (fun i => i.size) = some 1 := by kernel_rfl
theorem und105 : (Tryz.prog.underlying 105).map flat = some true := by kernel_rfl
theorem k105 : Kd.ok Tryz.prog 105 .oth := one_of_map inf105 und105
theorem inf108 : (Tryz.prog.info? 108).map (fun i => i.size) = some 1 := by kernel_rfl
theorem und108 : (Tryz.prog.underlying 108).map flat = some true := by kernel_rfl
theorem k108 : Kd.ok Tryz.prog 108 .oth := one_of_map inf108 und108
theorem inf109 : (Tryz.prog.info? 109).map (fun i => i.size) = some 1 := by kernel_rfl
theorem und109 : Tryz.prog.underlying 109 = some (.interface (Tryz.prog.methodsAt 109)) := by kernel_rfl
theorem k109 : Kd.ok Tryz.prog 109 (.ifc) := ⟨und109, one_of inf109 und109⟩
theorem inf110 : (Tryz.prog.info? 110).map (fun i => i.size) = some 1 := by kernel_rfl
theorem und110 : Tryz.prog.underlying 110 = some (.interface (Tryz.prog.methodsAt 110)) := by kernel_rfl
theorem k110 : Kd.ok Tryz.prog 110 (.ifc) := ⟨und110, one_of inf110 und110⟩
theorem inf112 : (Tryz.prog.info? 112).map (fun i => i.size) = some 1 := by kernel_rfl
theorem und112 : (Tryz.prog.underlying 112).map flat = some true := by kernel_rfl
theorem k112 : Kd.ok Tryz.prog 112 .oth := one_of_map inf112 und112
theorem inf113 : (Tryz.prog.info? 113).map (fun i => i.size) = some 1 := by kernel_rfl
theorem und113 : (Tryz.prog.underlying 113).map flat = some true := by kernel_rfl
theorem k113 : Kd.ok Tryz.prog 113 .oth := one_of_map inf113 und113
theorem inf117 : (Tryz.prog.info? 117).map (fun i => i.size) = some 1 := by kernel_rfl
theorem und117 : (Tryz.prog.underlying 117).map flat = some true := by kernel_rfl
theorem k117 : Kd.ok Tryz.prog 117 .oth := one_of_map inf117 und117
theorem inf118 : (Tryz.prog.info? 118).map (fun i => i.size) = some 1 := by kernel_rfl
theorem und118 : (Tryz.prog.underlying 118).map flat = some true := by kernel_rfl
theorem k118 : Kd.ok Tryz.prog 118 .oth := one_of_map inf118 und118
theorem inf119 : (Tryz.prog.info? 119).map (fun i => i.size) = some 1 := by kernel_rfl
theorem und119 : (Tryz.prog.underlying 119).map flat = some true := by kernel_rfl
theorem k119 : Kd.ok Tryz.prog 119 .oth := one_of_map inf119 und119
theorem inf120 : (Tryz.prog.info? 120).map (fun i => i.size) = some 1 := by kernel_rfl
theorem und120 : (Tryz.prog.underlying 120).map flat = some true := by kernel_rfl
theorem k120 : Kd.ok Tryz.prog 120 .oth := one_of_map inf120 und120
theorem inf121 : (Tryz.prog.info? 121).map (fun i => i.size) = some 1 := by kernel_rfl
theorem und121 : (Tryz.prog.underlying 121).map flat = some true := by kernel_rfl
theorem k121 : Kd.ok Tryz.prog 121 .oth := one_of_map inf121 und121
theorem inf122 : (Tryz.prog.info? 122).map (fun i => i.size) = some 1 := by kernel_rfl
theorem und122 : (Tryz.prog.underlying 122).map flat = some true := by kernel_rfl
theorem k122 : Kd.ok Tryz.prog 122 .oth := one_of_map inf122 und122
theorem inf123 : (Tryz.prog.info? 123).map (fun i => i.size) = some 1 := by kernel_rfl
theorem und123 : (Tryz.prog.underlying 123).map flat = some true := by kernel_rfl
theorem k123 : Kd.ok Tryz.prog 123 .oth := one_of_map inf123 und123
theorem inf124 : (Tryz.prog.info? 124).map (fun i => i.size) = some 1 := by kernel_rfl
theorem und124 : Tryz.prog.underlying 124 = some (.slice 4) := by kernel_rfl
theorem elt124 : (Tryz.prog.info? 4).map (fun i => (i.zero, i.size, i.bytes)) = some (some (.bool false), 1, 1) := by kernel_rfl
theorem k124 : Kd.ok Tryz.prog 124 (.sl (.bool false)) := sl_of inf124 und124 elt124 (by decide) rfl rfl
theorem inf125 : (Tryz.prog.info? 125).map (fun i => i.size) = some 1 := by kernel_rfl
theorem und125 : (Tryz.prog.underlying 125).map flat = some true := by kernel_rfl
theorem k125 : Kd.ok Tryz.prog 125 .oth := one_of_map inf125 und125
theorem inf128 : (Tryz.prog.info? 128).map (fun i => i.size) = some 1 := by kernel_rfl
theorem und128 : (Tryz.prog.underlying 128).map flat = some true := by kernel_rfl
theorem k128 : Kd.ok Tryz.prog 128 .oth := one_of_map inf128 und128
theorem inf129 : (Tryz.prog.info? 129).map (fun i => i.size) = some 1 := by kernel_rfl
theorem und129 : Tryz.prog.underlying 129 = some (.slice 127) := by kernel_rfl
theorem own129 : (Tryz.prog.info? 129).map (fun i => i.zero) = some (some (.slice none 0 0)) := by kernel_rfl
theorem elt129 : (Tryz.prog.info? 127).map (fun i => (i.zero, i.size, i.bytes)) = some (some (.agg ([Value.int .i64 0, Value.int .i64 0, Value.int .i64 0, Value.int .i64 0] : List Value).toArray), 4, 32) := by kernel_rfl
theorem k129 : Kd.ok Tryz.prog 129 (.slw [Value.int .i64 0, Value.int .i64 0, Value.int .i64 0, Value.int .i64 0]) := slw_of inf129 own129 und129 elt129 (by decide) (by decide) (by intro z hz; simp only [List.mem_cons, List.not_mem_nil, or_false] at hz; rcases hz with rfl | rfl | rfl | rfl <;> rfl)
theorem inf130 : (Tryz.prog.info? 130).map (fun i => i.size) = some 1 := by kernel_rfl
theorem und130 : Tryz.prog.underlying 130 = some (.map 127 4) := by kernel_rfl
theorem own130 : (Tryz.prog.info? 130).map (fun i => i.zero) = some (some (.map none)) := by kernel_rfl
theorem val130 : (Tryz.prog.info? 4).map (fun i => i.zero) = some (some (.bool false)) := by kernel_rfl
theorem key130 : Tryz.prog.underlying 127 = some (.array 4 3) := by kernel_rfl
theorem kez130 : (Tryz.prog.info? 3).map (fun i => i.size) = some 1 := by kernel_rfl
theorem kei130 : Tryz.prog.underlying 3 = some (.int .i64) := by kernel_rfl
theorem k130 : Kd.ok Tryz.prog 130 (.keys false) := keys_arr inf130 own130 und130 val130 key130 kez130 kei130
theorem inf131 : (Tryz.prog.info? 131).map (fun i => i.size) = some 1 := by kernel_rfl
theorem und131 : (Tryz.prog.underlying 131).map flat = some true := by kernel_rfl
theorem k131 : Kd.ok Tryz.prog 131 .oth := one_of_map inf131 und131
theorem inf132 : (Tryz.prog.info? 132).map (fun i => i.size) = some 1 := by kernel_rfl
theorem und132 : Tryz.prog.underlying 132 = some (.int .i64) := by kernel_rfl
theorem k132 : Kd.ok Tryz.prog 132 (.int .i64) := ⟨und132, one_of inf132 und132⟩
theorem inf134 : (Tryz.prog.info? 134).map (fun i => i.size) = some 1 := by kernel_rfl
theorem und134 : (Tryz.prog.underlying 134).map flat = some true := by kernel_rfl
theorem k134 : Kd.ok Tryz.prog 134 .oth := one_of_map inf134 und134
theorem inf135 : (Tryz.prog.info? 135).map (fun i => i.size) = some 1 := by kernel_rfl
theorem und135 : (Tryz.prog.underlying 135).map flat = some true := by kernel_rfl
theorem k135 : Kd.ok Tryz.prog 135 .oth := one_of_map inf135 und135
theorem inf136 : (Tryz.prog.info? 136).map (fun i => i.size) = some 1 := by kernel_rfl
theorem und136 : (Tryz.prog.underlying 136).map flat = some true := by kernel_rfl
theorem k136 : Kd.ok Tryz.prog 136 .oth := one_of_map inf136 und136
theorem inf137 : (Tryz.prog.info? 137).map (fun i => i.size) = some 1 := by kernel_rfl
theorem und137 : (Tryz.prog.underlying 137).map flat = some true := by kernel_rfl
theorem k137 : Kd.ok Tryz.prog 137 .oth := one_of_map inf137 und137
theorem inf138 : (Tryz.prog.info? 138).map (fun i => i.size) = some 1 := by kernel_rfl
theorem und138 : (Tryz.prog.underlying 138).map flat = some true := by kernel_rfl
theorem k138 : Kd.ok Tryz.prog 138 .oth := one_of_map inf138 und138
theorem inf139 : (Tryz.prog.info? 139).map (fun i => i.size) = some 1 := by kernel_rfl
theorem und139 : Tryz.prog.underlying 139 = some (.int .u32) := by kernel_rfl
theorem k139 : Kd.ok Tryz.prog 139 (.int .u32) := ⟨und139, one_of inf139 und139⟩
theorem inf140 : (Tryz.prog.info? 140).map (fun i => i.size) = some 1 := by kernel_rfl
theorem und140 : (Tryz.prog.underlying 140).map flat = some true := by kernel_rfl
theorem k140 : Kd.ok Tryz.prog 140 .oth := one_of_map inf140 und140
theorem inf141 : (Tryz.prog.info? 141).map (fun i => i.size) = some 1 := by kernel_rfl
theorem und141 : Tryz.prog.underlying 141 = some (.int .u64) := by kernel_rfl
theorem k141 : Kd.ok Tryz.prog 141 (.int .u64) := ⟨und141, one_of inf141 und141⟩
theorem inf142 : (Tryz.prog.info? 142).map (fun i => i.size) = some 1 := by kernel_rfl
theorem und142 : (Tryz.prog.underlying 142).map flat = some true := by kernel_rfl
theorem k142 : Kd.ok Tryz.prog 142 .oth := one_of_map inf142 und142
theorem inf143 : (Tryz.prog.info? 143).map (fun i => i.size) = some 1 := by kernel_rfl
theorem und143 : (Tryz.prog.underlying 143).map flat = some true := by kernel_rfl
theorem k143 : Kd.ok Tryz.prog 143 .oth := one_of_map inf143 und143
theorem inf144 : (Tryz.prog.info? 144).map (fun i => i.size) = some 1 := by kernel_rfl
theorem und144 : (Tryz.prog.underlying 144).map flat = some true := by kernel_rfl
theorem k144 : Kd.ok Tryz.prog 144 .oth := one_of_map inf144 und144
theorem inf145 : (Tryz.prog.info? 145).map (fun i => i.size) = some 1 := by kernel_rfl
theorem und145 : (Tryz.prog.underlying 145).map flat = some true := by kernel_rfl
theorem k145 : Kd.ok Tryz.prog 145 .oth := one_of_map inf145 und145
theorem inf146 : (Tryz.prog.info? 146).map (fun i => i.size) = some 1 := by kernel_rfl
theorem und146 : (Tryz.prog.underlying 146).map flat = some true := by kernel_rfl
theorem k146 : Kd.ok Tryz.prog 146 .oth := one_of_map inf146 und146
theorem inf147 : (Tryz.prog.info? 147).map (fun i => i.size) = some 1 := by kernel_rfl
theorem und147 : (Tryz.prog.underlying 147).map flat = some true := by kernel_rfl
theorem k147 : Kd.ok Tryz.prog 147 .oth := one_of_map inf147 und147
theorem inf148 : (Tryz.prog.info? 148).map (fun i => i.size) = some 1 := by kernel_rfl
theorem und148 : (Tryz.prog.underlying 148).map flat = some true := by kernel_rfl
theorem k148 : Kd.ok Tryz.prog 148 .oth := one_of_map inf148 und148
theorem inf149 : (Tryz.prog.info? 149).map (fun i => i.size) = some 1 := by kernel_rfl
theorem und149 : (Tryz.prog.underlying 149).map flat = some true := by kernel_rfl
theorem k149 : Kd.ok Tryz.prog 149 .oth := one_of_map inf149 und149
theorem inf150 : (Tryz.prog.info? 150).map (fun i => i.size) = some 1 := by kernel_rfl
theorem und150 : (Tryz.prog.underlying 150).map flat = some true := by kernel_rfl
theorem k150 : Kd.ok Tryz.prog 150 .oth := one_of_map inf150 und150
theorem inf151 : (Tryz.prog.info? 151).map (fun i => i.size) = some 1 := by kernel_rfl
theorem und151 : (Tryz.prog.underlying 151).map flat = some true := by kernel_rfl
theorem k151 : Kd.ok Tryz.prog 151 .oth := one_of_map inf151 und151
theorem inf152 : (Tryz.prog.info? 152).map (fun i => i.size) = some 1 := by kernel_rfl
theorem und152 : (Tryz.prog.underlying 152).map flat = some true := by kernel_rfl
theorem k152 : Kd.ok Tryz.prog 152 .oth := one_of_map inf152 und152
theorem inf153 : (Tryz.prog.info? 153).map (fun i => i.size) = some 1 := by kernel_rfl
theorem und153 : (Tryz.prog.underlying 153).map flat = some true := by kernel_rfl
theorem k153 : Kd.ok Tryz.prog 153 .oth := one_of_map inf153 und153
theorem inf154 : (Tryz.prog.info? 154).map (fun i => i.size) = some 1 := by kernel_rfl
theorem und154 : Tryz.prog.underlying 154 = some (.int .u64) := by kernel_rfl
theorem k154 : Kd.ok Tryz.prog 154 (.int .u64) := ⟨und154, one_of inf154 und154⟩
theorem inf155 : (Tryz.prog.info? 155).map (fun i => i.size) = some 1 := by kernel_rfl
theorem und155 : (Tryz.prog.underlying 155).map flat = some true := by kernel_rfl
theorem k155 : Kd.ok Tryz.prog 155 .oth := one_of_map inf155 und155
theorem inf156 : (Tryz.prog.info? 156).map (fun i => i.size) = some 1 := by kernel_rfl
theorem und156 : (Tryz.prog.underlying 156).map flat = some true := by kernel_rfl
theorem k156 : Kd.ok Tryz.prog 156 .oth := one_of_map inf156 und156
theorem inf157 : (Tryz.prog.info? 157).map (fun i => i.size) = some 1 := by kernel_rfl
theorem und157 : (Tryz.prog.underlying 157).map flat = some true := by kernel_rfl
theorem k157 : Kd.ok Tryz.prog 157 .oth := one_of_map inf157 und157
theorem inf158 : (Tryz.prog.info? 158).map (fun i => i.size) = some 1 := by kernel_rfl
theorem und158 : (Tryz.prog.underlying 158).map flat = some true := by kernel_rfl
theorem k158 : Kd.ok Tryz.prog 158 .oth := one_of_map inf158 und158
theorem inf159 : (Tryz.prog.info? 159).map (fun i => i.size) = some 1 := by kernel_rfl
theorem und159 : (Tryz.prog.underlying 159).map flat = some true := by kernel_rfl
theorem k159 : Kd.ok Tryz.prog 159 .oth := one_of_map inf159 und159
theorem inf160 : (Tryz.prog.info? 160).map (fun i => i.size) = some 1 := by kernel_rfl
theorem und160 : Tryz.prog.underlying 160 = some (.slice 163) := by kernel_rfl
theorem own160 : (Tryz.prog.info? 160).map (fun i => i.zero) = some (some (.slice none 0 0)) := by kernel_rfl
theorem elt160 : (Tryz.prog.info? 163).map (fun i => (i.zero, i.size, i.bytes)) = some (some (.agg ([Value.slice none 0 0, Value.slice none 0 0] : List Value).toArray), 2, 48) := by kernel_rfl
theorem k160 : Kd.ok Tryz.prog 160 (.slw [Value.slice none 0 0, Value.slice none 0 0]) := slw_of inf160 own160 und160 elt160 (by decide) (by decide) (by intro z hz; simp only [List.mem_cons, List.not_mem_nil, or_false] at hz; rcases hz with rfl | rfl <;> rfl)
theorem inf161 : (Tryz.prog.info? 161).map (fun i => i.size) = some 1 := by kernel_rfl
theorem und161 : Tryz.prog.underlying 161 = some (.map 126 4) := by kernel_rfl
theorem own161 : (Tryz.prog.info? 161).map (fun i => i.zero) = some (some (.map none)) := by kernel_rfl
theorem val161 : (Tryz.prog.info? 4).map (fun i => i.zero) = some (some (.bool false)) := by kernel_rfl
theorem key161 : Tryz.prog.underlying 126 = some (.array 4 3) := by kernel_rfl
theorem kez161 : (Tryz.prog.info? 3).map (fun i => i.size) = some 1 := by kernel_rfl
theorem kei161 : Tryz.prog.underlying 3 = some (.int .i64) := by kernel_rfl
theorem k161 : Kd.ok Tryz.prog 161 (.keys false) := keys_arr inf161 own161 und161 val161 key161 kez161 kei161
theorem inf164 : (Tryz.prog.info? 164).map (fun i => i.size) = some 1 := by kernel_rfl
theorem und164 : (Tryz.prog.underlying 164).map flat = some true := by kernel_rfl
theorem k164 : Kd.ok Tryz.prog 164 .oth := one_of_map inf164 und164
theorem inf165 : (Tryz.prog.info? 165).map (fun i => i.size) = some 1 := by kernel_rfl
theorem und165 : (Tryz.prog.underlying 165).map flat = some true := by kernel_rfl
theorem k165 : Kd.ok Tryz.prog 165 .oth := one_of_map inf165 und165
theorem inf166 : (Tryz.prog.info? 166).map (fun i => i.size) = some 1 := by kernel_rfl
theorem und166 : (Tryz.prog.underlying 166).map flat = some true := by kernel_rfl
theorem k166 : Kd.ok Tryz.prog 166 .oth := one_of_map inf166 und166
theorem inf168 : (Tryz.prog.info? 168).map (fun i => i.size) = some 1 := by kernel_rfl
theorem und168 : (Tryz.prog.underlying 168).map flat = some true := by kernel_rfl
theorem k168 : Kd.ok Tryz.prog 168 .oth := one_of_map inf168 und168
theorem inf169 : (Tryz.prog.info? 169).map (fun i => i.size) = some 1 := by kernel_rfl
theorem und169 : (Tryz.prog.underlying 169).map flat = some true := by kernel_rfl
theorem k169 : Kd.ok Tryz.prog 169 .oth := one_of_map inf169 und169
theorem inf170 : (Tryz.prog.info? 170).map (fun i => i.size) = some 1 := by kernel_rfl
theorem und170 : (Tryz.prog.underlying 170).map flat = some true := by kernel_rfl
theorem k170 : Kd.ok Tryz.prog 170 .oth := one_of_map inf170 und170
theorem inf171 : (Tryz.prog.info? 171).map (fun i => i.size) = some 1 := by kernel_rfl
theorem und171 : (Tryz.prog.underlying 171).map flat = some true := by kernel_rfl
theorem k171 : Kd.ok Tryz.prog 171 .oth := one_of_map inf171 und171
theorem inf173 : (Tryz.prog.info? 173).map (fun i => i.size) = some 1 := by kernel_rfl
theorem und173 : (Tryz.prog.underlying 173).map flat = some true := by kernel_rfl
theorem k173 : Kd.ok Tryz.prog 173 .oth := one_of_map inf173 und173
theorem inf174 : (Tryz.prog.info? 174).map (fun i => i.size) = some 1 := by kernel_rfl
theorem und174 : (Tryz.prog.underlying 174).map flat = some true := by kernel_rfl
theorem k174 : Kd.ok Tryz.prog 174 .oth := one_of_map inf174 und174
theorem inf175 : (Tryz.prog.info? 175).map (fun i => i.size) = some 1 := by kernel_rfl
theorem und175 : (Tryz.prog.underlying 175).map flat = some true := by kernel_rfl
theorem k175 : Kd.ok Tryz.prog 175 .oth := one_of_map inf175 und175
theorem inf176 : (Tryz.prog.info? 176).map (fun i => i.size) = some 1 := by kernel_rfl
theorem und176 : (Tryz.prog.underlying 176).map flat = some true := by kernel_rfl
theorem k176 : Kd.ok Tryz.prog 176 .oth := one_of_map inf176 und176
theorem inf177 : (Tryz.prog.info? 177).map (fun i => i.size) = some 1 := by kernel_rfl
theorem und177 : (Tryz.prog.underlying 177).map flat = some true := by kernel_rfl
theorem k177 : Kd.ok Tryz.prog 177 .oth := one_of_map inf177 und177
theorem inf178 : (Tryz.prog.info? 178).map (fun i => i.size) = some 1 := by kernel_rfl
theorem und178 : (Tryz.prog.underlying 178).map flat = some true := by kernel_rfl
theorem k178 : Kd.ok Tryz.prog 178 .oth := one_of_map inf178 und178
theorem inf179 : (Tryz.prog.info? 179).map (fun i => i.size) = some 1 := by kernel_rfl
theorem und179 : (Tryz.prog.underlying 179).map flat = some true := by kernel_rfl
theorem k179 : Kd.ok Tryz.prog 179 .oth := one_of_map inf179 und179
theorem inf180 : (Tryz.prog.info? 180).map (fun i => i.size) = some 1 := by kernel_rfl
theorem und180 : (Tryz.prog.underlying 180).map flat = some true := by kernel_rfl
theorem k180 : Kd.ok Tryz.prog 180 .oth := one_of_map inf180 und180
theorem inf181 : (Tryz.prog.info? 181).map (fun i => i.size) = some 1 := by kernel_rfl
theorem und181 : (Tryz.prog.underlying 181).map flat = some true := by kernel_rfl
theorem k181 : Kd.ok Tryz.prog 181 .oth := one_of_map inf181 und181
theorem inf183 : (Tryz.prog.info? 183).map (fun i => i.size) = some 1 := by kernel_rfl
theorem und183 : (Tryz.prog.underlying 183).map flat = some true := by kernel_rfl
theorem k183 : Kd.ok Tryz.prog 183 .oth := one_of_map inf183 und183
theorem inf184 : (Tryz.prog.info? 184).map (fun i => i.size) = some 1 := by kernel_rfl
theorem und184 : (Tryz.prog.underlying 184).map flat = some true := by kernel_rfl
theorem k184 : Kd.ok Tryz.prog 184 .oth := one_of_map inf184 und184
theorem inf185 : (Tryz.prog.info? 185).map (fun i => i.size) = some 1 := by kernel_rfl
theorem und185 : (Tryz.prog.underlying 185).map flat = some true := by kernel_rfl
theorem k185 : Kd.ok Tryz.prog 185 .oth := one_of_map inf185 und185
theorem inf186 : (Tryz.prog.info? 186).map (fun i => i.size) = some 1 := by kernel_rfl
theorem und186 : Tryz.prog.underlying 186 = some (.int .i64) := by kernel_rfl
theorem k186 : Kd.ok Tryz.prog 186 (.int .i64) := ⟨und186, one_of inf186 und186⟩
theorem inf188 : (Tryz.prog.info? 188).map (fun i => i.size) = some 1 := by kernel_rfl
theorem und188 : (Tryz.prog.underlying 188).map flat = some true := by kernel_rfl
theorem k188 : Kd.ok Tryz.prog 188 .oth := one_of_map inf188 und188
theorem inf189 : (Tryz.prog.info? 189).map (fun i => i.size) = some 1 := by kernel_rfl
theorem und189 : (Tryz.prog.underlying 189).map flat = some true := by kernel_rfl
theorem k189 : Kd.ok Tryz.prog 189 .oth := one_of_map inf189 und189
theorem inf190 : (Tryz.prog.info? 190).map (fun i => i.size) = some 1 := by kernel_rfl
theorem und190 : (Tryz.prog.underlying 190).map flat = some true := by kernel_rfl
theorem k190 : Kd.ok Tryz.prog 190 .oth := one_of_map inf190 und190
theorem inf191 : (Tryz.prog.info? 191).map (fun i => i.size) = some 1 := by kernel_rfl
theorem und191 : (Tryz.prog.underlying 191).map flat = some true := by kernel_rfl
theorem k191 : Kd.ok Tryz.prog 191 .oth := one_of_map inf191 und191
theorem inf192 : (Tryz.prog.info? 192).map (fun i => i.size) = some 1 := by kernel_rfl
theorem und192 : (Tryz.prog.underlying 192).map flat = some true := by kernel_rfl
theorem k192 : Kd.ok Tryz.prog 192 .oth := one_of_map inf192 und192
theorem inf193 : (Tryz.prog.info? 193).map (fun i => i.size) = some 1 := by kernel_rfl
theorem und193 : (Tryz.prog.underlying 193).map flat = some true := by kernel_rfl
theorem k193 : Kd.ok Tryz.prog 193 .oth := one_of_map inf193 und193
theorem inf194 : (Tryz.prog.info? 194).map (fun i => i.size) = some 1 := by kernel_rfl
theorem und194 : (Tryz.prog.underlying 194).map flat = some true := by kernel_rfl
theorem k194 : Kd.ok Tryz.prog 194 .oth := one_of_map inf194 und194
theorem inf195 : (Tryz.prog.info? 195).map (fun i => i.size) = some 1 := by kernel_rfl
theorem und195 : (Tryz.prog.underlying 195).map flat = some true := by kernel_rfl
theorem k195 : Kd.ok Tryz.prog 195 .oth := one_of_map inf195 und195
theorem inf196 : (Tryz.prog.info? 196).map (fun i => i.size) = some 1 := by kernel_rfl
theorem und196 : (Tryz.prog.underlying 196).map flat = some true := by kernel_rfl
theorem k196 : Kd.ok Tryz.prog 196 .oth := one_of_map inf196 und196
theorem inf197 : (Tryz.prog.info? 197).map (fun i => i.size) = some 1 := by kernel_rfl
theorem und197 : (Tryz.prog.underlying 197).map flat = some true := by kernel_rfl
theorem k197 : Kd.ok Tryz.prog 197 .oth := one_of_map inf197 und197
theorem inf198 : (Tryz.prog.info? 198).map (fun i => i.size) = some 1 := by kernel_rfl
theorem und198 : (Tryz.prog.underlying 198).map flat = some true := by kernel_rfl
theorem k198 : Kd.ok Tryz.prog 198 .oth := one_of_map inf198 und198
theorem inf199 : (Tryz.prog.info? 199).map (fun i => i.size) = some 1 := by kernel_rfl
theorem und199 : (Tryz.prog.underlying 199).map flat = some true := by kernel_rfl
theorem k199 : Kd.ok Tryz.prog 199 .oth := one_of_map inf199 und199
theorem inf201 : (Tryz.prog.info? 201).map (fun i => i.size) = some 1 := by kernel_rfl
theorem und201 : (Tryz.prog.underlying 201).map flat = some true := by kernel_rfl
theorem k201 : Kd.ok Tryz.prog 201 .oth := one_of_map inf201 und201
theorem inf203 : (Tryz.prog.info? 203).map (fun i => i.size) = some 1 := by kernel_rfl
theorem und203 : (Tryz.prog.underlying 203).map flat = some true := by kernel_rfl
theorem k203 : Kd.ok Tryz.prog 203 .oth := one_of_map inf203 und203
theorem inf205 : (Tryz.prog.info? 205).map (fun i => i.size) = some 1 := by kernel_rfl
theorem und205 : (Tryz.prog.underlying 205).map flat = some true := by kernel_rfl
theorem k205 : Kd.ok Tryz.prog 205 .oth := one_of_map inf205 und205
theorem inf206 : (Tryz.prog.info? 206).map (fun i => i.size) = some 1 := by kernel_rfl
theorem und206 : (Tryz.prog.underlying 206).map flat = some true := by kernel_rfl
theorem k206 : Kd.ok Tryz.prog 206 .oth := one_of_map inf206 und206
theorem inf209 : (Tryz.prog.info? 209).map (fun i => i.size) = some 1 := by kernel_rfl
theorem und209 : (Tryz.prog.underlying 209).map flat = some true := by kernel_rfl
theorem k209 : Kd.ok Tryz.prog 209 .oth := one_of_map inf209 und209
theorem inf215 : (Tryz.prog.info? 215).map (fun i => i.size) = some 1 := by kernel_rfl
theorem und215 : (Tryz.prog.underlying 215).map flat = some true := by kernel_rfl
theorem k215 : Kd.ok Tryz.prog 215 .oth := one_of_map inf215 und215
theorem inf216 : (Tryz.prog.info? 216).map (fun i => i.size) = some 1 := by kernel_rfl
theorem und216 : (Tryz.prog.underlying 216).map flat = some true := by kernel_rfl
theorem k216 : Kd.ok Tryz.prog 216 .oth := one_of_map inf216 und216
theorem inf217 : (Tryz.prog.info? 217).map (fun i => i.size) = some 1 := by kernel_rfl
theorem und217 : (Tryz.prog.underlying 217).map flat = some true := by kernel_rfl
theorem k217 : Kd.ok Tryz.prog 217 .oth := one_of_map inf217 und217
theorem inf218 : (Tryz.prog.info? 218).map (fun i => i.size) = some 1 := by kernel_rfl
theorem und218 : (Tryz.prog.underlying 218).map flat = some true := by kernel_rfl
theorem k218 : Kd.ok Tryz.prog 218 .oth := one_of_map inf218 und218
theorem inf219 : (Tryz.prog.info? 219).map (fun i => i.size) = some 1 := by kernel_rfl
theorem und219 : (Tryz.prog.underlying 219).map flat = some true := by kernel_rfl
theorem k219 : Kd.ok Tryz.prog 219 .oth := one_of_map inf219 und219
theorem inf222 : (Tryz.prog.info? 222).map (fun i => i.size) = some 1 := by kernel_rfl
theorem und222 : (Tryz.prog.underlying 222).map flat = some true := by kernel_rfl
theorem k222 : Kd.ok Tryz.prog 222 .oth := one_of_map inf222 und222
theorem inf223 : (Tryz.prog.info? 223).map (fun i => i.size) = some 1 := by kernel_rfl
theorem und223 : (Tryz.prog.underlying 223).map flat = some true := by kernel_rfl
theorem k223 : Kd.ok Tryz.prog 223 .oth := one_of_map inf223 und223
theorem inf224 : (Tryz.prog.info? 224).map (fun i => i.size) = some 1 := by kernel_rfl
theorem und224 : (Tryz.prog.underlying 224).map flat = some true := by kernel_rfl
theorem k224 : Kd.ok Tryz.prog 224 .oth := one_of_map inf224 und224
theorem inf227 : (Tryz.prog.info? 227).map (fun i => i.size) = some 1 := by kernel_rfl
theorem und227 : (Tryz.prog.underlying 227).map flat = some true := by kernel_rfl
theorem k227 : Kd.ok Tryz.prog 227 .oth := one_of_map inf227 und227
theorem inf235 : (Tryz.prog.info? 235).map (fun i => i.size) = some 1 := by kernel_rfl
theorem und235 : (Tryz.prog.underlying 235).map flat = some true := by kernel_rfl
theorem k235 : Kd.ok Tryz.prog 235 .oth := one_of_map inf235 und235
theorem inf236 : (Tryz.prog.info? 236).map (fun i => i.size) = some 1 := by kernel_rfl
theorem und236 : Tryz.prog.underlying 236 = some (.int .u8) := by kernel_rfl
theorem k236 : Kd.ok Tryz.prog 236 (.int .u8) := ⟨und236, one_of inf236 und236⟩
theorem inf237 : (Tryz.prog.info? 237).map (fun i => i.size) = some 1 := by kernel_rfl
theorem und237 : Tryz.prog.underlying 237 = some (.int .u8) := by kernel_rfl
theorem k237 : Kd.ok Tryz.prog 237 (.int .u8) := ⟨und237, one_of inf237 und237⟩
theorem inf238 : (Tryz.prog.info? 238).map (fun i => i.size) = some 1 := by kernel_rfl
theorem und238 : (Tryz.prog.underlying 238).map flat = some true := by kernel_rfl
theorem k238 : Kd.ok Tryz.prog 238 .oth := one_of_map inf238 und238
theorem inf239 : (Tryz.prog.info? 239).map (fun i => i.size) = some 1 := by kernel_rfl
theorem und239 : Tryz.prog.underlying 239 = some (.int .i32) := by kernel_rfl
theorem k239 : Kd.ok Tryz.prog 239 (.int .i32) := ⟨und239, one_of inf239 und239⟩
theorem inf240 : (Tryz.prog.info? 240).map (fun i => i.size) = some 1 := by kernel_rfl
theorem und240 : Tryz.prog.underlying 240 = some (.int .i32) := by kernel_rfl
theorem k240 : Kd.ok Tryz.prog 240 (.int .i32) := ⟨und240, one_of inf240 und240⟩
theorem und114 : (Tryz.prog.underlying 114).map fieldsOf = some (some [(0, 34), (1, 3), (2, 3)]) := by kernel_rfl
theorem inf114 : (Tryz.prog.info? 114).map (fun i => (i.zero, i.size)) = some (some (.agg ([Value.slice none 0 0, Value.int .i64 0, Value.int .i64 0] : List Value).toArray), 3) := by kernel_rfl
theorem k114 : Kd.ok Tryz.prog 114 (.rcd [Value.slice none 0 0, Value.int .i64 0, Value.int .i64 0]) := rcd_of und114 inf114 rfl (⟨rfl, Kd.ok_one k34 rfl, ⟨rfl, Kd.ok_one k3 rfl, ⟨rfl, Kd.ok_one k3 rfl, trivial⟩⟩⟩) (by intro z hz; simp only [List.mem_cons, List.not_mem_nil, or_false] at hz; rcases hz with rfl | rfl | rfl <;> rfl)
theorem und115 : (Tryz.prog.underlying 115).map fieldsOf = some (some [(0, 34), (1, 3), (2, 3)]) := by kernel_rfl
theorem inf115 : (Tryz.prog.info? 115).map (fun i => (i.zero, i.size)) = some (some (.agg ([Value.slice none 0 0, Value.int .i64 0, Value.int .i64 0] : List Value).toArray), 3) := by kernel_rfl
theorem k115 : Kd.ok Tryz.prog 115 (.rcd [Value.slice none 0 0, Value.int .i64 0, Value.int .i64 0]) := rcd_of und115 inf115 rfl (⟨rfl, Kd.ok_one k34 rfl, ⟨rfl, Kd.ok_one k3 rfl, ⟨rfl, Kd.ok_one k3 rfl, trivial⟩⟩⟩) (by intro z hz; simp only [List.mem_cons, List.not_mem_nil, or_false] at hz; rcases hz with rfl | rfl | rfl <;> rfl)
theorem und162 : (Tryz.prog.underlying 162).map fieldsOf = some (some [(0, 30), (1, 30)]) := by kernel_rfl
theorem inf162 : (Tryz.prog.info? 162).map (fun i => (i.zero, i.size)) = some (some (.agg ([Value.slice none 0 0, Value.slice none 0 0] : List Value).toArray), 2) := by kernel_rfl
theorem k162 : Kd.ok Tryz.prog 162 (.rcd [Value.slice none 0 0, Value.slice none 0 0]) := rcd_of und162 inf162 rfl (⟨rfl, Kd.ok_one k30 rfl, ⟨rfl, Kd.ok_one k30 rfl, trivial⟩⟩) (by intro z hz; simp only [List.mem_cons, List.not_mem_nil, or_false] at hz; rcases hz with rfl | rfl <;> rfl)
theorem und163 : (Tryz.prog.underlying 163).map fieldsOf = some (some [(0, 30), (1, 30)]) := by kernel_rfl
theorem inf163 : (Tryz.prog.info? 163).map (fun i => (i.zero, i.size)) = some (some (.agg ([Value.slice none 0 0, Value.slice none 0 0] : List Value).toArray), 2) := by kernel_rfl
theorem k163 : Kd.ok Tryz.prog 163 (.rcd [Value.slice none 0 0, Value.slice none 0 0]) := rcd_of und163 inf163 rfl (⟨rfl, Kd.ok_one k30 rfl, ⟨rfl, Kd.ok_one k30 rfl, trivial⟩⟩) (by intro z hz; simp only [List.mem_cons, List.not_mem_nil, or_false] at hz; rcases hz with rfl | rfl <;> rfl)
theorem und126 : Tryz.prog.underlying 126 = some (.array 4 3) := by kernel_rfl
theorem inf126 : (Tryz.prog.info? 126).map (fun i => (i.zero, i.size)) = some (some (.agg (Array.replicate 4 (Value.int .i64 0))), 4) := by kernel_rfl
theorem elt126 : (Tryz.prog.info? 3).map (fun i => i.size) = some 1 := by kernel_rfl
theorem k126 : Kd.ok Tryz.prog 126 (.arr 4 (Value.int .i64 0)) := arr_of und126 inf126 elt126 k3 rfl rfl
theorem und127 : Tryz.prog.underlying 127 = some (.array 4 3) := by kernel_rfl
theorem inf127 : (Tryz.prog.info? 127).map (fun i => (i.zero, i.size)) = some (some (.agg (Array.replicate 4 (Value.int .i64 0))), 4) := by kernel_rfl
theorem elt127 : (Tryz.prog.info? 3).map (fun i => i.size) = some 1 := by kernel_rfl
theorem k127 : Kd.ok Tryz.prog 127 (.arr 4 (Value.int .i64 0)) := arr_of und127 inf127 elt127 k3 rfl rfl
theorem und200 : Tryz.prog.underlying 200 = some (.array 24 5) := by kernel_rfl
theorem inf200 : (Tryz.prog.info? 200).map (fun i => (i.zero, i.size)) = some (some (.agg (Array.replicate 24 (Value.int .u8 0))), 24) := by kernel_rfl
theorem elt200 : (Tryz.prog.info? 5).map (fun i => i.size) = some 1 := by kernel_rfl
theorem k200 : Kd.ok Tryz.prog 200 (.arr 24 (Value.int .u8 0)) := arr_of und200 inf200 elt200 k5 rfl rfl
theorem und220 : Tryz.prog.underlying 220 = some (.array 20 141) := by kernel_rfl
theorem inf220 : (Tryz.prog.info? 220).map (fun i => (i.zero, i.size)) = some (some (.agg (Array.replicate 20 (Value.int .u64 0))), 20) := by kernel_rfl
theorem elt220 : (Tryz.prog.info? 141).map (fun i => i.size) = some 1 := by kernel_rfl
theorem k220 : Kd.ok Tryz.prog 220 (.arr 20 (Value.int .u64 0)) := arr_of und220 inf220 elt220 k141 rfl rfl
theorem und228 : Tryz.prog.underlying 228 = some (.array 32 5) := by kernel_rfl
theorem inf228 : (Tryz.prog.info? 228).map (fun i => (i.zero, i.size)) = some (some (.agg (Array.replicate 32 (Value.int .u8 0))), 32) := by kernel_rfl
theorem elt228 : (Tryz.prog.info? 5).map (fun i => i.size) = some 1 := by kernel_rfl
theorem k228 : Kd.ok Tryz.prog 228 (.arr 32 (Value.int .u8 0)) := arr_of und228 inf228 elt228 k5 rfl rfl
theorem und229 : Tryz.prog.underlying 229 = some (.array 64 5) := by kernel_rfl
theorem inf229 : (Tryz.prog.info? 229).map (fun i => (i.zero, i.size)) = some (some (.agg (Array.replicate 64 (Value.int .u8 0))), 64) := by kernel_rfl
theorem elt229 : (Tryz.prog.info? 5).map (fun i => i.size) = some 1 := by kernel_rfl
theorem k229 : Kd.ok Tryz.prog 229 (.arr 64 (Value.int .u8 0)) := arr_of und229 inf229 elt229 k5 rfl rfl

/-- The kinds of the types, by their numbers. -/
def kd (t : TypeId) : Kd :=
  bif Nat.beq t 1 then .oth else bif Nat.beq t 2 then .int .i64 else bif Nat.beq t 3 then .int .i64 else bif Nat.beq t 4 then .bool else bif Nat.beq t 5 then .int .u8 else bif Nat.beq t 6 then .int .u8 else bif Nat.beq t 9 then .str else bif Nat.beq t 10 then .str else bif Nat.beq t 11 then .str else bif Nat.beq t 12 then .int .u64 else bif Nat.beq t 15 then .oth else bif Nat.beq t 16 then .oth else bif Nat.beq t 17 then .oth else bif Nat.beq t 20 then .ifc else bif Nat.beq t 21 then .int .i32 else bif Nat.beq t 22 then .sl (.slice none 0 0) else bif Nat.beq t 23 then .oth else bif Nat.beq t 24 then .oth else bif Nat.beq t 25 then .oth else bif Nat.beq t 26 then .oth else bif Nat.beq t 27 then .oth else bif Nat.beq t 29 then .oth else bif Nat.beq t 30 then .sl (.int .i64 0) else bif Nat.beq t 31 then .oth else bif Nat.beq t 32 then .oth else bif Nat.beq t 33 then .oth else bif Nat.beq t 34 then .sl (.int .u8 0) else bif Nat.beq t 35 then .oth else bif Nat.beq t 37 then .oth else bif Nat.beq t 38 then .oth else bif Nat.beq t 39 then .oth else bif Nat.beq t 41 then .oth else bif Nat.beq t 42 then .oth else bif Nat.beq t 43 then .oth else bif Nat.beq t 45 then .oth else bif Nat.beq t 47 then .oth else bif Nat.beq t 48 then .oth else bif Nat.beq t 49 then .oth else bif Nat.beq t 51 then .oth else bif Nat.beq t 52 then .oth else bif Nat.beq t 53 then .oth else bif Nat.beq t 54 then .oth else bif Nat.beq t 55 then .oth else bif Nat.beq t 56 then .oth else bif Nat.beq t 57 then .oth else bif Nat.beq t 58 then .oth else bif Nat.beq t 60 then .oth else bif Nat.beq t 62 then .oth else bif Nat.beq t 64 then .oth else bif Nat.beq t 65 then .oth else bif Nat.beq t 66 then .oth else bif Nat.beq t 67 then .oth else bif Nat.beq t 68 then .oth else bif Nat.beq t 69 then .oth else bif Nat.beq t 70 then .oth else bif Nat.beq t 71 then .oth else bif Nat.beq t 72 then .oth else bif Nat.beq t 73 then .oth else bif Nat.beq t 74 then .oth else bif Nat.beq t 75 then .oth else bif Nat.beq t 76 then .oth else bif Nat.beq t 77 then .sl (.string ByteArray.empty) else bif Nat.beq t 78 then .oth else bif Nat.beq t 79 then .oth else bif Nat.beq t 80 then .oth else bif Nat.beq t 81 then .oth else bif Nat.beq t 82 then .oth else bif Nat.beq t 83 then .oth else bif Nat.beq t 84 then .oth else bif Nat.beq t 85 then .oth else bif Nat.beq t 86 then .oth else bif Nat.beq t 87 then .oth else bif Nat.beq t 88 then .oth else bif Nat.beq t 89 then .oth else bif Nat.beq t 90 then .oth else bif Nat.beq t 91 then .oth else bif Nat.beq t 92 then .oth else bif Nat.beq t 93 then .oth else bif Nat.beq t 94 then .oth else bif Nat.beq t 95 then .oth else bif Nat.beq t 96 then .oth else bif Nat.beq t 97 then .oth else bif Nat.beq t 98 then .oth else bif Nat.beq t 99 then .int .u64 else bif Nat.beq t 100 then .oth else bif Nat.beq t 101 then .oth else bif Nat.beq t 102 then .oth else bif Nat.beq t 103 then .oth else bif Nat.beq t 104 then .oth else bif Nat.beq t 105 then .oth else bif Nat.beq t 108 then .oth else bif Nat.beq t 109 then .ifc else bif Nat.beq t 110 then .ifc else bif Nat.beq t 112 then .oth else bif Nat.beq t 113 then .oth else bif Nat.beq t 117 then .oth else bif Nat.beq t 118 then .oth else bif Nat.beq t 119 then .oth else bif Nat.beq t 120 then .oth else bif Nat.beq t 121 then .oth else bif Nat.beq t 122 then .oth else bif Nat.beq t 123 then .oth else bif Nat.beq t 124 then .sl (.bool false) else bif Nat.beq t 125 then .oth else bif Nat.beq t 128 then .oth else bif Nat.beq t 129 then .slw [Value.int .i64 0, Value.int .i64 0, Value.int .i64 0, Value.int .i64 0] else bif Nat.beq t 130 then .keys false else bif Nat.beq t 131 then .oth else bif Nat.beq t 132 then .int .i64 else bif Nat.beq t 134 then .oth else bif Nat.beq t 135 then .oth else bif Nat.beq t 136 then .oth else bif Nat.beq t 137 then .oth else bif Nat.beq t 138 then .oth else bif Nat.beq t 139 then .int .u32 else bif Nat.beq t 140 then .oth else bif Nat.beq t 141 then .int .u64 else bif Nat.beq t 142 then .oth else bif Nat.beq t 143 then .oth else bif Nat.beq t 144 then .oth else bif Nat.beq t 145 then .oth else bif Nat.beq t 146 then .oth else bif Nat.beq t 147 then .oth else bif Nat.beq t 148 then .oth else bif Nat.beq t 149 then .oth else bif Nat.beq t 150 then .oth else bif Nat.beq t 151 then .oth else bif Nat.beq t 152 then .oth else bif Nat.beq t 153 then .oth else bif Nat.beq t 154 then .int .u64 else bif Nat.beq t 155 then .oth else bif Nat.beq t 156 then .oth else bif Nat.beq t 157 then .oth else bif Nat.beq t 158 then .oth else bif Nat.beq t 159 then .oth else bif Nat.beq t 160 then .slw [Value.slice none 0 0, Value.slice none 0 0] else bif Nat.beq t 161 then .keys false else bif Nat.beq t 164 then .oth else bif Nat.beq t 165 then .oth else bif Nat.beq t 166 then .oth else bif Nat.beq t 168 then .oth else bif Nat.beq t 169 then .oth else bif Nat.beq t 170 then .oth else bif Nat.beq t 171 then .oth else bif Nat.beq t 173 then .oth else bif Nat.beq t 174 then .oth else bif Nat.beq t 175 then .oth else bif Nat.beq t 176 then .oth else bif Nat.beq t 177 then .oth else bif Nat.beq t 178 then .oth else bif Nat.beq t 179 then .oth else bif Nat.beq t 180 then .oth else bif Nat.beq t 181 then .oth else bif Nat.beq t 183 then .oth else bif Nat.beq t 184 then .oth else bif Nat.beq t 185 then .oth else bif Nat.beq t 186 then .int .i64 else bif Nat.beq t 188 then .oth else bif Nat.beq t 189 then .oth else bif Nat.beq t 190 then .oth else bif Nat.beq t 191 then .oth else bif Nat.beq t 192 then .oth else bif Nat.beq t 193 then .oth else bif Nat.beq t 194 then .oth else bif Nat.beq t 195 then .oth else bif Nat.beq t 196 then .oth else bif Nat.beq t 197 then .oth else bif Nat.beq t 198 then .oth else bif Nat.beq t 199 then .oth else bif Nat.beq t 201 then .oth else bif Nat.beq t 203 then .oth else bif Nat.beq t 205 then .oth else bif Nat.beq t 206 then .oth else bif Nat.beq t 209 then .oth else bif Nat.beq t 215 then .oth else bif Nat.beq t 216 then .oth else bif Nat.beq t 217 then .oth else bif Nat.beq t 218 then .oth else bif Nat.beq t 219 then .oth else bif Nat.beq t 222 then .oth else bif Nat.beq t 223 then .oth else bif Nat.beq t 224 then .oth else bif Nat.beq t 227 then .oth else bif Nat.beq t 235 then .oth else bif Nat.beq t 236 then .int .u8 else bif Nat.beq t 237 then .int .u8 else bif Nat.beq t 238 then .oth else bif Nat.beq t 239 then .int .i32 else bif Nat.beq t 240 then .int .i32 else bif Nat.beq t 114 then .rcd [Value.slice none 0 0, Value.int .i64 0, Value.int .i64 0] else bif Nat.beq t 115 then .rcd [Value.slice none 0 0, Value.int .i64 0, Value.int .i64 0] else bif Nat.beq t 162 then .rcd [Value.slice none 0 0, Value.slice none 0 0] else bif Nat.beq t 163 then .rcd [Value.slice none 0 0, Value.slice none 0 0] else bif Nat.beq t 126 then .arr 4 (Value.int .i64 0) else bif Nat.beq t 127 then .arr 4 (Value.int .i64 0) else bif Nat.beq t 200 then .arr 24 (Value.int .u8 0) else bif Nat.beq t 220 then .arr 20 (Value.int .u64 0) else bif Nat.beq t 228 then .arr 32 (Value.int .u8 0) else bif Nat.beq t 229 then .arr 64 (Value.int .u8 0) else .no

theorem kd_ok (t : TypeId) : Kd.ok Tryz.prog t (kd t) := by
  unfold kd
  by_cases h1 : t = 1
  · subst h1; exact k1
  rw [beq_ne h1, cond_false]
  by_cases h2 : t = 2
  · subst h2; exact k2
  rw [beq_ne h2, cond_false]
  by_cases h3 : t = 3
  · subst h3; exact k3
  rw [beq_ne h3, cond_false]
  by_cases h4 : t = 4
  · subst h4; exact k4
  rw [beq_ne h4, cond_false]
  by_cases h5 : t = 5
  · subst h5; exact k5
  rw [beq_ne h5, cond_false]
  by_cases h6 : t = 6
  · subst h6; exact k6
  rw [beq_ne h6, cond_false]
  by_cases h9 : t = 9
  · subst h9; exact k9
  rw [beq_ne h9, cond_false]
  by_cases h10 : t = 10
  · subst h10; exact k10
  rw [beq_ne h10, cond_false]
  by_cases h11 : t = 11
  · subst h11; exact k11
  rw [beq_ne h11, cond_false]
  by_cases h12 : t = 12
  · subst h12; exact k12
  rw [beq_ne h12, cond_false]
  by_cases h15 : t = 15
  · subst h15; exact k15
  rw [beq_ne h15, cond_false]
  by_cases h16 : t = 16
  · subst h16; exact k16
  rw [beq_ne h16, cond_false]
  by_cases h17 : t = 17
  · subst h17; exact k17
  rw [beq_ne h17, cond_false]
  by_cases h20 : t = 20
  · subst h20; exact k20
  rw [beq_ne h20, cond_false]
  by_cases h21 : t = 21
  · subst h21; exact k21
  rw [beq_ne h21, cond_false]
  by_cases h22 : t = 22
  · subst h22; exact k22
  rw [beq_ne h22, cond_false]
  by_cases h23 : t = 23
  · subst h23; exact k23
  rw [beq_ne h23, cond_false]
  by_cases h24 : t = 24
  · subst h24; exact k24
  rw [beq_ne h24, cond_false]
  by_cases h25 : t = 25
  · subst h25; exact k25
  rw [beq_ne h25, cond_false]
  by_cases h26 : t = 26
  · subst h26; exact k26
  rw [beq_ne h26, cond_false]
  by_cases h27 : t = 27
  · subst h27; exact k27
  rw [beq_ne h27, cond_false]
  by_cases h29 : t = 29
  · subst h29; exact k29
  rw [beq_ne h29, cond_false]
  by_cases h30 : t = 30
  · subst h30; exact k30
  rw [beq_ne h30, cond_false]
  by_cases h31 : t = 31
  · subst h31; exact k31
  rw [beq_ne h31, cond_false]
  by_cases h32 : t = 32
  · subst h32; exact k32
  rw [beq_ne h32, cond_false]
  by_cases h33 : t = 33
  · subst h33; exact k33
  rw [beq_ne h33, cond_false]
  by_cases h34 : t = 34
  · subst h34; exact k34
  rw [beq_ne h34, cond_false]
  by_cases h35 : t = 35
  · subst h35; exact k35
  rw [beq_ne h35, cond_false]
  by_cases h37 : t = 37
  · subst h37; exact k37
  rw [beq_ne h37, cond_false]
  by_cases h38 : t = 38
  · subst h38; exact k38
  rw [beq_ne h38, cond_false]
  by_cases h39 : t = 39
  · subst h39; exact k39
  rw [beq_ne h39, cond_false]
  by_cases h41 : t = 41
  · subst h41; exact k41
  rw [beq_ne h41, cond_false]
  by_cases h42 : t = 42
  · subst h42; exact k42
  rw [beq_ne h42, cond_false]
  by_cases h43 : t = 43
  · subst h43; exact k43
  rw [beq_ne h43, cond_false]
  by_cases h45 : t = 45
  · subst h45; exact k45
  rw [beq_ne h45, cond_false]
  by_cases h47 : t = 47
  · subst h47; exact k47
  rw [beq_ne h47, cond_false]
  by_cases h48 : t = 48
  · subst h48; exact k48
  rw [beq_ne h48, cond_false]
  by_cases h49 : t = 49
  · subst h49; exact k49
  rw [beq_ne h49, cond_false]
  by_cases h51 : t = 51
  · subst h51; exact k51
  rw [beq_ne h51, cond_false]
  by_cases h52 : t = 52
  · subst h52; exact k52
  rw [beq_ne h52, cond_false]
  by_cases h53 : t = 53
  · subst h53; exact k53
  rw [beq_ne h53, cond_false]
  by_cases h54 : t = 54
  · subst h54; exact k54
  rw [beq_ne h54, cond_false]
  by_cases h55 : t = 55
  · subst h55; exact k55
  rw [beq_ne h55, cond_false]
  by_cases h56 : t = 56
  · subst h56; exact k56
  rw [beq_ne h56, cond_false]
  by_cases h57 : t = 57
  · subst h57; exact k57
  rw [beq_ne h57, cond_false]
  by_cases h58 : t = 58
  · subst h58; exact k58
  rw [beq_ne h58, cond_false]
  by_cases h60 : t = 60
  · subst h60; exact k60
  rw [beq_ne h60, cond_false]
  by_cases h62 : t = 62
  · subst h62; exact k62
  rw [beq_ne h62, cond_false]
  by_cases h64 : t = 64
  · subst h64; exact k64
  rw [beq_ne h64, cond_false]
  by_cases h65 : t = 65
  · subst h65; exact k65
  rw [beq_ne h65, cond_false]
  by_cases h66 : t = 66
  · subst h66; exact k66
  rw [beq_ne h66, cond_false]
  by_cases h67 : t = 67
  · subst h67; exact k67
  rw [beq_ne h67, cond_false]
  by_cases h68 : t = 68
  · subst h68; exact k68
  rw [beq_ne h68, cond_false]
  by_cases h69 : t = 69
  · subst h69; exact k69
  rw [beq_ne h69, cond_false]
  by_cases h70 : t = 70
  · subst h70; exact k70
  rw [beq_ne h70, cond_false]
  by_cases h71 : t = 71
  · subst h71; exact k71
  rw [beq_ne h71, cond_false]
  by_cases h72 : t = 72
  · subst h72; exact k72
  rw [beq_ne h72, cond_false]
  by_cases h73 : t = 73
  · subst h73; exact k73
  rw [beq_ne h73, cond_false]
  by_cases h74 : t = 74
  · subst h74; exact k74
  rw [beq_ne h74, cond_false]
  by_cases h75 : t = 75
  · subst h75; exact k75
  rw [beq_ne h75, cond_false]
  by_cases h76 : t = 76
  · subst h76; exact k76
  rw [beq_ne h76, cond_false]
  by_cases h77 : t = 77
  · subst h77; exact k77
  rw [beq_ne h77, cond_false]
  by_cases h78 : t = 78
  · subst h78; exact k78
  rw [beq_ne h78, cond_false]
  by_cases h79 : t = 79
  · subst h79; exact k79
  rw [beq_ne h79, cond_false]
  by_cases h80 : t = 80
  · subst h80; exact k80
  rw [beq_ne h80, cond_false]
  by_cases h81 : t = 81
  · subst h81; exact k81
  rw [beq_ne h81, cond_false]
  by_cases h82 : t = 82
  · subst h82; exact k82
  rw [beq_ne h82, cond_false]
  by_cases h83 : t = 83
  · subst h83; exact k83
  rw [beq_ne h83, cond_false]
  by_cases h84 : t = 84
  · subst h84; exact k84
  rw [beq_ne h84, cond_false]
  by_cases h85 : t = 85
  · subst h85; exact k85
  rw [beq_ne h85, cond_false]
  by_cases h86 : t = 86
  · subst h86; exact k86
  rw [beq_ne h86, cond_false]
  by_cases h87 : t = 87
  · subst h87; exact k87
  rw [beq_ne h87, cond_false]
  by_cases h88 : t = 88
  · subst h88; exact k88
  rw [beq_ne h88, cond_false]
  by_cases h89 : t = 89
  · subst h89; exact k89
  rw [beq_ne h89, cond_false]
  by_cases h90 : t = 90
  · subst h90; exact k90
  rw [beq_ne h90, cond_false]
  by_cases h91 : t = 91
  · subst h91; exact k91
  rw [beq_ne h91, cond_false]
  by_cases h92 : t = 92
  · subst h92; exact k92
  rw [beq_ne h92, cond_false]
  by_cases h93 : t = 93
  · subst h93; exact k93
  rw [beq_ne h93, cond_false]
  by_cases h94 : t = 94
  · subst h94; exact k94
  rw [beq_ne h94, cond_false]
  by_cases h95 : t = 95
  · subst h95; exact k95
  rw [beq_ne h95, cond_false]
  by_cases h96 : t = 96
  · subst h96; exact k96
  rw [beq_ne h96, cond_false]
  by_cases h97 : t = 97
  · subst h97; exact k97
  rw [beq_ne h97, cond_false]
  by_cases h98 : t = 98
  · subst h98; exact k98
  rw [beq_ne h98, cond_false]
  by_cases h99 : t = 99
  · subst h99; exact k99
  rw [beq_ne h99, cond_false]
  by_cases h100 : t = 100
  · subst h100; exact k100
  rw [beq_ne h100, cond_false]
  by_cases h101 : t = 101
  · subst h101; exact k101
  rw [beq_ne h101, cond_false]
  by_cases h102 : t = 102
  · subst h102; exact k102
  rw [beq_ne h102, cond_false]
  by_cases h103 : t = 103
  · subst h103; exact k103
  rw [beq_ne h103, cond_false]
  by_cases h104 : t = 104
  · subst h104; exact k104
  rw [beq_ne h104, cond_false]
  by_cases h105 : t = 105
  · subst h105; exact k105
  rw [beq_ne h105, cond_false]
  by_cases h108 : t = 108
  · subst h108; exact k108
  rw [beq_ne h108, cond_false]
  by_cases h109 : t = 109
  · subst h109; exact k109
  rw [beq_ne h109, cond_false]
  by_cases h110 : t = 110
  · subst h110; exact k110
  rw [beq_ne h110, cond_false]
  by_cases h112 : t = 112
  · subst h112; exact k112
  rw [beq_ne h112, cond_false]
  by_cases h113 : t = 113
  · subst h113; exact k113
  rw [beq_ne h113, cond_false]
  by_cases h117 : t = 117
  · subst h117; exact k117
  rw [beq_ne h117, cond_false]
  by_cases h118 : t = 118
  · subst h118; exact k118
  rw [beq_ne h118, cond_false]
  by_cases h119 : t = 119
  · subst h119; exact k119
  rw [beq_ne h119, cond_false]
  by_cases h120 : t = 120
  · subst h120; exact k120
  rw [beq_ne h120, cond_false]
  by_cases h121 : t = 121
  · subst h121; exact k121
  rw [beq_ne h121, cond_false]
  by_cases h122 : t = 122
  · subst h122; exact k122
  rw [beq_ne h122, cond_false]
  by_cases h123 : t = 123
  · subst h123; exact k123
  rw [beq_ne h123, cond_false]
  by_cases h124 : t = 124
  · subst h124; exact k124
  rw [beq_ne h124, cond_false]
  by_cases h125 : t = 125
  · subst h125; exact k125
  rw [beq_ne h125, cond_false]
  by_cases h128 : t = 128
  · subst h128; exact k128
  rw [beq_ne h128, cond_false]
  by_cases h129 : t = 129
  · subst h129; exact k129
  rw [beq_ne h129, cond_false]
  by_cases h130 : t = 130
  · subst h130; exact k130
  rw [beq_ne h130, cond_false]
  by_cases h131 : t = 131
  · subst h131; exact k131
  rw [beq_ne h131, cond_false]
  by_cases h132 : t = 132
  · subst h132; exact k132
  rw [beq_ne h132, cond_false]
  by_cases h134 : t = 134
  · subst h134; exact k134
  rw [beq_ne h134, cond_false]
  by_cases h135 : t = 135
  · subst h135; exact k135
  rw [beq_ne h135, cond_false]
  by_cases h136 : t = 136
  · subst h136; exact k136
  rw [beq_ne h136, cond_false]
  by_cases h137 : t = 137
  · subst h137; exact k137
  rw [beq_ne h137, cond_false]
  by_cases h138 : t = 138
  · subst h138; exact k138
  rw [beq_ne h138, cond_false]
  by_cases h139 : t = 139
  · subst h139; exact k139
  rw [beq_ne h139, cond_false]
  by_cases h140 : t = 140
  · subst h140; exact k140
  rw [beq_ne h140, cond_false]
  by_cases h141 : t = 141
  · subst h141; exact k141
  rw [beq_ne h141, cond_false]
  by_cases h142 : t = 142
  · subst h142; exact k142
  rw [beq_ne h142, cond_false]
  by_cases h143 : t = 143
  · subst h143; exact k143
  rw [beq_ne h143, cond_false]
  by_cases h144 : t = 144
  · subst h144; exact k144
  rw [beq_ne h144, cond_false]
  by_cases h145 : t = 145
  · subst h145; exact k145
  rw [beq_ne h145, cond_false]
  by_cases h146 : t = 146
  · subst h146; exact k146
  rw [beq_ne h146, cond_false]
  by_cases h147 : t = 147
  · subst h147; exact k147
  rw [beq_ne h147, cond_false]
  by_cases h148 : t = 148
  · subst h148; exact k148
  rw [beq_ne h148, cond_false]
  by_cases h149 : t = 149
  · subst h149; exact k149
  rw [beq_ne h149, cond_false]
  by_cases h150 : t = 150
  · subst h150; exact k150
  rw [beq_ne h150, cond_false]
  by_cases h151 : t = 151
  · subst h151; exact k151
  rw [beq_ne h151, cond_false]
  by_cases h152 : t = 152
  · subst h152; exact k152
  rw [beq_ne h152, cond_false]
  by_cases h153 : t = 153
  · subst h153; exact k153
  rw [beq_ne h153, cond_false]
  by_cases h154 : t = 154
  · subst h154; exact k154
  rw [beq_ne h154, cond_false]
  by_cases h155 : t = 155
  · subst h155; exact k155
  rw [beq_ne h155, cond_false]
  by_cases h156 : t = 156
  · subst h156; exact k156
  rw [beq_ne h156, cond_false]
  by_cases h157 : t = 157
  · subst h157; exact k157
  rw [beq_ne h157, cond_false]
  by_cases h158 : t = 158
  · subst h158; exact k158
  rw [beq_ne h158, cond_false]
  by_cases h159 : t = 159
  · subst h159; exact k159
  rw [beq_ne h159, cond_false]
  by_cases h160 : t = 160
  · subst h160; exact k160
  rw [beq_ne h160, cond_false]
  by_cases h161 : t = 161
  · subst h161; exact k161
  rw [beq_ne h161, cond_false]
  by_cases h164 : t = 164
  · subst h164; exact k164
  rw [beq_ne h164, cond_false]
  by_cases h165 : t = 165
  · subst h165; exact k165
  rw [beq_ne h165, cond_false]
  by_cases h166 : t = 166
  · subst h166; exact k166
  rw [beq_ne h166, cond_false]
  by_cases h168 : t = 168
  · subst h168; exact k168
  rw [beq_ne h168, cond_false]
  by_cases h169 : t = 169
  · subst h169; exact k169
  rw [beq_ne h169, cond_false]
  by_cases h170 : t = 170
  · subst h170; exact k170
  rw [beq_ne h170, cond_false]
  by_cases h171 : t = 171
  · subst h171; exact k171
  rw [beq_ne h171, cond_false]
  by_cases h173 : t = 173
  · subst h173; exact k173
  rw [beq_ne h173, cond_false]
  by_cases h174 : t = 174
  · subst h174; exact k174
  rw [beq_ne h174, cond_false]
  by_cases h175 : t = 175
  · subst h175; exact k175
  rw [beq_ne h175, cond_false]
  by_cases h176 : t = 176
  · subst h176; exact k176
  rw [beq_ne h176, cond_false]
  by_cases h177 : t = 177
  · subst h177; exact k177
  rw [beq_ne h177, cond_false]
  by_cases h178 : t = 178
  · subst h178; exact k178
  rw [beq_ne h178, cond_false]
  by_cases h179 : t = 179
  · subst h179; exact k179
  rw [beq_ne h179, cond_false]
  by_cases h180 : t = 180
  · subst h180; exact k180
  rw [beq_ne h180, cond_false]
  by_cases h181 : t = 181
  · subst h181; exact k181
  rw [beq_ne h181, cond_false]
  by_cases h183 : t = 183
  · subst h183; exact k183
  rw [beq_ne h183, cond_false]
  by_cases h184 : t = 184
  · subst h184; exact k184
  rw [beq_ne h184, cond_false]
  by_cases h185 : t = 185
  · subst h185; exact k185
  rw [beq_ne h185, cond_false]
  by_cases h186 : t = 186
  · subst h186; exact k186
  rw [beq_ne h186, cond_false]
  by_cases h188 : t = 188
  · subst h188; exact k188
  rw [beq_ne h188, cond_false]
  by_cases h189 : t = 189
  · subst h189; exact k189
  rw [beq_ne h189, cond_false]
  by_cases h190 : t = 190
  · subst h190; exact k190
  rw [beq_ne h190, cond_false]
  by_cases h191 : t = 191
  · subst h191; exact k191
  rw [beq_ne h191, cond_false]
  by_cases h192 : t = 192
  · subst h192; exact k192
  rw [beq_ne h192, cond_false]
  by_cases h193 : t = 193
  · subst h193; exact k193
  rw [beq_ne h193, cond_false]
  by_cases h194 : t = 194
  · subst h194; exact k194
  rw [beq_ne h194, cond_false]
  by_cases h195 : t = 195
  · subst h195; exact k195
  rw [beq_ne h195, cond_false]
  by_cases h196 : t = 196
  · subst h196; exact k196
  rw [beq_ne h196, cond_false]
  by_cases h197 : t = 197
  · subst h197; exact k197
  rw [beq_ne h197, cond_false]
  by_cases h198 : t = 198
  · subst h198; exact k198
  rw [beq_ne h198, cond_false]
  by_cases h199 : t = 199
  · subst h199; exact k199
  rw [beq_ne h199, cond_false]
  by_cases h201 : t = 201
  · subst h201; exact k201
  rw [beq_ne h201, cond_false]
  by_cases h203 : t = 203
  · subst h203; exact k203
  rw [beq_ne h203, cond_false]
  by_cases h205 : t = 205
  · subst h205; exact k205
  rw [beq_ne h205, cond_false]
  by_cases h206 : t = 206
  · subst h206; exact k206
  rw [beq_ne h206, cond_false]
  by_cases h209 : t = 209
  · subst h209; exact k209
  rw [beq_ne h209, cond_false]
  by_cases h215 : t = 215
  · subst h215; exact k215
  rw [beq_ne h215, cond_false]
  by_cases h216 : t = 216
  · subst h216; exact k216
  rw [beq_ne h216, cond_false]
  by_cases h217 : t = 217
  · subst h217; exact k217
  rw [beq_ne h217, cond_false]
  by_cases h218 : t = 218
  · subst h218; exact k218
  rw [beq_ne h218, cond_false]
  by_cases h219 : t = 219
  · subst h219; exact k219
  rw [beq_ne h219, cond_false]
  by_cases h222 : t = 222
  · subst h222; exact k222
  rw [beq_ne h222, cond_false]
  by_cases h223 : t = 223
  · subst h223; exact k223
  rw [beq_ne h223, cond_false]
  by_cases h224 : t = 224
  · subst h224; exact k224
  rw [beq_ne h224, cond_false]
  by_cases h227 : t = 227
  · subst h227; exact k227
  rw [beq_ne h227, cond_false]
  by_cases h235 : t = 235
  · subst h235; exact k235
  rw [beq_ne h235, cond_false]
  by_cases h236 : t = 236
  · subst h236; exact k236
  rw [beq_ne h236, cond_false]
  by_cases h237 : t = 237
  · subst h237; exact k237
  rw [beq_ne h237, cond_false]
  by_cases h238 : t = 238
  · subst h238; exact k238
  rw [beq_ne h238, cond_false]
  by_cases h239 : t = 239
  · subst h239; exact k239
  rw [beq_ne h239, cond_false]
  by_cases h240 : t = 240
  · subst h240; exact k240
  rw [beq_ne h240, cond_false]
  by_cases h114 : t = 114
  · subst h114; exact k114
  rw [beq_ne h114, cond_false]
  by_cases h115 : t = 115
  · subst h115; exact k115
  rw [beq_ne h115, cond_false]
  by_cases h162 : t = 162
  · subst h162; exact k162
  rw [beq_ne h162, cond_false]
  by_cases h163 : t = 163
  · subst h163; exact k163
  rw [beq_ne h163, cond_false]
  by_cases h126 : t = 126
  · subst h126; exact k126
  rw [beq_ne h126, cond_false]
  by_cases h127 : t = 127
  · subst h127; exact k127
  rw [beq_ne h127, cond_false]
  by_cases h200 : t = 200
  · subst h200; exact k200
  rw [beq_ne h200, cond_false]
  by_cases h220 : t = 220
  · subst h220; exact k220
  rw [beq_ne h220, cond_false]
  by_cases h228 : t = 228
  · subst h228; exact k228
  rw [beq_ne h228, cond_false]
  by_cases h229 : t = 229
  · subst h229; exact k229
  rw [beq_ne h229, cond_false]
  exact trivial

theorem mixed : Tryz.prog.follows .mixedOrders = true := by kernel_rfl

end Go.Proofs.YtgliajcgcbnemaaGreatDoor.Hx
