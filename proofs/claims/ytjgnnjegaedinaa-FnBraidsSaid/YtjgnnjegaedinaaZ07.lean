/-
  What is known of the types of this seat: their kinds, each a closed fact over the translation. Printed by gen_ty.py.
  The contracts of the laws' own helpers over slices of ints: copies, comparisons, marks.
  Contracts over matrices and words: IsCartan, points, words, weights, of the program and of the reference.
-/
import Derived.Test.YtjgnnjegaedinaaZ06
import Derived.Test.YtjgnnjegaedinaaRows
namespace Go.Proofs.Ytjgnnjegaedinaa.Hx
open Go.RowKit

theorem inf1 : (Try.prog.info? 1).map (fun i => i.size) = some 1 := by kernel_rfl
theorem und1 : (Try.prog.underlying 1).map flat = some true := by kernel_rfl
theorem k1 : Kd.ok Try.prog 1 .oth := one_of_map inf1 und1
theorem inf2 : (Try.prog.info? 2).map (fun i => i.size) = some 1 := by kernel_rfl
theorem und2 : Try.prog.underlying 2 = some (.int .i64) := by kernel_rfl
theorem k2 : Kd.ok Try.prog 2 (.int .i64) := ⟨und2, one_of inf2 und2⟩
theorem inf3 : (Try.prog.info? 3).map (fun i => i.size) = some 1 := by kernel_rfl
theorem und3 : Try.prog.underlying 3 = some (.int .i64) := by kernel_rfl
theorem k3 : Kd.ok Try.prog 3 (.int .i64) := ⟨und3, one_of inf3 und3⟩
theorem inf4 : (Try.prog.info? 4).map (fun i => i.size) = some 1 := by kernel_rfl
theorem und4 : Try.prog.underlying 4 = some (.bool) := by kernel_rfl
theorem k4 : Kd.ok Try.prog 4 (.bool) := ⟨und4, one_of inf4 und4⟩
theorem inf5 : (Try.prog.info? 5).map (fun i => i.size) = some 1 := by kernel_rfl
theorem und5 : Try.prog.underlying 5 = some (.int .u8) := by kernel_rfl
theorem k5 : Kd.ok Try.prog 5 (.int .u8) := ⟨und5, one_of inf5 und5⟩
theorem inf6 : (Try.prog.info? 6).map (fun i => i.size) = some 1 := by kernel_rfl
theorem und6 : Try.prog.underlying 6 = some (.int .u8) := by kernel_rfl
theorem k6 : Kd.ok Try.prog 6 (.int .u8) := ⟨und6, one_of inf6 und6⟩
theorem inf9 : (Try.prog.info? 9).map (fun i => i.size) = some 1 := by kernel_rfl
theorem und9 : Try.prog.underlying 9 = some (.string) := by kernel_rfl
theorem k9 : Kd.ok Try.prog 9 (.str) := ⟨und9, one_of inf9 und9⟩
theorem inf10 : (Try.prog.info? 10).map (fun i => i.size) = some 1 := by kernel_rfl
theorem und10 : Try.prog.underlying 10 = some (.string) := by kernel_rfl
theorem k10 : Kd.ok Try.prog 10 (.str) := ⟨und10, one_of inf10 und10⟩
theorem inf11 : (Try.prog.info? 11).map (fun i => i.size) = some 1 := by kernel_rfl
theorem und11 : Try.prog.underlying 11 = some (.string) := by kernel_rfl
theorem k11 : Kd.ok Try.prog 11 (.str) := ⟨und11, one_of inf11 und11⟩
theorem inf12 : (Try.prog.info? 12).map (fun i => i.size) = some 1 := by kernel_rfl
theorem und12 : Try.prog.underlying 12 = some (.int .u64) := by kernel_rfl
theorem k12 : Kd.ok Try.prog 12 (.int .u64) := ⟨und12, one_of inf12 und12⟩
theorem inf15 : (Try.prog.info? 15).map (fun i => i.size) = some 1 := by kernel_rfl
theorem und15 : (Try.prog.underlying 15).map flat = some true := by kernel_rfl
theorem k15 : Kd.ok Try.prog 15 .oth := one_of_map inf15 und15
theorem inf16 : (Try.prog.info? 16).map (fun i => i.size) = some 1 := by kernel_rfl
theorem und16 : (Try.prog.underlying 16).map flat = some true := by kernel_rfl
theorem k16 : Kd.ok Try.prog 16 .oth := one_of_map inf16 und16
theorem inf17 : (Try.prog.info? 17).map (fun i => i.size) = some 1 := by kernel_rfl
theorem und17 : (Try.prog.underlying 17).map flat = some true := by kernel_rfl
theorem k17 : Kd.ok Try.prog 17 .oth := one_of_map inf17 und17
theorem inf20 : (Try.prog.info? 20).map (fun i => i.size) = some 1 := by kernel_rfl
theorem und20 : Try.prog.underlying 20 = some (.interface (Try.prog.methodsAt 20)) := by kernel_rfl
theorem k20 : Kd.ok Try.prog 20 (.ifc) := ⟨und20, one_of inf20 und20⟩
theorem inf21 : (Try.prog.info? 21).map (fun i => i.size) = some 1 := by kernel_rfl
theorem und21 : Try.prog.underlying 21 = some (.int .i32) := by kernel_rfl
theorem k21 : Kd.ok Try.prog 21 (.int .i32) := ⟨und21, one_of inf21 und21⟩
theorem inf22 : (Try.prog.info? 22).map (fun i => i.size) = some 1 := by kernel_rfl
theorem und22 : Try.prog.underlying 22 = some (.slice 5) := by kernel_rfl
theorem elt22 : (Try.prog.info? 5).map (fun i => (i.zero, i.size, i.bytes)) = some (some (.int .u8 0), 1, 1) := by kernel_rfl
theorem k22 : Kd.ok Try.prog 22 (.sl (.int .u8 0)) := sl_of inf22 und22 elt22 (by decide) rfl rfl
theorem inf23 : (Try.prog.info? 23).map (fun i => i.size) = some 1 := by kernel_rfl
theorem und23 : (Try.prog.underlying 23).map flat = some true := by kernel_rfl
theorem k23 : Kd.ok Try.prog 23 .oth := one_of_map inf23 und23
theorem inf24 : (Try.prog.info? 24).map (fun i => i.size) = some 1 := by kernel_rfl
theorem und24 : Try.prog.underlying 24 = some (.slice 25) := by kernel_rfl
theorem elt24 : (Try.prog.info? 25).map (fun i => (i.zero, i.size, i.bytes)) = some (some (.slice none 0 0), 1, 24) := by kernel_rfl
theorem k24 : Kd.ok Try.prog 24 (.sl (.slice none 0 0)) := sl_of inf24 und24 elt24 (by decide) rfl rfl
theorem inf25 : (Try.prog.info? 25).map (fun i => i.size) = some 1 := by kernel_rfl
theorem und25 : Try.prog.underlying 25 = some (.slice 3) := by kernel_rfl
theorem elt25 : (Try.prog.info? 3).map (fun i => (i.zero, i.size, i.bytes)) = some (some (.int .i64 0), 1, 8) := by kernel_rfl
theorem k25 : Kd.ok Try.prog 25 (.sl (.int .i64 0)) := sl_of inf25 und25 elt25 (by decide) rfl rfl
theorem inf27 : (Try.prog.info? 27).map (fun i => i.size) = some 1 := by kernel_rfl
theorem und27 : (Try.prog.underlying 27).map flat = some true := by kernel_rfl
theorem k27 : Kd.ok Try.prog 27 .oth := one_of_map inf27 und27
theorem inf29 : (Try.prog.info? 29).map (fun i => i.size) = some 1 := by kernel_rfl
theorem und29 : (Try.prog.underlying 29).map flat = some true := by kernel_rfl
theorem k29 : Kd.ok Try.prog 29 .oth := one_of_map inf29 und29
theorem inf30 : (Try.prog.info? 30).map (fun i => i.size) = some 1 := by kernel_rfl
theorem und30 : (Try.prog.underlying 30).map flat = some true := by kernel_rfl
theorem k30 : Kd.ok Try.prog 30 .oth := one_of_map inf30 und30
theorem inf31 : (Try.prog.info? 31).map (fun i => i.size) = some 1 := by kernel_rfl
theorem und31 : (Try.prog.underlying 31).map flat = some true := by kernel_rfl
theorem k31 : Kd.ok Try.prog 31 .oth := one_of_map inf31 und31
theorem inf33 : (Try.prog.info? 33).map (fun i => i.size) = some 1 := by kernel_rfl
theorem und33 : (Try.prog.underlying 33).map flat = some true := by kernel_rfl
theorem k33 : Kd.ok Try.prog 33 .oth := one_of_map inf33 und33
theorem inf35 : (Try.prog.info? 35).map (fun i => i.size) = some 1 := by kernel_rfl
theorem und35 : (Try.prog.underlying 35).map flat = some true := by kernel_rfl
theorem k35 : Kd.ok Try.prog 35 .oth := one_of_map inf35 und35
theorem inf36 : (Try.prog.info? 36).map (fun i => i.size) = some 1 := by kernel_rfl
theorem und36 : (Try.prog.underlying 36).map flat = some true := by kernel_rfl
theorem k36 : Kd.ok Try.prog 36 .oth := one_of_map inf36 und36
theorem inf37 : (Try.prog.info? 37).map (fun i => i.size) = some 1 := by kernel_rfl
theorem und37 : (Try.prog.underlying 37).map flat = some true := by kernel_rfl
theorem k37 : Kd.ok Try.prog 37 .oth := one_of_map inf37 und37
theorem inf38 : (Try.prog.info? 38).map (fun i => i.size) = some 1 := by kernel_rfl
theorem und38 : (Try.prog.underlying 38).map flat = some true := by kernel_rfl
theorem k38 : Kd.ok Try.prog 38 .oth := one_of_map inf38 und38
theorem inf40 : (Try.prog.info? 40).map (fun i => i.size) = some 1 := by kernel_rfl
theorem und40 : (Try.prog.underlying 40).map flat = some true := by kernel_rfl
theorem k40 : Kd.ok Try.prog 40 .oth := one_of_map inf40 und40
theorem inf41 : (Try.prog.info? 41).map (fun i => i.size) = some 1 := by kernel_rfl
theorem und41 : (Try.prog.underlying 41).map flat = some true := by kernel_rfl
theorem k41 : Kd.ok Try.prog 41 .oth := one_of_map inf41 und41
theorem inf42 : (Try.prog.info? 42).map (fun i => i.size) = some 1 := by kernel_rfl
theorem und42 : (Try.prog.underlying 42).map flat = some true := by kernel_rfl
theorem k42 : Kd.ok Try.prog 42 .oth := one_of_map inf42 und42
theorem inf43 : (Try.prog.info? 43).map (fun i => i.size) = some 1 := by kernel_rfl
theorem und43 : (Try.prog.underlying 43).map flat = some true := by kernel_rfl
theorem k43 : Kd.ok Try.prog 43 .oth := one_of_map inf43 und43
theorem inf44 : (Try.prog.info? 44).map (fun i => i.size) = some 1 := by kernel_rfl
theorem und44 : (Try.prog.underlying 44).map flat = some true := by kernel_rfl
theorem k44 : Kd.ok Try.prog 44 .oth := one_of_map inf44 und44
theorem inf45 : (Try.prog.info? 45).map (fun i => i.size) = some 1 := by kernel_rfl
theorem und45 : (Try.prog.underlying 45).map flat = some true := by kernel_rfl
theorem k45 : Kd.ok Try.prog 45 .oth := one_of_map inf45 und45
theorem inf46 : (Try.prog.info? 46).map (fun i => i.size) = some 1 := by kernel_rfl
theorem und46 : (Try.prog.underlying 46).map flat = some true := by kernel_rfl
theorem k46 : Kd.ok Try.prog 46 .oth := one_of_map inf46 und46
theorem inf47 : (Try.prog.info? 47).map (fun i => i.size) = some 1 := by kernel_rfl
theorem und47 : (Try.prog.underlying 47).map flat = some true := by kernel_rfl
theorem k47 : Kd.ok Try.prog 47 .oth := one_of_map inf47 und47
theorem inf48 : (Try.prog.info? 48).map (fun i => i.size) = some 1 := by kernel_rfl
theorem und48 : (Try.prog.underlying 48).map flat = some true := by kernel_rfl
theorem k48 : Kd.ok Try.prog 48 .oth := one_of_map inf48 und48
theorem inf49 : (Try.prog.info? 49).map (fun i => i.size) = some 1 := by kernel_rfl
theorem und49 : (Try.prog.underlying 49).map flat = some true := by kernel_rfl
theorem k49 : Kd.ok Try.prog 49 .oth := one_of_map inf49 und49
theorem inf50 : (Try.prog.info? 50).map (fun i => i.size) = some 1 := by kernel_rfl
theorem und50 : (Try.prog.underlying 50).map flat = some true := by kernel_rfl
theorem k50 : Kd.ok Try.prog 50 .oth := one_of_map inf50 und50
theorem inf51 : (Try.prog.info? 51).map (fun i => i.size) = some 1 := by kernel_rfl
theorem und51 : (Try.prog.underlying 51).map flat = some true := by kernel_rfl
theorem k51 : Kd.ok Try.prog 51 .oth := one_of_map inf51 und51
theorem inf52 : (Try.prog.info? 52).map (fun i => i.size) = some 1 := by kernel_rfl
theorem und52 : (Try.prog.underlying 52).map flat = some true := by kernel_rfl
theorem k52 : Kd.ok Try.prog 52 .oth := one_of_map inf52 und52
theorem inf55 : (Try.prog.info? 55).map (fun i => i.size) = some 1 := by kernel_rfl
theorem und55 : Try.prog.underlying 55 = some (.slice 54) := by kernel_rfl
theorem own55 : (Try.prog.info? 55).map (fun i => i.zero) = some (some (.slice none 0 0)) := by kernel_rfl
theorem elt55 : (Try.prog.info? 54).map (fun i => (i.zero, i.size, i.bytes)) = some (some (.agg ([Value.slice none 0 0, Value.int .i64 0, Value.int .i64 0] : List Value).toArray), 3, 40) := by kernel_rfl
theorem k55 : Kd.ok Try.prog 55 (.slw [Value.slice none 0 0, Value.int .i64 0, Value.int .i64 0]) := slw_of inf55 own55 und55 elt55 (by decide) (by decide) (by intro z hz; simp only [List.mem_cons, List.not_mem_nil, or_false] at hz; rcases hz with rfl | rfl | rfl <;> rfl)
theorem inf56 : (Try.prog.info? 56).map (fun i => i.size) = some 1 := by kernel_rfl
theorem und56 : (Try.prog.underlying 56).map flat = some true := by kernel_rfl
theorem k56 : Kd.ok Try.prog 56 .oth := one_of_map inf56 und56
theorem inf57 : (Try.prog.info? 57).map (fun i => i.size) = some 1 := by kernel_rfl
theorem und57 : Try.prog.underlying 57 = some (.map 9 4) := by kernel_rfl
theorem own57 : (Try.prog.info? 57).map (fun i => i.zero) = some (some (.map none)) := by kernel_rfl
theorem val57 : (Try.prog.info? 4).map (fun i => i.zero) = some (some (.bool false)) := by kernel_rfl
theorem key57 : Try.prog.underlying 9 = some .string := by kernel_rfl
theorem k57 : Kd.ok Try.prog 57 (.keys true) := keys_str inf57 own57 und57 val57 key57
theorem inf58 : (Try.prog.info? 58).map (fun i => i.size) = some 1 := by kernel_rfl
theorem und58 : (Try.prog.underlying 58).map flat = some true := by kernel_rfl
theorem k58 : Kd.ok Try.prog 58 .oth := one_of_map inf58 und58
theorem inf59 : (Try.prog.info? 59).map (fun i => i.size) = some 1 := by kernel_rfl
theorem und59 : (Try.prog.underlying 59).map flat = some true := by kernel_rfl
theorem k59 : Kd.ok Try.prog 59 .oth := one_of_map inf59 und59
theorem inf60 : (Try.prog.info? 60).map (fun i => i.size) = some 1 := by kernel_rfl
theorem und60 : (Try.prog.underlying 60).map flat = some true := by kernel_rfl
theorem k60 : Kd.ok Try.prog 60 .oth := one_of_map inf60 und60
theorem inf61 : (Try.prog.info? 61).map (fun i => i.size) = some 1 := by kernel_rfl
theorem und61 : (Try.prog.underlying 61).map flat = some true := by kernel_rfl
theorem k61 : Kd.ok Try.prog 61 .oth := one_of_map inf61 und61
theorem inf62 : (Try.prog.info? 62).map (fun i => i.size) = some 1 := by kernel_rfl
theorem und62 : (Try.prog.underlying 62).map flat = some true := by kernel_rfl
theorem k62 : Kd.ok Try.prog 62 .oth := one_of_map inf62 und62
theorem inf63 : (Try.prog.info? 63).map (fun i => i.size) = some 1 := by kernel_rfl
theorem und63 : (Try.prog.underlying 63).map flat = some true := by kernel_rfl
theorem k63 : Kd.ok Try.prog 63 .oth := one_of_map inf63 und63
theorem inf64 : (Try.prog.info? 64).map (fun i => i.size) = some 1 := by kernel_rfl
theorem und64 : (Try.prog.underlying 64).map flat = some true := by kernel_rfl
theorem k64 : Kd.ok Try.prog 64 .oth := one_of_map inf64 und64
theorem inf65 : (Try.prog.info? 65).map (fun i => i.size) = some 1 := by kernel_rfl
theorem und65 : (Try.prog.underlying 65).map flat = some true := by kernel_rfl
theorem k65 : Kd.ok Try.prog 65 .oth := one_of_map inf65 und65
theorem inf66 : (Try.prog.info? 66).map (fun i => i.size) = some 1 := by kernel_rfl
theorem und66 : (Try.prog.underlying 66).map flat = some true := by kernel_rfl
theorem k66 : Kd.ok Try.prog 66 .oth := one_of_map inf66 und66
theorem inf67 : (Try.prog.info? 67).map (fun i => i.size) = some 1 := by kernel_rfl
theorem und67 : (Try.prog.underlying 67).map flat = some true := by kernel_rfl
theorem k67 : Kd.ok Try.prog 67 .oth := one_of_map inf67 und67
theorem inf68 : (Try.prog.info? 68).map (fun i => i.size) = some 1 := by kernel_rfl
theorem und68 : (Try.prog.underlying 68).map flat = some true := by kernel_rfl
theorem k68 : Kd.ok Try.prog 68 .oth := one_of_map inf68 und68
theorem inf69 : (Try.prog.info? 69).map (fun i => i.size) = some 1 := by kernel_rfl
theorem und69 : (Try.prog.underlying 69).map flat = some true := by kernel_rfl
theorem k69 : Kd.ok Try.prog 69 .oth := one_of_map inf69 und69
theorem inf70 : (Try.prog.info? 70).map (fun i => i.size) = some 1 := by kernel_rfl
theorem und70 : (Try.prog.underlying 70).map flat = some true := by kernel_rfl
theorem k70 : Kd.ok Try.prog 70 .oth := one_of_map inf70 und70
theorem inf71 : (Try.prog.info? 71).map (fun i => i.size) = some 1 := by kernel_rfl
theorem und71 : (Try.prog.underlying 71).map flat = some true := by kernel_rfl
theorem k71 : Kd.ok Try.prog 71 .oth := one_of_map inf71 und71
theorem inf74 : (Try.prog.info? 74).map (fun i => i.size) = some 1 := by kernel_rfl
theorem und74 : (Try.prog.underlying 74).map flat = some true := by kernel_rfl
theorem k74 : Kd.ok Try.prog 74 .oth := one_of_map inf74 und74
theorem inf75 : (Try.prog.info? 75).map (fun i => i.size) = some 1 := by kernel_rfl
theorem und75 : (Try.prog.underlying 75).map flat = some true := by kernel_rfl
theorem k75 : Kd.ok Try.prog 75 .oth := one_of_map inf75 und75
theorem inf76 : (Try.prog.info? 76).map (fun i => i.size) = some 1 := by kernel_rfl
theorem und76 : (Try.prog.underlying 76).map flat = some true := by kernel_rfl
theorem k76 : Kd.ok Try.prog 76 .oth := one_of_map inf76 und76
theorem inf77 : (Try.prog.info? 77).map (fun i => i.size) = some 1 := by kernel_rfl
theorem und77 : (Try.prog.underlying 77).map flat = some true := by kernel_rfl
theorem k77 : Kd.ok Try.prog 77 .oth := one_of_map inf77 und77
theorem inf78 : (Try.prog.info? 78).map (fun i => i.size) = some 1 := by kernel_rfl
theorem und78 : (Try.prog.underlying 78).map flat = some true := by kernel_rfl
theorem k78 : Kd.ok Try.prog 78 .oth := one_of_map inf78 und78
theorem inf79 : (Try.prog.info? 79).map (fun i => i.size) = some 1 := by kernel_rfl
theorem und79 : (Try.prog.underlying 79).map flat = some true := by kernel_rfl
theorem k79 : Kd.ok Try.prog 79 .oth := one_of_map inf79 und79
theorem inf80 : (Try.prog.info? 80).map (fun i => i.size) = some 1 := by kernel_rfl
theorem und80 : Try.prog.underlying 80 = some (.int .u64) := by kernel_rfl
theorem k80 : Kd.ok Try.prog 80 (.int .u64) := ⟨und80, one_of inf80 und80⟩
theorem inf81 : (Try.prog.info? 81).map (fun i => i.size) = some 1 := by kernel_rfl
theorem und81 : (Try.prog.underlying 81).map flat = some true := by kernel_rfl
theorem k81 : Kd.ok Try.prog 81 .oth := one_of_map inf81 und81
theorem inf82 : (Try.prog.info? 82).map (fun i => i.size) = some 1 := by kernel_rfl
theorem und82 : (Try.prog.underlying 82).map flat = some true := by kernel_rfl
theorem k82 : Kd.ok Try.prog 82 .oth := one_of_map inf82 und82
theorem inf83 : (Try.prog.info? 83).map (fun i => i.size) = some 1 := by kernel_rfl
theorem und83 : (Try.prog.underlying 83).map flat = some true := by kernel_rfl
theorem k83 : Kd.ok Try.prog 83 .oth := one_of_map inf83 und83
theorem inf84 : (Try.prog.info? 84).map (fun i => i.size) = some 1 := by kernel_rfl
theorem und84 : (Try.prog.underlying 84).map flat = some true := by kernel_rfl
theorem k84 : Kd.ok Try.prog 84 .oth := one_of_map inf84 und84
theorem inf85 : (Try.prog.info? 85).map (fun i => i.size) = some 1 := by kernel_rfl
theorem und85 : (Try.prog.underlying 85).map flat = some true := by kernel_rfl
theorem k85 : Kd.ok Try.prog 85 .oth := one_of_map inf85 und85
theorem inf86 : (Try.prog.info? 86).map (fun i => i.size) = some 1 := by kernel_rfl
theorem und86 : Try.prog.underlying 86 = some (.slice 9) := by kernel_rfl
theorem elt86 : (Try.prog.info? 9).map (fun i => (i.zero, i.size, i.bytes)) = some (some (.string ByteArray.empty), 1, 16) := by kernel_rfl
theorem k86 : Kd.ok Try.prog 86 (.sl (.string ByteArray.empty)) := sl_of inf86 und86 elt86 (by decide) rfl rfl
theorem inf87 : (Try.prog.info? 87).map (fun i => i.size) = some 1 := by kernel_rfl
theorem und87 : (Try.prog.underlying 87).map flat = some true := by kernel_rfl
theorem k87 : Kd.ok Try.prog 87 .oth := one_of_map inf87 und87
theorem inf88 : (Try.prog.info? 88).map (fun i => i.size) = some 1 := by kernel_rfl
theorem und88 : (Try.prog.underlying 88).map flat = some true := by kernel_rfl
theorem k88 : Kd.ok Try.prog 88 .oth := one_of_map inf88 und88
theorem inf89 : (Try.prog.info? 89).map (fun i => i.size) = some 1 := by kernel_rfl
theorem und89 : (Try.prog.underlying 89).map flat = some true := by kernel_rfl
theorem k89 : Kd.ok Try.prog 89 .oth := one_of_map inf89 und89
theorem inf90 : (Try.prog.info? 90).map (fun i => i.size) = some 1 := by kernel_rfl
theorem und90 : (Try.prog.underlying 90).map flat = some true := by kernel_rfl
theorem k90 : Kd.ok Try.prog 90 .oth := one_of_map inf90 und90
theorem inf96 : (Try.prog.info? 96).map (fun i => i.size) = some 1 := by kernel_rfl
theorem und96 : (Try.prog.underlying 96).map flat = some true := by kernel_rfl
theorem k96 : Kd.ok Try.prog 96 .oth := one_of_map inf96 und96
theorem inf97 : (Try.prog.info? 97).map (fun i => i.size) = some 1 := by kernel_rfl
theorem und97 : Try.prog.underlying 97 = some (.int .u32) := by kernel_rfl
theorem k97 : Kd.ok Try.prog 97 (.int .u32) := ⟨und97, one_of inf97 und97⟩
theorem inf98 : (Try.prog.info? 98).map (fun i => i.size) = some 1 := by kernel_rfl
theorem und98 : Try.prog.underlying 98 = some (.int .u8) := by kernel_rfl
theorem k98 : Kd.ok Try.prog 98 (.int .u8) := ⟨und98, one_of inf98 und98⟩
theorem inf99 : (Try.prog.info? 99).map (fun i => i.size) = some 1 := by kernel_rfl
theorem und99 : Try.prog.underlying 99 = some (.int .u8) := by kernel_rfl
theorem k99 : Kd.ok Try.prog 99 (.int .u8) := ⟨und99, one_of inf99 und99⟩
theorem inf100 : (Try.prog.info? 100).map (fun i => i.size) = some 1 := by kernel_rfl
theorem und100 : (Try.prog.underlying 100).map flat = some true := by kernel_rfl
theorem k100 : Kd.ok Try.prog 100 .oth := one_of_map inf100 und100
theorem inf101 : (Try.prog.info? 101).map (fun i => i.size) = some 1 := by kernel_rfl
theorem und101 : (Try.prog.underlying 101).map flat = some true := by kernel_rfl
theorem k101 : Kd.ok Try.prog 101 .oth := one_of_map inf101 und101
theorem inf102 : (Try.prog.info? 102).map (fun i => i.size) = some 1 := by kernel_rfl
theorem und102 : Try.prog.underlying 102 = some (.int .i32) := by kernel_rfl
theorem k102 : Kd.ok Try.prog 102 (.int .i32) := ⟨und102, one_of inf102 und102⟩
theorem inf103 : (Try.prog.info? 103).map (fun i => i.size) = some 1 := by kernel_rfl
theorem und103 : Try.prog.underlying 103 = some (.int .i32) := by kernel_rfl
theorem k103 : Kd.ok Try.prog 103 (.int .i32) := ⟨und103, one_of inf103 und103⟩
theorem und53 : (Try.prog.underlying 53).map fieldsOf = some (some [(0, 25), (1, 3), (2, 3)]) := by kernel_rfl
theorem inf53 : (Try.prog.info? 53).map (fun i => (i.zero, i.size)) = some (some (.agg ([Value.slice none 0 0, Value.int .i64 0, Value.int .i64 0] : List Value).toArray), 3) := by kernel_rfl
theorem k53 : Kd.ok Try.prog 53 (.rcd [Value.slice none 0 0, Value.int .i64 0, Value.int .i64 0]) := rcd_of und53 inf53 rfl (⟨rfl, Kd.ok_one k25 rfl, ⟨rfl, Kd.ok_one k3 rfl, ⟨rfl, Kd.ok_one k3 rfl, trivial⟩⟩⟩) (by intro z hz; simp only [List.mem_cons, List.not_mem_nil, or_false] at hz; rcases hz with rfl | rfl | rfl <;> rfl)
theorem und54 : (Try.prog.underlying 54).map fieldsOf = some (some [(0, 25), (1, 3), (2, 3)]) := by kernel_rfl
theorem inf54 : (Try.prog.info? 54).map (fun i => (i.zero, i.size)) = some (some (.agg ([Value.slice none 0 0, Value.int .i64 0, Value.int .i64 0] : List Value).toArray), 3) := by kernel_rfl
theorem k54 : Kd.ok Try.prog 54 (.rcd [Value.slice none 0 0, Value.int .i64 0, Value.int .i64 0]) := rcd_of und54 inf54 rfl (⟨rfl, Kd.ok_one k25 rfl, ⟨rfl, Kd.ok_one k3 rfl, ⟨rfl, Kd.ok_one k3 rfl, trivial⟩⟩⟩) (by intro z hz; simp only [List.mem_cons, List.not_mem_nil, or_false] at hz; rcases hz with rfl | rfl | rfl <;> rfl)
theorem und72 : (Try.prog.underlying 72).map fieldsOf = some (some [(0, 22), (1, 3), (2, 3)]) := by kernel_rfl
theorem inf72 : (Try.prog.info? 72).map (fun i => (i.zero, i.size)) = some (some (.agg ([Value.slice none 0 0, Value.int .i64 0, Value.int .i64 0] : List Value).toArray), 3) := by kernel_rfl
theorem k72 : Kd.ok Try.prog 72 (.rcd [Value.slice none 0 0, Value.int .i64 0, Value.int .i64 0]) := rcd_of und72 inf72 rfl (⟨rfl, Kd.ok_one k22 rfl, ⟨rfl, Kd.ok_one k3 rfl, ⟨rfl, Kd.ok_one k3 rfl, trivial⟩⟩⟩) (by intro z hz; simp only [List.mem_cons, List.not_mem_nil, or_false] at hz; rcases hz with rfl | rfl | rfl <;> rfl)
theorem und73 : (Try.prog.underlying 73).map fieldsOf = some (some [(0, 22), (1, 3), (2, 3)]) := by kernel_rfl
theorem inf73 : (Try.prog.info? 73).map (fun i => (i.zero, i.size)) = some (some (.agg ([Value.slice none 0 0, Value.int .i64 0, Value.int .i64 0] : List Value).toArray), 3) := by kernel_rfl
theorem k73 : Kd.ok Try.prog 73 (.rcd [Value.slice none 0 0, Value.int .i64 0, Value.int .i64 0]) := rcd_of und73 inf73 rfl (⟨rfl, Kd.ok_one k22 rfl, ⟨rfl, Kd.ok_one k3 rfl, ⟨rfl, Kd.ok_one k3 rfl, trivial⟩⟩⟩) (by intro z hz; simp only [List.mem_cons, List.not_mem_nil, or_false] at hz; rcases hz with rfl | rfl | rfl <;> rfl)

/-- The kinds of the types, by their numbers. -/
def kd (t : TypeId) : Kd :=
  bif Nat.beq t 1 then .oth else bif Nat.beq t 2 then .int .i64 else bif Nat.beq t 3 then .int .i64 else bif Nat.beq t 4 then .bool else bif Nat.beq t 5 then .int .u8 else bif Nat.beq t 6 then .int .u8 else bif Nat.beq t 9 then .str else bif Nat.beq t 10 then .str else bif Nat.beq t 11 then .str else bif Nat.beq t 12 then .int .u64 else bif Nat.beq t 15 then .oth else bif Nat.beq t 16 then .oth else bif Nat.beq t 17 then .oth else bif Nat.beq t 20 then .ifc else bif Nat.beq t 21 then .int .i32 else bif Nat.beq t 22 then .sl (.int .u8 0) else bif Nat.beq t 23 then .oth else bif Nat.beq t 24 then .sl (.slice none 0 0) else bif Nat.beq t 25 then .sl (.int .i64 0) else bif Nat.beq t 27 then .oth else bif Nat.beq t 29 then .oth else bif Nat.beq t 30 then .oth else bif Nat.beq t 31 then .oth else bif Nat.beq t 33 then .oth else bif Nat.beq t 35 then .oth else bif Nat.beq t 36 then .oth else bif Nat.beq t 37 then .oth else bif Nat.beq t 38 then .oth else bif Nat.beq t 40 then .oth else bif Nat.beq t 41 then .oth else bif Nat.beq t 42 then .oth else bif Nat.beq t 43 then .oth else bif Nat.beq t 44 then .oth else bif Nat.beq t 45 then .oth else bif Nat.beq t 46 then .oth else bif Nat.beq t 47 then .oth else bif Nat.beq t 48 then .oth else bif Nat.beq t 49 then .oth else bif Nat.beq t 50 then .oth else bif Nat.beq t 51 then .oth else bif Nat.beq t 52 then .oth else bif Nat.beq t 55 then .slw [Value.slice none 0 0, Value.int .i64 0, Value.int .i64 0] else bif Nat.beq t 56 then .oth else bif Nat.beq t 57 then .keys true else bif Nat.beq t 58 then .oth else bif Nat.beq t 59 then .oth else bif Nat.beq t 60 then .oth else bif Nat.beq t 61 then .oth else bif Nat.beq t 62 then .oth else bif Nat.beq t 63 then .oth else bif Nat.beq t 64 then .oth else bif Nat.beq t 65 then .oth else bif Nat.beq t 66 then .oth else bif Nat.beq t 67 then .oth else bif Nat.beq t 68 then .oth else bif Nat.beq t 69 then .oth else bif Nat.beq t 70 then .oth else bif Nat.beq t 71 then .oth else bif Nat.beq t 74 then .oth else bif Nat.beq t 75 then .oth else bif Nat.beq t 76 then .oth else bif Nat.beq t 77 then .oth else bif Nat.beq t 78 then .oth else bif Nat.beq t 79 then .oth else bif Nat.beq t 80 then .int .u64 else bif Nat.beq t 81 then .oth else bif Nat.beq t 82 then .oth else bif Nat.beq t 83 then .oth else bif Nat.beq t 84 then .oth else bif Nat.beq t 85 then .oth else bif Nat.beq t 86 then .sl (.string ByteArray.empty) else bif Nat.beq t 87 then .oth else bif Nat.beq t 88 then .oth else bif Nat.beq t 89 then .oth else bif Nat.beq t 90 then .oth else bif Nat.beq t 96 then .oth else bif Nat.beq t 97 then .int .u32 else bif Nat.beq t 98 then .int .u8 else bif Nat.beq t 99 then .int .u8 else bif Nat.beq t 100 then .oth else bif Nat.beq t 101 then .oth else bif Nat.beq t 102 then .int .i32 else bif Nat.beq t 103 then .int .i32 else bif Nat.beq t 53 then .rcd [Value.slice none 0 0, Value.int .i64 0, Value.int .i64 0] else bif Nat.beq t 54 then .rcd [Value.slice none 0 0, Value.int .i64 0, Value.int .i64 0] else bif Nat.beq t 72 then .rcd [Value.slice none 0 0, Value.int .i64 0, Value.int .i64 0] else bif Nat.beq t 73 then .rcd [Value.slice none 0 0, Value.int .i64 0, Value.int .i64 0] else .no

theorem kd_ok (t : TypeId) : Kd.ok Try.prog t (kd t) := by
  unfold kd
  by_cases h1 : t = 1
  · subst h1; exact k1
  rw [beq_ne h1, cond_false]
  by_cases h2 : t = 2
  · subst h2; exact k2
  rw [beq_ne h2, cond_false]
  by_cases h3 : t = 3
  · subst h3; exact k3
  rw [beq_ne h3, cond_false]
  by_cases h4 : t = 4
  · subst h4; exact k4
  rw [beq_ne h4, cond_false]
  by_cases h5 : t = 5
  · subst h5; exact k5
  rw [beq_ne h5, cond_false]
  by_cases h6 : t = 6
  · subst h6; exact k6
  rw [beq_ne h6, cond_false]
  by_cases h9 : t = 9
  · subst h9; exact k9
  rw [beq_ne h9, cond_false]
  by_cases h10 : t = 10
  · subst h10; exact k10
  rw [beq_ne h10, cond_false]
  by_cases h11 : t = 11
  · subst h11; exact k11
  rw [beq_ne h11, cond_false]
  by_cases h12 : t = 12
  · subst h12; exact k12
  rw [beq_ne h12, cond_false]
  by_cases h15 : t = 15
  · subst h15; exact k15
  rw [beq_ne h15, cond_false]
  by_cases h16 : t = 16
  · subst h16; exact k16
  rw [beq_ne h16, cond_false]
  by_cases h17 : t = 17
  · subst h17; exact k17
  rw [beq_ne h17, cond_false]
  by_cases h20 : t = 20
  · subst h20; exact k20
  rw [beq_ne h20, cond_false]
  by_cases h21 : t = 21
  · subst h21; exact k21
  rw [beq_ne h21, cond_false]
  by_cases h22 : t = 22
  · subst h22; exact k22
  rw [beq_ne h22, cond_false]
  by_cases h23 : t = 23
  · subst h23; exact k23
  rw [beq_ne h23, cond_false]
  by_cases h24 : t = 24
  · subst h24; exact k24
  rw [beq_ne h24, cond_false]
  by_cases h25 : t = 25
  · subst h25; exact k25
  rw [beq_ne h25, cond_false]
  by_cases h27 : t = 27
  · subst h27; exact k27
  rw [beq_ne h27, cond_false]
  by_cases h29 : t = 29
  · subst h29; exact k29
  rw [beq_ne h29, cond_false]
  by_cases h30 : t = 30
  · subst h30; exact k30
  rw [beq_ne h30, cond_false]
  by_cases h31 : t = 31
  · subst h31; exact k31
  rw [beq_ne h31, cond_false]
  by_cases h33 : t = 33
  · subst h33; exact k33
  rw [beq_ne h33, cond_false]
  by_cases h35 : t = 35
  · subst h35; exact k35
  rw [beq_ne h35, cond_false]
  by_cases h36 : t = 36
  · subst h36; exact k36
  rw [beq_ne h36, cond_false]
  by_cases h37 : t = 37
  · subst h37; exact k37
  rw [beq_ne h37, cond_false]
  by_cases h38 : t = 38
  · subst h38; exact k38
  rw [beq_ne h38, cond_false]
  by_cases h40 : t = 40
  · subst h40; exact k40
  rw [beq_ne h40, cond_false]
  by_cases h41 : t = 41
  · subst h41; exact k41
  rw [beq_ne h41, cond_false]
  by_cases h42 : t = 42
  · subst h42; exact k42
  rw [beq_ne h42, cond_false]
  by_cases h43 : t = 43
  · subst h43; exact k43
  rw [beq_ne h43, cond_false]
  by_cases h44 : t = 44
  · subst h44; exact k44
  rw [beq_ne h44, cond_false]
  by_cases h45 : t = 45
  · subst h45; exact k45
  rw [beq_ne h45, cond_false]
  by_cases h46 : t = 46
  · subst h46; exact k46
  rw [beq_ne h46, cond_false]
  by_cases h47 : t = 47
  · subst h47; exact k47
  rw [beq_ne h47, cond_false]
  by_cases h48 : t = 48
  · subst h48; exact k48
  rw [beq_ne h48, cond_false]
  by_cases h49 : t = 49
  · subst h49; exact k49
  rw [beq_ne h49, cond_false]
  by_cases h50 : t = 50
  · subst h50; exact k50
  rw [beq_ne h50, cond_false]
  by_cases h51 : t = 51
  · subst h51; exact k51
  rw [beq_ne h51, cond_false]
  by_cases h52 : t = 52
  · subst h52; exact k52
  rw [beq_ne h52, cond_false]
  by_cases h55 : t = 55
  · subst h55; exact k55
  rw [beq_ne h55, cond_false]
  by_cases h56 : t = 56
  · subst h56; exact k56
  rw [beq_ne h56, cond_false]
  by_cases h57 : t = 57
  · subst h57; exact k57
  rw [beq_ne h57, cond_false]
  by_cases h58 : t = 58
  · subst h58; exact k58
  rw [beq_ne h58, cond_false]
  by_cases h59 : t = 59
  · subst h59; exact k59
  rw [beq_ne h59, cond_false]
  by_cases h60 : t = 60
  · subst h60; exact k60
  rw [beq_ne h60, cond_false]
  by_cases h61 : t = 61
  · subst h61; exact k61
  rw [beq_ne h61, cond_false]
  by_cases h62 : t = 62
  · subst h62; exact k62
  rw [beq_ne h62, cond_false]
  by_cases h63 : t = 63
  · subst h63; exact k63
  rw [beq_ne h63, cond_false]
  by_cases h64 : t = 64
  · subst h64; exact k64
  rw [beq_ne h64, cond_false]
  by_cases h65 : t = 65
  · subst h65; exact k65
  rw [beq_ne h65, cond_false]
  by_cases h66 : t = 66
  · subst h66; exact k66
  rw [beq_ne h66, cond_false]
  by_cases h67 : t = 67
  · subst h67; exact k67
  rw [beq_ne h67, cond_false]
  by_cases h68 : t = 68
  · subst h68; exact k68
  rw [beq_ne h68, cond_false]
  by_cases h69 : t = 69
  · subst h69; exact k69
  rw [beq_ne h69, cond_false]
  by_cases h70 : t = 70
  · subst h70; exact k70
  rw [beq_ne h70, cond_false]
  by_cases h71 : t = 71
  · subst h71; exact k71
  rw [beq_ne h71, cond_false]
  by_cases h74 : t = 74
  · subst h74; exact k74
  rw [beq_ne h74, cond_false]
  by_cases h75 : t = 75
  · subst h75; exact k75
  rw [beq_ne h75, cond_false]
  by_cases h76 : t = 76
  · subst h76; exact k76
  rw [beq_ne h76, cond_false]
  by_cases h77 : t = 77
  · subst h77; exact k77
  rw [beq_ne h77, cond_false]
  by_cases h78 : t = 78
  · subst h78; exact k78
  rw [beq_ne h78, cond_false]
  by_cases h79 : t = 79
  · subst h79; exact k79
  rw [beq_ne h79, cond_false]
  by_cases h80 : t = 80
  · subst h80; exact k80
  rw [beq_ne h80, cond_false]
  by_cases h81 : t = 81
  · subst h81; exact k81
  rw [beq_ne h81, cond_false]
  by_cases h82 : t = 82
  · subst h82; exact k82
  rw [beq_ne h82, cond_false]
  by_cases h83 : t = 83
  · subst h83; exact k83
  rw [beq_ne h83, cond_false]
  by_cases h84 : t = 84
  · subst h84; exact k84
  rw [beq_ne h84, cond_false]
  by_cases h85 : t = 85
  · subst h85; exact k85
  rw [beq_ne h85, cond_false]
  by_cases h86 : t = 86
  · subst h86; exact k86
  rw [beq_ne h86, cond_false]
  by_cases h87 : t = 87
  · subst h87; exact k87
  rw [beq_ne h87, cond_false]
  by_cases h88 : t = 88
  · subst h88; exact k88
  rw [beq_ne h88, cond_false]
  by_cases h89 : t = 89
  · subst h89; exact k89
  rw [beq_ne h89, cond_false]
  by_cases h90 : t = 90
  · subst h90; exact k90
  rw [beq_ne h90, cond_false]
  by_cases h96 : t = 96
  · subst h96; exact k96
  rw [beq_ne h96, cond_false]
  by_cases h97 : t = 97
  · subst h97; exact k97
  rw [beq_ne h97, cond_false]
  by_cases h98 : t = 98
  · subst h98; exact k98
  rw [beq_ne h98, cond_false]
  by_cases h99 : t = 99
  · subst h99; exact k99
  rw [beq_ne h99, cond_false]
  by_cases h100 : t = 100
  · subst h100; exact k100
  rw [beq_ne h100, cond_false]
  by_cases h101 : t = 101
  · subst h101; exact k101
  rw [beq_ne h101, cond_false]
  by_cases h102 : t = 102
  · subst h102; exact k102
  rw [beq_ne h102, cond_false]
  by_cases h103 : t = 103
  · subst h103; exact k103
  rw [beq_ne h103, cond_false]
  by_cases h53 : t = 53
  · subst h53; exact k53
  rw [beq_ne h53, cond_false]
  by_cases h54 : t = 54
  · subst h54; exact k54
  rw [beq_ne h54, cond_false]
  by_cases h72 : t = 72
  · subst h72; exact k72
  rw [beq_ne h72, cond_false]
  by_cases h73 : t = 73
  · subst h73; exact k73
  rw [beq_ne h73, cond_false]
  exact trivial

theorem mixed : Try.prog.follows .mixedOrders = true := by kernel_rfl

end Go.Proofs.Ytjgnnjegaedinaa.Hx

namespace Go.Proofs.Ytjgnnjegaedinaa.Hx
open Go.RowKit
variable {dm : Bool}

def marks (k : Int) (n : Nat) : List Int := (List.range n).map fun (j : Nat) => k + (j : Int)

theorem marks_length (k : Int) (n : Nat) : (marks k n).length = n := by simp [marks]

theorem marks_succ (k : Int) (n : Nat) : marks k (n + 1) = marks k n ++ [k + n] := by simp [marks, List.range_succ]

end Go.Proofs.Ytjgnnjegaedinaa.Hx

namespace Go.Proofs.Ytjgnnjegaedinaa.Hx
open Go.RowKit
variable {dm : Bool}

theorem spec_l1In (h : Heap) (x a b : Int) : HCalls dm Try.prog 49 [I x, I a, I b] h (fun r h' => r = B (decide (a ≤ x) && decide (x ≤ b)) ∧ h' = h) := by
  refine calls_of_hFun (m := 0) kd_ok mixed Try.func49 rfl (by kernel_rfl) rfl rfl (of_decide_eq_true rfl) ?_; unfold hFun; (conv => whnf)
  by_cases h1 : x ≥ a <;> by_cases h2 : x ≤ b <;> (repeat (first | (refine ⟨rfl, Ints.len (by assumption) ?_⟩; conv => whnf) | (refine ⟨rfl, Rows.len (by assumption) ?_⟩; conv => whnf) | (refine ⟨rfl, HLen.sl ?_⟩; conv => whnf) | (refine ⟨rfl, At.load (by assumption) ?_⟩; conv => whnf) | (refine HIf.yes ?_; conv => whnf) | (refine HIf.no ?_; conv => whnf) | (refine HIf.isT (by assumption) ?_; conv => whnf) | (refine HIf.isF (by assumption) ?_; conv => whnf) | (refine HIf.decT (by assumption) ?_; conv => whnf) | (refine HIf.decF (by assumption) ?_; conv => whnf) | (refine HIf.beqT (by assumption) ?_; conv => whnf) | (refine HIf.beqF (by assumption) ?_; conv => whnf) | (refine HIf.bneT (by assumption) ?_; conv => whnf) | (refine HIf.bneF (by assumption) ?_; conv => whnf) | (refine ⟨rfl, Ints.idxN (by assumption) (by omega) (fun p hp => ?_)⟩; conv => whnf) | (refine ⟨rfl, Rows.idxN (by assumption) (by omega) (fun p y hp hy => ?_)⟩; conv => whnf) | (refine And.intro (show Kd.isBool _ = true from rfl) ?_; conv => whnf) | (refine ⟨rfl, Ints.idx (by assumption) (by omega) (by omega) (fun p hp => ?_)⟩; conv => whnf) | (refine ⟨rfl, Rows.idx (by assumption) (by omega) (by omega) (fun p y hp hy => ?_)⟩; conv => whnf) | (refine HArith.fits (by omega) (by omega) ?_; conv => whnf) | (refine Or.inl (And.intro (show Region.lexB _ _ = true by kernel_rfl) ?_); conv => whnf)))
  all_goals exact ⟨by simp [h1, h2]; try omega, rfl⟩

theorem impl_IsCartan (h : Heap) (x : H0) (c : List (List Int)) (hx : Rows h x c) (hc : c.length ≤ 2199023255552) : HCalls dm Try.prog 78 [.s x] h (fun r h' => r = B (isCartan c) ∧ h' = h) := by
  refine calls_of_hFun (m := 0) kd_ok mixed Try.func78 rfl (by kernel_rfl) rfl rfl (of_decide_eq_true rfl) ?_; unfold hFun; (conv => whnf)
  have fin : ∀ (b : Bool), isCartan c = b → B b = B (isCartan c) := fun b hb => by rw [hb]
  by_cases h1 : (c.length : Int) < 1
  · (repeat (first | (refine ⟨rfl, Ints.len (by assumption) ?_⟩; conv => whnf) | (refine ⟨rfl, Rows.len (by assumption) ?_⟩; conv => whnf) | (refine ⟨rfl, HLen.sl ?_⟩; conv => whnf) | (refine ⟨rfl, At.load (by assumption) ?_⟩; conv => whnf) | (refine HIf.yes ?_; conv => whnf) | (refine HIf.no ?_; conv => whnf) | (refine HIf.isT (by assumption) ?_; conv => whnf) | (refine HIf.isF (by assumption) ?_; conv => whnf) | (refine HIf.decT (by assumption) ?_; conv => whnf) | (refine HIf.decF (by assumption) ?_; conv => whnf) | (refine HIf.beqT (by assumption) ?_; conv => whnf) | (refine HIf.beqF (by assumption) ?_; conv => whnf) | (refine HIf.bneT (by assumption) ?_; conv => whnf) | (refine HIf.bneF (by assumption) ?_; conv => whnf) | (refine ⟨rfl, Ints.idxN (by assumption) (by omega) (fun p hp => ?_)⟩; conv => whnf) | (refine ⟨rfl, Rows.idxN (by assumption) (by omega) (fun p y hp hy => ?_)⟩; conv => whnf) | (refine And.intro (show Kd.isBool _ = true from rfl) ?_; conv => whnf) | (refine ⟨rfl, Ints.idx (by assumption) (by omega) (by omega) (fun p hp => ?_)⟩; conv => whnf) | (refine ⟨rfl, Rows.idx (by assumption) (by omega) (by omega) (fun p y hp hy => ?_)⟩; conv => whnf) | (refine HArith.fits (by omega) (by omega) ?_; conv => whnf) | (refine Or.inl (And.intro (show Region.lexB _ _ = true by kernel_rfl) ?_); conv => whnf)))
    exact ⟨fin false (by simp [isCartan, show ¬ 1 ≤ c.length by omega]), rfl⟩
  by_cases h2 : (c.length : Int) > 4
  · (repeat (first | (refine ⟨rfl, Ints.len (by assumption) ?_⟩; conv => whnf) | (refine ⟨rfl, Rows.len (by assumption) ?_⟩; conv => whnf) | (refine ⟨rfl, HLen.sl ?_⟩; conv => whnf) | (refine ⟨rfl, At.load (by assumption) ?_⟩; conv => whnf) | (refine HIf.yes ?_; conv => whnf) | (refine HIf.no ?_; conv => whnf) | (refine HIf.isT (by assumption) ?_; conv => whnf) | (refine HIf.isF (by assumption) ?_; conv => whnf) | (refine HIf.decT (by assumption) ?_; conv => whnf) | (refine HIf.decF (by assumption) ?_; conv => whnf) | (refine HIf.beqT (by assumption) ?_; conv => whnf) | (refine HIf.beqF (by assumption) ?_; conv => whnf) | (refine HIf.bneT (by assumption) ?_; conv => whnf) | (refine HIf.bneF (by assumption) ?_; conv => whnf) | (refine ⟨rfl, Ints.idxN (by assumption) (by omega) (fun p hp => ?_)⟩; conv => whnf) | (refine ⟨rfl, Rows.idxN (by assumption) (by omega) (fun p y hp hy => ?_)⟩; conv => whnf) | (refine And.intro (show Kd.isBool _ = true from rfl) ?_; conv => whnf) | (refine ⟨rfl, Ints.idx (by assumption) (by omega) (by omega) (fun p hp => ?_)⟩; conv => whnf) | (refine ⟨rfl, Rows.idx (by assumption) (by omega) (by omega) (fun p y hp hy => ?_)⟩; conv => whnf) | (refine HArith.fits (by omega) (by omega) ?_; conv => whnf) | (refine Or.inl (And.intro (show Region.lexB _ _ = true by kernel_rfl) ?_); conv => whnf)))
    exact ⟨fin false (by simp [isCartan, show ¬ c.length ≤ 4 by omega]), rfl⟩
  (repeat (first | (refine ⟨rfl, Ints.len (by assumption) ?_⟩; conv => whnf) | (refine ⟨rfl, Rows.len (by assumption) ?_⟩; conv => whnf) | (refine ⟨rfl, HLen.sl ?_⟩; conv => whnf) | (refine ⟨rfl, At.load (by assumption) ?_⟩; conv => whnf) | (refine HIf.yes ?_; conv => whnf) | (refine HIf.no ?_; conv => whnf) | (refine HIf.isT (by assumption) ?_; conv => whnf) | (refine HIf.isF (by assumption) ?_; conv => whnf) | (refine HIf.decT (by assumption) ?_; conv => whnf) | (refine HIf.decF (by assumption) ?_; conv => whnf) | (refine HIf.beqT (by assumption) ?_; conv => whnf) | (refine HIf.beqF (by assumption) ?_; conv => whnf) | (refine HIf.bneT (by assumption) ?_; conv => whnf) | (refine HIf.bneF (by assumption) ?_; conv => whnf) | (refine ⟨rfl, Ints.idxN (by assumption) (by omega) (fun p hp => ?_)⟩; conv => whnf) | (refine ⟨rfl, Rows.idxN (by assumption) (by omega) (fun p y hp hy => ?_)⟩; conv => whnf) | (refine And.intro (show Kd.isBool _ = true from rfl) ?_; conv => whnf) | (refine ⟨rfl, Ints.idx (by assumption) (by omega) (by omega) (fun p hp => ?_)⟩; conv => whnf) | (refine ⟨rfl, Rows.idx (by assumption) (by omega) (by omega) (fun p y hp hy => ?_)⟩; conv => whnf) | (refine HArith.fits (by omega) (by omega) ?_; conv => whnf) | (refine Or.inl (And.intro (show Region.lexB _ _ = true by kernel_rfl) ?_); conv => whnf)))
  refine HLoop.intro [19] [20, 21, 22, 5, 23, 24, 25, 26, 2, 27, 19] (by kernel_rfl) (by kernel_rfl) (fun vs h' => ∃ i : Nat, vs = [I i] ∧ h' = h ∧ i ≤ c.length ∧ ∀ j, j < i → (c.getD j []).length = c.length) (fun vs _ => c.length - natAt vs 0) ⟨0, rfl, rfl, by omega, fun j hj => by omega⟩ ?_
  rintro vs h' ⟨i, rfl, rfl, hi, hall⟩
  (conv => whnf)
  refine HIf.dec (fun hlt => ?_) (fun hge => ?_)
  · (conv => whnf)
    (repeat (first | (refine ⟨rfl, Ints.len (by assumption) ?_⟩; conv => whnf) | (refine ⟨rfl, Rows.len (by assumption) ?_⟩; conv => whnf) | (refine ⟨rfl, HLen.sl ?_⟩; conv => whnf) | (refine ⟨rfl, At.load (by assumption) ?_⟩; conv => whnf) | (refine HIf.yes ?_; conv => whnf) | (refine HIf.no ?_; conv => whnf) | (refine HIf.isT (by assumption) ?_; conv => whnf) | (refine HIf.isF (by assumption) ?_; conv => whnf) | (refine HIf.decT (by assumption) ?_; conv => whnf) | (refine HIf.decF (by assumption) ?_; conv => whnf) | (refine HIf.beqT (by assumption) ?_; conv => whnf) | (refine HIf.beqF (by assumption) ?_; conv => whnf) | (refine HIf.bneT (by assumption) ?_; conv => whnf) | (refine HIf.bneF (by assumption) ?_; conv => whnf) | (refine ⟨rfl, Ints.idxN (by assumption) (by omega) (fun p hp => ?_)⟩; conv => whnf) | (refine ⟨rfl, Rows.idxN (by assumption) (by omega) (fun p y hp hy => ?_)⟩; conv => whnf) | (refine And.intro (show Kd.isBool _ = true from rfl) ?_; conv => whnf) | (refine ⟨rfl, Ints.idx (by assumption) (by omega) (by omega) (fun p hp => ?_)⟩; conv => whnf) | (refine ⟨rfl, Rows.idx (by assumption) (by omega) (by omega) (fun p y hp hy => ?_)⟩; conv => whnf) | (refine HArith.fits (by omega) (by omega) ?_; conv => whnf) | (refine Or.inl (And.intro (show Region.lexB _ _ = true by kernel_rfl) ?_); conv => whnf)))
    refine HIf.bne (fun hne => ?_) (fun he => ?_)
    · (conv => whnf)
      exact ⟨fin false (by simp [isCartan, not_square (c := c) (i := i) (by omega) (by omega)]), rfl⟩
    · (conv => whnf)
      (repeat (first | (refine ⟨rfl, Ints.len (by assumption) ?_⟩; conv => whnf) | (refine ⟨rfl, Rows.len (by assumption) ?_⟩; conv => whnf) | (refine ⟨rfl, HLen.sl ?_⟩; conv => whnf) | (refine ⟨rfl, At.load (by assumption) ?_⟩; conv => whnf) | (refine HIf.yes ?_; conv => whnf) | (refine HIf.no ?_; conv => whnf) | (refine HIf.isT (by assumption) ?_; conv => whnf) | (refine HIf.isF (by assumption) ?_; conv => whnf) | (refine HIf.decT (by assumption) ?_; conv => whnf) | (refine HIf.decF (by assumption) ?_; conv => whnf) | (refine HIf.beqT (by assumption) ?_; conv => whnf) | (refine HIf.beqF (by assumption) ?_; conv => whnf) | (refine HIf.bneT (by assumption) ?_; conv => whnf) | (refine HIf.bneF (by assumption) ?_; conv => whnf) | (refine ⟨rfl, Ints.idxN (by assumption) (by omega) (fun p hp => ?_)⟩; conv => whnf) | (refine ⟨rfl, Rows.idxN (by assumption) (by omega) (fun p y hp hy => ?_)⟩; conv => whnf) | (refine And.intro (show Kd.isBool _ = true from rfl) ?_; conv => whnf) | (refine ⟨rfl, Ints.idx (by assumption) (by omega) (by omega) (fun p hp => ?_)⟩; conv => whnf) | (refine ⟨rfl, Rows.idx (by assumption) (by omega) (by omega) (fun p y hp hy => ?_)⟩; conv => whnf) | (refine HArith.fits (by omega) (by omega) ?_; conv => whnf) | (refine Or.inl (And.intro (show Region.lexB _ _ = true by kernel_rfl) ?_); conv => whnf)))
      refine ⟨⟨i + 1, rfl, rfl, by omega, fun j hj => ?_⟩, by show c.length - (i + 1) < c.length - i; omega⟩
      by_cases hji : j = i
      · subst hji; omega
      · exact hall j (by omega)
  have hrow : ∀ j, j < c.length → (c.getD j []).length = c.length := fun j hj => hall j (by omega)
  have hsq := square_of hrow
  (conv => whnf)
  refine HLoop.intro [29] [30, 31, 6, 32, 33, 34, 35, 7, 36, 37, 38, 39, 40, 41, 42, 8, 43, 44, 45, 46, 47, 48, 49, 50, 51, 52, 53, 54, 55, 56, 57, 58, 59, 60, 61, 62, 63, 64, 65, 66, 67, 68, 69, 70, 71, 72, 73, 74, 75, 2, 76, 33, 77, 29] (by kernel_rfl) (by kernel_rfl) (fun vs h'' => ∃ i : Nat, vs = [I i] ∧ h'' = h' ∧ i ≤ c.length ∧ ∀ k, k < i → ∀ j, j < c.length → cartBad c k j = false) (fun vs _ => c.length - natAt vs 0) ⟨0, rfl, rfl, by omega, fun j hj => by omega⟩ ?_
  rintro vs h'' ⟨i, rfl, rfl, hi, hall⟩
  (conv => whnf)
  refine HIf.dec (fun hlt => ?_) (fun hge => ?_)
  · (conv => whnf)
    refine HLoop.intro [33] [34, 35, 7, 36, 37, 38, 39, 40, 41, 42, 8, 43, 44, 45, 46, 47, 48, 49, 50, 51, 52, 53, 54, 55, 56, 57, 58, 59, 60, 61, 62, 63, 64, 65, 66, 67, 68, 69, 70, 71, 72, 73, 74, 75, 2, 76, 33] (by kernel_rfl) (by kernel_rfl) (fun vs h' => ∃ j : Nat, vs = [I j] ∧ h' = h'' ∧ j ≤ c.length ∧ ∀ k, k < j → cartBad c i k = false) (fun vs _ => c.length - natAt vs 0) ⟨0, rfl, rfl, by omega, fun j hj => by omega⟩ ?_
    rintro vs h' ⟨j, rfl, rfl, hj, hin⟩
    (conv => whnf)
    refine HIf.dec (fun hlj => ?_) (fun hgj => ?_)
    · have hri := hrow i (by omega)
      have hrj := hrow j (by omega)
      (conv => whnf)
      (repeat' (first | (refine ⟨rfl, Ints.len (by assumption) ?_⟩; conv => whnf) | (refine ⟨rfl, Rows.len (by assumption) ?_⟩; conv => whnf) | (refine ⟨rfl, HLen.sl ?_⟩; conv => whnf) | (refine ⟨rfl, At.load (by assumption) ?_⟩; conv => whnf) | (refine HIf.yes ?_; conv => whnf) | (refine HIf.no ?_; conv => whnf) | (refine HIf.isT (by assumption) ?_; conv => whnf) | (refine HIf.isF (by assumption) ?_; conv => whnf) | (refine HIf.decT (by assumption) ?_; conv => whnf) | (refine HIf.decF (by assumption) ?_; conv => whnf) | (refine HIf.beqT (by assumption) ?_; conv => whnf) | (refine HIf.beqF (by assumption) ?_; conv => whnf) | (refine HIf.bneT (by assumption) ?_; conv => whnf) | (refine HIf.bneF (by assumption) ?_; conv => whnf) | (refine ⟨rfl, Ints.idxN (by assumption) (by omega) (fun p hp => ?_)⟩; conv => whnf) | (refine ⟨rfl, Rows.idxN (by assumption) (by omega) (fun p y hp hy => ?_)⟩; conv => whnf) | (refine And.intro (show Kd.isBool _ = true from rfl) ?_; conv => whnf) | (refine ⟨rfl, Ints.idx (by assumption) (by omega) (by omega) (fun p hp => ?_)⟩; conv => whnf) | (refine ⟨rfl, Rows.idx (by assumption) (by omega) (by omega) (fun p y hp hy => ?_)⟩; conv => whnf) | (refine HArith.fits (by omega) (by omega) ?_; conv => whnf) | (refine Or.inl (And.intro (show Region.lexB _ _ = true by kernel_rfl) ?_); conv => whnf) | (refine HIf.beq (fun _ => ?_) (fun _ => ?_) <;> (conv => whnf)) | (refine HIf.bne (fun _ => ?_) (fun _ => ?_) <;> (conv => whnf)) | (refine HIf.dec (fun _ => ?_) (fun _ => ?_) <;> (conv => whnf)) | (refine HIf.split (fun _ => ?_) (fun _ => ?_) <;> (conv => whnf))))
      all_goals first
        | (refine ⟨fin false ?_, rfl⟩
           simp only [isCartan, Bool.and_eq_false_iff]
           refine Or.inr (not_cartIn (i := i) (j := j) (by omega) (by omega) ?_)
           simp_all [cartBad, ent]
           try omega)
        | (refine ⟨⟨j + 1, rfl, rfl, by omega, fun k hk => ?_⟩, by show c.length - (j + 1) < c.length - j; omega⟩
           by_cases hkj : k = j
           · subst hkj
             simp_all [cartBad, ent]
             try omega
           · exact hin k (by omega))
    · (conv => whnf)
      (repeat (first | (refine ⟨rfl, Ints.len (by assumption) ?_⟩; conv => whnf) | (refine ⟨rfl, Rows.len (by assumption) ?_⟩; conv => whnf) | (refine ⟨rfl, HLen.sl ?_⟩; conv => whnf) | (refine ⟨rfl, At.load (by assumption) ?_⟩; conv => whnf) | (refine HIf.yes ?_; conv => whnf) | (refine HIf.no ?_; conv => whnf) | (refine HIf.isT (by assumption) ?_; conv => whnf) | (refine HIf.isF (by assumption) ?_; conv => whnf) | (refine HIf.decT (by assumption) ?_; conv => whnf) | (refine HIf.decF (by assumption) ?_; conv => whnf) | (refine HIf.beqT (by assumption) ?_; conv => whnf) | (refine HIf.beqF (by assumption) ?_; conv => whnf) | (refine HIf.bneT (by assumption) ?_; conv => whnf) | (refine HIf.bneF (by assumption) ?_; conv => whnf) | (refine ⟨rfl, Ints.idxN (by assumption) (by omega) (fun p hp => ?_)⟩; conv => whnf) | (refine ⟨rfl, Rows.idxN (by assumption) (by omega) (fun p y hp hy => ?_)⟩; conv => whnf) | (refine And.intro (show Kd.isBool _ = true from rfl) ?_; conv => whnf) | (refine ⟨rfl, Ints.idx (by assumption) (by omega) (by omega) (fun p hp => ?_)⟩; conv => whnf) | (refine ⟨rfl, Rows.idx (by assumption) (by omega) (by omega) (fun p y hp hy => ?_)⟩; conv => whnf) | (refine HArith.fits (by omega) (by omega) ?_; conv => whnf) | (refine Or.inl (And.intro (show Region.lexB _ _ = true by kernel_rfl) ?_); conv => whnf)))
      refine ⟨⟨i + 1, rfl, rfl, by omega, fun k hk j' hj' => ?_⟩, by show c.length - (i + 1) < c.length - i; omega⟩
      by_cases hki : k = i
      · subst hki; exact hin j' (by omega)
      · exact hall k (by omega) j' hj'
  · (conv => whnf)
    exact ⟨fin true (by simp [isCartan, hsq, cartIn_of (c := c) (fun k hk j hj => hall k (by omega) j hj)]; omega), rfl⟩

end Go.Proofs.Ytjgnnjegaedinaa.Hx
