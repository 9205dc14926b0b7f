/-
  The types' facts, each checked by the kernel (printed by a tool of ours from the program's table of types). No condition.
-/
import Derived.Test.YtecindhbaekncaaAwP
import Derived.Test.YtecindhbaekncaaProg
import Derived.KernelRfl
namespace Go.Aw
set_option linter.unusedSimpArgs false
set_option linter.unusedVariables false
open Go.RowKit

theorem tz1 : ksz Go.Proofs.Try.prog 1 = some (false, 1) := by kernel_rfl
theorem tzero1 : kzero Go.Proofs.Try.prog 1 = some [.d .nilfn] := by kernel_rfl
theorem tz2 : ksz Go.Proofs.Try.prog 2 = some (false, 1) := by kernel_rfl
theorem tzero2 : kzero Go.Proofs.Try.prog 2 = some [.d (.int .i64 0)] := by kernel_rfl
theorem tzv2 : kzeroV Go.Proofs.Try.prog 2 = some (.d (.int .i64 0)) := by kernel_rfl
theorem tby2 : kbytes Go.Proofs.Try.prog 2 = some 8 := by kernel_rfl
theorem tint2 : kint Go.Proofs.Try.prog 2 = some .i64 := by kernel_rfl
theorem tlf2 : klf Go.Proofs.Try.prog 2 = 1 := by kernel_rfl
theorem tz3 : ksz Go.Proofs.Try.prog 3 = some (false, 1) := by kernel_rfl
theorem tzero3 : kzero Go.Proofs.Try.prog 3 = some [.d (.int .i64 0)] := by kernel_rfl
theorem tzv3 : kzeroV Go.Proofs.Try.prog 3 = some (.d (.int .i64 0)) := by kernel_rfl
theorem tby3 : kbytes Go.Proofs.Try.prog 3 = some 8 := by kernel_rfl
theorem tint3 : kint Go.Proofs.Try.prog 3 = some .i64 := by kernel_rfl
theorem tlf3 : klf Go.Proofs.Try.prog 3 = 1 := by kernel_rfl
theorem tz4 : ksz Go.Proofs.Try.prog 4 = some (false, 1) := by kernel_rfl
theorem tzero4 : kzero Go.Proofs.Try.prog 4 = some [.d (.bool false)] := by kernel_rfl
theorem tzv4 : kzeroV Go.Proofs.Try.prog 4 = some (.d (.bool false)) := by kernel_rfl
theorem tby4 : kbytes Go.Proofs.Try.prog 4 = some 1 := by kernel_rfl
theorem tlf4 : klf Go.Proofs.Try.prog 4 = 2 := by kernel_rfl
theorem tz5 : ksz Go.Proofs.Try.prog 5 = some (false, 1) := by kernel_rfl
theorem tzero5 : kzero Go.Proofs.Try.prog 5 = some [.d (.int .u8 0)] := by kernel_rfl
theorem tzv5 : kzeroV Go.Proofs.Try.prog 5 = some (.d (.int .u8 0)) := by kernel_rfl
theorem tby5 : kbytes Go.Proofs.Try.prog 5 = some 1 := by kernel_rfl
theorem tint5 : kint Go.Proofs.Try.prog 5 = some .u8 := by kernel_rfl
theorem tlf5 : klf Go.Proofs.Try.prog 5 = 1 := by kernel_rfl
theorem tz6 : ksz Go.Proofs.Try.prog 6 = some (false, 1) := by kernel_rfl
theorem tzero6 : kzero Go.Proofs.Try.prog 6 = some [.d (.int .u8 0)] := by kernel_rfl
theorem tzv6 : kzeroV Go.Proofs.Try.prog 6 = some (.d (.int .u8 0)) := by kernel_rfl
theorem tby6 : kbytes Go.Proofs.Try.prog 6 = some 1 := by kernel_rfl
theorem tint6 : kint Go.Proofs.Try.prog 6 = some .u8 := by kernel_rfl
theorem tlf6 : klf Go.Proofs.Try.prog 6 = 1 := by kernel_rfl
theorem tz7 : ksz Go.Proofs.Try.prog 7 = some (true, 4) := by kernel_rfl
theorem tzero7 : kzero Go.Proofs.Try.prog 7 = some [.d (.int .i64 0), .d (.int .i64 0), .d (.bool false), .d (.int .u8 0)] := by kernel_rfl
theorem tzv7 : kzeroV Go.Proofs.Try.prog 7 = some (.agg [.d (.int .i64 0), .d (.int .i64 0), .d (.bool false), .d (.int .u8 0)]) := by kernel_rfl
theorem tby7 : kbytes Go.Proofs.Try.prog 7 = some 24 := by kernel_rfl
theorem tpls7 : kplaces Go.Proofs.Try.prog 7 = true := by kernel_rfl
theorem tf7_0 : kfld Go.Proofs.Try.prog 7 0 = some (0, 2) := by kernel_rfl
theorem tpl7_0 : kplace Go.Proofs.Try.prog 7 0 = some (0, 1) := by kernel_rfl
theorem tf7_1 : kfld Go.Proofs.Try.prog 7 1 = some (1, 3) := by kernel_rfl
theorem tpl7_1 : kplace Go.Proofs.Try.prog 7 1 = some (1, 1) := by kernel_rfl
theorem tf7_2 : kfld Go.Proofs.Try.prog 7 2 = some (2, 4) := by kernel_rfl
theorem tpl7_2 : kplace Go.Proofs.Try.prog 7 2 = some (2, 1) := by kernel_rfl
theorem tf7_3 : kfld Go.Proofs.Try.prog 7 3 = some (3, 6) := by kernel_rfl
theorem tpl7_3 : kplace Go.Proofs.Try.prog 7 3 = some (3, 1) := by kernel_rfl
theorem tz8 : ksz Go.Proofs.Try.prog 8 = some (true, 4) := by kernel_rfl
theorem tzero8 : kzero Go.Proofs.Try.prog 8 = some [.d (.int .i64 0), .d (.int .i64 0), .d (.bool false), .d (.int .u8 0)] := by kernel_rfl
theorem tzv8 : kzeroV Go.Proofs.Try.prog 8 = some (.agg [.d (.int .i64 0), .d (.int .i64 0), .d (.bool false), .d (.int .u8 0)]) := by kernel_rfl
theorem tby8 : kbytes Go.Proofs.Try.prog 8 = some 24 := by kernel_rfl
theorem tpls8 : kplaces Go.Proofs.Try.prog 8 = true := by kernel_rfl
theorem tf8_0 : kfld Go.Proofs.Try.prog 8 0 = some (0, 2) := by kernel_rfl
theorem tpl8_0 : kplace Go.Proofs.Try.prog 8 0 = some (0, 1) := by kernel_rfl
theorem tf8_1 : kfld Go.Proofs.Try.prog 8 1 = some (1, 3) := by kernel_rfl
theorem tpl8_1 : kplace Go.Proofs.Try.prog 8 1 = some (1, 1) := by kernel_rfl
theorem tf8_2 : kfld Go.Proofs.Try.prog 8 2 = some (2, 4) := by kernel_rfl
theorem tpl8_2 : kplace Go.Proofs.Try.prog 8 2 = some (2, 1) := by kernel_rfl
theorem tf8_3 : kfld Go.Proofs.Try.prog 8 3 = some (3, 6) := by kernel_rfl
theorem tpl8_3 : kplace Go.Proofs.Try.prog 8 3 = some (3, 1) := by kernel_rfl
theorem tz9 : ksz Go.Proofs.Try.prog 9 = some (false, 1) := by kernel_rfl
theorem tzero9 : kzero Go.Proofs.Try.prog 9 = some [.d (.str ByteArray.empty)] := by kernel_rfl
theorem tzv9 : kzeroV Go.Proofs.Try.prog 9 = some (.d (.str ByteArray.empty)) := by kernel_rfl
theorem tby9 : kbytes Go.Proofs.Try.prog 9 = some 16 := by kernel_rfl
theorem tstr9 : kstr Go.Proofs.Try.prog 9 = true := by kernel_rfl
theorem tsl9 : ksl Go.Proofs.Try.prog 9 = false := by kernel_rfl
theorem tseq9 : kseq Go.Proofs.Try.prog 9 = true := by kernel_rfl
theorem tlf9 : klf Go.Proofs.Try.prog 9 = 3 := by kernel_rfl
theorem tz10 : ksz Go.Proofs.Try.prog 10 = some (false, 1) := by kernel_rfl
theorem tzero10 : kzero Go.Proofs.Try.prog 10 = some [.d (.str ByteArray.empty)] := by kernel_rfl
theorem tzv10 : kzeroV Go.Proofs.Try.prog 10 = some (.d (.str ByteArray.empty)) := by kernel_rfl
theorem tby10 : kbytes Go.Proofs.Try.prog 10 = some 16 := by kernel_rfl
theorem tstr10 : kstr Go.Proofs.Try.prog 10 = true := by kernel_rfl
theorem tsl10 : ksl Go.Proofs.Try.prog 10 = false := by kernel_rfl
theorem tseq10 : kseq Go.Proofs.Try.prog 10 = true := by kernel_rfl
theorem tlf10 : klf Go.Proofs.Try.prog 10 = 3 := by kernel_rfl
theorem tz11 : ksz Go.Proofs.Try.prog 11 = some (false, 1) := by kernel_rfl
theorem tzero11 : kzero Go.Proofs.Try.prog 11 = some [.d (.str ByteArray.empty)] := by kernel_rfl
theorem tzv11 : kzeroV Go.Proofs.Try.prog 11 = some (.d (.str ByteArray.empty)) := by kernel_rfl
theorem tby11 : kbytes Go.Proofs.Try.prog 11 = some 16 := by kernel_rfl
theorem tstr11 : kstr Go.Proofs.Try.prog 11 = true := by kernel_rfl
theorem tsl11 : ksl Go.Proofs.Try.prog 11 = false := by kernel_rfl
theorem tseq11 : kseq Go.Proofs.Try.prog 11 = true := by kernel_rfl
theorem tlf11 : klf Go.Proofs.Try.prog 11 = 3 := by kernel_rfl
theorem tz12 : ksz Go.Proofs.Try.prog 12 = some (false, 1) := by kernel_rfl
theorem tzero12 : kzero Go.Proofs.Try.prog 12 = some [.d (.int .u64 0)] := by kernel_rfl
theorem tzv12 : kzeroV Go.Proofs.Try.prog 12 = some (.d (.int .u64 0)) := by kernel_rfl
theorem tby12 : kbytes Go.Proofs.Try.prog 12 = some 8 := by kernel_rfl
theorem tint12 : kint Go.Proofs.Try.prog 12 = some .u64 := by kernel_rfl
theorem tlf12 : klf Go.Proofs.Try.prog 12 = 1 := by kernel_rfl
theorem tz13 : ksz Go.Proofs.Try.prog 13 = some (true, 2) := by kernel_rfl
theorem tzero13 : kzero Go.Proofs.Try.prog 13 = some [.d (.str ByteArray.empty), .d (.int .u64 0)] := by kernel_rfl
theorem tzv13 : kzeroV Go.Proofs.Try.prog 13 = some (.agg [.d (.str ByteArray.empty), .d (.int .u64 0)]) := by kernel_rfl
theorem tby13 : kbytes Go.Proofs.Try.prog 13 = some 24 := by kernel_rfl
theorem tpls13 : kplaces Go.Proofs.Try.prog 13 = true := by kernel_rfl
theorem tf13_0 : kfld Go.Proofs.Try.prog 13 0 = some (0, 9) := by kernel_rfl
theorem tpl13_0 : kplace Go.Proofs.Try.prog 13 0 = some (0, 1) := by kernel_rfl
theorem tf13_1 : kfld Go.Proofs.Try.prog 13 1 = some (1, 12) := by kernel_rfl
theorem tpl13_1 : kplace Go.Proofs.Try.prog 13 1 = some (1, 1) := by kernel_rfl
theorem tz14 : ksz Go.Proofs.Try.prog 14 = some (true, 2) := by kernel_rfl
theorem tzero14 : kzero Go.Proofs.Try.prog 14 = some [.d (.str ByteArray.empty), .d (.int .u64 0)] := by kernel_rfl
theorem tzv14 : kzeroV Go.Proofs.Try.prog 14 = some (.agg [.d (.str ByteArray.empty), .d (.int .u64 0)]) := by kernel_rfl
theorem tby14 : kbytes Go.Proofs.Try.prog 14 = some 24 := by kernel_rfl
theorem tpls14 : kplaces Go.Proofs.Try.prog 14 = true := by kernel_rfl
theorem tf14_0 : kfld Go.Proofs.Try.prog 14 0 = some (0, 9) := by kernel_rfl
theorem tpl14_0 : kplace Go.Proofs.Try.prog 14 0 = some (0, 1) := by kernel_rfl
theorem tf14_1 : kfld Go.Proofs.Try.prog 14 1 = some (1, 12) := by kernel_rfl
theorem tpl14_1 : kplace Go.Proofs.Try.prog 14 1 = some (1, 1) := by kernel_rfl
theorem tz15 : ksz Go.Proofs.Try.prog 15 = some (false, 1) := by kernel_rfl
theorem tzero15 : kzero Go.Proofs.Try.prog 15 = some [.d .nilptr] := by kernel_rfl
theorem tzv15 : kzeroV Go.Proofs.Try.prog 15 = some (.d .nilptr) := by kernel_rfl
theorem tby15 : kbytes Go.Proofs.Try.prog 15 = some 8 := by kernel_rfl
theorem tz16 : ksz Go.Proofs.Try.prog 16 = some (false, 1) := by kernel_rfl
theorem tzero16 : kzero Go.Proofs.Try.prog 16 = some [.d .nilptr] := by kernel_rfl
theorem tzv16 : kzeroV Go.Proofs.Try.prog 16 = some (.d .nilptr) := by kernel_rfl
theorem tby16 : kbytes Go.Proofs.Try.prog 16 = some 8 := by kernel_rfl
theorem tz17 : ksz Go.Proofs.Try.prog 17 = some (false, 1) := by kernel_rfl
theorem tzero17 : kzero Go.Proofs.Try.prog 17 = some [.d .nilptr] := by kernel_rfl
theorem tzv17 : kzeroV Go.Proofs.Try.prog 17 = some (.d .nilptr) := by kernel_rfl
theorem tby17 : kbytes Go.Proofs.Try.prog 17 = some 8 := by kernel_rfl
theorem tz18 : ksz Go.Proofs.Try.prog 18 = some (true, 1) := by kernel_rfl
theorem tzero18 : kzero Go.Proofs.Try.prog 18 = some [.d .nilptr] := by kernel_rfl
theorem tzv18 : kzeroV Go.Proofs.Try.prog 18 = some (.agg [.d .nilptr]) := by kernel_rfl
theorem tby18 : kbytes Go.Proofs.Try.prog 18 = some 8 := by kernel_rfl
theorem tpls18 : kplaces Go.Proofs.Try.prog 18 = true := by kernel_rfl
theorem tf18_0 : kfld Go.Proofs.Try.prog 18 0 = some (0, 17) := by kernel_rfl
theorem tpl18_0 : kplace Go.Proofs.Try.prog 18 0 = some (0, 1) := by kernel_rfl
theorem tz19 : ksz Go.Proofs.Try.prog 19 = some (true, 1) := by kernel_rfl
theorem tzero19 : kzero Go.Proofs.Try.prog 19 = some [.d .nilptr] := by kernel_rfl
theorem tzv19 : kzeroV Go.Proofs.Try.prog 19 = some (.agg [.d .nilptr]) := by kernel_rfl
theorem tby19 : kbytes Go.Proofs.Try.prog 19 = some 8 := by kernel_rfl
theorem tpls19 : kplaces Go.Proofs.Try.prog 19 = true := by kernel_rfl
theorem tf19_0 : kfld Go.Proofs.Try.prog 19 0 = some (0, 17) := by kernel_rfl
theorem tpl19_0 : kplace Go.Proofs.Try.prog 19 0 = some (0, 1) := by kernel_rfl
theorem tz20 : ksz Go.Proofs.Try.prog 20 = some (false, 1) := by kernel_rfl
theorem tzero20 : kzero Go.Proofs.Try.prog 20 = some [.d .niliface] := by kernel_rfl
theorem tzv20 : kzeroV Go.Proofs.Try.prog 20 = some (.d .niliface) := by kernel_rfl
theorem tby20 : kbytes Go.Proofs.Try.prog 20 = some 16 := by kernel_rfl
theorem tz21 : ksz Go.Proofs.Try.prog 21 = some (false, 1) := by kernel_rfl
theorem tzero21 : kzero Go.Proofs.Try.prog 21 = some [.d (.int .i32 0)] := by kernel_rfl
theorem tzv21 : kzeroV Go.Proofs.Try.prog 21 = some (.d (.int .i32 0)) := by kernel_rfl
theorem tby21 : kbytes Go.Proofs.Try.prog 21 = some 4 := by kernel_rfl
theorem tint21 : kint Go.Proofs.Try.prog 21 = some .i32 := by kernel_rfl
theorem tlf21 : klf Go.Proofs.Try.prog 21 = 1 := by kernel_rfl
theorem tz22 : ksz Go.Proofs.Try.prog 22 = some (false, 1) := by kernel_rfl
theorem tzero22 : kzero Go.Proofs.Try.prog 22 = some [.nil] := by kernel_rfl
theorem tzv22 : kzeroV Go.Proofs.Try.prog 22 = some (.nil) := by kernel_rfl
theorem tby22 : kbytes Go.Proofs.Try.prog 22 = some 24 := by kernel_rfl
theorem tel22 : kel Go.Proofs.Try.prog 22 = some (none, 3, 51) := by kernel_rfl
theorem tsl22 : ksl Go.Proofs.Try.prog 22 = true := by kernel_rfl
theorem tstr22 : kstr Go.Proofs.Try.prog 22 = false := by kernel_rfl
theorem tseq22 : kseq Go.Proofs.Try.prog 22 = true := by kernel_rfl
theorem tz23 : ksz Go.Proofs.Try.prog 23 = some (false, 1) := by kernel_rfl
theorem tzero23 : kzero Go.Proofs.Try.prog 23 = some [.d .nilfn] := by kernel_rfl
theorem tz24 : ksz Go.Proofs.Try.prog 24 = some (false, 1) := by kernel_rfl
theorem tzero24 : kzero Go.Proofs.Try.prog 24 = some [.d .nilfn] := by kernel_rfl
theorem tz25 : ksz Go.Proofs.Try.prog 25 = some (false, 1) := by kernel_rfl
theorem tzero25 : kzero Go.Proofs.Try.prog 25 = some [.d .nilfn] := by kernel_rfl
theorem tz26 : ksz Go.Proofs.Try.prog 26 = some (false, 1) := by kernel_rfl
theorem tzero26 : kzero Go.Proofs.Try.prog 26 = some [.nil] := by kernel_rfl
theorem tzv26 : kzeroV Go.Proofs.Try.prog 26 = some (.nil) := by kernel_rfl
theorem tby26 : kbytes Go.Proofs.Try.prog 26 = some 24 := by kernel_rfl
theorem tel26 : kel Go.Proofs.Try.prog 26 = some (none, 1, 54) := by kernel_rfl
theorem tsl26 : ksl Go.Proofs.Try.prog 26 = true := by kernel_rfl
theorem tstr26 : kstr Go.Proofs.Try.prog 26 = false := by kernel_rfl
theorem tseq26 : kseq Go.Proofs.Try.prog 26 = true := by kernel_rfl
theorem tz27 : ksz Go.Proofs.Try.prog 27 = some (false, 1) := by kernel_rfl
theorem tzero27 : kzero Go.Proofs.Try.prog 27 = some [.d (.int .i64 0)] := by kernel_rfl
theorem tzv27 : kzeroV Go.Proofs.Try.prog 27 = some (.d (.int .i64 0)) := by kernel_rfl
theorem tby27 : kbytes Go.Proofs.Try.prog 27 = some 8 := by kernel_rfl
theorem tint27 : kint Go.Proofs.Try.prog 27 = some .i64 := by kernel_rfl
theorem tlf27 : klf Go.Proofs.Try.prog 27 = 1 := by kernel_rfl
theorem tz29 : ksz Go.Proofs.Try.prog 29 = some (false, 1) := by kernel_rfl
theorem tzero29 : kzero Go.Proofs.Try.prog 29 = some [.d .nilfn] := by kernel_rfl
theorem tz30 : ksz Go.Proofs.Try.prog 30 = some (false, 1) := by kernel_rfl
theorem tzero30 : kzero Go.Proofs.Try.prog 30 = some [.d .nilfn] := by kernel_rfl
theorem tz31 : ksz Go.Proofs.Try.prog 31 = some (false, 1) := by kernel_rfl
theorem tzero31 : kzero Go.Proofs.Try.prog 31 = some [.d .nilfn] := by kernel_rfl
theorem tz32 : ksz Go.Proofs.Try.prog 32 = some (false, 1) := by kernel_rfl
theorem tzero32 : kzero Go.Proofs.Try.prog 32 = some [.d .nilfn] := by kernel_rfl
theorem tz33 : ksz Go.Proofs.Try.prog 33 = some (true, 2) := by kernel_rfl
theorem tzero33 : kzero Go.Proofs.Try.prog 33 = some [.d (.int .i64 0), .d (.int .i64 0)] := by kernel_rfl
theorem tzv33 : kzeroV Go.Proofs.Try.prog 33 = some (.agg [.d (.int .i64 0), .d (.int .i64 0)]) := by kernel_rfl
theorem tby33 : kbytes Go.Proofs.Try.prog 33 = some 16 := by kernel_rfl
theorem tpls33 : kplaces Go.Proofs.Try.prog 33 = true := by kernel_rfl
theorem tf33_0 : kfld Go.Proofs.Try.prog 33 0 = some (0, 2) := by kernel_rfl
theorem tpl33_0 : kplace Go.Proofs.Try.prog 33 0 = some (0, 1) := by kernel_rfl
theorem tf33_1 : kfld Go.Proofs.Try.prog 33 1 = some (1, 2) := by kernel_rfl
theorem tpl33_1 : kplace Go.Proofs.Try.prog 33 1 = some (1, 1) := by kernel_rfl
theorem tz34 : ksz Go.Proofs.Try.prog 34 = some (true, 2) := by kernel_rfl
theorem tzero34 : kzero Go.Proofs.Try.prog 34 = some [.d (.int .i64 0), .d (.int .i64 0)] := by kernel_rfl
theorem tzv34 : kzeroV Go.Proofs.Try.prog 34 = some (.agg [.d (.int .i64 0), .d (.int .i64 0)]) := by kernel_rfl
theorem tby34 : kbytes Go.Proofs.Try.prog 34 = some 16 := by kernel_rfl
theorem tst34 : kst Go.Proofs.Try.prog 34 = some [(2, 0), (2, 1)] := by kernel_rfl
theorem tpls34 : kplaces Go.Proofs.Try.prog 34 = true := by kernel_rfl
theorem tf34_0 : kfld Go.Proofs.Try.prog 34 0 = some (0, 2) := by kernel_rfl
theorem tpl34_0 : kplace Go.Proofs.Try.prog 34 0 = some (0, 1) := by kernel_rfl
theorem tf34_1 : kfld Go.Proofs.Try.prog 34 1 = some (1, 2) := by kernel_rfl
theorem tpl34_1 : kplace Go.Proofs.Try.prog 34 1 = some (1, 1) := by kernel_rfl
theorem tz35 : ksz Go.Proofs.Try.prog 35 = some (true, 4) := by kernel_rfl
theorem tzero35 : kzero Go.Proofs.Try.prog 35 = some [.d (.int .i64 0), .d (.int .i64 0), .d (.int .i64 0), .d (.int .i64 0)] := by kernel_rfl
theorem tzv35 : kzeroV Go.Proofs.Try.prog 35 = some (.agg [.d (.int .i64 0), .d (.int .i64 0), .d (.int .i64 0), .d (.int .i64 0)]) := by kernel_rfl
theorem tby35 : kbytes Go.Proofs.Try.prog 35 = some 32 := by kernel_rfl
theorem tpls35 : kplaces Go.Proofs.Try.prog 35 = true := by kernel_rfl
theorem tf35_0 : kfld Go.Proofs.Try.prog 35 0 = some (0, 2) := by kernel_rfl
theorem tpl35_0 : kplace Go.Proofs.Try.prog 35 0 = some (0, 1) := by kernel_rfl
theorem tf35_1 : kfld Go.Proofs.Try.prog 35 1 = some (1, 2) := by kernel_rfl
theorem tpl35_1 : kplace Go.Proofs.Try.prog 35 1 = some (1, 1) := by kernel_rfl
theorem tf35_2 : kfld Go.Proofs.Try.prog 35 2 = some (2, 2) := by kernel_rfl
theorem tpl35_2 : kplace Go.Proofs.Try.prog 35 2 = some (2, 1) := by kernel_rfl
theorem tf35_3 : kfld Go.Proofs.Try.prog 35 3 = some (3, 2) := by kernel_rfl
theorem tpl35_3 : kplace Go.Proofs.Try.prog 35 3 = some (3, 1) := by kernel_rfl
theorem tz36 : ksz Go.Proofs.Try.prog 36 = some (true, 4) := by kernel_rfl
theorem tzero36 : kzero Go.Proofs.Try.prog 36 = some [.d (.int .i64 0), .d (.int .i64 0), .d (.int .i64 0), .d (.int .i64 0)] := by kernel_rfl
theorem tzv36 : kzeroV Go.Proofs.Try.prog 36 = some (.agg [.d (.int .i64 0), .d (.int .i64 0), .d (.int .i64 0), .d (.int .i64 0)]) := by kernel_rfl
theorem tby36 : kbytes Go.Proofs.Try.prog 36 = some 32 := by kernel_rfl
theorem tst36 : kst Go.Proofs.Try.prog 36 = some [(2, 0), (2, 1), (2, 2), (2, 3)] := by kernel_rfl
theorem tpls36 : kplaces Go.Proofs.Try.prog 36 = true := by kernel_rfl
theorem tf36_0 : kfld Go.Proofs.Try.prog 36 0 = some (0, 2) := by kernel_rfl
theorem tpl36_0 : kplace Go.Proofs.Try.prog 36 0 = some (0, 1) := by kernel_rfl
theorem tf36_1 : kfld Go.Proofs.Try.prog 36 1 = some (1, 2) := by kernel_rfl
theorem tpl36_1 : kplace Go.Proofs.Try.prog 36 1 = some (1, 1) := by kernel_rfl
theorem tf36_2 : kfld Go.Proofs.Try.prog 36 2 = some (2, 2) := by kernel_rfl
theorem tpl36_2 : kplace Go.Proofs.Try.prog 36 2 = some (2, 1) := by kernel_rfl
theorem tf36_3 : kfld Go.Proofs.Try.prog 36 3 = some (3, 2) := by kernel_rfl
theorem tpl36_3 : kplace Go.Proofs.Try.prog 36 3 = some (3, 1) := by kernel_rfl
theorem tz38 : ksz Go.Proofs.Try.prog 38 = some (false, 1) := by kernel_rfl
theorem tzero38 : kzero Go.Proofs.Try.prog 38 = some [.d .nilfn] := by kernel_rfl
theorem tz40 : ksz Go.Proofs.Try.prog 40 = some (false, 1) := by kernel_rfl
theorem tzero40 : kzero Go.Proofs.Try.prog 40 = some [.d .nilfn] := by kernel_rfl
theorem tz41 : ksz Go.Proofs.Try.prog 41 = some (false, 1) := by kernel_rfl
theorem tzero41 : kzero Go.Proofs.Try.prog 41 = some [.d .nilfn] := by kernel_rfl
theorem tz42 : ksz Go.Proofs.Try.prog 42 = some (false, 1) := by kernel_rfl
theorem tzero42 : kzero Go.Proofs.Try.prog 42 = some [.d .nilfn] := by kernel_rfl
theorem tz44 : ksz Go.Proofs.Try.prog 44 = some (false, 1) := by kernel_rfl
theorem tzero44 : kzero Go.Proofs.Try.prog 44 = some [.d .nilfn] := by kernel_rfl
theorem tz45 : ksz Go.Proofs.Try.prog 45 = some (false, 1) := by kernel_rfl
theorem tzero45 : kzero Go.Proofs.Try.prog 45 = some [.d .nilfn] := by kernel_rfl
theorem tz46 : ksz Go.Proofs.Try.prog 46 = some (false, 1) := by kernel_rfl
theorem tzero46 : kzero Go.Proofs.Try.prog 46 = some [.d .nilfn] := by kernel_rfl
theorem tz47 : ksz Go.Proofs.Try.prog 47 = some (false, 1) := by kernel_rfl
theorem tzero47 : kzero Go.Proofs.Try.prog 47 = some [.nil] := by kernel_rfl
theorem tzv47 : kzeroV Go.Proofs.Try.prog 47 = some (.nil) := by kernel_rfl
theorem tby47 : kbytes Go.Proofs.Try.prog 47 = some 24 := by kernel_rfl
theorem tel47 : kel Go.Proofs.Try.prog 47 = some (none, 1, 2) := by kernel_rfl
theorem tsl47 : ksl Go.Proofs.Try.prog 47 = true := by kernel_rfl
theorem tstr47 : kstr Go.Proofs.Try.prog 47 = false := by kernel_rfl
theorem tseq47 : kseq Go.Proofs.Try.prog 47 = true := by kernel_rfl
theorem tz48 : ksz Go.Proofs.Try.prog 48 = some (false, 1) := by kernel_rfl
theorem tzero48 : kzero Go.Proofs.Try.prog 48 = some [.d .nilfn] := by kernel_rfl
theorem tz49 : ksz Go.Proofs.Try.prog 49 = some (false, 1) := by kernel_rfl
theorem tzero49 : kzero Go.Proofs.Try.prog 49 = some [.d .nilfn] := by kernel_rfl
theorem tz50 : ksz Go.Proofs.Try.prog 50 = some (true, 3) := by kernel_rfl
theorem tzero50 : kzero Go.Proofs.Try.prog 50 = some [.d (.int .i64 0), .d (.int .i64 0), .d (.int .i64 0)] := by kernel_rfl
theorem tzv50 : kzeroV Go.Proofs.Try.prog 50 = some (.agg [.d (.int .i64 0), .d (.int .i64 0), .d (.int .i64 0)]) := by kernel_rfl
theorem tby50 : kbytes Go.Proofs.Try.prog 50 = some 24 := by kernel_rfl
theorem tpls50 : kplaces Go.Proofs.Try.prog 50 = true := by kernel_rfl
theorem tf50_0 : kfld Go.Proofs.Try.prog 50 0 = some (0, 2) := by kernel_rfl
theorem tpl50_0 : kplace Go.Proofs.Try.prog 50 0 = some (0, 1) := by kernel_rfl
theorem tf50_1 : kfld Go.Proofs.Try.prog 50 1 = some (1, 2) := by kernel_rfl
theorem tpl50_1 : kplace Go.Proofs.Try.prog 50 1 = some (1, 1) := by kernel_rfl
theorem tf50_2 : kfld Go.Proofs.Try.prog 50 2 = some (2, 2) := by kernel_rfl
theorem tpl50_2 : kplace Go.Proofs.Try.prog 50 2 = some (2, 1) := by kernel_rfl
theorem tz51 : ksz Go.Proofs.Try.prog 51 = some (true, 3) := by kernel_rfl
theorem tzero51 : kzero Go.Proofs.Try.prog 51 = some [.d (.int .i64 0), .d (.int .i64 0), .d (.int .i64 0)] := by kernel_rfl
theorem tzv51 : kzeroV Go.Proofs.Try.prog 51 = some (.agg [.d (.int .i64 0), .d (.int .i64 0), .d (.int .i64 0)]) := by kernel_rfl
theorem tby51 : kbytes Go.Proofs.Try.prog 51 = some 24 := by kernel_rfl
theorem tst51 : kst Go.Proofs.Try.prog 51 = some [(2, 0), (2, 1), (2, 2)] := by kernel_rfl
theorem tpls51 : kplaces Go.Proofs.Try.prog 51 = true := by kernel_rfl
theorem tf51_0 : kfld Go.Proofs.Try.prog 51 0 = some (0, 2) := by kernel_rfl
theorem tpl51_0 : kplace Go.Proofs.Try.prog 51 0 = some (0, 1) := by kernel_rfl
theorem tf51_1 : kfld Go.Proofs.Try.prog 51 1 = some (1, 2) := by kernel_rfl
theorem tpl51_1 : kplace Go.Proofs.Try.prog 51 1 = some (1, 1) := by kernel_rfl
theorem tf51_2 : kfld Go.Proofs.Try.prog 51 2 = some (2, 2) := by kernel_rfl
theorem tpl51_2 : kplace Go.Proofs.Try.prog 51 2 = some (2, 1) := by kernel_rfl
theorem tz52 : ksz Go.Proofs.Try.prog 52 = some (false, 1) := by kernel_rfl
theorem tzero52 : kzero Go.Proofs.Try.prog 52 = some [.d .nilfn] := by kernel_rfl
theorem tz53 : ksz Go.Proofs.Try.prog 53 = some (false, 1) := by kernel_rfl
theorem tzero53 : kzero Go.Proofs.Try.prog 53 = some [.d .nilfn] := by kernel_rfl
theorem tz54 : ksz Go.Proofs.Try.prog 54 = some (false, 1) := by kernel_rfl
theorem tzero54 : kzero Go.Proofs.Try.prog 54 = some [.nil] := by kernel_rfl
theorem tzv54 : kzeroV Go.Proofs.Try.prog 54 = some (.nil) := by kernel_rfl
theorem tby54 : kbytes Go.Proofs.Try.prog 54 = some 24 := by kernel_rfl
theorem tel54 : kel Go.Proofs.Try.prog 54 = some (none, 1, 3) := by kernel_rfl
theorem tsl54 : ksl Go.Proofs.Try.prog 54 = true := by kernel_rfl
theorem tstr54 : kstr Go.Proofs.Try.prog 54 = false := by kernel_rfl
theorem tseq54 : kseq Go.Proofs.Try.prog 54 = true := by kernel_rfl
theorem tz55 : ksz Go.Proofs.Try.prog 55 = some (false, 1) := by kernel_rfl
theorem tzero55 : kzero Go.Proofs.Try.prog 55 = some [.d .nilfn] := by kernel_rfl
theorem tz56 : ksz Go.Proofs.Try.prog 56 = some (false, 1) := by kernel_rfl
theorem tzero56 : kzero Go.Proofs.Try.prog 56 = some [.d .nilfn] := by kernel_rfl
theorem tz57 : ksz Go.Proofs.Try.prog 57 = some (false, 1) := by kernel_rfl
theorem tzero57 : kzero Go.Proofs.Try.prog 57 = some [.d .nilfn] := by kernel_rfl
theorem tz58 : ksz Go.Proofs.Try.prog 58 = some (false, 1) := by kernel_rfl
theorem tzero58 : kzero Go.Proofs.Try.prog 58 = some [.d .nilfn] := by kernel_rfl
theorem tz59 : ksz Go.Proofs.Try.prog 59 = some (false, 1) := by kernel_rfl
theorem tzero59 : kzero Go.Proofs.Try.prog 59 = some [.nil] := by kernel_rfl
theorem tzv59 : kzeroV Go.Proofs.Try.prog 59 = some (.nil) := by kernel_rfl
theorem tby59 : kbytes Go.Proofs.Try.prog 59 = some 24 := by kernel_rfl
theorem tel59 : kel Go.Proofs.Try.prog 59 = some (none, 3, 63) := by kernel_rfl
theorem tsl59 : ksl Go.Proofs.Try.prog 59 = true := by kernel_rfl
theorem tstr59 : kstr Go.Proofs.Try.prog 59 = false := by kernel_rfl
theorem tseq59 : kseq Go.Proofs.Try.prog 59 = true := by kernel_rfl
theorem tz61 : ksz Go.Proofs.Try.prog 61 = some (false, 1) := by kernel_rfl
theorem tzero61 : kzero Go.Proofs.Try.prog 61 = some [.d .nilfn] := by kernel_rfl
theorem tz62 : ksz Go.Proofs.Try.prog 62 = some (true, 3) := by kernel_rfl
theorem tzero62 : kzero Go.Proofs.Try.prog 62 = some [.d (.int .i64 0), .d (.int .i64 0), .nil] := by kernel_rfl
theorem tzv62 : kzeroV Go.Proofs.Try.prog 62 = some (.agg [.d (.int .i64 0), .d (.int .i64 0), .nil]) := by kernel_rfl
theorem tby62 : kbytes Go.Proofs.Try.prog 62 = some 40 := by kernel_rfl
theorem tpls62 : kplaces Go.Proofs.Try.prog 62 = true := by kernel_rfl
theorem tf62_0 : kfld Go.Proofs.Try.prog 62 0 = some (0, 34) := by kernel_rfl
theorem tpl62_0 : kplace Go.Proofs.Try.prog 62 0 = some (0, 2) := by kernel_rfl
theorem tf62_1 : kfld Go.Proofs.Try.prog 62 1 = some (2, 54) := by kernel_rfl
theorem tpl62_1 : kplace Go.Proofs.Try.prog 62 1 = some (2, 1) := by kernel_rfl
theorem tz63 : ksz Go.Proofs.Try.prog 63 = some (true, 3) := by kernel_rfl
theorem tzero63 : kzero Go.Proofs.Try.prog 63 = some [.d (.int .i64 0), .d (.int .i64 0), .nil] := by kernel_rfl
theorem tzv63 : kzeroV Go.Proofs.Try.prog 63 = some (.agg [.d (.int .i64 0), .d (.int .i64 0), .nil]) := by kernel_rfl
theorem tby63 : kbytes Go.Proofs.Try.prog 63 = some 40 := by kernel_rfl
theorem tst63 : kst Go.Proofs.Try.prog 63 = some [(34, 0), (54, 2)] := by kernel_rfl
theorem tpls63 : kplaces Go.Proofs.Try.prog 63 = true := by kernel_rfl
theorem tf63_0 : kfld Go.Proofs.Try.prog 63 0 = some (0, 34) := by kernel_rfl
theorem tpl63_0 : kplace Go.Proofs.Try.prog 63 0 = some (0, 2) := by kernel_rfl
theorem tf63_1 : kfld Go.Proofs.Try.prog 63 1 = some (2, 54) := by kernel_rfl
theorem tpl63_1 : kplace Go.Proofs.Try.prog 63 1 = some (2, 1) := by kernel_rfl
theorem tz64 : ksz Go.Proofs.Try.prog 64 = some (false, 1) := by kernel_rfl
theorem tzero64 : kzero Go.Proofs.Try.prog 64 = some [.d .nilfn] := by kernel_rfl
theorem tz65 : ksz Go.Proofs.Try.prog 65 = some (false, 1) := by kernel_rfl
theorem tzero65 : kzero Go.Proofs.Try.prog 65 = some [.d .nilfn] := by kernel_rfl
theorem tz66 : ksz Go.Proofs.Try.prog 66 = some (false, 1) := by kernel_rfl
theorem tzero66 : kzero Go.Proofs.Try.prog 66 = some [.d .nilfn] := by kernel_rfl
theorem tz67 : ksz Go.Proofs.Try.prog 67 = some (false, 1) := by kernel_rfl
theorem tzero67 : kzero Go.Proofs.Try.prog 67 = some [.d .nilfn] := by kernel_rfl
theorem tz68 : ksz Go.Proofs.Try.prog 68 = some (false, 1) := by kernel_rfl
theorem tzero68 : kzero Go.Proofs.Try.prog 68 = some [.d .nilfn] := by kernel_rfl
theorem tz69 : ksz Go.Proofs.Try.prog 69 = some (false, 1) := by kernel_rfl
theorem tzero69 : kzero Go.Proofs.Try.prog 69 = some [.nil] := by kernel_rfl
theorem tzv69 : kzeroV Go.Proofs.Try.prog 69 = some (.nil) := by kernel_rfl
theorem tby69 : kbytes Go.Proofs.Try.prog 69 = some 24 := by kernel_rfl
theorem tel69 : kel Go.Proofs.Try.prog 69 = some (none, 2, 34) := by kernel_rfl
theorem tsl69 : ksl Go.Proofs.Try.prog 69 = true := by kernel_rfl
theorem tstr69 : kstr Go.Proofs.Try.prog 69 = false := by kernel_rfl
theorem tseq69 : kseq Go.Proofs.Try.prog 69 = true := by kernel_rfl
theorem tz70 : ksz Go.Proofs.Try.prog 70 = some (false, 1) := by kernel_rfl
theorem tzero70 : kzero Go.Proofs.Try.prog 70 = some [.d .nilfn] := by kernel_rfl
theorem tz71 : ksz Go.Proofs.Try.prog 71 = some (false, 1) := by kernel_rfl
theorem tzero71 : kzero Go.Proofs.Try.prog 71 = some [.d .nilfn] := by kernel_rfl
theorem tz72 : ksz Go.Proofs.Try.prog 72 = some (false, 1) := by kernel_rfl
theorem tzero72 : kzero Go.Proofs.Try.prog 72 = some [.d .nilfn] := by kernel_rfl
theorem tz73 : ksz Go.Proofs.Try.prog 73 = some (false, 1) := by kernel_rfl
theorem tzero73 : kzero Go.Proofs.Try.prog 73 = some [.d .nilfn] := by kernel_rfl
theorem tz74 : ksz Go.Proofs.Try.prog 74 = some (false, 1) := by kernel_rfl
theorem tzero74 : kzero Go.Proofs.Try.prog 74 = some [.d .nilfn] := by kernel_rfl
theorem tz75 : ksz Go.Proofs.Try.prog 75 = some (false, 1) := by kernel_rfl
theorem tzero75 : kzero Go.Proofs.Try.prog 75 = some [.d .nilfn] := by kernel_rfl
theorem tz76 : ksz Go.Proofs.Try.prog 76 = some (false, 1) := by kernel_rfl
theorem tzero76 : kzero Go.Proofs.Try.prog 76 = some [.d .nilfn] := by kernel_rfl
theorem tz77 : ksz Go.Proofs.Try.prog 77 = some (false, 1) := by kernel_rfl
theorem tzero77 : kzero Go.Proofs.Try.prog 77 = some [.d .nilfn] := by kernel_rfl
theorem tz78 : ksz Go.Proofs.Try.prog 78 = some (false, 1) := by kernel_rfl
theorem tzero78 : kzero Go.Proofs.Try.prog 78 = some [.d .nilfn] := by kernel_rfl
theorem tz79 : ksz Go.Proofs.Try.prog 79 = some (false, 1) := by kernel_rfl
theorem tzero79 : kzero Go.Proofs.Try.prog 79 = some [.d .nilmap] := by kernel_rfl
theorem tzv79 : kzeroV Go.Proofs.Try.prog 79 = some (.d .nilmap) := by kernel_rfl
theorem tmap79 : kmap Go.Proofs.Try.prog 79 = some (3, 3) := by kernel_rfl
theorem tby79 : kbytes Go.Proofs.Try.prog 79 = some 8 := by kernel_rfl
theorem tz81 : ksz Go.Proofs.Try.prog 81 = some (false, 1) := by kernel_rfl
theorem tzero81 : kzero Go.Proofs.Try.prog 81 = some [.d .nilfn] := by kernel_rfl
theorem tz82 : ksz Go.Proofs.Try.prog 82 = some (false, 1) := by kernel_rfl
theorem tzero82 : kzero Go.Proofs.Try.prog 82 = some [.d .nilfn] := by kernel_rfl
theorem tz83 : ksz Go.Proofs.Try.prog 83 = some (false, 1) := by kernel_rfl
theorem tzero83 : kzero Go.Proofs.Try.prog 83 = some [.nil] := by kernel_rfl
theorem tzv83 : kzeroV Go.Proofs.Try.prog 83 = some (.nil) := by kernel_rfl
theorem tby83 : kbytes Go.Proofs.Try.prog 83 = some 24 := by kernel_rfl
theorem tel83 : kel Go.Proofs.Try.prog 83 = some (none, 1, 22) := by kernel_rfl
theorem tsl83 : ksl Go.Proofs.Try.prog 83 = true := by kernel_rfl
theorem tstr83 : kstr Go.Proofs.Try.prog 83 = false := by kernel_rfl
theorem tseq83 : kseq Go.Proofs.Try.prog 83 = true := by kernel_rfl
theorem tz84 : ksz Go.Proofs.Try.prog 84 = some (false, 1) := by kernel_rfl
theorem tzero84 : kzero Go.Proofs.Try.prog 84 = some [.d .nilmap] := by kernel_rfl
theorem tzv84 : kzeroV Go.Proofs.Try.prog 84 = some (.d .nilmap) := by kernel_rfl
theorem tmap84 : kmap Go.Proofs.Try.prog 84 = some (34, 4) := by kernel_rfl
theorem tby84 : kbytes Go.Proofs.Try.prog 84 = some 8 := by kernel_rfl
theorem tz85 : ksz Go.Proofs.Try.prog 85 = some (false, 1) := by kernel_rfl
theorem tzero85 : kzero Go.Proofs.Try.prog 85 = some [.d .nilfn] := by kernel_rfl
theorem tz86 : ksz Go.Proofs.Try.prog 86 = some (false, 1) := by kernel_rfl
theorem tzero86 : kzero Go.Proofs.Try.prog 86 = some [.d .nilfn] := by kernel_rfl
theorem tz87 : ksz Go.Proofs.Try.prog 87 = some (false, 1) := by kernel_rfl
theorem tzero87 : kzero Go.Proofs.Try.prog 87 = some [.d .nilfn] := by kernel_rfl
theorem tz88 : ksz Go.Proofs.Try.prog 88 = some (false, 1) := by kernel_rfl
theorem tzero88 : kzero Go.Proofs.Try.prog 88 = some [.d .nilfn] := by kernel_rfl
theorem tz89 : ksz Go.Proofs.Try.prog 89 = some (false, 1) := by kernel_rfl
theorem tzero89 : kzero Go.Proofs.Try.prog 89 = some [.d .nilfn] := by kernel_rfl
theorem tz90 : ksz Go.Proofs.Try.prog 90 = some (false, 1) := by kernel_rfl
theorem tzero90 : kzero Go.Proofs.Try.prog 90 = some [.d .nilfn] := by kernel_rfl
theorem tz91 : ksz Go.Proofs.Try.prog 91 = some (false, 1) := by kernel_rfl
theorem tzero91 : kzero Go.Proofs.Try.prog 91 = some [.d .nilfn] := by kernel_rfl
theorem tz92 : ksz Go.Proofs.Try.prog 92 = some (false, 1) := by kernel_rfl
theorem tzero92 : kzero Go.Proofs.Try.prog 92 = some [.d .nilfn] := by kernel_rfl
theorem tz93 : ksz Go.Proofs.Try.prog 93 = some (false, 1) := by kernel_rfl
theorem tzero93 : kzero Go.Proofs.Try.prog 93 = some [.d .nilptr] := by kernel_rfl
theorem tzv93 : kzeroV Go.Proofs.Try.prog 93 = some (.d .nilptr) := by kernel_rfl
theorem tby93 : kbytes Go.Proofs.Try.prog 93 = some 8 := by kernel_rfl
theorem tz94 : ksz Go.Proofs.Try.prog 94 = some (false, 1) := by kernel_rfl
theorem tzero94 : kzero Go.Proofs.Try.prog 94 = some [.nil] := by kernel_rfl
theorem tzv94 : kzeroV Go.Proofs.Try.prog 94 = some (.nil) := by kernel_rfl
theorem tby94 : kbytes Go.Proofs.Try.prog 94 = some 24 := by kernel_rfl
theorem tel94 : kel Go.Proofs.Try.prog 94 = some (none, 2, 98) := by kernel_rfl
theorem tsl94 : ksl Go.Proofs.Try.prog 94 = true := by kernel_rfl
theorem tstr94 : kstr Go.Proofs.Try.prog 94 = false := by kernel_rfl
theorem tseq94 : kseq Go.Proofs.Try.prog 94 = true := by kernel_rfl
theorem tz95 : ksz Go.Proofs.Try.prog 95 = some (false, 1) := by kernel_rfl
theorem tzero95 : kzero Go.Proofs.Try.prog 95 = some [.nil] := by kernel_rfl
theorem tzv95 : kzeroV Go.Proofs.Try.prog 95 = some (.nil) := by kernel_rfl
theorem tby95 : kbytes Go.Proofs.Try.prog 95 = some 24 := by kernel_rfl
theorem tel95 : kel Go.Proofs.Try.prog 95 = some (none, 2, 98) := by kernel_rfl
theorem tsl95 : ksl Go.Proofs.Try.prog 95 = true := by kernel_rfl
theorem tstr95 : kstr Go.Proofs.Try.prog 95 = false := by kernel_rfl
theorem tseq95 : kseq Go.Proofs.Try.prog 95 = true := by kernel_rfl
theorem tz96 : ksz Go.Proofs.Try.prog 96 = some (false, 1) := by kernel_rfl
theorem tzero96 : kzero Go.Proofs.Try.prog 96 = some [.d .nilfn] := by kernel_rfl
theorem tz97 : ksz Go.Proofs.Try.prog 97 = some (true, 2) := by kernel_rfl
theorem tzero97 : kzero Go.Proofs.Try.prog 97 = some [.d (.int .i64 0), .d (.int .i64 0)] := by kernel_rfl
theorem tzv97 : kzeroV Go.Proofs.Try.prog 97 = some (.agg [.d (.int .i64 0), .d (.int .i64 0)]) := by kernel_rfl
theorem tby97 : kbytes Go.Proofs.Try.prog 97 = some 16 := by kernel_rfl
theorem tpls97 : kplaces Go.Proofs.Try.prog 97 = true := by kernel_rfl
theorem tf97_0 : kfld Go.Proofs.Try.prog 97 0 = some (0, 3) := by kernel_rfl
theorem tpl97_0 : kplace Go.Proofs.Try.prog 97 0 = some (0, 1) := by kernel_rfl
theorem tf97_1 : kfld Go.Proofs.Try.prog 97 1 = some (1, 2) := by kernel_rfl
theorem tpl97_1 : kplace Go.Proofs.Try.prog 97 1 = some (1, 1) := by kernel_rfl
theorem tz98 : ksz Go.Proofs.Try.prog 98 = some (true, 2) := by kernel_rfl
theorem tzero98 : kzero Go.Proofs.Try.prog 98 = some [.d (.int .i64 0), .d (.int .i64 0)] := by kernel_rfl
theorem tzv98 : kzeroV Go.Proofs.Try.prog 98 = some (.agg [.d (.int .i64 0), .d (.int .i64 0)]) := by kernel_rfl
theorem tby98 : kbytes Go.Proofs.Try.prog 98 = some 16 := by kernel_rfl
theorem tst98 : kst Go.Proofs.Try.prog 98 = some [(3, 0), (2, 1)] := by kernel_rfl
theorem tpls98 : kplaces Go.Proofs.Try.prog 98 = true := by kernel_rfl
theorem tf98_0 : kfld Go.Proofs.Try.prog 98 0 = some (0, 3) := by kernel_rfl
theorem tpl98_0 : kplace Go.Proofs.Try.prog 98 0 = some (0, 1) := by kernel_rfl
theorem tf98_1 : kfld Go.Proofs.Try.prog 98 1 = some (1, 2) := by kernel_rfl
theorem tpl98_1 : kplace Go.Proofs.Try.prog 98 1 = some (1, 1) := by kernel_rfl
theorem tz99 : ksz Go.Proofs.Try.prog 99 = some (false, 1) := by kernel_rfl
theorem tzero99 : kzero Go.Proofs.Try.prog 99 = some [.d .nilfn] := by kernel_rfl
theorem tz100 : ksz Go.Proofs.Try.prog 100 = some (false, 1) := by kernel_rfl
theorem tzero100 : kzero Go.Proofs.Try.prog 100 = some [.d .nilfn] := by kernel_rfl
theorem tz101 : ksz Go.Proofs.Try.prog 101 = some (false, 1) := by kernel_rfl
theorem tzero101 : kzero Go.Proofs.Try.prog 101 = some [.nil] := by kernel_rfl
theorem tzv101 : kzeroV Go.Proofs.Try.prog 101 = some (.nil) := by kernel_rfl
theorem tby101 : kbytes Go.Proofs.Try.prog 101 = some 24 := by kernel_rfl
theorem tel101 : kel Go.Proofs.Try.prog 101 = some (none, 1, 4) := by kernel_rfl
theorem tsl101 : ksl Go.Proofs.Try.prog 101 = true := by kernel_rfl
theorem tstr101 : kstr Go.Proofs.Try.prog 101 = false := by kernel_rfl
theorem tseq101 : kseq Go.Proofs.Try.prog 101 = true := by kernel_rfl
theorem tz102 : ksz Go.Proofs.Try.prog 102 = some (false, 1) := by kernel_rfl
theorem tzero102 : kzero Go.Proofs.Try.prog 102 = some [.d .nilfn] := by kernel_rfl
theorem tz103 : ksz Go.Proofs.Try.prog 103 = some (false, 1) := by kernel_rfl
theorem tzero103 : kzero Go.Proofs.Try.prog 103 = some [.d .nilmap] := by kernel_rfl
theorem tzv103 : kzeroV Go.Proofs.Try.prog 103 = some (.d .nilmap) := by kernel_rfl
theorem tmap103 : kmap Go.Proofs.Try.prog 103 = some (34, 54) := by kernel_rfl
theorem tby103 : kbytes Go.Proofs.Try.prog 103 = some 8 := by kernel_rfl
theorem tz104 : ksz Go.Proofs.Try.prog 104 = some (false, 1) := by kernel_rfl
theorem tzero104 : kzero Go.Proofs.Try.prog 104 = some [.d .nilfn] := by kernel_rfl
theorem tz105 : ksz Go.Proofs.Try.prog 105 = some (false, 1) := by kernel_rfl
theorem tzero105 : kzero Go.Proofs.Try.prog 105 = some [.d .nilfn] := by kernel_rfl
theorem tz106 : ksz Go.Proofs.Try.prog 106 = some (false, 1) := by kernel_rfl
theorem tzero106 : kzero Go.Proofs.Try.prog 106 = some [.d .nilfn] := by kernel_rfl
theorem tz107 : ksz Go.Proofs.Try.prog 107 = some (false, 1) := by kernel_rfl
theorem tzero107 : kzero Go.Proofs.Try.prog 107 = some [.d .nilfn] := by kernel_rfl
theorem tz108 : ksz Go.Proofs.Try.prog 108 = some (false, 1) := by kernel_rfl
theorem tzero108 : kzero Go.Proofs.Try.prog 108 = some [.d .nilfn] := by kernel_rfl
theorem tz109 : ksz Go.Proofs.Try.prog 109 = some (false, 1) := by kernel_rfl
theorem tzero109 : kzero Go.Proofs.Try.prog 109 = some [.d .nilfn] := by kernel_rfl
theorem tz110 : ksz Go.Proofs.Try.prog 110 = some (false, 1) := by kernel_rfl
theorem tzero110 : kzero Go.Proofs.Try.prog 110 = some [.d .nilfn] := by kernel_rfl
theorem tz111 : ksz Go.Proofs.Try.prog 111 = some (false, 1) := by kernel_rfl
theorem tzero111 : kzero Go.Proofs.Try.prog 111 = some [.d .nilfn] := by kernel_rfl
theorem tz112 : ksz Go.Proofs.Try.prog 112 = some (false, 1) := by kernel_rfl
theorem tzero112 : kzero Go.Proofs.Try.prog 112 = some [.d .nilfn] := by kernel_rfl
theorem tzv112 : kzeroV Go.Proofs.Try.prog 112 = some (.d .nilfn) := by kernel_rfl
theorem tby112 : kbytes Go.Proofs.Try.prog 112 = some 8 := by kernel_rfl
theorem tz113 : ksz Go.Proofs.Try.prog 113 = some (false, 1) := by kernel_rfl
theorem tzero113 : kzero Go.Proofs.Try.prog 113 = some [.d .nilfn] := by kernel_rfl
theorem tz114 : ksz Go.Proofs.Try.prog 114 = some (false, 1) := by kernel_rfl
theorem tzero114 : kzero Go.Proofs.Try.prog 114 = some [.d .nilfn] := by kernel_rfl
theorem tz115 : ksz Go.Proofs.Try.prog 115 = some (false, 1) := by kernel_rfl
theorem tzero115 : kzero Go.Proofs.Try.prog 115 = some [.d .nilfn] := by kernel_rfl
theorem tz116 : ksz Go.Proofs.Try.prog 116 = some (false, 1) := by kernel_rfl
theorem tzero116 : kzero Go.Proofs.Try.prog 116 = some [.d .nilfn] := by kernel_rfl
theorem tz117 : ksz Go.Proofs.Try.prog 117 = some (false, 1) := by kernel_rfl
theorem tzero117 : kzero Go.Proofs.Try.prog 117 = some [.d .nilfn] := by kernel_rfl
theorem tz118 : ksz Go.Proofs.Try.prog 118 = some (false, 1) := by kernel_rfl
theorem tzero118 : kzero Go.Proofs.Try.prog 118 = some [.d .nilfn] := by kernel_rfl
theorem tz119 : ksz Go.Proofs.Try.prog 119 = some (true, 2) := by kernel_rfl
theorem tzero119 : kzero Go.Proofs.Try.prog 119 = some [.d (.int .i64 0), .d (.int .i64 0)] := by kernel_rfl
theorem tzv119 : kzeroV Go.Proofs.Try.prog 119 = some (.agg [.d (.int .i64 0), .d (.int .i64 0)]) := by kernel_rfl
theorem tby119 : kbytes Go.Proofs.Try.prog 119 = some 16 := by kernel_rfl
theorem tpls119 : kplaces Go.Proofs.Try.prog 119 = true := by kernel_rfl
theorem tf119_0 : kfld Go.Proofs.Try.prog 119 0 = some (0, 2) := by kernel_rfl
theorem tpl119_0 : kplace Go.Proofs.Try.prog 119 0 = some (0, 1) := by kernel_rfl
theorem tf119_1 : kfld Go.Proofs.Try.prog 119 1 = some (1, 2) := by kernel_rfl
theorem tpl119_1 : kplace Go.Proofs.Try.prog 119 1 = some (1, 1) := by kernel_rfl
theorem tz120 : ksz Go.Proofs.Try.prog 120 = some (true, 2) := by kernel_rfl
theorem tzero120 : kzero Go.Proofs.Try.prog 120 = some [.d (.int .i64 0), .d (.int .i64 0)] := by kernel_rfl
theorem tzv120 : kzeroV Go.Proofs.Try.prog 120 = some (.agg [.d (.int .i64 0), .d (.int .i64 0)]) := by kernel_rfl
theorem tby120 : kbytes Go.Proofs.Try.prog 120 = some 16 := by kernel_rfl
theorem tst120 : kst Go.Proofs.Try.prog 120 = some [(2, 0), (2, 1)] := by kernel_rfl
theorem tpls120 : kplaces Go.Proofs.Try.prog 120 = true := by kernel_rfl
theorem tf120_0 : kfld Go.Proofs.Try.prog 120 0 = some (0, 2) := by kernel_rfl
theorem tpl120_0 : kplace Go.Proofs.Try.prog 120 0 = some (0, 1) := by kernel_rfl
theorem tf120_1 : kfld Go.Proofs.Try.prog 120 1 = some (1, 2) := by kernel_rfl
theorem tpl120_1 : kplace Go.Proofs.Try.prog 120 1 = some (1, 1) := by kernel_rfl
theorem tz121 : ksz Go.Proofs.Try.prog 121 = some (false, 1) := by kernel_rfl
theorem tzero121 : kzero Go.Proofs.Try.prog 121 = some [.d .nilfn] := by kernel_rfl
theorem tz122 : ksz Go.Proofs.Try.prog 122 = some (false, 1) := by kernel_rfl
theorem tzero122 : kzero Go.Proofs.Try.prog 122 = some [.d .nilfn] := by kernel_rfl
theorem tz123 : ksz Go.Proofs.Try.prog 123 = some (false, 1) := by kernel_rfl
theorem tzero123 : kzero Go.Proofs.Try.prog 123 = some [.d .nilfn] := by kernel_rfl
theorem tz124 : ksz Go.Proofs.Try.prog 124 = some (false, 1) := by kernel_rfl
theorem tzero124 : kzero Go.Proofs.Try.prog 124 = some [.d .niliface] := by kernel_rfl
theorem tzv124 : kzeroV Go.Proofs.Try.prog 124 = some (.d .niliface) := by kernel_rfl
theorem tby124 : kbytes Go.Proofs.Try.prog 124 = some 16 := by kernel_rfl
theorem tz125 : ksz Go.Proofs.Try.prog 125 = some (false, 1) := by kernel_rfl
theorem tzero125 : kzero Go.Proofs.Try.prog 125 = some [.d .niliface] := by kernel_rfl
theorem tzv125 : kzeroV Go.Proofs.Try.prog 125 = some (.d .niliface) := by kernel_rfl
theorem tby125 : kbytes Go.Proofs.Try.prog 125 = some 16 := by kernel_rfl
theorem tz126 : ksz Go.Proofs.Try.prog 126 = some (false, 1) := by kernel_rfl
theorem tzero126 : kzero Go.Proofs.Try.prog 126 = some [.d .nilfn] := by kernel_rfl
theorem tz127 : ksz Go.Proofs.Try.prog 127 = some (false, 1) := by kernel_rfl
theorem tzero127 : kzero Go.Proofs.Try.prog 127 = some [.d .nilfn] := by kernel_rfl
theorem tz128 : ksz Go.Proofs.Try.prog 128 = some (false, 1) := by kernel_rfl
theorem tzero128 : kzero Go.Proofs.Try.prog 128 = some [.d .nilfn] := by kernel_rfl
theorem tz129 : ksz Go.Proofs.Try.prog 129 = some (false, 1) := by kernel_rfl
theorem tzero129 : kzero Go.Proofs.Try.prog 129 = some [.d .nilfn] := by kernel_rfl
theorem tz130 : ksz Go.Proofs.Try.prog 130 = some (false, 1) := by kernel_rfl
theorem tzero130 : kzero Go.Proofs.Try.prog 130 = some [.d .nilfn] := by kernel_rfl
theorem tz131 : ksz Go.Proofs.Try.prog 131 = some (false, 1) := by kernel_rfl
theorem tzero131 : kzero Go.Proofs.Try.prog 131 = some [.d .nilfn] := by kernel_rfl
theorem tz132 : ksz Go.Proofs.Try.prog 132 = some (false, 1) := by kernel_rfl
theorem tzero132 : kzero Go.Proofs.Try.prog 132 = some [.d .nilfn] := by kernel_rfl
theorem tz133 : ksz Go.Proofs.Try.prog 133 = some (false, 1) := by kernel_rfl
theorem tzero133 : kzero Go.Proofs.Try.prog 133 = some [.d (.int .u64 0)] := by kernel_rfl
theorem tzv133 : kzeroV Go.Proofs.Try.prog 133 = some (.d (.int .u64 0)) := by kernel_rfl
theorem tby133 : kbytes Go.Proofs.Try.prog 133 = some 8 := by kernel_rfl
theorem tint133 : kint Go.Proofs.Try.prog 133 = some .u64 := by kernel_rfl
theorem tlf133 : klf Go.Proofs.Try.prog 133 = 1 := by kernel_rfl
theorem tz134 : ksz Go.Proofs.Try.prog 134 = some (false, 1) := by kernel_rfl
theorem tzero134 : kzero Go.Proofs.Try.prog 134 = some [.d .nilfn] := by kernel_rfl
theorem tz135 : ksz Go.Proofs.Try.prog 135 = some (false, 1) := by kernel_rfl
theorem tzero135 : kzero Go.Proofs.Try.prog 135 = some [.d .nilfn] := by kernel_rfl
theorem tz136 : ksz Go.Proofs.Try.prog 136 = some (false, 1) := by kernel_rfl
theorem tzero136 : kzero Go.Proofs.Try.prog 136 = some [.d .nilfn] := by kernel_rfl
theorem tz137 : ksz Go.Proofs.Try.prog 137 = some (false, 1) := by kernel_rfl
theorem tzero137 : kzero Go.Proofs.Try.prog 137 = some [.d .nilfn] := by kernel_rfl
theorem tz138 : ksz Go.Proofs.Try.prog 138 = some (false, 1) := by kernel_rfl
theorem tzero138 : kzero Go.Proofs.Try.prog 138 = some [.d .nilfn] := by kernel_rfl
theorem tz139 : ksz Go.Proofs.Try.prog 139 = some (false, 1) := by kernel_rfl
theorem tzero139 : kzero Go.Proofs.Try.prog 139 = some [.d .nilfn] := by kernel_rfl
theorem tz140 : ksz Go.Proofs.Try.prog 140 = some (false, 1) := by kernel_rfl
theorem tzero140 : kzero Go.Proofs.Try.prog 140 = some [.d .nilfn] := by kernel_rfl
theorem tz141 : ksz Go.Proofs.Try.prog 141 = some (false, 1) := by kernel_rfl
theorem tzero141 : kzero Go.Proofs.Try.prog 141 = some [.d .nilfn] := by kernel_rfl
theorem tz142 : ksz Go.Proofs.Try.prog 142 = some (false, 1) := by kernel_rfl
theorem tzero142 : kzero Go.Proofs.Try.prog 142 = some [.d (.int .i64 0)] := by kernel_rfl
theorem tzv142 : kzeroV Go.Proofs.Try.prog 142 = some (.d (.int .i64 0)) := by kernel_rfl
theorem tby142 : kbytes Go.Proofs.Try.prog 142 = some 8 := by kernel_rfl
theorem tint142 : kint Go.Proofs.Try.prog 142 = some .i64 := by kernel_rfl
theorem tlf142 : klf Go.Proofs.Try.prog 142 = 1 := by kernel_rfl
theorem tz144 : ksz Go.Proofs.Try.prog 144 = some (false, 1) := by kernel_rfl
theorem tzero144 : kzero Go.Proofs.Try.prog 144 = some [.d .nilfn] := by kernel_rfl
theorem tz145 : ksz Go.Proofs.Try.prog 145 = some (false, 1) := by kernel_rfl
theorem tzero145 : kzero Go.Proofs.Try.prog 145 = some [.d .nilfn] := by kernel_rfl
theorem tz146 : ksz Go.Proofs.Try.prog 146 = some (false, 1) := by kernel_rfl
theorem tzero146 : kzero Go.Proofs.Try.prog 146 = some [.d .nilfn] := by kernel_rfl
theorem tz147 : ksz Go.Proofs.Try.prog 147 = some (false, 1) := by kernel_rfl
theorem tzero147 : kzero Go.Proofs.Try.prog 147 = some [.d .nilfn] := by kernel_rfl
theorem tz148 : ksz Go.Proofs.Try.prog 148 = some (false, 1) := by kernel_rfl
theorem tzero148 : kzero Go.Proofs.Try.prog 148 = some [.d .nilfn] := by kernel_rfl
theorem tz149 : ksz Go.Proofs.Try.prog 149 = some (false, 1) := by kernel_rfl
theorem tzero149 : kzero Go.Proofs.Try.prog 149 = some [.d (.int .u32 0)] := by kernel_rfl
theorem tzv149 : kzeroV Go.Proofs.Try.prog 149 = some (.d (.int .u32 0)) := by kernel_rfl
theorem tby149 : kbytes Go.Proofs.Try.prog 149 = some 4 := by kernel_rfl
theorem tint149 : kint Go.Proofs.Try.prog 149 = some .u32 := by kernel_rfl
theorem tlf149 : klf Go.Proofs.Try.prog 149 = 1 := by kernel_rfl
theorem tz150 : ksz Go.Proofs.Try.prog 150 = some (false, 1) := by kernel_rfl
theorem tzero150 : kzero Go.Proofs.Try.prog 150 = some [.d .nilfn] := by kernel_rfl
theorem tz151 : ksz Go.Proofs.Try.prog 151 = some (false, 1) := by kernel_rfl
theorem tzero151 : kzero Go.Proofs.Try.prog 151 = some [.d (.int .u64 0)] := by kernel_rfl
theorem tzv151 : kzeroV Go.Proofs.Try.prog 151 = some (.d (.int .u64 0)) := by kernel_rfl
theorem tby151 : kbytes Go.Proofs.Try.prog 151 = some 8 := by kernel_rfl
theorem tint151 : kint Go.Proofs.Try.prog 151 = some .u64 := by kernel_rfl
theorem tlf151 : klf Go.Proofs.Try.prog 151 = 1 := by kernel_rfl
theorem tz152 : ksz Go.Proofs.Try.prog 152 = some (false, 1) := by kernel_rfl
theorem tzero152 : kzero Go.Proofs.Try.prog 152 = some [.d .nilfn] := by kernel_rfl
theorem tz153 : ksz Go.Proofs.Try.prog 153 = some (false, 1) := by kernel_rfl
theorem tzero153 : kzero Go.Proofs.Try.prog 153 = some [.d .nilfn] := by kernel_rfl
theorem tz154 : ksz Go.Proofs.Try.prog 154 = some (false, 1) := by kernel_rfl
theorem tzero154 : kzero Go.Proofs.Try.prog 154 = some [.d .nilfn] := by kernel_rfl
theorem tz155 : ksz Go.Proofs.Try.prog 155 = some (false, 1) := by kernel_rfl
theorem tzero155 : kzero Go.Proofs.Try.prog 155 = some [.d .nilfn] := by kernel_rfl
theorem tz156 : ksz Go.Proofs.Try.prog 156 = some (false, 1) := by kernel_rfl
theorem tzero156 : kzero Go.Proofs.Try.prog 156 = some [.d .nilfn] := by kernel_rfl
theorem tz157 : ksz Go.Proofs.Try.prog 157 = some (false, 1) := by kernel_rfl
theorem tzero157 : kzero Go.Proofs.Try.prog 157 = some [.d .nilfn] := by kernel_rfl
theorem tz158 : ksz Go.Proofs.Try.prog 158 = some (false, 1) := by kernel_rfl
theorem tzero158 : kzero Go.Proofs.Try.prog 158 = some [.d (.int .u64 0)] := by kernel_rfl
theorem tzv158 : kzeroV Go.Proofs.Try.prog 158 = some (.d (.int .u64 0)) := by kernel_rfl
theorem tby158 : kbytes Go.Proofs.Try.prog 158 = some 8 := by kernel_rfl
theorem tint158 : kint Go.Proofs.Try.prog 158 = some .u64 := by kernel_rfl
theorem tlf158 : klf Go.Proofs.Try.prog 158 = 1 := by kernel_rfl
theorem tz159 : ksz Go.Proofs.Try.prog 159 = some (false, 1) := by kernel_rfl
theorem tzero159 : kzero Go.Proofs.Try.prog 159 = some [.d .nilfn] := by kernel_rfl
theorem tz160 : ksz Go.Proofs.Try.prog 160 = some (false, 1) := by kernel_rfl
theorem tzero160 : kzero Go.Proofs.Try.prog 160 = some [.d .nilfn] := by kernel_rfl
theorem tz161 : ksz Go.Proofs.Try.prog 161 = some (false, 1) := by kernel_rfl
theorem tzero161 : kzero Go.Proofs.Try.prog 161 = some [.d .nilfn] := by kernel_rfl
theorem tz162 : ksz Go.Proofs.Try.prog 162 = some (false, 1) := by kernel_rfl
theorem tzero162 : kzero Go.Proofs.Try.prog 162 = some [.d .nilptr] := by kernel_rfl
theorem tzv162 : kzeroV Go.Proofs.Try.prog 162 = some (.d .nilptr) := by kernel_rfl
theorem tby162 : kbytes Go.Proofs.Try.prog 162 = some 8 := by kernel_rfl
theorem tz163 : ksz Go.Proofs.Try.prog 163 = some (false, 1) := by kernel_rfl
theorem tzero163 : kzero Go.Proofs.Try.prog 163 = some [.d .nilfn] := by kernel_rfl
theorem tz164 : ksz Go.Proofs.Try.prog 164 = some (false, 1) := by kernel_rfl
theorem tzero164 : kzero Go.Proofs.Try.prog 164 = some [.d .nilfn] := by kernel_rfl
theorem tz165 : ksz Go.Proofs.Try.prog 165 = some (false, 1) := by kernel_rfl
theorem tzero165 : kzero Go.Proofs.Try.prog 165 = some [.d .nilfn] := by kernel_rfl
theorem tz166 : ksz Go.Proofs.Try.prog 166 = some (false, 1) := by kernel_rfl
theorem tzero166 : kzero Go.Proofs.Try.prog 166 = some [.d .nilptr] := by kernel_rfl
theorem tzv166 : kzeroV Go.Proofs.Try.prog 166 = some (.d .nilptr) := by kernel_rfl
theorem tby166 : kbytes Go.Proofs.Try.prog 166 = some 8 := by kernel_rfl
theorem tz168 : ksz Go.Proofs.Try.prog 168 = some (false, 1) := by kernel_rfl
theorem tzero168 : kzero Go.Proofs.Try.prog 168 = some [.d .nilfn] := by kernel_rfl
theorem tz169 : ksz Go.Proofs.Try.prog 169 = some (false, 1) := by kernel_rfl
theorem tzero169 : kzero Go.Proofs.Try.prog 169 = some [.d .nilfn] := by kernel_rfl
theorem tz170 : ksz Go.Proofs.Try.prog 170 = some (false, 1) := by kernel_rfl
theorem tzero170 : kzero Go.Proofs.Try.prog 170 = some [.d .nilfn] := by kernel_rfl
theorem tz171 : ksz Go.Proofs.Try.prog 171 = some (true, 4) := by kernel_rfl
theorem tzero171 : kzero Go.Proofs.Try.prog 171 = some [.d .nilptr, .d .nilptr, .d .nilptr, .d (.str ByteArray.empty)] := by kernel_rfl
theorem tzv171 : kzeroV Go.Proofs.Try.prog 171 = some (.agg [.d .nilptr, .d .nilptr, .d .nilptr, .d (.str ByteArray.empty)]) := by kernel_rfl
theorem tby171 : kbytes Go.Proofs.Try.prog 171 = some 40 := by kernel_rfl
theorem tpls171 : kplaces Go.Proofs.Try.prog 171 = true := by kernel_rfl
theorem tf171_0 : kfld Go.Proofs.Try.prog 171 0 = some (0, 17) := by kernel_rfl
theorem tpl171_0 : kplace Go.Proofs.Try.prog 171 0 = some (0, 1) := by kernel_rfl
theorem tf171_1 : kfld Go.Proofs.Try.prog 171 1 = some (1, 17) := by kernel_rfl
theorem tpl171_1 : kplace Go.Proofs.Try.prog 171 1 = some (1, 1) := by kernel_rfl
theorem tf171_2 : kfld Go.Proofs.Try.prog 171 2 = some (2, 17) := by kernel_rfl
theorem tpl171_2 : kplace Go.Proofs.Try.prog 171 2 = some (2, 1) := by kernel_rfl
theorem tf171_3 : kfld Go.Proofs.Try.prog 171 3 = some (3, 9) := by kernel_rfl
theorem tpl171_3 : kplace Go.Proofs.Try.prog 171 3 = some (3, 1) := by kernel_rfl
theorem tz172 : ksz Go.Proofs.Try.prog 172 = some (true, 4) := by kernel_rfl
theorem tzero172 : kzero Go.Proofs.Try.prog 172 = some [.d .nilptr, .d .nilptr, .d .nilptr, .d (.str ByteArray.empty)] := by kernel_rfl
theorem tzv172 : kzeroV Go.Proofs.Try.prog 172 = some (.agg [.d .nilptr, .d .nilptr, .d .nilptr, .d (.str ByteArray.empty)]) := by kernel_rfl
theorem tby172 : kbytes Go.Proofs.Try.prog 172 = some 40 := by kernel_rfl
theorem tpls172 : kplaces Go.Proofs.Try.prog 172 = true := by kernel_rfl
theorem tf172_0 : kfld Go.Proofs.Try.prog 172 0 = some (0, 17) := by kernel_rfl
theorem tpl172_0 : kplace Go.Proofs.Try.prog 172 0 = some (0, 1) := by kernel_rfl
theorem tf172_1 : kfld Go.Proofs.Try.prog 172 1 = some (1, 17) := by kernel_rfl
theorem tpl172_1 : kplace Go.Proofs.Try.prog 172 1 = some (1, 1) := by kernel_rfl
theorem tf172_2 : kfld Go.Proofs.Try.prog 172 2 = some (2, 17) := by kernel_rfl
theorem tpl172_2 : kplace Go.Proofs.Try.prog 172 2 = some (2, 1) := by kernel_rfl
theorem tf172_3 : kfld Go.Proofs.Try.prog 172 3 = some (3, 9) := by kernel_rfl
theorem tpl172_3 : kplace Go.Proofs.Try.prog 172 3 = some (3, 1) := by kernel_rfl
theorem tz173 : ksz Go.Proofs.Try.prog 173 = some (true, 0) := by kernel_rfl
theorem tzero173 : kzero Go.Proofs.Try.prog 173 = some [] := by kernel_rfl
theorem tzv173 : kzeroV Go.Proofs.Try.prog 173 = some (.agg []) := by kernel_rfl
theorem tby173 : kbytes Go.Proofs.Try.prog 173 = some 0 := by kernel_rfl
theorem tel173 : kel Go.Proofs.Try.prog 173 = some (some 0, 1, 16) := by kernel_rfl
theorem tpls173 : kplaces Go.Proofs.Try.prog 173 = true := by kernel_rfl
theorem tz174 : ksz Go.Proofs.Try.prog 174 = some (true, 0) := by kernel_rfl
theorem tzero174 : kzero Go.Proofs.Try.prog 174 = some [] := by kernel_rfl
theorem tzv174 : kzeroV Go.Proofs.Try.prog 174 = some (.agg []) := by kernel_rfl
theorem tby174 : kbytes Go.Proofs.Try.prog 174 = some 0 := by kernel_rfl
theorem tpls174 : kplaces Go.Proofs.Try.prog 174 = true := by kernel_rfl
theorem tpl174_0 : kplace Go.Proofs.Try.prog 174 0 = some (0, 0) := by kernel_rfl
theorem tz175 : ksz Go.Proofs.Try.prog 175 = some (true, 0) := by kernel_rfl
theorem tzero175 : kzero Go.Proofs.Try.prog 175 = some [] := by kernel_rfl
theorem tzv175 : kzeroV Go.Proofs.Try.prog 175 = some (.agg []) := by kernel_rfl
theorem tby175 : kbytes Go.Proofs.Try.prog 175 = some 0 := by kernel_rfl
theorem tpls175 : kplaces Go.Proofs.Try.prog 175 = true := by kernel_rfl
theorem tpl175_0 : kplace Go.Proofs.Try.prog 175 0 = some (0, 0) := by kernel_rfl
theorem tz176 : ksz Go.Proofs.Try.prog 176 = some (false, 1) := by kernel_rfl
theorem tzero176 : kzero Go.Proofs.Try.prog 176 = some [.d (.int .u8 0)] := by kernel_rfl
theorem tzv176 : kzeroV Go.Proofs.Try.prog 176 = some (.d (.int .u8 0)) := by kernel_rfl
theorem tby176 : kbytes Go.Proofs.Try.prog 176 = some 1 := by kernel_rfl
theorem tint176 : kint Go.Proofs.Try.prog 176 = some .u8 := by kernel_rfl
theorem tlf176 : klf Go.Proofs.Try.prog 176 = 1 := by kernel_rfl
theorem tz177 : ksz Go.Proofs.Try.prog 177 = some (false, 1) := by kernel_rfl
theorem tzero177 : kzero Go.Proofs.Try.prog 177 = some [.d (.int .u8 0)] := by kernel_rfl
theorem tzv177 : kzeroV Go.Proofs.Try.prog 177 = some (.d (.int .u8 0)) := by kernel_rfl
theorem tby177 : kbytes Go.Proofs.Try.prog 177 = some 1 := by kernel_rfl
theorem tint177 : kint Go.Proofs.Try.prog 177 = some .u8 := by kernel_rfl
theorem tlf177 : klf Go.Proofs.Try.prog 177 = 1 := by kernel_rfl
theorem tz178 : ksz Go.Proofs.Try.prog 178 = some (false, 1) := by kernel_rfl
theorem tzero178 : kzero Go.Proofs.Try.prog 178 = some [.d .nilfn] := by kernel_rfl
theorem tz179 : ksz Go.Proofs.Try.prog 179 = some (false, 1) := by kernel_rfl
theorem tzero179 : kzero Go.Proofs.Try.prog 179 = some [.d .nilptr] := by kernel_rfl
theorem tzv179 : kzeroV Go.Proofs.Try.prog 179 = some (.d .nilptr) := by kernel_rfl
theorem tby179 : kbytes Go.Proofs.Try.prog 179 = some 8 := by kernel_rfl
theorem tz180 : ksz Go.Proofs.Try.prog 180 = some (false, 1) := by kernel_rfl
theorem tzero180 : kzero Go.Proofs.Try.prog 180 = some [.d (.int .i32 0)] := by kernel_rfl
theorem tzv180 : kzeroV Go.Proofs.Try.prog 180 = some (.d (.int .i32 0)) := by kernel_rfl
theorem tby180 : kbytes Go.Proofs.Try.prog 180 = some 4 := by kernel_rfl
theorem tint180 : kint Go.Proofs.Try.prog 180 = some .i32 := by kernel_rfl
theorem tlf180 : klf Go.Proofs.Try.prog 180 = 1 := by kernel_rfl
theorem tz181 : ksz Go.Proofs.Try.prog 181 = some (false, 1) := by kernel_rfl
theorem tzero181 : kzero Go.Proofs.Try.prog 181 = some [.d (.int .i32 0)] := by kernel_rfl
theorem tzv181 : kzeroV Go.Proofs.Try.prog 181 = some (.d (.int .i32 0)) := by kernel_rfl
theorem tby181 : kbytes Go.Proofs.Try.prog 181 = some 4 := by kernel_rfl
theorem tint181 : kint Go.Proofs.Try.prog 181 = some .i32 := by kernel_rfl
theorem tlf181 : klf Go.Proofs.Try.prog 181 = 1 := by kernel_rfl
theorem tz182 : ksz Go.Proofs.Try.prog 182 = some (true, 11) := by kernel_rfl
theorem tzero182 : kzero Go.Proofs.Try.prog 182 = some [.d (.int .u64 0), .d (.int .u64 0), .d (.int .u32 0), .d (.int .u8 0), .d (.int .u8 0), .d (.int .u8 0), .d (.int .u8 0), .d .nilfn, .d .nilptr, .d (.int .i32 0), .d (.int .i32 0)] := by kernel_rfl
theorem tzv182 : kzeroV Go.Proofs.Try.prog 182 = some (.agg [.d (.int .u64 0), .d (.int .u64 0), .d (.int .u32 0), .d (.int .u8 0), .d (.int .u8 0), .d (.int .u8 0), .d (.int .u8 0), .d .nilfn, .d .nilptr, .d (.int .i32 0), .d (.int .i32 0)]) := by kernel_rfl
theorem tby182 : kbytes Go.Proofs.Try.prog 182 = some 48 := by kernel_rfl
theorem tpls182 : kplaces Go.Proofs.Try.prog 182 = true := by kernel_rfl
theorem tf182_0 : kfld Go.Proofs.Try.prog 182 0 = some (0, 12) := by kernel_rfl
theorem tpl182_0 : kplace Go.Proofs.Try.prog 182 0 = some (0, 1) := by kernel_rfl
theorem tf182_1 : kfld Go.Proofs.Try.prog 182 1 = some (1, 12) := by kernel_rfl
theorem tpl182_1 : kplace Go.Proofs.Try.prog 182 1 = some (1, 1) := by kernel_rfl
theorem tf182_2 : kfld Go.Proofs.Try.prog 182 2 = some (2, 149) := by kernel_rfl
theorem tpl182_2 : kplace Go.Proofs.Try.prog 182 2 = some (2, 1) := by kernel_rfl
theorem tf182_3 : kfld Go.Proofs.Try.prog 182 3 = some (3, 176) := by kernel_rfl
theorem tpl182_3 : kplace Go.Proofs.Try.prog 182 3 = some (3, 1) := by kernel_rfl
theorem tf182_4 : kfld Go.Proofs.Try.prog 182 4 = some (4, 5) := by kernel_rfl
theorem tpl182_4 : kplace Go.Proofs.Try.prog 182 4 = some (4, 1) := by kernel_rfl
theorem tf182_5 : kfld Go.Proofs.Try.prog 182 5 = some (5, 5) := by kernel_rfl
theorem tpl182_5 : kplace Go.Proofs.Try.prog 182 5 = some (5, 1) := by kernel_rfl
theorem tf182_6 : kfld Go.Proofs.Try.prog 182 6 = some (6, 177) := by kernel_rfl
theorem tpl182_6 : kplace Go.Proofs.Try.prog 182 6 = some (6, 1) := by kernel_rfl
theorem tf182_7 : kfld Go.Proofs.Try.prog 182 7 = some (7, 178) := by kernel_rfl
theorem tpl182_7 : kplace Go.Proofs.Try.prog 182 7 = some (7, 1) := by kernel_rfl
theorem tf182_8 : kfld Go.Proofs.Try.prog 182 8 = some (8, 179) := by kernel_rfl
theorem tpl182_8 : kplace Go.Proofs.Try.prog 182 8 = some (8, 1) := by kernel_rfl
theorem tf182_9 : kfld Go.Proofs.Try.prog 182 9 = some (9, 180) := by kernel_rfl
theorem tpl182_9 : kplace Go.Proofs.Try.prog 182 9 = some (9, 1) := by kernel_rfl
theorem tf182_10 : kfld Go.Proofs.Try.prog 182 10 = some (10, 181) := by kernel_rfl
theorem tpl182_10 : kplace Go.Proofs.Try.prog 182 10 = some (10, 1) := by kernel_rfl
theorem tz183 : ksz Go.Proofs.Try.prog 183 = some (true, 11) := by kernel_rfl
theorem tzero183 : kzero Go.Proofs.Try.prog 183 = some [.d (.int .u64 0), .d (.int .u64 0), .d (.int .u32 0), .d (.int .u8 0), .d (.int .u8 0), .d (.int .u8 0), .d (.int .u8 0), .d .nilfn, .d .nilptr, .d (.int .i32 0), .d (.int .i32 0)] := by kernel_rfl
theorem tzv183 : kzeroV Go.Proofs.Try.prog 183 = some (.agg [.d (.int .u64 0), .d (.int .u64 0), .d (.int .u32 0), .d (.int .u8 0), .d (.int .u8 0), .d (.int .u8 0), .d (.int .u8 0), .d .nilfn, .d .nilptr, .d (.int .i32 0), .d (.int .i32 0)]) := by kernel_rfl
theorem tby183 : kbytes Go.Proofs.Try.prog 183 = some 48 := by kernel_rfl
theorem tpls183 : kplaces Go.Proofs.Try.prog 183 = true := by kernel_rfl
theorem tf183_0 : kfld Go.Proofs.Try.prog 183 0 = some (0, 12) := by kernel_rfl
theorem tpl183_0 : kplace Go.Proofs.Try.prog 183 0 = some (0, 1) := by kernel_rfl
theorem tf183_1 : kfld Go.Proofs.Try.prog 183 1 = some (1, 12) := by kernel_rfl
theorem tpl183_1 : kplace Go.Proofs.Try.prog 183 1 = some (1, 1) := by kernel_rfl
theorem tf183_2 : kfld Go.Proofs.Try.prog 183 2 = some (2, 149) := by kernel_rfl
theorem tpl183_2 : kplace Go.Proofs.Try.prog 183 2 = some (2, 1) := by kernel_rfl
theorem tf183_3 : kfld Go.Proofs.Try.prog 183 3 = some (3, 176) := by kernel_rfl
theorem tpl183_3 : kplace Go.Proofs.Try.prog 183 3 = some (3, 1) := by kernel_rfl
theorem tf183_4 : kfld Go.Proofs.Try.prog 183 4 = some (4, 5) := by kernel_rfl
theorem tpl183_4 : kplace Go.Proofs.Try.prog 183 4 = some (4, 1) := by kernel_rfl
theorem tf183_5 : kfld Go.Proofs.Try.prog 183 5 = some (5, 5) := by kernel_rfl
theorem tpl183_5 : kplace Go.Proofs.Try.prog 183 5 = some (5, 1) := by kernel_rfl
theorem tf183_6 : kfld Go.Proofs.Try.prog 183 6 = some (6, 177) := by kernel_rfl
theorem tpl183_6 : kplace Go.Proofs.Try.prog 183 6 = some (6, 1) := by kernel_rfl
theorem tf183_7 : kfld Go.Proofs.Try.prog 183 7 = some (7, 178) := by kernel_rfl
theorem tpl183_7 : kplace Go.Proofs.Try.prog 183 7 = some (7, 1) := by kernel_rfl
theorem tf183_8 : kfld Go.Proofs.Try.prog 183 8 = some (8, 179) := by kernel_rfl
theorem tpl183_8 : kplace Go.Proofs.Try.prog 183 8 = some (8, 1) := by kernel_rfl
theorem tf183_9 : kfld Go.Proofs.Try.prog 183 9 = some (9, 180) := by kernel_rfl
theorem tpl183_9 : kplace Go.Proofs.Try.prog 183 9 = some (9, 1) := by kernel_rfl
theorem tf183_10 : kfld Go.Proofs.Try.prog 183 10 = some (10, 181) := by kernel_rfl
theorem tpl183_10 : kplace Go.Proofs.Try.prog 183 10 = some (10, 1) := by kernel_rfl
theorem tz184 : ksz Go.Proofs.Try.prog 184 = some (false, 1) := by kernel_rfl
theorem tzero184 : kzero Go.Proofs.Try.prog 184 = some [.d .nilfn] := by kernel_rfl
theorem tz185 : ksz Go.Proofs.Try.prog 185 = some (false, 1) := by kernel_rfl
theorem tzero185 : kzero Go.Proofs.Try.prog 185 = some [.d .nilfn] := by kernel_rfl
theorem tz186 : ksz Go.Proofs.Try.prog 186 = some (false, 1) := by kernel_rfl
theorem tzero186 : kzero Go.Proofs.Try.prog 186 = some [.d .nilptr] := by kernel_rfl
theorem tzv186 : kzeroV Go.Proofs.Try.prog 186 = some (.d .nilptr) := by kernel_rfl
theorem tby186 : kbytes Go.Proofs.Try.prog 186 = some 8 := by kernel_rfl
theorem tex0 : extN Go.Proofs.Try.prog 0 = 0 := by kernel_rfl
theorem tex1 : extN Go.Proofs.Try.prog 1 = 0 := by kernel_rfl
theorem tex2 : extN Go.Proofs.Try.prog 2 = 0 := by kernel_rfl
theorem tex3 : extN Go.Proofs.Try.prog 3 = 0 := by kernel_rfl
theorem tex4 : extN Go.Proofs.Try.prog 4 = 0 := by kernel_rfl
theorem tex5 : extN Go.Proofs.Try.prog 5 = 0 := by kernel_rfl
theorem tex6 : extN Go.Proofs.Try.prog 6 = 0 := by kernel_rfl
theorem tex7 : extN Go.Proofs.Try.prog 7 = 0 := by kernel_rfl
theorem tex8 : extN Go.Proofs.Try.prog 8 = 0 := by kernel_rfl
theorem tex9 : extN Go.Proofs.Try.prog 9 = 0 := by kernel_rfl
theorem tex10 : extN Go.Proofs.Try.prog 10 = 0 := by kernel_rfl
theorem tex11 : extN Go.Proofs.Try.prog 11 = 0 := by kernel_rfl
theorem tex12 : extN Go.Proofs.Try.prog 12 = 0 := by kernel_rfl
theorem tex13 : extN Go.Proofs.Try.prog 13 = 0 := by kernel_rfl
theorem tex14 : extN Go.Proofs.Try.prog 14 = 0 := by kernel_rfl
theorem tex15 : extN Go.Proofs.Try.prog 15 = 0 := by kernel_rfl
theorem tex16 : extN Go.Proofs.Try.prog 16 = 0 := by kernel_rfl
theorem tex17 : extN Go.Proofs.Try.prog 17 = 0 := by kernel_rfl
theorem tex18 : extN Go.Proofs.Try.prog 18 = 0 := by kernel_rfl
theorem tex19 : extN Go.Proofs.Try.prog 19 = 0 := by kernel_rfl
theorem tex20 : extN Go.Proofs.Try.prog 20 = 0 := by kernel_rfl
theorem tex21 : extN Go.Proofs.Try.prog 21 = 0 := by kernel_rfl
theorem tex22 : extN Go.Proofs.Try.prog 22 = 0 := by kernel_rfl
theorem tex23 : extN Go.Proofs.Try.prog 23 = 0 := by kernel_rfl
theorem tex24 : extN Go.Proofs.Try.prog 24 = 0 := by kernel_rfl
theorem tex25 : extN Go.Proofs.Try.prog 25 = 0 := by kernel_rfl
theorem tex26 : extN Go.Proofs.Try.prog 26 = 0 := by kernel_rfl
theorem tex27 : extN Go.Proofs.Try.prog 27 = 0 := by kernel_rfl
theorem tex28 : extN Go.Proofs.Try.prog 28 = 0 := by kernel_rfl
theorem tex29 : extN Go.Proofs.Try.prog 29 = 0 := by kernel_rfl
theorem tex30 : extN Go.Proofs.Try.prog 30 = 0 := by kernel_rfl
theorem tex31 : extN Go.Proofs.Try.prog 31 = 0 := by kernel_rfl
theorem tex32 : extN Go.Proofs.Try.prog 32 = 0 := by kernel_rfl
theorem tex33 : extN Go.Proofs.Try.prog 33 = 0 := by kernel_rfl
theorem tex34 : extN Go.Proofs.Try.prog 34 = 0 := by kernel_rfl
theorem tex35 : extN Go.Proofs.Try.prog 35 = 0 := by kernel_rfl
theorem tex36 : extN Go.Proofs.Try.prog 36 = 0 := by kernel_rfl
theorem tex37 : extN Go.Proofs.Try.prog 37 = 0 := by kernel_rfl
theorem tex38 : extN Go.Proofs.Try.prog 38 = 0 := by kernel_rfl
theorem tex39 : extN Go.Proofs.Try.prog 39 = 0 := by kernel_rfl
theorem tex40 : extN Go.Proofs.Try.prog 40 = 0 := by kernel_rfl
theorem tex41 : extN Go.Proofs.Try.prog 41 = 0 := by kernel_rfl
theorem tex42 : extN Go.Proofs.Try.prog 42 = 0 := by kernel_rfl
theorem tex43 : extN Go.Proofs.Try.prog 43 = 0 := by kernel_rfl
theorem tex44 : extN Go.Proofs.Try.prog 44 = 0 := by kernel_rfl
theorem tex45 : extN Go.Proofs.Try.prog 45 = 0 := by kernel_rfl
theorem tex46 : extN Go.Proofs.Try.prog 46 = 0 := by kernel_rfl
theorem tex47 : extN Go.Proofs.Try.prog 47 = 0 := by kernel_rfl
theorem tex48 : extN Go.Proofs.Try.prog 48 = 0 := by kernel_rfl
theorem tex49 : extN Go.Proofs.Try.prog 49 = 0 := by kernel_rfl
theorem tex50 : extN Go.Proofs.Try.prog 50 = 0 := by kernel_rfl
theorem tex51 : extN Go.Proofs.Try.prog 51 = 0 := by kernel_rfl
theorem tex52 : extN Go.Proofs.Try.prog 52 = 0 := by kernel_rfl
theorem tex53 : extN Go.Proofs.Try.prog 53 = 0 := by kernel_rfl
theorem tex54 : extN Go.Proofs.Try.prog 54 = 0 := by kernel_rfl
theorem tex55 : extN Go.Proofs.Try.prog 55 = 0 := by kernel_rfl
theorem tex56 : extN Go.Proofs.Try.prog 56 = 0 := by kernel_rfl
theorem tex57 : extN Go.Proofs.Try.prog 57 = 0 := by kernel_rfl
theorem tex58 : extN Go.Proofs.Try.prog 58 = 0 := by kernel_rfl
theorem tex59 : extN Go.Proofs.Try.prog 59 = 0 := by kernel_rfl
theorem tex60 : extN Go.Proofs.Try.prog 60 = 0 := by kernel_rfl
theorem tex61 : extN Go.Proofs.Try.prog 61 = 0 := by kernel_rfl
theorem tex62 : extN Go.Proofs.Try.prog 62 = 0 := by kernel_rfl
theorem tex63 : extN Go.Proofs.Try.prog 63 = 0 := by kernel_rfl
theorem tex64 : extN Go.Proofs.Try.prog 64 = 0 := by kernel_rfl
theorem tex65 : extN Go.Proofs.Try.prog 65 = 0 := by kernel_rfl
theorem tex66 : extN Go.Proofs.Try.prog 66 = 0 := by kernel_rfl
theorem tex67 : extN Go.Proofs.Try.prog 67 = 0 := by kernel_rfl
theorem tex68 : extN Go.Proofs.Try.prog 68 = 0 := by kernel_rfl
theorem tex69 : extN Go.Proofs.Try.prog 69 = 0 := by kernel_rfl
theorem tex70 : extN Go.Proofs.Try.prog 70 = 0 := by kernel_rfl
theorem tex71 : extN Go.Proofs.Try.prog 71 = 0 := by kernel_rfl
theorem tex72 : extN Go.Proofs.Try.prog 72 = 0 := by kernel_rfl
theorem tex73 : extN Go.Proofs.Try.prog 73 = 0 := by kernel_rfl
theorem tex74 : extN Go.Proofs.Try.prog 74 = 0 := by kernel_rfl
theorem tex75 : extN Go.Proofs.Try.prog 75 = 0 := by kernel_rfl
theorem tex76 : extN Go.Proofs.Try.prog 76 = 0 := by kernel_rfl
theorem tex77 : extN Go.Proofs.Try.prog 77 = 0 := by kernel_rfl
theorem tex78 : extN Go.Proofs.Try.prog 78 = 0 := by kernel_rfl
theorem tex79 : extN Go.Proofs.Try.prog 79 = 0 := by kernel_rfl
theorem tex80 : extN Go.Proofs.Try.prog 80 = 0 := by kernel_rfl
theorem tex81 : extN Go.Proofs.Try.prog 81 = 0 := by kernel_rfl
theorem tex82 : extN Go.Proofs.Try.prog 82 = 0 := by kernel_rfl
theorem tex83 : extN Go.Proofs.Try.prog 83 = 0 := by kernel_rfl
theorem tex84 : extN Go.Proofs.Try.prog 84 = 0 := by kernel_rfl
theorem tex85 : extN Go.Proofs.Try.prog 85 = 0 := by kernel_rfl
theorem tex86 : extN Go.Proofs.Try.prog 86 = 0 := by kernel_rfl
theorem tex87 : extN Go.Proofs.Try.prog 87 = 0 := by kernel_rfl
theorem tex88 : extN Go.Proofs.Try.prog 88 = 0 := by kernel_rfl
theorem tex89 : extN Go.Proofs.Try.prog 89 = 0 := by kernel_rfl
theorem tex90 : extN Go.Proofs.Try.prog 90 = 0 := by kernel_rfl
theorem tex91 : extN Go.Proofs.Try.prog 91 = 0 := by kernel_rfl
theorem tex92 : extN Go.Proofs.Try.prog 92 = 0 := by kernel_rfl
theorem tex93 : extN Go.Proofs.Try.prog 93 = 0 := by kernel_rfl
theorem tex94 : extN Go.Proofs.Try.prog 94 = 0 := by kernel_rfl
theorem tex95 : extN Go.Proofs.Try.prog 95 = 0 := by kernel_rfl
theorem tex96 : extN Go.Proofs.Try.prog 96 = 0 := by kernel_rfl
theorem tex97 : extN Go.Proofs.Try.prog 97 = 0 := by kernel_rfl
theorem tex98 : extN Go.Proofs.Try.prog 98 = 0 := by kernel_rfl
theorem tex99 : extN Go.Proofs.Try.prog 99 = 0 := by kernel_rfl
theorem tex100 : extN Go.Proofs.Try.prog 100 = 0 := by kernel_rfl
theorem tex101 : extN Go.Proofs.Try.prog 101 = 0 := by kernel_rfl
theorem tex102 : extN Go.Proofs.Try.prog 102 = 0 := by kernel_rfl
theorem tex103 : extN Go.Proofs.Try.prog 103 = 0 := by kernel_rfl
theorem tex104 : extN Go.Proofs.Try.prog 104 = 0 := by kernel_rfl
theorem tex105 : extN Go.Proofs.Try.prog 105 = 0 := by kernel_rfl
theorem tex106 : extN Go.Proofs.Try.prog 106 = 0 := by kernel_rfl
theorem tex107 : extN Go.Proofs.Try.prog 107 = 0 := by kernel_rfl
theorem tex108 : extN Go.Proofs.Try.prog 108 = 0 := by kernel_rfl
theorem tex109 : extN Go.Proofs.Try.prog 109 = 0 := by kernel_rfl
theorem tex110 : extN Go.Proofs.Try.prog 110 = 0 := by kernel_rfl
theorem tex111 : extN Go.Proofs.Try.prog 111 = 0 := by kernel_rfl
theorem tex112 : extN Go.Proofs.Try.prog 112 = 0 := by kernel_rfl
theorem tex113 : extN Go.Proofs.Try.prog 113 = 0 := by kernel_rfl
theorem tex114 : extN Go.Proofs.Try.prog 114 = 0 := by kernel_rfl
theorem tex115 : extN Go.Proofs.Try.prog 115 = 0 := by kernel_rfl
theorem tex116 : extN Go.Proofs.Try.prog 116 = 0 := by kernel_rfl
theorem tex117 : extN Go.Proofs.Try.prog 117 = 0 := by kernel_rfl
theorem tex118 : extN Go.Proofs.Try.prog 118 = 0 := by kernel_rfl
theorem tex119 : extN Go.Proofs.Try.prog 119 = 0 := by kernel_rfl
theorem tex120 : extN Go.Proofs.Try.prog 120 = 0 := by kernel_rfl
theorem tex121 : extN Go.Proofs.Try.prog 121 = 0 := by kernel_rfl
theorem tex122 : extN Go.Proofs.Try.prog 122 = 0 := by kernel_rfl
theorem tex123 : extN Go.Proofs.Try.prog 123 = 0 := by kernel_rfl
theorem tex124 : extN Go.Proofs.Try.prog 124 = 0 := by kernel_rfl
theorem tex125 : extN Go.Proofs.Try.prog 125 = 0 := by kernel_rfl
theorem tex126 : extN Go.Proofs.Try.prog 126 = 0 := by kernel_rfl
theorem tex127 : extN Go.Proofs.Try.prog 127 = 0 := by kernel_rfl
theorem tex128 : extN Go.Proofs.Try.prog 128 = 0 := by kernel_rfl
theorem tex129 : extN Go.Proofs.Try.prog 129 = 0 := by kernel_rfl
theorem tex130 : extN Go.Proofs.Try.prog 130 = 0 := by kernel_rfl
attribute [push_cast] tz1 tzero1 tz2 tzero2 tzv2 tby2 tint2 tlf2 tz3 tzero3 tzv3 tby3 tint3 tlf3 tz4 tzero4 tzv4 tby4 tlf4 tz5 tzero5 tzv5 tby5 tint5 tlf5 tz6 tzero6 tzv6 tby6 tint6 tlf6 tz7 tzero7 tzv7 tby7 tpls7 tf7_0 tpl7_0 tf7_1 tpl7_1 tf7_2 tpl7_2 tf7_3 tpl7_3 tz8 tzero8 tzv8 tby8 tpls8 tf8_0 tpl8_0 tf8_1 tpl8_1 tf8_2 tpl8_2 tf8_3 tpl8_3 tz9 tzero9 tzv9 tby9 tstr9 tsl9 tseq9 tlf9 tz10 tzero10 tzv10 tby10 tstr10 tsl10 tseq10 tlf10 tz11 tzero11 tzv11 tby11 tstr11 tsl11 tseq11 tlf11 tz12 tzero12 tzv12 tby12 tint12 tlf12 tz13 tzero13 tzv13 tby13 tpls13 tf13_0 tpl13_0 tf13_1 tpl13_1 tz14 tzero14 tzv14 tby14 tpls14 tf14_0 tpl14_0 tf14_1 tpl14_1 tz15 tzero15 tzv15 tby15 tz16 tzero16 tzv16 tby16 tz17 tzero17 tzv17 tby17 tz18 tzero18 tzv18 tby18 tpls18 tf18_0 tpl18_0 tz19 tzero19 tzv19 tby19 tpls19 tf19_0 tpl19_0 tz20 tzero20 tzv20 tby20 tz21 tzero21 tzv21 tby21 tint21 tlf21 tz22 tzero22 tzv22 tby22 tel22 tsl22 tstr22 tseq22 tz23 tzero23 tz24 tzero24 tz25 tzero25 tz26 tzero26 tzv26 tby26 tel26 tsl26 tstr26 tseq26 tz27 tzero27 tzv27 tby27 tint27 tlf27 tz29 tzero29 tz30 tzero30 tz31 tzero31 tz32 tzero32 tz33 tzero33 tzv33 tby33 tpls33 tf33_0 tpl33_0 tf33_1 tpl33_1 tz34 tzero34 tzv34 tby34 tst34 tpls34 tf34_0 tpl34_0 tf34_1 tpl34_1 tz35 tzero35 tzv35 tby35 tpls35 tf35_0 tpl35_0 tf35_1 tpl35_1 tf35_2 tpl35_2 tf35_3 tpl35_3 tz36 tzero36 tzv36 tby36 tst36 tpls36 tf36_0 tpl36_0 tf36_1 tpl36_1 tf36_2 tpl36_2 tf36_3 tpl36_3 tz38 tzero38 tz40 tzero40 tz41 tzero41 tz42 tzero42 tz44 tzero44 tz45 tzero45 tz46 tzero46 tz47 tzero47 tzv47 tby47 tel47 tsl47 tstr47 tseq47 tz48 tzero48 tz49 tzero49 tz50 tzero50 tzv50 tby50 tpls50 tf50_0 tpl50_0 tf50_1 tpl50_1 tf50_2 tpl50_2 tz51 tzero51 tzv51 tby51 tst51 tpls51 tf51_0 tpl51_0 tf51_1 tpl51_1 tf51_2 tpl51_2 tz52 tzero52 tz53 tzero53 tz54 tzero54 tzv54 tby54 tel54 tsl54 tstr54 tseq54 tz55 tzero55 tz56 tzero56 tz57 tzero57 tz58 tzero58 tz59 tzero59 tzv59 tby59 tel59 tsl59 tstr59 tseq59 tz61 tzero61 tz62 tzero62 tzv62 tby62 tpls62 tf62_0 tpl62_0 tf62_1 tpl62_1 tz63 tzero63 tzv63 tby63 tst63 tpls63 tf63_0 tpl63_0 tf63_1 tpl63_1 tz64 tzero64 tz65 tzero65 tz66 tzero66 tz67 tzero67 tz68 tzero68 tz69 tzero69 tzv69 tby69 tel69 tsl69 tstr69 tseq69 tz70 tzero70 tz71 tzero71 tz72 tzero72 tz73 tzero73 tz74 tzero74 tz75 tzero75 tz76 tzero76 tz77 tzero77 tz78 tzero78 tz79 tzero79 tzv79 tmap79 tby79 tz81 tzero81 tz82 tzero82 tz83 tzero83 tzv83 tby83 tel83 tsl83 tstr83 tseq83 tz84 tzero84 tzv84 tmap84 tby84 tz85 tzero85 tz86 tzero86 tz87 tzero87 tz88 tzero88 tz89 tzero89 tz90 tzero90 tz91 tzero91 tz92 tzero92 tz93 tzero93 tzv93 tby93 tz94 tzero94 tzv94 tby94 tel94 tsl94 tstr94 tseq94 tz95 tzero95 tzv95 tby95 tel95 tsl95 tstr95 tseq95 tz96 tzero96 tz97 tzero97 tzv97 tby97 tpls97 tf97_0 tpl97_0 tf97_1 tpl97_1 tz98 tzero98 tzv98 tby98 tst98 tpls98 tf98_0 tpl98_0 tf98_1 tpl98_1 tz99 tzero99 tz100 tzero100 tz101 tzero101 tzv101 tby101 tel101 tsl101 tstr101 tseq101 tz102 tzero102 tz103 tzero103 tzv103 tmap103 tby103 tz104 tzero104 tz105 tzero105 tz106 tzero106 tz107 tzero107 tz108 tzero108 tz109 tzero109 tz110 tzero110 tz111 tzero111 tz112 tzero112 tzv112 tby112 tz113 tzero113 tz114 tzero114 tz115 tzero115 tz116 tzero116 tz117 tzero117 tz118 tzero118 tz119 tzero119 tzv119 tby119 tpls119 tf119_0 tpl119_0 tf119_1 tpl119_1 tz120 tzero120 tzv120 tby120 tst120 tpls120 tf120_0 tpl120_0 tf120_1 tpl120_1 tz121 tzero121 tz122 tzero122 tz123 tzero123 tz124 tzero124 tzv124 tby124 tz125 tzero125 tzv125 tby125 tz126 tzero126 tz127 tzero127 tz128 tzero128 tz129 tzero129 tz130 tzero130 tz131 tzero131 tz132 tzero132 tz133 tzero133 tzv133 tby133 tint133 tlf133 tz134 tzero134 tz135 tzero135 tz136 tzero136 tz137 tzero137 tz138 tzero138 tz139 tzero139 tz140 tzero140 tz141 tzero141 tz142 tzero142 tzv142 tby142 tint142 tlf142 tz144 tzero144 tz145 tzero145 tz146 tzero146 tz147 tzero147 tz148 tzero148 tz149 tzero149 tzv149 tby149 tint149 tlf149 tz150 tzero150 tz151 tzero151 tzv151 tby151 tint151 tlf151 tz152 tzero152 tz153 tzero153 tz154 tzero154 tz155 tzero155 tz156 tzero156 tz157 tzero157 tz158 tzero158 tzv158 tby158 tint158 tlf158 tz159 tzero159 tz160 tzero160 tz161 tzero161 tz162 tzero162 tzv162 tby162 tz163 tzero163 tz164 tzero164 tz165 tzero165 tz166 tzero166 tzv166 tby166 tz168 tzero168 tz169 tzero169 tz170 tzero170 tz171 tzero171 tzv171 tby171 tpls171 tf171_0 tpl171_0 tf171_1 tpl171_1 tf171_2 tpl171_2 tf171_3 tpl171_3 tz172 tzero172 tzv172 tby172 tpls172 tf172_0 tpl172_0 tf172_1 tpl172_1 tf172_2 tpl172_2 tf172_3 tpl172_3 tz173 tzero173 tzv173 tby173 tel173 tpls173 tz174 tzero174 tzv174 tby174 tpls174 tpl174_0 tz175 tzero175 tzv175 tby175 tpls175 tpl175_0 tz176 tzero176 tzv176 tby176 tint176 tlf176 tz177 tzero177 tzv177 tby177 tint177 tlf177 tz178 tzero178 tz179 tzero179 tzv179 tby179 tz180 tzero180 tzv180 tby180 tint180 tlf180 tz181 tzero181 tzv181 tby181 tint181 tlf181 tz182 tzero182 tzv182 tby182 tpls182 tf182_0 tpl182_0 tf182_1 tpl182_1 tf182_2 tpl182_2 tf182_3 tpl182_3 tf182_4 tpl182_4 tf182_5 tpl182_5 tf182_6 tpl182_6 tf182_7 tpl182_7 tf182_8 tpl182_8 tf182_9 tpl182_9 tf182_10 tpl182_10 tz183 tzero183 tzv183 tby183 tpls183 tf183_0 tpl183_0 tf183_1 tpl183_1 tf183_2 tpl183_2 tf183_3 tpl183_3 tf183_4 tpl183_4 tf183_5 tpl183_5 tf183_6 tpl183_6 tf183_7 tpl183_7 tf183_8 tpl183_8 tf183_9 tpl183_9 tf183_10 tpl183_10 tz184 tzero184 tz185 tzero185 tz186 tzero186 tzv186 tby186 tex0 tex1 tex2 tex3 tex4 tex5 tex6 tex7 tex8 tex9 tex10 tex11 tex12 tex13 tex14 tex15 tex16 tex17 tex18 tex19 tex20 tex21 tex22 tex23 tex24 tex25 tex26 tex27 tex28 tex29 tex30 tex31 tex32 tex33 tex34 tex35 tex36 tex37 tex38 tex39 tex40 tex41 tex42 tex43 tex44 tex45 tex46 tex47 tex48 tex49 tex50 tex51 tex52 tex53 tex54 tex55 tex56 tex57 tex58 tex59 tex60 tex61 tex62 tex63 tex64 tex65 tex66 tex67 tex68 tex69 tex70 tex71 tex72 tex73 tex74 tex75 tex76 tex77 tex78 tex79 tex80 tex81 tex82 tex83 tex84 tex85 tex86 tex87 tex88 tex89 tex90 tex91 tex92 tex93 tex94 tex95 tex96 tex97 tex98 tex99 tex100 tex101 tex102 tex103 tex104 tex105 tex106 tex107 tex108 tex109 tex110 tex111 tex112 tex113 tex114 tex115 tex116 tex117 tex118 tex119 tex120 tex121 tex122 tex123 tex124 tex125 tex126 tex127 tex128 tex129 tex130

end Go.Aw
