/-
  Texts of the proof, one behind the other. The conditions stand with each of them.
-/
import Derived.Test.YtlimahhonfckdaaDoorProg
import Derived.KernelRfl
import Derived.Sort.Row
import Derived.Sort.Grow
import Derived.Test.YtlimahhonfckdaaDoorQkCp
import Derived.Test.YtlimahhonfckdaaDoorQkYp
namespace Go.Aw
set_option linter.unusedSimpArgs false
set_option linter.unusedVariables false
open Go.RowKit Go.Proofs

theorem tz1 : ksz Tryd.prog 1 = some (false, 1) := by kernel_rfl
theorem tzero1 : kzero Tryd.prog 1 = some [.d .nilfn] := by kernel_rfl
theorem tcn2 : kconc Tryd.prog 2 = true := by kernel_rfl
theorem tz2 : ksz Tryd.prog 2 = some (false, 1) := by kernel_rfl
theorem tzero2 : kzero Tryd.prog 2 = some [.d (.int .i64 0)] := by kernel_rfl
theorem tzv2 : kzeroV Tryd.prog 2 = some (.d (.int .i64 0)) := by kernel_rfl
theorem tby2 : kbytes Tryd.prog 2 = some 8 := by kernel_rfl
theorem tint2 : kint Tryd.prog 2 = some .i64 := by kernel_rfl
theorem tstr2 : kstr Tryd.prog 2 = false := by kernel_rfl
theorem tlf2 : klf Tryd.prog 2 = 1 := by kernel_rfl
theorem tcn3 : kconc Tryd.prog 3 = true := by kernel_rfl
theorem tz3 : ksz Tryd.prog 3 = some (false, 1) := by kernel_rfl
theorem tzero3 : kzero Tryd.prog 3 = some [.d (.int .i64 0)] := by kernel_rfl
theorem tzv3 : kzeroV Tryd.prog 3 = some (.d (.int .i64 0)) := by kernel_rfl
theorem tby3 : kbytes Tryd.prog 3 = some 8 := by kernel_rfl
theorem tint3 : kint Tryd.prog 3 = some .i64 := by kernel_rfl
theorem tstr3 : kstr Tryd.prog 3 = false := by kernel_rfl
theorem tlf3 : klf Tryd.prog 3 = 1 := by kernel_rfl
theorem tcn4 : kconc Tryd.prog 4 = true := by kernel_rfl
theorem tz4 : ksz Tryd.prog 4 = some (false, 1) := by kernel_rfl
theorem tzero4 : kzero Tryd.prog 4 = some [.d (.bool false)] := by kernel_rfl
theorem tzv4 : kzeroV Tryd.prog 4 = some (.d (.bool false)) := by kernel_rfl
theorem tby4 : kbytes Tryd.prog 4 = some 1 := by kernel_rfl
theorem tlf4 : klf Tryd.prog 4 = 2 := by kernel_rfl
theorem tcn5 : kconc Tryd.prog 5 = true := by kernel_rfl
theorem tz5 : ksz Tryd.prog 5 = some (false, 1) := by kernel_rfl
theorem tzero5 : kzero Tryd.prog 5 = some [.d (.int .u8 0)] := by kernel_rfl
theorem tzv5 : kzeroV Tryd.prog 5 = some (.d (.int .u8 0)) := by kernel_rfl
theorem tby5 : kbytes Tryd.prog 5 = some 1 := by kernel_rfl
theorem tint5 : kint Tryd.prog 5 = some .u8 := by kernel_rfl
theorem tstr5 : kstr Tryd.prog 5 = false := by kernel_rfl
theorem tlf5 : klf Tryd.prog 5 = 1 := by kernel_rfl
theorem tcn6 : kconc Tryd.prog 6 = true := by kernel_rfl
theorem tz6 : ksz Tryd.prog 6 = some (false, 1) := by kernel_rfl
theorem tzero6 : kzero Tryd.prog 6 = some [.d (.int .u8 0)] := by kernel_rfl
theorem tzv6 : kzeroV Tryd.prog 6 = some (.d (.int .u8 0)) := by kernel_rfl
theorem tby6 : kbytes Tryd.prog 6 = some 1 := by kernel_rfl
theorem tint6 : kint Tryd.prog 6 = some .u8 := by kernel_rfl
theorem tstr6 : kstr Tryd.prog 6 = false := by kernel_rfl
theorem tlf6 : klf Tryd.prog 6 = 1 := by kernel_rfl
theorem tcn7 : kconc Tryd.prog 7 = true := by kernel_rfl
theorem tz7 : ksz Tryd.prog 7 = some (true, 4) := by kernel_rfl
theorem tzero7 : kzero Tryd.prog 7 = some [.d (.int .i64 0), .d (.int .i64 0), .d (.bool false), .d (.int .u8 0)] := by kernel_rfl
theorem tzv7 : kzeroV Tryd.prog 7 = some (.agg [.d (.int .i64 0), .d (.int .i64 0), .d (.bool false), .d (.int .u8 0)]) := by kernel_rfl
theorem tby7 : kbytes Tryd.prog 7 = some 24 := by kernel_rfl
theorem tpls7 : kplaces Tryd.prog 7 = true := by kernel_rfl
theorem tf7_0 : kfld Tryd.prog 7 0 = some (0, 2) := by kernel_rfl
theorem tpl7_0 : kplace Tryd.prog 7 0 = some (0, 1) := by kernel_rfl
theorem tf7_1 : kfld Tryd.prog 7 1 = some (1, 3) := by kernel_rfl
theorem tpl7_1 : kplace Tryd.prog 7 1 = some (1, 1) := by kernel_rfl
theorem tf7_2 : kfld Tryd.prog 7 2 = some (2, 4) := by kernel_rfl
theorem tpl7_2 : kplace Tryd.prog 7 2 = some (2, 1) := by kernel_rfl
theorem tf7_3 : kfld Tryd.prog 7 3 = some (3, 6) := by kernel_rfl
theorem tpl7_3 : kplace Tryd.prog 7 3 = some (3, 1) := by kernel_rfl
theorem tcn8 : kconc Tryd.prog 8 = true := by kernel_rfl
theorem tz8 : ksz Tryd.prog 8 = some (true, 4) := by kernel_rfl
theorem tzero8 : kzero Tryd.prog 8 = some [.d (.int .i64 0), .d (.int .i64 0), .d (.bool false), .d (.int .u8 0)] := by kernel_rfl
theorem tzv8 : kzeroV Tryd.prog 8 = some (.agg [.d (.int .i64 0), .d (.int .i64 0), .d (.bool false), .d (.int .u8 0)]) := by kernel_rfl
theorem tby8 : kbytes Tryd.prog 8 = some 24 := by kernel_rfl
theorem tpls8 : kplaces Tryd.prog 8 = true := by kernel_rfl
theorem tf8_0 : kfld Tryd.prog 8 0 = some (0, 2) := by kernel_rfl
theorem tpl8_0 : kplace Tryd.prog 8 0 = some (0, 1) := by kernel_rfl
theorem tf8_1 : kfld Tryd.prog 8 1 = some (1, 3) := by kernel_rfl
theorem tpl8_1 : kplace Tryd.prog 8 1 = some (1, 1) := by kernel_rfl
theorem tf8_2 : kfld Tryd.prog 8 2 = some (2, 4) := by kernel_rfl
theorem tpl8_2 : kplace Tryd.prog 8 2 = some (2, 1) := by kernel_rfl
theorem tf8_3 : kfld Tryd.prog 8 3 = some (3, 6) := by kernel_rfl
theorem tpl8_3 : kplace Tryd.prog 8 3 = some (3, 1) := by kernel_rfl
theorem tcn9 : kconc Tryd.prog 9 = true := by kernel_rfl
theorem tz9 : ksz Tryd.prog 9 = some (false, 1) := by kernel_rfl
theorem tzero9 : kzero Tryd.prog 9 = some [.d (.str ByteArray.empty)] := by kernel_rfl
theorem tzv9 : kzeroV Tryd.prog 9 = some (.d (.str ByteArray.empty)) := by kernel_rfl
theorem tby9 : kbytes Tryd.prog 9 = some 16 := by kernel_rfl
theorem tstr9 : kstr Tryd.prog 9 = true := by kernel_rfl
theorem tsl9 : ksl Tryd.prog 9 = false := by kernel_rfl
theorem tseq9 : kseq Tryd.prog 9 = true := by kernel_rfl
theorem tlf9 : klf Tryd.prog 9 = 3 := by kernel_rfl
theorem tcn22 : kconc Tryd.prog 22 = true := by kernel_rfl
theorem tz22 : ksz Tryd.prog 22 = some (false, 1) := by kernel_rfl
theorem tzero22 : kzero Tryd.prog 22 = some [.nil] := by kernel_rfl
theorem tzv22 : kzeroV Tryd.prog 22 = some (.nil) := by kernel_rfl
theorem tby22 : kbytes Tryd.prog 22 = some 24 := by kernel_rfl
theorem tel22 : kel Tryd.prog 22 = some (none, 6, 44) := by kernel_rfl
theorem tsl22 : ksl Tryd.prog 22 = true := by kernel_rfl
theorem tstr22 : kstr Tryd.prog 22 = false := by kernel_rfl
theorem tseq22 : kseq Tryd.prog 22 = true := by kernel_rfl
theorem tcn23 : kconc Tryd.prog 23 = true := by kernel_rfl
theorem tz23 : ksz Tryd.prog 23 = some (false, 1) := by kernel_rfl
theorem tzero23 : kzero Tryd.prog 23 = some [.nil] := by kernel_rfl
theorem tzv23 : kzeroV Tryd.prog 23 = some (.nil) := by kernel_rfl
theorem tby23 : kbytes Tryd.prog 23 = some 24 := by kernel_rfl
theorem tel23 : kel Tryd.prog 23 = some (none, 1, 50) := by kernel_rfl
theorem tsl23 : ksl Tryd.prog 23 = true := by kernel_rfl
theorem tstr23 : kstr Tryd.prog 23 = false := by kernel_rfl
theorem tseq23 : kseq Tryd.prog 23 = true := by kernel_rfl
theorem tcn28 : kconc Tryd.prog 28 = true := by kernel_rfl
theorem tz28 : ksz Tryd.prog 28 = some (false, 1) := by kernel_rfl
theorem tzero28 : kzero Tryd.prog 28 = some [.d (.int .i64 0)] := by kernel_rfl
theorem tzv28 : kzeroV Tryd.prog 28 = some (.d (.int .i64 0)) := by kernel_rfl
theorem tby28 : kbytes Tryd.prog 28 = some 8 := by kernel_rfl
theorem tint28 : kint Tryd.prog 28 = some .i64 := by kernel_rfl
theorem tstr28 : kstr Tryd.prog 28 = false := by kernel_rfl
theorem tlf28 : klf Tryd.prog 28 = 1 := by kernel_rfl
theorem tcn35 : kconc Tryd.prog 35 = true := by kernel_rfl
theorem tz35 : ksz Tryd.prog 35 = some (false, 1) := by kernel_rfl
theorem tzero35 : kzero Tryd.prog 35 = some [.nil] := by kernel_rfl
theorem tzv35 : kzeroV Tryd.prog 35 = some (.nil) := by kernel_rfl
theorem tby35 : kbytes Tryd.prog 35 = some 24 := by kernel_rfl
theorem tel35 : kel Tryd.prog 35 = some (none, 1, 3) := by kernel_rfl
theorem tsl35 : ksl Tryd.prog 35 = true := by kernel_rfl
theorem tstr35 : kstr Tryd.prog 35 = false := by kernel_rfl
theorem tseq35 : kseq Tryd.prog 35 = true := by kernel_rfl
theorem tcn43 : kconc Tryd.prog 43 = true := by kernel_rfl
theorem tz43 : ksz Tryd.prog 43 = some (true, 6) := by kernel_rfl
theorem tzero43 : kzero Tryd.prog 43 = some [.d (.int .i64 0), .d (.int .i64 0), .d (.int .i64 0), .d (.int .i64 0), .d (.int .i64 0), .d (.int .i64 0)] := by kernel_rfl
theorem tzv43 : kzeroV Tryd.prog 43 = some (.agg [.d (.int .i64 0), .d (.int .i64 0), .d (.int .i64 0), .d (.int .i64 0), .d (.int .i64 0), .d (.int .i64 0)]) := by kernel_rfl
theorem tby43 : kbytes Tryd.prog 43 = some 48 := by kernel_rfl
theorem tpls43 : kplaces Tryd.prog 43 = true := by kernel_rfl
theorem tf43_0 : kfld Tryd.prog 43 0 = some (0, 3) := by kernel_rfl
theorem tpl43_0 : kplace Tryd.prog 43 0 = some (0, 1) := by kernel_rfl
theorem tf43_1 : kfld Tryd.prog 43 1 = some (1, 3) := by kernel_rfl
theorem tpl43_1 : kplace Tryd.prog 43 1 = some (1, 1) := by kernel_rfl
theorem tf43_2 : kfld Tryd.prog 43 2 = some (2, 3) := by kernel_rfl
theorem tpl43_2 : kplace Tryd.prog 43 2 = some (2, 1) := by kernel_rfl
theorem tf43_3 : kfld Tryd.prog 43 3 = some (3, 2) := by kernel_rfl
theorem tpl43_3 : kplace Tryd.prog 43 3 = some (3, 1) := by kernel_rfl
theorem tf43_4 : kfld Tryd.prog 43 4 = some (4, 2) := by kernel_rfl
theorem tpl43_4 : kplace Tryd.prog 43 4 = some (4, 1) := by kernel_rfl
theorem tf43_5 : kfld Tryd.prog 43 5 = some (5, 2) := by kernel_rfl
theorem tpl43_5 : kplace Tryd.prog 43 5 = some (5, 1) := by kernel_rfl
theorem tcn44 : kconc Tryd.prog 44 = true := by kernel_rfl
theorem tz44 : ksz Tryd.prog 44 = some (true, 6) := by kernel_rfl
theorem tzero44 : kzero Tryd.prog 44 = some [.d (.int .i64 0), .d (.int .i64 0), .d (.int .i64 0), .d (.int .i64 0), .d (.int .i64 0), .d (.int .i64 0)] := by kernel_rfl
theorem tzv44 : kzeroV Tryd.prog 44 = some (.agg [.d (.int .i64 0), .d (.int .i64 0), .d (.int .i64 0), .d (.int .i64 0), .d (.int .i64 0), .d (.int .i64 0)]) := by kernel_rfl
theorem tby44 : kbytes Tryd.prog 44 = some 48 := by kernel_rfl
theorem tst44 : kst Tryd.prog 44 = some [(3, 0), (3, 1), (3, 2), (2, 3), (2, 4), (2, 5)] := by kernel_rfl
theorem tpls44 : kplaces Tryd.prog 44 = true := by kernel_rfl
theorem tf44_0 : kfld Tryd.prog 44 0 = some (0, 3) := by kernel_rfl
theorem tpl44_0 : kplace Tryd.prog 44 0 = some (0, 1) := by kernel_rfl
theorem tf44_1 : kfld Tryd.prog 44 1 = some (1, 3) := by kernel_rfl
theorem tpl44_1 : kplace Tryd.prog 44 1 = some (1, 1) := by kernel_rfl
theorem tf44_2 : kfld Tryd.prog 44 2 = some (2, 3) := by kernel_rfl
theorem tpl44_2 : kplace Tryd.prog 44 2 = some (2, 1) := by kernel_rfl
theorem tf44_3 : kfld Tryd.prog 44 3 = some (3, 2) := by kernel_rfl
theorem tpl44_3 : kplace Tryd.prog 44 3 = some (3, 1) := by kernel_rfl
theorem tf44_4 : kfld Tryd.prog 44 4 = some (4, 2) := by kernel_rfl
theorem tpl44_4 : kplace Tryd.prog 44 4 = some (4, 1) := by kernel_rfl
theorem tf44_5 : kfld Tryd.prog 44 5 = some (5, 2) := by kernel_rfl
theorem tpl44_5 : kplace Tryd.prog 44 5 = some (5, 1) := by kernel_rfl
theorem tcn46 : kconc Tryd.prog 46 = true := by kernel_rfl
theorem tz46 : ksz Tryd.prog 46 = some (false, 1) := by kernel_rfl
theorem tzero46 : kzero Tryd.prog 46 = some [.nil] := by kernel_rfl
theorem tzv46 : kzeroV Tryd.prog 46 = some (.nil) := by kernel_rfl
theorem tby46 : kbytes Tryd.prog 46 = some 24 := by kernel_rfl
theorem tel46 : kel Tryd.prog 46 = some (none, 1, 22) := by kernel_rfl
theorem tsl46 : ksl Tryd.prog 46 = true := by kernel_rfl
theorem tstr46 : kstr Tryd.prog 46 = false := by kernel_rfl
theorem tseq46 : kseq Tryd.prog 46 = true := by kernel_rfl
theorem tcn47 : kconc Tryd.prog 47 = true := by kernel_rfl
theorem tz47 : ksz Tryd.prog 47 = some (false, 1) := by kernel_rfl
theorem tzero47 : kzero Tryd.prog 47 = some [.nil] := by kernel_rfl
theorem tzv47 : kzeroV Tryd.prog 47 = some (.nil) := by kernel_rfl
theorem tby47 : kbytes Tryd.prog 47 = some 24 := by kernel_rfl
theorem tel47 : kel Tryd.prog 47 = some (none, 1, 46) := by kernel_rfl
theorem tsl47 : ksl Tryd.prog 47 = true := by kernel_rfl
theorem tstr47 : kstr Tryd.prog 47 = false := by kernel_rfl
theorem tseq47 : kseq Tryd.prog 47 = true := by kernel_rfl
theorem tcn49 : kconc Tryd.prog 49 = true := by kernel_rfl
theorem tz49 : ksz Tryd.prog 49 = some (false, 1) := by kernel_rfl
theorem tzero49 : kzero Tryd.prog 49 = some [.nil] := by kernel_rfl
theorem tzv49 : kzeroV Tryd.prog 49 = some (.nil) := by kernel_rfl
theorem tby49 : kbytes Tryd.prog 49 = some 24 := by kernel_rfl
theorem tel49 : kel Tryd.prog 49 = some (none, 5, 56) := by kernel_rfl
theorem tsl49 : ksl Tryd.prog 49 = true := by kernel_rfl
theorem tstr49 : kstr Tryd.prog 49 = false := by kernel_rfl
theorem tseq49 : kseq Tryd.prog 49 = true := by kernel_rfl
theorem tcn50 : kconc Tryd.prog 50 = true := by kernel_rfl
theorem tz50 : ksz Tryd.prog 50 = some (false, 1) := by kernel_rfl
theorem tzero50 : kzero Tryd.prog 50 = some [.nil] := by kernel_rfl
theorem tzv50 : kzeroV Tryd.prog 50 = some (.nil) := by kernel_rfl
theorem tby50 : kbytes Tryd.prog 50 = some 24 := by kernel_rfl
theorem tel50 : kel Tryd.prog 50 = some (none, 1, 2) := by kernel_rfl
theorem tsl50 : ksl Tryd.prog 50 = true := by kernel_rfl
theorem tstr50 : kstr Tryd.prog 50 = false := by kernel_rfl
theorem tseq50 : kseq Tryd.prog 50 = true := by kernel_rfl
theorem tcn55 : kconc Tryd.prog 55 = true := by kernel_rfl
theorem tz55 : ksz Tryd.prog 55 = some (true, 5) := by kernel_rfl
theorem tzero55 : kzero Tryd.prog 55 = some [.d (.int .i64 0), .d (.int .i64 0), .d (.int .i64 0), .d (.int .i64 0), .d (.int .i64 0)] := by kernel_rfl
theorem tzv55 : kzeroV Tryd.prog 55 = some (.agg [.d (.int .i64 0), .d (.int .i64 0), .d (.int .i64 0), .d (.int .i64 0), .d (.int .i64 0)]) := by kernel_rfl
theorem tby55 : kbytes Tryd.prog 55 = some 40 := by kernel_rfl
theorem tpls55 : kplaces Tryd.prog 55 = true := by kernel_rfl
theorem tf55_0 : kfld Tryd.prog 55 0 = some (0, 3) := by kernel_rfl
theorem tpl55_0 : kplace Tryd.prog 55 0 = some (0, 1) := by kernel_rfl
theorem tf55_1 : kfld Tryd.prog 55 1 = some (1, 2) := by kernel_rfl
theorem tpl55_1 : kplace Tryd.prog 55 1 = some (1, 1) := by kernel_rfl
theorem tf55_2 : kfld Tryd.prog 55 2 = some (2, 2) := by kernel_rfl
theorem tpl55_2 : kplace Tryd.prog 55 2 = some (2, 1) := by kernel_rfl
theorem tf55_3 : kfld Tryd.prog 55 3 = some (3, 2) := by kernel_rfl
theorem tpl55_3 : kplace Tryd.prog 55 3 = some (3, 1) := by kernel_rfl
theorem tf55_4 : kfld Tryd.prog 55 4 = some (4, 2) := by kernel_rfl
theorem tpl55_4 : kplace Tryd.prog 55 4 = some (4, 1) := by kernel_rfl
theorem tcn56 : kconc Tryd.prog 56 = true := by kernel_rfl
theorem tz56 : ksz Tryd.prog 56 = some (true, 5) := by kernel_rfl
theorem tzero56 : kzero Tryd.prog 56 = some [.d (.int .i64 0), .d (.int .i64 0), .d (.int .i64 0), .d (.int .i64 0), .d (.int .i64 0)] := by kernel_rfl
theorem tzv56 : kzeroV Tryd.prog 56 = some (.agg [.d (.int .i64 0), .d (.int .i64 0), .d (.int .i64 0), .d (.int .i64 0), .d (.int .i64 0)]) := by kernel_rfl
theorem tby56 : kbytes Tryd.prog 56 = some 40 := by kernel_rfl
theorem tst56 : kst Tryd.prog 56 = some [(3, 0), (2, 1), (2, 2), (2, 3), (2, 4)] := by kernel_rfl
theorem tpls56 : kplaces Tryd.prog 56 = true := by kernel_rfl
theorem tf56_0 : kfld Tryd.prog 56 0 = some (0, 3) := by kernel_rfl
theorem tpl56_0 : kplace Tryd.prog 56 0 = some (0, 1) := by kernel_rfl
theorem tf56_1 : kfld Tryd.prog 56 1 = some (1, 2) := by kernel_rfl
theorem tpl56_1 : kplace Tryd.prog 56 1 = some (1, 1) := by kernel_rfl
theorem tf56_2 : kfld Tryd.prog 56 2 = some (2, 2) := by kernel_rfl
theorem tpl56_2 : kplace Tryd.prog 56 2 = some (2, 1) := by kernel_rfl
theorem tf56_3 : kfld Tryd.prog 56 3 = some (3, 2) := by kernel_rfl
theorem tpl56_3 : kplace Tryd.prog 56 3 = some (3, 1) := by kernel_rfl
theorem tf56_4 : kfld Tryd.prog 56 4 = some (4, 2) := by kernel_rfl
theorem tpl56_4 : kplace Tryd.prog 56 4 = some (4, 1) := by kernel_rfl
theorem tcn64 : kconc Tryd.prog 64 = true := by kernel_rfl
theorem tz64 : ksz Tryd.prog 64 = some (true, 5) := by kernel_rfl
theorem tzero64 : kzero Tryd.prog 64 = some [.nil, .d (.int .i64 0), .d (.int .i64 0), .nil, .nil] := by kernel_rfl
theorem tzv64 : kzeroV Tryd.prog 64 = some (.agg [.nil, .d (.int .i64 0), .d (.int .i64 0), .nil, .nil]) := by kernel_rfl
theorem tby64 : kbytes Tryd.prog 64 = some 88 := by kernel_rfl
theorem tpls64 : kplaces Tryd.prog 64 = true := by kernel_rfl
theorem tf64_0 : kfld Tryd.prog 64 0 = some (0, 22) := by kernel_rfl
theorem tpl64_0 : kplace Tryd.prog 64 0 = some (0, 1) := by kernel_rfl
theorem tf64_1 : kfld Tryd.prog 64 1 = some (1, 3) := by kernel_rfl
theorem tpl64_1 : kplace Tryd.prog 64 1 = some (1, 1) := by kernel_rfl
theorem tf64_2 : kfld Tryd.prog 64 2 = some (2, 2) := by kernel_rfl
theorem tpl64_2 : kplace Tryd.prog 64 2 = some (2, 1) := by kernel_rfl
theorem tf64_3 : kfld Tryd.prog 64 3 = some (3, 23) := by kernel_rfl
theorem tpl64_3 : kplace Tryd.prog 64 3 = some (3, 1) := by kernel_rfl
theorem tf64_4 : kfld Tryd.prog 64 4 = some (4, 50) := by kernel_rfl
theorem tpl64_4 : kplace Tryd.prog 64 4 = some (4, 1) := by kernel_rfl
theorem tcn65 : kconc Tryd.prog 65 = true := by kernel_rfl
theorem tz65 : ksz Tryd.prog 65 = some (true, 5) := by kernel_rfl
theorem tzero65 : kzero Tryd.prog 65 = some [.nil, .d (.int .i64 0), .d (.int .i64 0), .nil, .nil] := by kernel_rfl
theorem tzv65 : kzeroV Tryd.prog 65 = some (.agg [.nil, .d (.int .i64 0), .d (.int .i64 0), .nil, .nil]) := by kernel_rfl
theorem tby65 : kbytes Tryd.prog 65 = some 88 := by kernel_rfl
theorem tst65 : kst Tryd.prog 65 = some [(22, 0), (3, 1), (2, 2), (23, 3), (50, 4)] := by kernel_rfl
theorem tpls65 : kplaces Tryd.prog 65 = true := by kernel_rfl
theorem tf65_0 : kfld Tryd.prog 65 0 = some (0, 22) := by kernel_rfl
theorem tpl65_0 : kplace Tryd.prog 65 0 = some (0, 1) := by kernel_rfl
theorem tf65_1 : kfld Tryd.prog 65 1 = some (1, 3) := by kernel_rfl
theorem tpl65_1 : kplace Tryd.prog 65 1 = some (1, 1) := by kernel_rfl
theorem tf65_2 : kfld Tryd.prog 65 2 = some (2, 2) := by kernel_rfl
theorem tpl65_2 : kplace Tryd.prog 65 2 = some (2, 1) := by kernel_rfl
theorem tf65_3 : kfld Tryd.prog 65 3 = some (3, 23) := by kernel_rfl
theorem tpl65_3 : kplace Tryd.prog 65 3 = some (3, 1) := by kernel_rfl
theorem tf65_4 : kfld Tryd.prog 65 4 = some (4, 50) := by kernel_rfl
theorem tpl65_4 : kplace Tryd.prog 65 4 = some (4, 1) := by kernel_rfl
theorem tcn68 : kconc Tryd.prog 68 = true := by kernel_rfl
theorem tz68 : ksz Tryd.prog 68 = some (false, 1) := by kernel_rfl
theorem tzero68 : kzero Tryd.prog 68 = some [.nil] := by kernel_rfl
theorem tzv68 : kzeroV Tryd.prog 68 = some (.nil) := by kernel_rfl
theorem tby68 : kbytes Tryd.prog 68 = some 24 := by kernel_rfl
theorem tel68 : kel Tryd.prog 68 = some (none, 2, 72) := by kernel_rfl
theorem tsl68 : ksl Tryd.prog 68 = true := by kernel_rfl
theorem tstr68 : kstr Tryd.prog 68 = false := by kernel_rfl
theorem tseq68 : kseq Tryd.prog 68 = true := by kernel_rfl
theorem tcn71 : kconc Tryd.prog 71 = true := by kernel_rfl
theorem tz71 : ksz Tryd.prog 71 = some (true, 2) := by kernel_rfl
theorem tzero71 : kzero Tryd.prog 71 = some [.d (.int .i64 0), .d (.bool false)] := by kernel_rfl
theorem tzv71 : kzeroV Tryd.prog 71 = some (.agg [.d (.int .i64 0), .d (.bool false)]) := by kernel_rfl
theorem tby71 : kbytes Tryd.prog 71 = some 16 := by kernel_rfl
theorem tpls71 : kplaces Tryd.prog 71 = true := by kernel_rfl
theorem tf71_0 : kfld Tryd.prog 71 0 = some (0, 2) := by kernel_rfl
theorem tpl71_0 : kplace Tryd.prog 71 0 = some (0, 1) := by kernel_rfl
theorem tf71_1 : kfld Tryd.prog 71 1 = some (1, 4) := by kernel_rfl
theorem tpl71_1 : kplace Tryd.prog 71 1 = some (1, 1) := by kernel_rfl
theorem tcn72 : kconc Tryd.prog 72 = true := by kernel_rfl
theorem tz72 : ksz Tryd.prog 72 = some (true, 2) := by kernel_rfl
theorem tzero72 : kzero Tryd.prog 72 = some [.d (.int .i64 0), .d (.bool false)] := by kernel_rfl
theorem tzv72 : kzeroV Tryd.prog 72 = some (.agg [.d (.int .i64 0), .d (.bool false)]) := by kernel_rfl
theorem tby72 : kbytes Tryd.prog 72 = some 16 := by kernel_rfl
theorem tst72 : kst Tryd.prog 72 = some [(2, 0), (4, 1)] := by kernel_rfl
theorem tpls72 : kplaces Tryd.prog 72 = true := by kernel_rfl
theorem tf72_0 : kfld Tryd.prog 72 0 = some (0, 2) := by kernel_rfl
theorem tpl72_0 : kplace Tryd.prog 72 0 = some (0, 1) := by kernel_rfl
theorem tf72_1 : kfld Tryd.prog 72 1 = some (1, 4) := by kernel_rfl
theorem tpl72_1 : kplace Tryd.prog 72 1 = some (1, 1) := by kernel_rfl
theorem tcn73 : kconc Tryd.prog 73 = true := by kernel_rfl
theorem tz73 : ksz Tryd.prog 73 = some (true, 3) := by kernel_rfl
theorem tzero73 : kzero Tryd.prog 73 = some [.nil, .nil, .nil] := by kernel_rfl
theorem tzv73 : kzeroV Tryd.prog 73 = some (.agg [.nil, .nil, .nil]) := by kernel_rfl
theorem tby73 : kbytes Tryd.prog 73 = some 72 := by kernel_rfl
theorem tel73 : kel Tryd.prog 73 = some (some 3, 1, 35) := by kernel_rfl
theorem tpls73 : kplaces Tryd.prog 73 = true := by kernel_rfl
theorem tpl73_0 : kplace Tryd.prog 73 0 = some (0, 1) := by kernel_rfl
theorem tpl73_1 : kplace Tryd.prog 73 1 = some (1, 1) := by kernel_rfl
theorem tpl73_2 : kplace Tryd.prog 73 2 = some (2, 1) := by kernel_rfl
theorem tcn74 : kconc Tryd.prog 74 = true := by kernel_rfl
theorem tz74 : ksz Tryd.prog 74 = some (true, 3) := by kernel_rfl
theorem tzero74 : kzero Tryd.prog 74 = some [.d (.int .i64 0), .d (.int .i64 0), .d (.int .i64 0)] := by kernel_rfl
theorem tzv74 : kzeroV Tryd.prog 74 = some (.agg [.d (.int .i64 0), .d (.int .i64 0), .d (.int .i64 0)]) := by kernel_rfl
theorem tby74 : kbytes Tryd.prog 74 = some 24 := by kernel_rfl
theorem tel74 : kel Tryd.prog 74 = some (some 3, 1, 3) := by kernel_rfl
theorem tpls74 : kplaces Tryd.prog 74 = true := by kernel_rfl
theorem tpl74_0 : kplace Tryd.prog 74 0 = some (0, 1) := by kernel_rfl
theorem tpl74_1 : kplace Tryd.prog 74 1 = some (1, 1) := by kernel_rfl
theorem tpl74_2 : kplace Tryd.prog 74 2 = some (2, 1) := by kernel_rfl
theorem tcn75 : kconc Tryd.prog 75 = true := by kernel_rfl
theorem tz75 : ksz Tryd.prog 75 = some (false, 1) := by kernel_rfl
theorem tzero75 : kzero Tryd.prog 75 = some [.nil] := by kernel_rfl
theorem tzv75 : kzeroV Tryd.prog 75 = some (.nil) := by kernel_rfl
theorem tby75 : kbytes Tryd.prog 75 = some 24 := by kernel_rfl
theorem tel75 : kel Tryd.prog 75 = some (none, 2, 78) := by kernel_rfl
theorem tsl75 : ksl Tryd.prog 75 = true := by kernel_rfl
theorem tstr75 : kstr Tryd.prog 75 = false := by kernel_rfl
theorem tseq75 : kseq Tryd.prog 75 = true := by kernel_rfl
theorem tcn76 : kconc Tryd.prog 76 = true := by kernel_rfl
theorem tz76 : ksz Tryd.prog 76 = some (false, 1) := by kernel_rfl
theorem tzero76 : kzero Tryd.prog 76 = some [.nil] := by kernel_rfl
theorem tzv76 : kzeroV Tryd.prog 76 = some (.nil) := by kernel_rfl
theorem tby76 : kbytes Tryd.prog 76 = some 24 := by kernel_rfl
theorem tel76 : kel Tryd.prog 76 = some (none, 1, 23) := by kernel_rfl
theorem tsl76 : ksl Tryd.prog 76 = true := by kernel_rfl
theorem tstr76 : kstr Tryd.prog 76 = false := by kernel_rfl
theorem tseq76 : kseq Tryd.prog 76 = true := by kernel_rfl
theorem tcn77 : kconc Tryd.prog 77 = true := by kernel_rfl
theorem tz77 : ksz Tryd.prog 77 = some (true, 2) := by kernel_rfl
theorem tzero77 : kzero Tryd.prog 77 = some [.d (.int .i64 0), .nil] := by kernel_rfl
theorem tzv77 : kzeroV Tryd.prog 77 = some (.agg [.d (.int .i64 0), .nil]) := by kernel_rfl
theorem tby77 : kbytes Tryd.prog 77 = some 32 := by kernel_rfl
theorem tpls77 : kplaces Tryd.prog 77 = true := by kernel_rfl
theorem tf77_0 : kfld Tryd.prog 77 0 = some (0, 3) := by kernel_rfl
theorem tpl77_0 : kplace Tryd.prog 77 0 = some (0, 1) := by kernel_rfl
theorem tf77_1 : kfld Tryd.prog 77 1 = some (1, 22) := by kernel_rfl
theorem tpl77_1 : kplace Tryd.prog 77 1 = some (1, 1) := by kernel_rfl
theorem tcn78 : kconc Tryd.prog 78 = true := by kernel_rfl
theorem tz78 : ksz Tryd.prog 78 = some (true, 2) := by kernel_rfl
theorem tzero78 : kzero Tryd.prog 78 = some [.d (.int .i64 0), .nil] := by kernel_rfl
theorem tzv78 : kzeroV Tryd.prog 78 = some (.agg [.d (.int .i64 0), .nil]) := by kernel_rfl
theorem tby78 : kbytes Tryd.prog 78 = some 32 := by kernel_rfl
theorem tst78 : kst Tryd.prog 78 = some [(3, 0), (22, 1)] := by kernel_rfl
theorem tpls78 : kplaces Tryd.prog 78 = true := by kernel_rfl
theorem tf78_0 : kfld Tryd.prog 78 0 = some (0, 3) := by kernel_rfl
theorem tpl78_0 : kplace Tryd.prog 78 0 = some (0, 1) := by kernel_rfl
theorem tf78_1 : kfld Tryd.prog 78 1 = some (1, 22) := by kernel_rfl
theorem tpl78_1 : kplace Tryd.prog 78 1 = some (1, 1) := by kernel_rfl
theorem tcn79 : kconc Tryd.prog 79 = true := by kernel_rfl
theorem tz79 : ksz Tryd.prog 79 = some (true, 9) := by kernel_rfl
theorem tzero79 : kzero Tryd.prog 79 = some [.d (.int .i64 0), .d (.int .i64 0), .d (.int .i64 0), .d (.int .i64 0), .d (.int .i64 0), .d (.int .i64 0), .d (.int .i64 0), .d (.int .i64 0), .d (.int .i64 0)] := by kernel_rfl
theorem tzv79 : kzeroV Tryd.prog 79 = some (.agg [.d (.int .i64 0), .d (.int .i64 0), .d (.int .i64 0), .d (.int .i64 0), .d (.int .i64 0), .d (.int .i64 0), .d (.int .i64 0), .d (.int .i64 0), .d (.int .i64 0)]) := by kernel_rfl
theorem tby79 : kbytes Tryd.prog 79 = some 72 := by kernel_rfl
theorem tel79 : kel Tryd.prog 79 = some (some 3, 3, 74) := by kernel_rfl
theorem tpls79 : kplaces Tryd.prog 79 = true := by kernel_rfl
theorem tpl79_0 : kplace Tryd.prog 79 0 = some (0, 3) := by kernel_rfl
theorem tpl79_1 : kplace Tryd.prog 79 1 = some (3, 3) := by kernel_rfl
theorem tpl79_2 : kplace Tryd.prog 79 2 = some (6, 3) := by kernel_rfl
theorem tcn86 : kconc Tryd.prog 86 = true := by kernel_rfl
theorem tz86 : ksz Tryd.prog 86 = some (false, 1) := by kernel_rfl
theorem tzero86 : kzero Tryd.prog 86 = some [.nil] := by kernel_rfl
theorem tzv86 : kzeroV Tryd.prog 86 = some (.nil) := by kernel_rfl
theorem tby86 : kbytes Tryd.prog 86 = some 24 := by kernel_rfl
theorem tel86 : kel Tryd.prog 86 = some (none, 2, 152) := by kernel_rfl
theorem tsl86 : ksl Tryd.prog 86 = true := by kernel_rfl
theorem tstr86 : kstr Tryd.prog 86 = false := by kernel_rfl
theorem tseq86 : kseq Tryd.prog 86 = true := by kernel_rfl
theorem tcn87 : kconc Tryd.prog 87 = true := by kernel_rfl
theorem tz87 : ksz Tryd.prog 87 = some (true, 3) := by kernel_rfl
theorem tzero87 : kzero Tryd.prog 87 = some [.nil, .nil, .nil] := by kernel_rfl
theorem tzv87 : kzeroV Tryd.prog 87 = some (.agg [.nil, .nil, .nil]) := by kernel_rfl
theorem tby87 : kbytes Tryd.prog 87 = some 72 := by kernel_rfl
theorem tpls87 : kplaces Tryd.prog 87 = true := by kernel_rfl
theorem tf87_0 : kfld Tryd.prog 87 0 = some (0, 22) := by kernel_rfl
theorem tpl87_0 : kplace Tryd.prog 87 0 = some (0, 1) := by kernel_rfl
theorem tf87_1 : kfld Tryd.prog 87 1 = some (1, 86) := by kernel_rfl
theorem tpl87_1 : kplace Tryd.prog 87 1 = some (1, 1) := by kernel_rfl
theorem tf87_2 : kfld Tryd.prog 87 2 = some (2, 50) := by kernel_rfl
theorem tpl87_2 : kplace Tryd.prog 87 2 = some (2, 1) := by kernel_rfl
theorem tcn88 : kconc Tryd.prog 88 = true := by kernel_rfl
theorem tz88 : ksz Tryd.prog 88 = some (true, 3) := by kernel_rfl
theorem tzero88 : kzero Tryd.prog 88 = some [.nil, .nil, .nil] := by kernel_rfl
theorem tzv88 : kzeroV Tryd.prog 88 = some (.agg [.nil, .nil, .nil]) := by kernel_rfl
theorem tby88 : kbytes Tryd.prog 88 = some 72 := by kernel_rfl
theorem tst88 : kst Tryd.prog 88 = some [(22, 0), (86, 1), (50, 2)] := by kernel_rfl
theorem tpls88 : kplaces Tryd.prog 88 = true := by kernel_rfl
theorem tf88_0 : kfld Tryd.prog 88 0 = some (0, 22) := by kernel_rfl
theorem tpl88_0 : kplace Tryd.prog 88 0 = some (0, 1) := by kernel_rfl
theorem tf88_1 : kfld Tryd.prog 88 1 = some (1, 86) := by kernel_rfl
theorem tpl88_1 : kplace Tryd.prog 88 1 = some (1, 1) := by kernel_rfl
theorem tf88_2 : kfld Tryd.prog 88 2 = some (2, 50) := by kernel_rfl
theorem tpl88_2 : kplace Tryd.prog 88 2 = some (2, 1) := by kernel_rfl
theorem tcn93 : kconc Tryd.prog 93 = true := by kernel_rfl
theorem tz93 : ksz Tryd.prog 93 = some (false, 1) := by kernel_rfl
theorem tzero93 : kzero Tryd.prog 93 = some [.d .nilmap] := by kernel_rfl
theorem tzv93 : kzeroV Tryd.prog 93 = some (.d .nilmap) := by kernel_rfl
theorem tmap93 : kmap Tryd.prog 93 = some (152, 3) := by kernel_rfl
theorem tby93 : kbytes Tryd.prog 93 = some 8 := by kernel_rfl
theorem tcn94 : kconc Tryd.prog 94 = true := by kernel_rfl
theorem tz94 : ksz Tryd.prog 94 = some (true, 5) := by kernel_rfl
theorem tzero94 : kzero Tryd.prog 94 = some [.nil, .nil, .nil, .nil, .d .nilmap] := by kernel_rfl
theorem tzv94 : kzeroV Tryd.prog 94 = some (.agg [.nil, .nil, .nil, .nil, .d .nilmap]) := by kernel_rfl
theorem tby94 : kbytes Tryd.prog 94 = some 104 := by kernel_rfl
theorem tpls94 : kplaces Tryd.prog 94 = true := by kernel_rfl
theorem tf94_0 : kfld Tryd.prog 94 0 = some (0, 88) := by kernel_rfl
theorem tpl94_0 : kplace Tryd.prog 94 0 = some (0, 3) := by kernel_rfl
theorem tf94_1 : kfld Tryd.prog 94 1 = some (3, 23) := by kernel_rfl
theorem tpl94_1 : kplace Tryd.prog 94 1 = some (3, 1) := by kernel_rfl
theorem tf94_2 : kfld Tryd.prog 94 2 = some (4, 93) := by kernel_rfl
theorem tpl94_2 : kplace Tryd.prog 94 2 = some (4, 1) := by kernel_rfl
theorem tcn95 : kconc Tryd.prog 95 = true := by kernel_rfl
theorem tz95 : ksz Tryd.prog 95 = some (true, 5) := by kernel_rfl
theorem tzero95 : kzero Tryd.prog 95 = some [.nil, .nil, .nil, .nil, .d .nilmap] := by kernel_rfl
theorem tzv95 : kzeroV Tryd.prog 95 = some (.agg [.nil, .nil, .nil, .nil, .d .nilmap]) := by kernel_rfl
theorem tby95 : kbytes Tryd.prog 95 = some 104 := by kernel_rfl
theorem tst95 : kst Tryd.prog 95 = some [(88, 0), (23, 3), (93, 4)] := by kernel_rfl
theorem tpls95 : kplaces Tryd.prog 95 = true := by kernel_rfl
theorem tf95_0 : kfld Tryd.prog 95 0 = some (0, 88) := by kernel_rfl
theorem tpl95_0 : kplace Tryd.prog 95 0 = some (0, 3) := by kernel_rfl
theorem tf95_1 : kfld Tryd.prog 95 1 = some (3, 23) := by kernel_rfl
theorem tpl95_1 : kplace Tryd.prog 95 1 = some (3, 1) := by kernel_rfl
theorem tf95_2 : kfld Tryd.prog 95 2 = some (4, 93) := by kernel_rfl
theorem tpl95_2 : kplace Tryd.prog 95 2 = some (4, 1) := by kernel_rfl
theorem tz97 : ksz Tryd.prog 97 = some (false, 1) := by kernel_rfl
theorem tzero97 : kzero Tryd.prog 97 = some [.d .nilfn] := by kernel_rfl
theorem tcn99 : kconc Tryd.prog 99 = true := by kernel_rfl
theorem tz99 : ksz Tryd.prog 99 = some (false, 1) := by kernel_rfl
theorem tzero99 : kzero Tryd.prog 99 = some [.d .nilptr] := by kernel_rfl
theorem tzv99 : kzeroV Tryd.prog 99 = some (.d .nilptr) := by kernel_rfl
theorem tby99 : kbytes Tryd.prog 99 = some 8 := by kernel_rfl
theorem tcn100 : kconc Tryd.prog 100 = true := by kernel_rfl
theorem tz100 : ksz Tryd.prog 100 = some (true, 2) := by kernel_rfl
theorem tzero100 : kzero Tryd.prog 100 = some [.nil, .d (.int .i64 0)] := by kernel_rfl
theorem tzv100 : kzeroV Tryd.prog 100 = some (.agg [.nil, .d (.int .i64 0)]) := by kernel_rfl
theorem tby100 : kbytes Tryd.prog 100 = some 32 := by kernel_rfl
theorem tpls100 : kplaces Tryd.prog 100 = true := by kernel_rfl
theorem tf100_0 : kfld Tryd.prog 100 0 = some (0, 35) := by kernel_rfl
theorem tpl100_0 : kplace Tryd.prog 100 0 = some (0, 1) := by kernel_rfl
theorem tf100_1 : kfld Tryd.prog 100 1 = some (1, 3) := by kernel_rfl
theorem tpl100_1 : kplace Tryd.prog 100 1 = some (1, 1) := by kernel_rfl
theorem tcn101 : kconc Tryd.prog 101 = true := by kernel_rfl
theorem tz101 : ksz Tryd.prog 101 = some (true, 2) := by kernel_rfl
theorem tzero101 : kzero Tryd.prog 101 = some [.nil, .d (.int .i64 0)] := by kernel_rfl
theorem tzv101 : kzeroV Tryd.prog 101 = some (.agg [.nil, .d (.int .i64 0)]) := by kernel_rfl
theorem tby101 : kbytes Tryd.prog 101 = some 32 := by kernel_rfl
theorem tst101 : kst Tryd.prog 101 = some [(35, 0), (3, 1)] := by kernel_rfl
theorem tpls101 : kplaces Tryd.prog 101 = true := by kernel_rfl
theorem tf101_0 : kfld Tryd.prog 101 0 = some (0, 35) := by kernel_rfl
theorem tpl101_0 : kplace Tryd.prog 101 0 = some (0, 1) := by kernel_rfl
theorem tf101_1 : kfld Tryd.prog 101 1 = some (1, 3) := by kernel_rfl
theorem tpl101_1 : kplace Tryd.prog 101 1 = some (1, 1) := by kernel_rfl
theorem tz104 : ksz Tryd.prog 104 = some (false, 1) := by kernel_rfl
theorem tzero104 : kzero Tryd.prog 104 = some [.d .nilfn] := by kernel_rfl
theorem tcn107 : kconc Tryd.prog 107 = true := by kernel_rfl
theorem tz107 : ksz Tryd.prog 107 = some (false, 1) := by kernel_rfl
theorem tzero107 : kzero Tryd.prog 107 = some [.nil] := by kernel_rfl
theorem tzv107 : kzeroV Tryd.prog 107 = some (.nil) := by kernel_rfl
theorem tby107 : kbytes Tryd.prog 107 = some 24 := by kernel_rfl
theorem tel107 : kel Tryd.prog 107 = some (none, 1, 9) := by kernel_rfl
theorem tsl107 : ksl Tryd.prog 107 = true := by kernel_rfl
theorem tstr107 : kstr Tryd.prog 107 = false := by kernel_rfl
theorem tseq107 : kseq Tryd.prog 107 = true := by kernel_rfl
theorem tcn108 : kconc Tryd.prog 108 = true := by kernel_rfl
theorem tz108 : ksz Tryd.prog 108 = some (true, 8) := by kernel_rfl
theorem tzero108 : kzero Tryd.prog 108 = some [.d (.str ByteArray.empty), .d (.str ByteArray.empty), .d (.str ByteArray.empty), .d (.str ByteArray.empty), .d (.str ByteArray.empty), .d (.str ByteArray.empty), .d (.str ByteArray.empty), .d (.str ByteArray.empty)] := by kernel_rfl
theorem tzv108 : kzeroV Tryd.prog 108 = some (.agg [.d (.str ByteArray.empty), .d (.str ByteArray.empty), .d (.str ByteArray.empty), .d (.str ByteArray.empty), .d (.str ByteArray.empty), .d (.str ByteArray.empty), .d (.str ByteArray.empty), .d (.str ByteArray.empty)]) := by kernel_rfl
theorem tby108 : kbytes Tryd.prog 108 = some 128 := by kernel_rfl
theorem tel108 : kel Tryd.prog 108 = some (some 8, 1, 9) := by kernel_rfl
theorem tpls108 : kplaces Tryd.prog 108 = true := by kernel_rfl
theorem tpl108_0 : kplace Tryd.prog 108 0 = some (0, 1) := by kernel_rfl
theorem tpl108_1 : kplace Tryd.prog 108 1 = some (1, 1) := by kernel_rfl
theorem tpl108_2 : kplace Tryd.prog 108 2 = some (2, 1) := by kernel_rfl
theorem tpl108_3 : kplace Tryd.prog 108 3 = some (3, 1) := by kernel_rfl
theorem tpl108_4 : kplace Tryd.prog 108 4 = some (4, 1) := by kernel_rfl
theorem tpl108_5 : kplace Tryd.prog 108 5 = some (5, 1) := by kernel_rfl
theorem tpl108_6 : kplace Tryd.prog 108 6 = some (6, 1) := by kernel_rfl
theorem tpl108_7 : kplace Tryd.prog 108 7 = some (7, 1) := by kernel_rfl
theorem tcn116 : kconc Tryd.prog 116 = true := by kernel_rfl
theorem tz116 : ksz Tryd.prog 116 = some (true, 3) := by kernel_rfl
theorem tzero116 : kzero Tryd.prog 116 = some [.d (.int .i64 0), .d (.int .i64 0), .d (.int .i64 0)] := by kernel_rfl
theorem tzv116 : kzeroV Tryd.prog 116 = some (.agg [.d (.int .i64 0), .d (.int .i64 0), .d (.int .i64 0)]) := by kernel_rfl
theorem tby116 : kbytes Tryd.prog 116 = some 24 := by kernel_rfl
theorem tel116 : kel Tryd.prog 116 = some (some 3, 1, 2) := by kernel_rfl
theorem tpls116 : kplaces Tryd.prog 116 = true := by kernel_rfl
theorem tpl116_0 : kplace Tryd.prog 116 0 = some (0, 1) := by kernel_rfl
theorem tpl116_1 : kplace Tryd.prog 116 1 = some (1, 1) := by kernel_rfl
theorem tpl116_2 : kplace Tryd.prog 116 2 = some (2, 1) := by kernel_rfl
theorem tcn122 : kconc Tryd.prog 122 = true := by kernel_rfl
theorem tz122 : ksz Tryd.prog 122 = some (true, 10) := by kernel_rfl
theorem tzero122 : kzero Tryd.prog 122 = some [.d (.int .i64 0), .d (.int .i64 0), .d (.int .i64 0), .d (.int .i64 0), .d (.int .i64 0), .d (.int .i64 0), .d (.int .i64 0), .d (.int .i64 0), .d (.int .i64 0), .d (.int .i64 0)] := by kernel_rfl
theorem tzv122 : kzeroV Tryd.prog 122 = some (.agg [.d (.int .i64 0), .d (.int .i64 0), .d (.int .i64 0), .d (.int .i64 0), .d (.int .i64 0), .d (.int .i64 0), .d (.int .i64 0), .d (.int .i64 0), .d (.int .i64 0), .d (.int .i64 0)]) := by kernel_rfl
theorem tby122 : kbytes Tryd.prog 122 = some 80 := by kernel_rfl
theorem tel122 : kel Tryd.prog 122 = some (some 10, 1, 2) := by kernel_rfl
theorem tpls122 : kplaces Tryd.prog 122 = true := by kernel_rfl
theorem tpl122_0 : kplace Tryd.prog 122 0 = some (0, 1) := by kernel_rfl
theorem tpl122_1 : kplace Tryd.prog 122 1 = some (1, 1) := by kernel_rfl
theorem tpl122_2 : kplace Tryd.prog 122 2 = some (2, 1) := by kernel_rfl
theorem tpl122_3 : kplace Tryd.prog 122 3 = some (3, 1) := by kernel_rfl
theorem tpl122_4 : kplace Tryd.prog 122 4 = some (4, 1) := by kernel_rfl
theorem tpl122_5 : kplace Tryd.prog 122 5 = some (5, 1) := by kernel_rfl
theorem tpl122_6 : kplace Tryd.prog 122 6 = some (6, 1) := by kernel_rfl
theorem tpl122_7 : kplace Tryd.prog 122 7 = some (7, 1) := by kernel_rfl
theorem tcn131 : kconc Tryd.prog 131 = true := by kernel_rfl
theorem tz131 : ksz Tryd.prog 131 = some (false, 1) := by kernel_rfl
theorem tzero131 : kzero Tryd.prog 131 = some [.nil] := by kernel_rfl
theorem tzv131 : kzeroV Tryd.prog 131 = some (.nil) := by kernel_rfl
theorem tby131 : kbytes Tryd.prog 131 = some 24 := by kernel_rfl
theorem tel131 : kel Tryd.prog 131 = some (none, 1, 35) := by kernel_rfl
theorem tsl131 : ksl Tryd.prog 131 = true := by kernel_rfl
theorem tstr131 : kstr Tryd.prog 131 = false := by kernel_rfl
theorem tseq131 : kseq Tryd.prog 131 = true := by kernel_rfl
theorem tcn132 : kconc Tryd.prog 132 = true := by kernel_rfl
theorem tz132 : ksz Tryd.prog 132 = some (false, 1) := by kernel_rfl
theorem tzero132 : kzero Tryd.prog 132 = some [.nil] := by kernel_rfl
theorem tzv132 : kzeroV Tryd.prog 132 = some (.nil) := by kernel_rfl
theorem tby132 : kbytes Tryd.prog 132 = some 24 := by kernel_rfl
theorem tel132 : kel Tryd.prog 132 = some (none, 1, 35) := by kernel_rfl
theorem tsl132 : ksl Tryd.prog 132 = true := by kernel_rfl
theorem tstr132 : kstr Tryd.prog 132 = false := by kernel_rfl
theorem tseq132 : kseq Tryd.prog 132 = true := by kernel_rfl
theorem tz134 : ksz Tryd.prog 134 = some (false, 1) := by kernel_rfl
theorem tzero134 : kzero Tryd.prog 134 = some [.d .nilfn] := by kernel_rfl
theorem tcn141 : kconc Tryd.prog 141 = false := by kernel_rfl
theorem tz141 : ksz Tryd.prog 141 = some (false, 1) := by kernel_rfl
theorem tzero141 : kzero Tryd.prog 141 = some [.d .niliface] := by kernel_rfl
theorem tzv141 : kzeroV Tryd.prog 141 = some (.d .niliface) := by kernel_rfl
theorem tif141 : kif Tryd.prog 141 = true := by kernel_rfl
theorem tby141 : kbytes Tryd.prog 141 = some 16 := by kernel_rfl
theorem tcn142 : kconc Tryd.prog 142 = false := by kernel_rfl
theorem tz142 : ksz Tryd.prog 142 = some (false, 1) := by kernel_rfl
theorem tzero142 : kzero Tryd.prog 142 = some [.d .niliface] := by kernel_rfl
theorem tzv142 : kzeroV Tryd.prog 142 = some (.d .niliface) := by kernel_rfl
theorem tif142 : kif Tryd.prog 142 = true := by kernel_rfl
theorem tby142 : kbytes Tryd.prog 142 = some 16 := by kernel_rfl
theorem tcn152 : kconc Tryd.prog 152 = true := by kernel_rfl
theorem tz152 : ksz Tryd.prog 152 = some (true, 2) := by kernel_rfl
theorem tzero152 : kzero Tryd.prog 152 = some [.d (.int .i64 0), .d (.int .i64 0)] := by kernel_rfl
theorem tzv152 : kzeroV Tryd.prog 152 = some (.agg [.d (.int .i64 0), .d (.int .i64 0)]) := by kernel_rfl
theorem tby152 : kbytes Tryd.prog 152 = some 16 := by kernel_rfl
theorem tel152 : kel Tryd.prog 152 = some (some 2, 1, 3) := by kernel_rfl
theorem tpls152 : kplaces Tryd.prog 152 = true := by kernel_rfl
theorem tpl152_0 : kplace Tryd.prog 152 0 = some (0, 1) := by kernel_rfl
theorem tpl152_1 : kplace Tryd.prog 152 1 = some (1, 1) := by kernel_rfl
theorem tex0 : extN Tryd.prog 0 = 0 := by kernel_rfl
theorem tex1 : extN Tryd.prog 1 = 0 := by kernel_rfl
theorem tex2 : extN Tryd.prog 2 = 0 := by kernel_rfl
theorem tex3 : extN Tryd.prog 3 = 0 := by kernel_rfl
theorem tex4 : extN Tryd.prog 4 = 0 := by kernel_rfl
theorem tex5 : extN Tryd.prog 5 = 0 := by kernel_rfl
theorem tex6 : extN Tryd.prog 6 = 0 := by kernel_rfl
theorem tex7 : extN Tryd.prog 7 = 0 := by kernel_rfl
theorem tex8 : extN Tryd.prog 8 = 0 := by kernel_rfl
theorem tex9 : extN Tryd.prog 9 = 0 := by kernel_rfl
theorem tex10 : extN Tryd.prog 10 = 0 := by kernel_rfl
theorem tex11 : extN Tryd.prog 11 = 0 := by kernel_rfl
theorem tex12 : extN Tryd.prog 12 = 0 := by kernel_rfl
theorem tex13 : extN Tryd.prog 13 = 0 := by kernel_rfl
theorem tex14 : extN Tryd.prog 14 = 0 := by kernel_rfl
theorem tex15 : extN Tryd.prog 15 = 0 := by kernel_rfl
theorem tex16 : extN Tryd.prog 16 = 0 := by kernel_rfl
theorem tex17 : extN Tryd.prog 17 = 0 := by kernel_rfl
theorem tex18 : extN Tryd.prog 18 = 0 := by kernel_rfl
theorem tex19 : extN Tryd.prog 19 = 0 := by kernel_rfl
theorem tex20 : extN Tryd.prog 20 = 0 := by kernel_rfl
theorem tex21 : extN Tryd.prog 21 = 0 := by kernel_rfl
theorem tex22 : extN Tryd.prog 22 = 0 := by kernel_rfl
theorem tex23 : extN Tryd.prog 23 = 0 := by kernel_rfl
theorem tex24 : extN Tryd.prog 24 = 0 := by kernel_rfl
theorem tex25 : extN Tryd.prog 25 = 0 := by kernel_rfl
theorem tex26 : extN Tryd.prog 26 = 0 := by kernel_rfl
theorem tex27 : extN Tryd.prog 27 = 0 := by kernel_rfl
theorem tex28 : extN Tryd.prog 28 = 0 := by kernel_rfl
theorem tex29 : extN Tryd.prog 29 = 0 := by kernel_rfl
theorem tex30 : extN Tryd.prog 30 = 0 := by kernel_rfl
theorem tex31 : extN Tryd.prog 31 = 0 := by kernel_rfl
theorem tex32 : extN Tryd.prog 32 = 0 := by kernel_rfl
theorem tex33 : extN Tryd.prog 33 = 0 := by kernel_rfl
theorem tex34 : extN Tryd.prog 34 = 0 := by kernel_rfl
theorem tex35 : extN Tryd.prog 35 = 0 := by kernel_rfl
theorem tex36 : extN Tryd.prog 36 = 0 := by kernel_rfl
theorem tex37 : extN Tryd.prog 37 = 0 := by kernel_rfl
theorem tex38 : extN Tryd.prog 38 = 0 := by kernel_rfl
theorem tex39 : extN Tryd.prog 39 = 0 := by kernel_rfl
theorem tex40 : extN Tryd.prog 40 = 0 := by kernel_rfl
theorem tex41 : extN Tryd.prog 41 = 0 := by kernel_rfl
theorem tex42 : extN Tryd.prog 42 = 0 := by kernel_rfl
theorem tex43 : extN Tryd.prog 43 = 0 := by kernel_rfl
theorem tex44 : extN Tryd.prog 44 = 0 := by kernel_rfl
theorem tex45 : extN Tryd.prog 45 = 0 := by kernel_rfl
theorem tex46 : extN Tryd.prog 46 = 0 := by kernel_rfl
theorem tex47 : extN Tryd.prog 47 = 0 := by kernel_rfl
theorem tex48 : extN Tryd.prog 48 = 0 := by kernel_rfl
theorem tex49 : extN Tryd.prog 49 = 0 := by kernel_rfl
theorem tex50 : extN Tryd.prog 50 = 0 := by kernel_rfl
theorem tex51 : extN Tryd.prog 51 = 0 := by kernel_rfl
theorem tex52 : extN Tryd.prog 52 = 0 := by kernel_rfl
theorem tex53 : extN Tryd.prog 53 = 0 := by kernel_rfl
theorem tex54 : extN Tryd.prog 54 = 0 := by kernel_rfl
theorem tex55 : extN Tryd.prog 55 = 0 := by kernel_rfl
theorem tex56 : extN Tryd.prog 56 = 0 := by kernel_rfl
theorem tex57 : extN Tryd.prog 57 = 0 := by kernel_rfl
theorem tex58 : extN Tryd.prog 58 = 0 := by kernel_rfl
theorem tex59 : extN Tryd.prog 59 = 0 := by kernel_rfl
theorem tex60 : extN Tryd.prog 60 = 0 := by kernel_rfl
theorem tex61 : extN Tryd.prog 61 = 0 := by kernel_rfl
theorem tex62 : extN Tryd.prog 62 = 0 := by kernel_rfl
theorem tex63 : extN Tryd.prog 63 = 0 := by kernel_rfl
theorem tex64 : extN Tryd.prog 64 = 0 := by kernel_rfl
theorem tex65 : extN Tryd.prog 65 = 0 := by kernel_rfl
theorem tex66 : extN Tryd.prog 66 = 0 := by kernel_rfl
theorem tex67 : extN Tryd.prog 67 = 0 := by kernel_rfl
theorem tex68 : extN Tryd.prog 68 = 0 := by kernel_rfl
theorem tex69 : extN Tryd.prog 69 = 0 := by kernel_rfl
theorem tex70 : extN Tryd.prog 70 = 0 := by kernel_rfl
theorem tex71 : extN Tryd.prog 71 = 0 := by kernel_rfl
theorem tex72 : extN Tryd.prog 72 = 0 := by kernel_rfl
theorem tex73 : extN Tryd.prog 73 = 0 := by kernel_rfl
theorem tex74 : extN Tryd.prog 74 = 0 := by kernel_rfl
theorem tex75 : extN Tryd.prog 75 = 0 := by kernel_rfl
theorem tex76 : extN Tryd.prog 76 = 0 := by kernel_rfl
theorem tex77 : extN Tryd.prog 77 = 0 := by kernel_rfl
theorem tex78 : extN Tryd.prog 78 = 0 := by kernel_rfl
theorem tex79 : extN Tryd.prog 79 = 0 := by kernel_rfl
theorem tex80 : extN Tryd.prog 80 = 0 := by kernel_rfl
theorem tex81 : extN Tryd.prog 81 = 0 := by kernel_rfl
theorem tex82 : extN Tryd.prog 82 = 0 := by kernel_rfl
theorem tex83 : extN Tryd.prog 83 = 0 := by kernel_rfl
theorem tex84 : extN Tryd.prog 84 = 0 := by kernel_rfl
theorem tex85 : extN Tryd.prog 85 = 0 := by kernel_rfl
theorem tex86 : extN Tryd.prog 86 = 0 := by kernel_rfl
theorem tex87 : extN Tryd.prog 87 = 0 := by kernel_rfl
theorem tex88 : extN Tryd.prog 88 = 0 := by kernel_rfl
theorem tex89 : extN Tryd.prog 89 = 0 := by kernel_rfl
theorem tex90 : extN Tryd.prog 90 = 0 := by kernel_rfl
theorem tex91 : extN Tryd.prog 91 = 0 := by kernel_rfl
theorem tex92 : extN Tryd.prog 92 = 0 := by kernel_rfl
theorem tex93 : extN Tryd.prog 93 = 0 := by kernel_rfl
theorem tex94 : extN Tryd.prog 94 = 0 := by kernel_rfl
theorem tex95 : extN Tryd.prog 95 = 0 := by kernel_rfl
theorem tex96 : extN Tryd.prog 96 = 0 := by kernel_rfl
theorem tex97 : extN Tryd.prog 97 = 0 := by kernel_rfl
theorem tex98 : extN Tryd.prog 98 = 0 := by kernel_rfl
theorem tex99 : extN Tryd.prog 99 = 0 := by kernel_rfl
theorem tex100 : extN Tryd.prog 100 = 0 := by kernel_rfl
theorem tex101 : extN Tryd.prog 101 = 0 := by kernel_rfl
theorem tex102 : extN Tryd.prog 102 = 0 := by kernel_rfl
theorem tex103 : extN Tryd.prog 103 = 0 := by kernel_rfl
theorem tex104 : extN Tryd.prog 104 = 0 := by kernel_rfl
theorem tex105 : extN Tryd.prog 105 = 0 := by kernel_rfl
theorem tex106 : extN Tryd.prog 106 = 0 := by kernel_rfl
theorem tex107 : extN Tryd.prog 107 = 0 := by kernel_rfl
theorem tex108 : extN Tryd.prog 108 = 0 := by kernel_rfl
theorem tex109 : extN Tryd.prog 109 = 0 := by kernel_rfl
theorem tex110 : extN Tryd.prog 110 = 0 := by kernel_rfl
theorem tex111 : extN Tryd.prog 111 = 0 := by kernel_rfl
theorem tex112 : extN Tryd.prog 112 = 0 := by kernel_rfl
theorem tex113 : extN Tryd.prog 113 = 0 := by kernel_rfl
theorem tex114 : extN Tryd.prog 114 = 0 := by kernel_rfl
theorem tex115 : extN Tryd.prog 115 = 0 := by kernel_rfl
theorem tex116 : extN Tryd.prog 116 = 0 := by kernel_rfl
theorem tex117 : extN Tryd.prog 117 = 0 := by kernel_rfl
theorem tex118 : extN Tryd.prog 118 = 0 := by kernel_rfl
theorem tex119 : extN Tryd.prog 119 = 0 := by kernel_rfl
theorem tex120 : extN Tryd.prog 120 = 0 := by kernel_rfl
theorem tex121 : extN Tryd.prog 121 = 0 := by kernel_rfl
theorem tex122 : extN Tryd.prog 122 = 0 := by kernel_rfl
theorem tex123 : extN Tryd.prog 123 = 0 := by kernel_rfl
theorem tex124 : extN Tryd.prog 124 = 0 := by kernel_rfl
theorem tex125 : extN Tryd.prog 125 = 0 := by kernel_rfl
theorem tex126 : extN Tryd.prog 126 = 0 := by kernel_rfl
theorem tex127 : extN Tryd.prog 127 = 0 := by kernel_rfl
theorem tex128 : extN Tryd.prog 128 = 0 := by kernel_rfl
theorem tex129 : extN Tryd.prog 129 = 0 := by kernel_rfl
theorem tex130 : extN Tryd.prog 130 = 0 := by kernel_rfl
theorem tex131 : extN Tryd.prog 131 = 0 := by kernel_rfl
theorem tex132 : extN Tryd.prog 132 = 0 := by kernel_rfl
theorem tex133 : extN Tryd.prog 133 = 0 := by kernel_rfl
theorem tex134 : extN Tryd.prog 134 = 0 := by kernel_rfl
theorem tex135 : extN Tryd.prog 135 = 0 := by kernel_rfl
theorem tex136 : extN Tryd.prog 136 = 0 := by kernel_rfl
theorem tex137 : extN Tryd.prog 137 = 0 := by kernel_rfl
theorem tex138 : extN Tryd.prog 138 = 0 := by kernel_rfl
theorem tex139 : extN Tryd.prog 139 = 0 := by kernel_rfl
theorem tex140 : extN Tryd.prog 140 = 0 := by kernel_rfl
theorem tex141 : extN Tryd.prog 141 = 0 := by kernel_rfl
theorem tex142 : extN Tryd.prog 142 = 0 := by kernel_rfl
theorem tex143 : extN Tryd.prog 143 = 0 := by kernel_rfl
theorem tex144 : extN Tryd.prog 144 = 0 := by kernel_rfl
theorem tex145 : extN Tryd.prog 145 = 0 := by kernel_rfl
theorem tex146 : extN Tryd.prog 146 = 0 := by kernel_rfl
theorem tex147 : extN Tryd.prog 147 = 0 := by kernel_rfl
theorem tex148 : extN Tryd.prog 148 = 0 := by kernel_rfl
theorem tex149 : extN Tryd.prog 149 = 0 := by kernel_rfl
theorem tex150 : extN Tryd.prog 150 = 0 := by kernel_rfl
theorem tex151 : extN Tryd.prog 151 = 0 := by kernel_rfl
theorem tex152 : extN Tryd.prog 152 = 0 := by kernel_rfl
theorem tex153 : extN Tryd.prog 153 = 0 := by kernel_rfl
theorem tex154 : extN Tryd.prog 154 = 0 := by kernel_rfl
theorem tex155 : extN Tryd.prog 155 = 0 := by kernel_rfl
theorem tex156 : extN Tryd.prog 156 = 0 := by kernel_rfl
theorem tex157 : extN Tryd.prog 157 = 0 := by kernel_rfl
theorem tex158 : extN Tryd.prog 158 = 0 := by kernel_rfl
theorem tex159 : extN Tryd.prog 159 = 0 := by kernel_rfl
theorem tex160 : extN Tryd.prog 160 = 0 := by kernel_rfl
theorem tex161 : extN Tryd.prog 161 = 0 := by kernel_rfl
theorem tex162 : extN Tryd.prog 162 = 0 := by kernel_rfl
theorem tex163 : extN Tryd.prog 163 = 0 := by kernel_rfl
theorem tex164 : extN Tryd.prog 164 = 0 := by kernel_rfl
theorem tex165 : extN Tryd.prog 165 = 0 := by kernel_rfl
theorem tex166 : extN Tryd.prog 166 = 0 := by kernel_rfl
theorem tex167 : extN Tryd.prog 167 = 0 := by kernel_rfl
theorem tex168 : extN Tryd.prog 168 = 0 := by kernel_rfl
theorem tex169 : extN Tryd.prog 169 = 0 := by kernel_rfl
theorem tex170 : extN Tryd.prog 170 = 0 := by kernel_rfl
theorem tex171 : extN Tryd.prog 171 = 0 := by kernel_rfl
theorem tex172 : extN Tryd.prog 172 = 0 := by kernel_rfl
theorem tex173 : extN Tryd.prog 173 = 0 := by kernel_rfl
theorem tex174 : extN Tryd.prog 174 = 0 := by kernel_rfl
theorem tex175 : extN Tryd.prog 175 = 0 := by kernel_rfl
theorem tex176 : extN Tryd.prog 176 = 0 := by kernel_rfl
theorem tex177 : extN Tryd.prog 177 = 0 := by kernel_rfl
theorem tex178 : extN Tryd.prog 178 = 0 := by kernel_rfl
theorem tex179 : extN Tryd.prog 179 = 0 := by kernel_rfl
theorem tex180 : extN Tryd.prog 180 = 0 := by kernel_rfl
theorem tex181 : extN Tryd.prog 181 = 0 := by kernel_rfl
attribute [push_cast] tz1 tzero1 tcn2 tz2 tzero2 tzv2 tby2 tint2 tstr2 tlf2 tcn3 tz3 tzero3 tzv3 tby3 tint3 tstr3 tlf3 tcn4 tz4 tzero4 tzv4 tby4 tlf4 tcn5 tz5 tzero5 tzv5 tby5 tint5 tstr5 tlf5 tcn6 tz6 tzero6 tzv6 tby6 tint6 tstr6 tlf6 tcn7 tz7 tzero7 tzv7 tby7 tpls7 tf7_0 tpl7_0 tf7_1 tpl7_1 tf7_2 tpl7_2 tf7_3 tpl7_3 tcn8 tz8 tzero8 tzv8 tby8 tpls8 tf8_0 tpl8_0 tf8_1 tpl8_1 tf8_2 tpl8_2 tf8_3 tpl8_3 tcn9 tz9 tzero9 tzv9 tby9 tstr9 tsl9 tseq9 tlf9 tcn22 tz22 tzero22 tzv22 tby22 tel22 tsl22 tstr22 tseq22 tcn23 tz23 tzero23 tzv23 tby23 tel23 tsl23 tstr23 tseq23 tcn28 tz28 tzero28 tzv28 tby28 tint28 tstr28 tlf28 tcn35 tz35 tzero35 tzv35 tby35 tel35 tsl35 tstr35 tseq35 tcn43 tz43 tzero43 tzv43 tby43 tpls43 tf43_0 tpl43_0 tf43_1 tpl43_1 tf43_2 tpl43_2 tf43_3 tpl43_3 tf43_4 tpl43_4 tf43_5 tpl43_5 tcn44 tz44 tzero44 tzv44 tby44 tst44 tpls44 tf44_0 tpl44_0 tf44_1 tpl44_1 tf44_2 tpl44_2 tf44_3 tpl44_3 tf44_4 tpl44_4 tf44_5 tpl44_5 tcn46 tz46 tzero46 tzv46 tby46 tel46 tsl46 tstr46 tseq46 tcn47 tz47 tzero47 tzv47 tby47 tel47 tsl47 tstr47 tseq47 tcn49 tz49 tzero49 tzv49 tby49 tel49 tsl49 tstr49 tseq49 tcn50 tz50 tzero50 tzv50 tby50 tel50 tsl50 tstr50 tseq50 tcn55 tz55 tzero55 tzv55 tby55 tpls55 tf55_0 tpl55_0 tf55_1 tpl55_1 tf55_2 tpl55_2 tf55_3 tpl55_3 tf55_4 tpl55_4 tcn56 tz56 tzero56 tzv56 tby56 tst56 tpls56 tf56_0 tpl56_0 tf56_1 tpl56_1 tf56_2 tpl56_2 tf56_3 tpl56_3 tf56_4 tpl56_4 tcn64 tz64 tzero64 tzv64 tby64 tpls64 tf64_0 tpl64_0 tf64_1 tpl64_1 tf64_2 tpl64_2 tf64_3 tpl64_3 tf64_4 tpl64_4 tcn65 tz65 tzero65 tzv65 tby65 tst65 tpls65 tf65_0 tpl65_0 tf65_1 tpl65_1 tf65_2 tpl65_2 tf65_3 tpl65_3 tf65_4 tpl65_4 tcn68 tz68 tzero68 tzv68 tby68 tel68 tsl68 tstr68 tseq68 tcn71 tz71 tzero71 tzv71 tby71 tpls71 tf71_0 tpl71_0 tf71_1 tpl71_1 tcn72 tz72 tzero72 tzv72 tby72 tst72 tpls72 tf72_0 tpl72_0 tf72_1 tpl72_1 tcn73 tz73 tzero73 tzv73 tby73 tel73 tpls73 tpl73_0 tpl73_1 tpl73_2 tcn74 tz74 tzero74 tzv74 tby74 tel74 tpls74 tpl74_0 tpl74_1 tpl74_2 tcn75 tz75 tzero75 tzv75 tby75 tel75 tsl75 tstr75 tseq75 tcn76 tz76 tzero76 tzv76 tby76 tel76 tsl76 tstr76 tseq76 tcn77 tz77 tzero77 tzv77 tby77 tpls77 tf77_0 tpl77_0 tf77_1 tpl77_1 tcn78 tz78 tzero78 tzv78 tby78 tst78 tpls78 tf78_0 tpl78_0 tf78_1 tpl78_1 tcn79 tz79 tzero79 tzv79 tby79 tel79 tpls79 tpl79_0 tpl79_1 tpl79_2 tcn86 tz86 tzero86 tzv86 tby86 tel86 tsl86 tstr86 tseq86 tcn87 tz87 tzero87 tzv87 tby87 tpls87 tf87_0 tpl87_0 tf87_1 tpl87_1 tf87_2 tpl87_2 tcn88 tz88 tzero88 tzv88 tby88 tst88 tpls88 tf88_0 tpl88_0 tf88_1 tpl88_1 tf88_2 tpl88_2 tcn93 tz93 tzero93 tzv93 tmap93 tby93 tcn94 tz94 tzero94 tzv94 tby94 tpls94 tf94_0 tpl94_0 tf94_1 tpl94_1 tf94_2 tpl94_2 tcn95 tz95 tzero95 tzv95 tby95 tst95 tpls95 tf95_0 tpl95_0 tf95_1 tpl95_1 tf95_2 tpl95_2 tz97 tzero97 tcn99 tz99 tzero99 tzv99 tby99 tcn100 tz100 tzero100 tzv100 tby100 tpls100 tf100_0 tpl100_0 tf100_1 tpl100_1 tcn101 tz101 tzero101 tzv101 tby101 tst101 tpls101 tf101_0 tpl101_0 tf101_1 tpl101_1 tz104 tzero104 tcn107 tz107 tzero107 tzv107 tby107 tel107 tsl107 tstr107 tseq107 tcn108 tz108 tzero108 tzv108 tby108 tel108 tpls108 tpl108_0 tpl108_1 tpl108_2 tpl108_3 tpl108_4 tpl108_5 tpl108_6 tpl108_7 tcn116 tz116 tzero116 tzv116 tby116 tel116 tpls116 tpl116_0 tpl116_1 tpl116_2 tcn122 tz122 tzero122 tzv122 tby122 tel122 tpls122 tpl122_0 tpl122_1 tpl122_2 tpl122_3 tpl122_4 tpl122_5 tpl122_6 tpl122_7 tcn131 tz131 tzero131 tzv131 tby131 tel131 tsl131 tstr131 tseq131 tcn132 tz132 tzero132 tzv132 tby132 tel132 tsl132 tstr132 tseq132 tz134 tzero134 tcn141 tz141 tzero141 tzv141 tif141 tby141 tcn142 tz142 tzero142 tzv142 tif142 tby142 tcn152 tz152 tzero152 tzv152 tby152 tel152 tpls152 tpl152_0 tpl152_1 tex0 tex1 tex2 tex3 tex4 tex5 tex6 tex7 tex8 tex9 tex10 tex11 tex12 tex13 tex14 tex15 tex16 tex17 tex18 tex19 tex20 tex21 tex22 tex23 tex24 tex25 tex26 tex27 tex28 tex29 tex30 tex31 tex32 tex33 tex34 tex35 tex36 tex37 tex38 tex39 tex40 tex41 tex42 tex43 tex44 tex45 tex46 tex47 tex48 tex49 tex50 tex51 tex52 tex53 tex54 tex55 tex56 tex57 tex58 tex59 tex60 tex61 tex62 tex63 tex64 tex65 tex66 tex67 tex68 tex69 tex70 tex71 tex72 tex73 tex74 tex75 tex76 tex77 tex78 tex79 tex80 tex81 tex82 tex83 tex84 tex85 tex86 tex87 tex88 tex89 tex90 tex91 tex92 tex93 tex94 tex95 tex96 tex97 tex98 tex99 tex100 tex101 tex102 tex103 tex104 tex105 tex106 tex107 tex108 tex109 tex110 tex111 tex112 tex113 tex114 tex115 tex116 tex117 tex118 tex119 tex120 tex121 tex122 tex123 tex124 tex125 tex126 tex127 tex128 tex129 tex130 tex131 tex132 tex133 tex134 tex135 tex136 tex137 tex138 tex139 tex140 tex141 tex142 tex143 tex144 tex145 tex146 tex147 tex148 tex149 tex150 tex151 tex152 tex153 tex154 tex155 tex156 tex157 tex158 tex159 tex160 tex161 tex162 tex163 tex164 tex165 tex166 tex167 tex168 tex169 tex170 tex171 tex172 tex173 tex174 tex175 tex176 tex177 tex178 tex179 tex180 tex181

end Go.Aw

namespace Go.Aw
set_option linter.unusedSimpArgs false
set_option linter.unusedVariables false
open Go.RowKit

inductive Deep (H : List Blk) : V → D → Prop where
  | d (x : D) : Deep H (.d x) x
  | nil : Deep H .nil (.sl [])
  | data (id off len k : Nat) (rows : List (List D)) (h : H[id]? = some (.data k rows)) (hl : off + len ≤ rows.length) : Deep H (.ref id off len) (.sl ((rows.drop off).take len))
  | vrs (id k : Nat) (rs : List (List V)) (ds : List (List D)) (h : H[id]? = some (.vrs k rs)) (hl : ds.length = rs.length) (hk : ∀ (i : Nat) (row : List D), ds[i]? = some row → row.length = k)
      (hr : ∀ (i : Nat) (row : List V) (drow : List D) (j : Nat) (x : V) (y : D), rs[i]? = some row → ds[i]? = some drow → row[j]? = some x → drow[j]? = some y → Deep H x y) : Deep H (.ref id 0 rs.length) (.sl ds)
  | agg (xs : List V) (ds : List D) (hl : ds.length = xs.length) (hr : ∀ (j : Nat) (x : V) (y : D), xs[j]? = some x → ds[j]? = some y → Deep H x y) : Deep H (.agg xs) (.agg ds)
  | tup (xs : List V) (ds : List D) (hl : ds.length = xs.length) (hr : ∀ (j : Nat) (x : V) (y : D), xs[j]? = some x → ds[j]? = some y → Deep H x y) : Deep H (.tup xs) (.tup ds)

def allF (E : Env) (F : Nat → Prop) (H : List Blk) (b : Nat) : Prop := F b ∨ own E H b

theorem deep_sound {E : Env} {F : Nat → Prop} {w : World} {H : List Blk} (hr : HR E F w H) {x : V} {d : D} (h : Deep H x d) : ∀ {v : Value}, VR E F w x v → RD (allF E F H) w d v := by
  have up : ∀ {d : D} {v : Value}, RD F w d v → RD (allF E F H) w d v := fun h => h.evo (fun _ h => .inl h) (fun _ _ => rfl)
  induction h with
  | d x => intro v hv; cases hv with | d _ _ h => exact up h
  | nil => intro v hv; cases hv with | nil a => exact .sl0 a 0
  | data id off len k rows hH hl =>
    intro v hv
    cases hv with
    | ref _ _ _ b k' m a cap n hE hm ha hlc hb hc =>
      obtain ⟨h1, h2, h3, h4⟩ := hr.blk _ _ _ hE hH
      dsimp only at h1 h2
      subst h1
      rcases Nat.eq_zero_or_pos len with h0 | hpos
      · subst h0
        rw [List.take_zero]
        exact .sl0 a cap
      · rcases h4 with ⟨h4, _⟩ | ⟨b', cs, t, h4, hw, hsz, hcell⟩
        · cases h4
        · simp only [Option.some.injEq] at h4
          subst h4
          have hlen : ((rows.drop off).take len).length = len := by simp; omega
          rw [ha (.inl hpos)]
          have hget : ∀ (i : Nat) (row : List D), ((rows.drop off).take len)[i]? = some row → i < len ∧ rows[off + i]? = some row := fun i row hi => by
            have hlt := (List.getElem?_eq_some_iff.1 hi).1
            rw [hlen] at hlt
            rw [List.getElem?_take_of_lt hlt, List.getElem?_drop] at hi
            exact ⟨hlt, hi⟩
          have := RD.sl (F := allF E F H) (w := w) b (off * k') cap k' ((rows.drop off).take len) (fun i j => (w.cell? ⟨b, off * k' + (i * k' + j), none⟩).getD undef) (by omega) (.inr ⟨id, _, _, hE, hH, rfl, rfl⟩)
            (fun i row hi => (h3 _ _ (hget i row hi).2).1)
            (fun i j hi hj => by
              have hi' : off + i < rows.length := by omega
              obtain ⟨v, hv, _⟩ := hcell (off + i) rows[off + i] j (rows[off + i][j]'(by rw [(h3 _ _ (List.getElem?_eq_getElem hi')).1]; exact hj)) (List.getElem?_eq_getElem hi') (List.getElem?_eq_getElem _)
              have : w.cell? ⟨b, off * k' + (i * k' + j), none⟩ = some v := by
                rw [show off * k' + (i * k' + j) = (off + i) * k' + j by rw [Nat.add_mul]; omega]
                simp [World.cell?, hw, hv]
              rw [this]; rfl)
            (fun i row j x hi hj => by
              obtain ⟨hi1, hi2⟩ := hget i row hi
              obtain ⟨v, hv, hd⟩ := hcell (off + i) row j x hi2 hj
              have : w.cell? ⟨b, off * k' + (i * k' + j), none⟩ = some v := by
                rw [show off * k' + (i * k' + j) = (off + i) * k' + j by rw [Nat.add_mul]; omega]
                simp [World.cell?, hw, hv]
              rw [this]
              exact up hd)
          rwa [hlen] at this
    | refv _ k' m a hE =>
      rw [List.take_zero]
      exact .sl0 a 0
  | vrs id k rs ds hH hl hk hrr ih =>
    intro v hv
    generalize hn : rs.length = len at hv
    cases hv with
    | ref _ _ _ b k' m a cap n hE hm ha hlc hb hc =>
      obtain ⟨h1, h2, h3, h4⟩ := hr.blk _ _ _ hE hH
      dsimp only at h1 h2
      subst h1
      rcases Nat.eq_zero_or_pos len with h0 | hpos
      · have : ds = [] := List.eq_nil_of_length_eq_zero (by omega)
        subst this
        rw [h0]
        exact .sl0 a cap
      · rcases h4 with ⟨h4, _⟩ | ⟨b', cs, t, h4, hw, hsz, hcell⟩
        · cases h4
        · simp only [Option.some.injEq] at h4
          subst h4
          rw [ha (.inl hpos)]
          have := RD.sl (F := allF E F H) (w := w) b (0 * k') cap k' ds (fun i j => (w.cell? ⟨b, 0 * k' + (i * k' + j), none⟩).getD undef) (by omega) (.inr ⟨id, _, _, hE, hH, rfl, rfl⟩) hk
            (fun i j hi hj => by
              have hi' : i < rs.length := by omega
              obtain ⟨v, hv, _⟩ := hcell i rs[i] j (rs[i][j]'(by rw [h3 _ _ (List.getElem?_eq_getElem hi')]; exact hj)) (List.getElem?_eq_getElem hi') (List.getElem?_eq_getElem _)
              have : w.cell? ⟨b, 0 * k' + (i * k' + j), none⟩ = some v := by simp [World.cell?, hw, hv]
              rw [this]; rfl)
            (fun i row j y hi hj => by
              have hi' : i < rs.length := by have := (List.getElem?_eq_some_iff.1 hi).1; omega
              have hj' : j < rs[i].length := by
                have e1 := (List.getElem?_eq_some_iff.1 hj).1
                rw [h3 _ _ (List.getElem?_eq_getElem hi')]
                have e2 := hk i row hi
                omega
              obtain ⟨v, hv, _, hd⟩ := hcell i rs[i] j rs[i][j] (List.getElem?_eq_getElem hi') (List.getElem?_eq_getElem hj')
              have : w.cell? ⟨b, 0 * k' + (i * k' + j), none⟩ = some v := by simp [World.cell?, hw, hv]
              rw [this]
              exact ih i rs[i] row j rs[i][j] y (List.getElem?_eq_getElem hi') hi (List.getElem?_eq_getElem hj') hj hd)
          rw [show ds.length = len by omega] at this
          exact this
    | refv _ k' m a hE =>
      have : ds = [] := List.eq_nil_of_length_eq_zero (by omega)
      subst this
      exact .sl0 a 0
  | agg xs ds hl hrr ih =>
    intro v hv
    cases hv with
    | agg _ cs hs hr' =>
      refine .agg ds cs (by omega) fun j y v hy hv => ?_
      have hj : j < xs.length := by have := (List.getElem?_eq_some_iff.1 hy).1; omega
      exact ih j xs[j] y (List.getElem?_eq_getElem hj) hy (hr' j _ v (List.getElem?_eq_getElem hj) hv)
  | tup xs ds hl hrr ih =>
    intro v hv
    cases hv with
    | tup _ cs hs hr' =>
      refine .tup ds cs (by omega) fun j y v hy hv => ?_
      have hj : j < xs.length := by have := (List.getElem?_eq_some_iff.1 hy).1; omega
      exact ih j xs[j] y (List.getElem?_eq_getElem hj) hy (hr' j _ v (List.getElem?_eq_getElem hj) hv)

theorem AC.deep {P : Program} {f : FuncId} {args : List V} {H : List Blk} {R : V → List Blk → Prop} {R' : V → List Blk → Prop} (h : AC P f args H [] R) (hR : ∀ x H', R x H' → ∃ d, Deep H' x d ∧ R' (ofD d) []) : AC P f args H [] R' := by
  refine ⟨h.1, fun w cargs E F h1 h2 h3 h4 => (h.2 w cargs E F h1 h2 h3 h4).mono ?_⟩
  rintro e w' ⟨v, x, H', E', F', q1, q2, q3, q4⟩
  obtain ⟨d, r1, r2⟩ := hR x H' q2
  have hd := deep_sound q3.hr r1 q4
  refine ⟨v, ofD d, [], [], allF E' F' H', q1, r2, ⟨q3.os, q3.tape, q3.output, q3.size, fun b hb => .inl (q3.F0 b hb), ?_, q3.same, ?_, ⟨rfl, by simp, by simp, by simp⟩, by simp, by simp, q3.sz⟩, ofD_sound hd⟩
  · rintro b (hb | ⟨id, e, blk, g1, g2, g3, g4⟩)
    · exact q3.only b hb
    · exact .inr (q3.src id b e blk g1 g2 g3 g4)
  · refine q3.lt.evo (fun _ h => .inl h) (fun _ _ => rfl) ?_
    rintro b (hb | ⟨id, e, blk, g1, g2, g3, g4⟩)
    · exact q3.lt b hb
    · exact (q3.hr.free id b e blk g1 g4 g2 g3).1

theorem pdd_of {P : Program} {f : FuncId} {fn : Func} {c : Code} {args : List D} {d0 : D} (rs : List ResultVar) (hf : P.funcs[f]? = some fn) (hb : fn.body = some c)
    (hnm : (fn.name == "runtime.NumGoroutine") = false) (hn : (args.map ofD).length ≤ fn.ntmps) (hok : codeOk fn.ntmps c = true) (hrs : fn.results.toList = rs)
    (h : AWP P [] fn.ntmps c ⟨argTm 0 (args.map ofD), []⟩ (Fin P rs fun x H => Deep H x d0)) : PD P f args (ofD d0) := by
  subst hrs
  exact AC.deep (R := fun x H => Deep H x d0) (ac_of hf hb hnm hn hok h) fun x H' hh => ⟨d0, hh, rfl, rfl⟩

theorem awp_virtV {P : Program} {kp : List Nat} {n : Nat} {s : St} {Q : Exit → St → Prop} {c : Code} (i k : Nat) (hi : tget s.tm i = some .nil) (h : AWP P kp n c { tm := tput s.tm i (.ref s.heap.length 0 0), heap := s.heap ++ [.vrs k []] } Q) : AWP P kp n c s Q := by
  intro hok B a w E F h1 h2 h3
  subst h1
  obtain ⟨e1, e2⟩ := virt_relV h3.rel k
  refine h hok B a w _ F rfl h2 ⟨⟨e2.os, e2.tape, e2.output, e2.size, e2.F0, e2.only, e2.same, e2.lt, e2.hr, e2.src, e2.keep, e2.sz⟩, h3.defers, fun j x hx => ?_⟩
  simp only [tget_tput] at hx
  split at hx
  · rename_i hj
    subst hj
    simp at hx
    subst hx
    obtain ⟨v, hv, hr⟩ := h3.tm j _ hi
    refine ⟨v, hv, ?_⟩
    cases hr with
    | nil a => exact .refv _ k 0 a (by rw [← h3.rel.hr.len, List.getElem?_append_right (Nat.le_refl _)]; simp)
  · obtain ⟨v, hv, hr⟩ := h3.tm j x hx
    exact ⟨v, hv, hr.evo e1 (fun _ _ => trivial)⟩

theorem ren_of {r : List Nat} {s' s : St} (nd : r.Nodup) (hl : s'.heap.length = r.length) (hh : ∀ (j : Nat) (b : Blk), s'.heap[j]? = some b → ∃ i, r[j]? = some i ∧ s.heap[i]? = some (Blk.ren r b)) (tm : subTm (renTm r s'.tm) s.tm)
    (bt : belTm r.length s'.tm = true) (bh : ∀ b, b ∈ s'.heap → Blk.bel r.length b = true) : Ren [] r s' s := by
  refine ⟨nd, by simp, ?_, tm, bt, ?_⟩
  · have key : ∀ (l : List Blk) (q : List Nat) (H : List Blk), l.length = q.length → (∀ (j : Nat) (b : Blk), l[j]? = some b → ∃ i, q[j]? = some i ∧ H[i]? = some (Blk.ren r b)) → renHeap r l q H := by
      intro l
      induction l with
      | nil => intro q H hl _; cases q with
        | nil => trivial
        | cons a q => simp at hl
      | cons b l ih => intro q H hl hq; cases q with
        | nil => simp at hl
        | cons a q =>
          refine ⟨?_, ih q H (by simpa using hl) fun j c hj => by simpa using hq (j + 1) c (by simpa using hj)⟩
          obtain ⟨i, h1, h2⟩ := hq 0 b rfl
          simp at h1
          subst h1
          exact h2
    exact key _ _ _ hl hh
  · have key : ∀ l : List Blk, (∀ b, b ∈ l → Blk.bel r.length b = true) → belHeap r.length l = true := by
      intro l
      induction l with
      | nil => intro _; rfl
      | cons b l ih => intro h; simp only [belHeap, Bool.and_eq_true]; exact ⟨h b (by simp), ih fun c hc => h c (by simp [hc])⟩
    exact key _ bh

end Go.Aw

namespace Go.Aw
set_option linter.unusedSimpArgs false
set_option linter.unusedVariables false
open Go.RowKit Go.Sort

theorem Rel.rewritten {B : Base} {s : St} {E : Env} {F : Nat → Prop} {w w' : World} (hr : Rel B s E F w) {i b : Nat} {e : En} {blk blk' : Blk} {cs cs' : Array Value} {t : TypeId}
    (he : E[i]? = some e) (hb : s.heap[i]? = some blk) (hl : blk.live = true) (heb : e.blk = some b) (hw : w.heap[b]? = some (.cells cs t (0, 0))) (hw' : w'.heap[b]? = some (.cells cs' t (0, 0))) (hsz : cs'.size = cs.size)
    (hos : w'.os = w.os) (htp : w'.tape = w.tape) (hlt : Later w w') (hsize : w.heap.size ≤ w'.heap.size) (hoth : ∀ c, c < w.heap.size → c ≠ b → w'.heap[c]? = w.heap[c]?)
    (hbr : BR E F w' e blk') :
    Evo E F w E F w' (fun _ => True) ∧ Rel B { s with heap := s.heap.set i blk' } E F w' := by
  obtain ⟨hbl, hbF⟩ := hr.hr.free i b e blk he heb hb hl
  have hlow : ∀ c, c ≠ b → ∀ o, w.heap[c]? = some o → w'.heap[c]? = w.heap[c]? := fun c hc o ho => by
    rcases Nat.lt_or_ge c w.heap.size with h | h
    · exact hoth c h hc
    · rw [Array.getElem?_eq_none h] at ho; cases ho
  have hsame : ∀ c, F c → w'.heap[c]? = w.heap[c]? := fun c hc => hoth c (hr.lt c hc) (fun e => hbF (e ▸ hc))
  have hszs : ∀ c n, Sz w c n → Sz w' c n := fun c n h => by
    by_cases hcb : c = b
    · subst hcb
      obtain ⟨c0, u, hc, hn⟩ := h
      rw [hw] at hc
      simp only [Option.some.injEq, Obj.cells.injEq] at hc
      obtain ⟨rfl, rfl, _⟩ := hc
      exact ⟨cs', _, hw', by omega⟩
    · obtain ⟨c0, u, hc, hn⟩ := h
      exact ⟨c0, u, (hlow c hcb _ hc).trans hc, hn⟩
  have evo : Evo E F w E F w' (fun _ => True) := ⟨fun _ h => h, hsame, fun _ _ _ h => h, hszs⟩
  have hget : ∀ (j : Nat) (bj : Blk), (s.heap.set i blk')[j]? = some bj → (j = i ∧ bj = blk') ∨ (j ≠ i ∧ s.heap[j]? = some bj) := fun j bj hj => by
    rw [List.getElem?_set] at hj
    split at hj
    · split at hj
      · simp at hj; exact .inl ⟨(by assumption : i = j).symm, hj.symm⟩
      · cases hj
    · exact .inr ⟨Ne.symm (by assumption), hj⟩
  refine ⟨evo, hos.trans hr.os, htp.trans hr.tape, hlt.trans hr.output, Nat.le_trans hr.size hsize, hr.F0, hr.only,
    fun c h1 h2 => (hoth c (Nat.lt_of_lt_of_le h1 hr.size) (fun q => (hr.src i b e blk he hb hl heb).elim (fun h => by omega) (fun h => h2 (q ▸ h)))).trans (hr.same c h1 h2),
    hr.lt.evo evo.up evo.same (fun c hc => Nat.lt_of_lt_of_le (hr.lt c hc) hsize), ⟨by simpa using hr.hr.len, ?_, ?_, ?_⟩, ?_, hr.keep, fun c n h => hszs c n (hr.sz c n h)⟩
  · intro j ej bj hEj hj
    rcases hget j bj hj with ⟨rfl, rfl⟩ | ⟨hji, hj⟩
    · rw [he] at hEj
      simp only [Option.some.injEq] at hEj
      subst hEj
      exact hbr
    · cases hlj : bj.live with
      | false => cases bj <;> simp_all [Blk.live]; trivial
      | true =>
        refine (hr.hr.blk j ej bj hEj hj).evo evo (fun _ _ => trivial) fun c hc => hoth c (hr.hr.free j c ej bj hEj hc hj hlj).1 fun e => ?_
        subst e
        exact hji (hr.hr.inj j i c ej _ bj blk hEj he hc heb hj hb hlj hl)
  · intro j c ej bj hEj hc hj hlj
    rcases hget j bj hj with ⟨rfl, rfl⟩ | ⟨hji, hj⟩
    · rw [he] at hEj
      simp only [Option.some.injEq] at hEj
      subst hEj
      have := hr.hr.free j c _ blk he hc hb hl
      exact ⟨Nat.lt_of_lt_of_le this.1 hsize, this.2⟩
    · have := hr.hr.free j c ej bj hEj hc hj hlj
      exact ⟨Nat.lt_of_lt_of_le this.1 hsize, this.2⟩
  · intro j l c ej el bj bl hEj hEl hcj hcl hj hl' hlj hll
    have hb' : ∀ (j : Nat) (bj : Blk), (s.heap.set i blk')[j]? = some bj → bj.live = true → ∃ b0, s.heap[j]? = some b0 ∧ b0.live = true := fun j bj hj hlj => by
      rcases hget j bj hj with ⟨rfl, rfl⟩ | ⟨hji, hj⟩
      · exact ⟨blk, hb, hl⟩
      · exact ⟨bj, hj, hlj⟩
    obtain ⟨b0, h0, hl0⟩ := hb' j bj hj hlj
    obtain ⟨b1, h1, hl1⟩ := hb' l bl hl' hll
    exact hr.hr.inj j l c ej el b0 b1 hEj hEl hcj hcl h0 h1 hl0 hl1
  · intro j c ej bj hEj hj hlj hc
    rcases hget j bj hj with ⟨rfl, rfl⟩ | ⟨hji, hj⟩
    · exact hr.src j c ej blk hEj hb hl hc
    · exact hr.src j c ej bj hEj hj hlj hc

theorem Rel.start {w : World} {F : Nat → Prop} {E : Env} {H : List Blk} {kp : List Nat} (h1 : HR E F w H) (h2 : FO F w) (h3 : ∀ i, i ∈ kp → i < H.length) : Rel ⟨w, F, own E H, E, kp, []⟩ ⟨[], H⟩ E F w := by
  refine ⟨rfl, rfl, .refl _, Nat.le_refl _, fun _ h => h, fun _ h => .inl h, fun _ _ _ => rfl, h2, h1, ?_, ?_, fun _ _ h => h⟩
  · exact fun id b e blk q1 q2 q3 q4 => .inr ⟨id, e, blk, q1, q2, q3, q4⟩
  · intro i hi
    have := h3 i hi
    rw [← h1.len] at this
    exact ⟨_, List.getElem?_eq_getElem this, List.getElem?_eq_getElem this⟩

end Go.Aw

namespace Go.Aw
set_option linter.unusedSimpArgs false
set_option linter.unusedVariables false
open Go.RowKit

inductive DeepV (H : List Blk) : V → V → Prop where
  | of (x : V) (d : D) (h : Deep H x d) : DeepV H x (.d d)
  | agg (xs ys : List V) (hl : ys.length = xs.length) (hr : ∀ (j : Nat) (x : V) (y : V), xs[j]? = some x → ys[j]? = some y → DeepV H x y) : DeepV H (.agg xs) (.agg ys)
  | tup (xs ys : List V) (hl : ys.length = xs.length) (hr : ∀ (j : Nat) (x : V) (y : V), xs[j]? = some x → ys[j]? = some y → DeepV H x y) : DeepV H (.tup xs) (.tup ys)

theorem deepV_sound {E : Env} {F : Nat → Prop} {w : World} {H : List Blk} (hr : HR E F w H) {x y : V} (h : DeepV H x y) : ∀ {v : Value}, VR E F w x v → VR [] (allF E F H) w y v := by
  induction h with
  | of x d h => intro v hv; exact .d _ _ (deep_sound hr h hv)
  | agg xs ys hl hrr ih =>
    intro v hv
    cases hv with
    | agg _ cs hs hr' =>
      refine .agg ys cs (by omega) fun j y v hy hv => ?_
      have hj : j < xs.length := by have := (List.getElem?_eq_some_iff.1 hy).1; omega
      exact ih j xs[j] y (List.getElem?_eq_getElem hj) hy (hr' j _ v (List.getElem?_eq_getElem hj) hv)
  | tup xs ys hl hrr ih =>
    intro v hv
    cases hv with
    | tup _ cs hs hr' =>
      refine .tup ys cs (by omega) fun j y v hy hv => ?_
      have hj : j < xs.length := by have := (List.getElem?_eq_some_iff.1 hy).1; omega
      exact ih j xs[j] y (List.getElem?_eq_getElem hj) hy (hr' j _ v (List.getElem?_eq_getElem hj) hv)

theorem DeepV.cons {H : List Blk} {x y : V} {xs ys : List V} (h : DeepV H x y) (hr : ys.length = xs.length ∧ ∀ (j : Nat) (x : V) (y : V), xs[j]? = some x → ys[j]? = some y → DeepV H x y) :
    (y :: ys).length = (x :: xs).length ∧ ∀ (j : Nat) (a : V) (b : V), (x :: xs)[j]? = some a → (y :: ys)[j]? = some b → DeepV H a b := by
  refine ⟨by simp [hr.1], fun j a b h1 h2 => ?_⟩
  cases j with
  | zero => simp at h1 h2; subst h1 h2; exact h
  | succ j => exact hr.2 j a b (by simpa using h1) (by simpa using h2)
theorem DeepV.nils {H : List Blk} : ([] : List V).length = ([] : List V).length ∧ ∀ (j : Nat) (x : V) (y : V), ([] : List V)[j]? = some x → ([] : List V)[j]? = some y → DeepV H x y := ⟨rfl, fun j x y h _ => by simp at h⟩
theorem DeepV.aggs {H : List Blk} {xs ys : List V} (h : ys.length = xs.length ∧ ∀ (j : Nat) (x : V) (y : V), xs[j]? = some x → ys[j]? = some y → DeepV H x y) : DeepV H (.agg xs) (.agg ys) := .agg xs ys h.1 h.2
theorem DeepV.tups {H : List Blk} {xs ys : List V} (h : ys.length = xs.length ∧ ∀ (j : Nat) (x : V) (y : V), xs[j]? = some x → ys[j]? = some y → DeepV H x y) : DeepV H (.tup xs) (.tup ys) := .tup xs ys h.1 h.2
theorem DeepV.dd {H : List Blk} (d : D) : DeepV H (.d d) (.d d) := .of _ _ (.d d)
theorem DeepV.nil {H : List Blk} : DeepV H .nil (.d (.sl [])) := .of _ _ .nil
theorem DeepV.row {H : List Blk} {id k n : Nat} {rows : List (List D)} (h : H[id]? = some (.data k rows)) (hn : n = rows.length) : DeepV H (.ref id 0 n) (.d (.sl rows)) := by
  subst hn
  have := Deep.data (H := H) id 0 rows.length k rows h (by omega)
  rw [List.drop_zero, List.take_length] at this
  exact .of _ _ this

theorem AC.deepV {P : Program} {f : FuncId} {args : List V} {H : List Blk} {R : V → List Blk → Prop} {R' : V → List Blk → Prop} (h : AC P f args H [] R) (hR : ∀ x H', R x H' → ∃ y, DeepV H' x y ∧ R' y []) : AC P f args H [] R' := by
  refine ⟨h.1, fun w cargs E F h1 h2 h3 h4 => (h.2 w cargs E F h1 h2 h3 h4).mono ?_⟩
  rintro e w' ⟨v, x, H', E', F', q1, q2, q3, q4⟩
  obtain ⟨d, r1, r2⟩ := hR x H' q2
  have hd := deepV_sound q3.hr r1 q4
  refine ⟨v, d, [], [], allF E' F' H', q1, r2, ⟨q3.os, q3.tape, q3.output, q3.size, fun b hb => .inl (q3.F0 b hb), ?_, q3.same, ?_, ⟨rfl, by simp, by simp, by simp⟩, by simp, by simp, q3.sz⟩, hd⟩
  · rintro b (hb | ⟨id, e, blk, g1, g2, g3, g4⟩)
    · exact q3.only b hb
    · exact .inr (q3.src id b e blk g1 g2 g3 g4)
  · refine q3.lt.evo (fun _ h => .inl h) (fun _ _ => rfl) ?_
    rintro b (hb | ⟨id, e, blk, g1, g2, g3, g4⟩)
    · exact q3.lt b hb
    · exact (q3.hr.free id b e blk g1 g4 g2 g3).1
theorem pcv_of {P : Program} {f : FuncId} {fn : Func} {c : Code} {args : List D} {R : V → Prop} (rs : List ResultVar) (hf : P.funcs[f]? = some fn) (hb : fn.body = some c)
    (hnm : (fn.name == "runtime.NumGoroutine") = false) (hn : (args.map ofD).length ≤ fn.ntmps) (hok : codeOk fn.ntmps c = true) (hrs : fn.results.toList = rs)
    (h : AWP P [] fn.ntmps c ⟨argTm 0 (args.map ofD), []⟩ (Fin P rs fun x H => ∃ y, DeepV H x y ∧ R y)) : PC P f args fun x H => R x ∧ H = [] := by
  subst hrs
  exact AC.deepV (R := fun x H => ∃ y, DeepV H x y ∧ R y) (ac_of hf hb hnm hn hok h) fun x H' ⟨y, h1, h2⟩ => ⟨y, h1, h2, rfl⟩
theorem pdv_of {P : Program} {f : FuncId} {fn : Func} {c : Code} {args : List D} {y : V} (rs : List ResultVar) (hf : P.funcs[f]? = some fn) (hb : fn.body = some c)
    (hnm : (fn.name == "runtime.NumGoroutine") = false) (hn : (args.map ofD).length ≤ fn.ntmps) (hok : codeOk fn.ntmps c = true) (hrs : fn.results.toList = rs)
    (h : AWP P [] fn.ntmps c ⟨argTm 0 (args.map ofD), []⟩ (Fin P rs fun x H => DeepV H x y)) : PD P f args y := by
  subst hrs
  exact AC.deepV (R := fun x H => DeepV H x y) (ac_of hf hb hnm hn hok h) fun x H' h1 => ⟨y, h1, rfl, rfl⟩
end Go.Aw
