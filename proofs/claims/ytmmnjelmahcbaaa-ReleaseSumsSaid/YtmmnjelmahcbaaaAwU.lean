/-
  The words by which a walk over abstract states is evaluated. Over any program; no condition.
-/
import Derived.Test.YtmmnjelmahcbaaaAwY
namespace Go.Aw
set_option linter.unusedSimpArgs false
set_option linter.unusedVariables false
open Go.RowKit

attribute [push_cast] binQ eqQ eqFs cutQ opR opQ opE St.guardOf St.ev St.get St.put tget tput argTm ofD V.strip V.flat V.leaf List.all_cons List.all_nil Bool.and_true Bool.and_self Bool.true_and V.cellsV ofConst leafConst arith boolOf lenQ loadQ fieldAddrQ indexAddrQ fieldQ indexQ bnd sliceQ builtQ
  buildQ fillV sliceLitQ makeQ appQ storeQ srcQ setL St.settle St.fz callOps callT stripAll dVs dV dOf dOfs resQ resQs retQ D.leaf
  appV srcV litVQ rowsV flatsV hasNil dOfss Blk.rowsD Blk.frz V.frz V.frzL tmFrz heapFrz St.frz
  strQ extR u64ok stripsOk lookQ mputQ entryQ estoreQ simpleQ V.ren V.renL Blk.ren renTm renHeap subTm V.bel V.belL Blk.bel belTm belHeap srt
  partRows partsOk V.sh V.shL Blk.sh heapSh scr tmScr scrL Blk.scr heapScr V.has V.hasL
attribute [push_cast] List.map_cons List.map_nil List.foldr_cons List.foldr_nil Option.getD_some Option.getD_none Option.map_some Option.map_none Option.bind_some Option.bind_none List.getElem?_cons_zero List.getElem?_cons_succ
  List.length_cons List.length_nil List.nil_append List.cons_append List.append_nil if_true if_false ite_true ite_false true_and and_true true_implies implies_true Bool.false_eq_true List.set_cons_zero List.set_cons_succ
  List.drop_zero List.drop_succ_cons List.take_zero List.take_succ_cons List.getD_cons_zero List.getD_cons_succ decide_eq_true_eq Option.isSome_none Option.isSome_some Bool.true_eq_false eq_self List.getElem?_toArray beq_true beq_false Bool.not_true Bool.not_false List.getD_nil false_implies decide_false decide_true cond_true cond_false

end Go.Aw
