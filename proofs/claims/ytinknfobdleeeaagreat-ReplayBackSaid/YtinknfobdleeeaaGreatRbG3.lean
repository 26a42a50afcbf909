/- Part of the proof of a law: no condition. -/
import Derived.Test.YtinknfobdleeeaaGreatRe
import Derived.Test.YtinknfobdleeeaaGreatRows
import Derived.KernelRfl
set_option linter.all false
open List renaming range'→bX
namespace Go.Proofs.YtinknfobdleeeaaGreat
set_option maxRecDepth 100000
open Option renaming some→O,none→G
open Bool renaming true→I,false→Z
theorem g2:(bX 16 8).all (j7 Tryz.prog nh eH rt es)=I:=by kernel_rfl
theorem g5:(bX 40 8).all (j7 Tryz.prog nh eH rt es)=I:=by kernel_rfl
theorem g8:(bX 64 8).all (j7 Tryz.prog nh eH rt es)=I:=by kernel_rfl
theorem g11:(bX 74 8).all (j7 Tryz.prog nh eH rt es)=I:=by kernel_rfl
theorem g14:(bX 98 2).all (j7 Tryz.prog nh eH rt es)=I:=by kernel_rfl
theorem g17:(bX 104 2).all (j7 Tryz.prog nh eH rt es)=I:=by kernel_rfl
theorem g20:(bX 110 2).all (j7 Tryz.prog nh eH rt es)=I:=by kernel_rfl
theorem g23:(bX 116 2).all (j7 Tryz.prog nh eH rt es)=I:=by kernel_rfl
theorem g26:(bX 122 2).all (j7 Tryz.prog nh eH rt es)=I:=by kernel_rfl
theorem g29:(bX 128 2).all (j7 Tryz.prog nh eH rt es)=I:=by kernel_rfl
theorem g32:(bX 134 2).all (j7 Tryz.prog nh eH rt es)=I:=by kernel_rfl
end Go.Proofs.YtinknfobdleeeaaGreat
