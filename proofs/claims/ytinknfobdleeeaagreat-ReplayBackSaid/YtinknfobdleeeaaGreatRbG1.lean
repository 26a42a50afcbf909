/- Part of the proof of a law: no condition. -/
import Derived.Test.YtinknfobdleeeaaGreatRe
import Derived.Test.YtinknfobdleeeaaGreatRows
import Derived.KernelRfl
set_option linter.all false
open List renaming range'→bX
namespace Go.Proofs.YtinknfobdleeeaaGreat
set_option maxRecDepth 100000
open Option renaming some→O,none→G
open Bool renaming true→I,false→Z
theorem g0:(bX 0 8).all (j7 Tryz.prog nh eH rt es)=I:=by kernel_rfl
theorem g3:(bX 24 8).all (j7 Tryz.prog nh eH rt es)=I:=by kernel_rfl
theorem g6:(bX 48 8).all (j7 Tryz.prog nh eH rt es)=I:=by kernel_rfl
theorem g9:(bX 72 1).all (j7 Tryz.prog nh eH rt es)=I:=by kernel_rfl
theorem g12:(bX 82 8).all (j7 Tryz.prog nh eH rt es)=I:=by kernel_rfl
theorem g15:(bX 100 2).all (j7 Tryz.prog nh eH rt es)=I:=by kernel_rfl
theorem g18:(bX 106 2).all (j7 Tryz.prog nh eH rt es)=I:=by kernel_rfl
theorem g21:(bX 112 2).all (j7 Tryz.prog nh eH rt es)=I:=by kernel_rfl
theorem g24:(bX 118 2).all (j7 Tryz.prog nh eH rt es)=I:=by kernel_rfl
theorem g27:(bX 124 2).all (j7 Tryz.prog nh eH rt es)=I:=by kernel_rfl
theorem g30:(bX 130 2).all (j7 Tryz.prog nh eH rt es)=I:=by kernel_rfl
theorem g33:(bX 136 2).all (j7 Tryz.prog nh eH rt es)=I:=by kernel_rfl
end Go.Proofs.YtinknfobdleeeaaGreat
