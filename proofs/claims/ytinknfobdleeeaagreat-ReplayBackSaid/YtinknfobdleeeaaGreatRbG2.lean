/- Part of the proof of a law: no condition. -/
import Derived.Test.YtinknfobdleeeaaGreatRe
import Derived.Test.YtinknfobdleeeaaGreatRows
import Derived.KernelRfl
set_option linter.all false
open List renaming range'→bX
namespace Go.Proofs.YtinknfobdleeeaaGreat
set_option maxRecDepth 100000
open Option renaming some→O,none→G
open Bool renaming true→I,false→Z
theorem g1:(bX 8 8).all (j7 Tryz.prog nh eH rt es)=I:=by kernel_rfl
theorem g4:(bX 32 8).all (j7 Tryz.prog nh eH rt es)=I:=by kernel_rfl
theorem g7:(bX 56 8).all (j7 Tryz.prog nh eH rt es)=I:=by kernel_rfl
theorem g13:(bX 90 8).all (j7 Tryz.prog nh eH rt es)=I:=by kernel_rfl
theorem g16:(bX 102 2).all (j7 Tryz.prog nh eH rt es)=I:=by kernel_rfl
theorem g19:(bX 108 2).all (j7 Tryz.prog nh eH rt es)=I:=by kernel_rfl
theorem g22:(bX 114 2).all (j7 Tryz.prog nh eH rt es)=I:=by kernel_rfl
theorem g25:(bX 120 2).all (j7 Tryz.prog nh eH rt es)=I:=by kernel_rfl
theorem g28:(bX 126 2).all (j7 Tryz.prog nh eH rt es)=I:=by kernel_rfl
theorem g31:(bX 132 2).all (j7 Tryz.prog nh eH rt es)=I:=by kernel_rfl
end Go.Proofs.YtinknfobdleeeaaGreat
