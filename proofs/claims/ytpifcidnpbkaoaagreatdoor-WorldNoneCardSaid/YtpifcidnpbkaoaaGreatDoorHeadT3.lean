/- calls that are run once, and known from then on, part 3: printed by gen_ents3.py -/
import Derived.Test.YtpifcidnpbkaoaaGreatDoorHeadT2
import Derived.Test.YtpifcidnpbkaoaaGreatDoorGg
import Derived.Test.YtpifcidnpbkaoaaGreatDoorProg
import Derived.KernelRfl
namespace Go.Proofs.YtpifcidnpbkaoaaGreatDoor
open Go Go.RowKit
set_option maxRecDepth 100000

def qL269 : List AV := [.int .u8 14, .int .u8 0, .int .i64 0, .int .u8 0, .int .u32 0, .int .u8 0, .int .u32 0, .int .u8 0, .int .u32 0, .int .u32 0, .int .u8 0, .int .u8 0, .int .u64 0, .int .u8 0, .int .u32 0, .int .u8 0, .int .u32 0, .int .u32 0, .int .u32 0, .int .u32 0, .nslice, .int .u8 0, .int .u32 0]
def qL270 : List AV := [.int .i64 2, .int .u8 0, .int .u32 0, .int .u32 0, .int .u32 0, .int .u32 0, .int .u32 0, .int .u32 0, .int .u32 0, .int .u32 0, .int .u32 0, .int .u64 0, .int .u32 0, .int .u8 0, .int .u32 0, .int .u8 0, .int .u8 0, .int .u32 0, .int .u32 0, .int .u8 0, .int .u8 0, .int .u64 0, .int .u8 0, .int .u32 0, .int .u8 0, .int .u32 0, .int .u32 0, .int .u32 0, .int .u32 0, .nslice, .nslice, .int .u8 0, .int .u32 0, .nslice, .nslice, .nslice, .int .u8 0, .int .u8 0, .bool false, .bool false, .int .u8 0, .int .u32 0, .int .u8 0, .int .u32 0, .int .u32 0, .nslice, .int .u64 0, .str []]
def qL271 : List AV := [.int .i64 9, .int .i64 8, .int .i64 100, .int .i64 0]
def qT842 : Tr AObj := (.n qT829 none (.n qT712 qO123 qT830))
def qT843 : Tr AObj := (.n (.n qT821 qO51 qT840) (some (.cells qL98 37 none)) qT842)
def qent102 : Ent := ⟨5, [.ptr 0 0, .agg qL156], ⟨qT832, 57, [], ⟨pgl, []⟩⟩, [⟨.ret, .agg qL268, .e, [], ⟨qT839, 66, [], ⟨pgl, []⟩⟩⟩]⟩
theorem qent102_ok : okEntI Tryz.prog [(148, 1, 0), (513, 2, 0), (597, 5, 0)] qtab102 lptab 20000 qent102 = true := by kernel_rfl
def qtab103 : List Ent := qent102 :: qtab102
def qent103 : Ent := ⟨5, [.ptr 0 0, .agg qL269], ⟨qT832, 57, [], ⟨pgl, []⟩⟩, [⟨.ret, .agg qL270, .e, [], ⟨qT843, 59, [], ⟨pgl, []⟩⟩⟩]⟩
theorem qent103_ok : okEntI Tryz.prog [(148, 1, 0), (513, 2, 0), (597, 5, 0)] qtab103 lptab 20000 qent103 = true := by kernel_rfl
def qtab104 : List Ent := qent103 :: qtab103
def qent104 : Ent := ⟨10, [.agg qL271], ⟨.e, 0, [], ⟨pgl, []⟩⟩, [⟨.ret, .tup [.nptr, .int .i64 2], .e, [], ⟨(qlf none), 1, [], ⟨pgl, []⟩⟩⟩]⟩
theorem qent104_ok : okEntI Tryz.prog [(148, 1, 0), (513, 2, 0), (597, 5, 0)] qtab104 lptab 20000 qent104 = true := by kernel_rfl
def qtab105 : List Ent := qent104 :: qtab104
theorem qokk3 (hm : Tryz.prog.follows .mixedOrders = true) (hN : okNames Tryz.prog = true) (hP : ∀ tab ptab, PrimOk Tryz.prog ⟨[(148, 1, 0), (513, 2, 0), (597, 5, 0)], tab, ptab⟩) (hPT : PTabOk Tryz.prog lptab) : TabOk Tryz.prog (AnyOk Tryz.prog) qtab105 := by
  have h102 : TabOk Tryz.prog (AnyOk Tryz.prog) qtab102 := qokk2 hm hN hP hPT
  have h103 : TabOk Tryz.prog (AnyOk Tryz.prog) qtab103 := okEntI_cons hm hN (hP qtab102 lptab) h102 hPT qent102_ok
  have h104 : TabOk Tryz.prog (AnyOk Tryz.prog) qtab104 := okEntI_cons hm hN (hP qtab103 lptab) h103 hPT qent103_ok
  have h105 : TabOk Tryz.prog (AnyOk Tryz.prog) qtab105 := okEntI_cons hm hN (hP qtab104 lptab) h104 hPT qent104_ok
  exact h105

end Go.Proofs.YtpifcidnpbkaoaaGreatDoor
