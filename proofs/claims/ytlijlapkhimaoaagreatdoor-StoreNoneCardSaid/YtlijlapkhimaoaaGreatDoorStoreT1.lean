/- calls that are run once, and known from then on, part 1: printed by gen_ents3.py -/
import Derived.Test.YtlijlapkhimaoaaGreatDoorStoreP
import Derived.Test.YtlijlapkhimaoaaGreatDoorE24
import Derived.Test.YtlijlapkhimaoaaGreatDoorProg
import Derived.KernelRfl
namespace Go.Proofs.YtlijlapkhimaoaaGreatDoor
open Go Go.RowKit
set_option maxRecDepth 100000

def qlf (o : Option AObj) : Tr AObj := .n .e o .e
def qtab0 : List Ent := []
def qL0 : List AV := [.int .i64 1048576, .map 1, .map 2, .nslice, .nptr, .bool false]
def qL1 : List AV := [.int .i64 1048576, .map 3, .map 4, .nslice, .nptr, .bool false]
def qL2 : List AV := [.int .u32 0, .int .u32 0, .int .u32 0, .int .u32 0, .int .u32 0, .int .u32 0, .int .u32 0, .int .u32 0]
def qL3 : List AV := [.int .i64 1, .int .u8 0, .int .u32 0, .int .u32 0, .int .u32 0, .int .u32 0, .int .u32 0, .int .u32 0, .int .u32 0, .int .u32 0, .int .u32 0, .int .u32 0, .int .u32 0, .int .u32 0, .int .u32 0, .int .u32 0, .int .u32 0, .int .u32 0, .int .u32 0, .int .u32 0, .int .u32 0, .int .u32 0, .int .u32 0, .int .u32 0, .int .u32 0, .int .u32 0, .int .u32 0, .int .u32 0, .int .u32 0, .int .u32 0, .int .u32 0, .int .u32 0, .int .u32 0, .int .u32 0, .int .u32 0, .int .u32 0, .int .u32 0, .int .u32 0, .int .u32 0, .int .u32 0, .int .u32 0, .int .u32 0, .int .u32 0, .int .u32 0, .int .u32 0, .int .u32 0, .int .u32 0, .int .u32 0, .int .u32 0, .int .u32 0, .int .u32 0, .int .u32 0, .int .u32 0, .int .u32 0, .int .u32 0, .int .u32 0, .int .u32 0, .int .u32 0, .int .u32 0, .int .u32 0, .int .u32 0, .int .u32 0, .int .u32 0, .int .u32 0, .int .u32 0, .int .u32 0, .int .u32 0, .int .u32 0, .int .u32 0, .int .u32 0, .int .u32 0, .int .u32 0, .int .u32 0, .int .u32 0, .nmap, .nmap, .nmap, .nmap, .nmap, .nmap, .nmap, .nmap]
def qL4 : List AV := [.ptr 4 0, .int .i64 100, .nslice, .int .i64 0, .str [], .bool false]
def qL5 : List AV := [.int .u8 0, .int .i64 1, .int .i64 8, .int .i64 100, .ptr 1 0, .nslice, .ptr 2 0, .ptr 3 0, .bool false]
def qL6 : List AV := [.int .i64 1048576, .map 6, .map 7, .nslice, .nptr, .bool false]
def qL7 : List AV := [.int .i64 1, .int .u32 0, .int .u32 0, .int .u32 0, .int .u32 0, .int .u32 0, .int .u32 0, .int .u32 0, .int .u32 0, .map 5]
def qL8 : List AV := [.int .u8 0, .int .u32 1, .int .u32 0, .int .u32 0, .int .u32 0, .int .u32 0, .int .u32 0, .int .u32 0, .int .u32 0, .int .u32 0, .int .u64 1, .int .u32 7, .int .u8 0, .int .u32 1, .int .u8 0, .int .u8 0, .int .u32 0, .int .u32 0, .int .u8 0, .int .u8 0, .int .u64 0, .int .u8 0, .int .u32 0, .int .u8 0, .int .u32 0, .int .u32 0, .int .u32 0, .int .u32 0, .nslice]
def qL9 : List AV := [.int .u8 0, .int .u32 1, .int .u8 0, .int .u32 1, .int .u8 0, .int .u32 0, .int .u32 7, .int .u8 7, .int .u8 8, .int .u64 1099511627776, .int .i64 0]
def qL10 : List AV := [.ptr 4 0, .map 13, .map 14, .map 15]
def qL11 : List AV := [.int .u8 0, .int .u32 0, .int .u8 0, .int .u32 0, .int .u8 0, .int .u32 0, .int .u32 0, .int .u8 0, .int .u8 0, .int .u64 0, .int .i64 0]
def qL12 : List AV := [.ptr 1 0, .map 2, .map 3, .map 4]
def qL13 : List AV := [.str [0, 1, 0, 0, 0, 0, 0, 0, 0, 0, 1, 7, 0, 1, 0, 0, 0, 0, 0, 0, 0, 0, 0, 0, 0, 0, 0, 0, 0], .int .i64 0]
def qL14 : List AV := [.str [0, 1, 0, 0, 0, 0, 0, 0, 0, 0, 1, 7, 0, 1, 0, 0, 0, 0, 0, 0, 0, 0, 0, 0, 0, 0, 0, 0, 0]]
def qL15 : List AV := [.int .i64 43, .func (.func 344) [] [.ptr 1 0, .ptr 2 0, .ptr 3 0]]
def qL16 : List AV := [.str [3, 70, 58, 48, 84, 28, 109, 246, 29, 0, 1, 0, 0, 0, 0, 0, 0, 0, 0, 1, 7, 0, 1, 0, 0, 0, 0, 0, 0, 0, 0, 0, 0, 0, 0, 0, 0, 0, 5, 83, 229, 157]]
def qL17 : List AV := [.int .i64 1048576, .map 4, .map 5, .nslice, .nptr, .bool false]
def qL18 : List AV := [.str [108, 111, 103, 46, 48, 48, 48, 48, 48, 48, 48, 49]]
def qL19 : List AV := [.int .i64 1048576, .map 4, .map 5, .slice 9 0 1 (.u 10 0), .nptr, .bool false]
def qL20 : List AV := [.ptr 3 0, .int .i64 100, .nslice, .int .i64 0, .str [], .bool false]
def qL21 : List AV := [.int .i64 1048576, .map 4, .map 5, .slice 70 0 1 (.u 71 0), .nptr, .bool false]
def qL22 : List AV := [.ptr 3 0, .int .i64 100, .slice 116 0 1 (.u 117 0), .int .i64 0, .str [108, 111, 103, 46, 48, 48, 48, 48, 48, 48, 48, 49], .bool false]
def qL23 : List AV := [.int .i64 43, .func (.func 344) [] [.ptr 65 0, .ptr 60 0, .ptr 61 0]]
def qL24 : List AV := [.int .i64 1048576, .map 4, .map 5, .slice 6 0 1 (.u 7 0), .nptr, .bool false]
def qL25 : List AV := [.ptr 1 0, .int .i64 100, .slice 2 0 1 (.u 3 0), .int .i64 0, .str [108, 111, 103, 46, 48, 48, 48, 48, 48, 48, 48, 49], .bool false]
def qL26 : List AV := [.int .i64 43, .func (.func 344) [] [.ptr 8 0, .ptr 9 0, .ptr 10 0]]
def qL27 : List AV := [.int .i64 1048576, .map 11, .map 5, .nslice, .nptr, .bool false]
def qL28 : List AV := [.ptr 1 0, .int .i64 100, .slice 2 0 1 (.u 3 0), .int .i64 1, .str [108, 111, 103, 46, 48, 48, 48, 48, 48, 48, 48, 49], .bool false]
def qL29 : List AV := [.int .u32 1, .int .u32 0, .int .u32 0, .int .u32 0, .int .u32 0, .int .u32 0, .int .u32 0, .int .u32 0]
def qL30 : List AV := [.int .i64 1, .int .u8 0, .int .u32 1, .int .u32 0, .int .u32 0, .int .u32 0, .int .u32 0, .int .u32 0, .int .u32 0, .int .u32 0, .int .u32 1, .int .u32 0, .int .u32 0, .int .u32 0, .int .u32 0, .int .u32 0, .int .u32 0, .int .u32 0, .int .u32 0, .int .u32 0, .int .u32 0, .int .u32 0, .int .u32 0, .int .u32 0, .int .u32 0, .int .u32 0, .int .u32 0, .int .u32 0, .int .u32 0, .int .u32 0, .int .u32 0, .int .u32 0, .int .u32 0, .int .u32 0, .int .u32 0, .int .u32 0, .int .u32 0, .int .u32 0, .int .u32 0, .int .u32 0, .int .u32 0, .int .u32 0, .int .u32 0, .int .u32 0, .int .u32 0, .int .u32 0, .int .u32 0, .int .u32 0, .int .u32 0, .int .u32 0, .int .u32 0, .int .u32 0, .int .u32 0, .int .u32 0, .int .u32 0, .int .u32 0, .int .u32 0, .int .u32 0, .int .u32 0, .int .u32 0, .int .u32 0, .int .u32 0, .int .u32 0, .int .u32 0, .int .u32 0, .int .u32 0, .int .u32 0, .int .u32 0, .int .u32 0, .int .u32 0, .int .u32 0, .int .u32 0, .int .u32 0, .int .u32 0, .nmap, .nmap, .nmap, .nmap, .nmap, .nmap, .nmap, .nmap]
def qL31 : List AV := [.int .i64 1, .int .u32 1, .int .u32 0, .int .u32 0, .int .u32 0, .int .u32 0, .int .u32 0, .int .u32 0, .int .u32 0, .map 34]
def qL32 : List AV := [.ptr 4 0, .int .i64 100, .slice 321 0 1 (.u 322 0), .int .i64 1, .str [108, 111, 103, 46, 48, 48, 48, 48, 48, 48, 48, 49], .bool false]
def qL33 : List AV := [.int .u8 0, .int .i64 1, .int .i64 8, .int .i64 100, .ptr 1 0, .slice 326 0 1 (.u 327 0), .ptr 35 0, .ptr 3 0, .bool false]
def qL34 : List AV := [.int .i64 1048576, .map 325, .map 7, .nslice, .nptr, .bool false]
def qL35 : List AV := [.nslice, .map 1, .int .u32 0, .int .u32 0, .int .u32 0, .int .u32 0, .int .u32 0, .int .u32 0, .int .u32 0, .int .u32 0]
def qL36 : List AV := [.slice 28 0 1 (.u 29 0), .map 107, .int .u32 1, .int .u32 0, .int .u32 0, .int .u32 0, .int .u32 0, .int .u32 0, .int .u32 0, .int .u32 0]
def qL37 : List AV := [.int .u8 0, .int .i64 1, .int .i64 8, .int .i64 100, .ptr 5 0, .slice 6 0 1 (.u 7 0), .ptr 8 0, .ptr 9 0, .bool false]
def qL38 : List AV := [.ptr 14 0, .int .i64 100, .slice 15 0 1 (.u 16 0), .int .i64 1, .str [108, 111, 103, 46, 48, 48, 48, 48, 48, 48, 48, 49], .bool false]
def qL39 : List AV := [.int .u8 0, .int .u32 1, .nslice, .nslice, .int .i64 0, .bool true]
def qL40 : List AV := [.ptr 1 0, .ptr 2 0, .map 3, .map 4]
def qL41 : List AV := [.int .i64 1, .int .u32 1, .int .u32 0, .int .u32 0, .int .u32 0, .int .u32 0, .int .u32 0, .int .u32 0, .int .u32 0, .map 17]
def qL42 : List AV := [.slice 10 0 1 (.u 11 0), .map 12, .int .u32 1, .int .u32 0, .int .u32 0, .int .u32 0, .int .u32 0, .int .u32 0, .int .u32 0, .int .u32 0]
def qL43 : List AV := [.int .i64 1048576, .map 18, .map 19, .nslice, .nptr, .bool false]
def qL44 : List AV := [.int .u8 0, .int .u32 1, .nslice, .nslice, .nslice]
def qL45 : List AV := [.int .u8 0, .int .u32 1, .int .u32 0, .int .u32 0, .int .u32 0, .int .u32 0, .int .u32 0, .int .u32 0, .int .u32 0, .int .u32 0, .int .u64 1, .int .u32 7, .int .u8 0, .int .u32 1, .int .u8 0, .int .u8 0, .int .u32 0, .int .u32 0, .int .u8 0, .int .u8 0, .int .u64 0, .int .u8 0, .int .u32 0, .int .u8 0, .int .u32 0, .int .u32 0, .int .u32 0, .int .u32 0, .nslice, .bool true, .int .u8 1]
def qL46 : List AV := [.int .u8 0, .int .u32 1, .slice 5 0 1 (.u 6 0), .slice 23 0 1 (.u 24 0), .int .i64 1, .bool true]
def qL47 : List AV := [.ptr 4 0, .ptr 5 0, .map 6, .map 7]
def qL48 : List AV := [.int .i64 1, .int .u32 1, .int .u32 0, .int .u32 0, .int .u32 0, .int .u32 0, .int .u32 0, .int .u32 0, .int .u32 0, .map 19]
def qL49 : List AV := [.slice 13 0 1 (.u 14 0), .map 15, .int .u32 1, .int .u32 0, .int .u32 0, .int .u32 0, .int .u32 0, .int .u32 0, .int .u32 0, .int .u32 0]
def qL50 : List AV := [.int .i64 1048576, .map 20, .map 21, .nslice, .nptr, .bool false]
def qL51 : List AV := [.ptr 16 0, .int .i64 100, .slice 17 0 1 (.u 18 0), .int .i64 1, .str [108, 111, 103, 46, 48, 48, 48, 48, 48, 48, 48, 49], .bool false]
def qL52 : List AV := [.int .u8 0, .int .i64 1, .int .i64 8, .int .i64 100, .ptr 8 0, .slice 9 0 1 (.u 10 0), .ptr 11 0, .ptr 12 0, .bool false]
def qL53 : List AV := [.int .u8 0, .int .u32 1, .slice 28 0 1 (.u 29 0), .slice 46 0 1 (.u 47 0), .int .i64 1, .bool true]
def qL54 : List AV := [.int .u8 0, .int .u32 2, .int .u32 1, .int .u32 0, .int .u32 0, .int .u32 0, .int .u32 0, .int .u32 0, .int .u32 0, .int .u32 0, .int .u64 2, .int .u32 7, .int .u8 0, .int .u32 1, .int .u8 3, .int .u8 0, .int .u32 1, .int .u32 0, .int .u8 0, .int .u8 0, .int .u64 0, .int .u8 0, .int .u32 0, .int .u8 0, .int .u32 0, .int .u32 5, .int .u32 3, .int .u32 100, .nslice]
def qL55 : List AV := [.int .u8 0, .int .u32 1, .int .u32 0, .int .u32 0, .int .u32 0, .int .u32 0, .int .u32 0, .int .u32 0, .int .u32 0, .int .u32 0, .int .u64 1, .int .u32 7, .int .u8 0, .int .u32 1, .int .u8 0, .int .u8 0, .int .u32 0, .int .u32 0, .int .u8 0, .int .u8 0, .int .u64 0, .int .u8 0, .int .u32 0, .int .u8 0, .int .u32 0, .int .u32 0, .int .u32 0, .int .u32 0, .nslice, .int .u8 0, .int .u32 2, .int .u32 1, .int .u32 0, .int .u32 0, .int .u32 0, .int .u32 0, .int .u32 0, .int .u32 0, .int .u32 0, .int .u64 2, .int .u32 7, .int .u8 0, .int .u32 1, .int .u8 3, .int .u8 0, .int .u32 1, .int .u32 0, .int .u8 0, .int .u8 0, .int .u64 0, .int .u8 0, .int .u32 0, .int .u8 0, .int .u32 0, .int .u32 5, .int .u32 3, .int .u32 100, .nslice]
def qL56 : List AV := [.ptr 4 0, .map 14, .map 15, .map 16]
def qL57 : List AV := [.int .u8 0, .int .u32 1, .int .u8 0, .int .u32 2]
def qL58 : List AV := [.slice 16 0 1 (.u 17 0), .int .i64 0]
def qL59 : List AV := [.ptr 0 0, .map 7, .map 8, .map 9]
def qL60 : List AV := [.ptr 5 0, .map 6, .map 7, .map 8]
def qL61 : List AV := [.ptr 1 0, .int .u8 0, .int .u32 1, .nslice, .nslice, .nslice]
def qL62 : List AV := [.ptr 1 0, .int .u8 0, .int .u32 1, .slice 10 0 1 (.u 11 0), .nslice, .nslice]
def qL63 : List AV := [.int .u8 0, .int .u32 2, .int .u32 5, .int .u32 3, .int .u32 100, .int .u8 0, .int .u32 2, .nslice, .nslice, .int .u8 0]
def qL64 : List AV := [.str [0, 2, 1, 0, 0, 0, 0, 0, 0, 0, 2, 7, 0, 1, 3, 0, 1, 0, 0, 0, 0, 0, 0, 0, 0, 5, 3, 100, 0], .int .i64 0]
def qL65 : List AV := [.str [0, 2, 1, 0, 0, 0, 0, 0, 0, 0, 2, 7, 0, 1, 3, 0, 1, 0, 0, 0, 0, 0, 0, 0, 0, 5, 3, 100, 0]]
def qL66 : List AV := [.int .i64 34, .func (.func 344) [] [.ptr 1 0, .ptr 2 0, .ptr 3 0]]
def qL67 : List AV := [.str [29, 0, 2, 1, 0, 0, 0, 0, 0, 0, 0, 2, 7, 0, 1, 3, 0, 1, 0, 0, 0, 0, 0, 0, 0, 0, 5, 3, 100, 0, 84, 169, 182, 244]]
def qL68 : List AV := [.str [3, 70, 58, 48, 84, 28, 109, 246, 29, 0, 1, 0, 0, 0, 0, 0, 0, 0, 0, 1, 7, 0, 1, 0, 0, 0, 0, 0, 0, 0, 0, 0, 0, 0, 0, 0, 0, 0, 5, 83, 229, 157, 29, 0, 2, 1, 0, 0, 0, 0, 0, 0, 0, 2, 7, 0, 1, 3, 0, 1, 0, 0, 0, 0, 0, 0, 0, 0, 5, 3, 100, 0, 84, 169, 182, 244]]
def qL69 : List AV := [.ptr 3 0, .int .i64 100, .slice 4 0 1 (.u 5 0), .int .i64 1, .str [108, 111, 103, 46, 48, 48, 48, 48, 48, 48, 48, 49], .bool false]
def qL70 : List AV := [.int .i64 1048576, .map 6, .map 7, .slice 43 0 1 (.u 44 0), .nptr, .bool false]
def qL71 : List AV := [.int .i64 34, .func (.func 344) [] [.ptr 38 0, .ptr 32 0, .ptr 33 0]]
def qL72 : List AV := [.str [0, 1, 0, 0, 0, 0, 0, 0, 0, 0, 1, 7, 0, 1, 0, 0, 0, 0, 0, 0, 0, 0, 0, 0, 0, 0, 0, 0, 0], .str [0, 2, 1, 0, 0, 0, 0, 0, 0, 0, 2, 7, 0, 1, 3, 0, 1, 0, 0, 0, 0, 0, 0, 0, 0, 5, 3, 100, 0]]
def qL73 : List AV := [.ptr 3 0, .int .i64 100, .slice 81 0 2 (.u 82 0), .int .i64 1, .str [108, 111, 103, 46, 48, 48, 48, 48, 48, 48, 48, 49], .bool false]
def qL74 : List AV := [.ptr 1 0, .int .i64 100, .slice 2 0 2 (.u 3 0), .int .i64 1, .str [108, 111, 103, 46, 48, 48, 48, 48, 48, 48, 48, 49], .bool false]
def qL75 : List AV := [.int .i64 34, .func (.func 344) [] [.ptr 8 0, .ptr 9 0, .ptr 10 0]]
def qL76 : List AV := [.ptr 1 0, .int .i64 100, .slice 2 0 2 (.u 3 0), .int .i64 2, .str [108, 111, 103, 46, 48, 48, 48, 48, 48, 48, 48, 49], .bool false]
def qL77 : List AV := [.int .u32 2, .int .u32 0, .int .u32 0, .int .u32 0, .int .u32 0, .int .u32 0, .int .u32 0, .int .u32 0]
def qL78 : List AV := [.int .i64 1, .int .u8 0, .int .u32 2, .int .u32 0, .int .u32 0, .int .u32 0, .int .u32 0, .int .u32 0, .int .u32 0, .int .u32 0, .int .u32 2, .int .u32 0, .int .u32 0, .int .u32 0, .int .u32 0, .int .u32 0, .int .u32 0, .int .u32 0, .int .u32 0, .int .u32 0, .int .u32 0, .int .u32 0, .int .u32 0, .int .u32 0, .int .u32 0, .int .u32 0, .int .u32 0, .int .u32 0, .int .u32 0, .int .u32 0, .int .u32 0, .int .u32 0, .int .u32 0, .int .u32 0, .int .u32 0, .int .u32 0, .int .u32 0, .int .u32 0, .int .u32 0, .int .u32 0, .int .u32 0, .int .u32 0, .int .u32 0, .int .u32 0, .int .u32 0, .int .u32 0, .int .u32 0, .int .u32 0, .int .u32 0, .int .u32 0, .int .u32 0, .int .u32 0, .int .u32 0, .int .u32 0, .int .u32 0, .int .u32 0, .int .u32 0, .int .u32 0, .int .u32 0, .int .u32 0, .int .u32 0, .int .u32 0, .int .u32 0, .int .u32 0, .int .u32 0, .int .u32 0, .int .u32 0, .int .u32 0, .int .u32 0, .int .u32 0, .int .u32 0, .int .u32 0, .int .u32 0, .int .u32 0, .nmap, .nmap, .nmap, .nmap, .nmap, .nmap, .nmap, .nmap]
def qL79 : List AV := [.ptr 6 0, .int .i64 100, .slice 7 0 1 (.u 8 0), .int .i64 1, .str [108, 111, 103, 46, 48, 48, 48, 48, 48, 48, 48, 49], .bool false]
def qL80 : List AV := [.int .u8 0, .int .i64 1, .int .i64 8, .int .i64 100, .ptr 1 0, .slice 2 0 1 (.u 3 0), .ptr 4 0, .ptr 5 0, .bool false]
def qL81 : List AV := [.int .i64 1, .int .u32 1, .int .u32 0, .int .u32 0, .int .u32 0, .int .u32 0, .int .u32 0, .int .u32 0, .int .u32 0, .map 9]
def qL82 : List AV := [.int .i64 1048576, .map 10, .map 11, .nslice, .nptr, .bool false]
def qL83 : List AV := [.ptr 6 0, .int .i64 100, .slice 292 0 2 (.u 293 0), .int .i64 2, .str [108, 111, 103, 46, 48, 48, 48, 48, 48, 48, 48, 49], .bool false]
def qL84 : List AV := [.int .i64 1, .int .u32 2, .int .u32 0, .int .u32 0, .int .u32 0, .int .u32 0, .int .u32 0, .int .u32 0, .int .u32 0, .map 40]
def qL85 : List AV := [.int .u8 0, .int .i64 1, .int .i64 8, .int .i64 100, .ptr 1 0, .slice 297 0 2 (.u 298 0), .ptr 41 0, .ptr 5 0, .bool false]
def qL86 : List AV := [.int .i64 1048576, .map 296, .map 11, .nslice, .nptr, .bool false]
def qL87 : List AV := [.ptr 6 0, .int .i64 100, .slice 7 0 2 (.u 8 0), .int .i64 2, .str [108, 111, 103, 46, 48, 48, 48, 48, 48, 48, 48, 49], .bool false]
def qL88 : List AV := [.int .u8 0, .int .i64 1, .int .i64 8, .int .i64 100, .ptr 1 0, .slice 2 0 2 (.u 3 0), .ptr 4 0, .ptr 5 0, .bool false]
def qL89 : List AV := [.int .i64 1, .int .u32 2, .int .u32 0, .int .u32 0, .int .u32 0, .int .u32 0, .int .u32 0, .int .u32 0, .int .u32 0, .map 9]
def qO0 : Option AObj := (some (.cells [.func (.func 347) [] []] 438 none))
def qO1 : Option AObj := (some (.cells [.map 1, .map 2] 290 none))
def qO2 : Option AObj := (some (.map [(.agg [.int .u8 0, .int .u32 1], .agg qL9, 0)] 1))
def qO3 : Option AObj := (some (.map [(.agg [.int .u8 0, .int .u32 1], .agg qL8, 0)] 1))
def qO4 : Option AObj := (some (.cells qL8 40 (some 1)))
def qO5 : Option AObj := (some (.cells [.map 2, .map 3] 290 none))
def qO6 : Option AObj := (some (.cells [.map 5, .map 6] 290 none))
def qO7 : Option AObj := (some (.cells [.int .u8 0, .int .u32 1] 24 (some 1)))
def qO8 : Option AObj := (some (.cells [.int .u8 0, .int .u32 1] 24 (some 16)))
def qO9 : Option AObj := (some (.cells [.int .u8 0, .int .u32 1] 24 (some 13)))
def qO10 : Option AObj := (some (.map [(.agg [.int .u8 0, .int .u32 1], .int .u8 2, 0)] 1))
def qO11 : Option AObj := (some (.cells qL8 40 (some 17)))
def qO12 : Option AObj := (some (.cells qL14 9 (some 105)))
def qO13 : Option AObj := (some (.cells [.bool false] 4 none))
def qO14 : Option AObj := (some (.cells qL15 343 (some 10)))
def qO15 : Option AObj := (some (.map [(.str [108, 111, 103, 46, 48, 48, 48, 48, 48, 48, 48, 49], .agg qL16, 0)] 1))
def qO16 : Option AObj := (some (.cells qL14 9 (some 2)))
def qO17 : Option AObj := (some (.cells qL14 9 (some 117)))
def qO18 : Option AObj := (some (.cells qL23 343 (some 71)))
def qO19 : Option AObj := (some (.cells qL14 9 (some 3)))
def qO20 : Option AObj := (some (.cells qL26 343 (some 7)))
def qO21 : Option AObj := (some (.cells qL8 40 (some 4)))
def qO22 : Option AObj := (some (.cells qL14 9 (some 322)))
def qO23 : Option AObj := (some (.cells qL8 40 (some 327)))
def qO24 : Option AObj := (some (.cells qL8 40 (some 29)))
def qO25 : Option AObj := (some (.cells qL14 9 (some 16)))
def qO26 : Option AObj := (some (.map [(.agg [.int .u8 0, .int .u32 1], .ptr 13 0, 0)] 1))
def qO27 : Option AObj := (some (.map [(.agg [.int .u8 0, .int .u32 1], .agg [.int .u8 0, .int .u32 1], 0)] 1))
def qO28 : Option AObj := (some (.cells qL8 40 (some 11)))
def qO29 : Option AObj := (some (.cells qL8 40 (some 7)))
def qO30 : Option AObj := (some (.cells qL44 93 (some 24)))
def qO31 : Option AObj := (some (.cells qL45 188 (some 6)))
def qO32 : Option AObj := (some (.cells qL14 9 (some 18)))
def qO33 : Option AObj := (some (.cells qL8 40 (some 10)))
def qO34 : Option AObj := (some (.cells qL8 40 (some 14)))
def qO35 : Option AObj := (some (.cells [.ptr 3 0] 29 none))
def qO36 : Option AObj := (some (.map [(.agg [.int .u8 0, .int .u32 1], .ptr 0 0, 0)] 1))
def qO37 : Option AObj := (some (.cells qL45 188 (some 29)))
def qO38 : Option AObj := (some (.cells qL44 93 (some 47)))
def qO39 : Option AObj := (some (.cells qL55 40 (some 1)))
def qO40 : Option AObj := (some (.map [(.agg [.int .u8 0, .int .u32 1], .agg qL8, 0), (.agg [.int .u8 0, .int .u32 2], .agg qL54, 1)] 2))
def qO41 : Option AObj := (some (.map [(.agg [.int .u8 0, .int .u32 2], .int .i64 1, 0)] 1))
def qO42 : Option AObj := (some (.cells qL57 24 (some 21)))
def qO43 : Option AObj := (some (.cells [.int .u8 0, .int .u32 1] 24 (some 17)))
def qO44 : Option AObj := (some (.map [(.agg [.int .u8 0, .int .u32 1], .nslice, 0), (.agg [.int .u8 0, .int .u32 2], .slice 130 0 1 (.u 131 0), 1)] 2))
def qO45 : Option AObj := (some (.cells [.int .u8 0, .int .u32 1] 24 (some 131)))
def qO46 : Option AObj := (some (.cells [.int .u8 0, .int .u32 2] 24 (some 1)))
def qO47 : Option AObj := (some (.cells [.int .u8 0, .int .u32 2] 24 (some 13)))
def qO48 : Option AObj := (some (.map [(.agg [.int .u8 0, .int .u32 1], .nslice, 0), (.agg [.int .u8 0, .int .u32 2], .slice 9 0 1 (.u 10 0), 1)] 2))
def qO49 : Option AObj := (some (.cells [.int .u8 0, .int .u32 1] 24 (some 10)))
def qO50 : Option AObj := (some (.cells [.map 11, .map 12] 290 none))
def qO51 : Option AObj := (some (.map [(.agg [.int .u8 0, .int .u32 1], .int .u8 2, 0), (.agg [.int .u8 0, .int .u32 2], .int .u8 2, 1)] 2))
def qO52 : Option AObj := (some (.cells qL55 40 (some 29)))
def qO53 : Option AObj := (some (.cells [.int .u8 0, .int .u32 1] 24 (some 336)))
def qO54 : Option AObj := (some (.cells qL63 99 (some 11)))
def qO55 : Option AObj := (some (.cells qL54 40 (some 1)))
def qO56 : Option AObj := (some (.cells qL65 9 (some 105)))
def qO57 : Option AObj := (some (.cells [.bool true] 4 none))
def qO58 : Option AObj := (some (.cells qL66 343 (some 10)))
def qO59 : Option AObj := (some (.map [(.str [108, 111, 103, 46, 48, 48, 48, 48, 48, 48, 48, 49], .agg qL68, 0)] 1))
def qO60 : Option AObj := (some (.cells qL65 9 (some 2)))
def qO61 : Option AObj := (some (.cells qL14 9 (some 5)))
def qO62 : Option AObj := (some (.cells qL71 343 (some 44)))
def qO63 : Option AObj := (some (.cells qL72 9 (some 82)))
def qO64 : Option AObj := (some (.cells qL72 9 (some 3)))
def qO65 : Option AObj := (some (.cells qL75 343 (some 7)))
def qO66 : Option AObj := (some (.cells qL14 9 (some 8)))
def qO67 : Option AObj := (some (.cells qL8 40 (some 3)))
def qO68 : Option AObj := (some (.cells qL55 40 (some 298)))
def qO69 : Option AObj := (some (.cells qL72 9 (some 293)))
def qO70 : Option AObj := (some (.cells qL72 9 (some 8)))
def qO71 : Option AObj := (some (.cells qL55 40 (some 3)))
def qO72 : Option AObj := (some (.cells qL55 40 (some 14)))
def qT0 : Tr AObj := (.n (qlf (some (.map [] 0))) (some (.cells qL0 335 none)) (qlf (some (.map [] 0))))
def qT1 : Tr AObj := (qlf (some (.cells qL1 335 none)))
def qT2 : Tr AObj := (.n (qlf (some (.map [] 0))) (some (.map [] 0)) qT1)
def qT3 : Tr AObj := (.n (qlf (some (.map [] 0))) (some (.map [] 0)) .e)
def qT4 : Tr AObj := (.n qT2 (some (.cells qL0 335 none)) qT3)
def qT5 : Tr AObj := (.n (qlf none) (some (.map [] 0)) .e)
def qT6 : Tr AObj := (.n qT5 (some (.cells qL0 335 none)) (qlf (some (.map [] 0))))
def qT7 : Tr AObj := (.n (.n (qlf none) none .e) qO0 (qlf none))
def qT8 : Tr AObj := (.n (qlf none) none (qlf none))
def qT9 : Tr AObj := (qlf (some (.cells qL3 263 none)))
def qT10 : Tr AObj := (.n (qlf none) (some (.cells qL3 263 none)) .e)
def qT11 : Tr AObj := (.n (qlf (some (.map [] 0))) (some (.cells qL3 263 none)) .e)
def qT12 : Tr AObj := (.n qT11 (some (.cells qL4 310 none)) (qlf (some (.map [] 0))))
def qT13 : Tr AObj := (qlf (some (.cells qL6 335 none)))
def qT14 : Tr AObj := (.n qT13 (some (.cells qL7 221 none)) (qlf (some (.map [] 0))))
def qT15 : Tr AObj := (.n qT12 (some (.cells qL5 83 none)) qT14)
def qT16 : Tr AObj := (.n (qlf (some (.map [] 0))) qO1 (qlf (some (.map [] 0))))
def qT17 : Tr AObj := (.n (.n (qlf none) qO2 .e) qO1 (.n (qlf none) qO3 .e))
def qT18 : Tr AObj := (.n (qlf qO3) none (qlf none))
def qT19 : Tr AObj := (.n (.n (qlf none) qO5 .e) qO2 (qlf none))
def qT20 : Tr AObj := (.n (qlf (some (.map [] 0))) none (qlf none))
def qT21 : Tr AObj := (.n qT20 qO3 (.n (qlf none) none .e))
def qT22 : Tr AObj := (.n (.n (qlf none) none .e) none (.n (qlf none) qO3 .e))
def qT23 : Tr AObj := (qlf (some (.cells qL10 277 none)))
def qT24 : Tr AObj := (.n (.n qT23 none (qlf none)) qO5 (.n (qlf none) none .e))
def qT25 : Tr AObj := (.n (.n (qlf none) none .e) none qT5)
def qT26 : Tr AObj := (.n (.n qT21 none qT22) qO4 (.n qT24 qO2 qT25))
def qT27 : Tr AObj := (qlf (some (.cells qL8 40 none)))
def qT28 : Tr AObj := (.n qT27 (some (.cells qL11 167 none)) .e)
def qT29 : Tr AObj := (.n (qlf (some (.map [] 0))) qO6 (qlf qO2))
def qT30 : Tr AObj := (.n (qlf (some (.map [] 0))) qO3 (qlf qO3))
def qT31 : Tr AObj := (.n qT29 (some (.cells qL12 277 none)) qT30)
def qT32 : Tr AObj := (.n (.n .e none (qlf none)) (some (.map [] 0)) (.n (qlf none) none .e))
def qT33 : Tr AObj := (.n qT8 qO2 (.n .e none (qlf none)))
def qT34 : Tr AObj := (.n qT8 (some (.map [] 0)) qT8)
def qT35 : Tr AObj := (.n (.n (qlf none) none .e) qO3 .e)
def qT36 : Tr AObj := (.n (.n qT32 qO6 qT33) (some (.cells qL12 277 none)) (.n qT34 qO3 qT35))
def qT37 : Tr AObj := (.n (.n (qlf qO8) none .e) (some (.map [] 0)) .e)
def qT38 : Tr AObj := (.n (.n qT37 qO6 (qlf qO2)) (some (.cells qL12 277 none)) qT30)
def qT39 : Tr AObj := (.n qT5 qO6 (.n (qlf none) qO2 .e))
def qT40 : Tr AObj := (.n qT39 (some (.cells qL12 277 none)) (.n qT5 qO3 (qlf qO3)))
def qT41 : Tr AObj := (.n (qlf qO2) qO1 (qlf qO3))
def qT42 : Tr AObj := (.n (.n (qlf none) none .e) qO2 .e)
def qT43 : Tr AObj := (.n (.n .e none (qlf qO9)) none .e)
def qT44 : Tr AObj := (.n .e none (.n (qlf qO10) none .e))
def qT45 : Tr AObj := (.n (.n qT44 none .e) none (.n .e none (qlf none)))
def qT46 : Tr AObj := (.n (.n .e none (qlf none)) none (qlf none))
def qT47 : Tr AObj := (.n (.n (qlf none) none .e) none (.n .e none (qlf none)))
def qT48 : Tr AObj := (.n (.n qT45 none qT46) qO4 (.n qT47 none qT46))
def qT49 : Tr AObj := (.n (.n (qlf none) none .e) none .e)
def qT50 : Tr AObj := (.n qT49 none (.n .e none (qlf none)))
def qT51 : Tr AObj := (.n (.n (qlf qO11) none .e) none .e)
def qT52 : Tr AObj := (.n qT50 qO4 (.n qT51 none (qlf none)))
def qT53 : Tr AObj := (.n (.n (qlf none) none .e) none (.n (qlf none) none .e))
def qT54 : Tr AObj := (.n (.n .e none (qlf none)) none qT53)
def qT55 : Tr AObj := (.n qT54 none (.n qT8 none .e))
def qT56 : Tr AObj := (.n .e none (.n (qlf none) none .e))
def qT57 : Tr AObj := (.n (.n qT8 none .e) none (.n qT56 none .e))
def qT58 : Tr AObj := (.n .e none (.n .e none (qlf none)))
def qT59 : Tr AObj := (.n (.n .e none (qlf none)) none .e)
def qT60 : Tr AObj := (.n qT59 none (.n .e none (qlf none)))
def qT61 : Tr AObj := (.n qT60 none (.n .e none qT49))
def qT62 : Tr AObj := (.n (.n qT56 none qT58) none qT61)
def qT63 : Tr AObj := (.n (.n qT55 none qT57) none qT62)
def qT64 : Tr AObj := (.n (.n .e none qT59) none .e)
def qT65 : Tr AObj := (.n (.n .e none (qlf qO12)) none .e)
def qT66 : Tr AObj := (.n (.n .e none qT65) none .e)
def qT67 : Tr AObj := (.n (.n qT64 none .e) qO4 (.n qT66 none .e))
def qT68 : Tr AObj := (qlf (some (.cells qL16 9 none)))
def qT69 : Tr AObj := (.n qT68 qO13 (qlf (some (.map [] 0))))
def qT70 : Tr AObj := (.n (qlf (some (.map [] 0))) (some (.cells qL18 9 none)) .e)
def qT71 : Tr AObj := (.n qT69 (some (.cells qL17 335 none)) qT70)
def qT72 : Tr AObj := (.n qT8 none (.n (qlf none) none .e))
def qT73 : Tr AObj := (.n qT72 (some (.cells qL16 9 none)) qT72)
def qT74 : Tr AObj := (.n qT8 qO14 (.n (qlf none) none .e))
def qT75 : Tr AObj := (.n qT73 qO13 (.n qT74 qO15 qT72))
def qT76 : Tr AObj := (.n qT72 (some (.map [] 0)) qT72)
def qT77 : Tr AObj := (.n qT76 (some (.cells qL18 9 none)) (.n qT72 none qT72))
def qT78 : Tr AObj := (.n qT75 (some (.cells qL19 335 none)) qT77)
def qT79 : Tr AObj := (qlf (some (.cells qL17 335 none)))
def qT80 : Tr AObj := (.n qT79 qO16 (qlf (some (.map [] 0))))
def qT81 : Tr AObj := (.n (qlf (some (.map [] 0))) none .e)
def qT82 : Tr AObj := (.n qT80 (some (.cells qL20 310 none)) qT81)
def qT83 : Tr AObj := (.n .e (some (.cells qL21 335 none)) qT49)
def qT84 : Tr AObj := (.n (.n (qlf qO13) none .e) none .e)
def qT85 : Tr AObj := (.n .e none (.n .e none qT68))
def qT86 : Tr AObj := (.n (.n qT84 none .e) qO15 qT85)
def qT87 : Tr AObj := (.n .e none (.n .e none (qlf qO17)))
def qT88 : Tr AObj := (qlf (some (.cells qL18 9 none)))
def qT89 : Tr AObj := (.n qT87 none (.n .e none qT88))
def qT90 : Tr AObj := (.n .e (some (.map [] 0)) qT89)
def qT91 : Tr AObj := (.n (.n (qlf qO18) none .e) none .e)
def qT92 : Tr AObj := (.n .e none (.n qT91 none .e))
def qT93 : Tr AObj := (.n (.n qT83 qO16 qT86) (some (.cells qL22 310 none)) (.n qT90 none qT92))
def qT94 : Tr AObj := (.n .e (some (.cells qL24 335 none)) (.n qT88 qO15 .e))
def qT95 : Tr AObj := (.n (qlf qO13) (some (.map [] 0)) .e)
def qT96 : Tr AObj := (.n qT95 qO19 (.n qT68 qO20 .e))
def qT97 : Tr AObj := (.n qT94 (some (.cells qL25 310 none)) qT96)
def qT98 : Tr AObj := (.n (.n .e none (qlf qO15)) (some (.cells qL27 335 none)) (.n qT88 qO15 .e))
def qT99 : Tr AObj := (.n qT98 (some (.cells qL28 310 none)) qT96)
def qT100 : Tr AObj := (.n (qlf none) (some (.cells qL30 263 none)) .e)
def qT101 : Tr AObj := (.n (.n (qlf qO21) none .e) qO4 .e)
def qT102 : Tr AObj := (.n (.n (qlf none) none .e) qO15 .e)
def qT103 : Tr AObj := (qlf (some (.cells qL31 221 none)))
def qT104 : Tr AObj := (.n (.n qT103 none .e) none .e)
def qT105 : Tr AObj := (.n qT102 (some (.cells qL30 263 none)) qT104)
def qT106 : Tr AObj := (.n .e none (.n (qlf qO22) none .e))
def qT107 : Tr AObj := (.n (.n qT106 none .e) none .e)
def qT108 : Tr AObj := (.n .e none (.n (qlf qO15) none .e))
def qT109 : Tr AObj := (.n (.n qT108 none .e) none .e)
def qT110 : Tr AObj := (.n (.n qT107 none .e) (some (.map [] 0)) (.n qT109 none .e))
def qT111 : Tr AObj := (.n qT105 (some (.cells qL32 310 none)) qT110)
def qT112 : Tr AObj := (.n .e none (.n qT56 none .e))
def qT113 : Tr AObj := (.n qT49 (some (.cells qL34 335 none)) (.n .e none qT112))
def qT114 : Tr AObj := (.n (qlf (some (.map [] 1))) none .e)
def qT115 : Tr AObj := (.n .e none (.n (qlf qO23) none .e))
def qT116 : Tr AObj := (.n (.n qT115 none .e) none .e)
def qT117 : Tr AObj := (.n (.n qT114 none .e) (some (.map [] 0)) (.n qT116 none .e))
def qT118 : Tr AObj := (.n qT113 (some (.cells qL7 221 none)) qT117)
def qT119 : Tr AObj := (.n qT111 (some (.cells qL33 83 none)) qT118)
def qT120 : Tr AObj := (.n (qlf (some (.map [] 0))) (some (.cells qL35 178 none)) .e)
def qT121 : Tr AObj := (.n (.n .e none (qlf qO10)) none .e)
def qT122 : Tr AObj := (.n .e none (.n .e none qT121))
def qT123 : Tr AObj := (.n .e none (.n .e none qT49))
def qT124 : Tr AObj := (.n qT122 (some (.map [] 0)) (.n .e none qT123))
def qT125 : Tr AObj := (.n .e none (.n .e none (qlf qO24)))
def qT126 : Tr AObj := (.n (.n .e none (qlf none)) none qT123)
def qT127 : Tr AObj := (.n qT124 (some (.cells qL36 178 none)) (.n qT125 none qT126))
def qT128 : Tr AObj := (.n (.n (qlf qO25) none .e) qO26 (.n (qlf qO15) none .e))
def qT129 : Tr AObj := (.n (qlf (some (.map [] 1))) (some (.cells qL30 263 none)) .e)
def qT130 : Tr AObj := (qlf (some (.cells qL39 151 none)))
def qT131 : Tr AObj := (.n qT129 (some (.cells qL38 310 none)) qT130)
def qT132 : Tr AObj := (.n qT128 (some (.cells qL37 83 none)) qT131)
def qT133 : Tr AObj := (qlf (some (.cells qL41 221 none)))
def qT134 : Tr AObj := (.n qT133 qO27 (qlf qO10))
def qT135 : Tr AObj := (qlf (some (.cells qL43 335 none)))
def qT136 : Tr AObj := (.n (.n (qlf qO15) qO28 .e) qO29 qT135)
def qT137 : Tr AObj := (.n qT134 (some (.cells qL42 178 none)) qT136)
def qT138 : Tr AObj := (.n qT132 (some (.cells qL40 35 none)) qT137)
def qT139 : Tr AObj := (.n qT133 qO27 (.n (qlf none) qO10 .e))
def qT140 : Tr AObj := (.n qT139 (some (.cells qL42 178 none)) qT136)
def qT141 : Tr AObj := (.n qT132 (some (.cells qL40 35 none)) qT140)
def qT142 : Tr AObj := (.n (.n .e none (qlf qO30)) none .e)
def qT143 : Tr AObj := (.n qT142 none (qlf qO31))
def qT144 : Tr AObj := (.n qT143 (some (.cells qL46 151 none)) (.n (qlf none) none .e))
def qT145 : Tr AObj := (.n (qlf (some (.map [] 1))) (some (.cells qL48 221 none)) .e)
def qT146 : Tr AObj := (.n (.n (qlf qO10) qO27 .e) (some (.cells qL47 35 none)) qT145)
def qT147 : Tr AObj := (.n (.n (qlf qO32) qO33 .e) (some (.cells qL49 178 none)) (.n (qlf qO15) qO34 .e))
def qT148 : Tr AObj := (.n qT146 (some (.cells qL8 40 none)) qT147)
def qT149 : Tr AObj := (qlf (some (.cells qL50 335 none)))
def qT150 : Tr AObj := (.n qT149 (some (.cells qL51 310 none)) .e)
def qT151 : Tr AObj := (.n (qlf qO15) (some (.cells qL30 263 none)) .e)
def qT152 : Tr AObj := (.n qT150 (some (.cells qL52 83 none)) qT151)
def qT153 : Tr AObj := (.n qT152 qO35 (qlf qO36))
def qT154 : Tr AObj := (.n qT148 (some (.cells qL39 151 none)) qT153)
def qT155 : Tr AObj := (.n (qlf qO15) (some (.cells qL30 263 none)) (qlf qO37))
def qT156 : Tr AObj := (.n qT150 (some (.cells qL52 83 none)) qT155)
def qT157 : Tr AObj := (.n .e none (.n (qlf qO38) none .e))
def qT158 : Tr AObj := (.n qT156 qO35 (.n .e qO36 qT157))
def qT159 : Tr AObj := (.n qT148 (some (.cells qL53 151 none)) qT158)
def qT160 : Tr AObj := (.n (qlf (some (.map [] 0))) qO40 (qlf qO3))
def qT161 : Tr AObj := (.n qT29 (some (.cells qL12 277 none)) qT160)
def qT162 : Tr AObj := (.n qT39 (some (.cells qL12 277 none)) (.n qT5 qO40 (qlf qO3)))
def qT163 : Tr AObj := (qlf (some (.cells qL54 40 none)))
def qT164 : Tr AObj := (.n qT163 (some (.cells qL9 167 none)) .e)
def qT165 : Tr AObj := (.n (qlf none) (some (.map [] 0)) (.n .e none (qlf none)))
def qT166 : Tr AObj := (.n qT165 qO6 (.n qT56 qO2 qT49))
def qT167 : Tr AObj := (.n (.n (qlf none) none .e) none (qlf none))
def qT168 : Tr AObj := (.n (.n .e none (qlf none)) (some (.map [] 0)) qT167)
def qT169 : Tr AObj := (.n qT168 qO40 (.n qT56 qO3 qT49))
def qT170 : Tr AObj := (.n qT166 (some (.cells qL12 277 none)) qT169)
def qT171 : Tr AObj := (.n (.n (qlf none) none .e) qO41 .e)
def qT172 : Tr AObj := (.n qT171 none (qlf none))
def qT173 : Tr AObj := (.n qT172 qO3 (.n qT49 none .e))
def qT174 : Tr AObj := (.n (.n (qlf none) none .e) (some (.cells qL56 277 none)) .e)
def qT175 : Tr AObj := (.n (.n qT174 none .e) none (.n qT49 none .e))
def qT176 : Tr AObj := (.n (.n (qlf none) none .e) (some (.map [] 0)) .e)
def qT177 : Tr AObj := (.n qT176 none (qlf none))
def qT178 : Tr AObj := (.n qT177 qO5 (.n qT49 none .e))
def qT179 : Tr AObj := (.n (.n qT49 none .e) none (.n (qlf none) qO40 .e))
def qT180 : Tr AObj := (.n (.n qT173 none qT175) qO39 (.n qT178 qO2 qT179))
def qT181 : Tr AObj := (.n (qlf qO41) qO6 (qlf qO2))
def qT182 : Tr AObj := (.n qT181 (some (.cells qL12 277 none)) qT160)
def qT183 : Tr AObj := (.n (.n (qlf none) qO41 .e) qO6 (.n (qlf none) qO2 .e))
def qT184 : Tr AObj := (.n qT183 (some (.cells qL12 277 none)) (.n qT5 qO40 (qlf qO3)))
def qT185 : Tr AObj := (.n (qlf none) qO41 (.n .e none (qlf none)))
def qT186 : Tr AObj := (.n qT185 qO6 (.n qT56 qO2 qT49))
def qT187 : Tr AObj := (.n qT186 (some (.cells qL12 277 none)) qT169)
def qT188 : Tr AObj := (.n (.n (qlf none) qO41 .e) qO6 (qlf qO2))
def qT189 : Tr AObj := (.n .e (some (.map [] 0)) (.n (qlf qO42) none .e))
def qT190 : Tr AObj := (.n qT188 (some (.cells qL12 277 none)) (.n qT189 qO40 (qlf qO3)))
def qT191 : Tr AObj := (.n (qlf none) qO41 (qlf none))
def qT192 : Tr AObj := (.n (.n qT191 qO6 (qlf qO2)) (some (.cells qL12 277 none)) qT160)
def qT193 : Tr AObj := (.n (.n (qlf qO43) none .e) none (qlf none))
def qT194 : Tr AObj := (.n (.n qT167 qO2 qT8) qO1 (.n qT193 qO3 qT8))
def qT195 : Tr AObj := (.n (.n qT49 qO40 .e) qO41 .e)
def qT196 : Tr AObj := (.n (qlf (some (.map [] 0))) qO2 (.n qT49 none (qlf none)))
def qT197 : Tr AObj := (.n (.n .e qO44 (qlf none)) (some (.map [] 0)) (.n qT58 none .e))
def qT198 : Tr AObj := (.n (.n (qlf qO45) none .e) none .e)
def qT199 : Tr AObj := (.n (.n qT198 none .e) (some (.cells qL59 280 none)) .e)
def qT200 : Tr AObj := (.n qT197 qO40 (.n qT199 qO3 .e))
def qT201 : Tr AObj := (.n (.n qT195 qO6 qT196) (some (.cells qL12 277 none)) qT200)
def qT202 : Tr AObj := (.n (.n .e none (qlf qO47)) none .e)
def qT203 : Tr AObj := (.n (qlf qO41) qO48 (qlf qO2))
def qT204 : Tr AObj := (.n qT203 (some (.cells qL60 277 none)) (.n (qlf qO49) qO50 .e))
def qT205 : Tr AObj := (.n (qlf (some (.map [] 0))) (some (.map [] 0)) (qlf qO3))
def qT206 : Tr AObj := (.n qT205 qO40 (qlf qO40))
def qT207 : Tr AObj := (.n qT204 (some (.cells qL12 280 none)) qT206)
def qT208 : Tr AObj := (.n (.n (qlf none) qO49 .e) qO50 (qlf none))
def qT209 : Tr AObj := (.n qT203 (some (.cells qL60 277 none)) qT208)
def qT210 : Tr AObj := (.n qT5 (some (.map [] 0)) (qlf qO3))
def qT211 : Tr AObj := (.n qT210 qO40 (qlf qO40))
def qT212 : Tr AObj := (.n qT209 (some (.cells qL12 280 none)) qT211)
def qT213 : Tr AObj := (.n (.n .e none (qlf qO51)) none .e)
def qT214 : Tr AObj := (.n (.n qT213 none .e) none .e)
def qT215 : Tr AObj := (.n (.n (qlf none) none qT49) none qT214)
def qT216 : Tr AObj := (.n (.n qT59 none .e) none qT49)
def qT217 : Tr AObj := (.n qT215 none (.n qT216 none .e))
def qT218 : Tr AObj := (.n (.n (qlf none) none qT49) none .e)
def qT219 : Tr AObj := (.n .e none (.n qT49 none .e))
def qT220 : Tr AObj := (.n qT217 qO39 (.n qT218 none qT219))
def qT221 : Tr AObj := (.n (qlf none) none (.n .e none (qlf none)))
def qT222 : Tr AObj := (.n (.n .e none (qlf none)) none (.n .e none (qlf qO52)))
def qT223 : Tr AObj := (.n (.n qT221 none qT59) qO39 (.n qT222 none qT49))
def qT224 : Tr AObj := (.n .e none (.n (qlf qO53) none .e))
def qT225 : Tr AObj := (.n .e none (.n qT224 none .e))
def qT226 : Tr AObj := (.n (.n qT59 none .e) none .e)
def qT227 : Tr AObj := (.n (.n qT225 none .e) none qT226)
def qT228 : Tr AObj := (.n (.n qT56 none .e) none .e)
def qT229 : Tr AObj := (.n (.n qT228 none .e) none .e)
def qT230 : Tr AObj := (.n (.n qT228 none .e) none (.n qT228 none .e))
def qT231 : Tr AObj := (.n (.n qT228 none .e) none (.n .e none qT123))
def qT232 : Tr AObj := (.n (.n qT227 none qT229) qO39 (.n qT230 none qT231))
def qT233 : Tr AObj := (.n (.n (qlf qO3) qO5 .e) (some (.cells qL61 273 none)) (qlf qO2))
def qT234 : Tr AObj := (.n (qlf qO3) qO5 (.n (qlf none) none .e))
def qT235 : Tr AObj := (.n (.n (qlf none) none .e) qO2 (.n (qlf qO54) none .e))
def qT236 : Tr AObj := (.n qT234 (some (.cells qL62 273 none)) qT235)
def qT237 : Tr AObj := (.n (.n .e none (qlf qO56)) none .e)
def qT238 : Tr AObj := (.n (.n .e none qT237) none .e)
def qT239 : Tr AObj := (.n (.n qT64 none .e) qO55 (.n qT238 none .e))
def qT240 : Tr AObj := (qlf (some (.cells qL67 9 none)))
def qT241 : Tr AObj := (.n qT240 qO57 (qlf qO15))
def qT242 : Tr AObj := (.n (qlf qO15) (some (.cells qL18 9 none)) .e)
def qT243 : Tr AObj := (.n qT241 (some (.cells qL17 335 none)) qT242)
def qT244 : Tr AObj := (.n qT53 (some (.cells qL67 9 none)) qT53)
def qT245 : Tr AObj := (.n (.n (qlf none) none .e) qO58 (.n (qlf none) none .e))
def qT246 : Tr AObj := (.n qT244 qO57 (.n qT245 qO59 qT53))
def qT247 : Tr AObj := (.n (.n qT53 qO15 qT53) (some (.cells qL18 9 none)) (.n qT53 none qT53))
def qT248 : Tr AObj := (.n qT246 (some (.cells qL19 335 none)) qT247)
def qT249 : Tr AObj := (.n (qlf qO15) (some (.cells qL6 335 none)) .e)
def qT250 : Tr AObj := (.n (qlf qO61) none (qlf qO15))
def qT251 : Tr AObj := (.n (.n qT249 qO60 .e) (some (.cells qL69 310 none)) qT250)
def qT252 : Tr AObj := (.n .e none (.n (qlf qO62) none .e))
def qT253 : Tr AObj := (.n (qlf qO59) (some (.cells qL70 335 none)) qT252)
def qT254 : Tr AObj := (.n qT240 none (.n (qlf qO63) none .e))
def qT255 : Tr AObj := (.n (.n qT254 none .e) none .e)
def qT256 : Tr AObj := (.n (.n qT88 none .e) none .e)
def qT257 : Tr AObj := (.n (.n (qlf qO57) none .e) none .e)
def qT258 : Tr AObj := (.n (.n qT256 none .e) none (.n .e qO15 qT257))
def qT259 : Tr AObj := (.n (.n qT253 qO60 qT255) (some (.cells qL73 310 none)) qT258)
def qT260 : Tr AObj := (.n .e (some (.cells qL24 335 none)) (.n qT88 qO59 .e))
def qT261 : Tr AObj := (.n (.n (qlf qO57) qO15 .e) qO64 (.n qT240 qO65 .e))
def qT262 : Tr AObj := (.n qT260 (some (.cells qL74 310 none)) qT261)
def qT263 : Tr AObj := (.n (.n .e none (qlf qO59)) (some (.cells qL27 335 none)) (.n qT88 qO59 .e))
def qT264 : Tr AObj := (.n qT263 (some (.cells qL76 310 none)) qT261)
def qT265 : Tr AObj := (qlf (some (.cells qL30 263 none)))
def qT266 : Tr AObj := (.n (qlf none) (some (.cells qL78 263 none)) .e)
def qT267 : Tr AObj := (.n (qlf qO66) none (qlf qO15))
def qT268 : Tr AObj := (.n qT267 (some (.cells qL79 310 none)) qT129)
def qT269 : Tr AObj := (qlf (some (.cells qL81 221 none)))
def qT270 : Tr AObj := (.n (qlf qO15) (some (.cells qL82 335 none)) .e)
def qT271 : Tr AObj := (.n qT268 (some (.cells qL80 83 none)) (.n qT269 qO67 qT270))
def qT272 : Tr AObj := (.n (.n qT228 none .e) none (qlf qO59))
def qT273 : Tr AObj := (.n (.n (qlf qO68) none .e) none .e)
def qT274 : Tr AObj := (.n .e (some (.cells qL84 221 none)) qT273)
def qT275 : Tr AObj := (.n .e (some (.map [] 1)) (.n qT274 none .e))
def qT276 : Tr AObj := (.n qT275 (some (.cells qL78 263 none)) qT49)
def qT277 : Tr AObj := (.n qT272 (some (.cells qL83 310 none)) qT276)
def qT278 : Tr AObj := (.n (.n (qlf qO59) none .e) none .e)
def qT279 : Tr AObj := (.n .e (some (.map [] 2)) qT278)
def qT280 : Tr AObj := (.n .e none (.n qT279 none .e))
def qT281 : Tr AObj := (.n (.n (qlf qO69) none .e) none .e)
def qT282 : Tr AObj := (.n (.n .e none qT281) none .e)
def qT283 : Tr AObj := (.n qT280 (some (.cells qL81 221 none)) (.n qT282 none .e))
def qT284 : Tr AObj := (.n (qlf qO15) (some (.cells qL86 335 none)) qT49)
def qT285 : Tr AObj := (.n qT277 (some (.cells qL85 83 none)) (.n qT283 none qT284))
def qT286 : Tr AObj := (.n (qlf qO70) none (qlf qO59))
def qT287 : Tr AObj := (.n (qlf (some (.map [] 2))) (some (.cells qL78 263 none)) .e)
def qT288 : Tr AObj := (.n qT286 (some (.cells qL87 310 none)) qT287)
def qT289 : Tr AObj := (qlf (some (.cells qL89 221 none)))
def qT290 : Tr AObj := (.n (qlf qO59) (some (.cells qL82 335 none)) .e)
def qT291 : Tr AObj := (.n qT288 (some (.cells qL88 83 none)) (.n qT289 qO71 qT290))
def qT292 : Tr AObj := (.n (qlf (some (.map [] 2))) (some (.cells qL78 263 none)) (qlf qO72))
def qT293 : Tr AObj := (.n qT286 (some (.cells qL87 310 none)) qT292)
def qT294 : Tr AObj := (.n qT293 (some (.cells qL88 83 none)) (.n qT289 qO71 qT290))
def qent0 : Ent := ⟨106, [.ptr 0 0], ⟨qT0, 3, [], ⟨pgl, []⟩⟩, [⟨.ret, .ptr 5 0, .e, [], ⟨qT4, 6, [], ⟨pgl, []⟩⟩⟩]⟩
theorem qent0_ok : okEntI Tryz.prog [(271, 1, 0), (445, 2, 0), (551, 5, 0)] qtab0 lptab 20000 qent0 = true := by kernel_rfl
def qtab1 : List Ent := qent0 :: qtab0
def qent1 : Ent := ⟨302, [.ptr 0 0], ⟨qT0, 3, [], ⟨pgl, []⟩⟩, [⟨.ret, .nslice, .e, [], ⟨qT6, 8, [], ⟨pgl, []⟩⟩⟩]⟩
theorem qent1_ok : okEntI Tryz.prog [(271, 1, 0), (445, 2, 0), (551, 5, 0)] qtab1 lptab 20000 qent1 = true := by kernel_rfl
def qtab2 : List Ent := qent1 :: qtab1
def qent2 : Ent := ⟨387, [.agg qL2, .agg qL2, .ptr 0 0], ⟨(qlf qO0), 1, [], ⟨pgl, []⟩⟩, [⟨.ret, .agg qL2, .e, [], ⟨qT7, 4, [], ⟨pgl, []⟩⟩⟩]⟩
theorem qent2_ok : okEntI Tryz.prog [(271, 1, 0), (445, 2, 0), (551, 5, 0)] qtab2 lptab 20000 qent2 = true := by kernel_rfl
def qtab3 : List Ent := qent2 :: qtab2
def qent3 : Ent := ⟨134, [.agg qL2, .agg qL2], ⟨.e, 0, [], ⟨pgl, []⟩⟩, [⟨.ret, .bool true, .e, [], ⟨qT8, 14, [], ⟨pgl, []⟩⟩⟩]⟩
theorem qent3_ok : okEntI Tryz.prog [(271, 1, 0), (445, 2, 0), (551, 5, 0)] qtab3 lptab 20000 qent3 = true := by kernel_rfl
def qtab4 : List Ent := qent3 :: qtab3
def qent4 : Ent := ⟨116, [.ptr 0 0, .agg qL2], ⟨qT9, 1, [], ⟨pgl, []⟩⟩, [⟨.ret, .int .i64 0, .e, [], ⟨qT10, 19, [0], ⟨pgl, []⟩⟩⟩]⟩
theorem qent4_ok : okEntI Tryz.prog [(271, 1, 0), (445, 2, 0), (551, 5, 0)] qtab4 lptab 20000 qent4 = true := by kernel_rfl
def qtab5 : List Ent := qent4 :: qtab4
def qent5 : Ent := ⟨19, [.ptr 0 0], ⟨qT15, 8, [], ⟨pgl, []⟩⟩, [⟨.ret, .nslice, .e, [], ⟨qT15, 8, [], ⟨pgl, []⟩⟩⟩]⟩
theorem qent5_ok : okEntI Tryz.prog [(271, 1, 0), (445, 2, 0), (551, 5, 0)] qtab5 lptab 20000 qent5 = true := by kernel_rfl
def qtab6 : List Ent := qent5 :: qtab5
def qent6 : Ent := ⟨52, [.agg qL8, .int .i64 1], ⟨.e, 0, [], ⟨pgl, []⟩⟩, [⟨.ret, .int .i64 0, .e, [], ⟨(qlf none), 21, [], ⟨pgl, []⟩⟩⟩]⟩
theorem qent6_ok : okEntI Tryz.prog [(271, 1, 0), (445, 2, 0), (551, 5, 0)] qtab6 lptab 20000 qent6 = true := by kernel_rfl
def qtab7 : List Ent := qent6 :: qtab6
def qent7 : Ent := ⟨285, [.ptr 0 0, .agg qL8], ⟨qT16, 3, [], ⟨pgl, []⟩⟩, [⟨.ret, .bool true, .e, [], ⟨qT17, 5, [2, 1], ⟨pgl, []⟩⟩⟩]⟩
theorem qent7_ok : okEntI Tryz.prog [(271, 1, 0), (445, 2, 0), (551, 5, 0)] qtab7 lptab 20000 qent7 = true := by kernel_rfl
def qtab8 : List Ent := qent7 :: qtab7
def qent8 : Ent := ⟨167, [.slice 0 0 1 (.u 1 0)], ⟨(qlf qO4), 2, [], ⟨pgl, []⟩⟩, [⟨.ret, .ptr 4 0, .e, [], ⟨(.n qT18 qO4 qT19), 13, [], ⟨pgl, []⟩⟩⟩]⟩
theorem qent8_ok : okEntI Tryz.prog [(271, 1, 0), (445, 2, 0), (551, 5, 0)] qtab8 lptab 20000 qent8 = true := by kernel_rfl
def qtab9 : List Ent := qent8 :: qtab8
def qent9 : Ent := ⟨72, [.slice 0 0 1 (.u 1 0)], ⟨(qlf qO4), 2, [], ⟨pgl, []⟩⟩, [⟨.ret, .ptr 16 0, .e, [], ⟨qT26, 25, [], ⟨pgl, []⟩⟩⟩]⟩
theorem qent9_ok : okEntI Tryz.prog [(271, 1, 0), (445, 2, 0), (551, 5, 0)] qtab9 lptab 20000 qent9 = true := by kernel_rfl
def qtab10 : List Ent := qent9 :: qtab9
def qent10 : Ent := ⟨237, [.ptr 0 0, .ptr 1 0], ⟨qT28, 2, [], ⟨pgl, []⟩⟩, [⟨.ret, .bool false, .e, [], ⟨qT28, 4, [], ⟨pgl, []⟩⟩⟩]⟩
theorem qent10_ok : okEntI Tryz.prog [(271, 1, 0), (445, 2, 0), (551, 5, 0)] qtab10 lptab 20000 qent10 = true := by kernel_rfl
def qtab11 : List Ent := qent10 :: qtab10
def qent11 : Ent := ⟨121, [.ptr 0 0, .agg qL8], ⟨qT31, 7, [], ⟨pgl, []⟩⟩, [⟨.ret, .int .i64 0, .e, [], ⟨qT36, 32, [], ⟨pgl, []⟩⟩⟩]⟩
theorem qent11_ok : okEntI Tryz.prog [(271, 1, 0), (445, 2, 0), (551, 5, 0)] qtab11 lptab 20000 qent11 = true := by kernel_rfl
def qtab12 : List Ent := qent11 :: qtab11
def qent12 : Ent := ⟨297, [.slice 0 0 1 (.u 1 0), .func (.func 179) [] []], ⟨(qlf qO7), 2, [], ⟨pgl, []⟩⟩, [⟨.ret, .tup [], .e, [], ⟨(qlf qO7), 2, [], ⟨pgl, []⟩⟩⟩]⟩
theorem qent12_ok : okEntI Tryz.prog [(271, 1, 0), (445, 2, 0), (551, 5, 0)] qtab12 lptab 20000 qent12 = true := by kernel_rfl
def qtab13 : List Ent := qent12 :: qtab12
def qent13 : Ent := ⟨90, [.ptr 0 0], ⟨qT31, 7, [], ⟨pgl, []⟩⟩, [⟨.ret, .slice 15 0 1 (.u 16 0), .e, [], ⟨qT38, 17, [], ⟨pgl, []⟩⟩⟩]⟩
theorem qent13_ok : okEntI Tryz.prog [(271, 1, 0), (445, 2, 0), (551, 5, 0)] qtab13 lptab 20000 qent13 = true := by kernel_rfl
def qtab14 : List Ent := qent13 :: qtab13
def qent14 : Ent := ⟨92, [.ptr 0 0, .agg [.int .u8 0, .int .u32 1]], ⟨qT31, 7, [], ⟨pgl, []⟩⟩, [⟨.ret, .tup [.agg qL8, .bool true], .e, [], ⟨qT40, 10, [], ⟨pgl, []⟩⟩⟩]⟩
theorem qent14_ok : okEntI Tryz.prog [(271, 1, 0), (445, 2, 0), (551, 5, 0)] qtab14 lptab 20000 qent14 = true := by kernel_rfl
def qtab15 : List Ent := qent14 :: qtab14
def qent15 : Ent := ⟨76, [.ptr 0 0, .agg [.int .u8 0, .int .u32 0]], ⟨qT41, 3, [], ⟨pgl, []⟩⟩, [⟨.ret, .tup [.nslice, .int .i64 7], .e, [], ⟨(.n qT42 qO1 (qlf qO3)), 8, [], ⟨pgl, []⟩⟩⟩]⟩
theorem qent15_ok : okEntI Tryz.prog [(271, 1, 0), (445, 2, 0), (551, 5, 0)] qtab15 lptab 20000 qent15 = true := by kernel_rfl
def qtab16 : List Ent := qent15 :: qtab15
def qent16 : Ent := ⟨103, [.slice 0 0 1 (.u 1 0)], ⟨(qlf qO7), 2, [], ⟨pgl, []⟩⟩, [⟨.ret, .slice 12 0 1 (.u 13 0), .e, [], ⟨(.n .e qO7 qT43), 14, [], ⟨pgl, []⟩⟩⟩]⟩
theorem qent16_ok : okEntI Tryz.prog [(271, 1, 0), (445, 2, 0), (551, 5, 0)] qtab16 lptab 20000 qent16 = true := by kernel_rfl
def qtab17 : List Ent := qent16 :: qtab16
def qent17 : Ent := ⟨103, [.nslice], ⟨.e, 0, [], ⟨pgl, []⟩⟩, [⟨.ret, .nslice, .e, [], ⟨(qlf none), 6, [], ⟨pgl, []⟩⟩⟩]⟩
theorem qent17_ok : okEntI Tryz.prog [(271, 1, 0), (445, 2, 0), (551, 5, 0)] qtab17 lptab 20000 qent17 = true := by kernel_rfl
def qtab18 : List Ent := qent17 :: qtab17
def qent18 : Ent := ⟨101, [.slice 0 0 1 (.u 1 0)], ⟨(qlf qO4), 2, [], ⟨pgl, []⟩⟩, [⟨.ret, .map 79, .e, [], ⟨qT48, 129, [], ⟨pgl, []⟩⟩⟩]⟩
theorem qent18_ok : okEntI Tryz.prog [(271, 1, 0), (445, 2, 0), (551, 5, 0)] qtab18 lptab 20000 qent18 = true := by kernel_rfl
def qtab19 : List Ent := qent18 :: qtab18
def qent19 : Ent := ⟨102, [.slice 0 0 1 (.u 1 0)], ⟨(qlf qO4), 2, [], ⟨pgl, []⟩⟩, [⟨.ret, .slice 16 0 1 (.u 17 0), .e, [], ⟨qT52, 18, [], ⟨pgl, []⟩⟩⟩]⟩
theorem qent19_ok : okEntI Tryz.prog [(271, 1, 0), (445, 2, 0), (551, 5, 0)] qtab19 lptab 20000 qent19 = true := by kernel_rfl
def qtab20 : List Ent := qent19 :: qtab19
def qent20 : Ent := ⟨353, [.nslice, .func (.func 95) [] []], ⟨.e, 0, [], ⟨pgl, []⟩⟩, [⟨.ret, .tup [], .e, [], ⟨.e, 0, [], ⟨pgl, []⟩⟩⟩]⟩
theorem qent20_ok : okEntI Tryz.prog [(271, 1, 0), (445, 2, 0), (551, 5, 0)] qtab20 lptab 20000 qent20 = true := by kernel_rfl
def qtab21 : List Ent := qent20 :: qtab20
def qent21 : Ent := ⟨148, [.agg qL8], ⟨.e, 0, [], ⟨pgl, []⟩⟩, [⟨.ret, .tup qL13, .e, [], ⟨qT63, 100, [], ⟨pgl, []⟩⟩⟩]⟩
theorem qent21_ok : okEntI Tryz.prog [(271, 1, 0), (445, 2, 0), (551, 5, 0)] qtab21 lptab 20000 qent21 = true := by kernel_rfl
def qtab22 : List Ent := qent21 :: qtab21
def qent22 : Ent := ⟨131, [.slice 0 0 1 (.u 1 0)], ⟨(qlf qO4), 2, [], ⟨pgl, []⟩⟩, [⟨.ret, .slice 104 0 1 (.u 105 0), .e, [], ⟨qT67, 106, [], ⟨pgl, []⟩⟩⟩]⟩
theorem qent22_ok : okEntI Tryz.prog [(271, 1, 0), (445, 2, 0), (551, 5, 0)] qtab22 lptab 20000 qent22 = true := by kernel_rfl
def qtab23 : List Ent := qent22 :: qtab22
def qent23 : Ent := ⟨306, [.ptr 0 0, .agg qL15], ⟨qT71, 6, [], ⟨pgl, []⟩⟩, [⟨.ret, .int .i64 0, .e, [], ⟨qT78, 55, [0, 5], ⟨pgl, []⟩⟩⟩]⟩
theorem qent23_ok : okEntI Tryz.prog [(271, 1, 0), (445, 2, 0), (551, 5, 0)] qtab23 lptab 20000 qent23 = true := by kernel_rfl
def qtab24 : List Ent := qent23 :: qtab23
def qent24 : Ent := ⟨130, [.ptr 0 0, .slice 1 0 1 (.u 2 0)], ⟨qT82, 6, [], ⟨pgl, []⟩⟩, [⟨.ret, .int .i64 0, .e, [], ⟨qT93, 120, [0, 3, 5], ⟨pgl, []⟩⟩⟩]⟩
theorem qent24_ok : okEntI Tryz.prog [(271, 1, 0), (445, 2, 0), (551, 5, 0)] qtab24 lptab 20000 qent24 = true := by kernel_rfl
def qtab25 : List Ent := qent24 :: qtab24
def qent25 : Ent := ⟨132, [.ptr 0 0], ⟨qT97, 11, [], ⟨pgl, []⟩⟩, [⟨.ret, .int .i64 0, .e, [], ⟨qT99, 12, [0, 1], ⟨pgl, []⟩⟩⟩]⟩
theorem qent25_ok : okEntI Tryz.prog [(271, 1, 0), (445, 2, 0), (551, 5, 0)] qtab25 lptab 20000 qent25 = true := by kernel_rfl
def qtab26 : List Ent := qent25 :: qtab25
def qent26 : Ent := ⟨387, [.agg qL2, .agg qL29, .ptr 0 0], ⟨(qlf qO0), 1, [], ⟨pgl, []⟩⟩, [⟨.ret, .agg qL29, .e, [], ⟨qT7, 4, [], ⟨pgl, []⟩⟩⟩]⟩
theorem qent26_ok : okEntI Tryz.prog [(271, 1, 0), (445, 2, 0), (551, 5, 0)] qtab26 lptab 20000 qent26 = true := by kernel_rfl
def qtab27 : List Ent := qent26 :: qtab26
def qent27 : Ent := ⟨116, [.ptr 0 0, .agg qL29], ⟨qT9, 1, [], ⟨pgl, []⟩⟩, [⟨.ret, .int .i64 0, .e, [], ⟨qT100, 19, [0], ⟨pgl, []⟩⟩⟩]⟩
theorem qent27_ok : okEntI Tryz.prog [(271, 1, 0), (445, 2, 0), (551, 5, 0)] qtab27 lptab 20000 qent27 = true := by kernel_rfl
def qtab28 : List Ent := qent27 :: qtab27
def qent28 : Ent := ⟨45, [.slice 0 0 1 (.u 1 0)], ⟨(qlf qO4), 2, [], ⟨pgl, []⟩⟩, [⟨.ret, .slice 3 0 1 (.u 4 0), .e, [], ⟨qT101, 5, [], ⟨pgl, []⟩⟩⟩]⟩
theorem qent28_ok : okEntI Tryz.prog [(271, 1, 0), (445, 2, 0), (551, 5, 0)] qtab28 lptab 20000 qent28 = true := by kernel_rfl
def qtab29 : List Ent := qent28 :: qtab28
def qent29 : Ent := ⟨21, [.ptr 0 0, .agg qL8], ⟨qT15, 8, [], ⟨pgl, []⟩⟩, [⟨.ret, .int .i64 0, .e, [], ⟨qT119, 350, [3, 0, 1, 4, 7], ⟨pgl, []⟩⟩⟩]⟩
theorem qent29_ok : okEntI Tryz.prog [(271, 1, 0), (445, 2, 0), (551, 5, 0)] qtab29 lptab 20000 qent29 = true := by kernel_rfl
def qtab30 : List Ent := qent29 :: qtab29
def qent30 : Ent := ⟨55, [.ptr 0 0, .agg qL8], ⟨qT120, 2, [], ⟨pgl, []⟩⟩, [⟨.ret, .tup [.nslice, .int .i64 0], .e, [], ⟨qT127, 166, [0], ⟨pgl, []⟩⟩⟩]⟩
theorem qent30_ok : okEntI Tryz.prog [(271, 1, 0), (445, 2, 0), (551, 5, 0)] qtab30 lptab 20000 qent30 = true := by kernel_rfl
def qtab31 : List Ent := qent30 :: qtab30
def qent31 : Ent := ⟨59, [.ptr 0 0, .agg [.int .u8 0, .int .u32 1]], ⟨qT138, 20, [], ⟨pgl, []⟩⟩, [⟨.ret, .bool true, .e, [], ⟨qT141, 22, [], ⟨pgl, []⟩⟩⟩]⟩
theorem qent31_ok : okEntI Tryz.prog [(271, 1, 0), (445, 2, 0), (551, 5, 0)] qtab31 lptab 20000 qent31 = true := by kernel_rfl
def qtab32 : List Ent := qent31 :: qtab31
def qent32 : Ent := ⟨166, [.agg qL44], ⟨.e, 0, [], ⟨pgl, []⟩⟩, [⟨.ret, .agg qL44, .e, [], ⟨qT8, 3, [], ⟨pgl, []⟩⟩⟩]⟩
theorem qent32_ok : okEntI Tryz.prog [(271, 1, 0), (445, 2, 0), (551, 5, 0)] qtab32 lptab 20000 qent32 = true := by kernel_rfl
def qtab33 : List Ent := qent32 :: qtab32
def qent33 : Ent := ⟨70, [.nptr, .agg qL44, .agg qL8], ⟨.e, 0, [], ⟨pgl, []⟩⟩, [⟨.ret, .tup [.agg qL44, .int .u8 1], .e, [], ⟨(.n (qlf none) none qT49), 10, [], ⟨pgl, []⟩⟩⟩]⟩
theorem qent33_ok : okEntI Tryz.prog [(271, 1, 0), (445, 2, 0), (551, 5, 0)] qtab33 lptab 20000 qent33 = true := by kernel_rfl
def qtab34 : List Ent := qent33 :: qtab33
def qent34 : Ent := ⟨58, [.ptr 0 0, .agg qL8, .bool true], ⟨qT130, 1, [], ⟨pgl, []⟩⟩, [⟨.ret, .int .i64 0, .e, [], ⟨qT144, 25, [0], ⟨pgl, []⟩⟩⟩]⟩
theorem qent34_ok : okEntI Tryz.prog [(271, 1, 0), (445, 2, 0), (551, 5, 0)] qtab34 lptab 20000 qent34 = true := by kernel_rfl
def qtab35 : List Ent := qent34 :: qtab34
def qent35 : Ent := ⟨57, [.ptr 0 0, .ptr 1 0, .ptr 2 0], ⟨qT154, 22, [], ⟨pgl, []⟩⟩, [⟨.ret, .tup [], .e, [], ⟨qT159, 48, [0], ⟨pgl, []⟩⟩⟩]⟩
theorem qent35_ok : okEntI Tryz.prog [(271, 1, 0), (445, 2, 0), (551, 5, 0)] qtab35 lptab 20000 qent35 = true := by kernel_rfl
def qtab36 : List Ent := qent35 :: qtab35
def qent36 : Ent := ⟨52, [.agg qL54, .int .i64 1], ⟨.e, 0, [], ⟨pgl, []⟩⟩, [⟨.ret, .int .i64 0, .e, [], ⟨(qlf none), 23, [], ⟨pgl, []⟩⟩⟩]⟩
theorem qent36_ok : okEntI Tryz.prog [(271, 1, 0), (445, 2, 0), (551, 5, 0)] qtab36 lptab 20000 qent36 = true := by kernel_rfl
def qtab37 : List Ent := qent36 :: qtab36
def qent37 : Ent := ⟨167, [.slice 0 0 2 (.u 1 0)], ⟨(qlf qO39), 2, [], ⟨pgl, []⟩⟩, [⟨.ret, .ptr 4 0, .e, [], ⟨(.n qT18 qO39 qT19), 14, [], ⟨pgl, []⟩⟩⟩]⟩
theorem qent37_ok : okEntI Tryz.prog [(271, 1, 0), (445, 2, 0), (551, 5, 0)] qtab37 lptab 20000 qent37 = true := by kernel_rfl
def qtab38 : List Ent := qent37 :: qtab37
def qent38 : Ent := ⟨327, [.ptr 0 0, .agg [.int .u8 0, .int .u32 1], .agg qL54], ⟨qT161, 7, [], ⟨pgl, []⟩⟩, [⟨.ret, .bool true, .e, [], ⟨qT162, 15, [], ⟨pgl, []⟩⟩⟩]⟩
theorem qent38_ok : okEntI Tryz.prog [(271, 1, 0), (445, 2, 0), (551, 5, 0)] qtab38 lptab 20000 qent38 = true := by kernel_rfl
def qtab39 : List Ent := qent38 :: qtab38
def qent39 : Ent := ⟨237, [.ptr 0 0, .ptr 1 0], ⟨qT164, 2, [], ⟨pgl, []⟩⟩, [⟨.ret, .bool false, .e, [], ⟨qT164, 4, [], ⟨pgl, []⟩⟩⟩]⟩
theorem qent39_ok : okEntI Tryz.prog [(271, 1, 0), (445, 2, 0), (551, 5, 0)] qtab39 lptab 20000 qent39 = true := by kernel_rfl
def qtab40 : List Ent := qent39 :: qtab39
def qent40 : Ent := ⟨121, [.ptr 0 0, .agg qL54], ⟨qT161, 7, [], ⟨pgl, []⟩⟩, [⟨.ret, .int .i64 0, .e, [], ⟨qT170, 45, [], ⟨pgl, []⟩⟩⟩]⟩
theorem qent40_ok : okEntI Tryz.prog [(271, 1, 0), (445, 2, 0), (551, 5, 0)] qtab40 lptab 20000 qent40 = true := by kernel_rfl
def qtab41 : List Ent := qent40 :: qtab40
def qent41 : Ent := ⟨72, [.slice 0 0 2 (.u 1 0)], ⟨(qlf qO39), 2, [], ⟨pgl, []⟩⟩, [⟨.ret, .ptr 17 0, .e, [], ⟨qT180, 70, [], ⟨pgl, []⟩⟩⟩]⟩
theorem qent41_ok : okEntI Tryz.prog [(271, 1, 0), (445, 2, 0), (551, 5, 0)] qtab41 lptab 20000 qent41 = true := by kernel_rfl
def qtab42 : List Ent := qent41 :: qtab41
def qent42 : Ent := ⟨327, [.ptr 0 0, .agg [.int .u8 0, .int .u32 1], .agg qL54], ⟨qT182, 7, [], ⟨pgl, []⟩⟩, [⟨.ret, .bool true, .e, [], ⟨qT184, 15, [], ⟨pgl, []⟩⟩⟩]⟩
theorem qent42_ok : okEntI Tryz.prog [(271, 1, 0), (445, 2, 0), (551, 5, 0)] qtab42 lptab 20000 qent42 = true := by kernel_rfl
def qtab43 : List Ent := qent42 :: qtab42
def qent43 : Ent := ⟨121, [.ptr 0 0, .agg qL54], ⟨qT182, 7, [], ⟨pgl, []⟩⟩, [⟨.ret, .int .i64 0, .e, [], ⟨qT187, 45, [], ⟨pgl, []⟩⟩⟩]⟩
theorem qent43_ok : okEntI Tryz.prog [(271, 1, 0), (445, 2, 0), (551, 5, 0)] qtab43 lptab 20000 qent43 = true := by kernel_rfl
def qtab44 : List Ent := qent43 :: qtab43
def qent44 : Ent := ⟨189, [.int .u8 0, .int .u8 0], ⟨.e, 0, [], ⟨pgl, []⟩⟩, [⟨.ret, .int .i64 0, .e, [], ⟨.e, 0, [], ⟨pgl, []⟩⟩⟩]⟩
theorem qent44_ok : okEntI Tryz.prog [(271, 1, 0), (445, 2, 0), (551, 5, 0)] qtab44 lptab 20000 qent44 = true := by kernel_rfl
def qtab45 : List Ent := qent44 :: qtab44
def qent45 : Ent := ⟨179, [.agg [.int .u8 0, .int .u32 1], .agg [.int .u8 0, .int .u32 2]], ⟨.e, 0, [], ⟨pgl, []⟩⟩, [⟨.ret, .int .i64 (-1), .e, [], ⟨qT8, 3, [], ⟨pgl, []⟩⟩⟩]⟩
theorem qent45_ok : okEntI Tryz.prog [(271, 1, 0), (445, 2, 0), (551, 5, 0)] qtab45 lptab 20000 qent45 = true := by kernel_rfl
def qtab46 : List Ent := qent45 :: qtab45
def qent46 : Ent := ⟨190, [.int .u32 2, .int .u32 1], ⟨.e, 0, [], ⟨pgl, []⟩⟩, [⟨.ret, .int .i64 1, .e, [], ⟨.e, 0, [], ⟨pgl, []⟩⟩⟩]⟩
theorem qent46_ok : okEntI Tryz.prog [(271, 1, 0), (445, 2, 0), (551, 5, 0)] qtab46 lptab 20000 qent46 = true := by kernel_rfl
def qtab47 : List Ent := qent46 :: qtab46
def qent47 : Ent := ⟨179, [.agg [.int .u8 0, .int .u32 2], .agg [.int .u8 0, .int .u32 1]], ⟨.e, 0, [], ⟨pgl, []⟩⟩, [⟨.ret, .int .i64 1, .e, [], ⟨qT8, 3, [], ⟨pgl, []⟩⟩⟩]⟩
theorem qent47_ok : okEntI Tryz.prog [(271, 1, 0), (445, 2, 0), (551, 5, 0)] qtab47 lptab 20000 qent47 = true := by kernel_rfl
def qtab48 : List Ent := qent47 :: qtab47
def qent48 : Ent := ⟨90, [.ptr 0 0], ⟨qT182, 7, [], ⟨pgl, []⟩⟩, [⟨.ret, .slice 20 0 2 (.u 21 0), .e, [], ⟨qT190, 25, [], ⟨pgl, []⟩⟩⟩]⟩
theorem qent48_ok : okEntI Tryz.prog [(271, 1, 0), (445, 2, 0), (551, 5, 0)] qtab48 lptab 20000 qent48 = true := by kernel_rfl
def qtab49 : List Ent := qent48 :: qtab48
def qent49 : Ent := ⟨92, [.ptr 0 0, .agg [.int .u8 0, .int .u32 1]], ⟨qT182, 7, [], ⟨pgl, []⟩⟩, [⟨.ret, .tup [.agg qL8, .bool true], .e, [], ⟨qT184, 10, [], ⟨pgl, []⟩⟩⟩]⟩
theorem qent49_ok : okEntI Tryz.prog [(271, 1, 0), (445, 2, 0), (551, 5, 0)] qtab49 lptab 20000 qent49 = true := by kernel_rfl
def qtab50 : List Ent := qent49 :: qtab49
def qent50 : Ent := ⟨94, [.ptr 0 0, .agg [.int .u8 0, .int .u32 1]], ⟨qT182, 7, [], ⟨pgl, []⟩⟩, [⟨.ret, .bool true, .e, [], ⟨qT192, 37, [], ⟨pgl, []⟩⟩⟩]⟩
theorem qent50_ok : okEntI Tryz.prog [(271, 1, 0), (445, 2, 0), (551, 5, 0)] qtab50 lptab 20000 qent50 = true := by kernel_rfl
def qtab51 : List Ent := qent50 :: qtab50
def qent51 : Ent := ⟨92, [.ptr 0 0, .agg [.int .u8 0, .int .u32 2]], ⟨qT182, 7, [], ⟨pgl, []⟩⟩, [⟨.ret, .tup [.agg qL54, .bool true], .e, [], ⟨qT184, 10, [], ⟨pgl, []⟩⟩⟩]⟩
theorem qent51_ok : okEntI Tryz.prog [(271, 1, 0), (445, 2, 0), (551, 5, 0)] qtab51 lptab 20000 qent51 = true := by kernel_rfl
def qtab52 : List Ent := qent51 :: qtab51
def qent52 : Ent := ⟨76, [.ptr 0 0, .agg [.int .u8 0, .int .u32 1]], ⟨qT41, 3, [], ⟨pgl, []⟩⟩, [⟨.ret, .tup qL58, .e, [], ⟨qT194, 18, [], ⟨pgl, []⟩⟩⟩]⟩
theorem qent52_ok : okEntI Tryz.prog [(271, 1, 0), (445, 2, 0), (551, 5, 0)] qtab52 lptab 20000 qent52 = true := by kernel_rfl
def qtab53 : List Ent := qent52 :: qtab52
def qent53 : Ent := ⟨74, [.ptr 0 0], ⟨qT182, 7, [], ⟨pgl, []⟩⟩, [⟨.ret, .ptr 10 0, .e, [], ⟨qT201, 132, [], ⟨pgl, []⟩⟩⟩]⟩
theorem qent53_ok : okEntI Tryz.prog [(271, 1, 0), (445, 2, 0), (551, 5, 0)] qtab53 lptab 20000 qent53 = true := by kernel_rfl
def qtab54 : List Ent := qent53 :: qtab53
def qent54 : Ent := ⟨103, [.slice 0 0 1 (.u 1 0)], ⟨(qlf qO46), 2, [], ⟨pgl, []⟩⟩, [⟨.ret, .slice 12 0 1 (.u 13 0), .e, [], ⟨(.n .e qO46 qT202), 14, [], ⟨pgl, []⟩⟩⟩]⟩
theorem qent54_ok : okEntI Tryz.prog [(271, 1, 0), (445, 2, 0), (551, 5, 0)] qtab54 lptab 20000 qent54 = true := by kernel_rfl
def qtab55 : List Ent := qent54 :: qtab54
def qent55 : Ent := ⟨184, [.ptr 0 0, .agg [.int .u8 0, .int .u32 1]], ⟨qT207, 13, [], ⟨pgl, []⟩⟩, [⟨.ret, .tup [.nslice, .int .i64 0], .e, [], ⟨qT212, 28, [], ⟨pgl, []⟩⟩⟩]⟩
theorem qent55_ok : okEntI Tryz.prog [(271, 1, 0), (445, 2, 0), (551, 5, 0)] qtab55 lptab 20000 qent55 = true := by kernel_rfl
def qtab56 : List Ent := qent55 :: qtab55
def qent56 : Ent := ⟨184, [.ptr 0 0, .agg [.int .u8 0, .int .u32 2]], ⟨qT207, 13, [], ⟨pgl, []⟩⟩, [⟨.ret, .tup [.nslice, .int .i64 0], .e, [], ⟨qT212, 29, [], ⟨pgl, []⟩⟩⟩]⟩
theorem qent56_ok : okEntI Tryz.prog [(271, 1, 0), (445, 2, 0), (551, 5, 0)] qtab56 lptab 20000 qent56 = true := by kernel_rfl
def qtab57 : List Ent := qent56 :: qtab56
def qent57 : Ent := ⟨101, [.slice 0 0 2 (.u 1 0)], ⟨(qlf qO39), 2, [], ⟨pgl, []⟩⟩, [⟨.ret, .map 195, .e, [], ⟨qT220, 292, [], ⟨pgl, []⟩⟩⟩]⟩
theorem qent57_ok : okEntI Tryz.prog [(271, 1, 0), (445, 2, 0), (551, 5, 0)] qtab57 lptab 20000 qent57 = true := by kernel_rfl
def qtab58 : List Ent := qent57 :: qtab57
def qent58 : Ent := ⟨95, [.agg qL54, .agg qL8], ⟨.e, 0, [], ⟨pgl, []⟩⟩, [⟨.ret, .int .i64 1, .e, [], ⟨qT8, 3, [], ⟨pgl, []⟩⟩⟩]⟩
theorem qent58_ok : okEntI Tryz.prog [(271, 1, 0), (445, 2, 0), (551, 5, 0)] qtab58 lptab 20000 qent58 = true := by kernel_rfl
def qtab59 : List Ent := qent58 :: qtab58
def qent59 : Ent := ⟨102, [.slice 0 0 2 (.u 1 0)], ⟨(qlf qO39), 2, [], ⟨pgl, []⟩⟩, [⟨.ret, .slice 28 0 2 (.u 29 0), .e, [], ⟨qT223, 30, [], ⟨pgl, []⟩⟩⟩]⟩
theorem qent59_ok : okEntI Tryz.prog [(271, 1, 0), (445, 2, 0), (551, 5, 0)] qtab59 lptab 20000 qent59 = true := by kernel_rfl
def qtab60 : List Ent := qent59 :: qtab59
def qent60 : Ent := ⟨38, [.slice 0 0 2 (.u 1 0)], ⟨(qlf qO39), 2, [], ⟨pgl, []⟩⟩, [⟨.ret, .slice 335 0 1 (.u 336 0), .e, [], ⟨qT232, 337, [], ⟨pgl, []⟩⟩⟩]⟩
theorem qent60_ok : okEntI Tryz.prog [(271, 1, 0), (445, 2, 0), (551, 5, 0)] qtab60 lptab 20000 qent60 = true := by kernel_rfl
def qtab61 : List Ent := qent60 :: qtab60
def qent61 : Ent := ⟨275, [.ptr 0 0, .agg qL54], ⟨qT233, 4, [], ⟨pgl, []⟩⟩, [⟨.ret, .int .u8 1, .e, [], ⟨qT236, 12, [0], ⟨pgl, []⟩⟩⟩]⟩
theorem qent61_ok : okEntI Tryz.prog [(271, 1, 0), (445, 2, 0), (551, 5, 0)] qtab61 lptab 20000 qent61 = true := by kernel_rfl
def qtab62 : List Ent := qent61 :: qtab61
def qent62 : Ent := ⟨134, [.agg qL29, .agg qL29], ⟨.e, 0, [], ⟨pgl, []⟩⟩, [⟨.ret, .bool true, .e, [], ⟨qT8, 14, [], ⟨pgl, []⟩⟩⟩]⟩
theorem qent62_ok : okEntI Tryz.prog [(271, 1, 0), (445, 2, 0), (551, 5, 0)] qtab62 lptab 20000 qent62 = true := by kernel_rfl
def qtab63 : List Ent := qent62 :: qtab62
def qent63 : Ent := ⟨148, [.agg qL54], ⟨.e, 0, [], ⟨pgl, []⟩⟩, [⟨.ret, .tup qL64, .e, [], ⟨qT63, 100, [], ⟨pgl, []⟩⟩⟩]⟩
theorem qent63_ok : okEntI Tryz.prog [(271, 1, 0), (445, 2, 0), (551, 5, 0)] qtab63 lptab 20000 qent63 = true := by kernel_rfl
def qtab64 : List Ent := qent63 :: qtab63
def qent64 : Ent := ⟨131, [.slice 0 0 1 (.u 1 0)], ⟨(qlf qO55), 2, [], ⟨pgl, []⟩⟩, [⟨.ret, .slice 104 0 1 (.u 105 0), .e, [], ⟨qT239, 106, [], ⟨pgl, []⟩⟩⟩]⟩
theorem qent64_ok : okEntI Tryz.prog [(271, 1, 0), (445, 2, 0), (551, 5, 0)] qtab64 lptab 20000 qent64 = true := by kernel_rfl
def qtab65 : List Ent := qent64 :: qtab64
def qent65 : Ent := ⟨306, [.ptr 0 0, .agg qL66], ⟨qT243, 6, [], ⟨pgl, []⟩⟩, [⟨.ret, .int .i64 0, .e, [], ⟨qT248, 47, [0, 5], ⟨pgl, []⟩⟩⟩]⟩
theorem qent65_ok : okEntI Tryz.prog [(271, 1, 0), (445, 2, 0), (551, 5, 0)] qtab65 lptab 20000 qent65 = true := by kernel_rfl
def qtab66 : List Ent := qent65 :: qtab65
def qent66 : Ent := ⟨130, [.ptr 0 0, .slice 1 0 1 (.u 2 0)], ⟨qT251, 8, [], ⟨pgl, []⟩⟩, [⟨.ret, .int .i64 0, .e, [], ⟨qT259, 85, [0, 4, 3, 7], ⟨pgl, []⟩⟩⟩]⟩
theorem qent66_ok : okEntI Tryz.prog [(271, 1, 0), (445, 2, 0), (551, 5, 0)] qtab66 lptab 20000 qent66 = true := by kernel_rfl
def qtab67 : List Ent := qent66 :: qtab66
def qent67 : Ent := ⟨132, [.ptr 0 0], ⟨qT262, 11, [], ⟨pgl, []⟩⟩, [⟨.ret, .int .i64 0, .e, [], ⟨qT264, 12, [0, 1], ⟨pgl, []⟩⟩⟩]⟩
theorem qent67_ok : okEntI Tryz.prog [(271, 1, 0), (445, 2, 0), (551, 5, 0)] qtab67 lptab 20000 qent67 = true := by kernel_rfl
def qtab68 : List Ent := qent67 :: qtab67
def qent68 : Ent := ⟨116, [.ptr 0 0, .agg qL77], ⟨qT265, 1, [], ⟨pgl, []⟩⟩, [⟨.ret, .int .i64 0, .e, [], ⟨qT266, 19, [0], ⟨pgl, []⟩⟩⟩]⟩
theorem qent68_ok : okEntI Tryz.prog [(271, 1, 0), (445, 2, 0), (551, 5, 0)] qtab68 lptab 20000 qent68 = true := by kernel_rfl
def qtab69 : List Ent := qent68 :: qtab68
def qent69 : Ent := ⟨21, [.ptr 0 0, .agg qL54], ⟨qT271, 12, [], ⟨pgl, []⟩⟩, [⟨.ret, .int .i64 0, .e, [], ⟨qT285, 321, [5, 0, 2, 1, 6, 7, 11], ⟨pgl, []⟩⟩⟩]⟩
theorem qent69_ok : okEntI Tryz.prog [(271, 1, 0), (445, 2, 0), (551, 5, 0)] qtab69 lptab 20000 qent69 = true := by kernel_rfl
def qtab70 : List Ent := qent69 :: qtab69
def qent70 : Ent := ⟨19, [.ptr 0 0], ⟨qT291, 12, [], ⟨pgl, []⟩⟩, [⟨.ret, .slice 13 0 2 (.u 14 0), .e, [], ⟨qT294, 15, [], ⟨pgl, []⟩⟩⟩]⟩
theorem qent70_ok : okEntI Tryz.prog [(271, 1, 0), (445, 2, 0), (551, 5, 0)] qtab70 lptab 20000 qent70 = true := by kernel_rfl
def qtab71 : List Ent := qent70 :: qtab70
theorem qokk1 (hm : Tryz.prog.follows .mixedOrders = true) (hN : okNames Tryz.prog = true) (hP : ∀ tab ptab, PrimOk Tryz.prog ⟨[(271, 1, 0), (445, 2, 0), (551, 5, 0)], tab, ptab⟩) (hPT : PTabOk Tryz.prog lptab) : TabOk Tryz.prog (AnyOk Tryz.prog) qtab71 := by
  have h0 : TabOk Tryz.prog (AnyOk Tryz.prog) qtab0 := tab_nil
  have h1 : TabOk Tryz.prog (AnyOk Tryz.prog) qtab1 := okEntI_cons hm hN (hP qtab0 lptab) h0 hPT qent0_ok
  have h2 : TabOk Tryz.prog (AnyOk Tryz.prog) qtab2 := okEntI_cons hm hN (hP qtab1 lptab) h1 hPT qent1_ok
  have h3 : TabOk Tryz.prog (AnyOk Tryz.prog) qtab3 := okEntI_cons hm hN (hP qtab2 lptab) h2 hPT qent2_ok
  have h4 : TabOk Tryz.prog (AnyOk Tryz.prog) qtab4 := okEntI_cons hm hN (hP qtab3 lptab) h3 hPT qent3_ok
  have h5 : TabOk Tryz.prog (AnyOk Tryz.prog) qtab5 := okEntI_cons hm hN (hP qtab4 lptab) h4 hPT qent4_ok
  have h6 : TabOk Tryz.prog (AnyOk Tryz.prog) qtab6 := okEntI_cons hm hN (hP qtab5 lptab) h5 hPT qent5_ok
  have h7 : TabOk Tryz.prog (AnyOk Tryz.prog) qtab7 := okEntI_cons hm hN (hP qtab6 lptab) h6 hPT qent6_ok
  have h8 : TabOk Tryz.prog (AnyOk Tryz.prog) qtab8 := okEntI_cons hm hN (hP qtab7 lptab) h7 hPT qent7_ok
  have h9 : TabOk Tryz.prog (AnyOk Tryz.prog) qtab9 := okEntI_cons hm hN (hP qtab8 lptab) h8 hPT qent8_ok
  have h10 : TabOk Tryz.prog (AnyOk Tryz.prog) qtab10 := okEntI_cons hm hN (hP qtab9 lptab) h9 hPT qent9_ok
  have h11 : TabOk Tryz.prog (AnyOk Tryz.prog) qtab11 := okEntI_cons hm hN (hP qtab10 lptab) h10 hPT qent10_ok
  have h12 : TabOk Tryz.prog (AnyOk Tryz.prog) qtab12 := okEntI_cons hm hN (hP qtab11 lptab) h11 hPT qent11_ok
  have h13 : TabOk Tryz.prog (AnyOk Tryz.prog) qtab13 := okEntI_cons hm hN (hP qtab12 lptab) h12 hPT qent12_ok
  have h14 : TabOk Tryz.prog (AnyOk Tryz.prog) qtab14 := okEntI_cons hm hN (hP qtab13 lptab) h13 hPT qent13_ok
  have h15 : TabOk Tryz.prog (AnyOk Tryz.prog) qtab15 := okEntI_cons hm hN (hP qtab14 lptab) h14 hPT qent14_ok
  have h16 : TabOk Tryz.prog (AnyOk Tryz.prog) qtab16 := okEntI_cons hm hN (hP qtab15 lptab) h15 hPT qent15_ok
  have h17 : TabOk Tryz.prog (AnyOk Tryz.prog) qtab17 := okEntI_cons hm hN (hP qtab16 lptab) h16 hPT qent16_ok
  have h18 : TabOk Tryz.prog (AnyOk Tryz.prog) qtab18 := okEntI_cons hm hN (hP qtab17 lptab) h17 hPT qent17_ok
  have h19 : TabOk Tryz.prog (AnyOk Tryz.prog) qtab19 := okEntI_cons hm hN (hP qtab18 lptab) h18 hPT qent18_ok
  have h20 : TabOk Tryz.prog (AnyOk Tryz.prog) qtab20 := okEntI_cons hm hN (hP qtab19 lptab) h19 hPT qent19_ok
  have h21 : TabOk Tryz.prog (AnyOk Tryz.prog) qtab21 := okEntI_cons hm hN (hP qtab20 lptab) h20 hPT qent20_ok
  have h22 : TabOk Tryz.prog (AnyOk Tryz.prog) qtab22 := okEntI_cons hm hN (hP qtab21 lptab) h21 hPT qent21_ok
  have h23 : TabOk Tryz.prog (AnyOk Tryz.prog) qtab23 := okEntI_cons hm hN (hP qtab22 lptab) h22 hPT qent22_ok
  have h24 : TabOk Tryz.prog (AnyOk Tryz.prog) qtab24 := okEntI_cons hm hN (hP qtab23 lptab) h23 hPT qent23_ok
  have h25 : TabOk Tryz.prog (AnyOk Tryz.prog) qtab25 := okEntI_cons hm hN (hP qtab24 lptab) h24 hPT qent24_ok
  have h26 : TabOk Tryz.prog (AnyOk Tryz.prog) qtab26 := okEntI_cons hm hN (hP qtab25 lptab) h25 hPT qent25_ok
  have h27 : TabOk Tryz.prog (AnyOk Tryz.prog) qtab27 := okEntI_cons hm hN (hP qtab26 lptab) h26 hPT qent26_ok
  have h28 : TabOk Tryz.prog (AnyOk Tryz.prog) qtab28 := okEntI_cons hm hN (hP qtab27 lptab) h27 hPT qent27_ok
  have h29 : TabOk Tryz.prog (AnyOk Tryz.prog) qtab29 := okEntI_cons hm hN (hP qtab28 lptab) h28 hPT qent28_ok
  have h30 : TabOk Tryz.prog (AnyOk Tryz.prog) qtab30 := okEntI_cons hm hN (hP qtab29 lptab) h29 hPT qent29_ok
  have h31 : TabOk Tryz.prog (AnyOk Tryz.prog) qtab31 := okEntI_cons hm hN (hP qtab30 lptab) h30 hPT qent30_ok
  have h32 : TabOk Tryz.prog (AnyOk Tryz.prog) qtab32 := okEntI_cons hm hN (hP qtab31 lptab) h31 hPT qent31_ok
  have h33 : TabOk Tryz.prog (AnyOk Tryz.prog) qtab33 := okEntI_cons hm hN (hP qtab32 lptab) h32 hPT qent32_ok
  have h34 : TabOk Tryz.prog (AnyOk Tryz.prog) qtab34 := okEntI_cons hm hN (hP qtab33 lptab) h33 hPT qent33_ok
  have h35 : TabOk Tryz.prog (AnyOk Tryz.prog) qtab35 := okEntI_cons hm hN (hP qtab34 lptab) h34 hPT qent34_ok
  have h36 : TabOk Tryz.prog (AnyOk Tryz.prog) qtab36 := okEntI_cons hm hN (hP qtab35 lptab) h35 hPT qent35_ok
  have h37 : TabOk Tryz.prog (AnyOk Tryz.prog) qtab37 := okEntI_cons hm hN (hP qtab36 lptab) h36 hPT qent36_ok
  have h38 : TabOk Tryz.prog (AnyOk Tryz.prog) qtab38 := okEntI_cons hm hN (hP qtab37 lptab) h37 hPT qent37_ok
  have h39 : TabOk Tryz.prog (AnyOk Tryz.prog) qtab39 := okEntI_cons hm hN (hP qtab38 lptab) h38 hPT qent38_ok
  have h40 : TabOk Tryz.prog (AnyOk Tryz.prog) qtab40 := okEntI_cons hm hN (hP qtab39 lptab) h39 hPT qent39_ok
  have h41 : TabOk Tryz.prog (AnyOk Tryz.prog) qtab41 := okEntI_cons hm hN (hP qtab40 lptab) h40 hPT qent40_ok
  have h42 : TabOk Tryz.prog (AnyOk Tryz.prog) qtab42 := okEntI_cons hm hN (hP qtab41 lptab) h41 hPT qent41_ok
  have h43 : TabOk Tryz.prog (AnyOk Tryz.prog) qtab43 := okEntI_cons hm hN (hP qtab42 lptab) h42 hPT qent42_ok
  have h44 : TabOk Tryz.prog (AnyOk Tryz.prog) qtab44 := okEntI_cons hm hN (hP qtab43 lptab) h43 hPT qent43_ok
  have h45 : TabOk Tryz.prog (AnyOk Tryz.prog) qtab45 := okEntI_cons hm hN (hP qtab44 lptab) h44 hPT qent44_ok
  have h46 : TabOk Tryz.prog (AnyOk Tryz.prog) qtab46 := okEntI_cons hm hN (hP qtab45 lptab) h45 hPT qent45_ok
  have h47 : TabOk Tryz.prog (AnyOk Tryz.prog) qtab47 := okEntI_cons hm hN (hP qtab46 lptab) h46 hPT qent46_ok
  have h48 : TabOk Tryz.prog (AnyOk Tryz.prog) qtab48 := okEntI_cons hm hN (hP qtab47 lptab) h47 hPT qent47_ok
  have h49 : TabOk Tryz.prog (AnyOk Tryz.prog) qtab49 := okEntI_cons hm hN (hP qtab48 lptab) h48 hPT qent48_ok
  have h50 : TabOk Tryz.prog (AnyOk Tryz.prog) qtab50 := okEntI_cons hm hN (hP qtab49 lptab) h49 hPT qent49_ok
  have h51 : TabOk Tryz.prog (AnyOk Tryz.prog) qtab51 := okEntI_cons hm hN (hP qtab50 lptab) h50 hPT qent50_ok
  have h52 : TabOk Tryz.prog (AnyOk Tryz.prog) qtab52 := okEntI_cons hm hN (hP qtab51 lptab) h51 hPT qent51_ok
  have h53 : TabOk Tryz.prog (AnyOk Tryz.prog) qtab53 := okEntI_cons hm hN (hP qtab52 lptab) h52 hPT qent52_ok
  have h54 : TabOk Tryz.prog (AnyOk Tryz.prog) qtab54 := okEntI_cons hm hN (hP qtab53 lptab) h53 hPT qent53_ok
  have h55 : TabOk Tryz.prog (AnyOk Tryz.prog) qtab55 := okEntI_cons hm hN (hP qtab54 lptab) h54 hPT qent54_ok
  have h56 : TabOk Tryz.prog (AnyOk Tryz.prog) qtab56 := okEntI_cons hm hN (hP qtab55 lptab) h55 hPT qent55_ok
  have h57 : TabOk Tryz.prog (AnyOk Tryz.prog) qtab57 := okEntI_cons hm hN (hP qtab56 lptab) h56 hPT qent56_ok
  have h58 : TabOk Tryz.prog (AnyOk Tryz.prog) qtab58 := okEntI_cons hm hN (hP qtab57 lptab) h57 hPT qent57_ok
  have h59 : TabOk Tryz.prog (AnyOk Tryz.prog) qtab59 := okEntI_cons hm hN (hP qtab58 lptab) h58 hPT qent58_ok
  have h60 : TabOk Tryz.prog (AnyOk Tryz.prog) qtab60 := okEntI_cons hm hN (hP qtab59 lptab) h59 hPT qent59_ok
  have h61 : TabOk Tryz.prog (AnyOk Tryz.prog) qtab61 := okEntI_cons hm hN (hP qtab60 lptab) h60 hPT qent60_ok
  have h62 : TabOk Tryz.prog (AnyOk Tryz.prog) qtab62 := okEntI_cons hm hN (hP qtab61 lptab) h61 hPT qent61_ok
  have h63 : TabOk Tryz.prog (AnyOk Tryz.prog) qtab63 := okEntI_cons hm hN (hP qtab62 lptab) h62 hPT qent62_ok
  have h64 : TabOk Tryz.prog (AnyOk Tryz.prog) qtab64 := okEntI_cons hm hN (hP qtab63 lptab) h63 hPT qent63_ok
  have h65 : TabOk Tryz.prog (AnyOk Tryz.prog) qtab65 := okEntI_cons hm hN (hP qtab64 lptab) h64 hPT qent64_ok
  have h66 : TabOk Tryz.prog (AnyOk Tryz.prog) qtab66 := okEntI_cons hm hN (hP qtab65 lptab) h65 hPT qent65_ok
  have h67 : TabOk Tryz.prog (AnyOk Tryz.prog) qtab67 := okEntI_cons hm hN (hP qtab66 lptab) h66 hPT qent66_ok
  have h68 : TabOk Tryz.prog (AnyOk Tryz.prog) qtab68 := okEntI_cons hm hN (hP qtab67 lptab) h67 hPT qent67_ok
  have h69 : TabOk Tryz.prog (AnyOk Tryz.prog) qtab69 := okEntI_cons hm hN (hP qtab68 lptab) h68 hPT qent68_ok
  have h70 : TabOk Tryz.prog (AnyOk Tryz.prog) qtab70 := okEntI_cons hm hN (hP qtab69 lptab) h69 hPT qent69_ok
  have h71 : TabOk Tryz.prog (AnyOk Tryz.prog) qtab71 := okEntI_cons hm hN (hP qtab70 lptab) h70 hPT qent70_ok
  exact h71

end Go.Proofs.YtlijlapkhimaoaaGreatDoor
