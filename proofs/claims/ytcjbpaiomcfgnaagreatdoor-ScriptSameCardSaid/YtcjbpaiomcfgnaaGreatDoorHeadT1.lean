/- calls that are run once, and known from then on, part 1: printed by gen_ents3.py -/
import Derived.Test.YtcjbpaiomcfgnaaGreatDoorHeadP
import Derived.Test.YtcjbpaiomcfgnaaGreatDoorGf
import Derived.Test.YtcjbpaiomcfgnaaGreatDoorProg
import Derived.KernelRfl
namespace Go.Proofs.YtcjbpaiomcfgnaaGreatDoor
open Go Go.RowKit
set_option maxRecDepth 100000
def qlf (o : Option AObj) : Tr AObj := .n .e o .e
def qtab0 : List Ent := []
def qL0 : List AV := [.int .i64 2, .int .i64 8, .int .i64 100, .int .i64 1000]
def qL1 : List AV := [.int .u8 2, .int .u8 8, .int .u8 100]
def qL2 : List AV := [.slice 1 0 3 (.u 2 0), .bool true]
def qL3 : List AV := [.slice 10 0 6 (.u 11 0), .bool true]
def qL4 : List AV := [.int .u8 2, .int .u8 8, .int .u8 100, .int .u8 130, .int .u8 3, .int .u8 232]
def qL5 : List AV := [.int .u8 1, .int .u8 1, .int .i64 0, .int .u8 0, .int .u32 0, .int .u8 0, .int .u32 0, .int .u8 0, .int .u32 0, .int .u32 0, .int .u8 0, .int .u8 0, .int .u64 0, .int .u8 0, .int .u32 0, .int .u8 0, .int .u32 0, .int .u32 0, .int .u32 0, .int .u32 0, .nslice, .int .u8 0, .int .u32 0]
def qL6 : List AV := [.str [2, 8, 100, 130, 3, 232, 1, 1, 1, 0, 0, 0, 0, 0, 0, 0, 0, 0, 0, 0, 0, 0, 0, 0, 0, 0, 0, 0, 0, 0], .int .i64 0]
def qL7 : List AV := [.str [2, 8, 100, 130, 3, 232, 1, 1, 1, 0, 0, 0, 0, 0, 0, 0, 0, 0, 0, 0, 0, 0, 0, 0, 0, 0, 0, 0, 0, 0], .int .i64 0, .bool true]
def qL8 : List AV := [.str [2, 8, 100, 130, 3, 232, 1, 1, 1, 0, 0, 0, 0, 0, 0, 0, 0, 0, 0, 0, 0, 0, 0, 0, 0, 0, 0, 0, 0, 0], .int .i64 1, .bool true]
def qL9 : List AV := [.str [2, 8, 100, 130, 3, 232, 1, 1, 1, 0, 0, 0, 0, 0, 0, 0, 0, 0, 0, 0, 0, 0, 0, 0, 0, 0, 0, 0, 0, 0], .int .i64 2, .bool true]
def qL10 : List AV := [.str [2, 8, 100, 130, 3, 232, 1, 1, 1, 0, 0, 0, 0, 0, 0, 0, 0, 0, 0, 0, 0, 0, 0, 0, 0, 0, 0, 0, 0, 0], .int .i64 3, .bool true]
def qL11 : List AV := [.str [2, 8, 100, 130, 3, 232, 1, 1, 1, 0, 0, 0, 0, 0, 0, 0, 0, 0, 0, 0, 0, 0, 0, 0, 0, 0, 0, 0, 0, 0], .int .i64 6, .bool true]
def qL12 : List AV := [.str [2, 8, 100, 130, 3, 232, 1, 1, 1, 0, 0, 0, 0, 0, 0, 0, 0, 0, 0, 0, 0, 0, 0, 0, 0, 0, 0, 0, 0, 0], .int .i64 7, .bool true]
def qL13 : List AV := [.str [2, 8, 100, 130, 3, 232, 1, 1, 1, 0, 0, 0, 0, 0, 0, 0, 0, 0, 0, 0, 0, 0, 0, 0, 0, 0, 0, 0, 0, 0], .int .i64 8, .bool true]
def qL14 : List AV := [.str [2, 8, 100, 130, 3, 232, 1, 1, 1, 0, 0, 0, 0, 0, 0, 0, 0, 0, 0, 0, 0, 0, 0, 0, 0, 0, 0, 0, 0, 0], .int .i64 9, .bool true]
def qL15 : List AV := [.str [2, 8, 100, 130, 3, 232, 1, 1, 1, 0, 0, 0, 0, 0, 0, 0, 0, 0, 0, 0, 0, 0, 0, 0, 0, 0, 0, 0, 0, 0], .int .i64 10, .bool true]
def qL16 : List AV := [.str [2, 8, 100, 130, 3, 232, 1, 1, 1, 0, 0, 0, 0, 0, 0, 0, 0, 0, 0, 0, 0, 0, 0, 0, 0, 0, 0, 0, 0, 0], .int .i64 11, .bool true]
def qL17 : List AV := [.str [2, 8, 100, 130, 3, 232, 1, 1, 1, 0, 0, 0, 0, 0, 0, 0, 0, 0, 0, 0, 0, 0, 0, 0, 0, 0, 0, 0, 0, 0], .int .i64 12, .bool true]
def qL18 : List AV := [.str [2, 8, 100, 130, 3, 232, 1, 1, 1, 0, 0, 0, 0, 0, 0, 0, 0, 0, 0, 0, 0, 0, 0, 0, 0, 0, 0, 0, 0, 0], .int .i64 14, .bool true]
def qL19 : List AV := [.str [2, 8, 100, 130, 3, 232, 1, 1, 1, 0, 0, 0, 0, 0, 0, 0, 0, 0, 0, 0, 0, 0, 0, 0, 0, 0, 0, 0, 0, 0], .int .i64 16, .bool true]
def qL20 : List AV := [.str [2, 8, 100, 130, 3, 232, 1, 1, 1, 0, 0, 0, 0, 0, 0, 0, 0, 0, 0, 0, 0, 0, 0, 0, 0, 0, 0, 0, 0, 0], .int .i64 17, .bool true]
def qL21 : List AV := [.str [2, 8, 100, 130, 3, 232, 1, 1, 1, 0, 0, 0, 0, 0, 0, 0, 0, 0, 0, 0, 0, 0, 0, 0, 0, 0, 0, 0, 0, 0], .int .i64 18, .bool true]
def qL22 : List AV := [.str [2, 8, 100, 130, 3, 232, 1, 1, 1, 0, 0, 0, 0, 0, 0, 0, 0, 0, 0, 0, 0, 0, 0, 0, 0, 0, 0, 0, 0, 0], .int .i64 19, .bool true]
def qL23 : List AV := [.str [2, 8, 100, 130, 3, 232, 1, 1, 1, 0, 0, 0, 0, 0, 0, 0, 0, 0, 0, 0, 0, 0, 0, 0, 0, 0, 0, 0, 0, 0], .int .i64 20, .bool true]
def qL24 : List AV := [.str [2, 8, 100, 130, 3, 232, 1, 1, 1, 0, 0, 0, 0, 0, 0, 0, 0, 0, 0, 0, 0, 0, 0, 0, 0, 0, 0, 0, 0, 0], .int .i64 22, .bool true]
def qL25 : List AV := [.str [2, 8, 100, 130, 3, 232, 1, 1, 1, 0, 0, 0, 0, 0, 0, 0, 0, 0, 0, 0, 0, 0, 0, 0, 0, 0, 0, 0, 0, 0], .int .i64 24, .bool true]
def qL26 : List AV := [.str [2, 8, 100, 130, 3, 232, 1, 1, 1, 0, 0, 0, 0, 0, 0, 0, 0, 0, 0, 0, 0, 0, 0, 0, 0, 0, 0, 0, 0, 0], .int .i64 25, .bool true]
def qL27 : List AV := [.str [2, 8, 100, 130, 3, 232, 1, 1, 1, 0, 0, 0, 0, 0, 0, 0, 0, 0, 0, 0, 0, 0, 0, 0, 0, 0, 0, 0, 0, 0], .int .i64 26, .bool true]
def qL28 : List AV := [.str [2, 8, 100, 130, 3, 232, 1, 1, 1, 0, 0, 0, 0, 0, 0, 0, 0, 0, 0, 0, 0, 0, 0, 0, 0, 0, 0, 0, 0, 0], .int .i64 27, .bool true]
def qL29 : List AV := [.func (.func 24) [] [.ptr 3 0]]
def qL30 : List AV := [.func (.func 26) [] [.ptr 3 0]]
def qL31 : List AV := [.func (.func 27) [] [.ptr 3 0]]
def qL32 : List AV := [.str [2, 8, 100, 130, 3, 232, 1, 1, 1, 0, 0, 0, 0, 0, 0, 0, 0, 0, 0, 0, 0, 0, 0, 0, 0, 0, 0, 0, 0, 0], .int .i64 30, .bool true]
def qL33 : List AV := [.int .i64 1000, .map 1, .map 2, .nslice, .nptr, .bool false]
def qL34 : List AV := [.int .i64 1000, .map 3, .map 4, .nslice, .nptr, .bool false]
def qL35 : List AV := [.ptr 0 0, .int .i64 100, .nslice, .int .i64 0, .str [], .bool false]
def qL36 : List AV := [.int .u32 0, .int .u32 0, .int .u32 0, .int .u32 0, .int .u32 0, .int .u32 0, .int .u32 0, .int .u32 0]
def qL37 : List AV := [.int .i64 2, .int .u32 0, .int .u32 0, .int .u32 0, .int .u32 0, .int .u32 0, .int .u32 0, .int .u32 0, .int .u32 0, .map 1]
def qL38 : List AV := [.int .i64 2, .int .u8 0, .int .u32 0, .int .u32 0, .int .u32 0, .int .u32 0, .int .u32 0, .int .u32 0, .int .u32 0, .int .u32 0, .int .u32 0, .int .u32 0, .int .u32 0, .int .u32 0, .int .u32 0, .int .u32 0, .int .u32 0, .int .u32 0, .int .u32 0, .int .u32 0, .int .u32 0, .int .u32 0, .int .u32 0, .int .u32 0, .int .u32 0, .int .u32 0, .int .u32 0, .int .u32 0, .int .u32 0, .int .u32 0, .int .u32 0, .int .u32 0, .int .u32 0, .int .u32 0, .int .u32 0, .int .u32 0, .int .u32 0, .int .u32 0, .int .u32 0, .int .u32 0, .int .u32 0, .int .u32 0, .int .u32 0, .int .u32 0, .int .u32 0, .int .u32 0, .int .u32 0, .int .u32 0, .int .u32 0, .int .u32 0, .int .u32 0, .int .u32 0, .int .u32 0, .int .u32 0, .int .u32 0, .int .u32 0, .int .u32 0, .int .u32 0, .int .u32 0, .int .u32 0, .int .u32 0, .int .u32 0, .int .u32 0, .int .u32 0, .int .u32 0, .int .u32 0, .int .u32 0, .int .u32 0, .int .u32 0, .int .u32 0, .int .u32 0, .int .u32 0, .int .u32 0, .int .u32 0, .nmap, .nmap, .nmap, .nmap, .nmap, .nmap, .nmap, .nmap]
def qL39 : List AV := [.int .i64 2, .int .u8 1, .int .u32 0, .int .u32 0, .int .u32 0, .int .u32 0, .int .u32 0, .int .u32 0, .int .u32 0, .int .u32 0, .int .u32 0, .int .u32 0, .int .u32 0, .int .u32 0, .int .u32 0, .int .u32 0, .int .u32 0, .int .u32 0, .int .u32 0, .int .u32 0, .int .u32 0, .int .u32 0, .int .u32 0, .int .u32 0, .int .u32 0, .int .u32 0, .int .u32 0, .int .u32 0, .int .u32 0, .int .u32 0, .int .u32 0, .int .u32 0, .int .u32 0, .int .u32 0, .int .u32 0, .int .u32 0, .int .u32 0, .int .u32 0, .int .u32 0, .int .u32 0, .int .u32 0, .int .u32 0, .int .u32 0, .int .u32 0, .int .u32 0, .int .u32 0, .int .u32 0, .int .u32 0, .int .u32 0, .int .u32 0, .int .u32 0, .int .u32 0, .int .u32 0, .int .u32 0, .int .u32 0, .int .u32 0, .int .u32 0, .int .u32 0, .int .u32 0, .int .u32 0, .int .u32 0, .int .u32 0, .int .u32 0, .int .u32 0, .int .u32 0, .int .u32 0, .int .u32 0, .int .u32 0, .int .u32 0, .int .u32 0, .int .u32 0, .int .u32 0, .int .u32 0, .int .u32 0, .nmap, .nmap, .nmap, .nmap, .nmap, .nmap, .nmap, .nmap]
def qL40 : List AV := [.int .u8 0, .int .u8 1, .int .u8 0, .int .u32 0, .int .u32 0, .int .u32 0, .int .u32 0, .int .u32 0, .int .u32 0, .int .u32 0, .int .u32 0, .nslice]
def qL41 : List AV := [.ptr 12 0, .ptr 13 0, .map 14, .map 15]
def qL42 : List AV := [.int .i64 2, .int .u32 0, .int .u32 0, .int .u32 0, .int .u32 0, .int .u32 0, .int .u32 0, .int .u32 0, .int .u32 0, .map 30]
def qL43 : List AV := [.nslice, .map 29, .int .u32 0, .int .u32 0, .int .u32 0, .int .u32 0, .int .u32 0, .int .u32 0, .int .u32 0, .int .u32 0]
def qL44 : List AV := [.int .i64 2, .int .u32 0, .int .u32 0, .int .u32 0, .int .u32 0, .int .u32 0, .int .u32 0, .int .u32 0, .int .u32 0, .map 31]
def qL45 : List AV := [.ptr 18 0, .ptr 19 0, .map 20, .map 21]
def qL46 : List AV := [.ptr 8 0, .int .u8 1, .int .i64 2, .int .i64 8, .int .i64 100, .ptr 9 0]
def qL47 : List AV := [.nslice, .map 25, .int .u32 0, .int .u32 0, .int .u32 0, .int .u32 0, .int .u32 0, .int .u32 0, .int .u32 0, .int .u32 0]
def qL48 : List AV := [.slice 1 0 2 (.u 2 0), .ptr 3 0]
def qL49 : List AV := [.int .i64 1000, .map 16, .map 17, .nslice, .nptr, .bool false]
def qL50 : List AV := [.ptr 6 0, .int .u8 0, .int .i64 2, .int .i64 8, .int .i64 100, .ptr 7 0]
def qL51 : List AV := [.int .u8 0, .int .i64 2, .int .i64 8, .int .i64 100, .ptr 22 0, .nslice, .ptr 23 0, .ptr 24 0, .bool false]
def qL52 : List AV := [.int .u8 1, .int .i64 2, .int .i64 8, .int .i64 100, .ptr 26 0, .nslice, .ptr 27 0, .ptr 28 0, .bool false]
def qL53 : List AV := [.ptr 8 0, .int .i64 100, .nslice, .int .i64 0, .str [], .bool false]
def qL54 : List AV := [.int .i64 1000, .map 10, .map 11, .nslice, .nptr, .bool false]
def qL55 : List AV := [.ptr 6 0, .int .i64 100, .nslice, .int .i64 0, .str [], .bool false]
def qL56 : List AV := [.int .i64 0, .int .u8 0, .int .u32 0, .int .u32 0, .int .u32 0, .int .u32 0, .int .u32 0, .int .u32 0, .int .u32 0, .int .u32 0, .int .u32 0, .int .u64 0, .int .u32 0, .int .u8 0, .int .u32 0, .int .u8 0, .int .u8 0, .int .u32 0, .int .u32 0, .int .u8 0, .int .u8 0, .int .u64 0, .int .u8 0, .int .u32 0, .int .u8 0, .int .u32 0, .int .u32 0, .int .u32 0, .int .u32 0, .nslice, .nslice, .int .u8 0, .int .u32 0, .nslice, .nslice, .nslice, .int .u8 0, .int .u8 0, .bool false, .bool false, .int .u8 0, .int .u32 0, .int .u8 0, .int .u32 0, .int .u32 0, .nslice, .int .u64 0, .str []]
def qL57 : List AV := [.slice 106 0 1 (.u 107 0), .bool true]
def qL58 : List AV := [.str [0, 1, 0, 0, 0, 0, 0, 0, 0, 0, 0, 0, 156, 66, 17, 188]]
def qL59 : List AV := [.slice 227 0 1 (.u 228 0), .int .i64 0]
def qO0 : Option AObj := (some (.cells qL4 5 (some 11)))
def qO1 : Option AObj := (some (.cells [.ptr 1 0] 80 none))
def qO2 : Option AObj := (some (.cells [.ptr 4 0] 80 none))
def qO3 : Option AObj := (some (.cells [.func (.func 357) [] []] 503 none))
def qO4 : Option AObj := (some (.cells [.nslice, .bool true] 159 none))
def qO5 : Option AObj := (some (.cells [.ptr 4 0, .ptr 5 0] 136 (some 2)))
def qO6 : Option AObj := (some (.cells qL58 9 (some 107)))
def qO7 : Option AObj := (some (.cells qL56 69 (some 228)))
def qT0 : Tr AObj := (qlf (some (.cells qL0 3 none)))
def qT1 : Tr AObj := (qlf (some (.cells qL1 5 (some 2))))
def qT2 : Tr AObj := (.n qT1 (some (.cells qL2 107 none)) .e)
def qT3 : Tr AObj := (.n (.n (qlf none) none .e) none (.n (qlf none) none .e))
def qT4 : Tr AObj := (.n (qlf none) none (.n (qlf qO0) none .e))
def qT5 : Tr AObj := (.n qT3 (some (.cells qL3 107 none)) qT4)
def qT6 : Tr AObj := (qlf (some (.cells qL5 47 none)))
def qT7 : Tr AObj := (.n .e none (.n .e none (qlf none)))
def qT8 : Tr AObj := (.n (.n .e none qT7) none .e)
def qT9 : Tr AObj := (.n (qlf none) none (.n .e none (qlf none)))
def qT10 : Tr AObj := (.n (.n qT8 none .e) (some (.cells qL5 47 none)) (.n qT9 none qT7))
def qT11 : Tr AObj := (qlf (some (.cells qL7 118 none)))
def qT12 : Tr AObj := (qlf (some (.cells qL8 118 none)))
def qT13 : Tr AObj := (qlf (some (.cells qL9 118 none)))
def qT14 : Tr AObj := (qlf (some (.cells qL10 118 none)))
def qT15 : Tr AObj := (qlf (some (.cells qL11 118 none)))
def qT16 : Tr AObj := (qlf (some (.cells qL12 118 none)))
def qT17 : Tr AObj := (qlf (some (.cells qL13 118 none)))
def qT18 : Tr AObj := (qlf (some (.cells qL14 118 none)))
def qT19 : Tr AObj := (qlf (some (.cells qL15 118 none)))
def qT20 : Tr AObj := (qlf (some (.cells qL16 118 none)))
def qT21 : Tr AObj := (qlf (some (.cells qL17 118 none)))
def qT22 : Tr AObj := (.n (qlf none) (some (.cells qL18 118 none)) (qlf none))
def qT23 : Tr AObj := (qlf (some (.cells qL18 118 none)))
def qT24 : Tr AObj := (.n (qlf none) (some (.cells qL19 118 none)) (qlf none))
def qT25 : Tr AObj := (qlf (some (.cells qL19 118 none)))
def qT26 : Tr AObj := (qlf (some (.cells qL20 118 none)))
def qT27 : Tr AObj := (qlf (some (.cells qL21 118 none)))
def qT28 : Tr AObj := (qlf (some (.cells qL22 118 none)))
def qT29 : Tr AObj := (qlf (some (.cells qL23 118 none)))
def qT30 : Tr AObj := (.n (qlf none) (some (.cells qL24 118 none)) (qlf none))
def qT31 : Tr AObj := (qlf (some (.cells qL24 118 none)))
def qT32 : Tr AObj := (.n (qlf none) (some (.cells qL25 118 none)) (qlf none))
def qT33 : Tr AObj := (qlf (some (.cells qL25 118 none)))
def qT34 : Tr AObj := (qlf (some (.cells qL26 118 none)))
def qT35 : Tr AObj := (qlf (some (.cells qL27 118 none)))
def qT36 : Tr AObj := (qlf (some (.cells qL28 118 none)))
def qT37 : Tr AObj := (.n (qlf qO2) (some (.cells qL29 83 none)) .e)
def qT38 : Tr AObj := (.n qT16 (some (.cells qL31 85 none)) .e)
def qT39 : Tr AObj := (.n qT37 (some (.cells qL30 84 none)) qT38)
def qT40 : Tr AObj := (.n (qlf qO2) (some (.cells qL29 83 none)) (qlf none))
def qT41 : Tr AObj := (qlf (some (.cells qL32 118 none)))
def qT42 : Tr AObj := (.n qT41 (some (.cells qL31 85 none)) .e)
def qT43 : Tr AObj := (.n qT40 (some (.cells qL30 84 none)) qT42)
def qT44 : Tr AObj := (.n (qlf (some (.map [] 0))) (some (.cells qL33 165 none)) (qlf (some (.map [] 0))))
def qT45 : Tr AObj := (qlf (some (.cells qL34 165 none)))
def qT46 : Tr AObj := (.n (qlf (some (.map [] 0))) (some (.map [] 0)) qT45)
def qT47 : Tr AObj := (.n (qlf (some (.map [] 0))) (some (.map [] 0)) .e)
def qT48 : Tr AObj := (.n qT46 (some (.cells qL33 165 none)) qT47)
def qT49 : Tr AObj := (qlf (some (.cells qL35 280 none)))
def qT50 : Tr AObj := (.n (.n qT49 none .e) none .e)
def qT51 : Tr AObj := (.n qT50 (some (.map [] 0)) (qlf none))
def qT52 : Tr AObj := (.n (qlf none) (some (.map [] 0)) .e)
def qT53 : Tr AObj := (.n qT51 (some (.cells qL33 165 none)) qT52)
def qT54 : Tr AObj := (qlf (some (.cells qL37 285 none)))
def qT55 : Tr AObj := (.n (qlf (some (.map [] 0))) none qT54)
def qT56 : Tr AObj := (.n (.n (qlf none) none .e) qO3 (qlf none))
def qT57 : Tr AObj := (.n (qlf none) none (qlf none))
def qT58 : Tr AObj := (qlf (some (.cells qL38 291 none)))
def qT59 : Tr AObj := (.n (qlf none) (some (.cells qL38 291 none)) .e)
def qT60 : Tr AObj := (qlf (some (.cells qL39 291 none)))
def qT61 : Tr AObj := (.n (qlf none) (some (.cells qL39 291 none)) .e)
def qT62 : Tr AObj := (qlf (some (.cells qL42 285 none)))
def qT63 : Tr AObj := (.n qT47 (some (.cells qL41 178 none)) qT62)
def qT64 : Tr AObj := (qlf (some (.cells qL43 219 none)))
def qT65 : Tr AObj := (qlf (some (.cells qL44 285 none)))
def qT66 : Tr AObj := (.n qT64 (some (.map [] 0)) qT65)
def qT67 : Tr AObj := (.n (qlf (some (.map [] 0))) (some (.cells qL45 178 none)) (qlf (some (.map [] 0))))
def qT68 : Tr AObj := (.n (qlf (some (.map [] 0))) (some (.cells qL47 219 none)) (qlf (some (.map [] 0))))
def qT69 : Tr AObj := (.n qT67 (some (.cells qL46 141 none)) qT68)
def qT70 : Tr AObj := (.n (.n qT63 qO4 qT66) qO5 qT69)
def qT71 : Tr AObj := (.n (qlf (some (.map [] 0))) (some (.cells qL49 165 none)) qT58)
def qT72 : Tr AObj := (.n (qlf (some (.map [] 0))) (some (.cells qL51 207 none)) qT60)
def qT73 : Tr AObj := (.n qT71 (some (.cells qL50 141 none)) qT72)
def qT74 : Tr AObj := (qlf (some (.cells qL52 207 none)))
def qT75 : Tr AObj := (qlf (some (.cells qL53 280 none)))
def qT76 : Tr AObj := (.n qT74 (some (.map [] 0)) qT75)
def qT77 : Tr AObj := (qlf (some (.cells qL55 280 none)))
def qT78 : Tr AObj := (.n qT77 (some (.map [] 0)) (qlf (some (.map [] 0))))
def qT79 : Tr AObj := (.n qT76 (some (.cells qL54 165 none)) qT78)
def qT80 : Tr AObj := (.n qT70 (some (.cells qL48 132 none)) (.n qT73 none qT79))
def qT81 : Tr AObj := (.n (qlf none) (some (.cells qL43 219 none)) .e)
def qT82 : Tr AObj := (.n qT81 (some (.map [] 0)) qT65)
def qT83 : Tr AObj := (.n qT63 (some (.cells qL57 159 none)) qT82)
def qT84 : Tr AObj := (.n qT52 (some (.cells qL45 178 none)) (qlf (some (.map [] 0))))
def qT85 : Tr AObj := (.n qT84 (some (.cells qL46 141 none)) qT68)
def qT86 : Tr AObj := (.n qT52 (some (.cells qL49 165 none)) qT58)
def qT87 : Tr AObj := (.n qT52 (some (.cells qL51 207 none)) qT60)
def qT88 : Tr AObj := (.n qT86 (some (.cells qL50 141 none)) qT87)
def qT89 : Tr AObj := (.n (.n .e none (qlf qO6)) (some (.cells qL53 280 none)) .e)
def qT90 : Tr AObj := (.n qT74 (some (.map [] 0)) qT89)
def qT91 : Tr AObj := (.n qT90 (some (.cells qL54 165 none)) qT78)
def qT92 : Tr AObj := (.n (.n qT83 qO5 qT85) (some (.cells qL48 132 none)) (.n qT88 none qT91))
def qT93 : Tr AObj := (.n (.n (qlf none) none .e) none .e)
def qT94 : Tr AObj := (.n (.n .e none (qlf none)) none qT93)
def qT95 : Tr AObj := (.n qT94 none (.n .e none qT57))
def qT96 : Tr AObj := (.n .e none (.n .e none (qlf qO7)))
def qT97 : Tr AObj := (.n (.n (qlf none) none .e) none (qlf none))
def qT98 : Tr AObj := (.n (.n qT96 none qT97) none .e)
def qT99 : Tr AObj := (.n (.n (qlf none) none .e) none (.n .e none (qlf none)))
def qT100 : Tr AObj := (.n qT93 none (.n (qlf none) none .e))
def qT101 : Tr AObj := (.n (.n (qlf none) none qT97) none qT100)
def qT102 : Tr AObj := (.n (.n qT95 none qT98) none (.n qT99 none qT101))
def qT103 : Tr AObj := (.n (.n qT7 none qT93) none .e)
def qT104 : Tr AObj := (.n (qlf none) none (.n (qlf none) none .e))
def qT105 : Tr AObj := (.n qT103 none (.n qT104 none qT100))
def qT106 : Tr AObj := (.n qT7 none (.n .e none (qlf none)))
def qT107 : Tr AObj := (.n qT106 none (.n .e none (qlf none)))
def qT108 : Tr AObj := (.n (.n (qlf none) none qT57) none qT100)
def qT109 : Tr AObj := (.n qT105 none (.n qT107 none qT108))
def qT110 : Tr AObj := (.n .e none (.n (qlf none) none .e))
def qT111 : Tr AObj := (.n (.n .e none qT110) none .e)
def qT112 : Tr AObj := (.n (qlf none) none (.n .e none qT111))
def qent0 : Ent := ⟨40, [.slice 0 0 4 (.k 4)], ⟨qT0, 1, [], ⟨pgl, []⟩⟩, [⟨.ret, .bool true, .e, [], ⟨qT0, 1, [], ⟨pgl, []⟩⟩⟩]⟩
theorem qent0_ok : okEntG Tryz.prog ⟨[(217, 1, 0), (552, 2, 0), (611, 5, 0)], qtab0, lptab, [], [], []⟩ [] [] false 20000 qent0 = true := by kernel_rfl
def qtab1 : List Ent := qent0 :: qtab0
def qent1 : Ent := ⟨42, [.ptr 0 0, .int .u64 1000], ⟨qT2, 3, [], ⟨pgl, []⟩⟩, [⟨.ret, .tup [], .e, [], ⟨qT5, 12, [0, 1], ⟨pgl, []⟩⟩⟩]⟩
theorem qent1_ok : okEntG Tryz.prog ⟨[(217, 1, 0), (552, 2, 0), (611, 5, 0)], qtab1, lptab, [], [], []⟩ [] [] false 20000 qent1 = true := by kernel_rfl
def qtab2 : List Ent := qent1 :: qtab1
def qent2 : Ent := ⟨8, [.agg qL0, .slice 0 0 1 (.k 1)], ⟨qT6, 1, [], ⟨pgl, []⟩⟩, [⟨.ret, .tup qL6, .e, [], ⟨qT10, 121, [], ⟨pgl, []⟩⟩⟩]⟩
theorem qent2_ok : okEntG Tryz.prog ⟨[(217, 1, 0), (552, 2, 0), (611, 5, 0)], qtab2, lptab, [], [], []⟩ [] [] false 20000 qent2 = true := by kernel_rfl
def qtab3 : List Ent := qent2 :: qtab2
def qent3 : Ent := ⟨24, [.ptr 0 0], ⟨(.n qT11 qO1 .e), 2, [], ⟨pgl, []⟩⟩, [⟨.ret, .int .i64 2, .e, [], ⟨(.n qT12 qO1 .e), 2, [1], ⟨pgl, []⟩⟩⟩]⟩
theorem qent3_ok : okEntG Tryz.prog ⟨[(217, 1, 0), (552, 2, 0), (611, 5, 0)], qtab3, lptab, [], [], []⟩ [] [] false 20000 qent3 = true := by kernel_rfl
def qtab4 : List Ent := qent3 :: qtab3
def qent4 : Ent := ⟨24, [.ptr 0 0], ⟨(.n qT12 qO1 .e), 2, [], ⟨pgl, []⟩⟩, [⟨.ret, .int .i64 8, .e, [], ⟨(.n qT13 qO1 .e), 2, [1], ⟨pgl, []⟩⟩⟩]⟩
theorem qent4_ok : okEntG Tryz.prog ⟨[(217, 1, 0), (552, 2, 0), (611, 5, 0)], qtab4, lptab, [], [], []⟩ [] [] false 20000 qent4 = true := by kernel_rfl
def qtab5 : List Ent := qent4 :: qtab4
def qent5 : Ent := ⟨24, [.ptr 0 0], ⟨(.n qT13 qO1 .e), 2, [], ⟨pgl, []⟩⟩, [⟨.ret, .int .i64 100, .e, [], ⟨(.n qT14 qO1 .e), 2, [1], ⟨pgl, []⟩⟩⟩]⟩
theorem qent5_ok : okEntG Tryz.prog ⟨[(217, 1, 0), (552, 2, 0), (611, 5, 0)], qtab5, lptab, [], [], []⟩ [] [] false 20000 qent5 = true := by kernel_rfl
def qtab6 : List Ent := qent5 :: qtab5
def qent6 : Ent := ⟨24, [.ptr 0 0], ⟨(.n qT14 qO1 .e), 2, [], ⟨pgl, []⟩⟩, [⟨.ret, .int .i64 1000, .e, [], ⟨(.n qT15 qO1 .e), 2, [1], ⟨pgl, []⟩⟩⟩]⟩
theorem qent6_ok : okEntG Tryz.prog ⟨[(217, 1, 0), (552, 2, 0), (611, 5, 0)], qtab6, lptab, [], [], []⟩ [] [] false 20000 qent6 = true := by kernel_rfl
def qtab7 : List Ent := qent6 :: qtab6
def qent7 : Ent := ⟨26, [.ptr 0 0], ⟨(.n qT16 qO1 .e), 2, [], ⟨pgl, []⟩⟩, [⟨.ret, .int .u8 1, .e, [], ⟨(.n qT17 qO1 .e), 2, [1], ⟨pgl, []⟩⟩⟩]⟩
theorem qent7_ok : okEntG Tryz.prog ⟨[(217, 1, 0), (552, 2, 0), (611, 5, 0)], qtab7, lptab, [], [], []⟩ [] [] false 20000 qent7 = true := by kernel_rfl
def qtab8 : List Ent := qent7 :: qtab7
def qent8 : Ent := ⟨26, [.ptr 0 0], ⟨(.n qT17 qO1 .e), 2, [], ⟨pgl, []⟩⟩, [⟨.ret, .int .u8 1, .e, [], ⟨(.n qT18 qO1 .e), 2, [1], ⟨pgl, []⟩⟩⟩]⟩
theorem qent8_ok : okEntG Tryz.prog ⟨[(217, 1, 0), (552, 2, 0), (611, 5, 0)], qtab8, lptab, [], [], []⟩ [] [] false 20000 qent8 = true := by kernel_rfl
def qtab9 : List Ent := qent8 :: qtab8
def qent9 : Ent := ⟨26, [.ptr 0 0], ⟨(.n qT19 qO1 .e), 2, [], ⟨pgl, []⟩⟩, [⟨.ret, .int .u8 0, .e, [], ⟨(.n qT20 qO1 .e), 2, [1], ⟨pgl, []⟩⟩⟩]⟩
theorem qent9_ok : okEntG Tryz.prog ⟨[(217, 1, 0), (552, 2, 0), (611, 5, 0)], qtab9, lptab, [], [], []⟩ [] [] false 20000 qent9 = true := by kernel_rfl
def qtab10 : List Ent := qent9 :: qtab9
def qent10 : Ent := ⟨27, [.ptr 0 0], ⟨(.n qT20 qO1 .e), 2, [], ⟨pgl, []⟩⟩, [⟨.ret, .int .u32 0, .e, [], ⟨(.n qT21 qO1 .e), 2, [1], ⟨pgl, []⟩⟩⟩]⟩
theorem qent10_ok : okEntG Tryz.prog ⟨[(217, 1, 0), (552, 2, 0), (611, 5, 0)], qtab10, lptab, [], [], []⟩ [] [] false 20000 qent10 = true := by kernel_rfl
def qtab11 : List Ent := qent10 :: qtab10
def qent11 : Ent := ⟨29, [.ptr 0 0], ⟨qT21, 1, [], ⟨pgl, []⟩⟩, [⟨.ret, .agg [.int .u8 0, .int .u32 0], .e, [], ⟨qT22, 5, [0], ⟨pgl, []⟩⟩⟩]⟩
theorem qent11_ok : okEntG Tryz.prog ⟨[(217, 1, 0), (552, 2, 0), (611, 5, 0)], qtab11, lptab, [], [], []⟩ [] [] false 20000 qent11 = true := by kernel_rfl
def qtab12 : List Ent := qent11 :: qtab11
def qent12 : Ent := ⟨29, [.ptr 0 0], ⟨qT23, 1, [], ⟨pgl, []⟩⟩, [⟨.ret, .agg [.int .u8 0, .int .u32 0], .e, [], ⟨qT24, 5, [0], ⟨pgl, []⟩⟩⟩]⟩
theorem qent12_ok : okEntG Tryz.prog ⟨[(217, 1, 0), (552, 2, 0), (611, 5, 0)], qtab12, lptab, [], [], []⟩ [] [] false 20000 qent12 = true := by kernel_rfl
def qtab13 : List Ent := qent12 :: qtab12
def qent13 : Ent := ⟨27, [.ptr 0 0], ⟨(.n qT25 qO1 .e), 2, [], ⟨pgl, []⟩⟩, [⟨.ret, .int .u32 0, .e, [], ⟨(.n qT26 qO1 .e), 2, [1], ⟨pgl, []⟩⟩⟩]⟩
theorem qent13_ok : okEntG Tryz.prog ⟨[(217, 1, 0), (552, 2, 0), (611, 5, 0)], qtab13, lptab, [], [], []⟩ [] [] false 20000 qent13 = true := by kernel_rfl
def qtab14 : List Ent := qent13 :: qtab13
def qent14 : Ent := ⟨26, [.ptr 0 0], ⟨(.n qT26 qO1 .e), 2, [], ⟨pgl, []⟩⟩, [⟨.ret, .int .u8 0, .e, [], ⟨(.n qT27 qO1 .e), 2, [1], ⟨pgl, []⟩⟩⟩]⟩
theorem qent14_ok : okEntG Tryz.prog ⟨[(217, 1, 0), (552, 2, 0), (611, 5, 0)], qtab14, lptab, [], [], []⟩ [] [] false 20000 qent14 = true := by kernel_rfl
def qtab15 : List Ent := qent14 :: qtab14
def qent15 : Ent := ⟨26, [.ptr 0 0], ⟨(.n qT27 qO1 .e), 2, [], ⟨pgl, []⟩⟩, [⟨.ret, .int .u8 0, .e, [], ⟨(.n qT28 qO1 .e), 2, [1], ⟨pgl, []⟩⟩⟩]⟩
theorem qent15_ok : okEntG Tryz.prog ⟨[(217, 1, 0), (552, 2, 0), (611, 5, 0)], qtab15, lptab, [], [], []⟩ [] [] false 20000 qent15 = true := by kernel_rfl
def qtab16 : List Ent := qent15 :: qtab15
def qent16 : Ent := ⟨25, [.ptr 0 0, .int .u64 18446744073709551615], ⟨qT28, 1, [], ⟨pgl, []⟩⟩, [⟨.ret, .int .u64 0, .e, [], ⟨qT29, 1, [0], ⟨pgl, []⟩⟩⟩]⟩
theorem qent16_ok : okEntG Tryz.prog ⟨[(217, 1, 0), (552, 2, 0), (611, 5, 0)], qtab16, lptab, [], [], []⟩ [] [] false 20000 qent16 = true := by kernel_rfl
def qtab17 : List Ent := qent16 :: qtab16
def qent17 : Ent := ⟨29, [.ptr 0 0], ⟨qT29, 1, [], ⟨pgl, []⟩⟩, [⟨.ret, .agg [.int .u8 0, .int .u32 0], .e, [], ⟨qT30, 5, [0], ⟨pgl, []⟩⟩⟩]⟩
theorem qent17_ok : okEntG Tryz.prog ⟨[(217, 1, 0), (552, 2, 0), (611, 5, 0)], qtab17, lptab, [], [], []⟩ [] [] false 20000 qent17 = true := by kernel_rfl
def qtab18 : List Ent := qent17 :: qtab17
def qent18 : Ent := ⟨29, [.ptr 0 0], ⟨qT31, 1, [], ⟨pgl, []⟩⟩, [⟨.ret, .agg [.int .u8 0, .int .u32 0], .e, [], ⟨qT32, 5, [0], ⟨pgl, []⟩⟩⟩]⟩
theorem qent18_ok : okEntG Tryz.prog ⟨[(217, 1, 0), (552, 2, 0), (611, 5, 0)], qtab18, lptab, [], [], []⟩ [] [] false 20000 qent18 = true := by kernel_rfl
def qtab19 : List Ent := qent18 :: qtab18
def qent19 : Ent := ⟨27, [.ptr 0 0], ⟨(.n qT33 qO1 .e), 2, [], ⟨pgl, []⟩⟩, [⟨.ret, .int .u32 0, .e, [], ⟨(.n qT34 qO1 .e), 2, [1], ⟨pgl, []⟩⟩⟩]⟩
theorem qent19_ok : okEntG Tryz.prog ⟨[(217, 1, 0), (552, 2, 0), (611, 5, 0)], qtab19, lptab, [], [], []⟩ [] [] false 20000 qent19 = true := by kernel_rfl
def qtab20 : List Ent := qent19 :: qtab19
def qent20 : Ent := ⟨27, [.ptr 0 0], ⟨(.n qT34 qO1 .e), 2, [], ⟨pgl, []⟩⟩, [⟨.ret, .int .u32 0, .e, [], ⟨(.n qT35 qO1 .e), 2, [1], ⟨pgl, []⟩⟩⟩]⟩
theorem qent20_ok : okEntG Tryz.prog ⟨[(217, 1, 0), (552, 2, 0), (611, 5, 0)], qtab20, lptab, [], [], []⟩ [] [] false 20000 qent20 = true := by kernel_rfl
def qtab21 : List Ent := qent20 :: qtab20
def qent21 : Ent := ⟨27, [.ptr 0 0], ⟨(.n qT35 qO1 .e), 2, [], ⟨pgl, []⟩⟩, [⟨.ret, .int .u32 0, .e, [], ⟨(.n qT36 qO1 .e), 2, [1], ⟨pgl, []⟩⟩⟩]⟩
theorem qent21_ok : okEntG Tryz.prog ⟨[(217, 1, 0), (552, 2, 0), (611, 5, 0)], qtab21, lptab, [], [], []⟩ [] [] false 20000 qent21 = true := by kernel_rfl
def qtab22 : List Ent := qent21 :: qtab21
def qent22 : Ent := ⟨28, [.ptr 0 0, .ptr 1 0, .ptr 2 0, .ptr 3 0], ⟨qT39, 5, [], ⟨pgl, []⟩⟩, [⟨.ret, .agg qL5, .e, [], ⟨qT43, 26, [4], ⟨pgl, []⟩⟩⟩]⟩
theorem qent22_ok : okEntG Tryz.prog ⟨[(217, 1, 0), (552, 2, 0), (611, 5, 0)], qtab22, lptab, [], [], []⟩ [] [] false 20000 qent22 = true := by kernel_rfl
def qtab23 : List Ent := qent22 :: qtab22
def qent23 : Ent := ⟨108, [.ptr 0 0], ⟨qT44, 3, [], ⟨pgl, []⟩⟩, [⟨.ret, .ptr 5 0, .e, [], ⟨qT48, 6, [], ⟨pgl, []⟩⟩⟩]⟩
theorem qent23_ok : okEntG Tryz.prog ⟨[(217, 1, 0), (552, 2, 0), (611, 5, 0)], qtab23, lptab, [], [], []⟩ [] [] false 20000 qent23 = true := by kernel_rfl
def qtab24 : List Ent := qent23 :: qtab23
def qent24 : Ent := ⟨112, [.ptr 0 0, .int .i64 100], ⟨qT44, 3, [], ⟨pgl, []⟩⟩, [⟨.ret, .tup [.ptr 15 0, .int .i64 0], .e, [], ⟨qT53, 16, [], ⟨pgl, []⟩⟩⟩]⟩
theorem qent24_ok : okEntG Tryz.prog ⟨[(217, 1, 0), (552, 2, 0), (611, 5, 0)], qtab24, lptab, [], [], []⟩ [] [] false 20000 qent24 = true := by kernel_rfl
def qtab25 : List Ent := qent24 :: qtab24
def qent25 : Ent := ⟨113, [.int .i64 2, .agg qL36], ⟨.e, 0, [], ⟨pgl, []⟩⟩, [⟨.ret, .tup [.ptr 2 0, .int .i64 0], .e, [], ⟨qT55, 3, [], ⟨pgl, []⟩⟩⟩]⟩
theorem qent25_ok : okEntG Tryz.prog ⟨[(217, 1, 0), (552, 2, 0), (611, 5, 0)], qtab25, lptab, [], [], []⟩ [] [] false 20000 qent25 = true := by kernel_rfl
def qtab26 : List Ent := qent25 :: qtab25
def qent26 : Ent := ⟨429, [.agg qL36, .agg qL36, .ptr 0 0], ⟨(qlf qO3), 1, [], ⟨pgl, []⟩⟩, [⟨.ret, .agg qL36, .e, [], ⟨qT56, 4, [], ⟨pgl, []⟩⟩⟩]⟩
theorem qent26_ok : okEntG Tryz.prog ⟨[(217, 1, 0), (552, 2, 0), (611, 5, 0)], qtab26, lptab, [], [], []⟩ [] [] false 20000 qent26 = true := by kernel_rfl
def qtab27 : List Ent := qent26 :: qtab26
def qent27 : Ent := ⟨181, [.agg qL36, .agg qL36], ⟨.e, 0, [], ⟨pgl, []⟩⟩, [⟨.ret, .bool true, .e, [], ⟨qT57, 14, [], ⟨pgl, []⟩⟩⟩]⟩
theorem qent27_ok : okEntG Tryz.prog ⟨[(217, 1, 0), (552, 2, 0), (611, 5, 0)], qtab27, lptab, [], [], []⟩ [] [] false 20000 qent27 = true := by kernel_rfl
def qtab28 : List Ent := qent27 :: qtab27
def qent28 : Ent := ⟨118, [.ptr 0 0, .agg qL36], ⟨qT58, 1, [], ⟨pgl, []⟩⟩, [⟨.ret, .int .i64 0, .e, [], ⟨qT59, 20, [0], ⟨pgl, []⟩⟩⟩]⟩
theorem qent28_ok : okEntG Tryz.prog ⟨[(217, 1, 0), (552, 2, 0), (611, 5, 0)], qtab28, lptab, [], [], []⟩ [] [] false 20000 qent28 = true := by kernel_rfl
def qtab29 : List Ent := qent28 :: qtab28
def qent29 : Ent := ⟨118, [.ptr 0 0, .agg qL36], ⟨qT60, 1, [], ⟨pgl, []⟩⟩, [⟨.ret, .int .i64 0, .e, [], ⟨qT61, 20, [0], ⟨pgl, []⟩⟩⟩]⟩
theorem qent29_ok : okEntG Tryz.prog ⟨[(217, 1, 0), (552, 2, 0), (611, 5, 0)], qtab29, lptab, [], [], []⟩ [] [] false 20000 qent29 = true := by kernel_rfl
def qtab30 : List Ent := qent29 :: qtab29
def qent30 : Ent := ⟨213, [.agg qL40], ⟨.e, 0, [], ⟨pgl, []⟩⟩, [⟨.ret, .bool true, .e, [], ⟨(.n (qlf none) none .e), 2, [], ⟨pgl, []⟩⟩⟩]⟩
theorem qent30_ok : okEntG Tryz.prog ⟨[(217, 1, 0), (552, 2, 0), (611, 5, 0)], qtab30, lptab, [], [], []⟩ [] [] false 20000 qent30 = true := by kernel_rfl
def qtab31 : List Ent := qent30 :: qtab30
def qent31 : Ent := ⟨37, [.ptr 0 0, .agg qL5], ⟨qT80, 32, [], ⟨pgl, []⟩⟩, [⟨.ret, .agg qL56, .e, [], ⟨qT92, 108, [3], ⟨pgl, []⟩⟩⟩]⟩
theorem qent31_ok : okEntG Tryz.prog ⟨[(217, 1, 0), (552, 2, 0), (611, 5, 0)], qtab31, lptab, [], [], []⟩ [] [] false 20000 qent31 = true := by kernel_rfl
def qtab32 : List Ent := qent31 :: qtab31
def qent32 : Ent := ⟨14, [.str [2, 8, 100, 130, 3, 232, 1, 1, 1, 0, 0, 0, 0, 0, 0, 0, 0, 0, 0, 0, 0, 0, 0, 0, 0, 0, 0, 0, 0, 0]], ⟨.e, 0, [], ⟨pgl, []⟩⟩, [⟨.ret, .tup qL59, .e, [], ⟨(.n qT102 none qT109), 229, [], ⟨pgl, []⟩⟩⟩]⟩
theorem qent32_ok : okEntG Tryz.prog ⟨[(217, 1, 0), (552, 2, 0), (611, 5, 0)], qtab32, lptab, [], [], []⟩ [] [] false 20000 qent32 = true := by kernel_rfl
def qtab33 : List Ent := qent32 :: qtab32
def qent33 : Ent := ⟨35, [.agg qL5], ⟨.e, 0, [], ⟨pgl, []⟩⟩, [⟨.ret, .str [1, 1, 0, 0, 0, 0, 0, 0, 0, 0, 0, 0, 0, 0, 0, 0, 0, 0, 0, 0, 0, 0, 0], .e, [], ⟨qT112, 92, [], ⟨pgl, []⟩⟩⟩]⟩
theorem qent33_ok : okEntG Tryz.prog ⟨[(217, 1, 0), (552, 2, 0), (611, 5, 0)], qtab33, lptab, [], [], []⟩ [] [] false 20000 qent33 = true := by kernel_rfl
def qtab34 : List Ent := qent33 :: qtab33
theorem qokk1 (hm : Tryz.prog.follows .mixedOrders = true) (hN : okNames Tryz.prog = true) {U : Int} (hP : PrimOkL Tryz.prog [(217, 1, 0), (552, 2, 0), (611, 5, 0)]) (hPT : PTabOk Tryz.prog lptab) : TabOk Tryz.prog (AnyOk Tryz.prog U) U qtab34 := by
 have h0 : TabOk Tryz.prog (AnyOk Tryz.prog U) U qtab0 := tab_nil
 have h1 : TabOk Tryz.prog (AnyOk Tryz.prog U) U qtab1 := okEntG_cons hm hN (prOk_tab hP h0 hPT) teq_nil lemD_nil qent0_ok h0
 have h2 : TabOk Tryz.prog (AnyOk Tryz.prog U) U qtab2 := okEntG_cons hm hN (prOk_tab hP h1 hPT) teq_nil lemD_nil qent1_ok h1
 have h3 : TabOk Tryz.prog (AnyOk Tryz.prog U) U qtab3 := okEntG_cons hm hN (prOk_tab hP h2 hPT) teq_nil lemD_nil qent2_ok h2
 have h4 : TabOk Tryz.prog (AnyOk Tryz.prog U) U qtab4 := okEntG_cons hm hN (prOk_tab hP h3 hPT) teq_nil lemD_nil qent3_ok h3
 have h5 : TabOk Tryz.prog (AnyOk Tryz.prog U) U qtab5 := okEntG_cons hm hN (prOk_tab hP h4 hPT) teq_nil lemD_nil qent4_ok h4
 have h6 : TabOk Tryz.prog (AnyOk Tryz.prog U) U qtab6 := okEntG_cons hm hN (prOk_tab hP h5 hPT) teq_nil lemD_nil qent5_ok h5
 have h7 : TabOk Tryz.prog (AnyOk Tryz.prog U) U qtab7 := okEntG_cons hm hN (prOk_tab hP h6 hPT) teq_nil lemD_nil qent6_ok h6
 have h8 : TabOk Tryz.prog (AnyOk Tryz.prog U) U qtab8 := okEntG_cons hm hN (prOk_tab hP h7 hPT) teq_nil lemD_nil qent7_ok h7
 have h9 : TabOk Tryz.prog (AnyOk Tryz.prog U) U qtab9 := okEntG_cons hm hN (prOk_tab hP h8 hPT) teq_nil lemD_nil qent8_ok h8
 have h10 : TabOk Tryz.prog (AnyOk Tryz.prog U) U qtab10 := okEntG_cons hm hN (prOk_tab hP h9 hPT) teq_nil lemD_nil qent9_ok h9
 have h11 : TabOk Tryz.prog (AnyOk Tryz.prog U) U qtab11 := okEntG_cons hm hN (prOk_tab hP h10 hPT) teq_nil lemD_nil qent10_ok h10
 have h12 : TabOk Tryz.prog (AnyOk Tryz.prog U) U qtab12 := okEntG_cons hm hN (prOk_tab hP h11 hPT) teq_nil lemD_nil qent11_ok h11
 have h13 : TabOk Tryz.prog (AnyOk Tryz.prog U) U qtab13 := okEntG_cons hm hN (prOk_tab hP h12 hPT) teq_nil lemD_nil qent12_ok h12
 have h14 : TabOk Tryz.prog (AnyOk Tryz.prog U) U qtab14 := okEntG_cons hm hN (prOk_tab hP h13 hPT) teq_nil lemD_nil qent13_ok h13
 have h15 : TabOk Tryz.prog (AnyOk Tryz.prog U) U qtab15 := okEntG_cons hm hN (prOk_tab hP h14 hPT) teq_nil lemD_nil qent14_ok h14
 have h16 : TabOk Tryz.prog (AnyOk Tryz.prog U) U qtab16 := okEntG_cons hm hN (prOk_tab hP h15 hPT) teq_nil lemD_nil qent15_ok h15
 have h17 : TabOk Tryz.prog (AnyOk Tryz.prog U) U qtab17 := okEntG_cons hm hN (prOk_tab hP h16 hPT) teq_nil lemD_nil qent16_ok h16
 have h18 : TabOk Tryz.prog (AnyOk Tryz.prog U) U qtab18 := okEntG_cons hm hN (prOk_tab hP h17 hPT) teq_nil lemD_nil qent17_ok h17
 have h19 : TabOk Tryz.prog (AnyOk Tryz.prog U) U qtab19 := okEntG_cons hm hN (prOk_tab hP h18 hPT) teq_nil lemD_nil qent18_ok h18
 have h20 : TabOk Tryz.prog (AnyOk Tryz.prog U) U qtab20 := okEntG_cons hm hN (prOk_tab hP h19 hPT) teq_nil lemD_nil qent19_ok h19
 have h21 : TabOk Tryz.prog (AnyOk Tryz.prog U) U qtab21 := okEntG_cons hm hN (prOk_tab hP h20 hPT) teq_nil lemD_nil qent20_ok h20
 have h22 : TabOk Tryz.prog (AnyOk Tryz.prog U) U qtab22 := okEntG_cons hm hN (prOk_tab hP h21 hPT) teq_nil lemD_nil qent21_ok h21
 have h23 : TabOk Tryz.prog (AnyOk Tryz.prog U) U qtab23 := okEntG_cons hm hN (prOk_tab hP h22 hPT) teq_nil lemD_nil qent22_ok h22
 have h24 : TabOk Tryz.prog (AnyOk Tryz.prog U) U qtab24 := okEntG_cons hm hN (prOk_tab hP h23 hPT) teq_nil lemD_nil qent23_ok h23
 have h25 : TabOk Tryz.prog (AnyOk Tryz.prog U) U qtab25 := okEntG_cons hm hN (prOk_tab hP h24 hPT) teq_nil lemD_nil qent24_ok h24
 have h26 : TabOk Tryz.prog (AnyOk Tryz.prog U) U qtab26 := okEntG_cons hm hN (prOk_tab hP h25 hPT) teq_nil lemD_nil qent25_ok h25
 have h27 : TabOk Tryz.prog (AnyOk Tryz.prog U) U qtab27 := okEntG_cons hm hN (prOk_tab hP h26 hPT) teq_nil lemD_nil qent26_ok h26
 have h28 : TabOk Tryz.prog (AnyOk Tryz.prog U) U qtab28 := okEntG_cons hm hN (prOk_tab hP h27 hPT) teq_nil lemD_nil qent27_ok h27
 have h29 : TabOk Tryz.prog (AnyOk Tryz.prog U) U qtab29 := okEntG_cons hm hN (prOk_tab hP h28 hPT) teq_nil lemD_nil qent28_ok h28
 have h30 : TabOk Tryz.prog (AnyOk Tryz.prog U) U qtab30 := okEntG_cons hm hN (prOk_tab hP h29 hPT) teq_nil lemD_nil qent29_ok h29
 have h31 : TabOk Tryz.prog (AnyOk Tryz.prog U) U qtab31 := okEntG_cons hm hN (prOk_tab hP h30 hPT) teq_nil lemD_nil qent30_ok h30
 have h32 : TabOk Tryz.prog (AnyOk Tryz.prog U) U qtab32 := okEntG_cons hm hN (prOk_tab hP h31 hPT) teq_nil lemD_nil qent31_ok h31
 have h33 : TabOk Tryz.prog (AnyOk Tryz.prog U) U qtab33 := okEntG_cons hm hN (prOk_tab hP h32 hPT) teq_nil lemD_nil qent32_ok h32
 have h34 : TabOk Tryz.prog (AnyOk Tryz.prog U) U qtab34 := okEntG_cons hm hN (prOk_tab hP h33 hPT) teq_nil lemD_nil qent33_ok h33
 exact h34
end Go.Proofs.YtcjbpaiomcfgnaaGreatDoor
