/-
  The compiled form of functions of the program, written by a program of ours: 'compF' gives it, by the kernel.
-/
import Derived.Test.YtlajkgaclihhiaaVI
import Derived.Test.YtlajkgaclihhiaaProg
import Derived.KernelRfl
set_option linter.all false
set_option linter.unusedSimpArgs false
set_option linter.unusedVariables false
set_option linter.unnecessarySimpa false
namespace Go.Proofs.Ytlajkgaclihhiaa
open Go Go.Proofs.Ytlajkgaclihhiaa.V Go.Proofs

noncomputable abbrev prog : Program := Try.prog
abbrev ty_int64 : Nat := 2
abbrev ty_int : Nat := 3
abbrev ty_bool : Nat := 4
abbrev ty_uint8 : Nat := 5
abbrev ty_string : Nat := 9
abbrev ty_uintptr : Nat := 12
abbrev ty_maps_unhashableTypeError : Nat := 19
abbrev ty_int32 : Nat := 21
abbrev ty_sl_api_Entry : Nat := 22
abbrev ty_p_ring_Ring : Nat := 24
abbrev ty_api_Entry : Nat := 28
abbrev ty_ring_Ring : Nat := 39
abbrev ty_uint32 : Nat := 47
abbrev ty_p_uint8 : Nat := 51
abbrev ty_unsafe_Pointer : Nat := 56
theorem mixedOk : prog.follows .mixedOrders = true := by kernel_rfl
abbrev cT : Operand := .const (.bool true)
abbrev cF : Operand := .const (.bool false)
abbrev ci (n : Int) : Operand := .const (.int .i64 n)
abbrev mv (d x : Nat) : ROp := L d (.mov (t x))
abbrev mo (d : Nat) (x : Operand) : ROp := L d (.mov x)
abbrev l1 (d x : Nat) : ROp := L d (.ld 1 false (t x))
abbrev fo (d i x : Nat) : ROp := L d (.fa i (t x))
abbrev ln (d x : Nat) : ROp := L d (.len (t x))
abbrev gm (d g : Nat) (b : Bool) (x : Nat) : ROp := LG d g b (.mov (t x))
abbrev g1 (d g : Nat) (b : Bool) (x : Nat) : ROp := LG d g b (.ld 1 false (t x))
abbrev gf (d g : Nat) (b : Bool) (i x : Nat) : ROp := LG d g b (.fa i (t x))
abbrev z0 : List Value := [(.slice none 0 0), (.int .i64 0), (.int .i64 0)]
abbrev z1 : List Value := [(.int .i64 0), (.int .i64 0)]
abbrev n_law_RingCopies : Nat := 3
noncomputable abbrev f_law_RingCopies : Func := Try.f3
def fs_law_RingCopies : FS := ⟨2, (.seq (.reg [mo 4 cF]) (.seq (.seq (.reg [mv 12 0, ln 13 12, L 14 (.bin .gtr 3 (t 13) (ci 40))]) (.cond (t 14) (.seq (.reg [F 15 4 [], mv 4 15]) .ret) .nop)) (.seq (.reg [F 16 5 [], mv 5 16]) (.seq (.seq (.reg [mv 17 5, L 18 (.eqp false (t 17) (.const (.pointer none)))]) (.cond (t 18) (.seq (.reg [mo 4 cF]) .ret) .nop)) (.seq (.seq (.reg [mo 6 (ci 0)]) (.block 0 (.loop (.seq (.seq (.reg [mv 19 6, mv 20 0, ln 21 20, L 22 (.bin .lss 3 (t 19) (t 21))]) (.cond (t 22) .nop (.exit 0))) (.seq (.block 1 (.reg [mv 25 5, mv 26 0, mv 27 6, L 28 (.iaS 2 (t 26) (t 27)), L 29 (.ld 2 true (t 28)), F 30 6 [(t 25), (t 29)]])) (.reg [mv 23 6, L 24 (.bin .add 3 (t 23) (ci 1)), mv 6 24])))))) (.seq (.reg [mv 31 5, F 32 7 [(t 31)], mv 7 32]) (.seq (.seq (.reg [mv 33 7, L 34 (.eqp false (t 33) (.const (.pointer none))), mv 35 34, gm 36 35 false 7, FG 37 35 false 9 [(t 36)], gm 38 35 false 0, FG 39 35 false 8 [(t 37), (t 38)], LG 40 35 false (.un .not (t 39)), L 41 (.pick (t 35) cT (t 40))]) (.cond (t 41) (.seq (.reg [mo 4 cF]) .ret) .nop)) (.seq (.reg [mv 42 1, mv 43 0, ln 44 43, L 45 (.bin .add 3 (t 44) (ci 1)), F 46 10 [(t 42), (t 45)], mv 1 46]) (.seq (.seq (.reg [mo 8 (ci 0)]) (.block 2 (.loop (.seq (.seq (.reg [mv 47 8, mv 48 1, L 49 (.bin .lss 3 (t 47) (t 48))]) (.cond (t 49) .nop (.exit 2))) (.seq (.block 3 (.reg [mv 52 7, F 53 11 [(t 52)]])) (.reg [mv 50 8, L 51 (.bin .add 3 (t 50) (ci 1)), mv 8 51])))))) (.seq (.reg [mv 54 7, L 55 (.bld z1 [(0, 1), (1, 1)] [(0, (ci 99))]), F 56 6 [(t 54), (t 55)]]) (.seq (.reg [mv 57 5, F 58 9 [(t 57)], mv 9 58]) (.seq (.seq (.reg [mo 10 (ci 0)]) (.block 4 (.loop (.seq (.seq (.reg [mv 59 10, mv 60 9, ln 61 60, L 62 (.bin .lss 3 (t 59) (t 61))]) (.cond (t 62) .nop (.exit 4))) (.seq (.block 5 (.reg [mv 65 9, mv 66 10, L 67 (.bld z1 [(0, 1), (1, 1)] [(0, (ci (-5))), (1, (ci (-5)))]), L 68 (.iaS 2 (t 65) (t 66)), HN (.store 2 (t 68) (t 67))])) (.reg [mv 63 10, L 64 (.bin .add 3 (t 63) (ci 1)), mv 10 64])))))) (.seq (.reg [mv 69 0, mv 70 1, L 71 (.slc 2 (t 69) (some (t 70)) none), H 72 (.append 28 2 16 (.const (.slice none 0 0)) (t 71)), L 73 (.bld z1 [(0, 1), (1, 1)] [(0, (ci 99))]), A 74 (.row 28 2 1 z1 [(0, (t 73))]), H 75 (.append 28 2 16 (t 72) (t 74)), mv 11 75]) (.seq (.reg [mv 76 5, F 77 9 [(t 76)], mv 78 0, F 79 8 [(t 77), (t 78)], mv 80 79, gm 81 80 true 7, FG 82 80 true 9 [(t 81)], gm 83 80 true 11, FG 84 80 true 8 [(t 82), (t 83)], L 85 (.pick (t 80) (t 84) cF), mv 86 85, FG 87 86 true 4 [], L 88 (.pick (t 86) (t 87) cF), mv 4 88]) .ret)))))))))))))), [(4, none)]⟩
theorem ok_law_RingCopies : compF prog f_law_RingCopies = some fs_law_RingCopies := by kernel_rfl
abbrev n_law_alive : Nat := 4
noncomputable abbrev f_law_alive : Func := Try.f4
def fs_law_alive : FS := ⟨0, (.seq (.reg [mo 0 cF]) (.seq (.reg [F 6 5 [], mv 1 6]) (.seq (.seq (.reg [mv 7 1, L 8 (.eqp false (t 7) (.const (.pointer none)))]) (.cond (t 8) (.seq (.reg [mo 0 cF]) .ret) .nop)) (.seq (.reg [mv 9 1, L 10 (.bld z1 [(0, 1), (1, 1)] [(0, (ci 1)), (1, (ci 5))]), F 11 6 [(t 9), (t 10)]]) (.seq (.reg [mv 12 1, L 13 (.bld z1 [(0, 1), (1, 1)] [(0, (ci 1)), (1, (ci 7))]), F 14 6 [(t 12), (t 13)]]) (.seq (.reg [mv 16 1, F 17 12 [(t 16), (ci 1)], mv 15 17, L 18 (.ext 0 (t 15)), L 19 (.ext 1 (t 15)), mv 2 18, mv 3 19]) (.seq (.reg [mv 21 1, F 22 11 [(t 21)], mv 20 22, L 23 (.ext 0 (t 20)), L 24 (.ext 1 (t 20)), A 4 (.cells z1 28), HN (.store 2 (t 4) (t 23)), mv 5 24]) (.seq (.reg [mv 25 2, L 26 (.bin .eql 2 (t 25) (ci 7)), mv 27 26, gm 28 27 true 3, L 29 (.pick (t 27) (t 28) cF), mv 30 29, LG 31 30 true (.ld 2 true (t 4)), LG 32 30 true (.bld z1 [(0, 1), (1, 1)] [(0, (ci 1)), (1, (ci 5))]), LG 33 30 true (.bin .eql 28 (t 31) (t 32)), L 34 (.pick (t 30) (t 33) cF), mv 35 34, gm 36 35 true 5, L 37 (.pick (t 35) (t 36) cF), mv 38 37, gm 39 38 true 1, FG 40 38 true 13 [(t 39)], LG 41 38 true (.bin .eql 3 (t 40) (ci 1)), L 42 (.pick (t 38) (t 41) cF), mv 0 42]) .ret)))))))), [(0, none)]⟩
theorem ok_law_alive : compF prog f_law_alive = some fs_law_alive := by kernel_rfl
abbrev n_ring_New : Nat := 5
noncomputable abbrev f_ring_New : Func := Try.f5
def fs_ring_New : FS := ⟨0, (.seq (.reg [L 0 (.mov (.const (.pointer none)))]) (.seq (.reg [L 1 (.bld z0 [(0, 1), (1, 1), (2, 1)] []), A 2 (.box 3 39 (t 1)), mv 0 2]) .ret)), [(0, none)]⟩
theorem ok_ring_New : compF prog f_ring_New = some fs_ring_New := by kernel_rfl
abbrev n_ring_Ring_Push : Nat := 6
noncomputable abbrev f_ring_Ring_Push : Func := Try.f6
def fs_ring_Ring_Push : FS := ⟨2, (.seq (.reg [A 3 (.box 2 28 (t 1))]) (.seq (.seq (.reg [mv 5 0, L 6 (.eqp false (t 5) (.const (.pointer none)))]) (.cond (t 6) .ret .nop)) (.seq (.seq (.reg [mv 7 0, L 8 (.nilchk (t 7)), fo 9 2 8, l1 10 9, mv 11 0, L 12 (.nilchk (t 11)), fo 13 0 12, l1 14 13, ln 15 14, L 16 (.bin .eql 3 (t 10) (t 15))]) (.cond (t 16) (.seq (.reg [mv 17 0, L 18 (.nilchk (t 17)), fo 19 2 18, l1 20 19, L 21 (.bin .mul 3 (ci 2) (t 20)), L 22 (.bin .add 3 (t 21) (ci 2)), A 23 (.make 28 2 16 z1 (t 22) (t 22)), mv 4 23]) (.seq (.reg [mv 24 4, mv 25 0, F 26 9 [(t 25)], H 27 (.copy 2 (t 24) (t 26))]) (.reg [mv 28 0, mv 29 0, mv 30 4, L 31 (.nilchk (t 28)), fo 32 0 31, HN (.store 1 (t 32) (t 30)), L 33 (.nilchk (t 29)), fo 34 1 33, HN (.store 1 (t 34) (ci 0))]))) .nop)) (.seq (.reg [mv 35 0, L 36 (.nilchk (t 35)), fo 37 0 36, l1 38 37, mv 39 0, mv 40 0, L 41 (.nilchk (t 40)), fo 42 2 41, l1 43 42, L 45 (.ld 2 true (t 3)), ⟨(some 44), none, .call 14 [(t 39), (t 43)], true, [(.ld 1 false (t 37)), (.ld 2 true (t 3))]⟩, L 46 (.iaS 2 (t 38) (t 44)), HN (.store 2 (t 46) (t 45))]) (.reg [mv 47 0, L 48 (.nilchk (t 47)), fo 49 2 48, l1 50 49, L 51 (.bin .add 3 (t 50) (ci 1)), L 52 (.nilchk (t 47)), fo 53 2 52, HN (.store 1 (t 53) (t 51))]))))), []⟩
theorem ok_ring_Ring_Push : compF prog f_ring_Ring_Push = some fs_ring_Ring_Push := by kernel_rfl
abbrev n_ring_Ring_Copy : Nat := 7
noncomputable abbrev f_ring_Ring_Copy : Func := Try.f7
def fs_ring_Ring_Copy : FS := ⟨1, (.seq (.reg [L 2 (.mov (.const (.pointer none)))]) (.seq (.seq (.reg [mv 3 0, L 4 (.eqp false (t 3) (.const (.pointer none)))]) (.cond (t 4) (.seq (.reg [L 2 (.mov (.const (.pointer none)))]) .ret) .nop)) (.seq (.reg [A 5 (.row 28 2 0 [] []), mv 6 0, L 7 (.nilchk (t 6)), fo 8 0 7, l1 9 8, mv 11 0, L 12 (.nilchk (t 11)), fo 13 1 12, l1 14 13, mv 15 0, L 16 (.nilchk (t 15)), fo 17 2 16, l1 18 17, ⟨(some 10), none, .heavy (.append 28 2 16 (t 5) (t 9)), false, [(.ld 1 false (t 13)), (.ld 1 false (t 17))]⟩, L 19 (.bld z0 [(0, 1), (1, 1), (2, 1)] [(0, (t 10)), (1, (t 14)), (2, (t 18))]), A 20 (.box 3 39 (t 19)), mv 2 20]) .ret))), [(2, none)]⟩
theorem ok_ring_Ring_Copy : compF prog f_ring_Ring_Copy = some fs_ring_Ring_Copy := by kernel_rfl
abbrev n_ref2_SameEntries : Nat := 8
noncomputable abbrev f_ref2_SameEntries : Func := Try.f8
def fs_ref2_SameEntries : FS := ⟨2, (.seq (.reg [mo 4 cF]) (.seq (.seq (.reg [mv 6 0, ln 7 6, mv 8 1, ln 9 8, L 10 (.bin .neq 3 (t 7) (t 9))]) (.cond (t 10) (.seq (.reg [mo 4 cF]) .ret) .nop)) (.seq (.seq (.reg [mo 5 (ci 0)]) (.block 0 (.loop (.seq (.seq (.reg [mv 11 5, mv 12 0, ln 13 12, L 14 (.bin .lss 3 (t 11) (t 13))]) (.cond (t 14) .nop (.exit 0))) (.seq (.block 1 (.seq (.reg [mv 17 0, mv 18 5, L 19 (.iaS 2 (t 17) (t 18)), L 20 (.ld 2 true (t 19)), mv 21 1, mv 22 5, L 23 (.iaS 2 (t 21) (t 22)), L 24 (.ld 2 true (t 23)), L 25 (.bin .neq 28 (t 20) (t 24))]) (.cond (t 25) (.seq (.reg [mo 4 cF]) .ret) .nop))) (.reg [mv 15 5, L 16 (.bin .add 3 (t 15) (ci 1)), mv 5 16])))))) (.seq (.reg [mo 4 cT]) .ret)))), [(4, none)]⟩
theorem ok_ref2_SameEntries : compF prog f_ref2_SameEntries = some fs_ref2_SameEntries := by kernel_rfl
abbrev n_ring_Ring_List : Nat := 9
noncomputable abbrev f_ring_Ring_List : Func := Try.f9
def fs_ring_Ring_List : FS := ⟨1, (.seq (.reg [L 2 (.mov (.const (.slice none 0 0)))]) (.seq (.reg [L 3 (.mov (.const (.slice none 0 0)))]) (.seq (.seq (.reg [mo 4 (ci 0)]) (.block 0 (.loop (.seq (.seq (.reg [mv 5 4, mv 6 0, F 7 13 [(t 6)], L 8 (.bin .lss 3 (t 5) (t 7))]) (.cond (t 8) .nop (.exit 0))) (.seq (.block 1 (.reg [mv 11 3, mv 12 0, L 13 (.nilchk (t 12)), fo 14 0 13, l1 15 14, mv 16 0, mv 17 4, ⟨(some 18), none, .call 14 [(t 16), (t 17)], true, [(.ld 1 false (t 14))]⟩, L 19 (.iaS 2 (t 15) (t 18)), L 20 (.ld 2 true (t 19)), A 21 (.row 28 2 1 z1 [(0, (t 20))]), H 22 (.append 28 2 16 (t 11) (t 21)), mv 3 22])) (.reg [mv 9 4, L 10 (.bin .add 3 (t 9) (ci 1)), mv 4 10])))))) (.seq (.reg [mv 23 3, mv 2 23]) .ret)))), [(2, none)]⟩
theorem ok_ring_Ring_List : compF prog f_ring_Ring_List = some fs_ring_Ring_List := by kernel_rfl
abbrev n_book_Pick : Nat := 10
noncomputable abbrev f_book_Pick : Func := Try.f10
def fs_book_Pick : FS := ⟨2, (.seq (.reg [mo 4 (ci 0)]) (.seq (.reg [mv 5 0, mv 6 1, L 7 (.bin .rem 3 (t 5) (t 6)), mv 0 7]) (.seq (.seq (.reg [mv 8 0, L 9 (.bin .lss 3 (t 8) (ci 0))]) (.cond (t 9) (.reg [mv 10 0, mv 11 1, L 12 (.bin .add 3 (t 10) (t 11)), mv 0 12]) .nop)) (.seq (.reg [mv 13 0, mv 4 13]) .ret)))), [(4, none)]⟩
theorem ok_book_Pick : compF prog f_book_Pick = some fs_book_Pick := by kernel_rfl
abbrev n_ring_Ring_Pop : Nat := 11
noncomputable abbrev f_ring_Ring_Pop : Func := Try.f11
def fs_ring_Ring_Pop : FS := ⟨1, (.seq (.reg [A 2 (.cells z1 28), mo 3 cF]) (.seq (.seq (.reg [mv 5 0, F 6 13 [(t 5)], L 7 (.bin .eql 3 (t 6) (ci 0))]) (.cond (t 7) (.seq (.reg [L 8 (.bld z1 [(0, 1), (1, 1)] []), HN (.store 2 (t 2) (t 8)), mo 3 cF]) .ret) .nop)) (.seq (.reg [mv 9 0, L 10 (.nilchk (t 9)), fo 11 0 10, l1 12 11, mv 13 0, L 14 (.nilchk (t 13)), fo 15 1 14, l1 16 15, L 17 (.iaS 2 (t 12) (t 16)), L 18 (.ld 2 true (t 17)), A 4 (.cells z1 28), HN (.store 2 (t 4) (t 18))]) (.seq (.reg [mv 19 0, mv 20 0, F 21 14 [(t 20), (ci 1)], L 22 (.nilchk (t 19)), fo 23 1 22, HN (.store 1 (t 23) (t 21))]) (.seq (.reg [mv 24 0, L 25 (.nilchk (t 24)), fo 26 2 25, l1 27 26, L 28 (.bin .sub 3 (t 27) (ci 1)), L 29 (.nilchk (t 24)), fo 30 2 29, HN (.store 1 (t 30) (t 28))]) (.seq (.reg [L 31 (.ld 2 true (t 4)), HN (.store 2 (t 2) (t 31)), mo 3 cT]) .ret)))))), [(2, (some (2, true))), (3, none)]⟩
theorem ok_ring_Ring_Pop : compF prog f_ring_Ring_Pop = some fs_ring_Ring_Pop := by kernel_rfl
abbrev n_ring_Ring_Last : Nat := 12
noncomputable abbrev f_ring_Ring_Last : Func := Try.f12
def fs_ring_Ring_Last : FS := ⟨2, (.seq (.reg [mo 4 (ci 0), mo 5 cF]) (.seq (.seq (.reg [mv 8 0, F 9 13 [(t 8)], L 10 (.bin .sub 3 (t 9) (ci 1)), mv 6 10]) (.block 0 (.loop (.seq (.seq (.reg [mv 11 6, L 12 (.bin .geq 3 (t 11) (ci 0))]) (.cond (t 12) .nop (.exit 0))) (.seq (.block 1 (.seq (.reg [mv 15 0, L 16 (.nilchk (t 15)), fo 17 0 16, l1 18 17, mv 19 0, mv 20 6, A 7 (.cells z1 28), ⟨(some 21), none, .call 14 [(t 19), (t 20)], true, [(.ld 1 false (t 17))]⟩, L 22 (.iaS 2 (t 18) (t 21)), L 23 (.ld 2 true (t 22)), HN (.store 2 (t 7) (t 23))]) (.seq (.reg [fo 24 0 7, l1 25 24, mv 26 1, L 27 (.bin .eql 3 (t 25) (t 26))]) (.cond (t 27) (.seq (.reg [fo 28 1 7, l1 29 28, mv 4 29, mo 5 cT]) .ret) .nop)))) (.reg [mv 13 6, L 14 (.bin .sub 3 (t 13) (ci 1)), mv 6 14])))))) (.seq (.reg [mo 4 (ci 0), mo 5 cF]) .ret))), [(4, none), (5, none)]⟩
theorem ok_ring_Ring_Last : compF prog f_ring_Ring_Last = some fs_ring_Ring_Last := by kernel_rfl
abbrev n_ring_Ring_Len : Nat := 13
noncomputable abbrev f_ring_Ring_Len : Func := Try.f13
def fs_ring_Ring_Len : FS := ⟨1, (.seq (.reg [mo 2 (ci 0)]) (.seq (.seq (.reg [mv 3 0, L 4 (.eqp false (t 3) (.const (.pointer none)))]) (.cond (t 4) (.seq (.reg [mo 2 (ci 0)]) .ret) .nop)) (.seq (.reg [mv 5 0, L 6 (.nilchk (t 5)), fo 7 2 6, l1 8 7, mv 2 8]) .ret))), [(2, none)]⟩
theorem ok_ring_Ring_Len : compF prog f_ring_Ring_Len = some fs_ring_Ring_Len := by kernel_rfl
abbrev n_ring_Ring_place : Nat := 14
noncomputable abbrev f_ring_Ring_place : Func := Try.f14
def fs_ring_Ring_place : FS := ⟨2, (.seq (.reg [mo 4 (ci 0)]) (.seq (.reg [mv 5 0, L 6 (.nilchk (t 5)), fo 7 1 6, l1 8 7, mv 9 1, L 10 (.bin .add 3 (t 8) (t 9)), mv 11 0, L 12 (.nilchk (t 11)), fo 13 0 12, l1 14 13, ln 15 14, L 16 (.bin .rem 3 (t 10) (t 15)), mv 4 16]) .ret)), [(4, none)]⟩
theorem ok_ring_Ring_place : compF prog f_ring_Ring_place = some fs_ring_Ring_place := by kernel_rfl
end Go.Proofs.Ytlajkgaclihhiaa
