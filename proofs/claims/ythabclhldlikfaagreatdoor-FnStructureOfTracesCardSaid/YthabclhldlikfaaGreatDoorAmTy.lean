/-
  Facts on the types of the translation, written by a program of this session (wip/gen/seat.py).
-/
import Derived.Test.YthabclhldlikfaaGreatDoorAmOps
import Derived.Test.YthabclhldlikfaaGreatDoorProg
import Derived.KernelRfl
namespace Go.AM

@[simp] theorem ty_tok_1 : tok Go.Proofs.Tryz.prog 1 = true := by kernel_rfl
@[simp] theorem ty_sz_1 : tsize Go.Proofs.Tryz.prog 1 = 1 := by kernel_rfl
@[simp] theorem ty_by_1 : tbytes Go.Proofs.Tryz.prog 1 = 8 := by kernel_rfl
@[simp] theorem ty_ag_1 : tagg Go.Proofs.Tryz.prog 1 = false := by kernel_rfl
@[simp] theorem ty_ze_1 : tzero Go.Proofs.Tryz.prog 1 = some Value.nilFunc := by kernel_rfl
@[simp] theorem ty_tok_2 : tok Go.Proofs.Tryz.prog 2 = true := by kernel_rfl
@[simp] theorem ty_sz_2 : tsize Go.Proofs.Tryz.prog 2 = 1 := by kernel_rfl
@[simp] theorem ty_by_2 : tbytes Go.Proofs.Tryz.prog 2 = 8 := by kernel_rfl
@[simp] theorem ty_ag_2 : tagg Go.Proofs.Tryz.prog 2 = false := by kernel_rfl
@[simp] theorem ty_ze_2 : tzero Go.Proofs.Tryz.prog 2 = some (Value.int .i64 0) := by kernel_rfl
@[simp] theorem ty_in_2 : tint Go.Proofs.Tryz.prog 2 = some .i64 := by kernel_rfl
@[simp] theorem ty_tok_3 : tok Go.Proofs.Tryz.prog 3 = true := by kernel_rfl
@[simp] theorem ty_sz_3 : tsize Go.Proofs.Tryz.prog 3 = 1 := by kernel_rfl
@[simp] theorem ty_by_3 : tbytes Go.Proofs.Tryz.prog 3 = 8 := by kernel_rfl
@[simp] theorem ty_ag_3 : tagg Go.Proofs.Tryz.prog 3 = false := by kernel_rfl
@[simp] theorem ty_ze_3 : tzero Go.Proofs.Tryz.prog 3 = some (Value.int .i64 0) := by kernel_rfl
@[simp] theorem ty_in_3 : tint Go.Proofs.Tryz.prog 3 = some .i64 := by kernel_rfl
@[simp] theorem ty_tok_4 : tok Go.Proofs.Tryz.prog 4 = true := by kernel_rfl
@[simp] theorem ty_sz_4 : tsize Go.Proofs.Tryz.prog 4 = 1 := by kernel_rfl
@[simp] theorem ty_by_4 : tbytes Go.Proofs.Tryz.prog 4 = 1 := by kernel_rfl
@[simp] theorem ty_ag_4 : tagg Go.Proofs.Tryz.prog 4 = false := by kernel_rfl
@[simp] theorem ty_ze_4 : tzero Go.Proofs.Tryz.prog 4 = some (Value.bool false) := by kernel_rfl
@[simp] theorem ty_bo_4 : tbool Go.Proofs.Tryz.prog 4 = true := by kernel_rfl
@[simp] theorem ty_tok_5 : tok Go.Proofs.Tryz.prog 5 = true := by kernel_rfl
@[simp] theorem ty_sz_5 : tsize Go.Proofs.Tryz.prog 5 = 1 := by kernel_rfl
@[simp] theorem ty_by_5 : tbytes Go.Proofs.Tryz.prog 5 = 1 := by kernel_rfl
@[simp] theorem ty_ag_5 : tagg Go.Proofs.Tryz.prog 5 = false := by kernel_rfl
@[simp] theorem ty_ze_5 : tzero Go.Proofs.Tryz.prog 5 = some (Value.int .u8 0) := by kernel_rfl
@[simp] theorem ty_in_5 : tint Go.Proofs.Tryz.prog 5 = some .u8 := by kernel_rfl
@[simp] theorem ty_tok_6 : tok Go.Proofs.Tryz.prog 6 = true := by kernel_rfl
@[simp] theorem ty_sz_6 : tsize Go.Proofs.Tryz.prog 6 = 1 := by kernel_rfl
@[simp] theorem ty_by_6 : tbytes Go.Proofs.Tryz.prog 6 = 1 := by kernel_rfl
@[simp] theorem ty_ag_6 : tagg Go.Proofs.Tryz.prog 6 = false := by kernel_rfl
@[simp] theorem ty_ze_6 : tzero Go.Proofs.Tryz.prog 6 = some (Value.int .u8 0) := by kernel_rfl
@[simp] theorem ty_in_6 : tint Go.Proofs.Tryz.prog 6 = some .u8 := by kernel_rfl
@[simp] theorem ty_tok_7 : tok Go.Proofs.Tryz.prog 7 = true := by kernel_rfl
@[simp] theorem ty_sz_7 : tsize Go.Proofs.Tryz.prog 7 = 4 := by kernel_rfl
@[simp] theorem ty_by_7 : tbytes Go.Proofs.Tryz.prog 7 = 24 := by kernel_rfl
@[simp] theorem ty_ag_7 : tagg Go.Proofs.Tryz.prog 7 = true := by kernel_rfl
@[simp] theorem ty_ze_7 : tzero Go.Proofs.Tryz.prog 7 = some (Value.agg #[(Value.int .i64 0), (Value.int .i64 0), (Value.bool false), (Value.int .u8 0)]) := by kernel_rfl
@[simp] theorem ty_fi_7 : tfields Go.Proofs.Tryz.prog 7 = some [(0, 1), (1, 1), (2, 1), (3, 1)] := by kernel_rfl
@[simp] theorem ty_tok_8 : tok Go.Proofs.Tryz.prog 8 = true := by kernel_rfl
@[simp] theorem ty_sz_8 : tsize Go.Proofs.Tryz.prog 8 = 4 := by kernel_rfl
@[simp] theorem ty_by_8 : tbytes Go.Proofs.Tryz.prog 8 = 24 := by kernel_rfl
@[simp] theorem ty_ag_8 : tagg Go.Proofs.Tryz.prog 8 = true := by kernel_rfl
@[simp] theorem ty_ze_8 : tzero Go.Proofs.Tryz.prog 8 = some (Value.agg #[(Value.int .i64 0), (Value.int .i64 0), (Value.bool false), (Value.int .u8 0)]) := by kernel_rfl
@[simp] theorem ty_fi_8 : tfields Go.Proofs.Tryz.prog 8 = some [(0, 1), (1, 1), (2, 1), (3, 1)] := by kernel_rfl
@[simp] theorem ty_tok_9 : tok Go.Proofs.Tryz.prog 9 = true := by kernel_rfl
@[simp] theorem ty_sz_9 : tsize Go.Proofs.Tryz.prog 9 = 1 := by kernel_rfl
@[simp] theorem ty_by_9 : tbytes Go.Proofs.Tryz.prog 9 = 16 := by kernel_rfl
@[simp] theorem ty_ag_9 : tagg Go.Proofs.Tryz.prog 9 = false := by kernel_rfl
@[simp] theorem ty_ze_9 : tzero Go.Proofs.Tryz.prog 9 = some (Value.string ⟨#[]⟩) := by kernel_rfl
@[simp] theorem ty_st_9 : tstr Go.Proofs.Tryz.prog 9 = true := by kernel_rfl
@[simp] theorem ty_tok_10 : tok Go.Proofs.Tryz.prog 10 = true := by kernel_rfl
@[simp] theorem ty_sz_10 : tsize Go.Proofs.Tryz.prog 10 = 1 := by kernel_rfl
@[simp] theorem ty_by_10 : tbytes Go.Proofs.Tryz.prog 10 = 16 := by kernel_rfl
@[simp] theorem ty_ag_10 : tagg Go.Proofs.Tryz.prog 10 = false := by kernel_rfl
@[simp] theorem ty_ze_10 : tzero Go.Proofs.Tryz.prog 10 = some (Value.string ⟨#[]⟩) := by kernel_rfl
@[simp] theorem ty_st_10 : tstr Go.Proofs.Tryz.prog 10 = true := by kernel_rfl
@[simp] theorem ty_tok_11 : tok Go.Proofs.Tryz.prog 11 = true := by kernel_rfl
@[simp] theorem ty_sz_11 : tsize Go.Proofs.Tryz.prog 11 = 1 := by kernel_rfl
@[simp] theorem ty_by_11 : tbytes Go.Proofs.Tryz.prog 11 = 16 := by kernel_rfl
@[simp] theorem ty_ag_11 : tagg Go.Proofs.Tryz.prog 11 = false := by kernel_rfl
@[simp] theorem ty_ze_11 : tzero Go.Proofs.Tryz.prog 11 = some (Value.string ⟨#[]⟩) := by kernel_rfl
@[simp] theorem ty_st_11 : tstr Go.Proofs.Tryz.prog 11 = true := by kernel_rfl
@[simp] theorem ty_tok_12 : tok Go.Proofs.Tryz.prog 12 = true := by kernel_rfl
@[simp] theorem ty_sz_12 : tsize Go.Proofs.Tryz.prog 12 = 1 := by kernel_rfl
@[simp] theorem ty_by_12 : tbytes Go.Proofs.Tryz.prog 12 = 8 := by kernel_rfl
@[simp] theorem ty_ag_12 : tagg Go.Proofs.Tryz.prog 12 = false := by kernel_rfl
@[simp] theorem ty_ze_12 : tzero Go.Proofs.Tryz.prog 12 = some (Value.int .u64 0) := by kernel_rfl
@[simp] theorem ty_in_12 : tint Go.Proofs.Tryz.prog 12 = some .u64 := by kernel_rfl
@[simp] theorem ty_tok_13 : tok Go.Proofs.Tryz.prog 13 = true := by kernel_rfl
@[simp] theorem ty_sz_13 : tsize Go.Proofs.Tryz.prog 13 = 2 := by kernel_rfl
@[simp] theorem ty_by_13 : tbytes Go.Proofs.Tryz.prog 13 = 24 := by kernel_rfl
@[simp] theorem ty_ag_13 : tagg Go.Proofs.Tryz.prog 13 = true := by kernel_rfl
@[simp] theorem ty_ze_13 : tzero Go.Proofs.Tryz.prog 13 = some (Value.agg #[(Value.string ⟨#[]⟩), (Value.int .u64 0)]) := by kernel_rfl
@[simp] theorem ty_fi_13 : tfields Go.Proofs.Tryz.prog 13 = some [(0, 1), (1, 1)] := by kernel_rfl
@[simp] theorem ty_tok_14 : tok Go.Proofs.Tryz.prog 14 = true := by kernel_rfl
@[simp] theorem ty_sz_14 : tsize Go.Proofs.Tryz.prog 14 = 2 := by kernel_rfl
@[simp] theorem ty_by_14 : tbytes Go.Proofs.Tryz.prog 14 = 24 := by kernel_rfl
@[simp] theorem ty_ag_14 : tagg Go.Proofs.Tryz.prog 14 = true := by kernel_rfl
@[simp] theorem ty_ze_14 : tzero Go.Proofs.Tryz.prog 14 = some (Value.agg #[(Value.string ⟨#[]⟩), (Value.int .u64 0)]) := by kernel_rfl
@[simp] theorem ty_fi_14 : tfields Go.Proofs.Tryz.prog 14 = some [(0, 1), (1, 1)] := by kernel_rfl
@[simp] theorem ty_tok_15 : tok Go.Proofs.Tryz.prog 15 = true := by kernel_rfl
@[simp] theorem ty_sz_15 : tsize Go.Proofs.Tryz.prog 15 = 1 := by kernel_rfl
@[simp] theorem ty_by_15 : tbytes Go.Proofs.Tryz.prog 15 = 8 := by kernel_rfl
@[simp] theorem ty_ag_15 : tagg Go.Proofs.Tryz.prog 15 = false := by kernel_rfl
@[simp] theorem ty_ze_15 : tzero Go.Proofs.Tryz.prog 15 = some (Value.pointer none) := by kernel_rfl
@[simp] theorem ty_tok_16 : tok Go.Proofs.Tryz.prog 16 = true := by kernel_rfl
@[simp] theorem ty_sz_16 : tsize Go.Proofs.Tryz.prog 16 = 1 := by kernel_rfl
@[simp] theorem ty_by_16 : tbytes Go.Proofs.Tryz.prog 16 = 8 := by kernel_rfl
@[simp] theorem ty_ag_16 : tagg Go.Proofs.Tryz.prog 16 = false := by kernel_rfl
@[simp] theorem ty_ze_16 : tzero Go.Proofs.Tryz.prog 16 = some (Value.pointer none) := by kernel_rfl
@[simp] theorem ty_tok_17 : tok Go.Proofs.Tryz.prog 17 = true := by kernel_rfl
@[simp] theorem ty_sz_17 : tsize Go.Proofs.Tryz.prog 17 = 1 := by kernel_rfl
@[simp] theorem ty_by_17 : tbytes Go.Proofs.Tryz.prog 17 = 8 := by kernel_rfl
@[simp] theorem ty_ag_17 : tagg Go.Proofs.Tryz.prog 17 = false := by kernel_rfl
@[simp] theorem ty_ze_17 : tzero Go.Proofs.Tryz.prog 17 = some (Value.pointer none) := by kernel_rfl
@[simp] theorem ty_tok_18 : tok Go.Proofs.Tryz.prog 18 = true := by kernel_rfl
@[simp] theorem ty_sz_18 : tsize Go.Proofs.Tryz.prog 18 = 1 := by kernel_rfl
@[simp] theorem ty_by_18 : tbytes Go.Proofs.Tryz.prog 18 = 8 := by kernel_rfl
@[simp] theorem ty_ag_18 : tagg Go.Proofs.Tryz.prog 18 = true := by kernel_rfl
@[simp] theorem ty_ze_18 : tzero Go.Proofs.Tryz.prog 18 = some (Value.agg #[(Value.pointer none)]) := by kernel_rfl
@[simp] theorem ty_fi_18 : tfields Go.Proofs.Tryz.prog 18 = some [(0, 1)] := by kernel_rfl
@[simp] theorem ty_tok_19 : tok Go.Proofs.Tryz.prog 19 = true := by kernel_rfl
@[simp] theorem ty_sz_19 : tsize Go.Proofs.Tryz.prog 19 = 1 := by kernel_rfl
@[simp] theorem ty_by_19 : tbytes Go.Proofs.Tryz.prog 19 = 8 := by kernel_rfl
@[simp] theorem ty_ag_19 : tagg Go.Proofs.Tryz.prog 19 = true := by kernel_rfl
@[simp] theorem ty_ze_19 : tzero Go.Proofs.Tryz.prog 19 = some (Value.agg #[(Value.pointer none)]) := by kernel_rfl
@[simp] theorem ty_fi_19 : tfields Go.Proofs.Tryz.prog 19 = some [(0, 1)] := by kernel_rfl
@[simp] theorem ty_tok_21 : tok Go.Proofs.Tryz.prog 21 = true := by kernel_rfl
@[simp] theorem ty_sz_21 : tsize Go.Proofs.Tryz.prog 21 = 1 := by kernel_rfl
@[simp] theorem ty_by_21 : tbytes Go.Proofs.Tryz.prog 21 = 4 := by kernel_rfl
@[simp] theorem ty_ag_21 : tagg Go.Proofs.Tryz.prog 21 = false := by kernel_rfl
@[simp] theorem ty_ze_21 : tzero Go.Proofs.Tryz.prog 21 = some (Value.int .i32 0) := by kernel_rfl
@[simp] theorem ty_in_21 : tint Go.Proofs.Tryz.prog 21 = some .i32 := by kernel_rfl
@[simp] theorem ty_tok_22 : tok Go.Proofs.Tryz.prog 22 = true := by kernel_rfl
@[simp] theorem ty_sz_22 : tsize Go.Proofs.Tryz.prog 22 = 1 := by kernel_rfl
@[simp] theorem ty_by_22 : tbytes Go.Proofs.Tryz.prog 22 = 24 := by kernel_rfl
@[simp] theorem ty_ag_22 : tagg Go.Proofs.Tryz.prog 22 = false := by kernel_rfl
@[simp] theorem ty_ze_22 : tzero Go.Proofs.Tryz.prog 22 = some (Value.slice none 0 0) := by kernel_rfl
@[simp] theorem ty_el_22 : telem Go.Proofs.Tryz.prog 22 = some 2 := by kernel_rfl
@[simp] theorem ty_tok_23 : tok Go.Proofs.Tryz.prog 23 = true := by kernel_rfl
@[simp] theorem ty_sz_23 : tsize Go.Proofs.Tryz.prog 23 = 2 := by kernel_rfl
@[simp] theorem ty_by_23 : tbytes Go.Proofs.Tryz.prog 23 = 32 := by kernel_rfl
@[simp] theorem ty_ag_23 : tagg Go.Proofs.Tryz.prog 23 = true := by kernel_rfl
@[simp] theorem ty_ze_23 : tzero Go.Proofs.Tryz.prog 23 = some (Value.agg #[(Value.int .i64 0), (Value.slice none 0 0)]) := by kernel_rfl
@[simp] theorem ty_fi_23 : tfields Go.Proofs.Tryz.prog 23 = some [(0, 1), (1, 1)] := by kernel_rfl
@[simp] theorem ty_tok_24 : tok Go.Proofs.Tryz.prog 24 = true := by kernel_rfl
@[simp] theorem ty_sz_24 : tsize Go.Proofs.Tryz.prog 24 = 2 := by kernel_rfl
@[simp] theorem ty_by_24 : tbytes Go.Proofs.Tryz.prog 24 = 32 := by kernel_rfl
@[simp] theorem ty_ag_24 : tagg Go.Proofs.Tryz.prog 24 = true := by kernel_rfl
@[simp] theorem ty_ze_24 : tzero Go.Proofs.Tryz.prog 24 = some (Value.agg #[(Value.int .i64 0), (Value.slice none 0 0)]) := by kernel_rfl
@[simp] theorem ty_fi_24 : tfields Go.Proofs.Tryz.prog 24 = some [(0, 1), (1, 1)] := by kernel_rfl
@[simp] theorem ty_tok_25 : tok Go.Proofs.Tryz.prog 25 = true := by kernel_rfl
@[simp] theorem ty_sz_25 : tsize Go.Proofs.Tryz.prog 25 = 1 := by kernel_rfl
@[simp] theorem ty_by_25 : tbytes Go.Proofs.Tryz.prog 25 = 24 := by kernel_rfl
@[simp] theorem ty_ag_25 : tagg Go.Proofs.Tryz.prog 25 = false := by kernel_rfl
@[simp] theorem ty_ze_25 : tzero Go.Proofs.Tryz.prog 25 = some (Value.slice none 0 0) := by kernel_rfl
@[simp] theorem ty_el_25 : telem Go.Proofs.Tryz.prog 25 = some 22 := by kernel_rfl
@[simp] theorem ty_tok_26 : tok Go.Proofs.Tryz.prog 26 = true := by kernel_rfl
@[simp] theorem ty_sz_26 : tsize Go.Proofs.Tryz.prog 26 = 1 := by kernel_rfl
@[simp] theorem ty_by_26 : tbytes Go.Proofs.Tryz.prog 26 = 8 := by kernel_rfl
@[simp] theorem ty_ag_26 : tagg Go.Proofs.Tryz.prog 26 = false := by kernel_rfl
@[simp] theorem ty_ze_26 : tzero Go.Proofs.Tryz.prog 26 = some Value.nilFunc := by kernel_rfl
@[simp] theorem ty_tok_27 : tok Go.Proofs.Tryz.prog 27 = true := by kernel_rfl
@[simp] theorem ty_sz_27 : tsize Go.Proofs.Tryz.prog 27 = 1 := by kernel_rfl
@[simp] theorem ty_by_27 : tbytes Go.Proofs.Tryz.prog 27 = 8 := by kernel_rfl
@[simp] theorem ty_ag_27 : tagg Go.Proofs.Tryz.prog 27 = false := by kernel_rfl
@[simp] theorem ty_ze_27 : tzero Go.Proofs.Tryz.prog 27 = some Value.nilFunc := by kernel_rfl
@[simp] theorem ty_tok_28 : tok Go.Proofs.Tryz.prog 28 = true := by kernel_rfl
@[simp] theorem ty_sz_28 : tsize Go.Proofs.Tryz.prog 28 = 3 := by kernel_rfl
@[simp] theorem ty_by_28 : tbytes Go.Proofs.Tryz.prog 28 = 72 := by kernel_rfl
@[simp] theorem ty_ag_28 : tagg Go.Proofs.Tryz.prog 28 = true := by kernel_rfl
@[simp] theorem ty_ze_28 : tzero Go.Proofs.Tryz.prog 28 = some (Value.agg #[(Value.slice none 0 0), (Value.slice none 0 0), (Value.slice none 0 0)]) := by kernel_rfl
@[simp] theorem ty_fi_28 : tfields Go.Proofs.Tryz.prog 28 = some [(0, 1), (1, 1), (2, 1)] := by kernel_rfl
@[simp] theorem ty_tok_29 : tok Go.Proofs.Tryz.prog 29 = true := by kernel_rfl
@[simp] theorem ty_sz_29 : tsize Go.Proofs.Tryz.prog 29 = 3 := by kernel_rfl
@[simp] theorem ty_by_29 : tbytes Go.Proofs.Tryz.prog 29 = 72 := by kernel_rfl
@[simp] theorem ty_ag_29 : tagg Go.Proofs.Tryz.prog 29 = true := by kernel_rfl
@[simp] theorem ty_ze_29 : tzero Go.Proofs.Tryz.prog 29 = some (Value.agg #[(Value.slice none 0 0), (Value.slice none 0 0), (Value.slice none 0 0)]) := by kernel_rfl
@[simp] theorem ty_fi_29 : tfields Go.Proofs.Tryz.prog 29 = some [(0, 1), (1, 1), (2, 1)] := by kernel_rfl
@[simp] theorem ty_tok_31 : tok Go.Proofs.Tryz.prog 31 = true := by kernel_rfl
@[simp] theorem ty_sz_31 : tsize Go.Proofs.Tryz.prog 31 = 1 := by kernel_rfl
@[simp] theorem ty_by_31 : tbytes Go.Proofs.Tryz.prog 31 = 8 := by kernel_rfl
@[simp] theorem ty_ag_31 : tagg Go.Proofs.Tryz.prog 31 = false := by kernel_rfl
@[simp] theorem ty_ze_31 : tzero Go.Proofs.Tryz.prog 31 = some Value.nilFunc := by kernel_rfl
@[simp] theorem ty_tok_32 : tok Go.Proofs.Tryz.prog 32 = true := by kernel_rfl
@[simp] theorem ty_sz_32 : tsize Go.Proofs.Tryz.prog 32 = 2 := by kernel_rfl
@[simp] theorem ty_by_32 : tbytes Go.Proofs.Tryz.prog 32 = 32 := by kernel_rfl
@[simp] theorem ty_ag_32 : tagg Go.Proofs.Tryz.prog 32 = true := by kernel_rfl
@[simp] theorem ty_ze_32 : tzero Go.Proofs.Tryz.prog 32 = some (Value.agg #[(Value.int .i64 0), (Value.slice none 0 0)]) := by kernel_rfl
@[simp] theorem ty_fi_32 : tfields Go.Proofs.Tryz.prog 32 = some [(0, 1), (1, 1)] := by kernel_rfl
@[simp] theorem ty_tok_33 : tok Go.Proofs.Tryz.prog 33 = true := by kernel_rfl
@[simp] theorem ty_sz_33 : tsize Go.Proofs.Tryz.prog 33 = 1 := by kernel_rfl
@[simp] theorem ty_by_33 : tbytes Go.Proofs.Tryz.prog 33 = 8 := by kernel_rfl
@[simp] theorem ty_ag_33 : tagg Go.Proofs.Tryz.prog 33 = false := by kernel_rfl
@[simp] theorem ty_ze_33 : tzero Go.Proofs.Tryz.prog 33 = some Value.nilFunc := by kernel_rfl
@[simp] theorem ty_tok_34 : tok Go.Proofs.Tryz.prog 34 = true := by kernel_rfl
@[simp] theorem ty_sz_34 : tsize Go.Proofs.Tryz.prog 34 = 1 := by kernel_rfl
@[simp] theorem ty_by_34 : tbytes Go.Proofs.Tryz.prog 34 = 8 := by kernel_rfl
@[simp] theorem ty_ag_34 : tagg Go.Proofs.Tryz.prog 34 = false := by kernel_rfl
@[simp] theorem ty_ze_34 : tzero Go.Proofs.Tryz.prog 34 = some Value.nilFunc := by kernel_rfl
@[simp] theorem ty_tok_35 : tok Go.Proofs.Tryz.prog 35 = true := by kernel_rfl
@[simp] theorem ty_sz_35 : tsize Go.Proofs.Tryz.prog 35 = 1 := by kernel_rfl
@[simp] theorem ty_by_35 : tbytes Go.Proofs.Tryz.prog 35 = 8 := by kernel_rfl
@[simp] theorem ty_ag_35 : tagg Go.Proofs.Tryz.prog 35 = false := by kernel_rfl
@[simp] theorem ty_ze_35 : tzero Go.Proofs.Tryz.prog 35 = some Value.nilFunc := by kernel_rfl
@[simp] theorem ty_tok_36 : tok Go.Proofs.Tryz.prog 36 = true := by kernel_rfl
@[simp] theorem ty_sz_36 : tsize Go.Proofs.Tryz.prog 36 = 1 := by kernel_rfl
@[simp] theorem ty_by_36 : tbytes Go.Proofs.Tryz.prog 36 = 8 := by kernel_rfl
@[simp] theorem ty_ag_36 : tagg Go.Proofs.Tryz.prog 36 = false := by kernel_rfl
@[simp] theorem ty_ze_36 : tzero Go.Proofs.Tryz.prog 36 = some Value.nilFunc := by kernel_rfl
@[simp] theorem ty_tok_37 : tok Go.Proofs.Tryz.prog 37 = true := by kernel_rfl
@[simp] theorem ty_sz_37 : tsize Go.Proofs.Tryz.prog 37 = 1 := by kernel_rfl
@[simp] theorem ty_by_37 : tbytes Go.Proofs.Tryz.prog 37 = 8 := by kernel_rfl
@[simp] theorem ty_ag_37 : tagg Go.Proofs.Tryz.prog 37 = false := by kernel_rfl
@[simp] theorem ty_ze_37 : tzero Go.Proofs.Tryz.prog 37 = some Value.nilFunc := by kernel_rfl
@[simp] theorem ty_tok_38 : tok Go.Proofs.Tryz.prog 38 = true := by kernel_rfl
@[simp] theorem ty_sz_38 : tsize Go.Proofs.Tryz.prog 38 = 1 := by kernel_rfl
@[simp] theorem ty_by_38 : tbytes Go.Proofs.Tryz.prog 38 = 8 := by kernel_rfl
@[simp] theorem ty_ag_38 : tagg Go.Proofs.Tryz.prog 38 = false := by kernel_rfl
@[simp] theorem ty_ze_38 : tzero Go.Proofs.Tryz.prog 38 = some Value.nilFunc := by kernel_rfl
@[simp] theorem ty_tok_39 : tok Go.Proofs.Tryz.prog 39 = true := by kernel_rfl
@[simp] theorem ty_sz_39 : tsize Go.Proofs.Tryz.prog 39 = 1 := by kernel_rfl
@[simp] theorem ty_by_39 : tbytes Go.Proofs.Tryz.prog 39 = 8 := by kernel_rfl
@[simp] theorem ty_ag_39 : tagg Go.Proofs.Tryz.prog 39 = false := by kernel_rfl
@[simp] theorem ty_ze_39 : tzero Go.Proofs.Tryz.prog 39 = some Value.nilFunc := by kernel_rfl
@[simp] theorem ty_tok_40 : tok Go.Proofs.Tryz.prog 40 = true := by kernel_rfl
@[simp] theorem ty_sz_40 : tsize Go.Proofs.Tryz.prog 40 = 1 := by kernel_rfl
@[simp] theorem ty_by_40 : tbytes Go.Proofs.Tryz.prog 40 = 8 := by kernel_rfl
@[simp] theorem ty_ag_40 : tagg Go.Proofs.Tryz.prog 40 = false := by kernel_rfl
@[simp] theorem ty_ze_40 : tzero Go.Proofs.Tryz.prog 40 = some Value.nilFunc := by kernel_rfl
@[simp] theorem ty_tok_41 : tok Go.Proofs.Tryz.prog 41 = true := by kernel_rfl
@[simp] theorem ty_sz_41 : tsize Go.Proofs.Tryz.prog 41 = 1 := by kernel_rfl
@[simp] theorem ty_by_41 : tbytes Go.Proofs.Tryz.prog 41 = 24 := by kernel_rfl
@[simp] theorem ty_ag_41 : tagg Go.Proofs.Tryz.prog 41 = false := by kernel_rfl
@[simp] theorem ty_ze_41 : tzero Go.Proofs.Tryz.prog 41 = some (Value.slice none 0 0) := by kernel_rfl
@[simp] theorem ty_el_41 : telem Go.Proofs.Tryz.prog 41 = some 5 := by kernel_rfl
@[simp] theorem ty_tok_42 : tok Go.Proofs.Tryz.prog 42 = true := by kernel_rfl
@[simp] theorem ty_sz_42 : tsize Go.Proofs.Tryz.prog 42 = 1 := by kernel_rfl
@[simp] theorem ty_by_42 : tbytes Go.Proofs.Tryz.prog 42 = 8 := by kernel_rfl
@[simp] theorem ty_ag_42 : tagg Go.Proofs.Tryz.prog 42 = false := by kernel_rfl
@[simp] theorem ty_ze_42 : tzero Go.Proofs.Tryz.prog 42 = some Value.nilFunc := by kernel_rfl
@[simp] theorem ty_tok_44 : tok Go.Proofs.Tryz.prog 44 = true := by kernel_rfl
@[simp] theorem ty_sz_44 : tsize Go.Proofs.Tryz.prog 44 = 1 := by kernel_rfl
@[simp] theorem ty_by_44 : tbytes Go.Proofs.Tryz.prog 44 = 8 := by kernel_rfl
@[simp] theorem ty_ag_44 : tagg Go.Proofs.Tryz.prog 44 = false := by kernel_rfl
@[simp] theorem ty_ze_44 : tzero Go.Proofs.Tryz.prog 44 = some Value.nilFunc := by kernel_rfl
@[simp] theorem ty_tok_45 : tok Go.Proofs.Tryz.prog 45 = true := by kernel_rfl
@[simp] theorem ty_sz_45 : tsize Go.Proofs.Tryz.prog 45 = 1 := by kernel_rfl
@[simp] theorem ty_by_45 : tbytes Go.Proofs.Tryz.prog 45 = 8 := by kernel_rfl
@[simp] theorem ty_ag_45 : tagg Go.Proofs.Tryz.prog 45 = false := by kernel_rfl
@[simp] theorem ty_ze_45 : tzero Go.Proofs.Tryz.prog 45 = some Value.nilFunc := by kernel_rfl
@[simp] theorem ty_tok_47 : tok Go.Proofs.Tryz.prog 47 = true := by kernel_rfl
@[simp] theorem ty_sz_47 : tsize Go.Proofs.Tryz.prog 47 = 1 := by kernel_rfl
@[simp] theorem ty_by_47 : tbytes Go.Proofs.Tryz.prog 47 = 8 := by kernel_rfl
@[simp] theorem ty_ag_47 : tagg Go.Proofs.Tryz.prog 47 = false := by kernel_rfl
@[simp] theorem ty_ze_47 : tzero Go.Proofs.Tryz.prog 47 = some Value.nilFunc := by kernel_rfl
@[simp] theorem ty_tok_48 : tok Go.Proofs.Tryz.prog 48 = true := by kernel_rfl
@[simp] theorem ty_sz_48 : tsize Go.Proofs.Tryz.prog 48 = 1 := by kernel_rfl
@[simp] theorem ty_by_48 : tbytes Go.Proofs.Tryz.prog 48 = 8 := by kernel_rfl
@[simp] theorem ty_ag_48 : tagg Go.Proofs.Tryz.prog 48 = false := by kernel_rfl
@[simp] theorem ty_ze_48 : tzero Go.Proofs.Tryz.prog 48 = some Value.nilFunc := by kernel_rfl
@[simp] theorem ty_tok_50 : tok Go.Proofs.Tryz.prog 50 = true := by kernel_rfl
@[simp] theorem ty_sz_50 : tsize Go.Proofs.Tryz.prog 50 = 1 := by kernel_rfl
@[simp] theorem ty_by_50 : tbytes Go.Proofs.Tryz.prog 50 = 8 := by kernel_rfl
@[simp] theorem ty_ag_50 : tagg Go.Proofs.Tryz.prog 50 = false := by kernel_rfl
@[simp] theorem ty_ze_50 : tzero Go.Proofs.Tryz.prog 50 = some Value.nilFunc := by kernel_rfl
@[simp] theorem ty_tok_52 : tok Go.Proofs.Tryz.prog 52 = true := by kernel_rfl
@[simp] theorem ty_sz_52 : tsize Go.Proofs.Tryz.prog 52 = 1 := by kernel_rfl
@[simp] theorem ty_by_52 : tbytes Go.Proofs.Tryz.prog 52 = 8 := by kernel_rfl
@[simp] theorem ty_ag_52 : tagg Go.Proofs.Tryz.prog 52 = false := by kernel_rfl
@[simp] theorem ty_ze_52 : tzero Go.Proofs.Tryz.prog 52 = some Value.nilFunc := by kernel_rfl
@[simp] theorem ty_tok_54 : tok Go.Proofs.Tryz.prog 54 = true := by kernel_rfl
@[simp] theorem ty_sz_54 : tsize Go.Proofs.Tryz.prog 54 = 1 := by kernel_rfl
@[simp] theorem ty_by_54 : tbytes Go.Proofs.Tryz.prog 54 = 8 := by kernel_rfl
@[simp] theorem ty_ag_54 : tagg Go.Proofs.Tryz.prog 54 = false := by kernel_rfl
@[simp] theorem ty_ze_54 : tzero Go.Proofs.Tryz.prog 54 = some Value.nilFunc := by kernel_rfl
@[simp] theorem ty_tok_55 : tok Go.Proofs.Tryz.prog 55 = true := by kernel_rfl
@[simp] theorem ty_sz_55 : tsize Go.Proofs.Tryz.prog 55 = 1 := by kernel_rfl
@[simp] theorem ty_by_55 : tbytes Go.Proofs.Tryz.prog 55 = 8 := by kernel_rfl
@[simp] theorem ty_ag_55 : tagg Go.Proofs.Tryz.prog 55 = false := by kernel_rfl
@[simp] theorem ty_ze_55 : tzero Go.Proofs.Tryz.prog 55 = some Value.nilFunc := by kernel_rfl
@[simp] theorem ty_tok_56 : tok Go.Proofs.Tryz.prog 56 = true := by kernel_rfl
@[simp] theorem ty_sz_56 : tsize Go.Proofs.Tryz.prog 56 = 1 := by kernel_rfl
@[simp] theorem ty_by_56 : tbytes Go.Proofs.Tryz.prog 56 = 8 := by kernel_rfl
@[simp] theorem ty_ag_56 : tagg Go.Proofs.Tryz.prog 56 = false := by kernel_rfl
@[simp] theorem ty_ze_56 : tzero Go.Proofs.Tryz.prog 56 = some Value.nilFunc := by kernel_rfl
@[simp] theorem ty_tok_57 : tok Go.Proofs.Tryz.prog 57 = true := by kernel_rfl
@[simp] theorem ty_sz_57 : tsize Go.Proofs.Tryz.prog 57 = 1 := by kernel_rfl
@[simp] theorem ty_by_57 : tbytes Go.Proofs.Tryz.prog 57 = 8 := by kernel_rfl
@[simp] theorem ty_ag_57 : tagg Go.Proofs.Tryz.prog 57 = false := by kernel_rfl
@[simp] theorem ty_ze_57 : tzero Go.Proofs.Tryz.prog 57 = some Value.nilFunc := by kernel_rfl
@[simp] theorem ty_tok_58 : tok Go.Proofs.Tryz.prog 58 = true := by kernel_rfl
@[simp] theorem ty_sz_58 : tsize Go.Proofs.Tryz.prog 58 = 1 := by kernel_rfl
@[simp] theorem ty_by_58 : tbytes Go.Proofs.Tryz.prog 58 = 8 := by kernel_rfl
@[simp] theorem ty_ag_58 : tagg Go.Proofs.Tryz.prog 58 = false := by kernel_rfl
@[simp] theorem ty_ze_58 : tzero Go.Proofs.Tryz.prog 58 = some Value.nilFunc := by kernel_rfl
@[simp] theorem ty_tok_59 : tok Go.Proofs.Tryz.prog 59 = true := by kernel_rfl
@[simp] theorem ty_sz_59 : tsize Go.Proofs.Tryz.prog 59 = 1 := by kernel_rfl
@[simp] theorem ty_by_59 : tbytes Go.Proofs.Tryz.prog 59 = 8 := by kernel_rfl
@[simp] theorem ty_ag_59 : tagg Go.Proofs.Tryz.prog 59 = false := by kernel_rfl
@[simp] theorem ty_ze_59 : tzero Go.Proofs.Tryz.prog 59 = some Value.nilFunc := by kernel_rfl
@[simp] theorem ty_tok_61 : tok Go.Proofs.Tryz.prog 61 = true := by kernel_rfl
@[simp] theorem ty_sz_61 : tsize Go.Proofs.Tryz.prog 61 = 1 := by kernel_rfl
@[simp] theorem ty_by_61 : tbytes Go.Proofs.Tryz.prog 61 = 8 := by kernel_rfl
@[simp] theorem ty_ag_61 : tagg Go.Proofs.Tryz.prog 61 = false := by kernel_rfl
@[simp] theorem ty_ze_61 : tzero Go.Proofs.Tryz.prog 61 = some Value.nilFunc := by kernel_rfl
@[simp] theorem ty_tok_62 : tok Go.Proofs.Tryz.prog 62 = true := by kernel_rfl
@[simp] theorem ty_sz_62 : tsize Go.Proofs.Tryz.prog 62 = 1 := by kernel_rfl
@[simp] theorem ty_by_62 : tbytes Go.Proofs.Tryz.prog 62 = 8 := by kernel_rfl
@[simp] theorem ty_ag_62 : tagg Go.Proofs.Tryz.prog 62 = false := by kernel_rfl
@[simp] theorem ty_ze_62 : tzero Go.Proofs.Tryz.prog 62 = some Value.nilFunc := by kernel_rfl
@[simp] theorem ty_tok_63 : tok Go.Proofs.Tryz.prog 63 = true := by kernel_rfl
@[simp] theorem ty_sz_63 : tsize Go.Proofs.Tryz.prog 63 = 1 := by kernel_rfl
@[simp] theorem ty_by_63 : tbytes Go.Proofs.Tryz.prog 63 = 8 := by kernel_rfl
@[simp] theorem ty_ag_63 : tagg Go.Proofs.Tryz.prog 63 = false := by kernel_rfl
@[simp] theorem ty_ze_63 : tzero Go.Proofs.Tryz.prog 63 = some Value.nilFunc := by kernel_rfl
@[simp] theorem ty_tok_64 : tok Go.Proofs.Tryz.prog 64 = true := by kernel_rfl
@[simp] theorem ty_sz_64 : tsize Go.Proofs.Tryz.prog 64 = 1 := by kernel_rfl
@[simp] theorem ty_by_64 : tbytes Go.Proofs.Tryz.prog 64 = 8 := by kernel_rfl
@[simp] theorem ty_ag_64 : tagg Go.Proofs.Tryz.prog 64 = false := by kernel_rfl
@[simp] theorem ty_ze_64 : tzero Go.Proofs.Tryz.prog 64 = some Value.nilFunc := by kernel_rfl
@[simp] theorem ty_tok_65 : tok Go.Proofs.Tryz.prog 65 = true := by kernel_rfl
@[simp] theorem ty_sz_65 : tsize Go.Proofs.Tryz.prog 65 = 1 := by kernel_rfl
@[simp] theorem ty_by_65 : tbytes Go.Proofs.Tryz.prog 65 = 8 := by kernel_rfl
@[simp] theorem ty_ag_65 : tagg Go.Proofs.Tryz.prog 65 = false := by kernel_rfl
@[simp] theorem ty_ze_65 : tzero Go.Proofs.Tryz.prog 65 = some Value.nilFunc := by kernel_rfl
@[simp] theorem ty_tok_67 : tok Go.Proofs.Tryz.prog 67 = true := by kernel_rfl
@[simp] theorem ty_sz_67 : tsize Go.Proofs.Tryz.prog 67 = 1 := by kernel_rfl
@[simp] theorem ty_by_67 : tbytes Go.Proofs.Tryz.prog 67 = 8 := by kernel_rfl
@[simp] theorem ty_ag_67 : tagg Go.Proofs.Tryz.prog 67 = false := by kernel_rfl
@[simp] theorem ty_ze_67 : tzero Go.Proofs.Tryz.prog 67 = some Value.nilFunc := by kernel_rfl
@[simp] theorem ty_tok_68 : tok Go.Proofs.Tryz.prog 68 = true := by kernel_rfl
@[simp] theorem ty_sz_68 : tsize Go.Proofs.Tryz.prog 68 = 1 := by kernel_rfl
@[simp] theorem ty_by_68 : tbytes Go.Proofs.Tryz.prog 68 = 8 := by kernel_rfl
@[simp] theorem ty_ag_68 : tagg Go.Proofs.Tryz.prog 68 = false := by kernel_rfl
@[simp] theorem ty_ze_68 : tzero Go.Proofs.Tryz.prog 68 = some Value.nilFunc := by kernel_rfl
@[simp] theorem ty_tok_69 : tok Go.Proofs.Tryz.prog 69 = true := by kernel_rfl
@[simp] theorem ty_sz_69 : tsize Go.Proofs.Tryz.prog 69 = 1 := by kernel_rfl
@[simp] theorem ty_by_69 : tbytes Go.Proofs.Tryz.prog 69 = 8 := by kernel_rfl
@[simp] theorem ty_ag_69 : tagg Go.Proofs.Tryz.prog 69 = false := by kernel_rfl
@[simp] theorem ty_ze_69 : tzero Go.Proofs.Tryz.prog 69 = some Value.nilFunc := by kernel_rfl
@[simp] theorem ty_tok_70 : tok Go.Proofs.Tryz.prog 70 = true := by kernel_rfl
@[simp] theorem ty_sz_70 : tsize Go.Proofs.Tryz.prog 70 = 1 := by kernel_rfl
@[simp] theorem ty_by_70 : tbytes Go.Proofs.Tryz.prog 70 = 8 := by kernel_rfl
@[simp] theorem ty_ag_70 : tagg Go.Proofs.Tryz.prog 70 = false := by kernel_rfl
@[simp] theorem ty_ze_70 : tzero Go.Proofs.Tryz.prog 70 = some Value.nilFunc := by kernel_rfl
@[simp] theorem ty_tok_71 : tok Go.Proofs.Tryz.prog 71 = true := by kernel_rfl
@[simp] theorem ty_sz_71 : tsize Go.Proofs.Tryz.prog 71 = 1 := by kernel_rfl
@[simp] theorem ty_by_71 : tbytes Go.Proofs.Tryz.prog 71 = 8 := by kernel_rfl
@[simp] theorem ty_ag_71 : tagg Go.Proofs.Tryz.prog 71 = false := by kernel_rfl
@[simp] theorem ty_ze_71 : tzero Go.Proofs.Tryz.prog 71 = some Value.nilFunc := by kernel_rfl
@[simp] theorem ty_tok_72 : tok Go.Proofs.Tryz.prog 72 = true := by kernel_rfl
@[simp] theorem ty_sz_72 : tsize Go.Proofs.Tryz.prog 72 = 4 := by kernel_rfl
@[simp] theorem ty_by_72 : tbytes Go.Proofs.Tryz.prog 72 = 48 := by kernel_rfl
@[simp] theorem ty_ag_72 : tagg Go.Proofs.Tryz.prog 72 = true := by kernel_rfl
@[simp] theorem ty_ze_72 : tzero Go.Proofs.Tryz.prog 72 = some (Value.agg #[(Value.int .i64 0), (Value.int .i64 0), (Value.int .i64 0), (Value.slice none 0 0)]) := by kernel_rfl
@[simp] theorem ty_fi_72 : tfields Go.Proofs.Tryz.prog 72 = some [(0, 1), (1, 1), (2, 1), (3, 1)] := by kernel_rfl
@[simp] theorem ty_tok_73 : tok Go.Proofs.Tryz.prog 73 = true := by kernel_rfl
@[simp] theorem ty_sz_73 : tsize Go.Proofs.Tryz.prog 73 = 4 := by kernel_rfl
@[simp] theorem ty_by_73 : tbytes Go.Proofs.Tryz.prog 73 = 48 := by kernel_rfl
@[simp] theorem ty_ag_73 : tagg Go.Proofs.Tryz.prog 73 = true := by kernel_rfl
@[simp] theorem ty_ze_73 : tzero Go.Proofs.Tryz.prog 73 = some (Value.agg #[(Value.int .i64 0), (Value.int .i64 0), (Value.int .i64 0), (Value.slice none 0 0)]) := by kernel_rfl
@[simp] theorem ty_fi_73 : tfields Go.Proofs.Tryz.prog 73 = some [(0, 1), (1, 1), (2, 1), (3, 1)] := by kernel_rfl
@[simp] theorem ty_tok_74 : tok Go.Proofs.Tryz.prog 74 = true := by kernel_rfl
@[simp] theorem ty_sz_74 : tsize Go.Proofs.Tryz.prog 74 = 1 := by kernel_rfl
@[simp] theorem ty_by_74 : tbytes Go.Proofs.Tryz.prog 74 = 8 := by kernel_rfl
@[simp] theorem ty_ag_74 : tagg Go.Proofs.Tryz.prog 74 = false := by kernel_rfl
@[simp] theorem ty_ze_74 : tzero Go.Proofs.Tryz.prog 74 = some Value.nilFunc := by kernel_rfl
@[simp] theorem ty_tok_75 : tok Go.Proofs.Tryz.prog 75 = true := by kernel_rfl
@[simp] theorem ty_sz_75 : tsize Go.Proofs.Tryz.prog 75 = 1 := by kernel_rfl
@[simp] theorem ty_by_75 : tbytes Go.Proofs.Tryz.prog 75 = 8 := by kernel_rfl
@[simp] theorem ty_ag_75 : tagg Go.Proofs.Tryz.prog 75 = false := by kernel_rfl
@[simp] theorem ty_ze_75 : tzero Go.Proofs.Tryz.prog 75 = some Value.nilFunc := by kernel_rfl
@[simp] theorem ty_tok_76 : tok Go.Proofs.Tryz.prog 76 = true := by kernel_rfl
@[simp] theorem ty_sz_76 : tsize Go.Proofs.Tryz.prog 76 = 4 := by kernel_rfl
@[simp] theorem ty_by_76 : tbytes Go.Proofs.Tryz.prog 76 = 48 := by kernel_rfl
@[simp] theorem ty_ag_76 : tagg Go.Proofs.Tryz.prog 76 = true := by kernel_rfl
@[simp] theorem ty_ze_76 : tzero Go.Proofs.Tryz.prog 76 = some (Value.agg #[(Value.int .i64 0), (Value.int .i64 0), (Value.int .i64 0), (Value.slice none 0 0)]) := by kernel_rfl
@[simp] theorem ty_fi_76 : tfields Go.Proofs.Tryz.prog 76 = some [(0, 1), (1, 1), (2, 1), (3, 1)] := by kernel_rfl
@[simp] theorem ty_tok_77 : tok Go.Proofs.Tryz.prog 77 = true := by kernel_rfl
@[simp] theorem ty_sz_77 : tsize Go.Proofs.Tryz.prog 77 = 1 := by kernel_rfl
@[simp] theorem ty_by_77 : tbytes Go.Proofs.Tryz.prog 77 = 8 := by kernel_rfl
@[simp] theorem ty_ag_77 : tagg Go.Proofs.Tryz.prog 77 = false := by kernel_rfl
@[simp] theorem ty_ze_77 : tzero Go.Proofs.Tryz.prog 77 = some Value.nilFunc := by kernel_rfl
@[simp] theorem ty_tok_78 : tok Go.Proofs.Tryz.prog 78 = true := by kernel_rfl
@[simp] theorem ty_sz_78 : tsize Go.Proofs.Tryz.prog 78 = 1 := by kernel_rfl
@[simp] theorem ty_by_78 : tbytes Go.Proofs.Tryz.prog 78 = 8 := by kernel_rfl
@[simp] theorem ty_ag_78 : tagg Go.Proofs.Tryz.prog 78 = false := by kernel_rfl
@[simp] theorem ty_ze_78 : tzero Go.Proofs.Tryz.prog 78 = some Value.nilFunc := by kernel_rfl
@[simp] theorem ty_tok_79 : tok Go.Proofs.Tryz.prog 79 = true := by kernel_rfl
@[simp] theorem ty_sz_79 : tsize Go.Proofs.Tryz.prog 79 = 1 := by kernel_rfl
@[simp] theorem ty_by_79 : tbytes Go.Proofs.Tryz.prog 79 = 8 := by kernel_rfl
@[simp] theorem ty_ag_79 : tagg Go.Proofs.Tryz.prog 79 = false := by kernel_rfl
@[simp] theorem ty_ze_79 : tzero Go.Proofs.Tryz.prog 79 = some Value.nilFunc := by kernel_rfl
@[simp] theorem ty_tok_80 : tok Go.Proofs.Tryz.prog 80 = true := by kernel_rfl
@[simp] theorem ty_sz_80 : tsize Go.Proofs.Tryz.prog 80 = 1 := by kernel_rfl
@[simp] theorem ty_by_80 : tbytes Go.Proofs.Tryz.prog 80 = 8 := by kernel_rfl
@[simp] theorem ty_ag_80 : tagg Go.Proofs.Tryz.prog 80 = false := by kernel_rfl
@[simp] theorem ty_ze_80 : tzero Go.Proofs.Tryz.prog 80 = some Value.nilFunc := by kernel_rfl
@[simp] theorem ty_tok_82 : tok Go.Proofs.Tryz.prog 82 = true := by kernel_rfl
@[simp] theorem ty_sz_82 : tsize Go.Proofs.Tryz.prog 82 = 1 := by kernel_rfl
@[simp] theorem ty_by_82 : tbytes Go.Proofs.Tryz.prog 82 = 8 := by kernel_rfl
@[simp] theorem ty_ag_82 : tagg Go.Proofs.Tryz.prog 82 = false := by kernel_rfl
@[simp] theorem ty_ze_82 : tzero Go.Proofs.Tryz.prog 82 = some Value.nilFunc := by kernel_rfl
@[simp] theorem ty_tok_83 : tok Go.Proofs.Tryz.prog 83 = true := by kernel_rfl
@[simp] theorem ty_sz_83 : tsize Go.Proofs.Tryz.prog 83 = 1 := by kernel_rfl
@[simp] theorem ty_by_83 : tbytes Go.Proofs.Tryz.prog 83 = 8 := by kernel_rfl
@[simp] theorem ty_ag_83 : tagg Go.Proofs.Tryz.prog 83 = false := by kernel_rfl
@[simp] theorem ty_ze_83 : tzero Go.Proofs.Tryz.prog 83 = some Value.nilFunc := by kernel_rfl
@[simp] theorem ty_tok_84 : tok Go.Proofs.Tryz.prog 84 = true := by kernel_rfl
@[simp] theorem ty_sz_84 : tsize Go.Proofs.Tryz.prog 84 = 1 := by kernel_rfl
@[simp] theorem ty_by_84 : tbytes Go.Proofs.Tryz.prog 84 = 8 := by kernel_rfl
@[simp] theorem ty_ag_84 : tagg Go.Proofs.Tryz.prog 84 = false := by kernel_rfl
@[simp] theorem ty_ze_84 : tzero Go.Proofs.Tryz.prog 84 = some (Value.pointer none) := by kernel_rfl
@[simp] theorem ty_tok_85 : tok Go.Proofs.Tryz.prog 85 = true := by kernel_rfl
@[simp] theorem ty_sz_85 : tsize Go.Proofs.Tryz.prog 85 = 1 := by kernel_rfl
@[simp] theorem ty_by_85 : tbytes Go.Proofs.Tryz.prog 85 = 8 := by kernel_rfl
@[simp] theorem ty_ag_85 : tagg Go.Proofs.Tryz.prog 85 = false := by kernel_rfl
@[simp] theorem ty_ze_85 : tzero Go.Proofs.Tryz.prog 85 = some Value.nilFunc := by kernel_rfl
@[simp] theorem ty_tok_86 : tok Go.Proofs.Tryz.prog 86 = true := by kernel_rfl
@[simp] theorem ty_sz_86 : tsize Go.Proofs.Tryz.prog 86 = 1 := by kernel_rfl
@[simp] theorem ty_by_86 : tbytes Go.Proofs.Tryz.prog 86 = 8 := by kernel_rfl
@[simp] theorem ty_ag_86 : tagg Go.Proofs.Tryz.prog 86 = false := by kernel_rfl
@[simp] theorem ty_ze_86 : tzero Go.Proofs.Tryz.prog 86 = some (Value.int .u64 0) := by kernel_rfl
@[simp] theorem ty_in_86 : tint Go.Proofs.Tryz.prog 86 = some .u64 := by kernel_rfl
@[simp] theorem ty_tok_87 : tok Go.Proofs.Tryz.prog 87 = true := by kernel_rfl
@[simp] theorem ty_sz_87 : tsize Go.Proofs.Tryz.prog 87 = 1 := by kernel_rfl
@[simp] theorem ty_by_87 : tbytes Go.Proofs.Tryz.prog 87 = 8 := by kernel_rfl
@[simp] theorem ty_ag_87 : tagg Go.Proofs.Tryz.prog 87 = false := by kernel_rfl
@[simp] theorem ty_ze_87 : tzero Go.Proofs.Tryz.prog 87 = some Value.nilFunc := by kernel_rfl
@[simp] theorem ty_tok_88 : tok Go.Proofs.Tryz.prog 88 = true := by kernel_rfl
@[simp] theorem ty_sz_88 : tsize Go.Proofs.Tryz.prog 88 = 1 := by kernel_rfl
@[simp] theorem ty_by_88 : tbytes Go.Proofs.Tryz.prog 88 = 8 := by kernel_rfl
@[simp] theorem ty_ag_88 : tagg Go.Proofs.Tryz.prog 88 = false := by kernel_rfl
@[simp] theorem ty_ze_88 : tzero Go.Proofs.Tryz.prog 88 = some Value.nilFunc := by kernel_rfl
@[simp] theorem ty_tok_89 : tok Go.Proofs.Tryz.prog 89 = true := by kernel_rfl
@[simp] theorem ty_sz_89 : tsize Go.Proofs.Tryz.prog 89 = 1 := by kernel_rfl
@[simp] theorem ty_by_89 : tbytes Go.Proofs.Tryz.prog 89 = 8 := by kernel_rfl
@[simp] theorem ty_ag_89 : tagg Go.Proofs.Tryz.prog 89 = false := by kernel_rfl
@[simp] theorem ty_ze_89 : tzero Go.Proofs.Tryz.prog 89 = some Value.nilFunc := by kernel_rfl
@[simp] theorem ty_tok_90 : tok Go.Proofs.Tryz.prog 90 = true := by kernel_rfl
@[simp] theorem ty_sz_90 : tsize Go.Proofs.Tryz.prog 90 = 1 := by kernel_rfl
@[simp] theorem ty_by_90 : tbytes Go.Proofs.Tryz.prog 90 = 8 := by kernel_rfl
@[simp] theorem ty_ag_90 : tagg Go.Proofs.Tryz.prog 90 = false := by kernel_rfl
@[simp] theorem ty_ze_90 : tzero Go.Proofs.Tryz.prog 90 = some Value.nilFunc := by kernel_rfl
@[simp] theorem ty_tok_91 : tok Go.Proofs.Tryz.prog 91 = true := by kernel_rfl
@[simp] theorem ty_sz_91 : tsize Go.Proofs.Tryz.prog 91 = 1 := by kernel_rfl
@[simp] theorem ty_by_91 : tbytes Go.Proofs.Tryz.prog 91 = 8 := by kernel_rfl
@[simp] theorem ty_ag_91 : tagg Go.Proofs.Tryz.prog 91 = false := by kernel_rfl
@[simp] theorem ty_ze_91 : tzero Go.Proofs.Tryz.prog 91 = some Value.nilFunc := by kernel_rfl
@[simp] theorem ty_tok_92 : tok Go.Proofs.Tryz.prog 92 = true := by kernel_rfl
@[simp] theorem ty_sz_92 : tsize Go.Proofs.Tryz.prog 92 = 1 := by kernel_rfl
@[simp] theorem ty_by_92 : tbytes Go.Proofs.Tryz.prog 92 = 8 := by kernel_rfl
@[simp] theorem ty_ag_92 : tagg Go.Proofs.Tryz.prog 92 = false := by kernel_rfl
@[simp] theorem ty_ze_92 : tzero Go.Proofs.Tryz.prog 92 = some Value.nilFunc := by kernel_rfl
@[simp] theorem ty_tok_93 : tok Go.Proofs.Tryz.prog 93 = true := by kernel_rfl
@[simp] theorem ty_sz_93 : tsize Go.Proofs.Tryz.prog 93 = 1 := by kernel_rfl
@[simp] theorem ty_by_93 : tbytes Go.Proofs.Tryz.prog 93 = 8 := by kernel_rfl
@[simp] theorem ty_ag_93 : tagg Go.Proofs.Tryz.prog 93 = false := by kernel_rfl
@[simp] theorem ty_ze_93 : tzero Go.Proofs.Tryz.prog 93 = some Value.nilFunc := by kernel_rfl
@[simp] theorem ty_tok_94 : tok Go.Proofs.Tryz.prog 94 = true := by kernel_rfl
@[simp] theorem ty_sz_94 : tsize Go.Proofs.Tryz.prog 94 = 1 := by kernel_rfl
@[simp] theorem ty_by_94 : tbytes Go.Proofs.Tryz.prog 94 = 8 := by kernel_rfl
@[simp] theorem ty_ag_94 : tagg Go.Proofs.Tryz.prog 94 = false := by kernel_rfl
@[simp] theorem ty_ze_94 : tzero Go.Proofs.Tryz.prog 94 = some Value.nilFunc := by kernel_rfl
@[simp] theorem ty_tok_95 : tok Go.Proofs.Tryz.prog 95 = true := by kernel_rfl
@[simp] theorem ty_sz_95 : tsize Go.Proofs.Tryz.prog 95 = 1 := by kernel_rfl
@[simp] theorem ty_by_95 : tbytes Go.Proofs.Tryz.prog 95 = 8 := by kernel_rfl
@[simp] theorem ty_ag_95 : tagg Go.Proofs.Tryz.prog 95 = false := by kernel_rfl
@[simp] theorem ty_ze_95 : tzero Go.Proofs.Tryz.prog 95 = some Value.nilFunc := by kernel_rfl
@[simp] theorem ty_tok_96 : tok Go.Proofs.Tryz.prog 96 = true := by kernel_rfl
@[simp] theorem ty_sz_96 : tsize Go.Proofs.Tryz.prog 96 = 1 := by kernel_rfl
@[simp] theorem ty_by_96 : tbytes Go.Proofs.Tryz.prog 96 = 8 := by kernel_rfl
@[simp] theorem ty_ag_96 : tagg Go.Proofs.Tryz.prog 96 = false := by kernel_rfl
@[simp] theorem ty_ze_96 : tzero Go.Proofs.Tryz.prog 96 = some Value.nilFunc := by kernel_rfl
@[simp] theorem ty_tok_98 : tok Go.Proofs.Tryz.prog 98 = true := by kernel_rfl
@[simp] theorem ty_sz_98 : tsize Go.Proofs.Tryz.prog 98 = 1 := by kernel_rfl
@[simp] theorem ty_by_98 : tbytes Go.Proofs.Tryz.prog 98 = 24 := by kernel_rfl
@[simp] theorem ty_ag_98 : tagg Go.Proofs.Tryz.prog 98 = false := by kernel_rfl
@[simp] theorem ty_ze_98 : tzero Go.Proofs.Tryz.prog 98 = some (Value.slice none 0 0) := by kernel_rfl
@[simp] theorem ty_el_98 : telem Go.Proofs.Tryz.prog 98 = some 2 := by kernel_rfl
@[simp] theorem ty_tok_99 : tok Go.Proofs.Tryz.prog 99 = true := by kernel_rfl
@[simp] theorem ty_sz_99 : tsize Go.Proofs.Tryz.prog 99 = 1 := by kernel_rfl
@[simp] theorem ty_by_99 : tbytes Go.Proofs.Tryz.prog 99 = 8 := by kernel_rfl
@[simp] theorem ty_ag_99 : tagg Go.Proofs.Tryz.prog 99 = false := by kernel_rfl
@[simp] theorem ty_ze_99 : tzero Go.Proofs.Tryz.prog 99 = some Value.nilFunc := by kernel_rfl
@[simp] theorem ty_tok_100 : tok Go.Proofs.Tryz.prog 100 = true := by kernel_rfl
@[simp] theorem ty_sz_100 : tsize Go.Proofs.Tryz.prog 100 = 1 := by kernel_rfl
@[simp] theorem ty_by_100 : tbytes Go.Proofs.Tryz.prog 100 = 8 := by kernel_rfl
@[simp] theorem ty_ag_100 : tagg Go.Proofs.Tryz.prog 100 = false := by kernel_rfl
@[simp] theorem ty_ze_100 : tzero Go.Proofs.Tryz.prog 100 = some Value.nilFunc := by kernel_rfl
@[simp] theorem ty_tok_101 : tok Go.Proofs.Tryz.prog 101 = true := by kernel_rfl
@[simp] theorem ty_sz_101 : tsize Go.Proofs.Tryz.prog 101 = 1 := by kernel_rfl
@[simp] theorem ty_by_101 : tbytes Go.Proofs.Tryz.prog 101 = 8 := by kernel_rfl
@[simp] theorem ty_ag_101 : tagg Go.Proofs.Tryz.prog 101 = false := by kernel_rfl
@[simp] theorem ty_ze_101 : tzero Go.Proofs.Tryz.prog 101 = some Value.nilFunc := by kernel_rfl
@[simp] theorem ty_tok_102 : tok Go.Proofs.Tryz.prog 102 = true := by kernel_rfl
@[simp] theorem ty_sz_102 : tsize Go.Proofs.Tryz.prog 102 = 1 := by kernel_rfl
@[simp] theorem ty_by_102 : tbytes Go.Proofs.Tryz.prog 102 = 8 := by kernel_rfl
@[simp] theorem ty_ag_102 : tagg Go.Proofs.Tryz.prog 102 = false := by kernel_rfl
@[simp] theorem ty_ze_102 : tzero Go.Proofs.Tryz.prog 102 = some Value.nilFunc := by kernel_rfl
@[simp] theorem ty_tok_103 : tok Go.Proofs.Tryz.prog 103 = true := by kernel_rfl
@[simp] theorem ty_sz_103 : tsize Go.Proofs.Tryz.prog 103 = 1 := by kernel_rfl
@[simp] theorem ty_by_103 : tbytes Go.Proofs.Tryz.prog 103 = 8 := by kernel_rfl
@[simp] theorem ty_ag_103 : tagg Go.Proofs.Tryz.prog 103 = false := by kernel_rfl
@[simp] theorem ty_ze_103 : tzero Go.Proofs.Tryz.prog 103 = some Value.nilFunc := by kernel_rfl
@[simp] theorem ty_tok_104 : tok Go.Proofs.Tryz.prog 104 = true := by kernel_rfl
@[simp] theorem ty_sz_104 : tsize Go.Proofs.Tryz.prog 104 = 1 := by kernel_rfl
@[simp] theorem ty_by_104 : tbytes Go.Proofs.Tryz.prog 104 = 8 := by kernel_rfl
@[simp] theorem ty_ag_104 : tagg Go.Proofs.Tryz.prog 104 = false := by kernel_rfl
@[simp] theorem ty_ze_104 : tzero Go.Proofs.Tryz.prog 104 = some Value.nilFunc := by kernel_rfl
@[simp] theorem ty_tok_105 : tok Go.Proofs.Tryz.prog 105 = true := by kernel_rfl
@[simp] theorem ty_sz_105 : tsize Go.Proofs.Tryz.prog 105 = 1 := by kernel_rfl
@[simp] theorem ty_by_105 : tbytes Go.Proofs.Tryz.prog 105 = 8 := by kernel_rfl
@[simp] theorem ty_ag_105 : tagg Go.Proofs.Tryz.prog 105 = false := by kernel_rfl
@[simp] theorem ty_ze_105 : tzero Go.Proofs.Tryz.prog 105 = some Value.nilFunc := by kernel_rfl
@[simp] theorem ty_tok_106 : tok Go.Proofs.Tryz.prog 106 = true := by kernel_rfl
@[simp] theorem ty_sz_106 : tsize Go.Proofs.Tryz.prog 106 = 1 := by kernel_rfl
@[simp] theorem ty_by_106 : tbytes Go.Proofs.Tryz.prog 106 = 8 := by kernel_rfl
@[simp] theorem ty_ag_106 : tagg Go.Proofs.Tryz.prog 106 = false := by kernel_rfl
@[simp] theorem ty_ze_106 : tzero Go.Proofs.Tryz.prog 106 = some Value.nilFunc := by kernel_rfl
@[simp] theorem ty_tok_107 : tok Go.Proofs.Tryz.prog 107 = true := by kernel_rfl
@[simp] theorem ty_sz_107 : tsize Go.Proofs.Tryz.prog 107 = 1 := by kernel_rfl
@[simp] theorem ty_by_107 : tbytes Go.Proofs.Tryz.prog 107 = 8 := by kernel_rfl
@[simp] theorem ty_ag_107 : tagg Go.Proofs.Tryz.prog 107 = false := by kernel_rfl
@[simp] theorem ty_ze_107 : tzero Go.Proofs.Tryz.prog 107 = some Value.nilFunc := by kernel_rfl
@[simp] theorem ty_tok_108 : tok Go.Proofs.Tryz.prog 108 = true := by kernel_rfl
@[simp] theorem ty_sz_108 : tsize Go.Proofs.Tryz.prog 108 = 1 := by kernel_rfl
@[simp] theorem ty_by_108 : tbytes Go.Proofs.Tryz.prog 108 = 8 := by kernel_rfl
@[simp] theorem ty_ag_108 : tagg Go.Proofs.Tryz.prog 108 = false := by kernel_rfl
@[simp] theorem ty_ze_108 : tzero Go.Proofs.Tryz.prog 108 = some Value.nilFunc := by kernel_rfl
@[simp] theorem ty_tok_109 : tok Go.Proofs.Tryz.prog 109 = true := by kernel_rfl
@[simp] theorem ty_sz_109 : tsize Go.Proofs.Tryz.prog 109 = 1 := by kernel_rfl
@[simp] theorem ty_by_109 : tbytes Go.Proofs.Tryz.prog 109 = 8 := by kernel_rfl
@[simp] theorem ty_ag_109 : tagg Go.Proofs.Tryz.prog 109 = false := by kernel_rfl
@[simp] theorem ty_ze_109 : tzero Go.Proofs.Tryz.prog 109 = some Value.nilFunc := by kernel_rfl
@[simp] theorem ty_tok_110 : tok Go.Proofs.Tryz.prog 110 = true := by kernel_rfl
@[simp] theorem ty_sz_110 : tsize Go.Proofs.Tryz.prog 110 = 1 := by kernel_rfl
@[simp] theorem ty_by_110 : tbytes Go.Proofs.Tryz.prog 110 = 8 := by kernel_rfl
@[simp] theorem ty_ag_110 : tagg Go.Proofs.Tryz.prog 110 = false := by kernel_rfl
@[simp] theorem ty_ze_110 : tzero Go.Proofs.Tryz.prog 110 = some Value.nilFunc := by kernel_rfl
@[simp] theorem ty_tok_111 : tok Go.Proofs.Tryz.prog 111 = true := by kernel_rfl
@[simp] theorem ty_sz_111 : tsize Go.Proofs.Tryz.prog 111 = 1 := by kernel_rfl
@[simp] theorem ty_by_111 : tbytes Go.Proofs.Tryz.prog 111 = 8 := by kernel_rfl
@[simp] theorem ty_ag_111 : tagg Go.Proofs.Tryz.prog 111 = false := by kernel_rfl
@[simp] theorem ty_ze_111 : tzero Go.Proofs.Tryz.prog 111 = some Value.nilFunc := by kernel_rfl
@[simp] theorem ty_tok_112 : tok Go.Proofs.Tryz.prog 112 = true := by kernel_rfl
@[simp] theorem ty_sz_112 : tsize Go.Proofs.Tryz.prog 112 = 1 := by kernel_rfl
@[simp] theorem ty_by_112 : tbytes Go.Proofs.Tryz.prog 112 = 8 := by kernel_rfl
@[simp] theorem ty_ag_112 : tagg Go.Proofs.Tryz.prog 112 = false := by kernel_rfl
@[simp] theorem ty_ze_112 : tzero Go.Proofs.Tryz.prog 112 = some Value.nilFunc := by kernel_rfl
@[simp] theorem ty_tok_113 : tok Go.Proofs.Tryz.prog 113 = true := by kernel_rfl
@[simp] theorem ty_sz_113 : tsize Go.Proofs.Tryz.prog 113 = 1 := by kernel_rfl
@[simp] theorem ty_by_113 : tbytes Go.Proofs.Tryz.prog 113 = 8 := by kernel_rfl
@[simp] theorem ty_ag_113 : tagg Go.Proofs.Tryz.prog 113 = false := by kernel_rfl
@[simp] theorem ty_ze_113 : tzero Go.Proofs.Tryz.prog 113 = some Value.nilFunc := by kernel_rfl
@[simp] theorem ty_tok_114 : tok Go.Proofs.Tryz.prog 114 = true := by kernel_rfl
@[simp] theorem ty_sz_114 : tsize Go.Proofs.Tryz.prog 114 = 1 := by kernel_rfl
@[simp] theorem ty_by_114 : tbytes Go.Proofs.Tryz.prog 114 = 8 := by kernel_rfl
@[simp] theorem ty_ag_114 : tagg Go.Proofs.Tryz.prog 114 = false := by kernel_rfl
@[simp] theorem ty_ze_114 : tzero Go.Proofs.Tryz.prog 114 = some Value.nilFunc := by kernel_rfl
@[simp] theorem ty_tok_115 : tok Go.Proofs.Tryz.prog 115 = true := by kernel_rfl
@[simp] theorem ty_sz_115 : tsize Go.Proofs.Tryz.prog 115 = 1 := by kernel_rfl
@[simp] theorem ty_by_115 : tbytes Go.Proofs.Tryz.prog 115 = 8 := by kernel_rfl
@[simp] theorem ty_ag_115 : tagg Go.Proofs.Tryz.prog 115 = false := by kernel_rfl
@[simp] theorem ty_ze_115 : tzero Go.Proofs.Tryz.prog 115 = some Value.nilFunc := by kernel_rfl
@[simp] theorem ty_tok_116 : tok Go.Proofs.Tryz.prog 116 = true := by kernel_rfl
@[simp] theorem ty_sz_116 : tsize Go.Proofs.Tryz.prog 116 = 1 := by kernel_rfl
@[simp] theorem ty_by_116 : tbytes Go.Proofs.Tryz.prog 116 = 8 := by kernel_rfl
@[simp] theorem ty_ag_116 : tagg Go.Proofs.Tryz.prog 116 = false := by kernel_rfl
@[simp] theorem ty_ze_116 : tzero Go.Proofs.Tryz.prog 116 = some Value.nilFunc := by kernel_rfl
@[simp] theorem ty_tok_117 : tok Go.Proofs.Tryz.prog 117 = true := by kernel_rfl
@[simp] theorem ty_sz_117 : tsize Go.Proofs.Tryz.prog 117 = 1 := by kernel_rfl
@[simp] theorem ty_by_117 : tbytes Go.Proofs.Tryz.prog 117 = 8 := by kernel_rfl
@[simp] theorem ty_ag_117 : tagg Go.Proofs.Tryz.prog 117 = false := by kernel_rfl
@[simp] theorem ty_ze_117 : tzero Go.Proofs.Tryz.prog 117 = some Value.nilFunc := by kernel_rfl
@[simp] theorem ty_tok_118 : tok Go.Proofs.Tryz.prog 118 = true := by kernel_rfl
@[simp] theorem ty_sz_118 : tsize Go.Proofs.Tryz.prog 118 = 1 := by kernel_rfl
@[simp] theorem ty_by_118 : tbytes Go.Proofs.Tryz.prog 118 = 8 := by kernel_rfl
@[simp] theorem ty_ag_118 : tagg Go.Proofs.Tryz.prog 118 = false := by kernel_rfl
@[simp] theorem ty_ze_118 : tzero Go.Proofs.Tryz.prog 118 = some Value.nilFunc := by kernel_rfl
@[simp] theorem ty_tok_119 : tok Go.Proofs.Tryz.prog 119 = true := by kernel_rfl
@[simp] theorem ty_sz_119 : tsize Go.Proofs.Tryz.prog 119 = 1 := by kernel_rfl
@[simp] theorem ty_by_119 : tbytes Go.Proofs.Tryz.prog 119 = 8 := by kernel_rfl
@[simp] theorem ty_ag_119 : tagg Go.Proofs.Tryz.prog 119 = false := by kernel_rfl
@[simp] theorem ty_ze_119 : tzero Go.Proofs.Tryz.prog 119 = some Value.nilFunc := by kernel_rfl
@[simp] theorem ty_tok_120 : tok Go.Proofs.Tryz.prog 120 = true := by kernel_rfl
@[simp] theorem ty_sz_120 : tsize Go.Proofs.Tryz.prog 120 = 1 := by kernel_rfl
@[simp] theorem ty_by_120 : tbytes Go.Proofs.Tryz.prog 120 = 8 := by kernel_rfl
@[simp] theorem ty_ag_120 : tagg Go.Proofs.Tryz.prog 120 = false := by kernel_rfl
@[simp] theorem ty_ze_120 : tzero Go.Proofs.Tryz.prog 120 = some (Value.map none) := by kernel_rfl
@[simp] theorem ty_mp_120 : mapT Go.Proofs.Tryz.prog 120 = some (2, 2) := by kernel_rfl
@[simp] theorem ty_un_2 : Go.Proofs.Tryz.prog.underlying 2 = some (.int .i64) := by kernel_rfl
@[simp] theorem ty_tok_121 : tok Go.Proofs.Tryz.prog 121 = true := by kernel_rfl
@[simp] theorem ty_sz_121 : tsize Go.Proofs.Tryz.prog 121 = 1 := by kernel_rfl
@[simp] theorem ty_by_121 : tbytes Go.Proofs.Tryz.prog 121 = 8 := by kernel_rfl
@[simp] theorem ty_ag_121 : tagg Go.Proofs.Tryz.prog 121 = false := by kernel_rfl
@[simp] theorem ty_ze_121 : tzero Go.Proofs.Tryz.prog 121 = some (Value.pointer none) := by kernel_rfl
@[simp] theorem ty_tok_123 : tok Go.Proofs.Tryz.prog 123 = true := by kernel_rfl
@[simp] theorem ty_sz_123 : tsize Go.Proofs.Tryz.prog 123 = 1 := by kernel_rfl
@[simp] theorem ty_by_123 : tbytes Go.Proofs.Tryz.prog 123 = 8 := by kernel_rfl
@[simp] theorem ty_ag_123 : tagg Go.Proofs.Tryz.prog 123 = false := by kernel_rfl
@[simp] theorem ty_ze_123 : tzero Go.Proofs.Tryz.prog 123 = some Value.nilFunc := by kernel_rfl
@[simp] theorem ty_tok_124 : tok Go.Proofs.Tryz.prog 124 = true := by kernel_rfl
@[simp] theorem ty_sz_124 : tsize Go.Proofs.Tryz.prog 124 = 1 := by kernel_rfl
@[simp] theorem ty_by_124 : tbytes Go.Proofs.Tryz.prog 124 = 8 := by kernel_rfl
@[simp] theorem ty_ag_124 : tagg Go.Proofs.Tryz.prog 124 = false := by kernel_rfl
@[simp] theorem ty_ze_124 : tzero Go.Proofs.Tryz.prog 124 = some Value.nilFunc := by kernel_rfl
@[simp] theorem ty_tok_125 : tok Go.Proofs.Tryz.prog 125 = true := by kernel_rfl
@[simp] theorem ty_sz_125 : tsize Go.Proofs.Tryz.prog 125 = 1 := by kernel_rfl
@[simp] theorem ty_by_125 : tbytes Go.Proofs.Tryz.prog 125 = 8 := by kernel_rfl
@[simp] theorem ty_ag_125 : tagg Go.Proofs.Tryz.prog 125 = false := by kernel_rfl
@[simp] theorem ty_ze_125 : tzero Go.Proofs.Tryz.prog 125 = some Value.nilFunc := by kernel_rfl
@[simp] theorem ty_tok_126 : tok Go.Proofs.Tryz.prog 126 = true := by kernel_rfl
@[simp] theorem ty_sz_126 : tsize Go.Proofs.Tryz.prog 126 = 1 := by kernel_rfl
@[simp] theorem ty_by_126 : tbytes Go.Proofs.Tryz.prog 126 = 8 := by kernel_rfl
@[simp] theorem ty_ag_126 : tagg Go.Proofs.Tryz.prog 126 = false := by kernel_rfl
@[simp] theorem ty_ze_126 : tzero Go.Proofs.Tryz.prog 126 = some Value.nilFunc := by kernel_rfl
@[simp] theorem ty_tok_127 : tok Go.Proofs.Tryz.prog 127 = true := by kernel_rfl
@[simp] theorem ty_sz_127 : tsize Go.Proofs.Tryz.prog 127 = 1 := by kernel_rfl
@[simp] theorem ty_by_127 : tbytes Go.Proofs.Tryz.prog 127 = 8 := by kernel_rfl
@[simp] theorem ty_ag_127 : tagg Go.Proofs.Tryz.prog 127 = false := by kernel_rfl
@[simp] theorem ty_ze_127 : tzero Go.Proofs.Tryz.prog 127 = some Value.nilFunc := by kernel_rfl
@[simp] theorem ty_tok_128 : tok Go.Proofs.Tryz.prog 128 = true := by kernel_rfl
@[simp] theorem ty_sz_128 : tsize Go.Proofs.Tryz.prog 128 = 1 := by kernel_rfl
@[simp] theorem ty_by_128 : tbytes Go.Proofs.Tryz.prog 128 = 8 := by kernel_rfl
@[simp] theorem ty_ag_128 : tagg Go.Proofs.Tryz.prog 128 = false := by kernel_rfl
@[simp] theorem ty_ze_128 : tzero Go.Proofs.Tryz.prog 128 = some Value.nilFunc := by kernel_rfl
@[simp] theorem ty_tok_129 : tok Go.Proofs.Tryz.prog 129 = true := by kernel_rfl
@[simp] theorem ty_sz_129 : tsize Go.Proofs.Tryz.prog 129 = 1 := by kernel_rfl
@[simp] theorem ty_by_129 : tbytes Go.Proofs.Tryz.prog 129 = 8 := by kernel_rfl
@[simp] theorem ty_ag_129 : tagg Go.Proofs.Tryz.prog 129 = false := by kernel_rfl
@[simp] theorem ty_ze_129 : tzero Go.Proofs.Tryz.prog 129 = some Value.nilFunc := by kernel_rfl
@[simp] theorem ty_tok_130 : tok Go.Proofs.Tryz.prog 130 = true := by kernel_rfl
@[simp] theorem ty_sz_130 : tsize Go.Proofs.Tryz.prog 130 = 1 := by kernel_rfl
@[simp] theorem ty_by_130 : tbytes Go.Proofs.Tryz.prog 130 = 8 := by kernel_rfl
@[simp] theorem ty_ag_130 : tagg Go.Proofs.Tryz.prog 130 = false := by kernel_rfl
@[simp] theorem ty_ze_130 : tzero Go.Proofs.Tryz.prog 130 = some Value.nilFunc := by kernel_rfl
@[simp] theorem ty_tok_131 : tok Go.Proofs.Tryz.prog 131 = true := by kernel_rfl
@[simp] theorem ty_sz_131 : tsize Go.Proofs.Tryz.prog 131 = 1 := by kernel_rfl
@[simp] theorem ty_by_131 : tbytes Go.Proofs.Tryz.prog 131 = 24 := by kernel_rfl
@[simp] theorem ty_ag_131 : tagg Go.Proofs.Tryz.prog 131 = false := by kernel_rfl
@[simp] theorem ty_ze_131 : tzero Go.Proofs.Tryz.prog 131 = some (Value.slice none 0 0) := by kernel_rfl
@[simp] theorem ty_el_131 : telem Go.Proofs.Tryz.prog 131 = some 4 := by kernel_rfl
@[simp] theorem ty_tok_132 : tok Go.Proofs.Tryz.prog 132 = true := by kernel_rfl
@[simp] theorem ty_sz_132 : tsize Go.Proofs.Tryz.prog 132 = 4 := by kernel_rfl
@[simp] theorem ty_by_132 : tbytes Go.Proofs.Tryz.prog 132 = 64 := by kernel_rfl
@[simp] theorem ty_ag_132 : tagg Go.Proofs.Tryz.prog 132 = true := by kernel_rfl
@[simp] theorem ty_ze_132 : tzero Go.Proofs.Tryz.prog 132 = some (Value.agg #[(Value.int .i64 0), (Value.int .i64 0), (Value.slice none 0 0), (Value.slice none 0 0)]) := by kernel_rfl
@[simp] theorem ty_fi_132 : tfields Go.Proofs.Tryz.prog 132 = some [(0, 1), (1, 1), (2, 1), (3, 1)] := by kernel_rfl
@[simp] theorem ty_tok_133 : tok Go.Proofs.Tryz.prog 133 = true := by kernel_rfl
@[simp] theorem ty_sz_133 : tsize Go.Proofs.Tryz.prog 133 = 4 := by kernel_rfl
@[simp] theorem ty_by_133 : tbytes Go.Proofs.Tryz.prog 133 = 64 := by kernel_rfl
@[simp] theorem ty_ag_133 : tagg Go.Proofs.Tryz.prog 133 = true := by kernel_rfl
@[simp] theorem ty_ze_133 : tzero Go.Proofs.Tryz.prog 133 = some (Value.agg #[(Value.int .i64 0), (Value.int .i64 0), (Value.slice none 0 0), (Value.slice none 0 0)]) := by kernel_rfl
@[simp] theorem ty_fi_133 : tfields Go.Proofs.Tryz.prog 133 = some [(0, 1), (1, 1), (2, 1), (3, 1)] := by kernel_rfl
@[simp] theorem ty_tok_134 : tok Go.Proofs.Tryz.prog 134 = true := by kernel_rfl
@[simp] theorem ty_sz_134 : tsize Go.Proofs.Tryz.prog 134 = 1 := by kernel_rfl
@[simp] theorem ty_by_134 : tbytes Go.Proofs.Tryz.prog 134 = 8 := by kernel_rfl
@[simp] theorem ty_ag_134 : tagg Go.Proofs.Tryz.prog 134 = false := by kernel_rfl
@[simp] theorem ty_ze_134 : tzero Go.Proofs.Tryz.prog 134 = some Value.nilFunc := by kernel_rfl
@[simp] theorem ty_tok_135 : tok Go.Proofs.Tryz.prog 135 = true := by kernel_rfl
@[simp] theorem ty_sz_135 : tsize Go.Proofs.Tryz.prog 135 = 1 := by kernel_rfl
@[simp] theorem ty_by_135 : tbytes Go.Proofs.Tryz.prog 135 = 8 := by kernel_rfl
@[simp] theorem ty_ag_135 : tagg Go.Proofs.Tryz.prog 135 = false := by kernel_rfl
@[simp] theorem ty_ze_135 : tzero Go.Proofs.Tryz.prog 135 = some Value.nilFunc := by kernel_rfl
@[simp] theorem ty_tok_136 : tok Go.Proofs.Tryz.prog 136 = true := by kernel_rfl
@[simp] theorem ty_sz_136 : tsize Go.Proofs.Tryz.prog 136 = 1 := by kernel_rfl
@[simp] theorem ty_by_136 : tbytes Go.Proofs.Tryz.prog 136 = 8 := by kernel_rfl
@[simp] theorem ty_ag_136 : tagg Go.Proofs.Tryz.prog 136 = false := by kernel_rfl
@[simp] theorem ty_ze_136 : tzero Go.Proofs.Tryz.prog 136 = some Value.nilFunc := by kernel_rfl
@[simp] theorem ty_tok_137 : tok Go.Proofs.Tryz.prog 137 = true := by kernel_rfl
@[simp] theorem ty_sz_137 : tsize Go.Proofs.Tryz.prog 137 = 1 := by kernel_rfl
@[simp] theorem ty_by_137 : tbytes Go.Proofs.Tryz.prog 137 = 8 := by kernel_rfl
@[simp] theorem ty_ag_137 : tagg Go.Proofs.Tryz.prog 137 = false := by kernel_rfl
@[simp] theorem ty_ze_137 : tzero Go.Proofs.Tryz.prog 137 = some Value.nilFunc := by kernel_rfl
@[simp] theorem ty_tok_139 : tok Go.Proofs.Tryz.prog 139 = true := by kernel_rfl
@[simp] theorem ty_sz_139 : tsize Go.Proofs.Tryz.prog 139 = 1 := by kernel_rfl
@[simp] theorem ty_by_139 : tbytes Go.Proofs.Tryz.prog 139 = 8 := by kernel_rfl
@[simp] theorem ty_ag_139 : tagg Go.Proofs.Tryz.prog 139 = false := by kernel_rfl
@[simp] theorem ty_ze_139 : tzero Go.Proofs.Tryz.prog 139 = some Value.nilFunc := by kernel_rfl
@[simp] theorem ty_tok_140 : tok Go.Proofs.Tryz.prog 140 = true := by kernel_rfl
@[simp] theorem ty_sz_140 : tsize Go.Proofs.Tryz.prog 140 = 1 := by kernel_rfl
@[simp] theorem ty_by_140 : tbytes Go.Proofs.Tryz.prog 140 = 8 := by kernel_rfl
@[simp] theorem ty_ag_140 : tagg Go.Proofs.Tryz.prog 140 = false := by kernel_rfl
@[simp] theorem ty_ze_140 : tzero Go.Proofs.Tryz.prog 140 = some Value.nilFunc := by kernel_rfl
@[simp] theorem ty_tok_141 : tok Go.Proofs.Tryz.prog 141 = true := by kernel_rfl
@[simp] theorem ty_sz_141 : tsize Go.Proofs.Tryz.prog 141 = 1 := by kernel_rfl
@[simp] theorem ty_by_141 : tbytes Go.Proofs.Tryz.prog 141 = 8 := by kernel_rfl
@[simp] theorem ty_ag_141 : tagg Go.Proofs.Tryz.prog 141 = false := by kernel_rfl
@[simp] theorem ty_ze_141 : tzero Go.Proofs.Tryz.prog 141 = some (Value.pointer none) := by kernel_rfl
@[simp] theorem ty_tok_142 : tok Go.Proofs.Tryz.prog 142 = true := by kernel_rfl
@[simp] theorem ty_sz_142 : tsize Go.Proofs.Tryz.prog 142 = 1 := by kernel_rfl
@[simp] theorem ty_by_142 : tbytes Go.Proofs.Tryz.prog 142 = 8 := by kernel_rfl
@[simp] theorem ty_ag_142 : tagg Go.Proofs.Tryz.prog 142 = false := by kernel_rfl
@[simp] theorem ty_ze_142 : tzero Go.Proofs.Tryz.prog 142 = some Value.nilFunc := by kernel_rfl
@[simp] theorem ty_tok_143 : tok Go.Proofs.Tryz.prog 143 = true := by kernel_rfl
@[simp] theorem ty_sz_143 : tsize Go.Proofs.Tryz.prog 143 = 1 := by kernel_rfl
@[simp] theorem ty_by_143 : tbytes Go.Proofs.Tryz.prog 143 = 8 := by kernel_rfl
@[simp] theorem ty_ag_143 : tagg Go.Proofs.Tryz.prog 143 = false := by kernel_rfl
@[simp] theorem ty_ze_143 : tzero Go.Proofs.Tryz.prog 143 = some Value.nilFunc := by kernel_rfl
@[simp] theorem ty_tok_144 : tok Go.Proofs.Tryz.prog 144 = true := by kernel_rfl
@[simp] theorem ty_sz_144 : tsize Go.Proofs.Tryz.prog 144 = 3 := by kernel_rfl
@[simp] theorem ty_by_144 : tbytes Go.Proofs.Tryz.prog 144 = 40 := by kernel_rfl
@[simp] theorem ty_ag_144 : tagg Go.Proofs.Tryz.prog 144 = true := by kernel_rfl
@[simp] theorem ty_ze_144 : tzero Go.Proofs.Tryz.prog 144 = some (Value.agg #[(Value.slice none 0 0), (Value.int .i64 0), (Value.int .u64 0)]) := by kernel_rfl
@[simp] theorem ty_fi_144 : tfields Go.Proofs.Tryz.prog 144 = some [(0, 1), (1, 1), (2, 1)] := by kernel_rfl
@[simp] theorem ty_tok_145 : tok Go.Proofs.Tryz.prog 145 = true := by kernel_rfl
@[simp] theorem ty_sz_145 : tsize Go.Proofs.Tryz.prog 145 = 3 := by kernel_rfl
@[simp] theorem ty_by_145 : tbytes Go.Proofs.Tryz.prog 145 = 40 := by kernel_rfl
@[simp] theorem ty_ag_145 : tagg Go.Proofs.Tryz.prog 145 = true := by kernel_rfl
@[simp] theorem ty_ze_145 : tzero Go.Proofs.Tryz.prog 145 = some (Value.agg #[(Value.slice none 0 0), (Value.int .i64 0), (Value.int .u64 0)]) := by kernel_rfl
@[simp] theorem ty_fi_145 : tfields Go.Proofs.Tryz.prog 145 = some [(0, 1), (1, 1), (2, 1)] := by kernel_rfl
@[simp] theorem ty_tok_146 : tok Go.Proofs.Tryz.prog 146 = true := by kernel_rfl
@[simp] theorem ty_sz_146 : tsize Go.Proofs.Tryz.prog 146 = 1 := by kernel_rfl
@[simp] theorem ty_by_146 : tbytes Go.Proofs.Tryz.prog 146 = 8 := by kernel_rfl
@[simp] theorem ty_ag_146 : tagg Go.Proofs.Tryz.prog 146 = false := by kernel_rfl
@[simp] theorem ty_ze_146 : tzero Go.Proofs.Tryz.prog 146 = some Value.nilFunc := by kernel_rfl
@[simp] theorem ty_tok_147 : tok Go.Proofs.Tryz.prog 147 = true := by kernel_rfl
@[simp] theorem ty_sz_147 : tsize Go.Proofs.Tryz.prog 147 = 1 := by kernel_rfl
@[simp] theorem ty_by_147 : tbytes Go.Proofs.Tryz.prog 147 = 8 := by kernel_rfl
@[simp] theorem ty_ag_147 : tagg Go.Proofs.Tryz.prog 147 = false := by kernel_rfl
@[simp] theorem ty_ze_147 : tzero Go.Proofs.Tryz.prog 147 = some Value.nilFunc := by kernel_rfl
@[simp] theorem ty_tok_149 : tok Go.Proofs.Tryz.prog 149 = true := by kernel_rfl
@[simp] theorem ty_sz_149 : tsize Go.Proofs.Tryz.prog 149 = 1 := by kernel_rfl
@[simp] theorem ty_by_149 : tbytes Go.Proofs.Tryz.prog 149 = 8 := by kernel_rfl
@[simp] theorem ty_ag_149 : tagg Go.Proofs.Tryz.prog 149 = false := by kernel_rfl
@[simp] theorem ty_ze_149 : tzero Go.Proofs.Tryz.prog 149 = some Value.nilFunc := by kernel_rfl
@[simp] theorem ty_tok_150 : tok Go.Proofs.Tryz.prog 150 = true := by kernel_rfl
@[simp] theorem ty_sz_150 : tsize Go.Proofs.Tryz.prog 150 = 1 := by kernel_rfl
@[simp] theorem ty_by_150 : tbytes Go.Proofs.Tryz.prog 150 = 8 := by kernel_rfl
@[simp] theorem ty_ag_150 : tagg Go.Proofs.Tryz.prog 150 = false := by kernel_rfl
@[simp] theorem ty_ze_150 : tzero Go.Proofs.Tryz.prog 150 = some Value.nilFunc := by kernel_rfl
@[simp] theorem ty_tok_151 : tok Go.Proofs.Tryz.prog 151 = true := by kernel_rfl
@[simp] theorem ty_sz_151 : tsize Go.Proofs.Tryz.prog 151 = 1 := by kernel_rfl
@[simp] theorem ty_by_151 : tbytes Go.Proofs.Tryz.prog 151 = 8 := by kernel_rfl
@[simp] theorem ty_ag_151 : tagg Go.Proofs.Tryz.prog 151 = false := by kernel_rfl
@[simp] theorem ty_ze_151 : tzero Go.Proofs.Tryz.prog 151 = some Value.nilFunc := by kernel_rfl
@[simp] theorem ty_tok_152 : tok Go.Proofs.Tryz.prog 152 = true := by kernel_rfl
@[simp] theorem ty_sz_152 : tsize Go.Proofs.Tryz.prog 152 = 1 := by kernel_rfl
@[simp] theorem ty_by_152 : tbytes Go.Proofs.Tryz.prog 152 = 8 := by kernel_rfl
@[simp] theorem ty_ag_152 : tagg Go.Proofs.Tryz.prog 152 = false := by kernel_rfl
@[simp] theorem ty_ze_152 : tzero Go.Proofs.Tryz.prog 152 = some Value.nilFunc := by kernel_rfl
@[simp] theorem ty_tok_153 : tok Go.Proofs.Tryz.prog 153 = true := by kernel_rfl
@[simp] theorem ty_sz_153 : tsize Go.Proofs.Tryz.prog 153 = 1 := by kernel_rfl
@[simp] theorem ty_by_153 : tbytes Go.Proofs.Tryz.prog 153 = 8 := by kernel_rfl
@[simp] theorem ty_ag_153 : tagg Go.Proofs.Tryz.prog 153 = false := by kernel_rfl
@[simp] theorem ty_ze_153 : tzero Go.Proofs.Tryz.prog 153 = some Value.nilFunc := by kernel_rfl
@[simp] theorem ty_tok_154 : tok Go.Proofs.Tryz.prog 154 = true := by kernel_rfl
@[simp] theorem ty_sz_154 : tsize Go.Proofs.Tryz.prog 154 = 1 := by kernel_rfl
@[simp] theorem ty_by_154 : tbytes Go.Proofs.Tryz.prog 154 = 8 := by kernel_rfl
@[simp] theorem ty_ag_154 : tagg Go.Proofs.Tryz.prog 154 = false := by kernel_rfl
@[simp] theorem ty_ze_154 : tzero Go.Proofs.Tryz.prog 154 = some Value.nilFunc := by kernel_rfl
@[simp] theorem ty_tok_155 : tok Go.Proofs.Tryz.prog 155 = true := by kernel_rfl
@[simp] theorem ty_sz_155 : tsize Go.Proofs.Tryz.prog 155 = 1 := by kernel_rfl
@[simp] theorem ty_by_155 : tbytes Go.Proofs.Tryz.prog 155 = 8 := by kernel_rfl
@[simp] theorem ty_ag_155 : tagg Go.Proofs.Tryz.prog 155 = false := by kernel_rfl
@[simp] theorem ty_ze_155 : tzero Go.Proofs.Tryz.prog 155 = some Value.nilFunc := by kernel_rfl
@[simp] theorem ty_tok_156 : tok Go.Proofs.Tryz.prog 156 = true := by kernel_rfl
@[simp] theorem ty_sz_156 : tsize Go.Proofs.Tryz.prog 156 = 1 := by kernel_rfl
@[simp] theorem ty_by_156 : tbytes Go.Proofs.Tryz.prog 156 = 8 := by kernel_rfl
@[simp] theorem ty_ag_156 : tagg Go.Proofs.Tryz.prog 156 = false := by kernel_rfl
@[simp] theorem ty_ze_156 : tzero Go.Proofs.Tryz.prog 156 = some Value.nilFunc := by kernel_rfl
@[simp] theorem ty_tok_157 : tok Go.Proofs.Tryz.prog 157 = true := by kernel_rfl
@[simp] theorem ty_sz_157 : tsize Go.Proofs.Tryz.prog 157 = 1 := by kernel_rfl
@[simp] theorem ty_by_157 : tbytes Go.Proofs.Tryz.prog 157 = 8 := by kernel_rfl
@[simp] theorem ty_ag_157 : tagg Go.Proofs.Tryz.prog 157 = false := by kernel_rfl
@[simp] theorem ty_ze_157 : tzero Go.Proofs.Tryz.prog 157 = some Value.nilFunc := by kernel_rfl
@[simp] theorem ty_tok_158 : tok Go.Proofs.Tryz.prog 158 = true := by kernel_rfl
@[simp] theorem ty_sz_158 : tsize Go.Proofs.Tryz.prog 158 = 1 := by kernel_rfl
@[simp] theorem ty_by_158 : tbytes Go.Proofs.Tryz.prog 158 = 8 := by kernel_rfl
@[simp] theorem ty_ag_158 : tagg Go.Proofs.Tryz.prog 158 = false := by kernel_rfl
@[simp] theorem ty_ze_158 : tzero Go.Proofs.Tryz.prog 158 = some Value.nilFunc := by kernel_rfl
@[simp] theorem ty_tok_159 : tok Go.Proofs.Tryz.prog 159 = true := by kernel_rfl
@[simp] theorem ty_sz_159 : tsize Go.Proofs.Tryz.prog 159 = 1 := by kernel_rfl
@[simp] theorem ty_by_159 : tbytes Go.Proofs.Tryz.prog 159 = 8 := by kernel_rfl
@[simp] theorem ty_ag_159 : tagg Go.Proofs.Tryz.prog 159 = false := by kernel_rfl
@[simp] theorem ty_ze_159 : tzero Go.Proofs.Tryz.prog 159 = some Value.nilFunc := by kernel_rfl
@[simp] theorem ty_tok_161 : tok Go.Proofs.Tryz.prog 161 = true := by kernel_rfl
@[simp] theorem ty_sz_161 : tsize Go.Proofs.Tryz.prog 161 = 1 := by kernel_rfl
@[simp] theorem ty_by_161 : tbytes Go.Proofs.Tryz.prog 161 = 8 := by kernel_rfl
@[simp] theorem ty_ag_161 : tagg Go.Proofs.Tryz.prog 161 = false := by kernel_rfl
@[simp] theorem ty_ze_161 : tzero Go.Proofs.Tryz.prog 161 = some Value.nilFunc := by kernel_rfl
@[simp] theorem ty_tok_162 : tok Go.Proofs.Tryz.prog 162 = true := by kernel_rfl
@[simp] theorem ty_sz_162 : tsize Go.Proofs.Tryz.prog 162 = 1 := by kernel_rfl
@[simp] theorem ty_by_162 : tbytes Go.Proofs.Tryz.prog 162 = 8 := by kernel_rfl
@[simp] theorem ty_ag_162 : tagg Go.Proofs.Tryz.prog 162 = false := by kernel_rfl
@[simp] theorem ty_ze_162 : tzero Go.Proofs.Tryz.prog 162 = some Value.nilFunc := by kernel_rfl
@[simp] theorem ty_tok_163 : tok Go.Proofs.Tryz.prog 163 = true := by kernel_rfl
@[simp] theorem ty_sz_163 : tsize Go.Proofs.Tryz.prog 163 = 1 := by kernel_rfl
@[simp] theorem ty_by_163 : tbytes Go.Proofs.Tryz.prog 163 = 8 := by kernel_rfl
@[simp] theorem ty_ag_163 : tagg Go.Proofs.Tryz.prog 163 = false := by kernel_rfl
@[simp] theorem ty_ze_163 : tzero Go.Proofs.Tryz.prog 163 = some Value.nilFunc := by kernel_rfl
@[simp] theorem ty_tok_164 : tok Go.Proofs.Tryz.prog 164 = true := by kernel_rfl
@[simp] theorem ty_sz_164 : tsize Go.Proofs.Tryz.prog 164 = 1 := by kernel_rfl
@[simp] theorem ty_by_164 : tbytes Go.Proofs.Tryz.prog 164 = 8 := by kernel_rfl
@[simp] theorem ty_ag_164 : tagg Go.Proofs.Tryz.prog 164 = false := by kernel_rfl
@[simp] theorem ty_ze_164 : tzero Go.Proofs.Tryz.prog 164 = some (Value.map none) := by kernel_rfl
@[simp] theorem ty_mp_164 : mapT Go.Proofs.Tryz.prog 164 = some (2, 4) := by kernel_rfl
@[simp] theorem ty_tok_165 : tok Go.Proofs.Tryz.prog 165 = true := by kernel_rfl
@[simp] theorem ty_sz_165 : tsize Go.Proofs.Tryz.prog 165 = 1 := by kernel_rfl
@[simp] theorem ty_by_165 : tbytes Go.Proofs.Tryz.prog 165 = 8 := by kernel_rfl
@[simp] theorem ty_ag_165 : tagg Go.Proofs.Tryz.prog 165 = false := by kernel_rfl
@[simp] theorem ty_ze_165 : tzero Go.Proofs.Tryz.prog 165 = some Value.nilFunc := by kernel_rfl
@[simp] theorem ty_tok_166 : tok Go.Proofs.Tryz.prog 166 = true := by kernel_rfl
@[simp] theorem ty_sz_166 : tsize Go.Proofs.Tryz.prog 166 = 1 := by kernel_rfl
@[simp] theorem ty_by_166 : tbytes Go.Proofs.Tryz.prog 166 = 8 := by kernel_rfl
@[simp] theorem ty_ag_166 : tagg Go.Proofs.Tryz.prog 166 = false := by kernel_rfl
@[simp] theorem ty_ze_166 : tzero Go.Proofs.Tryz.prog 166 = some Value.nilFunc := by kernel_rfl
@[simp] theorem ty_tok_167 : tok Go.Proofs.Tryz.prog 167 = true := by kernel_rfl
@[simp] theorem ty_sz_167 : tsize Go.Proofs.Tryz.prog 167 = 1 := by kernel_rfl
@[simp] theorem ty_by_167 : tbytes Go.Proofs.Tryz.prog 167 = 8 := by kernel_rfl
@[simp] theorem ty_ag_167 : tagg Go.Proofs.Tryz.prog 167 = false := by kernel_rfl
@[simp] theorem ty_ze_167 : tzero Go.Proofs.Tryz.prog 167 = some Value.nilFunc := by kernel_rfl
@[simp] theorem ty_tok_168 : tok Go.Proofs.Tryz.prog 168 = true := by kernel_rfl
@[simp] theorem ty_sz_168 : tsize Go.Proofs.Tryz.prog 168 = 1 := by kernel_rfl
@[simp] theorem ty_by_168 : tbytes Go.Proofs.Tryz.prog 168 = 8 := by kernel_rfl
@[simp] theorem ty_ag_168 : tagg Go.Proofs.Tryz.prog 168 = false := by kernel_rfl
@[simp] theorem ty_ze_168 : tzero Go.Proofs.Tryz.prog 168 = some Value.nilFunc := by kernel_rfl
@[simp] theorem ty_tok_169 : tok Go.Proofs.Tryz.prog 169 = true := by kernel_rfl
@[simp] theorem ty_sz_169 : tsize Go.Proofs.Tryz.prog 169 = 1 := by kernel_rfl
@[simp] theorem ty_by_169 : tbytes Go.Proofs.Tryz.prog 169 = 8 := by kernel_rfl
@[simp] theorem ty_ag_169 : tagg Go.Proofs.Tryz.prog 169 = false := by kernel_rfl
@[simp] theorem ty_ze_169 : tzero Go.Proofs.Tryz.prog 169 = some Value.nilFunc := by kernel_rfl
@[simp] theorem ty_tok_170 : tok Go.Proofs.Tryz.prog 170 = true := by kernel_rfl
@[simp] theorem ty_sz_170 : tsize Go.Proofs.Tryz.prog 170 = 1 := by kernel_rfl
@[simp] theorem ty_by_170 : tbytes Go.Proofs.Tryz.prog 170 = 8 := by kernel_rfl
@[simp] theorem ty_ag_170 : tagg Go.Proofs.Tryz.prog 170 = false := by kernel_rfl
@[simp] theorem ty_ze_170 : tzero Go.Proofs.Tryz.prog 170 = some Value.nilFunc := by kernel_rfl
@[simp] theorem ty_tok_171 : tok Go.Proofs.Tryz.prog 171 = true := by kernel_rfl
@[simp] theorem ty_sz_171 : tsize Go.Proofs.Tryz.prog 171 = 1 := by kernel_rfl
@[simp] theorem ty_by_171 : tbytes Go.Proofs.Tryz.prog 171 = 8 := by kernel_rfl
@[simp] theorem ty_ag_171 : tagg Go.Proofs.Tryz.prog 171 = false := by kernel_rfl
@[simp] theorem ty_ze_171 : tzero Go.Proofs.Tryz.prog 171 = some Value.nilFunc := by kernel_rfl
@[simp] theorem ty_tok_172 : tok Go.Proofs.Tryz.prog 172 = true := by kernel_rfl
@[simp] theorem ty_sz_172 : tsize Go.Proofs.Tryz.prog 172 = 1 := by kernel_rfl
@[simp] theorem ty_by_172 : tbytes Go.Proofs.Tryz.prog 172 = 24 := by kernel_rfl
@[simp] theorem ty_ag_172 : tagg Go.Proofs.Tryz.prog 172 = false := by kernel_rfl
@[simp] theorem ty_ze_172 : tzero Go.Proofs.Tryz.prog 172 = some (Value.slice none 0 0) := by kernel_rfl
@[simp] theorem ty_el_172 : telem Go.Proofs.Tryz.prog 172 = some 76 := by kernel_rfl
@[simp] theorem ty_tok_173 : tok Go.Proofs.Tryz.prog 173 = true := by kernel_rfl
@[simp] theorem ty_sz_173 : tsize Go.Proofs.Tryz.prog 173 = 1 := by kernel_rfl
@[simp] theorem ty_by_173 : tbytes Go.Proofs.Tryz.prog 173 = 8 := by kernel_rfl
@[simp] theorem ty_ag_173 : tagg Go.Proofs.Tryz.prog 173 = false := by kernel_rfl
@[simp] theorem ty_ze_173 : tzero Go.Proofs.Tryz.prog 173 = some Value.nilFunc := by kernel_rfl
@[simp] theorem ty_tok_174 : tok Go.Proofs.Tryz.prog 174 = true := by kernel_rfl
@[simp] theorem ty_sz_174 : tsize Go.Proofs.Tryz.prog 174 = 1 := by kernel_rfl
@[simp] theorem ty_by_174 : tbytes Go.Proofs.Tryz.prog 174 = 8 := by kernel_rfl
@[simp] theorem ty_ag_174 : tagg Go.Proofs.Tryz.prog 174 = false := by kernel_rfl
@[simp] theorem ty_ze_174 : tzero Go.Proofs.Tryz.prog 174 = some Value.nilFunc := by kernel_rfl
@[simp] theorem ty_tok_175 : tok Go.Proofs.Tryz.prog 175 = true := by kernel_rfl
@[simp] theorem ty_sz_175 : tsize Go.Proofs.Tryz.prog 175 = 1 := by kernel_rfl
@[simp] theorem ty_by_175 : tbytes Go.Proofs.Tryz.prog 175 = 8 := by kernel_rfl
@[simp] theorem ty_ag_175 : tagg Go.Proofs.Tryz.prog 175 = false := by kernel_rfl
@[simp] theorem ty_ze_175 : tzero Go.Proofs.Tryz.prog 175 = some (Value.map none) := by kernel_rfl
@[simp] theorem ty_mp_175 : mapT Go.Proofs.Tryz.prog 175 = some (9, 4) := by kernel_rfl
@[simp] theorem ty_un_9 : Go.Proofs.Tryz.prog.underlying 9 = some .string := by kernel_rfl
@[simp] theorem ty_tok_176 : tok Go.Proofs.Tryz.prog 176 = true := by kernel_rfl
@[simp] theorem ty_sz_176 : tsize Go.Proofs.Tryz.prog 176 = 1 := by kernel_rfl
@[simp] theorem ty_by_176 : tbytes Go.Proofs.Tryz.prog 176 = 8 := by kernel_rfl
@[simp] theorem ty_ag_176 : tagg Go.Proofs.Tryz.prog 176 = false := by kernel_rfl
@[simp] theorem ty_ze_176 : tzero Go.Proofs.Tryz.prog 176 = some Value.nilFunc := by kernel_rfl
@[simp] theorem ty_tok_178 : tok Go.Proofs.Tryz.prog 178 = true := by kernel_rfl
@[simp] theorem ty_sz_178 : tsize Go.Proofs.Tryz.prog 178 = 1 := by kernel_rfl
@[simp] theorem ty_by_178 : tbytes Go.Proofs.Tryz.prog 178 = 8 := by kernel_rfl
@[simp] theorem ty_ag_178 : tagg Go.Proofs.Tryz.prog 178 = false := by kernel_rfl
@[simp] theorem ty_ze_178 : tzero Go.Proofs.Tryz.prog 178 = some Value.nilFunc := by kernel_rfl
@[simp] theorem ty_tok_179 : tok Go.Proofs.Tryz.prog 179 = true := by kernel_rfl
@[simp] theorem ty_sz_179 : tsize Go.Proofs.Tryz.prog 179 = 1 := by kernel_rfl
@[simp] theorem ty_by_179 : tbytes Go.Proofs.Tryz.prog 179 = 8 := by kernel_rfl
@[simp] theorem ty_ag_179 : tagg Go.Proofs.Tryz.prog 179 = false := by kernel_rfl
@[simp] theorem ty_ze_179 : tzero Go.Proofs.Tryz.prog 179 = some Value.nilFunc := by kernel_rfl
@[simp] theorem ty_tok_180 : tok Go.Proofs.Tryz.prog 180 = true := by kernel_rfl
@[simp] theorem ty_sz_180 : tsize Go.Proofs.Tryz.prog 180 = 1 := by kernel_rfl
@[simp] theorem ty_by_180 : tbytes Go.Proofs.Tryz.prog 180 = 8 := by kernel_rfl
@[simp] theorem ty_ag_180 : tagg Go.Proofs.Tryz.prog 180 = false := by kernel_rfl
@[simp] theorem ty_ze_180 : tzero Go.Proofs.Tryz.prog 180 = some Value.nilFunc := by kernel_rfl
@[simp] theorem ty_tok_181 : tok Go.Proofs.Tryz.prog 181 = true := by kernel_rfl
@[simp] theorem ty_sz_181 : tsize Go.Proofs.Tryz.prog 181 = 1 := by kernel_rfl
@[simp] theorem ty_by_181 : tbytes Go.Proofs.Tryz.prog 181 = 8 := by kernel_rfl
@[simp] theorem ty_ag_181 : tagg Go.Proofs.Tryz.prog 181 = false := by kernel_rfl
@[simp] theorem ty_ze_181 : tzero Go.Proofs.Tryz.prog 181 = some Value.nilFunc := by kernel_rfl
@[simp] theorem ty_tok_182 : tok Go.Proofs.Tryz.prog 182 = true := by kernel_rfl
@[simp] theorem ty_sz_182 : tsize Go.Proofs.Tryz.prog 182 = 3 := by kernel_rfl
@[simp] theorem ty_by_182 : tbytes Go.Proofs.Tryz.prog 182 = 40 := by kernel_rfl
@[simp] theorem ty_ag_182 : tagg Go.Proofs.Tryz.prog 182 = true := by kernel_rfl
@[simp] theorem ty_ze_182 : tzero Go.Proofs.Tryz.prog 182 = some (Value.agg #[(Value.slice none 0 0), (Value.int .i64 0), (Value.int .u64 0)]) := by kernel_rfl
@[simp] theorem ty_fi_182 : tfields Go.Proofs.Tryz.prog 182 = some [(0, 1), (1, 1), (2, 1)] := by kernel_rfl
@[simp] theorem ty_tok_183 : tok Go.Proofs.Tryz.prog 183 = true := by kernel_rfl
@[simp] theorem ty_sz_183 : tsize Go.Proofs.Tryz.prog 183 = 3 := by kernel_rfl
@[simp] theorem ty_by_183 : tbytes Go.Proofs.Tryz.prog 183 = 40 := by kernel_rfl
@[simp] theorem ty_ag_183 : tagg Go.Proofs.Tryz.prog 183 = true := by kernel_rfl
@[simp] theorem ty_ze_183 : tzero Go.Proofs.Tryz.prog 183 = some (Value.agg #[(Value.slice none 0 0), (Value.int .i64 0), (Value.int .u64 0)]) := by kernel_rfl
@[simp] theorem ty_fi_183 : tfields Go.Proofs.Tryz.prog 183 = some [(0, 1), (1, 1), (2, 1)] := by kernel_rfl
@[simp] theorem ty_tok_184 : tok Go.Proofs.Tryz.prog 184 = true := by kernel_rfl
@[simp] theorem ty_sz_184 : tsize Go.Proofs.Tryz.prog 184 = 1 := by kernel_rfl
@[simp] theorem ty_by_184 : tbytes Go.Proofs.Tryz.prog 184 = 8 := by kernel_rfl
@[simp] theorem ty_ag_184 : tagg Go.Proofs.Tryz.prog 184 = false := by kernel_rfl
@[simp] theorem ty_ze_184 : tzero Go.Proofs.Tryz.prog 184 = some (Value.int .u64 0) := by kernel_rfl
@[simp] theorem ty_in_184 : tint Go.Proofs.Tryz.prog 184 = some .u64 := by kernel_rfl
@[simp] theorem ty_tok_185 : tok Go.Proofs.Tryz.prog 185 = true := by kernel_rfl
@[simp] theorem ty_sz_185 : tsize Go.Proofs.Tryz.prog 185 = 1 := by kernel_rfl
@[simp] theorem ty_by_185 : tbytes Go.Proofs.Tryz.prog 185 = 8 := by kernel_rfl
@[simp] theorem ty_ag_185 : tagg Go.Proofs.Tryz.prog 185 = false := by kernel_rfl
@[simp] theorem ty_ze_185 : tzero Go.Proofs.Tryz.prog 185 = some Value.nilFunc := by kernel_rfl
@[simp] theorem ty_tok_186 : tok Go.Proofs.Tryz.prog 186 = true := by kernel_rfl
@[simp] theorem ty_sz_186 : tsize Go.Proofs.Tryz.prog 186 = 1 := by kernel_rfl
@[simp] theorem ty_by_186 : tbytes Go.Proofs.Tryz.prog 186 = 8 := by kernel_rfl
@[simp] theorem ty_ag_186 : tagg Go.Proofs.Tryz.prog 186 = false := by kernel_rfl
@[simp] theorem ty_ze_186 : tzero Go.Proofs.Tryz.prog 186 = some Value.nilFunc := by kernel_rfl
@[simp] theorem ty_tok_187 : tok Go.Proofs.Tryz.prog 187 = true := by kernel_rfl
@[simp] theorem ty_sz_187 : tsize Go.Proofs.Tryz.prog 187 = 1 := by kernel_rfl
@[simp] theorem ty_by_187 : tbytes Go.Proofs.Tryz.prog 187 = 8 := by kernel_rfl
@[simp] theorem ty_ag_187 : tagg Go.Proofs.Tryz.prog 187 = false := by kernel_rfl
@[simp] theorem ty_ze_187 : tzero Go.Proofs.Tryz.prog 187 = some Value.nilFunc := by kernel_rfl
@[simp] theorem ty_tok_188 : tok Go.Proofs.Tryz.prog 188 = true := by kernel_rfl
@[simp] theorem ty_sz_188 : tsize Go.Proofs.Tryz.prog 188 = 1 := by kernel_rfl
@[simp] theorem ty_by_188 : tbytes Go.Proofs.Tryz.prog 188 = 8 := by kernel_rfl
@[simp] theorem ty_ag_188 : tagg Go.Proofs.Tryz.prog 188 = false := by kernel_rfl
@[simp] theorem ty_ze_188 : tzero Go.Proofs.Tryz.prog 188 = some Value.nilFunc := by kernel_rfl
@[simp] theorem ty_tok_189 : tok Go.Proofs.Tryz.prog 189 = true := by kernel_rfl
@[simp] theorem ty_sz_189 : tsize Go.Proofs.Tryz.prog 189 = 1 := by kernel_rfl
@[simp] theorem ty_by_189 : tbytes Go.Proofs.Tryz.prog 189 = 8 := by kernel_rfl
@[simp] theorem ty_ag_189 : tagg Go.Proofs.Tryz.prog 189 = false := by kernel_rfl
@[simp] theorem ty_ze_189 : tzero Go.Proofs.Tryz.prog 189 = some Value.nilFunc := by kernel_rfl
@[simp] theorem ty_tok_190 : tok Go.Proofs.Tryz.prog 190 = true := by kernel_rfl
@[simp] theorem ty_sz_190 : tsize Go.Proofs.Tryz.prog 190 = 1 := by kernel_rfl
@[simp] theorem ty_by_190 : tbytes Go.Proofs.Tryz.prog 190 = 8 := by kernel_rfl
@[simp] theorem ty_ag_190 : tagg Go.Proofs.Tryz.prog 190 = false := by kernel_rfl
@[simp] theorem ty_ze_190 : tzero Go.Proofs.Tryz.prog 190 = some Value.nilFunc := by kernel_rfl
@[simp] theorem ty_tok_191 : tok Go.Proofs.Tryz.prog 191 = true := by kernel_rfl
@[simp] theorem ty_sz_191 : tsize Go.Proofs.Tryz.prog 191 = 1 := by kernel_rfl
@[simp] theorem ty_by_191 : tbytes Go.Proofs.Tryz.prog 191 = 8 := by kernel_rfl
@[simp] theorem ty_ag_191 : tagg Go.Proofs.Tryz.prog 191 = false := by kernel_rfl
@[simp] theorem ty_ze_191 : tzero Go.Proofs.Tryz.prog 191 = some Value.nilFunc := by kernel_rfl
@[simp] theorem ty_tok_192 : tok Go.Proofs.Tryz.prog 192 = true := by kernel_rfl
@[simp] theorem ty_sz_192 : tsize Go.Proofs.Tryz.prog 192 = 1 := by kernel_rfl
@[simp] theorem ty_by_192 : tbytes Go.Proofs.Tryz.prog 192 = 8 := by kernel_rfl
@[simp] theorem ty_ag_192 : tagg Go.Proofs.Tryz.prog 192 = false := by kernel_rfl
@[simp] theorem ty_ze_192 : tzero Go.Proofs.Tryz.prog 192 = some Value.nilFunc := by kernel_rfl
@[simp] theorem ty_tok_193 : tok Go.Proofs.Tryz.prog 193 = true := by kernel_rfl
@[simp] theorem ty_sz_193 : tsize Go.Proofs.Tryz.prog 193 = 1 := by kernel_rfl
@[simp] theorem ty_by_193 : tbytes Go.Proofs.Tryz.prog 193 = 8 := by kernel_rfl
@[simp] theorem ty_ag_193 : tagg Go.Proofs.Tryz.prog 193 = false := by kernel_rfl
@[simp] theorem ty_ze_193 : tzero Go.Proofs.Tryz.prog 193 = some Value.nilFunc := by kernel_rfl
@[simp] theorem ty_tok_194 : tok Go.Proofs.Tryz.prog 194 = true := by kernel_rfl
@[simp] theorem ty_sz_194 : tsize Go.Proofs.Tryz.prog 194 = 2 := by kernel_rfl
@[simp] theorem ty_by_194 : tbytes Go.Proofs.Tryz.prog 194 = 32 := by kernel_rfl
@[simp] theorem ty_ag_194 : tagg Go.Proofs.Tryz.prog 194 = true := by kernel_rfl
@[simp] theorem ty_ze_194 : tzero Go.Proofs.Tryz.prog 194 = some (Value.agg #[(Value.slice none 0 0), (Value.map none)]) := by kernel_rfl
@[simp] theorem ty_fi_194 : tfields Go.Proofs.Tryz.prog 194 = some [(0, 1), (1, 1)] := by kernel_rfl
@[simp] theorem ty_tok_195 : tok Go.Proofs.Tryz.prog 195 = true := by kernel_rfl
@[simp] theorem ty_sz_195 : tsize Go.Proofs.Tryz.prog 195 = 2 := by kernel_rfl
@[simp] theorem ty_by_195 : tbytes Go.Proofs.Tryz.prog 195 = 32 := by kernel_rfl
@[simp] theorem ty_ag_195 : tagg Go.Proofs.Tryz.prog 195 = true := by kernel_rfl
@[simp] theorem ty_ze_195 : tzero Go.Proofs.Tryz.prog 195 = some (Value.agg #[(Value.slice none 0 0), (Value.map none)]) := by kernel_rfl
@[simp] theorem ty_fi_195 : tfields Go.Proofs.Tryz.prog 195 = some [(0, 1), (1, 1)] := by kernel_rfl
@[simp] theorem ty_tok_196 : tok Go.Proofs.Tryz.prog 196 = true := by kernel_rfl
@[simp] theorem ty_sz_196 : tsize Go.Proofs.Tryz.prog 196 = 1 := by kernel_rfl
@[simp] theorem ty_by_196 : tbytes Go.Proofs.Tryz.prog 196 = 8 := by kernel_rfl
@[simp] theorem ty_ag_196 : tagg Go.Proofs.Tryz.prog 196 = false := by kernel_rfl
@[simp] theorem ty_ze_196 : tzero Go.Proofs.Tryz.prog 196 = some Value.nilFunc := by kernel_rfl
@[simp] theorem ty_tok_197 : tok Go.Proofs.Tryz.prog 197 = true := by kernel_rfl
@[simp] theorem ty_sz_197 : tsize Go.Proofs.Tryz.prog 197 = 1 := by kernel_rfl
@[simp] theorem ty_by_197 : tbytes Go.Proofs.Tryz.prog 197 = 8 := by kernel_rfl
@[simp] theorem ty_ag_197 : tagg Go.Proofs.Tryz.prog 197 = false := by kernel_rfl
@[simp] theorem ty_ze_197 : tzero Go.Proofs.Tryz.prog 197 = some Value.nilFunc := by kernel_rfl
@[simp] theorem ty_ar_198 : tarr Go.Proofs.Tryz.prog 198 = some (64, 5) := by kernel_rfl
@[simp] theorem ty_el_198 : telem Go.Proofs.Tryz.prog 198 = none := by kernel_rfl
@[simp] theorem ty_tok_199 : tok Go.Proofs.Tryz.prog 199 = true := by kernel_rfl
@[simp] theorem ty_sz_199 : tsize Go.Proofs.Tryz.prog 199 = 1 := by kernel_rfl
@[simp] theorem ty_by_199 : tbytes Go.Proofs.Tryz.prog 199 = 8 := by kernel_rfl
@[simp] theorem ty_ag_199 : tagg Go.Proofs.Tryz.prog 199 = false := by kernel_rfl
@[simp] theorem ty_ze_199 : tzero Go.Proofs.Tryz.prog 199 = some Value.nilFunc := by kernel_rfl
@[simp] theorem ty_tok_200 : tok Go.Proofs.Tryz.prog 200 = true := by kernel_rfl
@[simp] theorem ty_sz_200 : tsize Go.Proofs.Tryz.prog 200 = 1 := by kernel_rfl
@[simp] theorem ty_by_200 : tbytes Go.Proofs.Tryz.prog 200 = 8 := by kernel_rfl
@[simp] theorem ty_ag_200 : tagg Go.Proofs.Tryz.prog 200 = false := by kernel_rfl
@[simp] theorem ty_ze_200 : tzero Go.Proofs.Tryz.prog 200 = some (Value.int .i64 0) := by kernel_rfl
@[simp] theorem ty_in_200 : tint Go.Proofs.Tryz.prog 200 = some .i64 := by kernel_rfl
@[simp] theorem ty_tok_202 : tok Go.Proofs.Tryz.prog 202 = true := by kernel_rfl
@[simp] theorem ty_sz_202 : tsize Go.Proofs.Tryz.prog 202 = 1 := by kernel_rfl
@[simp] theorem ty_by_202 : tbytes Go.Proofs.Tryz.prog 202 = 8 := by kernel_rfl
@[simp] theorem ty_ag_202 : tagg Go.Proofs.Tryz.prog 202 = false := by kernel_rfl
@[simp] theorem ty_ze_202 : tzero Go.Proofs.Tryz.prog 202 = some Value.nilFunc := by kernel_rfl
@[simp] theorem ty_tok_203 : tok Go.Proofs.Tryz.prog 203 = true := by kernel_rfl
@[simp] theorem ty_sz_203 : tsize Go.Proofs.Tryz.prog 203 = 1 := by kernel_rfl
@[simp] theorem ty_by_203 : tbytes Go.Proofs.Tryz.prog 203 = 8 := by kernel_rfl
@[simp] theorem ty_ag_203 : tagg Go.Proofs.Tryz.prog 203 = false := by kernel_rfl
@[simp] theorem ty_ze_203 : tzero Go.Proofs.Tryz.prog 203 = some Value.nilFunc := by kernel_rfl
@[simp] theorem ty_tok_204 : tok Go.Proofs.Tryz.prog 204 = true := by kernel_rfl
@[simp] theorem ty_sz_204 : tsize Go.Proofs.Tryz.prog 204 = 1 := by kernel_rfl
@[simp] theorem ty_by_204 : tbytes Go.Proofs.Tryz.prog 204 = 8 := by kernel_rfl
@[simp] theorem ty_ag_204 : tagg Go.Proofs.Tryz.prog 204 = false := by kernel_rfl
@[simp] theorem ty_ze_204 : tzero Go.Proofs.Tryz.prog 204 = some Value.nilFunc := by kernel_rfl
@[simp] theorem ty_tok_206 : tok Go.Proofs.Tryz.prog 206 = true := by kernel_rfl
@[simp] theorem ty_sz_206 : tsize Go.Proofs.Tryz.prog 206 = 1 := by kernel_rfl
@[simp] theorem ty_by_206 : tbytes Go.Proofs.Tryz.prog 206 = 8 := by kernel_rfl
@[simp] theorem ty_ag_206 : tagg Go.Proofs.Tryz.prog 206 = false := by kernel_rfl
@[simp] theorem ty_ze_206 : tzero Go.Proofs.Tryz.prog 206 = some Value.nilFunc := by kernel_rfl
@[simp] theorem ty_tok_207 : tok Go.Proofs.Tryz.prog 207 = true := by kernel_rfl
@[simp] theorem ty_sz_207 : tsize Go.Proofs.Tryz.prog 207 = 1 := by kernel_rfl
@[simp] theorem ty_by_207 : tbytes Go.Proofs.Tryz.prog 207 = 8 := by kernel_rfl
@[simp] theorem ty_ag_207 : tagg Go.Proofs.Tryz.prog 207 = false := by kernel_rfl
@[simp] theorem ty_ze_207 : tzero Go.Proofs.Tryz.prog 207 = some Value.nilFunc := by kernel_rfl
@[simp] theorem ty_tok_208 : tok Go.Proofs.Tryz.prog 208 = true := by kernel_rfl
@[simp] theorem ty_sz_208 : tsize Go.Proofs.Tryz.prog 208 = 1 := by kernel_rfl
@[simp] theorem ty_by_208 : tbytes Go.Proofs.Tryz.prog 208 = 4 := by kernel_rfl
@[simp] theorem ty_ag_208 : tagg Go.Proofs.Tryz.prog 208 = false := by kernel_rfl
@[simp] theorem ty_ze_208 : tzero Go.Proofs.Tryz.prog 208 = some (Value.int .u32 0) := by kernel_rfl
@[simp] theorem ty_in_208 : tint Go.Proofs.Tryz.prog 208 = some .u32 := by kernel_rfl
@[simp] theorem ty_tok_209 : tok Go.Proofs.Tryz.prog 209 = true := by kernel_rfl
@[simp] theorem ty_sz_209 : tsize Go.Proofs.Tryz.prog 209 = 1 := by kernel_rfl
@[simp] theorem ty_by_209 : tbytes Go.Proofs.Tryz.prog 209 = 8 := by kernel_rfl
@[simp] theorem ty_ag_209 : tagg Go.Proofs.Tryz.prog 209 = false := by kernel_rfl
@[simp] theorem ty_ze_209 : tzero Go.Proofs.Tryz.prog 209 = some Value.nilFunc := by kernel_rfl
@[simp] theorem ty_tok_210 : tok Go.Proofs.Tryz.prog 210 = true := by kernel_rfl
@[simp] theorem ty_sz_210 : tsize Go.Proofs.Tryz.prog 210 = 1 := by kernel_rfl
@[simp] theorem ty_by_210 : tbytes Go.Proofs.Tryz.prog 210 = 8 := by kernel_rfl
@[simp] theorem ty_ag_210 : tagg Go.Proofs.Tryz.prog 210 = false := by kernel_rfl
@[simp] theorem ty_ze_210 : tzero Go.Proofs.Tryz.prog 210 = some Value.nilFunc := by kernel_rfl
@[simp] theorem ty_tok_211 : tok Go.Proofs.Tryz.prog 211 = true := by kernel_rfl
@[simp] theorem ty_sz_211 : tsize Go.Proofs.Tryz.prog 211 = 1 := by kernel_rfl
@[simp] theorem ty_by_211 : tbytes Go.Proofs.Tryz.prog 211 = 8 := by kernel_rfl
@[simp] theorem ty_ag_211 : tagg Go.Proofs.Tryz.prog 211 = false := by kernel_rfl
@[simp] theorem ty_ze_211 : tzero Go.Proofs.Tryz.prog 211 = some Value.nilFunc := by kernel_rfl
@[simp] theorem ty_tok_212 : tok Go.Proofs.Tryz.prog 212 = true := by kernel_rfl
@[simp] theorem ty_sz_212 : tsize Go.Proofs.Tryz.prog 212 = 1 := by kernel_rfl
@[simp] theorem ty_by_212 : tbytes Go.Proofs.Tryz.prog 212 = 8 := by kernel_rfl
@[simp] theorem ty_ag_212 : tagg Go.Proofs.Tryz.prog 212 = false := by kernel_rfl
@[simp] theorem ty_ze_212 : tzero Go.Proofs.Tryz.prog 212 = some Value.nilFunc := by kernel_rfl
@[simp] theorem ty_tok_213 : tok Go.Proofs.Tryz.prog 213 = true := by kernel_rfl
@[simp] theorem ty_sz_213 : tsize Go.Proofs.Tryz.prog 213 = 1 := by kernel_rfl
@[simp] theorem ty_by_213 : tbytes Go.Proofs.Tryz.prog 213 = 8 := by kernel_rfl
@[simp] theorem ty_ag_213 : tagg Go.Proofs.Tryz.prog 213 = false := by kernel_rfl
@[simp] theorem ty_ze_213 : tzero Go.Proofs.Tryz.prog 213 = some Value.nilFunc := by kernel_rfl
@[simp] theorem ty_tok_214 : tok Go.Proofs.Tryz.prog 214 = true := by kernel_rfl
@[simp] theorem ty_sz_214 : tsize Go.Proofs.Tryz.prog 214 = 1 := by kernel_rfl
@[simp] theorem ty_by_214 : tbytes Go.Proofs.Tryz.prog 214 = 8 := by kernel_rfl
@[simp] theorem ty_ag_214 : tagg Go.Proofs.Tryz.prog 214 = false := by kernel_rfl
@[simp] theorem ty_ze_214 : tzero Go.Proofs.Tryz.prog 214 = some Value.nilFunc := by kernel_rfl
@[simp] theorem ty_tok_215 : tok Go.Proofs.Tryz.prog 215 = true := by kernel_rfl
@[simp] theorem ty_sz_215 : tsize Go.Proofs.Tryz.prog 215 = 1 := by kernel_rfl
@[simp] theorem ty_by_215 : tbytes Go.Proofs.Tryz.prog 215 = 8 := by kernel_rfl
@[simp] theorem ty_ag_215 : tagg Go.Proofs.Tryz.prog 215 = false := by kernel_rfl
@[simp] theorem ty_ze_215 : tzero Go.Proofs.Tryz.prog 215 = some Value.nilFunc := by kernel_rfl
@[simp] theorem ty_tok_216 : tok Go.Proofs.Tryz.prog 216 = true := by kernel_rfl
@[simp] theorem ty_sz_216 : tsize Go.Proofs.Tryz.prog 216 = 1 := by kernel_rfl
@[simp] theorem ty_by_216 : tbytes Go.Proofs.Tryz.prog 216 = 8 := by kernel_rfl
@[simp] theorem ty_ag_216 : tagg Go.Proofs.Tryz.prog 216 = false := by kernel_rfl
@[simp] theorem ty_ze_216 : tzero Go.Proofs.Tryz.prog 216 = some (Value.int .u64 0) := by kernel_rfl
@[simp] theorem ty_in_216 : tint Go.Proofs.Tryz.prog 216 = some .u64 := by kernel_rfl
@[simp] theorem ty_tok_217 : tok Go.Proofs.Tryz.prog 217 = true := by kernel_rfl
@[simp] theorem ty_sz_217 : tsize Go.Proofs.Tryz.prog 217 = 1 := by kernel_rfl
@[simp] theorem ty_by_217 : tbytes Go.Proofs.Tryz.prog 217 = 8 := by kernel_rfl
@[simp] theorem ty_ag_217 : tagg Go.Proofs.Tryz.prog 217 = false := by kernel_rfl
@[simp] theorem ty_ze_217 : tzero Go.Proofs.Tryz.prog 217 = some Value.nilFunc := by kernel_rfl
@[simp] theorem ty_tok_218 : tok Go.Proofs.Tryz.prog 218 = true := by kernel_rfl
@[simp] theorem ty_sz_218 : tsize Go.Proofs.Tryz.prog 218 = 1 := by kernel_rfl
@[simp] theorem ty_by_218 : tbytes Go.Proofs.Tryz.prog 218 = 8 := by kernel_rfl
@[simp] theorem ty_ag_218 : tagg Go.Proofs.Tryz.prog 218 = false := by kernel_rfl
@[simp] theorem ty_ze_218 : tzero Go.Proofs.Tryz.prog 218 = some Value.nilFunc := by kernel_rfl
@[simp] theorem ty_tok_219 : tok Go.Proofs.Tryz.prog 219 = true := by kernel_rfl
@[simp] theorem ty_sz_219 : tsize Go.Proofs.Tryz.prog 219 = 1 := by kernel_rfl
@[simp] theorem ty_by_219 : tbytes Go.Proofs.Tryz.prog 219 = 8 := by kernel_rfl
@[simp] theorem ty_ag_219 : tagg Go.Proofs.Tryz.prog 219 = false := by kernel_rfl
@[simp] theorem ty_ze_219 : tzero Go.Proofs.Tryz.prog 219 = some Value.nilFunc := by kernel_rfl
@[simp] theorem ty_tok_220 : tok Go.Proofs.Tryz.prog 220 = true := by kernel_rfl
@[simp] theorem ty_sz_220 : tsize Go.Proofs.Tryz.prog 220 = 1 := by kernel_rfl
@[simp] theorem ty_by_220 : tbytes Go.Proofs.Tryz.prog 220 = 8 := by kernel_rfl
@[simp] theorem ty_ag_220 : tagg Go.Proofs.Tryz.prog 220 = false := by kernel_rfl
@[simp] theorem ty_ze_220 : tzero Go.Proofs.Tryz.prog 220 = some (Value.pointer none) := by kernel_rfl
@[simp] theorem ty_tok_221 : tok Go.Proofs.Tryz.prog 221 = true := by kernel_rfl
@[simp] theorem ty_sz_221 : tsize Go.Proofs.Tryz.prog 221 = 1 := by kernel_rfl
@[simp] theorem ty_by_221 : tbytes Go.Proofs.Tryz.prog 221 = 8 := by kernel_rfl
@[simp] theorem ty_ag_221 : tagg Go.Proofs.Tryz.prog 221 = false := by kernel_rfl
@[simp] theorem ty_ze_221 : tzero Go.Proofs.Tryz.prog 221 = some Value.nilFunc := by kernel_rfl
@[simp] theorem ty_tok_222 : tok Go.Proofs.Tryz.prog 222 = true := by kernel_rfl
@[simp] theorem ty_sz_222 : tsize Go.Proofs.Tryz.prog 222 = 1 := by kernel_rfl
@[simp] theorem ty_by_222 : tbytes Go.Proofs.Tryz.prog 222 = 8 := by kernel_rfl
@[simp] theorem ty_ag_222 : tagg Go.Proofs.Tryz.prog 222 = false := by kernel_rfl
@[simp] theorem ty_ze_222 : tzero Go.Proofs.Tryz.prog 222 = some Value.nilFunc := by kernel_rfl
@[simp] theorem ty_tok_223 : tok Go.Proofs.Tryz.prog 223 = true := by kernel_rfl
@[simp] theorem ty_sz_223 : tsize Go.Proofs.Tryz.prog 223 = 1 := by kernel_rfl
@[simp] theorem ty_by_223 : tbytes Go.Proofs.Tryz.prog 223 = 8 := by kernel_rfl
@[simp] theorem ty_ag_223 : tagg Go.Proofs.Tryz.prog 223 = false := by kernel_rfl
@[simp] theorem ty_ze_223 : tzero Go.Proofs.Tryz.prog 223 = some Value.nilFunc := by kernel_rfl
@[simp] theorem ty_tok_224 : tok Go.Proofs.Tryz.prog 224 = true := by kernel_rfl
@[simp] theorem ty_sz_224 : tsize Go.Proofs.Tryz.prog 224 = 1 := by kernel_rfl
@[simp] theorem ty_by_224 : tbytes Go.Proofs.Tryz.prog 224 = 8 := by kernel_rfl
@[simp] theorem ty_ag_224 : tagg Go.Proofs.Tryz.prog 224 = false := by kernel_rfl
@[simp] theorem ty_ze_224 : tzero Go.Proofs.Tryz.prog 224 = some Value.nilFunc := by kernel_rfl
@[simp] theorem ty_tok_225 : tok Go.Proofs.Tryz.prog 225 = true := by kernel_rfl
@[simp] theorem ty_sz_225 : tsize Go.Proofs.Tryz.prog 225 = 1 := by kernel_rfl
@[simp] theorem ty_by_225 : tbytes Go.Proofs.Tryz.prog 225 = 8 := by kernel_rfl
@[simp] theorem ty_ag_225 : tagg Go.Proofs.Tryz.prog 225 = false := by kernel_rfl
@[simp] theorem ty_ze_225 : tzero Go.Proofs.Tryz.prog 225 = some (Value.pointer none) := by kernel_rfl
@[simp] theorem ty_tok_227 : tok Go.Proofs.Tryz.prog 227 = true := by kernel_rfl
@[simp] theorem ty_sz_227 : tsize Go.Proofs.Tryz.prog 227 = 1 := by kernel_rfl
@[simp] theorem ty_by_227 : tbytes Go.Proofs.Tryz.prog 227 = 8 := by kernel_rfl
@[simp] theorem ty_ag_227 : tagg Go.Proofs.Tryz.prog 227 = false := by kernel_rfl
@[simp] theorem ty_ze_227 : tzero Go.Proofs.Tryz.prog 227 = some Value.nilFunc := by kernel_rfl
@[simp] theorem ty_tok_228 : tok Go.Proofs.Tryz.prog 228 = true := by kernel_rfl
@[simp] theorem ty_sz_228 : tsize Go.Proofs.Tryz.prog 228 = 1 := by kernel_rfl
@[simp] theorem ty_by_228 : tbytes Go.Proofs.Tryz.prog 228 = 8 := by kernel_rfl
@[simp] theorem ty_ag_228 : tagg Go.Proofs.Tryz.prog 228 = false := by kernel_rfl
@[simp] theorem ty_ze_228 : tzero Go.Proofs.Tryz.prog 228 = some Value.nilFunc := by kernel_rfl
@[simp] theorem ty_tok_229 : tok Go.Proofs.Tryz.prog 229 = true := by kernel_rfl
@[simp] theorem ty_sz_229 : tsize Go.Proofs.Tryz.prog 229 = 1 := by kernel_rfl
@[simp] theorem ty_by_229 : tbytes Go.Proofs.Tryz.prog 229 = 8 := by kernel_rfl
@[simp] theorem ty_ag_229 : tagg Go.Proofs.Tryz.prog 229 = false := by kernel_rfl
@[simp] theorem ty_ze_229 : tzero Go.Proofs.Tryz.prog 229 = some Value.nilFunc := by kernel_rfl
@[simp] theorem ty_tok_230 : tok Go.Proofs.Tryz.prog 230 = true := by kernel_rfl
@[simp] theorem ty_sz_230 : tsize Go.Proofs.Tryz.prog 230 = 4 := by kernel_rfl
@[simp] theorem ty_by_230 : tbytes Go.Proofs.Tryz.prog 230 = 40 := by kernel_rfl
@[simp] theorem ty_ag_230 : tagg Go.Proofs.Tryz.prog 230 = true := by kernel_rfl
@[simp] theorem ty_ze_230 : tzero Go.Proofs.Tryz.prog 230 = some (Value.agg #[(Value.pointer none), (Value.pointer none), (Value.pointer none), (Value.string ⟨#[]⟩)]) := by kernel_rfl
@[simp] theorem ty_fi_230 : tfields Go.Proofs.Tryz.prog 230 = some [(0, 1), (1, 1), (2, 1), (3, 1)] := by kernel_rfl
@[simp] theorem ty_tok_231 : tok Go.Proofs.Tryz.prog 231 = true := by kernel_rfl
@[simp] theorem ty_sz_231 : tsize Go.Proofs.Tryz.prog 231 = 4 := by kernel_rfl
@[simp] theorem ty_by_231 : tbytes Go.Proofs.Tryz.prog 231 = 40 := by kernel_rfl
@[simp] theorem ty_ag_231 : tagg Go.Proofs.Tryz.prog 231 = true := by kernel_rfl
@[simp] theorem ty_ze_231 : tzero Go.Proofs.Tryz.prog 231 = some (Value.agg #[(Value.pointer none), (Value.pointer none), (Value.pointer none), (Value.string ⟨#[]⟩)]) := by kernel_rfl
@[simp] theorem ty_fi_231 : tfields Go.Proofs.Tryz.prog 231 = some [(0, 1), (1, 1), (2, 1), (3, 1)] := by kernel_rfl
@[simp] theorem ty_ar_232 : tarr Go.Proofs.Tryz.prog 232 = some (0, 16) := by kernel_rfl
@[simp] theorem ty_el_232 : telem Go.Proofs.Tryz.prog 232 = none := by kernel_rfl
@[simp] theorem ty_tok_233 : tok Go.Proofs.Tryz.prog 233 = true := by kernel_rfl
@[simp] theorem ty_sz_233 : tsize Go.Proofs.Tryz.prog 233 = 0 := by kernel_rfl
@[simp] theorem ty_by_233 : tbytes Go.Proofs.Tryz.prog 233 = 0 := by kernel_rfl
@[simp] theorem ty_ag_233 : tagg Go.Proofs.Tryz.prog 233 = true := by kernel_rfl
@[simp] theorem ty_ze_233 : tzero Go.Proofs.Tryz.prog 233 = some (Value.agg #[]) := by kernel_rfl
@[simp] theorem ty_fi_233 : tfields Go.Proofs.Tryz.prog 233 = some [(0, 0)] := by kernel_rfl
@[simp] theorem ty_tok_234 : tok Go.Proofs.Tryz.prog 234 = true := by kernel_rfl
@[simp] theorem ty_sz_234 : tsize Go.Proofs.Tryz.prog 234 = 0 := by kernel_rfl
@[simp] theorem ty_by_234 : tbytes Go.Proofs.Tryz.prog 234 = 0 := by kernel_rfl
@[simp] theorem ty_ag_234 : tagg Go.Proofs.Tryz.prog 234 = true := by kernel_rfl
@[simp] theorem ty_ze_234 : tzero Go.Proofs.Tryz.prog 234 = some (Value.agg #[]) := by kernel_rfl
@[simp] theorem ty_fi_234 : tfields Go.Proofs.Tryz.prog 234 = some [(0, 0)] := by kernel_rfl
@[simp] theorem ty_tok_235 : tok Go.Proofs.Tryz.prog 235 = true := by kernel_rfl
@[simp] theorem ty_sz_235 : tsize Go.Proofs.Tryz.prog 235 = 1 := by kernel_rfl
@[simp] theorem ty_by_235 : tbytes Go.Proofs.Tryz.prog 235 = 8 := by kernel_rfl
@[simp] theorem ty_ag_235 : tagg Go.Proofs.Tryz.prog 235 = false := by kernel_rfl
@[simp] theorem ty_ze_235 : tzero Go.Proofs.Tryz.prog 235 = some Value.nilFunc := by kernel_rfl
@[simp] theorem ty_tok_236 : tok Go.Proofs.Tryz.prog 236 = true := by kernel_rfl
@[simp] theorem ty_sz_236 : tsize Go.Proofs.Tryz.prog 236 = 1 := by kernel_rfl
@[simp] theorem ty_by_236 : tbytes Go.Proofs.Tryz.prog 236 = 1 := by kernel_rfl
@[simp] theorem ty_ag_236 : tagg Go.Proofs.Tryz.prog 236 = false := by kernel_rfl
@[simp] theorem ty_ze_236 : tzero Go.Proofs.Tryz.prog 236 = some (Value.int .u8 0) := by kernel_rfl
@[simp] theorem ty_in_236 : tint Go.Proofs.Tryz.prog 236 = some .u8 := by kernel_rfl
@[simp] theorem ty_tok_237 : tok Go.Proofs.Tryz.prog 237 = true := by kernel_rfl
@[simp] theorem ty_sz_237 : tsize Go.Proofs.Tryz.prog 237 = 1 := by kernel_rfl
@[simp] theorem ty_by_237 : tbytes Go.Proofs.Tryz.prog 237 = 1 := by kernel_rfl
@[simp] theorem ty_ag_237 : tagg Go.Proofs.Tryz.prog 237 = false := by kernel_rfl
@[simp] theorem ty_ze_237 : tzero Go.Proofs.Tryz.prog 237 = some (Value.int .u8 0) := by kernel_rfl
@[simp] theorem ty_in_237 : tint Go.Proofs.Tryz.prog 237 = some .u8 := by kernel_rfl
@[simp] theorem ty_tok_238 : tok Go.Proofs.Tryz.prog 238 = true := by kernel_rfl
@[simp] theorem ty_sz_238 : tsize Go.Proofs.Tryz.prog 238 = 1 := by kernel_rfl
@[simp] theorem ty_by_238 : tbytes Go.Proofs.Tryz.prog 238 = 8 := by kernel_rfl
@[simp] theorem ty_ag_238 : tagg Go.Proofs.Tryz.prog 238 = false := by kernel_rfl
@[simp] theorem ty_ze_238 : tzero Go.Proofs.Tryz.prog 238 = some Value.nilFunc := by kernel_rfl
@[simp] theorem ty_tok_239 : tok Go.Proofs.Tryz.prog 239 = true := by kernel_rfl
@[simp] theorem ty_sz_239 : tsize Go.Proofs.Tryz.prog 239 = 1 := by kernel_rfl
@[simp] theorem ty_by_239 : tbytes Go.Proofs.Tryz.prog 239 = 8 := by kernel_rfl
@[simp] theorem ty_ag_239 : tagg Go.Proofs.Tryz.prog 239 = false := by kernel_rfl
@[simp] theorem ty_ze_239 : tzero Go.Proofs.Tryz.prog 239 = some (Value.pointer none) := by kernel_rfl
@[simp] theorem ty_tok_240 : tok Go.Proofs.Tryz.prog 240 = true := by kernel_rfl
@[simp] theorem ty_sz_240 : tsize Go.Proofs.Tryz.prog 240 = 1 := by kernel_rfl
@[simp] theorem ty_by_240 : tbytes Go.Proofs.Tryz.prog 240 = 4 := by kernel_rfl
@[simp] theorem ty_ag_240 : tagg Go.Proofs.Tryz.prog 240 = false := by kernel_rfl
@[simp] theorem ty_ze_240 : tzero Go.Proofs.Tryz.prog 240 = some (Value.int .i32 0) := by kernel_rfl
@[simp] theorem ty_in_240 : tint Go.Proofs.Tryz.prog 240 = some .i32 := by kernel_rfl
@[simp] theorem ty_tok_241 : tok Go.Proofs.Tryz.prog 241 = true := by kernel_rfl
@[simp] theorem ty_sz_241 : tsize Go.Proofs.Tryz.prog 241 = 1 := by kernel_rfl
@[simp] theorem ty_by_241 : tbytes Go.Proofs.Tryz.prog 241 = 4 := by kernel_rfl
@[simp] theorem ty_ag_241 : tagg Go.Proofs.Tryz.prog 241 = false := by kernel_rfl
@[simp] theorem ty_ze_241 : tzero Go.Proofs.Tryz.prog 241 = some (Value.int .i32 0) := by kernel_rfl
@[simp] theorem ty_in_241 : tint Go.Proofs.Tryz.prog 241 = some .i32 := by kernel_rfl
@[simp] theorem ty_tok_242 : tok Go.Proofs.Tryz.prog 242 = true := by kernel_rfl
@[simp] theorem ty_sz_242 : tsize Go.Proofs.Tryz.prog 242 = 11 := by kernel_rfl
@[simp] theorem ty_by_242 : tbytes Go.Proofs.Tryz.prog 242 = 48 := by kernel_rfl
@[simp] theorem ty_ag_242 : tagg Go.Proofs.Tryz.prog 242 = true := by kernel_rfl
@[simp] theorem ty_ze_242 : tzero Go.Proofs.Tryz.prog 242 = some (Value.agg #[(Value.int .u64 0), (Value.int .u64 0), (Value.int .u32 0), (Value.int .u8 0), (Value.int .u8 0), (Value.int .u8 0), (Value.int .u8 0), Value.nilFunc, (Value.pointer none), (Value.int .i32 0), (Value.int .i32 0)]) := by kernel_rfl
@[simp] theorem ty_fi_242 : tfields Go.Proofs.Tryz.prog 242 = some [(0, 1), (1, 1), (2, 1), (3, 1), (4, 1), (5, 1), (6, 1), (7, 1), (8, 1), (9, 1), (10, 1)] := by kernel_rfl
@[simp] theorem ty_tok_243 : tok Go.Proofs.Tryz.prog 243 = true := by kernel_rfl
@[simp] theorem ty_sz_243 : tsize Go.Proofs.Tryz.prog 243 = 11 := by kernel_rfl
@[simp] theorem ty_by_243 : tbytes Go.Proofs.Tryz.prog 243 = 48 := by kernel_rfl
@[simp] theorem ty_ag_243 : tagg Go.Proofs.Tryz.prog 243 = true := by kernel_rfl
@[simp] theorem ty_ze_243 : tzero Go.Proofs.Tryz.prog 243 = some (Value.agg #[(Value.int .u64 0), (Value.int .u64 0), (Value.int .u32 0), (Value.int .u8 0), (Value.int .u8 0), (Value.int .u8 0), (Value.int .u8 0), Value.nilFunc, (Value.pointer none), (Value.int .i32 0), (Value.int .i32 0)]) := by kernel_rfl
@[simp] theorem ty_fi_243 : tfields Go.Proofs.Tryz.prog 243 = some [(0, 1), (1, 1), (2, 1), (3, 1), (4, 1), (5, 1), (6, 1), (7, 1), (8, 1), (9, 1), (10, 1)] := by kernel_rfl
@[simp] theorem ty_tok_244 : tok Go.Proofs.Tryz.prog 244 = true := by kernel_rfl
@[simp] theorem ty_sz_244 : tsize Go.Proofs.Tryz.prog 244 = 1 := by kernel_rfl
@[simp] theorem ty_by_244 : tbytes Go.Proofs.Tryz.prog 244 = 8 := by kernel_rfl
@[simp] theorem ty_ag_244 : tagg Go.Proofs.Tryz.prog 244 = false := by kernel_rfl
@[simp] theorem ty_ze_244 : tzero Go.Proofs.Tryz.prog 244 = some Value.nilFunc := by kernel_rfl
@[simp] theorem ty_tok_245 : tok Go.Proofs.Tryz.prog 245 = true := by kernel_rfl
@[simp] theorem ty_sz_245 : tsize Go.Proofs.Tryz.prog 245 = 1 := by kernel_rfl
@[simp] theorem ty_by_245 : tbytes Go.Proofs.Tryz.prog 245 = 8 := by kernel_rfl
@[simp] theorem ty_ag_245 : tagg Go.Proofs.Tryz.prog 245 = false := by kernel_rfl
@[simp] theorem ty_ze_245 : tzero Go.Proofs.Tryz.prog 245 = some Value.nilFunc := by kernel_rfl
@[simp] theorem ty_tok_246 : tok Go.Proofs.Tryz.prog 246 = true := by kernel_rfl
@[simp] theorem ty_sz_246 : tsize Go.Proofs.Tryz.prog 246 = 1 := by kernel_rfl
@[simp] theorem ty_by_246 : tbytes Go.Proofs.Tryz.prog 246 = 8 := by kernel_rfl
@[simp] theorem ty_ag_246 : tagg Go.Proofs.Tryz.prog 246 = false := by kernel_rfl
@[simp] theorem ty_ze_246 : tzero Go.Proofs.Tryz.prog 246 = some (Value.pointer none) := by kernel_rfl

end Go.AM
