/-
  Facts on the types of the translation, written by a program of this session (wip/gen/seat.py).
-/
import Derived.Test.YthabclhldlikfaaDoorAmOps
import Derived.Test.YthabclhldlikfaaDoorProg
import Derived.KernelRfl
namespace Go.AM

@[simp] theorem ty_tok_1 : tok Go.Proofs.Tryd.prog 1 = true := by kernel_rfl
@[simp] theorem ty_sz_1 : tsize Go.Proofs.Tryd.prog 1 = 1 := by kernel_rfl
@[simp] theorem ty_by_1 : tbytes Go.Proofs.Tryd.prog 1 = 8 := by kernel_rfl
@[simp] theorem ty_ag_1 : tagg Go.Proofs.Tryd.prog 1 = false := by kernel_rfl
@[simp] theorem ty_ze_1 : tzero Go.Proofs.Tryd.prog 1 = some Value.nilFunc := by kernel_rfl
@[simp] theorem ty_tok_2 : tok Go.Proofs.Tryd.prog 2 = true := by kernel_rfl
@[simp] theorem ty_sz_2 : tsize Go.Proofs.Tryd.prog 2 = 1 := by kernel_rfl
@[simp] theorem ty_by_2 : tbytes Go.Proofs.Tryd.prog 2 = 8 := by kernel_rfl
@[simp] theorem ty_ag_2 : tagg Go.Proofs.Tryd.prog 2 = false := by kernel_rfl
@[simp] theorem ty_ze_2 : tzero Go.Proofs.Tryd.prog 2 = some (Value.int .i64 0) := by kernel_rfl
@[simp] theorem ty_in_2 : tint Go.Proofs.Tryd.prog 2 = some .i64 := by kernel_rfl
@[simp] theorem ty_tok_3 : tok Go.Proofs.Tryd.prog 3 = true := by kernel_rfl
@[simp] theorem ty_sz_3 : tsize Go.Proofs.Tryd.prog 3 = 1 := by kernel_rfl
@[simp] theorem ty_by_3 : tbytes Go.Proofs.Tryd.prog 3 = 8 := by kernel_rfl
@[simp] theorem ty_ag_3 : tagg Go.Proofs.Tryd.prog 3 = false := by kernel_rfl
@[simp] theorem ty_ze_3 : tzero Go.Proofs.Tryd.prog 3 = some (Value.int .i64 0) := by kernel_rfl
@[simp] theorem ty_in_3 : tint Go.Proofs.Tryd.prog 3 = some .i64 := by kernel_rfl
@[simp] theorem ty_tok_4 : tok Go.Proofs.Tryd.prog 4 = true := by kernel_rfl
@[simp] theorem ty_sz_4 : tsize Go.Proofs.Tryd.prog 4 = 1 := by kernel_rfl
@[simp] theorem ty_by_4 : tbytes Go.Proofs.Tryd.prog 4 = 1 := by kernel_rfl
@[simp] theorem ty_ag_4 : tagg Go.Proofs.Tryd.prog 4 = false := by kernel_rfl
@[simp] theorem ty_ze_4 : tzero Go.Proofs.Tryd.prog 4 = some (Value.bool false) := by kernel_rfl
@[simp] theorem ty_bo_4 : tbool Go.Proofs.Tryd.prog 4 = true := by kernel_rfl
@[simp] theorem ty_tok_5 : tok Go.Proofs.Tryd.prog 5 = true := by kernel_rfl
@[simp] theorem ty_sz_5 : tsize Go.Proofs.Tryd.prog 5 = 1 := by kernel_rfl
@[simp] theorem ty_by_5 : tbytes Go.Proofs.Tryd.prog 5 = 1 := by kernel_rfl
@[simp] theorem ty_ag_5 : tagg Go.Proofs.Tryd.prog 5 = false := by kernel_rfl
@[simp] theorem ty_ze_5 : tzero Go.Proofs.Tryd.prog 5 = some (Value.int .u8 0) := by kernel_rfl
@[simp] theorem ty_in_5 : tint Go.Proofs.Tryd.prog 5 = some .u8 := by kernel_rfl
@[simp] theorem ty_tok_6 : tok Go.Proofs.Tryd.prog 6 = true := by kernel_rfl
@[simp] theorem ty_sz_6 : tsize Go.Proofs.Tryd.prog 6 = 1 := by kernel_rfl
@[simp] theorem ty_by_6 : tbytes Go.Proofs.Tryd.prog 6 = 1 := by kernel_rfl
@[simp] theorem ty_ag_6 : tagg Go.Proofs.Tryd.prog 6 = false := by kernel_rfl
@[simp] theorem ty_ze_6 : tzero Go.Proofs.Tryd.prog 6 = some (Value.int .u8 0) := by kernel_rfl
@[simp] theorem ty_in_6 : tint Go.Proofs.Tryd.prog 6 = some .u8 := by kernel_rfl
@[simp] theorem ty_tok_7 : tok Go.Proofs.Tryd.prog 7 = true := by kernel_rfl
@[simp] theorem ty_sz_7 : tsize Go.Proofs.Tryd.prog 7 = 4 := by kernel_rfl
@[simp] theorem ty_by_7 : tbytes Go.Proofs.Tryd.prog 7 = 24 := by kernel_rfl
@[simp] theorem ty_ag_7 : tagg Go.Proofs.Tryd.prog 7 = true := by kernel_rfl
@[simp] theorem ty_ze_7 : tzero Go.Proofs.Tryd.prog 7 = some (Value.agg #[(Value.int .i64 0), (Value.int .i64 0), (Value.bool false), (Value.int .u8 0)]) := by kernel_rfl
@[simp] theorem ty_fi_7 : tfields Go.Proofs.Tryd.prog 7 = some [(0, 1), (1, 1), (2, 1), (3, 1)] := by kernel_rfl
@[simp] theorem ty_tok_8 : tok Go.Proofs.Tryd.prog 8 = true := by kernel_rfl
@[simp] theorem ty_sz_8 : tsize Go.Proofs.Tryd.prog 8 = 4 := by kernel_rfl
@[simp] theorem ty_by_8 : tbytes Go.Proofs.Tryd.prog 8 = 24 := by kernel_rfl
@[simp] theorem ty_ag_8 : tagg Go.Proofs.Tryd.prog 8 = true := by kernel_rfl
@[simp] theorem ty_ze_8 : tzero Go.Proofs.Tryd.prog 8 = some (Value.agg #[(Value.int .i64 0), (Value.int .i64 0), (Value.bool false), (Value.int .u8 0)]) := by kernel_rfl
@[simp] theorem ty_fi_8 : tfields Go.Proofs.Tryd.prog 8 = some [(0, 1), (1, 1), (2, 1), (3, 1)] := by kernel_rfl
@[simp] theorem ty_tok_9 : tok Go.Proofs.Tryd.prog 9 = true := by kernel_rfl
@[simp] theorem ty_sz_9 : tsize Go.Proofs.Tryd.prog 9 = 1 := by kernel_rfl
@[simp] theorem ty_by_9 : tbytes Go.Proofs.Tryd.prog 9 = 16 := by kernel_rfl
@[simp] theorem ty_ag_9 : tagg Go.Proofs.Tryd.prog 9 = false := by kernel_rfl
@[simp] theorem ty_ze_9 : tzero Go.Proofs.Tryd.prog 9 = some (Value.string ⟨#[]⟩) := by kernel_rfl
@[simp] theorem ty_st_9 : tstr Go.Proofs.Tryd.prog 9 = true := by kernel_rfl
@[simp] theorem ty_tok_10 : tok Go.Proofs.Tryd.prog 10 = true := by kernel_rfl
@[simp] theorem ty_sz_10 : tsize Go.Proofs.Tryd.prog 10 = 1 := by kernel_rfl
@[simp] theorem ty_by_10 : tbytes Go.Proofs.Tryd.prog 10 = 16 := by kernel_rfl
@[simp] theorem ty_ag_10 : tagg Go.Proofs.Tryd.prog 10 = false := by kernel_rfl
@[simp] theorem ty_ze_10 : tzero Go.Proofs.Tryd.prog 10 = some (Value.string ⟨#[]⟩) := by kernel_rfl
@[simp] theorem ty_st_10 : tstr Go.Proofs.Tryd.prog 10 = true := by kernel_rfl
@[simp] theorem ty_tok_11 : tok Go.Proofs.Tryd.prog 11 = true := by kernel_rfl
@[simp] theorem ty_sz_11 : tsize Go.Proofs.Tryd.prog 11 = 1 := by kernel_rfl
@[simp] theorem ty_by_11 : tbytes Go.Proofs.Tryd.prog 11 = 16 := by kernel_rfl
@[simp] theorem ty_ag_11 : tagg Go.Proofs.Tryd.prog 11 = false := by kernel_rfl
@[simp] theorem ty_ze_11 : tzero Go.Proofs.Tryd.prog 11 = some (Value.string ⟨#[]⟩) := by kernel_rfl
@[simp] theorem ty_st_11 : tstr Go.Proofs.Tryd.prog 11 = true := by kernel_rfl
@[simp] theorem ty_tok_12 : tok Go.Proofs.Tryd.prog 12 = true := by kernel_rfl
@[simp] theorem ty_sz_12 : tsize Go.Proofs.Tryd.prog 12 = 1 := by kernel_rfl
@[simp] theorem ty_by_12 : tbytes Go.Proofs.Tryd.prog 12 = 8 := by kernel_rfl
@[simp] theorem ty_ag_12 : tagg Go.Proofs.Tryd.prog 12 = false := by kernel_rfl
@[simp] theorem ty_ze_12 : tzero Go.Proofs.Tryd.prog 12 = some (Value.int .u64 0) := by kernel_rfl
@[simp] theorem ty_in_12 : tint Go.Proofs.Tryd.prog 12 = some .u64 := by kernel_rfl
@[simp] theorem ty_tok_13 : tok Go.Proofs.Tryd.prog 13 = true := by kernel_rfl
@[simp] theorem ty_sz_13 : tsize Go.Proofs.Tryd.prog 13 = 2 := by kernel_rfl
@[simp] theorem ty_by_13 : tbytes Go.Proofs.Tryd.prog 13 = 24 := by kernel_rfl
@[simp] theorem ty_ag_13 : tagg Go.Proofs.Tryd.prog 13 = true := by kernel_rfl
@[simp] theorem ty_ze_13 : tzero Go.Proofs.Tryd.prog 13 = some (Value.agg #[(Value.string ⟨#[]⟩), (Value.int .u64 0)]) := by kernel_rfl
@[simp] theorem ty_fi_13 : tfields Go.Proofs.Tryd.prog 13 = some [(0, 1), (1, 1)] := by kernel_rfl
@[simp] theorem ty_tok_14 : tok Go.Proofs.Tryd.prog 14 = true := by kernel_rfl
@[simp] theorem ty_sz_14 : tsize Go.Proofs.Tryd.prog 14 = 2 := by kernel_rfl
@[simp] theorem ty_by_14 : tbytes Go.Proofs.Tryd.prog 14 = 24 := by kernel_rfl
@[simp] theorem ty_ag_14 : tagg Go.Proofs.Tryd.prog 14 = true := by kernel_rfl
@[simp] theorem ty_ze_14 : tzero Go.Proofs.Tryd.prog 14 = some (Value.agg #[(Value.string ⟨#[]⟩), (Value.int .u64 0)]) := by kernel_rfl
@[simp] theorem ty_fi_14 : tfields Go.Proofs.Tryd.prog 14 = some [(0, 1), (1, 1)] := by kernel_rfl
@[simp] theorem ty_tok_15 : tok Go.Proofs.Tryd.prog 15 = true := by kernel_rfl
@[simp] theorem ty_sz_15 : tsize Go.Proofs.Tryd.prog 15 = 1 := by kernel_rfl
@[simp] theorem ty_by_15 : tbytes Go.Proofs.Tryd.prog 15 = 8 := by kernel_rfl
@[simp] theorem ty_ag_15 : tagg Go.Proofs.Tryd.prog 15 = false := by kernel_rfl
@[simp] theorem ty_ze_15 : tzero Go.Proofs.Tryd.prog 15 = some (Value.pointer none) := by kernel_rfl
@[simp] theorem ty_tok_16 : tok Go.Proofs.Tryd.prog 16 = true := by kernel_rfl
@[simp] theorem ty_sz_16 : tsize Go.Proofs.Tryd.prog 16 = 1 := by kernel_rfl
@[simp] theorem ty_by_16 : tbytes Go.Proofs.Tryd.prog 16 = 8 := by kernel_rfl
@[simp] theorem ty_ag_16 : tagg Go.Proofs.Tryd.prog 16 = false := by kernel_rfl
@[simp] theorem ty_ze_16 : tzero Go.Proofs.Tryd.prog 16 = some (Value.pointer none) := by kernel_rfl
@[simp] theorem ty_tok_17 : tok Go.Proofs.Tryd.prog 17 = true := by kernel_rfl
@[simp] theorem ty_sz_17 : tsize Go.Proofs.Tryd.prog 17 = 1 := by kernel_rfl
@[simp] theorem ty_by_17 : tbytes Go.Proofs.Tryd.prog 17 = 8 := by kernel_rfl
@[simp] theorem ty_ag_17 : tagg Go.Proofs.Tryd.prog 17 = false := by kernel_rfl
@[simp] theorem ty_ze_17 : tzero Go.Proofs.Tryd.prog 17 = some (Value.pointer none) := by kernel_rfl
@[simp] theorem ty_tok_18 : tok Go.Proofs.Tryd.prog 18 = true := by kernel_rfl
@[simp] theorem ty_sz_18 : tsize Go.Proofs.Tryd.prog 18 = 1 := by kernel_rfl
@[simp] theorem ty_by_18 : tbytes Go.Proofs.Tryd.prog 18 = 8 := by kernel_rfl
@[simp] theorem ty_ag_18 : tagg Go.Proofs.Tryd.prog 18 = true := by kernel_rfl
@[simp] theorem ty_ze_18 : tzero Go.Proofs.Tryd.prog 18 = some (Value.agg #[(Value.pointer none)]) := by kernel_rfl
@[simp] theorem ty_fi_18 : tfields Go.Proofs.Tryd.prog 18 = some [(0, 1)] := by kernel_rfl
@[simp] theorem ty_tok_19 : tok Go.Proofs.Tryd.prog 19 = true := by kernel_rfl
@[simp] theorem ty_sz_19 : tsize Go.Proofs.Tryd.prog 19 = 1 := by kernel_rfl
@[simp] theorem ty_by_19 : tbytes Go.Proofs.Tryd.prog 19 = 8 := by kernel_rfl
@[simp] theorem ty_ag_19 : tagg Go.Proofs.Tryd.prog 19 = true := by kernel_rfl
@[simp] theorem ty_ze_19 : tzero Go.Proofs.Tryd.prog 19 = some (Value.agg #[(Value.pointer none)]) := by kernel_rfl
@[simp] theorem ty_fi_19 : tfields Go.Proofs.Tryd.prog 19 = some [(0, 1)] := by kernel_rfl
@[simp] theorem ty_tok_21 : tok Go.Proofs.Tryd.prog 21 = true := by kernel_rfl
@[simp] theorem ty_sz_21 : tsize Go.Proofs.Tryd.prog 21 = 1 := by kernel_rfl
@[simp] theorem ty_by_21 : tbytes Go.Proofs.Tryd.prog 21 = 4 := by kernel_rfl
@[simp] theorem ty_ag_21 : tagg Go.Proofs.Tryd.prog 21 = false := by kernel_rfl
@[simp] theorem ty_ze_21 : tzero Go.Proofs.Tryd.prog 21 = some (Value.int .i32 0) := by kernel_rfl
@[simp] theorem ty_in_21 : tint Go.Proofs.Tryd.prog 21 = some .i32 := by kernel_rfl
@[simp] theorem ty_tok_22 : tok Go.Proofs.Tryd.prog 22 = true := by kernel_rfl
@[simp] theorem ty_sz_22 : tsize Go.Proofs.Tryd.prog 22 = 1 := by kernel_rfl
@[simp] theorem ty_by_22 : tbytes Go.Proofs.Tryd.prog 22 = 24 := by kernel_rfl
@[simp] theorem ty_ag_22 : tagg Go.Proofs.Tryd.prog 22 = false := by kernel_rfl
@[simp] theorem ty_ze_22 : tzero Go.Proofs.Tryd.prog 22 = some (Value.slice none 0 0) := by kernel_rfl
@[simp] theorem ty_el_22 : telem Go.Proofs.Tryd.prog 22 = some 5 := by kernel_rfl
@[simp] theorem ty_tok_23 : tok Go.Proofs.Tryd.prog 23 = true := by kernel_rfl
@[simp] theorem ty_sz_23 : tsize Go.Proofs.Tryd.prog 23 = 1 := by kernel_rfl
@[simp] theorem ty_by_23 : tbytes Go.Proofs.Tryd.prog 23 = 8 := by kernel_rfl
@[simp] theorem ty_ag_23 : tagg Go.Proofs.Tryd.prog 23 = false := by kernel_rfl
@[simp] theorem ty_ze_23 : tzero Go.Proofs.Tryd.prog 23 = some Value.nilFunc := by kernel_rfl
@[simp] theorem ty_tok_24 : tok Go.Proofs.Tryd.prog 24 = true := by kernel_rfl
@[simp] theorem ty_sz_24 : tsize Go.Proofs.Tryd.prog 24 = 1 := by kernel_rfl
@[simp] theorem ty_by_24 : tbytes Go.Proofs.Tryd.prog 24 = 24 := by kernel_rfl
@[simp] theorem ty_ag_24 : tagg Go.Proofs.Tryd.prog 24 = false := by kernel_rfl
@[simp] theorem ty_ze_24 : tzero Go.Proofs.Tryd.prog 24 = some (Value.slice none 0 0) := by kernel_rfl
@[simp] theorem ty_el_24 : telem Go.Proofs.Tryd.prog 24 = some 2 := by kernel_rfl
@[simp] theorem ty_tok_25 : tok Go.Proofs.Tryd.prog 25 = true := by kernel_rfl
@[simp] theorem ty_sz_25 : tsize Go.Proofs.Tryd.prog 25 = 3 := by kernel_rfl
@[simp] theorem ty_by_25 : tbytes Go.Proofs.Tryd.prog 25 = 72 := by kernel_rfl
@[simp] theorem ty_ag_25 : tagg Go.Proofs.Tryd.prog 25 = true := by kernel_rfl
@[simp] theorem ty_ze_25 : tzero Go.Proofs.Tryd.prog 25 = some (Value.agg #[(Value.slice none 0 0), (Value.slice none 0 0), (Value.slice none 0 0)]) := by kernel_rfl
@[simp] theorem ty_fi_25 : tfields Go.Proofs.Tryd.prog 25 = some [(0, 1), (1, 1), (2, 1)] := by kernel_rfl
@[simp] theorem ty_tok_26 : tok Go.Proofs.Tryd.prog 26 = true := by kernel_rfl
@[simp] theorem ty_sz_26 : tsize Go.Proofs.Tryd.prog 26 = 3 := by kernel_rfl
@[simp] theorem ty_by_26 : tbytes Go.Proofs.Tryd.prog 26 = 72 := by kernel_rfl
@[simp] theorem ty_ag_26 : tagg Go.Proofs.Tryd.prog 26 = true := by kernel_rfl
@[simp] theorem ty_ze_26 : tzero Go.Proofs.Tryd.prog 26 = some (Value.agg #[(Value.slice none 0 0), (Value.slice none 0 0), (Value.slice none 0 0)]) := by kernel_rfl
@[simp] theorem ty_fi_26 : tfields Go.Proofs.Tryd.prog 26 = some [(0, 1), (1, 1), (2, 1)] := by kernel_rfl
@[simp] theorem ty_tok_28 : tok Go.Proofs.Tryd.prog 28 = true := by kernel_rfl
@[simp] theorem ty_sz_28 : tsize Go.Proofs.Tryd.prog 28 = 1 := by kernel_rfl
@[simp] theorem ty_by_28 : tbytes Go.Proofs.Tryd.prog 28 = 8 := by kernel_rfl
@[simp] theorem ty_ag_28 : tagg Go.Proofs.Tryd.prog 28 = false := by kernel_rfl
@[simp] theorem ty_ze_28 : tzero Go.Proofs.Tryd.prog 28 = some Value.nilFunc := by kernel_rfl
@[simp] theorem ty_tok_30 : tok Go.Proofs.Tryd.prog 30 = true := by kernel_rfl
@[simp] theorem ty_sz_30 : tsize Go.Proofs.Tryd.prog 30 = 1 := by kernel_rfl
@[simp] theorem ty_by_30 : tbytes Go.Proofs.Tryd.prog 30 = 8 := by kernel_rfl
@[simp] theorem ty_ag_30 : tagg Go.Proofs.Tryd.prog 30 = false := by kernel_rfl
@[simp] theorem ty_ze_30 : tzero Go.Proofs.Tryd.prog 30 = some Value.nilFunc := by kernel_rfl
@[simp] theorem ty_tok_32 : tok Go.Proofs.Tryd.prog 32 = true := by kernel_rfl
@[simp] theorem ty_sz_32 : tsize Go.Proofs.Tryd.prog 32 = 1 := by kernel_rfl
@[simp] theorem ty_by_32 : tbytes Go.Proofs.Tryd.prog 32 = 8 := by kernel_rfl
@[simp] theorem ty_ag_32 : tagg Go.Proofs.Tryd.prog 32 = false := by kernel_rfl
@[simp] theorem ty_ze_32 : tzero Go.Proofs.Tryd.prog 32 = some Value.nilFunc := by kernel_rfl
@[simp] theorem ty_tok_33 : tok Go.Proofs.Tryd.prog 33 = true := by kernel_rfl
@[simp] theorem ty_sz_33 : tsize Go.Proofs.Tryd.prog 33 = 2 := by kernel_rfl
@[simp] theorem ty_by_33 : tbytes Go.Proofs.Tryd.prog 33 = 32 := by kernel_rfl
@[simp] theorem ty_ag_33 : tagg Go.Proofs.Tryd.prog 33 = true := by kernel_rfl
@[simp] theorem ty_ze_33 : tzero Go.Proofs.Tryd.prog 33 = some (Value.agg #[(Value.int .i64 0), (Value.slice none 0 0)]) := by kernel_rfl
@[simp] theorem ty_fi_33 : tfields Go.Proofs.Tryd.prog 33 = some [(0, 1), (1, 1)] := by kernel_rfl
@[simp] theorem ty_tok_34 : tok Go.Proofs.Tryd.prog 34 = true := by kernel_rfl
@[simp] theorem ty_sz_34 : tsize Go.Proofs.Tryd.prog 34 = 2 := by kernel_rfl
@[simp] theorem ty_by_34 : tbytes Go.Proofs.Tryd.prog 34 = 32 := by kernel_rfl
@[simp] theorem ty_ag_34 : tagg Go.Proofs.Tryd.prog 34 = true := by kernel_rfl
@[simp] theorem ty_ze_34 : tzero Go.Proofs.Tryd.prog 34 = some (Value.agg #[(Value.int .i64 0), (Value.slice none 0 0)]) := by kernel_rfl
@[simp] theorem ty_fi_34 : tfields Go.Proofs.Tryd.prog 34 = some [(0, 1), (1, 1)] := by kernel_rfl
@[simp] theorem ty_tok_36 : tok Go.Proofs.Tryd.prog 36 = true := by kernel_rfl
@[simp] theorem ty_sz_36 : tsize Go.Proofs.Tryd.prog 36 = 1 := by kernel_rfl
@[simp] theorem ty_by_36 : tbytes Go.Proofs.Tryd.prog 36 = 8 := by kernel_rfl
@[simp] theorem ty_ag_36 : tagg Go.Proofs.Tryd.prog 36 = false := by kernel_rfl
@[simp] theorem ty_ze_36 : tzero Go.Proofs.Tryd.prog 36 = some Value.nilFunc := by kernel_rfl
@[simp] theorem ty_tok_37 : tok Go.Proofs.Tryd.prog 37 = true := by kernel_rfl
@[simp] theorem ty_sz_37 : tsize Go.Proofs.Tryd.prog 37 = 1 := by kernel_rfl
@[simp] theorem ty_by_37 : tbytes Go.Proofs.Tryd.prog 37 = 8 := by kernel_rfl
@[simp] theorem ty_ag_37 : tagg Go.Proofs.Tryd.prog 37 = false := by kernel_rfl
@[simp] theorem ty_ze_37 : tzero Go.Proofs.Tryd.prog 37 = some (Value.pointer none) := by kernel_rfl
@[simp] theorem ty_tok_38 : tok Go.Proofs.Tryd.prog 38 = true := by kernel_rfl
@[simp] theorem ty_sz_38 : tsize Go.Proofs.Tryd.prog 38 = 1 := by kernel_rfl
@[simp] theorem ty_by_38 : tbytes Go.Proofs.Tryd.prog 38 = 8 := by kernel_rfl
@[simp] theorem ty_ag_38 : tagg Go.Proofs.Tryd.prog 38 = false := by kernel_rfl
@[simp] theorem ty_ze_38 : tzero Go.Proofs.Tryd.prog 38 = some Value.nilFunc := by kernel_rfl
@[simp] theorem ty_tok_39 : tok Go.Proofs.Tryd.prog 39 = true := by kernel_rfl
@[simp] theorem ty_sz_39 : tsize Go.Proofs.Tryd.prog 39 = 1 := by kernel_rfl
@[simp] theorem ty_by_39 : tbytes Go.Proofs.Tryd.prog 39 = 8 := by kernel_rfl
@[simp] theorem ty_ag_39 : tagg Go.Proofs.Tryd.prog 39 = false := by kernel_rfl
@[simp] theorem ty_ze_39 : tzero Go.Proofs.Tryd.prog 39 = some Value.nilFunc := by kernel_rfl
@[simp] theorem ty_tok_40 : tok Go.Proofs.Tryd.prog 40 = true := by kernel_rfl
@[simp] theorem ty_sz_40 : tsize Go.Proofs.Tryd.prog 40 = 1 := by kernel_rfl
@[simp] theorem ty_by_40 : tbytes Go.Proofs.Tryd.prog 40 = 8 := by kernel_rfl
@[simp] theorem ty_ag_40 : tagg Go.Proofs.Tryd.prog 40 = false := by kernel_rfl
@[simp] theorem ty_ze_40 : tzero Go.Proofs.Tryd.prog 40 = some Value.nilFunc := by kernel_rfl
@[simp] theorem ty_tok_41 : tok Go.Proofs.Tryd.prog 41 = true := by kernel_rfl
@[simp] theorem ty_sz_41 : tsize Go.Proofs.Tryd.prog 41 = 1 := by kernel_rfl
@[simp] theorem ty_by_41 : tbytes Go.Proofs.Tryd.prog 41 = 8 := by kernel_rfl
@[simp] theorem ty_ag_41 : tagg Go.Proofs.Tryd.prog 41 = false := by kernel_rfl
@[simp] theorem ty_ze_41 : tzero Go.Proofs.Tryd.prog 41 = some Value.nilFunc := by kernel_rfl
@[simp] theorem ty_tok_42 : tok Go.Proofs.Tryd.prog 42 = true := by kernel_rfl
@[simp] theorem ty_sz_42 : tsize Go.Proofs.Tryd.prog 42 = 1 := by kernel_rfl
@[simp] theorem ty_by_42 : tbytes Go.Proofs.Tryd.prog 42 = 8 := by kernel_rfl
@[simp] theorem ty_ag_42 : tagg Go.Proofs.Tryd.prog 42 = false := by kernel_rfl
@[simp] theorem ty_ze_42 : tzero Go.Proofs.Tryd.prog 42 = some Value.nilFunc := by kernel_rfl
@[simp] theorem ty_tok_43 : tok Go.Proofs.Tryd.prog 43 = true := by kernel_rfl
@[simp] theorem ty_sz_43 : tsize Go.Proofs.Tryd.prog 43 = 1 := by kernel_rfl
@[simp] theorem ty_by_43 : tbytes Go.Proofs.Tryd.prog 43 = 8 := by kernel_rfl
@[simp] theorem ty_ag_43 : tagg Go.Proofs.Tryd.prog 43 = false := by kernel_rfl
@[simp] theorem ty_ze_43 : tzero Go.Proofs.Tryd.prog 43 = some Value.nilFunc := by kernel_rfl
@[simp] theorem ty_tok_44 : tok Go.Proofs.Tryd.prog 44 = true := by kernel_rfl
@[simp] theorem ty_sz_44 : tsize Go.Proofs.Tryd.prog 44 = 1 := by kernel_rfl
@[simp] theorem ty_by_44 : tbytes Go.Proofs.Tryd.prog 44 = 8 := by kernel_rfl
@[simp] theorem ty_ag_44 : tagg Go.Proofs.Tryd.prog 44 = false := by kernel_rfl
@[simp] theorem ty_ze_44 : tzero Go.Proofs.Tryd.prog 44 = some Value.nilFunc := by kernel_rfl
@[simp] theorem ty_tok_46 : tok Go.Proofs.Tryd.prog 46 = true := by kernel_rfl
@[simp] theorem ty_sz_46 : tsize Go.Proofs.Tryd.prog 46 = 1 := by kernel_rfl
@[simp] theorem ty_by_46 : tbytes Go.Proofs.Tryd.prog 46 = 8 := by kernel_rfl
@[simp] theorem ty_ag_46 : tagg Go.Proofs.Tryd.prog 46 = false := by kernel_rfl
@[simp] theorem ty_ze_46 : tzero Go.Proofs.Tryd.prog 46 = some Value.nilFunc := by kernel_rfl
@[simp] theorem ty_tok_47 : tok Go.Proofs.Tryd.prog 47 = true := by kernel_rfl
@[simp] theorem ty_sz_47 : tsize Go.Proofs.Tryd.prog 47 = 1 := by kernel_rfl
@[simp] theorem ty_by_47 : tbytes Go.Proofs.Tryd.prog 47 = 8 := by kernel_rfl
@[simp] theorem ty_ag_47 : tagg Go.Proofs.Tryd.prog 47 = false := by kernel_rfl
@[simp] theorem ty_ze_47 : tzero Go.Proofs.Tryd.prog 47 = some Value.nilFunc := by kernel_rfl
@[simp] theorem ty_tok_48 : tok Go.Proofs.Tryd.prog 48 = true := by kernel_rfl
@[simp] theorem ty_sz_48 : tsize Go.Proofs.Tryd.prog 48 = 1 := by kernel_rfl
@[simp] theorem ty_by_48 : tbytes Go.Proofs.Tryd.prog 48 = 8 := by kernel_rfl
@[simp] theorem ty_ag_48 : tagg Go.Proofs.Tryd.prog 48 = false := by kernel_rfl
@[simp] theorem ty_ze_48 : tzero Go.Proofs.Tryd.prog 48 = some Value.nilFunc := by kernel_rfl
@[simp] theorem ty_tok_49 : tok Go.Proofs.Tryd.prog 49 = true := by kernel_rfl
@[simp] theorem ty_sz_49 : tsize Go.Proofs.Tryd.prog 49 = 1 := by kernel_rfl
@[simp] theorem ty_by_49 : tbytes Go.Proofs.Tryd.prog 49 = 8 := by kernel_rfl
@[simp] theorem ty_ag_49 : tagg Go.Proofs.Tryd.prog 49 = false := by kernel_rfl
@[simp] theorem ty_ze_49 : tzero Go.Proofs.Tryd.prog 49 = some Value.nilFunc := by kernel_rfl
@[simp] theorem ty_tok_50 : tok Go.Proofs.Tryd.prog 50 = true := by kernel_rfl
@[simp] theorem ty_sz_50 : tsize Go.Proofs.Tryd.prog 50 = 1 := by kernel_rfl
@[simp] theorem ty_by_50 : tbytes Go.Proofs.Tryd.prog 50 = 8 := by kernel_rfl
@[simp] theorem ty_ag_50 : tagg Go.Proofs.Tryd.prog 50 = false := by kernel_rfl
@[simp] theorem ty_ze_50 : tzero Go.Proofs.Tryd.prog 50 = some (Value.int .u64 0) := by kernel_rfl
@[simp] theorem ty_in_50 : tint Go.Proofs.Tryd.prog 50 = some .u64 := by kernel_rfl
@[simp] theorem ty_tok_51 : tok Go.Proofs.Tryd.prog 51 = true := by kernel_rfl
@[simp] theorem ty_sz_51 : tsize Go.Proofs.Tryd.prog 51 = 3 := by kernel_rfl
@[simp] theorem ty_by_51 : tbytes Go.Proofs.Tryd.prog 51 = 40 := by kernel_rfl
@[simp] theorem ty_ag_51 : tagg Go.Proofs.Tryd.prog 51 = true := by kernel_rfl
@[simp] theorem ty_ze_51 : tzero Go.Proofs.Tryd.prog 51 = some (Value.agg #[(Value.slice none 0 0), (Value.int .i64 0), (Value.int .u64 0)]) := by kernel_rfl
@[simp] theorem ty_fi_51 : tfields Go.Proofs.Tryd.prog 51 = some [(0, 1), (1, 1), (2, 1)] := by kernel_rfl
@[simp] theorem ty_tok_52 : tok Go.Proofs.Tryd.prog 52 = true := by kernel_rfl
@[simp] theorem ty_sz_52 : tsize Go.Proofs.Tryd.prog 52 = 3 := by kernel_rfl
@[simp] theorem ty_by_52 : tbytes Go.Proofs.Tryd.prog 52 = 40 := by kernel_rfl
@[simp] theorem ty_ag_52 : tagg Go.Proofs.Tryd.prog 52 = true := by kernel_rfl
@[simp] theorem ty_ze_52 : tzero Go.Proofs.Tryd.prog 52 = some (Value.agg #[(Value.slice none 0 0), (Value.int .i64 0), (Value.int .u64 0)]) := by kernel_rfl
@[simp] theorem ty_fi_52 : tfields Go.Proofs.Tryd.prog 52 = some [(0, 1), (1, 1), (2, 1)] := by kernel_rfl
@[simp] theorem ty_tok_53 : tok Go.Proofs.Tryd.prog 53 = true := by kernel_rfl
@[simp] theorem ty_sz_53 : tsize Go.Proofs.Tryd.prog 53 = 1 := by kernel_rfl
@[simp] theorem ty_by_53 : tbytes Go.Proofs.Tryd.prog 53 = 8 := by kernel_rfl
@[simp] theorem ty_ag_53 : tagg Go.Proofs.Tryd.prog 53 = false := by kernel_rfl
@[simp] theorem ty_ze_53 : tzero Go.Proofs.Tryd.prog 53 = some Value.nilFunc := by kernel_rfl
@[simp] theorem ty_tok_54 : tok Go.Proofs.Tryd.prog 54 = true := by kernel_rfl
@[simp] theorem ty_sz_54 : tsize Go.Proofs.Tryd.prog 54 = 1 := by kernel_rfl
@[simp] theorem ty_by_54 : tbytes Go.Proofs.Tryd.prog 54 = 8 := by kernel_rfl
@[simp] theorem ty_ag_54 : tagg Go.Proofs.Tryd.prog 54 = false := by kernel_rfl
@[simp] theorem ty_ze_54 : tzero Go.Proofs.Tryd.prog 54 = some Value.nilFunc := by kernel_rfl
@[simp] theorem ty_tok_55 : tok Go.Proofs.Tryd.prog 55 = true := by kernel_rfl
@[simp] theorem ty_sz_55 : tsize Go.Proofs.Tryd.prog 55 = 1 := by kernel_rfl
@[simp] theorem ty_by_55 : tbytes Go.Proofs.Tryd.prog 55 = 8 := by kernel_rfl
@[simp] theorem ty_ag_55 : tagg Go.Proofs.Tryd.prog 55 = false := by kernel_rfl
@[simp] theorem ty_ze_55 : tzero Go.Proofs.Tryd.prog 55 = some (Value.int .u64 0) := by kernel_rfl
@[simp] theorem ty_in_55 : tint Go.Proofs.Tryd.prog 55 = some .u64 := by kernel_rfl
@[simp] theorem ty_tok_56 : tok Go.Proofs.Tryd.prog 56 = true := by kernel_rfl
@[simp] theorem ty_sz_56 : tsize Go.Proofs.Tryd.prog 56 = 1 := by kernel_rfl
@[simp] theorem ty_by_56 : tbytes Go.Proofs.Tryd.prog 56 = 8 := by kernel_rfl
@[simp] theorem ty_ag_56 : tagg Go.Proofs.Tryd.prog 56 = false := by kernel_rfl
@[simp] theorem ty_ze_56 : tzero Go.Proofs.Tryd.prog 56 = some Value.nilFunc := by kernel_rfl
@[simp] theorem ty_tok_57 : tok Go.Proofs.Tryd.prog 57 = true := by kernel_rfl
@[simp] theorem ty_sz_57 : tsize Go.Proofs.Tryd.prog 57 = 1 := by kernel_rfl
@[simp] theorem ty_by_57 : tbytes Go.Proofs.Tryd.prog 57 = 8 := by kernel_rfl
@[simp] theorem ty_ag_57 : tagg Go.Proofs.Tryd.prog 57 = false := by kernel_rfl
@[simp] theorem ty_ze_57 : tzero Go.Proofs.Tryd.prog 57 = some Value.nilFunc := by kernel_rfl
@[simp] theorem ty_tok_59 : tok Go.Proofs.Tryd.prog 59 = true := by kernel_rfl
@[simp] theorem ty_sz_59 : tsize Go.Proofs.Tryd.prog 59 = 1 := by kernel_rfl
@[simp] theorem ty_by_59 : tbytes Go.Proofs.Tryd.prog 59 = 8 := by kernel_rfl
@[simp] theorem ty_ag_59 : tagg Go.Proofs.Tryd.prog 59 = false := by kernel_rfl
@[simp] theorem ty_ze_59 : tzero Go.Proofs.Tryd.prog 59 = some Value.nilFunc := by kernel_rfl
@[simp] theorem ty_tok_60 : tok Go.Proofs.Tryd.prog 60 = true := by kernel_rfl
@[simp] theorem ty_sz_60 : tsize Go.Proofs.Tryd.prog 60 = 1 := by kernel_rfl
@[simp] theorem ty_by_60 : tbytes Go.Proofs.Tryd.prog 60 = 24 := by kernel_rfl
@[simp] theorem ty_ag_60 : tagg Go.Proofs.Tryd.prog 60 = false := by kernel_rfl
@[simp] theorem ty_ze_60 : tzero Go.Proofs.Tryd.prog 60 = some (Value.slice none 0 0) := by kernel_rfl
@[simp] theorem ty_el_60 : telem Go.Proofs.Tryd.prog 60 = some 24 := by kernel_rfl
@[simp] theorem ty_tok_61 : tok Go.Proofs.Tryd.prog 61 = true := by kernel_rfl
@[simp] theorem ty_sz_61 : tsize Go.Proofs.Tryd.prog 61 = 1 := by kernel_rfl
@[simp] theorem ty_by_61 : tbytes Go.Proofs.Tryd.prog 61 = 8 := by kernel_rfl
@[simp] theorem ty_ag_61 : tagg Go.Proofs.Tryd.prog 61 = false := by kernel_rfl
@[simp] theorem ty_ze_61 : tzero Go.Proofs.Tryd.prog 61 = some Value.nilFunc := by kernel_rfl
@[simp] theorem ty_tok_62 : tok Go.Proofs.Tryd.prog 62 = true := by kernel_rfl
@[simp] theorem ty_sz_62 : tsize Go.Proofs.Tryd.prog 62 = 1 := by kernel_rfl
@[simp] theorem ty_by_62 : tbytes Go.Proofs.Tryd.prog 62 = 8 := by kernel_rfl
@[simp] theorem ty_ag_62 : tagg Go.Proofs.Tryd.prog 62 = false := by kernel_rfl
@[simp] theorem ty_ze_62 : tzero Go.Proofs.Tryd.prog 62 = some Value.nilFunc := by kernel_rfl
@[simp] theorem ty_tok_63 : tok Go.Proofs.Tryd.prog 63 = true := by kernel_rfl
@[simp] theorem ty_sz_63 : tsize Go.Proofs.Tryd.prog 63 = 1 := by kernel_rfl
@[simp] theorem ty_by_63 : tbytes Go.Proofs.Tryd.prog 63 = 8 := by kernel_rfl
@[simp] theorem ty_ag_63 : tagg Go.Proofs.Tryd.prog 63 = false := by kernel_rfl
@[simp] theorem ty_ze_63 : tzero Go.Proofs.Tryd.prog 63 = some Value.nilFunc := by kernel_rfl
@[simp] theorem ty_tok_64 : tok Go.Proofs.Tryd.prog 64 = true := by kernel_rfl
@[simp] theorem ty_sz_64 : tsize Go.Proofs.Tryd.prog 64 = 1 := by kernel_rfl
@[simp] theorem ty_by_64 : tbytes Go.Proofs.Tryd.prog 64 = 8 := by kernel_rfl
@[simp] theorem ty_ag_64 : tagg Go.Proofs.Tryd.prog 64 = false := by kernel_rfl
@[simp] theorem ty_ze_64 : tzero Go.Proofs.Tryd.prog 64 = some Value.nilFunc := by kernel_rfl
@[simp] theorem ty_tok_65 : tok Go.Proofs.Tryd.prog 65 = true := by kernel_rfl
@[simp] theorem ty_sz_65 : tsize Go.Proofs.Tryd.prog 65 = 1 := by kernel_rfl
@[simp] theorem ty_by_65 : tbytes Go.Proofs.Tryd.prog 65 = 8 := by kernel_rfl
@[simp] theorem ty_ag_65 : tagg Go.Proofs.Tryd.prog 65 = false := by kernel_rfl
@[simp] theorem ty_ze_65 : tzero Go.Proofs.Tryd.prog 65 = some Value.nilFunc := by kernel_rfl
@[simp] theorem ty_tok_66 : tok Go.Proofs.Tryd.prog 66 = true := by kernel_rfl
@[simp] theorem ty_sz_66 : tsize Go.Proofs.Tryd.prog 66 = 1 := by kernel_rfl
@[simp] theorem ty_by_66 : tbytes Go.Proofs.Tryd.prog 66 = 8 := by kernel_rfl
@[simp] theorem ty_ag_66 : tagg Go.Proofs.Tryd.prog 66 = false := by kernel_rfl
@[simp] theorem ty_ze_66 : tzero Go.Proofs.Tryd.prog 66 = some Value.nilFunc := by kernel_rfl
@[simp] theorem ty_tok_67 : tok Go.Proofs.Tryd.prog 67 = true := by kernel_rfl
@[simp] theorem ty_sz_67 : tsize Go.Proofs.Tryd.prog 67 = 1 := by kernel_rfl
@[simp] theorem ty_by_67 : tbytes Go.Proofs.Tryd.prog 67 = 8 := by kernel_rfl
@[simp] theorem ty_ag_67 : tagg Go.Proofs.Tryd.prog 67 = false := by kernel_rfl
@[simp] theorem ty_ze_67 : tzero Go.Proofs.Tryd.prog 67 = some Value.nilFunc := by kernel_rfl
@[simp] theorem ty_tok_68 : tok Go.Proofs.Tryd.prog 68 = true := by kernel_rfl
@[simp] theorem ty_sz_68 : tsize Go.Proofs.Tryd.prog 68 = 1 := by kernel_rfl
@[simp] theorem ty_by_68 : tbytes Go.Proofs.Tryd.prog 68 = 8 := by kernel_rfl
@[simp] theorem ty_ag_68 : tagg Go.Proofs.Tryd.prog 68 = false := by kernel_rfl
@[simp] theorem ty_ze_68 : tzero Go.Proofs.Tryd.prog 68 = some Value.nilFunc := by kernel_rfl
@[simp] theorem ty_tok_69 : tok Go.Proofs.Tryd.prog 69 = true := by kernel_rfl
@[simp] theorem ty_sz_69 : tsize Go.Proofs.Tryd.prog 69 = 1 := by kernel_rfl
@[simp] theorem ty_by_69 : tbytes Go.Proofs.Tryd.prog 69 = 8 := by kernel_rfl
@[simp] theorem ty_ag_69 : tagg Go.Proofs.Tryd.prog 69 = false := by kernel_rfl
@[simp] theorem ty_ze_69 : tzero Go.Proofs.Tryd.prog 69 = some Value.nilFunc := by kernel_rfl
@[simp] theorem ty_tok_70 : tok Go.Proofs.Tryd.prog 70 = true := by kernel_rfl
@[simp] theorem ty_sz_70 : tsize Go.Proofs.Tryd.prog 70 = 1 := by kernel_rfl
@[simp] theorem ty_by_70 : tbytes Go.Proofs.Tryd.prog 70 = 8 := by kernel_rfl
@[simp] theorem ty_ag_70 : tagg Go.Proofs.Tryd.prog 70 = false := by kernel_rfl
@[simp] theorem ty_ze_70 : tzero Go.Proofs.Tryd.prog 70 = some Value.nilFunc := by kernel_rfl
@[simp] theorem ty_tok_71 : tok Go.Proofs.Tryd.prog 71 = true := by kernel_rfl
@[simp] theorem ty_sz_71 : tsize Go.Proofs.Tryd.prog 71 = 1 := by kernel_rfl
@[simp] theorem ty_by_71 : tbytes Go.Proofs.Tryd.prog 71 = 8 := by kernel_rfl
@[simp] theorem ty_ag_71 : tagg Go.Proofs.Tryd.prog 71 = false := by kernel_rfl
@[simp] theorem ty_ze_71 : tzero Go.Proofs.Tryd.prog 71 = some Value.nilFunc := by kernel_rfl
@[simp] theorem ty_tok_72 : tok Go.Proofs.Tryd.prog 72 = true := by kernel_rfl
@[simp] theorem ty_sz_72 : tsize Go.Proofs.Tryd.prog 72 = 1 := by kernel_rfl
@[simp] theorem ty_by_72 : tbytes Go.Proofs.Tryd.prog 72 = 8 := by kernel_rfl
@[simp] theorem ty_ag_72 : tagg Go.Proofs.Tryd.prog 72 = false := by kernel_rfl
@[simp] theorem ty_ze_72 : tzero Go.Proofs.Tryd.prog 72 = some Value.nilFunc := by kernel_rfl
@[simp] theorem ty_tok_73 : tok Go.Proofs.Tryd.prog 73 = true := by kernel_rfl
@[simp] theorem ty_sz_73 : tsize Go.Proofs.Tryd.prog 73 = 1 := by kernel_rfl
@[simp] theorem ty_by_73 : tbytes Go.Proofs.Tryd.prog 73 = 8 := by kernel_rfl
@[simp] theorem ty_ag_73 : tagg Go.Proofs.Tryd.prog 73 = false := by kernel_rfl
@[simp] theorem ty_ze_73 : tzero Go.Proofs.Tryd.prog 73 = some Value.nilFunc := by kernel_rfl
@[simp] theorem ty_tok_74 : tok Go.Proofs.Tryd.prog 74 = true := by kernel_rfl
@[simp] theorem ty_sz_74 : tsize Go.Proofs.Tryd.prog 74 = 1 := by kernel_rfl
@[simp] theorem ty_by_74 : tbytes Go.Proofs.Tryd.prog 74 = 8 := by kernel_rfl
@[simp] theorem ty_ag_74 : tagg Go.Proofs.Tryd.prog 74 = false := by kernel_rfl
@[simp] theorem ty_ze_74 : tzero Go.Proofs.Tryd.prog 74 = some Value.nilFunc := by kernel_rfl
@[simp] theorem ty_tok_75 : tok Go.Proofs.Tryd.prog 75 = true := by kernel_rfl
@[simp] theorem ty_sz_75 : tsize Go.Proofs.Tryd.prog 75 = 1 := by kernel_rfl
@[simp] theorem ty_by_75 : tbytes Go.Proofs.Tryd.prog 75 = 8 := by kernel_rfl
@[simp] theorem ty_ag_75 : tagg Go.Proofs.Tryd.prog 75 = false := by kernel_rfl
@[simp] theorem ty_ze_75 : tzero Go.Proofs.Tryd.prog 75 = some Value.nilFunc := by kernel_rfl
@[simp] theorem ty_tok_76 : tok Go.Proofs.Tryd.prog 76 = true := by kernel_rfl
@[simp] theorem ty_sz_76 : tsize Go.Proofs.Tryd.prog 76 = 1 := by kernel_rfl
@[simp] theorem ty_by_76 : tbytes Go.Proofs.Tryd.prog 76 = 8 := by kernel_rfl
@[simp] theorem ty_ag_76 : tagg Go.Proofs.Tryd.prog 76 = false := by kernel_rfl
@[simp] theorem ty_ze_76 : tzero Go.Proofs.Tryd.prog 76 = some Value.nilFunc := by kernel_rfl
@[simp] theorem ty_tok_77 : tok Go.Proofs.Tryd.prog 77 = true := by kernel_rfl
@[simp] theorem ty_sz_77 : tsize Go.Proofs.Tryd.prog 77 = 1 := by kernel_rfl
@[simp] theorem ty_by_77 : tbytes Go.Proofs.Tryd.prog 77 = 8 := by kernel_rfl
@[simp] theorem ty_ag_77 : tagg Go.Proofs.Tryd.prog 77 = false := by kernel_rfl
@[simp] theorem ty_ze_77 : tzero Go.Proofs.Tryd.prog 77 = some Value.nilFunc := by kernel_rfl
@[simp] theorem ty_tok_78 : tok Go.Proofs.Tryd.prog 78 = true := by kernel_rfl
@[simp] theorem ty_sz_78 : tsize Go.Proofs.Tryd.prog 78 = 1 := by kernel_rfl
@[simp] theorem ty_by_78 : tbytes Go.Proofs.Tryd.prog 78 = 8 := by kernel_rfl
@[simp] theorem ty_ag_78 : tagg Go.Proofs.Tryd.prog 78 = false := by kernel_rfl
@[simp] theorem ty_ze_78 : tzero Go.Proofs.Tryd.prog 78 = some Value.nilFunc := by kernel_rfl
@[simp] theorem ty_tok_80 : tok Go.Proofs.Tryd.prog 80 = true := by kernel_rfl
@[simp] theorem ty_sz_80 : tsize Go.Proofs.Tryd.prog 80 = 1 := by kernel_rfl
@[simp] theorem ty_by_80 : tbytes Go.Proofs.Tryd.prog 80 = 8 := by kernel_rfl
@[simp] theorem ty_ag_80 : tagg Go.Proofs.Tryd.prog 80 = false := by kernel_rfl
@[simp] theorem ty_ze_80 : tzero Go.Proofs.Tryd.prog 80 = some Value.nilFunc := by kernel_rfl
@[simp] theorem ty_tok_81 : tok Go.Proofs.Tryd.prog 81 = true := by kernel_rfl
@[simp] theorem ty_sz_81 : tsize Go.Proofs.Tryd.prog 81 = 1 := by kernel_rfl
@[simp] theorem ty_by_81 : tbytes Go.Proofs.Tryd.prog 81 = 8 := by kernel_rfl
@[simp] theorem ty_ag_81 : tagg Go.Proofs.Tryd.prog 81 = false := by kernel_rfl
@[simp] theorem ty_ze_81 : tzero Go.Proofs.Tryd.prog 81 = some Value.nilFunc := by kernel_rfl
@[simp] theorem ty_tok_82 : tok Go.Proofs.Tryd.prog 82 = true := by kernel_rfl
@[simp] theorem ty_sz_82 : tsize Go.Proofs.Tryd.prog 82 = 1 := by kernel_rfl
@[simp] theorem ty_by_82 : tbytes Go.Proofs.Tryd.prog 82 = 8 := by kernel_rfl
@[simp] theorem ty_ag_82 : tagg Go.Proofs.Tryd.prog 82 = false := by kernel_rfl
@[simp] theorem ty_ze_82 : tzero Go.Proofs.Tryd.prog 82 = some Value.nilFunc := by kernel_rfl
@[simp] theorem ty_tok_83 : tok Go.Proofs.Tryd.prog 83 = true := by kernel_rfl
@[simp] theorem ty_sz_83 : tsize Go.Proofs.Tryd.prog 83 = 1 := by kernel_rfl
@[simp] theorem ty_by_83 : tbytes Go.Proofs.Tryd.prog 83 = 8 := by kernel_rfl
@[simp] theorem ty_ag_83 : tagg Go.Proofs.Tryd.prog 83 = false := by kernel_rfl
@[simp] theorem ty_ze_83 : tzero Go.Proofs.Tryd.prog 83 = some Value.nilFunc := by kernel_rfl
@[simp] theorem ty_tok_84 : tok Go.Proofs.Tryd.prog 84 = true := by kernel_rfl
@[simp] theorem ty_sz_84 : tsize Go.Proofs.Tryd.prog 84 = 1 := by kernel_rfl
@[simp] theorem ty_by_84 : tbytes Go.Proofs.Tryd.prog 84 = 8 := by kernel_rfl
@[simp] theorem ty_ag_84 : tagg Go.Proofs.Tryd.prog 84 = false := by kernel_rfl
@[simp] theorem ty_ze_84 : tzero Go.Proofs.Tryd.prog 84 = some Value.nilFunc := by kernel_rfl
@[simp] theorem ty_tok_85 : tok Go.Proofs.Tryd.prog 85 = true := by kernel_rfl
@[simp] theorem ty_sz_85 : tsize Go.Proofs.Tryd.prog 85 = 1 := by kernel_rfl
@[simp] theorem ty_by_85 : tbytes Go.Proofs.Tryd.prog 85 = 8 := by kernel_rfl
@[simp] theorem ty_ag_85 : tagg Go.Proofs.Tryd.prog 85 = false := by kernel_rfl
@[simp] theorem ty_ze_85 : tzero Go.Proofs.Tryd.prog 85 = some Value.nilFunc := by kernel_rfl
@[simp] theorem ty_tok_86 : tok Go.Proofs.Tryd.prog 86 = true := by kernel_rfl
@[simp] theorem ty_sz_86 : tsize Go.Proofs.Tryd.prog 86 = 1 := by kernel_rfl
@[simp] theorem ty_by_86 : tbytes Go.Proofs.Tryd.prog 86 = 8 := by kernel_rfl
@[simp] theorem ty_ag_86 : tagg Go.Proofs.Tryd.prog 86 = false := by kernel_rfl
@[simp] theorem ty_ze_86 : tzero Go.Proofs.Tryd.prog 86 = some Value.nilFunc := by kernel_rfl
@[simp] theorem ty_tok_87 : tok Go.Proofs.Tryd.prog 87 = true := by kernel_rfl
@[simp] theorem ty_sz_87 : tsize Go.Proofs.Tryd.prog 87 = 1 := by kernel_rfl
@[simp] theorem ty_by_87 : tbytes Go.Proofs.Tryd.prog 87 = 8 := by kernel_rfl
@[simp] theorem ty_ag_87 : tagg Go.Proofs.Tryd.prog 87 = false := by kernel_rfl
@[simp] theorem ty_ze_87 : tzero Go.Proofs.Tryd.prog 87 = some Value.nilFunc := by kernel_rfl
@[simp] theorem ty_tok_88 : tok Go.Proofs.Tryd.prog 88 = true := by kernel_rfl
@[simp] theorem ty_sz_88 : tsize Go.Proofs.Tryd.prog 88 = 1 := by kernel_rfl
@[simp] theorem ty_by_88 : tbytes Go.Proofs.Tryd.prog 88 = 8 := by kernel_rfl
@[simp] theorem ty_ag_88 : tagg Go.Proofs.Tryd.prog 88 = false := by kernel_rfl
@[simp] theorem ty_ze_88 : tzero Go.Proofs.Tryd.prog 88 = some Value.nilFunc := by kernel_rfl
@[simp] theorem ty_tok_89 : tok Go.Proofs.Tryd.prog 89 = true := by kernel_rfl
@[simp] theorem ty_sz_89 : tsize Go.Proofs.Tryd.prog 89 = 1 := by kernel_rfl
@[simp] theorem ty_by_89 : tbytes Go.Proofs.Tryd.prog 89 = 8 := by kernel_rfl
@[simp] theorem ty_ag_89 : tagg Go.Proofs.Tryd.prog 89 = false := by kernel_rfl
@[simp] theorem ty_ze_89 : tzero Go.Proofs.Tryd.prog 89 = some Value.nilFunc := by kernel_rfl
@[simp] theorem ty_tok_90 : tok Go.Proofs.Tryd.prog 90 = true := by kernel_rfl
@[simp] theorem ty_sz_90 : tsize Go.Proofs.Tryd.prog 90 = 1 := by kernel_rfl
@[simp] theorem ty_by_90 : tbytes Go.Proofs.Tryd.prog 90 = 8 := by kernel_rfl
@[simp] theorem ty_ag_90 : tagg Go.Proofs.Tryd.prog 90 = false := by kernel_rfl
@[simp] theorem ty_ze_90 : tzero Go.Proofs.Tryd.prog 90 = some Value.nilFunc := by kernel_rfl
@[simp] theorem ty_tok_91 : tok Go.Proofs.Tryd.prog 91 = true := by kernel_rfl
@[simp] theorem ty_sz_91 : tsize Go.Proofs.Tryd.prog 91 = 1 := by kernel_rfl
@[simp] theorem ty_by_91 : tbytes Go.Proofs.Tryd.prog 91 = 8 := by kernel_rfl
@[simp] theorem ty_ag_91 : tagg Go.Proofs.Tryd.prog 91 = false := by kernel_rfl
@[simp] theorem ty_ze_91 : tzero Go.Proofs.Tryd.prog 91 = some Value.nilFunc := by kernel_rfl
@[simp] theorem ty_tok_92 : tok Go.Proofs.Tryd.prog 92 = true := by kernel_rfl
@[simp] theorem ty_sz_92 : tsize Go.Proofs.Tryd.prog 92 = 1 := by kernel_rfl
@[simp] theorem ty_by_92 : tbytes Go.Proofs.Tryd.prog 92 = 8 := by kernel_rfl
@[simp] theorem ty_ag_92 : tagg Go.Proofs.Tryd.prog 92 = false := by kernel_rfl
@[simp] theorem ty_ze_92 : tzero Go.Proofs.Tryd.prog 92 = some Value.nilFunc := by kernel_rfl
@[simp] theorem ty_tok_93 : tok Go.Proofs.Tryd.prog 93 = true := by kernel_rfl
@[simp] theorem ty_sz_93 : tsize Go.Proofs.Tryd.prog 93 = 1 := by kernel_rfl
@[simp] theorem ty_by_93 : tbytes Go.Proofs.Tryd.prog 93 = 8 := by kernel_rfl
@[simp] theorem ty_ag_93 : tagg Go.Proofs.Tryd.prog 93 = false := by kernel_rfl
@[simp] theorem ty_ze_93 : tzero Go.Proofs.Tryd.prog 93 = some Value.nilFunc := by kernel_rfl
@[simp] theorem ty_tok_94 : tok Go.Proofs.Tryd.prog 94 = true := by kernel_rfl
@[simp] theorem ty_sz_94 : tsize Go.Proofs.Tryd.prog 94 = 1 := by kernel_rfl
@[simp] theorem ty_by_94 : tbytes Go.Proofs.Tryd.prog 94 = 8 := by kernel_rfl
@[simp] theorem ty_ag_94 : tagg Go.Proofs.Tryd.prog 94 = false := by kernel_rfl
@[simp] theorem ty_ze_94 : tzero Go.Proofs.Tryd.prog 94 = some Value.nilFunc := by kernel_rfl
@[simp] theorem ty_tok_95 : tok Go.Proofs.Tryd.prog 95 = true := by kernel_rfl
@[simp] theorem ty_sz_95 : tsize Go.Proofs.Tryd.prog 95 = 1 := by kernel_rfl
@[simp] theorem ty_by_95 : tbytes Go.Proofs.Tryd.prog 95 = 8 := by kernel_rfl
@[simp] theorem ty_ag_95 : tagg Go.Proofs.Tryd.prog 95 = false := by kernel_rfl
@[simp] theorem ty_ze_95 : tzero Go.Proofs.Tryd.prog 95 = some Value.nilFunc := by kernel_rfl
@[simp] theorem ty_tok_96 : tok Go.Proofs.Tryd.prog 96 = true := by kernel_rfl
@[simp] theorem ty_sz_96 : tsize Go.Proofs.Tryd.prog 96 = 1 := by kernel_rfl
@[simp] theorem ty_by_96 : tbytes Go.Proofs.Tryd.prog 96 = 8 := by kernel_rfl
@[simp] theorem ty_ag_96 : tagg Go.Proofs.Tryd.prog 96 = false := by kernel_rfl
@[simp] theorem ty_ze_96 : tzero Go.Proofs.Tryd.prog 96 = some Value.nilFunc := by kernel_rfl
@[simp] theorem ty_tok_97 : tok Go.Proofs.Tryd.prog 97 = true := by kernel_rfl
@[simp] theorem ty_sz_97 : tsize Go.Proofs.Tryd.prog 97 = 1 := by kernel_rfl
@[simp] theorem ty_by_97 : tbytes Go.Proofs.Tryd.prog 97 = 8 := by kernel_rfl
@[simp] theorem ty_ag_97 : tagg Go.Proofs.Tryd.prog 97 = false := by kernel_rfl
@[simp] theorem ty_ze_97 : tzero Go.Proofs.Tryd.prog 97 = some Value.nilFunc := by kernel_rfl
@[simp] theorem ty_ar_98 : tarr Go.Proofs.Tryd.prog 98 = some (64, 5) := by kernel_rfl
@[simp] theorem ty_el_98 : telem Go.Proofs.Tryd.prog 98 = none := by kernel_rfl
@[simp] theorem ty_tok_99 : tok Go.Proofs.Tryd.prog 99 = true := by kernel_rfl
@[simp] theorem ty_sz_99 : tsize Go.Proofs.Tryd.prog 99 = 1 := by kernel_rfl
@[simp] theorem ty_by_99 : tbytes Go.Proofs.Tryd.prog 99 = 8 := by kernel_rfl
@[simp] theorem ty_ag_99 : tagg Go.Proofs.Tryd.prog 99 = false := by kernel_rfl
@[simp] theorem ty_ze_99 : tzero Go.Proofs.Tryd.prog 99 = some Value.nilFunc := by kernel_rfl
@[simp] theorem ty_tok_100 : tok Go.Proofs.Tryd.prog 100 = true := by kernel_rfl
@[simp] theorem ty_sz_100 : tsize Go.Proofs.Tryd.prog 100 = 4 := by kernel_rfl
@[simp] theorem ty_by_100 : tbytes Go.Proofs.Tryd.prog 100 = 40 := by kernel_rfl
@[simp] theorem ty_ag_100 : tagg Go.Proofs.Tryd.prog 100 = true := by kernel_rfl
@[simp] theorem ty_ze_100 : tzero Go.Proofs.Tryd.prog 100 = some (Value.agg #[(Value.pointer none), (Value.pointer none), (Value.pointer none), (Value.string ⟨#[]⟩)]) := by kernel_rfl
@[simp] theorem ty_fi_100 : tfields Go.Proofs.Tryd.prog 100 = some [(0, 1), (1, 1), (2, 1), (3, 1)] := by kernel_rfl
@[simp] theorem ty_tok_101 : tok Go.Proofs.Tryd.prog 101 = true := by kernel_rfl
@[simp] theorem ty_sz_101 : tsize Go.Proofs.Tryd.prog 101 = 4 := by kernel_rfl
@[simp] theorem ty_by_101 : tbytes Go.Proofs.Tryd.prog 101 = 40 := by kernel_rfl
@[simp] theorem ty_ag_101 : tagg Go.Proofs.Tryd.prog 101 = true := by kernel_rfl
@[simp] theorem ty_ze_101 : tzero Go.Proofs.Tryd.prog 101 = some (Value.agg #[(Value.pointer none), (Value.pointer none), (Value.pointer none), (Value.string ⟨#[]⟩)]) := by kernel_rfl
@[simp] theorem ty_fi_101 : tfields Go.Proofs.Tryd.prog 101 = some [(0, 1), (1, 1), (2, 1), (3, 1)] := by kernel_rfl
@[simp] theorem ty_ar_102 : tarr Go.Proofs.Tryd.prog 102 = some (0, 16) := by kernel_rfl
@[simp] theorem ty_el_102 : telem Go.Proofs.Tryd.prog 102 = none := by kernel_rfl
@[simp] theorem ty_tok_103 : tok Go.Proofs.Tryd.prog 103 = true := by kernel_rfl
@[simp] theorem ty_sz_103 : tsize Go.Proofs.Tryd.prog 103 = 0 := by kernel_rfl
@[simp] theorem ty_by_103 : tbytes Go.Proofs.Tryd.prog 103 = 0 := by kernel_rfl
@[simp] theorem ty_ag_103 : tagg Go.Proofs.Tryd.prog 103 = true := by kernel_rfl
@[simp] theorem ty_ze_103 : tzero Go.Proofs.Tryd.prog 103 = some (Value.agg #[]) := by kernel_rfl
@[simp] theorem ty_fi_103 : tfields Go.Proofs.Tryd.prog 103 = some [(0, 0)] := by kernel_rfl
@[simp] theorem ty_tok_104 : tok Go.Proofs.Tryd.prog 104 = true := by kernel_rfl
@[simp] theorem ty_sz_104 : tsize Go.Proofs.Tryd.prog 104 = 0 := by kernel_rfl
@[simp] theorem ty_by_104 : tbytes Go.Proofs.Tryd.prog 104 = 0 := by kernel_rfl
@[simp] theorem ty_ag_104 : tagg Go.Proofs.Tryd.prog 104 = true := by kernel_rfl
@[simp] theorem ty_ze_104 : tzero Go.Proofs.Tryd.prog 104 = some (Value.agg #[]) := by kernel_rfl
@[simp] theorem ty_fi_104 : tfields Go.Proofs.Tryd.prog 104 = some [(0, 0)] := by kernel_rfl
@[simp] theorem ty_tok_105 : tok Go.Proofs.Tryd.prog 105 = true := by kernel_rfl
@[simp] theorem ty_sz_105 : tsize Go.Proofs.Tryd.prog 105 = 1 := by kernel_rfl
@[simp] theorem ty_by_105 : tbytes Go.Proofs.Tryd.prog 105 = 8 := by kernel_rfl
@[simp] theorem ty_ag_105 : tagg Go.Proofs.Tryd.prog 105 = false := by kernel_rfl
@[simp] theorem ty_ze_105 : tzero Go.Proofs.Tryd.prog 105 = some Value.nilFunc := by kernel_rfl
@[simp] theorem ty_tok_106 : tok Go.Proofs.Tryd.prog 106 = true := by kernel_rfl
@[simp] theorem ty_sz_106 : tsize Go.Proofs.Tryd.prog 106 = 1 := by kernel_rfl
@[simp] theorem ty_by_106 : tbytes Go.Proofs.Tryd.prog 106 = 4 := by kernel_rfl
@[simp] theorem ty_ag_106 : tagg Go.Proofs.Tryd.prog 106 = false := by kernel_rfl
@[simp] theorem ty_ze_106 : tzero Go.Proofs.Tryd.prog 106 = some (Value.int .u32 0) := by kernel_rfl
@[simp] theorem ty_in_106 : tint Go.Proofs.Tryd.prog 106 = some .u32 := by kernel_rfl
@[simp] theorem ty_tok_107 : tok Go.Proofs.Tryd.prog 107 = true := by kernel_rfl
@[simp] theorem ty_sz_107 : tsize Go.Proofs.Tryd.prog 107 = 1 := by kernel_rfl
@[simp] theorem ty_by_107 : tbytes Go.Proofs.Tryd.prog 107 = 1 := by kernel_rfl
@[simp] theorem ty_ag_107 : tagg Go.Proofs.Tryd.prog 107 = false := by kernel_rfl
@[simp] theorem ty_ze_107 : tzero Go.Proofs.Tryd.prog 107 = some (Value.int .u8 0) := by kernel_rfl
@[simp] theorem ty_in_107 : tint Go.Proofs.Tryd.prog 107 = some .u8 := by kernel_rfl
@[simp] theorem ty_tok_108 : tok Go.Proofs.Tryd.prog 108 = true := by kernel_rfl
@[simp] theorem ty_sz_108 : tsize Go.Proofs.Tryd.prog 108 = 1 := by kernel_rfl
@[simp] theorem ty_by_108 : tbytes Go.Proofs.Tryd.prog 108 = 1 := by kernel_rfl
@[simp] theorem ty_ag_108 : tagg Go.Proofs.Tryd.prog 108 = false := by kernel_rfl
@[simp] theorem ty_ze_108 : tzero Go.Proofs.Tryd.prog 108 = some (Value.int .u8 0) := by kernel_rfl
@[simp] theorem ty_in_108 : tint Go.Proofs.Tryd.prog 108 = some .u8 := by kernel_rfl
@[simp] theorem ty_tok_109 : tok Go.Proofs.Tryd.prog 109 = true := by kernel_rfl
@[simp] theorem ty_sz_109 : tsize Go.Proofs.Tryd.prog 109 = 1 := by kernel_rfl
@[simp] theorem ty_by_109 : tbytes Go.Proofs.Tryd.prog 109 = 8 := by kernel_rfl
@[simp] theorem ty_ag_109 : tagg Go.Proofs.Tryd.prog 109 = false := by kernel_rfl
@[simp] theorem ty_ze_109 : tzero Go.Proofs.Tryd.prog 109 = some Value.nilFunc := by kernel_rfl
@[simp] theorem ty_tok_110 : tok Go.Proofs.Tryd.prog 110 = true := by kernel_rfl
@[simp] theorem ty_sz_110 : tsize Go.Proofs.Tryd.prog 110 = 1 := by kernel_rfl
@[simp] theorem ty_by_110 : tbytes Go.Proofs.Tryd.prog 110 = 8 := by kernel_rfl
@[simp] theorem ty_ag_110 : tagg Go.Proofs.Tryd.prog 110 = false := by kernel_rfl
@[simp] theorem ty_ze_110 : tzero Go.Proofs.Tryd.prog 110 = some (Value.pointer none) := by kernel_rfl
@[simp] theorem ty_tok_111 : tok Go.Proofs.Tryd.prog 111 = true := by kernel_rfl
@[simp] theorem ty_sz_111 : tsize Go.Proofs.Tryd.prog 111 = 1 := by kernel_rfl
@[simp] theorem ty_by_111 : tbytes Go.Proofs.Tryd.prog 111 = 4 := by kernel_rfl
@[simp] theorem ty_ag_111 : tagg Go.Proofs.Tryd.prog 111 = false := by kernel_rfl
@[simp] theorem ty_ze_111 : tzero Go.Proofs.Tryd.prog 111 = some (Value.int .i32 0) := by kernel_rfl
@[simp] theorem ty_in_111 : tint Go.Proofs.Tryd.prog 111 = some .i32 := by kernel_rfl
@[simp] theorem ty_tok_112 : tok Go.Proofs.Tryd.prog 112 = true := by kernel_rfl
@[simp] theorem ty_sz_112 : tsize Go.Proofs.Tryd.prog 112 = 1 := by kernel_rfl
@[simp] theorem ty_by_112 : tbytes Go.Proofs.Tryd.prog 112 = 4 := by kernel_rfl
@[simp] theorem ty_ag_112 : tagg Go.Proofs.Tryd.prog 112 = false := by kernel_rfl
@[simp] theorem ty_ze_112 : tzero Go.Proofs.Tryd.prog 112 = some (Value.int .i32 0) := by kernel_rfl
@[simp] theorem ty_in_112 : tint Go.Proofs.Tryd.prog 112 = some .i32 := by kernel_rfl
@[simp] theorem ty_tok_113 : tok Go.Proofs.Tryd.prog 113 = true := by kernel_rfl
@[simp] theorem ty_sz_113 : tsize Go.Proofs.Tryd.prog 113 = 11 := by kernel_rfl
@[simp] theorem ty_by_113 : tbytes Go.Proofs.Tryd.prog 113 = 48 := by kernel_rfl
@[simp] theorem ty_ag_113 : tagg Go.Proofs.Tryd.prog 113 = true := by kernel_rfl
@[simp] theorem ty_ze_113 : tzero Go.Proofs.Tryd.prog 113 = some (Value.agg #[(Value.int .u64 0), (Value.int .u64 0), (Value.int .u32 0), (Value.int .u8 0), (Value.int .u8 0), (Value.int .u8 0), (Value.int .u8 0), Value.nilFunc, (Value.pointer none), (Value.int .i32 0), (Value.int .i32 0)]) := by kernel_rfl
@[simp] theorem ty_fi_113 : tfields Go.Proofs.Tryd.prog 113 = some [(0, 1), (1, 1), (2, 1), (3, 1), (4, 1), (5, 1), (6, 1), (7, 1), (8, 1), (9, 1), (10, 1)] := by kernel_rfl
@[simp] theorem ty_tok_114 : tok Go.Proofs.Tryd.prog 114 = true := by kernel_rfl
@[simp] theorem ty_sz_114 : tsize Go.Proofs.Tryd.prog 114 = 11 := by kernel_rfl
@[simp] theorem ty_by_114 : tbytes Go.Proofs.Tryd.prog 114 = 48 := by kernel_rfl
@[simp] theorem ty_ag_114 : tagg Go.Proofs.Tryd.prog 114 = true := by kernel_rfl
@[simp] theorem ty_ze_114 : tzero Go.Proofs.Tryd.prog 114 = some (Value.agg #[(Value.int .u64 0), (Value.int .u64 0), (Value.int .u32 0), (Value.int .u8 0), (Value.int .u8 0), (Value.int .u8 0), (Value.int .u8 0), Value.nilFunc, (Value.pointer none), (Value.int .i32 0), (Value.int .i32 0)]) := by kernel_rfl
@[simp] theorem ty_fi_114 : tfields Go.Proofs.Tryd.prog 114 = some [(0, 1), (1, 1), (2, 1), (3, 1), (4, 1), (5, 1), (6, 1), (7, 1), (8, 1), (9, 1), (10, 1)] := by kernel_rfl
@[simp] theorem ty_tok_115 : tok Go.Proofs.Tryd.prog 115 = true := by kernel_rfl
@[simp] theorem ty_sz_115 : tsize Go.Proofs.Tryd.prog 115 = 1 := by kernel_rfl
@[simp] theorem ty_by_115 : tbytes Go.Proofs.Tryd.prog 115 = 8 := by kernel_rfl
@[simp] theorem ty_ag_115 : tagg Go.Proofs.Tryd.prog 115 = false := by kernel_rfl
@[simp] theorem ty_ze_115 : tzero Go.Proofs.Tryd.prog 115 = some Value.nilFunc := by kernel_rfl
@[simp] theorem ty_tok_116 : tok Go.Proofs.Tryd.prog 116 = true := by kernel_rfl
@[simp] theorem ty_sz_116 : tsize Go.Proofs.Tryd.prog 116 = 1 := by kernel_rfl
@[simp] theorem ty_by_116 : tbytes Go.Proofs.Tryd.prog 116 = 8 := by kernel_rfl
@[simp] theorem ty_ag_116 : tagg Go.Proofs.Tryd.prog 116 = false := by kernel_rfl
@[simp] theorem ty_ze_116 : tzero Go.Proofs.Tryd.prog 116 = some Value.nilFunc := by kernel_rfl
@[simp] theorem ty_tok_117 : tok Go.Proofs.Tryd.prog 117 = true := by kernel_rfl
@[simp] theorem ty_sz_117 : tsize Go.Proofs.Tryd.prog 117 = 1 := by kernel_rfl
@[simp] theorem ty_by_117 : tbytes Go.Proofs.Tryd.prog 117 = 8 := by kernel_rfl
@[simp] theorem ty_ag_117 : tagg Go.Proofs.Tryd.prog 117 = false := by kernel_rfl
@[simp] theorem ty_ze_117 : tzero Go.Proofs.Tryd.prog 117 = some (Value.pointer none) := by kernel_rfl

end Go.AM
