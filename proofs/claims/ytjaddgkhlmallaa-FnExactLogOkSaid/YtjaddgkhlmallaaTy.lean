/- The types of the seat Ytjaddgkhlmallaa: sizes, fields, elements, zeros: closed facts, each by the kernel. Written by types.py. -/
import Derived.Test.YtjaddgkhlmallaaProg
import Derived.Test.YtjaddgkhlmallaaIm12
import Derived.KernelRfl
namespace Go.Proofs.Ytjaddgkhlmallaa.IM
open Go Go.Proofs

theorem tsz_2 : tsz Try.prog 2 = some 1 := by kernel_rfl
theorem tagg_2 : tagg Try.prog 2 = some false := by kernel_rfl
theorem tbytes_2 : tbytes Try.prog 2 = some 8 := by kernel_rfl
theorem tint_2 : tint Try.prog 2 = some .i64 := by kernel_rfl
theorem tund_2 : (Try.prog.underlying 2).isSome = true := by kernel_rfl
theorem zd_2 : zd Try.prog 2 = (D.lit (.int .i64 0)) := by kernel_rfl
theorem zok_2 : ZeroOk Try.prog 2 (D.lit (.int .i64 0)) := zeroOk_of (by kernel_rfl)
theorem tsz_3 : tsz Try.prog 3 = some 1 := by kernel_rfl
theorem tagg_3 : tagg Try.prog 3 = some false := by kernel_rfl
theorem tbytes_3 : tbytes Try.prog 3 = some 8 := by kernel_rfl
theorem tint_3 : tint Try.prog 3 = some .i64 := by kernel_rfl
theorem tund_3 : (Try.prog.underlying 3).isSome = true := by kernel_rfl
theorem zd_3 : zd Try.prog 3 = (D.lit (.int .i64 0)) := by kernel_rfl
theorem zok_3 : ZeroOk Try.prog 3 (D.lit (.int .i64 0)) := zeroOk_of (by kernel_rfl)
theorem tsz_4 : tsz Try.prog 4 = some 1 := by kernel_rfl
theorem tagg_4 : tagg Try.prog 4 = some false := by kernel_rfl
theorem tbytes_4 : tbytes Try.prog 4 = some 1 := by kernel_rfl
theorem tbool_4 : isBoolT Try.prog 4 = true := by kernel_rfl
theorem zd_4 : zd Try.prog 4 = (D.lit (.bool false)) := by kernel_rfl
theorem zok_4 : ZeroOk Try.prog 4 (D.lit (.bool false)) := zeroOk_of (by kernel_rfl)
theorem tsz_5 : tsz Try.prog 5 = some 1 := by kernel_rfl
theorem tagg_5 : tagg Try.prog 5 = some false := by kernel_rfl
theorem tbytes_5 : tbytes Try.prog 5 = some 1 := by kernel_rfl
theorem tint_5 : tint Try.prog 5 = some .u8 := by kernel_rfl
theorem tund_5 : (Try.prog.underlying 5).isSome = true := by kernel_rfl
theorem zd_5 : zd Try.prog 5 = (D.lit (.int .u8 0)) := by kernel_rfl
theorem zok_5 : ZeroOk Try.prog 5 (D.lit (.int .u8 0)) := zeroOk_of (by kernel_rfl)
theorem tsz_7 : tsz Try.prog 7 = some 4 := by kernel_rfl
theorem tagg_7 : tagg Try.prog 7 = some true := by kernel_rfl
theorem tbytes_7 : tbytes Try.prog 7 = some 24 := by kernel_rfl
theorem tfield_7_0 : tfield Try.prog 7 0 = some (0, 2) := by kernel_rfl
theorem tfield_7_1 : tfield Try.prog 7 1 = some (1, 3) := by kernel_rfl
theorem tfield_7_2 : tfield Try.prog 7 2 = some (2, 4) := by kernel_rfl
theorem tfield_7_3 : tfield Try.prog 7 3 = some (3, 6) := by kernel_rfl
theorem tplaces_7 : tplaces Try.prog 7 = some [(0, 1), (1, 1), (2, 1), (3, 1)] := by kernel_rfl
theorem zd_7 : zd Try.prog 7 = (D.node (.agg [1, 1, 1, 1]) (nthD [(D.lit (.int .i64 0)), (D.lit (.int .i64 0)), (D.lit (.bool false)), (D.lit (.int .u8 0))])) := by kernel_rfl
theorem zok_7 : ZeroOk Try.prog 7 (D.node (.agg [1, 1, 1, 1]) (nthD [(D.lit (.int .i64 0)), (D.lit (.int .i64 0)), (D.lit (.bool false)), (D.lit (.int .u8 0))])) := zeroOk_of (by kernel_rfl)
theorem tsz_9 : tsz Try.prog 9 = some 1 := by kernel_rfl
theorem tagg_9 : tagg Try.prog 9 = some false := by kernel_rfl
theorem tbytes_9 : tbytes Try.prog 9 = some 16 := by kernel_rfl
theorem tstr_9 : Try.prog.underlying 9 = some .string := by kernel_rfl
theorem zd_9 : zd Try.prog 9 = (D.lit (.string ⟨#[]⟩)) := by kernel_rfl
theorem zok_9 : ZeroOk Try.prog 9 (D.lit (.string ⟨#[]⟩)) := zeroOk_of (by kernel_rfl)
theorem tsz_12 : tsz Try.prog 12 = some 1 := by kernel_rfl
theorem tagg_12 : tagg Try.prog 12 = some false := by kernel_rfl
theorem tbytes_12 : tbytes Try.prog 12 = some 8 := by kernel_rfl
theorem tint_12 : tint Try.prog 12 = some .u64 := by kernel_rfl
theorem tund_12 : (Try.prog.underlying 12).isSome = true := by kernel_rfl
theorem zd_12 : zd Try.prog 12 = (D.lit (.int .u64 0)) := by kernel_rfl
theorem zok_12 : ZeroOk Try.prog 12 (D.lit (.int .u64 0)) := zeroOk_of (by kernel_rfl)
theorem tsz_13 : tsz Try.prog 13 = some 2 := by kernel_rfl
theorem tagg_13 : tagg Try.prog 13 = some true := by kernel_rfl
theorem tbytes_13 : tbytes Try.prog 13 = some 24 := by kernel_rfl
theorem tfield_13_0 : tfield Try.prog 13 0 = some (0, 9) := by kernel_rfl
theorem tfield_13_1 : tfield Try.prog 13 1 = some (1, 12) := by kernel_rfl
theorem tplaces_13 : tplaces Try.prog 13 = some [(0, 1), (1, 1)] := by kernel_rfl
theorem zd_13 : zd Try.prog 13 = (D.node (.agg [1, 1]) (nthD [(D.lit (.string ⟨#[]⟩)), (D.lit (.int .u64 0))])) := by kernel_rfl
theorem zok_13 : ZeroOk Try.prog 13 (D.node (.agg [1, 1]) (nthD [(D.lit (.string ⟨#[]⟩)), (D.lit (.int .u64 0))])) := zeroOk_of (by kernel_rfl)
theorem tsz_15 : tsz Try.prog 15 = some 1 := by kernel_rfl
theorem tagg_15 : tagg Try.prog 15 = some false := by kernel_rfl
theorem tbytes_15 : tbytes Try.prog 15 = some 8 := by kernel_rfl
theorem tsz_16 : tsz Try.prog 16 = some 1 := by kernel_rfl
theorem tagg_16 : tagg Try.prog 16 = some false := by kernel_rfl
theorem tbytes_16 : tbytes Try.prog 16 = some 8 := by kernel_rfl
theorem tsz_17 : tsz Try.prog 17 = some 1 := by kernel_rfl
theorem tagg_17 : tagg Try.prog 17 = some false := by kernel_rfl
theorem tbytes_17 : tbytes Try.prog 17 = some 8 := by kernel_rfl
theorem tsz_18 : tsz Try.prog 18 = some 1 := by kernel_rfl
theorem tagg_18 : tagg Try.prog 18 = some true := by kernel_rfl
theorem tbytes_18 : tbytes Try.prog 18 = some 8 := by kernel_rfl
theorem tfield_18_0 : tfield Try.prog 18 0 = some (0, 17) := by kernel_rfl
theorem tplaces_18 : tplaces Try.prog 18 = some [(0, 1)] := by kernel_rfl
theorem tsz_21 : tsz Try.prog 21 = some 1 := by kernel_rfl
theorem tagg_21 : tagg Try.prog 21 = some false := by kernel_rfl
theorem tbytes_21 : tbytes Try.prog 21 = some 4 := by kernel_rfl
theorem tint_21 : tint Try.prog 21 = some .i32 := by kernel_rfl
theorem tund_21 : (Try.prog.underlying 21).isSome = true := by kernel_rfl
theorem zd_21 : zd Try.prog 21 = (D.lit (.int .i32 0)) := by kernel_rfl
theorem zok_21 : ZeroOk Try.prog 21 (D.lit (.int .i32 0)) := zeroOk_of (by kernel_rfl)
theorem tsz_22 : tsz Try.prog 22 = some 1 := by kernel_rfl
theorem tagg_22 : tagg Try.prog 22 = some false := by kernel_rfl
theorem tbytes_22 : tbytes Try.prog 22 = some 24 := by kernel_rfl
theorem telem_22 : telem Try.prog 22 = some 3 := by kernel_rfl
theorem zd_22 : zd Try.prog 22 = D.nil := by kernel_rfl
theorem zok_22 : ZeroOk Try.prog 22 D.nil := zeroOk_of (by kernel_rfl)
theorem tsz_23 : tsz Try.prog 23 = some 3 := by kernel_rfl
theorem tagg_23 : tagg Try.prog 23 = some true := by kernel_rfl
theorem tbytes_23 : tbytes Try.prog 23 = some 56 := by kernel_rfl
theorem tfield_23_0 : tfield Try.prog 23 0 = some (0, 3) := by kernel_rfl
theorem tfield_23_1 : tfield Try.prog 23 1 = some (1, 22) := by kernel_rfl
theorem tfield_23_2 : tfield Try.prog 23 2 = some (2, 22) := by kernel_rfl
theorem tplaces_23 : tplaces Try.prog 23 = some [(0, 1), (1, 1), (2, 1)] := by kernel_rfl
theorem zd_23 : zd Try.prog 23 = (D.node (.agg [1, 1, 1]) (nthD [(D.lit (.int .i64 0)), D.nil, D.nil])) := by kernel_rfl
theorem zok_23 : ZeroOk Try.prog 23 (D.node (.agg [1, 1, 1]) (nthD [(D.lit (.int .i64 0)), D.nil, D.nil])) := zeroOk_of (by kernel_rfl)
theorem tsz_24 : tsz Try.prog 24 = some 3 := by kernel_rfl
theorem tagg_24 : tagg Try.prog 24 = some true := by kernel_rfl
theorem tbytes_24 : tbytes Try.prog 24 = some 56 := by kernel_rfl
theorem tfield_24_0 : tfield Try.prog 24 0 = some (0, 3) := by kernel_rfl
theorem tfield_24_1 : tfield Try.prog 24 1 = some (1, 22) := by kernel_rfl
theorem tfield_24_2 : tfield Try.prog 24 2 = some (2, 22) := by kernel_rfl
theorem tplaces_24 : tplaces Try.prog 24 = some [(0, 1), (1, 1), (2, 1)] := by kernel_rfl
theorem zd_24 : zd Try.prog 24 = (D.node (.agg [1, 1, 1]) (nthD [(D.lit (.int .i64 0)), D.nil, D.nil])) := by kernel_rfl
theorem zok_24 : ZeroOk Try.prog 24 (D.node (.agg [1, 1, 1]) (nthD [(D.lit (.int .i64 0)), D.nil, D.nil])) := zeroOk_of (by kernel_rfl)
theorem tsz_25 : tsz Try.prog 25 = some 4 := by kernel_rfl
theorem tagg_25 : tagg Try.prog 25 = some true := by kernel_rfl
theorem tbytes_25 : tbytes Try.prog 25 = some 64 := by kernel_rfl
theorem tfield_25_0 : tfield Try.prog 25 0 = some (0, 4) := by kernel_rfl
theorem tfield_25_1 : tfield Try.prog 25 1 = some (1, 24) := by kernel_rfl
theorem tplaces_25 : tplaces Try.prog 25 = some [(0, 1), (1, 3)] := by kernel_rfl
theorem zd_25 : zd Try.prog 25 = (D.node (.agg [1, 3]) (nthD [(D.lit (.bool false)), (D.node (.agg [1, 1, 1]) (nthD [(D.lit (.int .i64 0)), D.nil, D.nil]))])) := by kernel_rfl
theorem zok_25 : ZeroOk Try.prog 25 (D.node (.agg [1, 3]) (nthD [(D.lit (.bool false)), (D.node (.agg [1, 1, 1]) (nthD [(D.lit (.int .i64 0)), D.nil, D.nil]))])) := zeroOk_of (by kernel_rfl)
theorem tsz_26 : tsz Try.prog 26 = some 4 := by kernel_rfl
theorem tagg_26 : tagg Try.prog 26 = some true := by kernel_rfl
theorem tbytes_26 : tbytes Try.prog 26 = some 64 := by kernel_rfl
theorem tfield_26_0 : tfield Try.prog 26 0 = some (0, 4) := by kernel_rfl
theorem tfield_26_1 : tfield Try.prog 26 1 = some (1, 24) := by kernel_rfl
theorem tplaces_26 : tplaces Try.prog 26 = some [(0, 1), (1, 3)] := by kernel_rfl
theorem zd_26 : zd Try.prog 26 = (D.node (.agg [1, 3]) (nthD [(D.lit (.bool false)), (D.node (.agg [1, 1, 1]) (nthD [(D.lit (.int .i64 0)), D.nil, D.nil]))])) := by kernel_rfl
theorem zok_26 : ZeroOk Try.prog 26 (D.node (.agg [1, 3]) (nthD [(D.lit (.bool false)), (D.node (.agg [1, 1, 1]) (nthD [(D.lit (.int .i64 0)), D.nil, D.nil]))])) := zeroOk_of (by kernel_rfl)
theorem tsz_27 : tsz Try.prog 27 = some 16 := by kernel_rfl
theorem tagg_27 : tagg Try.prog 27 = some true := by kernel_rfl
theorem tbytes_27 : tbytes Try.prog 27 = some 256 := by kernel_rfl
theorem tarr_27 : tarr Try.prog 27 = some (4, 26) := by kernel_rfl
theorem zd_27 : zd Try.prog 27 = (D.node (.arr 4 4) fun _ => (D.node (.agg [1, 3]) (nthD [(D.lit (.bool false)), (D.node (.agg [1, 1, 1]) (nthD [(D.lit (.int .i64 0)), D.nil, D.nil]))]))) := by kernel_rfl
theorem zok_27 : ZeroOk Try.prog 27 (D.node (.arr 4 4) fun _ => (D.node (.agg [1, 3]) (nthD [(D.lit (.bool false)), (D.node (.agg [1, 1, 1]) (nthD [(D.lit (.int .i64 0)), D.nil, D.nil]))]))) := zeroOk_of (by kernel_rfl)
theorem tsz_28 : tsz Try.prog 28 = some 17 := by kernel_rfl
theorem tagg_28 : tagg Try.prog 28 = some true := by kernel_rfl
theorem tbytes_28 : tbytes Try.prog 28 = some 264 := by kernel_rfl
theorem tfield_28_0 : tfield Try.prog 28 0 = some (0, 3) := by kernel_rfl
theorem tfield_28_1 : tfield Try.prog 28 1 = some (1, 27) := by kernel_rfl
theorem tplaces_28 : tplaces Try.prog 28 = some [(0, 1), (1, 16)] := by kernel_rfl
theorem zd_28 : zd Try.prog 28 = (D.node (.agg [1, 16]) (nthD [(D.lit (.int .i64 0)), (D.node (.arr 4 4) fun _ => (D.node (.agg [1, 3]) (nthD [(D.lit (.bool false)), (D.node (.agg [1, 1, 1]) (nthD [(D.lit (.int .i64 0)), D.nil, D.nil]))])))])) := by kernel_rfl
theorem zok_28 : ZeroOk Try.prog 28 (D.node (.agg [1, 16]) (nthD [(D.lit (.int .i64 0)), (D.node (.arr 4 4) fun _ => (D.node (.agg [1, 3]) (nthD [(D.lit (.bool false)), (D.node (.agg [1, 1, 1]) (nthD [(D.lit (.int .i64 0)), D.nil, D.nil]))])))])) := zeroOk_of (by kernel_rfl)
theorem tsz_29 : tsz Try.prog 29 = some 17 := by kernel_rfl
theorem tagg_29 : tagg Try.prog 29 = some true := by kernel_rfl
theorem tbytes_29 : tbytes Try.prog 29 = some 264 := by kernel_rfl
theorem tfield_29_0 : tfield Try.prog 29 0 = some (0, 3) := by kernel_rfl
theorem tfield_29_1 : tfield Try.prog 29 1 = some (1, 27) := by kernel_rfl
theorem tplaces_29 : tplaces Try.prog 29 = some [(0, 1), (1, 16)] := by kernel_rfl
theorem zd_29 : zd Try.prog 29 = (D.node (.agg [1, 16]) (nthD [(D.lit (.int .i64 0)), (D.node (.arr 4 4) fun _ => (D.node (.agg [1, 3]) (nthD [(D.lit (.bool false)), (D.node (.agg [1, 1, 1]) (nthD [(D.lit (.int .i64 0)), D.nil, D.nil]))])))])) := by kernel_rfl
theorem zok_29 : ZeroOk Try.prog 29 (D.node (.agg [1, 16]) (nthD [(D.lit (.int .i64 0)), (D.node (.arr 4 4) fun _ => (D.node (.agg [1, 3]) (nthD [(D.lit (.bool false)), (D.node (.agg [1, 1, 1]) (nthD [(D.lit (.int .i64 0)), D.nil, D.nil]))])))])) := zeroOk_of (by kernel_rfl)
theorem tsz_32 : tsz Try.prog 32 = some 3 := by kernel_rfl
theorem tagg_32 : tagg Try.prog 32 = some true := by kernel_rfl
theorem tbytes_32 : tbytes Try.prog 32 = some 56 := by kernel_rfl
theorem tfield_32_0 : tfield Try.prog 32 0 = some (0, 3) := by kernel_rfl
theorem tfield_32_1 : tfield Try.prog 32 1 = some (1, 22) := by kernel_rfl
theorem tfield_32_2 : tfield Try.prog 32 2 = some (2, 22) := by kernel_rfl
theorem tplaces_32 : tplaces Try.prog 32 = some [(0, 1), (1, 1), (2, 1)] := by kernel_rfl
theorem zd_32 : zd Try.prog 32 = (D.node (.agg [1, 1, 1]) (nthD [(D.lit (.int .i64 0)), D.nil, D.nil])) := by kernel_rfl
theorem zok_32 : ZeroOk Try.prog 32 (D.node (.agg [1, 1, 1]) (nthD [(D.lit (.int .i64 0)), D.nil, D.nil])) := zeroOk_of (by kernel_rfl)
theorem tsz_33 : tsz Try.prog 33 = some 4 := by kernel_rfl
theorem tagg_33 : tagg Try.prog 33 = some true := by kernel_rfl
theorem tbytes_33 : tbytes Try.prog 33 = some 64 := by kernel_rfl
theorem tfield_33_0 : tfield Try.prog 33 0 = some (0, 4) := by kernel_rfl
theorem tfield_33_1 : tfield Try.prog 33 1 = some (1, 32) := by kernel_rfl
theorem tplaces_33 : tplaces Try.prog 33 = some [(0, 1), (1, 3)] := by kernel_rfl
theorem zd_33 : zd Try.prog 33 = (D.node (.agg [1, 3]) (nthD [(D.lit (.bool false)), (D.node (.agg [1, 1, 1]) (nthD [(D.lit (.int .i64 0)), D.nil, D.nil]))])) := by kernel_rfl
theorem zok_33 : ZeroOk Try.prog 33 (D.node (.agg [1, 3]) (nthD [(D.lit (.bool false)), (D.node (.agg [1, 1, 1]) (nthD [(D.lit (.int .i64 0)), D.nil, D.nil]))])) := zeroOk_of (by kernel_rfl)
theorem tsz_34 : tsz Try.prog 34 = some 4 := by kernel_rfl
theorem tagg_34 : tagg Try.prog 34 = some true := by kernel_rfl
theorem tbytes_34 : tbytes Try.prog 34 = some 64 := by kernel_rfl
theorem tfield_34_0 : tfield Try.prog 34 0 = some (0, 4) := by kernel_rfl
theorem tfield_34_1 : tfield Try.prog 34 1 = some (1, 32) := by kernel_rfl
theorem tplaces_34 : tplaces Try.prog 34 = some [(0, 1), (1, 3)] := by kernel_rfl
theorem zd_34 : zd Try.prog 34 = (D.node (.agg [1, 3]) (nthD [(D.lit (.bool false)), (D.node (.agg [1, 1, 1]) (nthD [(D.lit (.int .i64 0)), D.nil, D.nil]))])) := by kernel_rfl
theorem zok_34 : ZeroOk Try.prog 34 (D.node (.agg [1, 3]) (nthD [(D.lit (.bool false)), (D.node (.agg [1, 1, 1]) (nthD [(D.lit (.int .i64 0)), D.nil, D.nil]))])) := zeroOk_of (by kernel_rfl)
theorem tsz_35 : tsz Try.prog 35 = some 16 := by kernel_rfl
theorem tagg_35 : tagg Try.prog 35 = some true := by kernel_rfl
theorem tbytes_35 : tbytes Try.prog 35 = some 256 := by kernel_rfl
theorem tarr_35 : tarr Try.prog 35 = some (4, 34) := by kernel_rfl
theorem zd_35 : zd Try.prog 35 = (D.node (.arr 4 4) fun _ => (D.node (.agg [1, 3]) (nthD [(D.lit (.bool false)), (D.node (.agg [1, 1, 1]) (nthD [(D.lit (.int .i64 0)), D.nil, D.nil]))]))) := by kernel_rfl
theorem zok_35 : ZeroOk Try.prog 35 (D.node (.arr 4 4) fun _ => (D.node (.agg [1, 3]) (nthD [(D.lit (.bool false)), (D.node (.agg [1, 1, 1]) (nthD [(D.lit (.int .i64 0)), D.nil, D.nil]))]))) := zeroOk_of (by kernel_rfl)
theorem tsz_36 : tsz Try.prog 36 = some 17 := by kernel_rfl
theorem tagg_36 : tagg Try.prog 36 = some true := by kernel_rfl
theorem tbytes_36 : tbytes Try.prog 36 = some 264 := by kernel_rfl
theorem tfield_36_0 : tfield Try.prog 36 0 = some (0, 3) := by kernel_rfl
theorem tfield_36_1 : tfield Try.prog 36 1 = some (1, 35) := by kernel_rfl
theorem tplaces_36 : tplaces Try.prog 36 = some [(0, 1), (1, 16)] := by kernel_rfl
theorem zd_36 : zd Try.prog 36 = (D.node (.agg [1, 16]) (nthD [(D.lit (.int .i64 0)), (D.node (.arr 4 4) fun _ => (D.node (.agg [1, 3]) (nthD [(D.lit (.bool false)), (D.node (.agg [1, 1, 1]) (nthD [(D.lit (.int .i64 0)), D.nil, D.nil]))])))])) := by kernel_rfl
theorem zok_36 : ZeroOk Try.prog 36 (D.node (.agg [1, 16]) (nthD [(D.lit (.int .i64 0)), (D.node (.arr 4 4) fun _ => (D.node (.agg [1, 3]) (nthD [(D.lit (.bool false)), (D.node (.agg [1, 1, 1]) (nthD [(D.lit (.int .i64 0)), D.nil, D.nil]))])))])) := zeroOk_of (by kernel_rfl)
theorem tsz_37 : tsz Try.prog 37 = some 17 := by kernel_rfl
theorem tagg_37 : tagg Try.prog 37 = some true := by kernel_rfl
theorem tbytes_37 : tbytes Try.prog 37 = some 264 := by kernel_rfl
theorem tfield_37_0 : tfield Try.prog 37 0 = some (0, 3) := by kernel_rfl
theorem tfield_37_1 : tfield Try.prog 37 1 = some (1, 35) := by kernel_rfl
theorem tplaces_37 : tplaces Try.prog 37 = some [(0, 1), (1, 16)] := by kernel_rfl
theorem zd_37 : zd Try.prog 37 = (D.node (.agg [1, 16]) (nthD [(D.lit (.int .i64 0)), (D.node (.arr 4 4) fun _ => (D.node (.agg [1, 3]) (nthD [(D.lit (.bool false)), (D.node (.agg [1, 1, 1]) (nthD [(D.lit (.int .i64 0)), D.nil, D.nil]))])))])) := by kernel_rfl
theorem zok_37 : ZeroOk Try.prog 37 (D.node (.agg [1, 16]) (nthD [(D.lit (.int .i64 0)), (D.node (.arr 4 4) fun _ => (D.node (.agg [1, 3]) (nthD [(D.lit (.bool false)), (D.node (.agg [1, 1, 1]) (nthD [(D.lit (.int .i64 0)), D.nil, D.nil]))])))])) := zeroOk_of (by kernel_rfl)
theorem tsz_43 : tsz Try.prog 43 = some 1 := by kernel_rfl
theorem tagg_43 : tagg Try.prog 43 = some false := by kernel_rfl
theorem tbytes_43 : tbytes Try.prog 43 = some 24 := by kernel_rfl
theorem telem_43 : telem Try.prog 43 = some 5 := by kernel_rfl
theorem zd_43 : zd Try.prog 43 = D.nil := by kernel_rfl
theorem zok_43 : ZeroOk Try.prog 43 D.nil := zeroOk_of (by kernel_rfl)
theorem tsz_51 : tsz Try.prog 51 = some 1 := by kernel_rfl
theorem tagg_51 : tagg Try.prog 51 = some false := by kernel_rfl
theorem tbytes_51 : tbytes Try.prog 51 = some 24 := by kernel_rfl
theorem telem_51 : telem Try.prog 51 = some 220 := by kernel_rfl
theorem zd_51 : zd Try.prog 51 = D.nil := by kernel_rfl
theorem zok_51 : ZeroOk Try.prog 51 D.nil := zeroOk_of (by kernel_rfl)
theorem tsz_52 : tsz Try.prog 52 = some 2 := by kernel_rfl
theorem tagg_52 : tagg Try.prog 52 = some true := by kernel_rfl
theorem tbytes_52 : tbytes Try.prog 52 = some 32 := by kernel_rfl
theorem tfield_52_0 : tfield Try.prog 52 0 = some (0, 51) := by kernel_rfl
theorem tfield_52_1 : tfield Try.prog 52 1 = some (1, 3) := by kernel_rfl
theorem tplaces_52 : tplaces Try.prog 52 = some [(0, 1), (1, 1)] := by kernel_rfl
theorem zd_52 : zd Try.prog 52 = (D.node (.agg [1, 1]) (nthD [D.nil, (D.lit (.int .i64 0))])) := by kernel_rfl
theorem zok_52 : ZeroOk Try.prog 52 (D.node (.agg [1, 1]) (nthD [D.nil, (D.lit (.int .i64 0))])) := zeroOk_of (by kernel_rfl)
theorem tsz_53 : tsz Try.prog 53 = some 2 := by kernel_rfl
theorem tagg_53 : tagg Try.prog 53 = some true := by kernel_rfl
theorem tbytes_53 : tbytes Try.prog 53 = some 32 := by kernel_rfl
theorem tfield_53_0 : tfield Try.prog 53 0 = some (0, 51) := by kernel_rfl
theorem tfield_53_1 : tfield Try.prog 53 1 = some (1, 3) := by kernel_rfl
theorem tplaces_53 : tplaces Try.prog 53 = some [(0, 1), (1, 1)] := by kernel_rfl
theorem zd_53 : zd Try.prog 53 = (D.node (.agg [1, 1]) (nthD [D.nil, (D.lit (.int .i64 0))])) := by kernel_rfl
theorem zok_53 : ZeroOk Try.prog 53 (D.node (.agg [1, 1]) (nthD [D.nil, (D.lit (.int .i64 0))])) := zeroOk_of (by kernel_rfl)
theorem tsz_56 : tsz Try.prog 56 = some 1 := by kernel_rfl
theorem tagg_56 : tagg Try.prog 56 = some false := by kernel_rfl
theorem tbytes_56 : tbytes Try.prog 56 = some 24 := by kernel_rfl
theorem telem_56 : telem Try.prog 56 = some 90 := by kernel_rfl
theorem zd_56 : zd Try.prog 56 = D.nil := by kernel_rfl
theorem zok_56 : ZeroOk Try.prog 56 D.nil := zeroOk_of (by kernel_rfl)
theorem tsz_57 : tsz Try.prog 57 = some 2 := by kernel_rfl
theorem tagg_57 : tagg Try.prog 57 = some true := by kernel_rfl
theorem tbytes_57 : tbytes Try.prog 57 = some 32 := by kernel_rfl
theorem tfield_57_0 : tfield Try.prog 57 0 = some (0, 56) := by kernel_rfl
theorem tfield_57_1 : tfield Try.prog 57 1 = some (1, 3) := by kernel_rfl
theorem tplaces_57 : tplaces Try.prog 57 = some [(0, 1), (1, 1)] := by kernel_rfl
theorem zd_57 : zd Try.prog 57 = (D.node (.agg [1, 1]) (nthD [D.nil, (D.lit (.int .i64 0))])) := by kernel_rfl
theorem zok_57 : ZeroOk Try.prog 57 (D.node (.agg [1, 1]) (nthD [D.nil, (D.lit (.int .i64 0))])) := zeroOk_of (by kernel_rfl)
theorem tsz_58 : tsz Try.prog 58 = some 2 := by kernel_rfl
theorem tagg_58 : tagg Try.prog 58 = some true := by kernel_rfl
theorem tbytes_58 : tbytes Try.prog 58 = some 32 := by kernel_rfl
theorem tfield_58_0 : tfield Try.prog 58 0 = some (0, 56) := by kernel_rfl
theorem tfield_58_1 : tfield Try.prog 58 1 = some (1, 3) := by kernel_rfl
theorem tplaces_58 : tplaces Try.prog 58 = some [(0, 1), (1, 1)] := by kernel_rfl
theorem zd_58 : zd Try.prog 58 = (D.node (.agg [1, 1]) (nthD [D.nil, (D.lit (.int .i64 0))])) := by kernel_rfl
theorem zok_58 : ZeroOk Try.prog 58 (D.node (.agg [1, 1]) (nthD [D.nil, (D.lit (.int .i64 0))])) := zeroOk_of (by kernel_rfl)
theorem tsz_72 : tsz Try.prog 72 = some 1 := by kernel_rfl
theorem tagg_72 : tagg Try.prog 72 = some false := by kernel_rfl
theorem tbytes_72 : tbytes Try.prog 72 = some 24 := by kernel_rfl
theorem telem_72 : telem Try.prog 72 = some 224 := by kernel_rfl
theorem zd_72 : zd Try.prog 72 = D.nil := by kernel_rfl
theorem zok_72 : ZeroOk Try.prog 72 D.nil := zeroOk_of (by kernel_rfl)
theorem tsz_73 : tsz Try.prog 73 = some 15 := by kernel_rfl
theorem tagg_73 : tagg Try.prog 73 = some true := by kernel_rfl
theorem tbytes_73 : tbytes Try.prog 73 = some 200 := by kernel_rfl
theorem tfield_73_0 : tfield Try.prog 73 0 = some (0, 3) := by kernel_rfl
theorem tfield_73_1 : tfield Try.prog 73 1 = some (1, 3) := by kernel_rfl
theorem tfield_73_2 : tfield Try.prog 73 2 = some (2, 3) := by kernel_rfl
theorem tfield_73_3 : tfield Try.prog 73 3 = some (3, 3) := by kernel_rfl
theorem tfield_73_4 : tfield Try.prog 73 4 = some (4, 3) := by kernel_rfl
theorem tfield_73_5 : tfield Try.prog 73 5 = some (5, 26) := by kernel_rfl
theorem tfield_73_6 : tfield Try.prog 73 6 = some (9, 26) := by kernel_rfl
theorem tfield_73_7 : tfield Try.prog 73 7 = some (13, 3) := by kernel_rfl
theorem tfield_73_8 : tfield Try.prog 73 8 = some (14, 72) := by kernel_rfl
theorem tplaces_73 : tplaces Try.prog 73 = some [(0, 1), (1, 1), (2, 1), (3, 1), (4, 1), (5, 4), (9, 4), (13, 1), (14, 1)] := by kernel_rfl
theorem zd_73 : zd Try.prog 73 = (D.node (.agg [1, 1, 1, 1, 1, 4, 4, 1, 1]) (nthD [(D.lit (.int .i64 0)), (D.lit (.int .i64 0)), (D.lit (.int .i64 0)), (D.lit (.int .i64 0)), (D.lit (.int .i64 0)), (D.node (.agg [1, 3]) (nthD [(D.lit (.bool false)), (D.node (.agg [1, 1, 1]) (nthD [(D.lit (.int .i64 0)), D.nil, D.nil]))])), (D.node (.agg [1, 3]) (nthD [(D.lit (.bool false)), (D.node (.agg [1, 1, 1]) (nthD [(D.lit (.int .i64 0)), D.nil, D.nil]))])), (D.lit (.int .i64 0)), D.nil])) := by kernel_rfl
theorem zok_73 : ZeroOk Try.prog 73 (D.node (.agg [1, 1, 1, 1, 1, 4, 4, 1, 1]) (nthD [(D.lit (.int .i64 0)), (D.lit (.int .i64 0)), (D.lit (.int .i64 0)), (D.lit (.int .i64 0)), (D.lit (.int .i64 0)), (D.node (.agg [1, 3]) (nthD [(D.lit (.bool false)), (D.node (.agg [1, 1, 1]) (nthD [(D.lit (.int .i64 0)), D.nil, D.nil]))])), (D.node (.agg [1, 3]) (nthD [(D.lit (.bool false)), (D.node (.agg [1, 1, 1]) (nthD [(D.lit (.int .i64 0)), D.nil, D.nil]))])), (D.lit (.int .i64 0)), D.nil])) := zeroOk_of (by kernel_rfl)
theorem tsz_74 : tsz Try.prog 74 = some 15 := by kernel_rfl
theorem tagg_74 : tagg Try.prog 74 = some true := by kernel_rfl
theorem tbytes_74 : tbytes Try.prog 74 = some 200 := by kernel_rfl
theorem tfield_74_0 : tfield Try.prog 74 0 = some (0, 3) := by kernel_rfl
theorem tfield_74_1 : tfield Try.prog 74 1 = some (1, 3) := by kernel_rfl
theorem tfield_74_2 : tfield Try.prog 74 2 = some (2, 3) := by kernel_rfl
theorem tfield_74_3 : tfield Try.prog 74 3 = some (3, 3) := by kernel_rfl
theorem tfield_74_4 : tfield Try.prog 74 4 = some (4, 3) := by kernel_rfl
theorem tfield_74_5 : tfield Try.prog 74 5 = some (5, 26) := by kernel_rfl
theorem tfield_74_6 : tfield Try.prog 74 6 = some (9, 26) := by kernel_rfl
theorem tfield_74_7 : tfield Try.prog 74 7 = some (13, 3) := by kernel_rfl
theorem tfield_74_8 : tfield Try.prog 74 8 = some (14, 72) := by kernel_rfl
theorem tplaces_74 : tplaces Try.prog 74 = some [(0, 1), (1, 1), (2, 1), (3, 1), (4, 1), (5, 4), (9, 4), (13, 1), (14, 1)] := by kernel_rfl
theorem zd_74 : zd Try.prog 74 = (D.node (.agg [1, 1, 1, 1, 1, 4, 4, 1, 1]) (nthD [(D.lit (.int .i64 0)), (D.lit (.int .i64 0)), (D.lit (.int .i64 0)), (D.lit (.int .i64 0)), (D.lit (.int .i64 0)), (D.node (.agg [1, 3]) (nthD [(D.lit (.bool false)), (D.node (.agg [1, 1, 1]) (nthD [(D.lit (.int .i64 0)), D.nil, D.nil]))])), (D.node (.agg [1, 3]) (nthD [(D.lit (.bool false)), (D.node (.agg [1, 1, 1]) (nthD [(D.lit (.int .i64 0)), D.nil, D.nil]))])), (D.lit (.int .i64 0)), D.nil])) := by kernel_rfl
theorem zok_74 : ZeroOk Try.prog 74 (D.node (.agg [1, 1, 1, 1, 1, 4, 4, 1, 1]) (nthD [(D.lit (.int .i64 0)), (D.lit (.int .i64 0)), (D.lit (.int .i64 0)), (D.lit (.int .i64 0)), (D.lit (.int .i64 0)), (D.node (.agg [1, 3]) (nthD [(D.lit (.bool false)), (D.node (.agg [1, 1, 1]) (nthD [(D.lit (.int .i64 0)), D.nil, D.nil]))])), (D.node (.agg [1, 3]) (nthD [(D.lit (.bool false)), (D.node (.agg [1, 1, 1]) (nthD [(D.lit (.int .i64 0)), D.nil, D.nil]))])), (D.lit (.int .i64 0)), D.nil])) := zeroOk_of (by kernel_rfl)
theorem tsz_77 : tsz Try.prog 77 = some 1 := by kernel_rfl
theorem tagg_77 : tagg Try.prog 77 = some false := by kernel_rfl
theorem tbytes_77 : tbytes Try.prog 77 = some 24 := by kernel_rfl
theorem telem_77 : telem Try.prog 77 = some 146 := by kernel_rfl
theorem zd_77 : zd Try.prog 77 = D.nil := by kernel_rfl
theorem zok_77 : ZeroOk Try.prog 77 D.nil := zeroOk_of (by kernel_rfl)
theorem tsz_78 : tsz Try.prog 78 = some 15 := by kernel_rfl
theorem tagg_78 : tagg Try.prog 78 = some true := by kernel_rfl
theorem tbytes_78 : tbytes Try.prog 78 = some 200 := by kernel_rfl
theorem tfield_78_0 : tfield Try.prog 78 0 = some (0, 3) := by kernel_rfl
theorem tfield_78_1 : tfield Try.prog 78 1 = some (1, 3) := by kernel_rfl
theorem tfield_78_2 : tfield Try.prog 78 2 = some (2, 3) := by kernel_rfl
theorem tfield_78_3 : tfield Try.prog 78 3 = some (3, 3) := by kernel_rfl
theorem tfield_78_4 : tfield Try.prog 78 4 = some (4, 3) := by kernel_rfl
theorem tfield_78_5 : tfield Try.prog 78 5 = some (5, 34) := by kernel_rfl
theorem tfield_78_6 : tfield Try.prog 78 6 = some (9, 34) := by kernel_rfl
theorem tfield_78_7 : tfield Try.prog 78 7 = some (13, 3) := by kernel_rfl
theorem tfield_78_8 : tfield Try.prog 78 8 = some (14, 77) := by kernel_rfl
theorem tplaces_78 : tplaces Try.prog 78 = some [(0, 1), (1, 1), (2, 1), (3, 1), (4, 1), (5, 4), (9, 4), (13, 1), (14, 1)] := by kernel_rfl
theorem zd_78 : zd Try.prog 78 = (D.node (.agg [1, 1, 1, 1, 1, 4, 4, 1, 1]) (nthD [(D.lit (.int .i64 0)), (D.lit (.int .i64 0)), (D.lit (.int .i64 0)), (D.lit (.int .i64 0)), (D.lit (.int .i64 0)), (D.node (.agg [1, 3]) (nthD [(D.lit (.bool false)), (D.node (.agg [1, 1, 1]) (nthD [(D.lit (.int .i64 0)), D.nil, D.nil]))])), (D.node (.agg [1, 3]) (nthD [(D.lit (.bool false)), (D.node (.agg [1, 1, 1]) (nthD [(D.lit (.int .i64 0)), D.nil, D.nil]))])), (D.lit (.int .i64 0)), D.nil])) := by kernel_rfl
theorem zok_78 : ZeroOk Try.prog 78 (D.node (.agg [1, 1, 1, 1, 1, 4, 4, 1, 1]) (nthD [(D.lit (.int .i64 0)), (D.lit (.int .i64 0)), (D.lit (.int .i64 0)), (D.lit (.int .i64 0)), (D.lit (.int .i64 0)), (D.node (.agg [1, 3]) (nthD [(D.lit (.bool false)), (D.node (.agg [1, 1, 1]) (nthD [(D.lit (.int .i64 0)), D.nil, D.nil]))])), (D.node (.agg [1, 3]) (nthD [(D.lit (.bool false)), (D.node (.agg [1, 1, 1]) (nthD [(D.lit (.int .i64 0)), D.nil, D.nil]))])), (D.lit (.int .i64 0)), D.nil])) := zeroOk_of (by kernel_rfl)
theorem tsz_79 : tsz Try.prog 79 = some 15 := by kernel_rfl
theorem tagg_79 : tagg Try.prog 79 = some true := by kernel_rfl
theorem tbytes_79 : tbytes Try.prog 79 = some 200 := by kernel_rfl
theorem tfield_79_0 : tfield Try.prog 79 0 = some (0, 3) := by kernel_rfl
theorem tfield_79_1 : tfield Try.prog 79 1 = some (1, 3) := by kernel_rfl
theorem tfield_79_2 : tfield Try.prog 79 2 = some (2, 3) := by kernel_rfl
theorem tfield_79_3 : tfield Try.prog 79 3 = some (3, 3) := by kernel_rfl
theorem tfield_79_4 : tfield Try.prog 79 4 = some (4, 3) := by kernel_rfl
theorem tfield_79_5 : tfield Try.prog 79 5 = some (5, 34) := by kernel_rfl
theorem tfield_79_6 : tfield Try.prog 79 6 = some (9, 34) := by kernel_rfl
theorem tfield_79_7 : tfield Try.prog 79 7 = some (13, 3) := by kernel_rfl
theorem tfield_79_8 : tfield Try.prog 79 8 = some (14, 77) := by kernel_rfl
theorem tplaces_79 : tplaces Try.prog 79 = some [(0, 1), (1, 1), (2, 1), (3, 1), (4, 1), (5, 4), (9, 4), (13, 1), (14, 1)] := by kernel_rfl
theorem zd_79 : zd Try.prog 79 = (D.node (.agg [1, 1, 1, 1, 1, 4, 4, 1, 1]) (nthD [(D.lit (.int .i64 0)), (D.lit (.int .i64 0)), (D.lit (.int .i64 0)), (D.lit (.int .i64 0)), (D.lit (.int .i64 0)), (D.node (.agg [1, 3]) (nthD [(D.lit (.bool false)), (D.node (.agg [1, 1, 1]) (nthD [(D.lit (.int .i64 0)), D.nil, D.nil]))])), (D.node (.agg [1, 3]) (nthD [(D.lit (.bool false)), (D.node (.agg [1, 1, 1]) (nthD [(D.lit (.int .i64 0)), D.nil, D.nil]))])), (D.lit (.int .i64 0)), D.nil])) := by kernel_rfl
theorem zok_79 : ZeroOk Try.prog 79 (D.node (.agg [1, 1, 1, 1, 1, 4, 4, 1, 1]) (nthD [(D.lit (.int .i64 0)), (D.lit (.int .i64 0)), (D.lit (.int .i64 0)), (D.lit (.int .i64 0)), (D.lit (.int .i64 0)), (D.node (.agg [1, 3]) (nthD [(D.lit (.bool false)), (D.node (.agg [1, 1, 1]) (nthD [(D.lit (.int .i64 0)), D.nil, D.nil]))])), (D.node (.agg [1, 3]) (nthD [(D.lit (.bool false)), (D.node (.agg [1, 1, 1]) (nthD [(D.lit (.int .i64 0)), D.nil, D.nil]))])), (D.lit (.int .i64 0)), D.nil])) := zeroOk_of (by kernel_rfl)
theorem tsz_89 : tsz Try.prog 89 = some 20 := by kernel_rfl
theorem tagg_89 : tagg Try.prog 89 = some true := by kernel_rfl
theorem tbytes_89 : tbytes Try.prog 89 = some 280 := by kernel_rfl
theorem tfield_89_0 : tfield Try.prog 89 0 = some (0, 3) := by kernel_rfl
theorem tfield_89_1 : tfield Try.prog 89 1 = some (1, 37) := by kernel_rfl
theorem tfield_89_2 : tfield Try.prog 89 2 = some (18, 4) := by kernel_rfl
theorem tfield_89_3 : tfield Try.prog 89 3 = some (19, 4) := by kernel_rfl
theorem tplaces_89 : tplaces Try.prog 89 = some [(0, 1), (1, 17), (18, 1), (19, 1)] := by kernel_rfl
theorem zd_89 : zd Try.prog 89 = (D.node (.agg [1, 17, 1, 1]) (nthD [(D.lit (.int .i64 0)), (D.node (.agg [1, 16]) (nthD [(D.lit (.int .i64 0)), (D.node (.arr 4 4) fun _ => (D.node (.agg [1, 3]) (nthD [(D.lit (.bool false)), (D.node (.agg [1, 1, 1]) (nthD [(D.lit (.int .i64 0)), D.nil, D.nil]))])))])), (D.lit (.bool false)), (D.lit (.bool false))])) := by kernel_rfl
theorem zok_89 : ZeroOk Try.prog 89 (D.node (.agg [1, 17, 1, 1]) (nthD [(D.lit (.int .i64 0)), (D.node (.agg [1, 16]) (nthD [(D.lit (.int .i64 0)), (D.node (.arr 4 4) fun _ => (D.node (.agg [1, 3]) (nthD [(D.lit (.bool false)), (D.node (.agg [1, 1, 1]) (nthD [(D.lit (.int .i64 0)), D.nil, D.nil]))])))])), (D.lit (.bool false)), (D.lit (.bool false))])) := zeroOk_of (by kernel_rfl)
theorem tsz_90 : tsz Try.prog 90 = some 20 := by kernel_rfl
theorem tagg_90 : tagg Try.prog 90 = some true := by kernel_rfl
theorem tbytes_90 : tbytes Try.prog 90 = some 280 := by kernel_rfl
theorem tfield_90_0 : tfield Try.prog 90 0 = some (0, 3) := by kernel_rfl
theorem tfield_90_1 : tfield Try.prog 90 1 = some (1, 37) := by kernel_rfl
theorem tfield_90_2 : tfield Try.prog 90 2 = some (18, 4) := by kernel_rfl
theorem tfield_90_3 : tfield Try.prog 90 3 = some (19, 4) := by kernel_rfl
theorem tplaces_90 : tplaces Try.prog 90 = some [(0, 1), (1, 17), (18, 1), (19, 1)] := by kernel_rfl
theorem zd_90 : zd Try.prog 90 = (D.node (.agg [1, 17, 1, 1]) (nthD [(D.lit (.int .i64 0)), (D.node (.agg [1, 16]) (nthD [(D.lit (.int .i64 0)), (D.node (.arr 4 4) fun _ => (D.node (.agg [1, 3]) (nthD [(D.lit (.bool false)), (D.node (.agg [1, 1, 1]) (nthD [(D.lit (.int .i64 0)), D.nil, D.nil]))])))])), (D.lit (.bool false)), (D.lit (.bool false))])) := by kernel_rfl
theorem zok_90 : ZeroOk Try.prog 90 (D.node (.agg [1, 17, 1, 1]) (nthD [(D.lit (.int .i64 0)), (D.node (.agg [1, 16]) (nthD [(D.lit (.int .i64 0)), (D.node (.arr 4 4) fun _ => (D.node (.agg [1, 3]) (nthD [(D.lit (.bool false)), (D.node (.agg [1, 1, 1]) (nthD [(D.lit (.int .i64 0)), D.nil, D.nil]))])))])), (D.lit (.bool false)), (D.lit (.bool false))])) := zeroOk_of (by kernel_rfl)
theorem tsz_91 : tsz Try.prog 91 = some 1 := by kernel_rfl
theorem tagg_91 : tagg Try.prog 91 = some false := by kernel_rfl
theorem tbytes_91 : tbytes Try.prog 91 = some 24 := by kernel_rfl
theorem telem_91 : telem Try.prog 91 = some 74 := by kernel_rfl
theorem zd_91 : zd Try.prog 91 = D.nil := by kernel_rfl
theorem zok_91 : ZeroOk Try.prog 91 D.nil := zeroOk_of (by kernel_rfl)
theorem tsz_92 : tsz Try.prog 92 = some 2 := by kernel_rfl
theorem tagg_92 : tagg Try.prog 92 = some true := by kernel_rfl
theorem tbytes_92 : tbytes Try.prog 92 = some 32 := by kernel_rfl
theorem tfield_92_0 : tfield Try.prog 92 0 = some (0, 91) := by kernel_rfl
theorem tfield_92_1 : tfield Try.prog 92 1 = some (1, 3) := by kernel_rfl
theorem tplaces_92 : tplaces Try.prog 92 = some [(0, 1), (1, 1)] := by kernel_rfl
theorem zd_92 : zd Try.prog 92 = (D.node (.agg [1, 1]) (nthD [D.nil, (D.lit (.int .i64 0))])) := by kernel_rfl
theorem zok_92 : ZeroOk Try.prog 92 (D.node (.agg [1, 1]) (nthD [D.nil, (D.lit (.int .i64 0))])) := zeroOk_of (by kernel_rfl)
theorem tsz_93 : tsz Try.prog 93 = some 2 := by kernel_rfl
theorem tagg_93 : tagg Try.prog 93 = some true := by kernel_rfl
theorem tbytes_93 : tbytes Try.prog 93 = some 32 := by kernel_rfl
theorem tfield_93_0 : tfield Try.prog 93 0 = some (0, 91) := by kernel_rfl
theorem tfield_93_1 : tfield Try.prog 93 1 = some (1, 3) := by kernel_rfl
theorem tplaces_93 : tplaces Try.prog 93 = some [(0, 1), (1, 1)] := by kernel_rfl
theorem zd_93 : zd Try.prog 93 = (D.node (.agg [1, 1]) (nthD [D.nil, (D.lit (.int .i64 0))])) := by kernel_rfl
theorem zok_93 : ZeroOk Try.prog 93 (D.node (.agg [1, 1]) (nthD [D.nil, (D.lit (.int .i64 0))])) := zeroOk_of (by kernel_rfl)
theorem tsz_96 : tsz Try.prog 96 = some 1 := by kernel_rfl
theorem tagg_96 : tagg Try.prog 96 = some false := by kernel_rfl
theorem tbytes_96 : tbytes Try.prog 96 = some 24 := by kernel_rfl
theorem telem_96 : telem Try.prog 96 = some 79 := by kernel_rfl
theorem zd_96 : zd Try.prog 96 = D.nil := by kernel_rfl
theorem zok_96 : ZeroOk Try.prog 96 D.nil := zeroOk_of (by kernel_rfl)
theorem tsz_97 : tsz Try.prog 97 = some 2 := by kernel_rfl
theorem tagg_97 : tagg Try.prog 97 = some true := by kernel_rfl
theorem tbytes_97 : tbytes Try.prog 97 = some 32 := by kernel_rfl
theorem tfield_97_0 : tfield Try.prog 97 0 = some (0, 96) := by kernel_rfl
theorem tfield_97_1 : tfield Try.prog 97 1 = some (1, 3) := by kernel_rfl
theorem tplaces_97 : tplaces Try.prog 97 = some [(0, 1), (1, 1)] := by kernel_rfl
theorem zd_97 : zd Try.prog 97 = (D.node (.agg [1, 1]) (nthD [D.nil, (D.lit (.int .i64 0))])) := by kernel_rfl
theorem zok_97 : ZeroOk Try.prog 97 (D.node (.agg [1, 1]) (nthD [D.nil, (D.lit (.int .i64 0))])) := zeroOk_of (by kernel_rfl)
theorem tsz_98 : tsz Try.prog 98 = some 2 := by kernel_rfl
theorem tagg_98 : tagg Try.prog 98 = some true := by kernel_rfl
theorem tbytes_98 : tbytes Try.prog 98 = some 32 := by kernel_rfl
theorem tfield_98_0 : tfield Try.prog 98 0 = some (0, 96) := by kernel_rfl
theorem tfield_98_1 : tfield Try.prog 98 1 = some (1, 3) := by kernel_rfl
theorem tplaces_98 : tplaces Try.prog 98 = some [(0, 1), (1, 1)] := by kernel_rfl
theorem zd_98 : zd Try.prog 98 = (D.node (.agg [1, 1]) (nthD [D.nil, (D.lit (.int .i64 0))])) := by kernel_rfl
theorem zok_98 : ZeroOk Try.prog 98 (D.node (.agg [1, 1]) (nthD [D.nil, (D.lit (.int .i64 0))])) := zeroOk_of (by kernel_rfl)
theorem tsz_115 : tsz Try.prog 115 = some 1 := by kernel_rfl
theorem tagg_115 : tagg Try.prog 115 = some false := by kernel_rfl
theorem tbytes_115 : tbytes Try.prog 115 = some 24 := by kernel_rfl
theorem telem_115 : telem Try.prog 115 = some 34 := by kernel_rfl
theorem zd_115 : zd Try.prog 115 = D.nil := by kernel_rfl
theorem zok_115 : ZeroOk Try.prog 115 D.nil := zeroOk_of (by kernel_rfl)
theorem tsz_128 : tsz Try.prog 128 = some 136 := by kernel_rfl
theorem tagg_128 : tagg Try.prog 128 = some true := by kernel_rfl
theorem tbytes_128 : tbytes Try.prog 128 = some 2112 := by kernel_rfl
theorem tarr_128 : tarr Try.prog 128 = some (8, 37) := by kernel_rfl
theorem zd_128 : zd Try.prog 128 = (D.node (.arr 8 17) fun _ => (D.node (.agg [1, 16]) (nthD [(D.lit (.int .i64 0)), (D.node (.arr 4 4) fun _ => (D.node (.agg [1, 3]) (nthD [(D.lit (.bool false)), (D.node (.agg [1, 1, 1]) (nthD [(D.lit (.int .i64 0)), D.nil, D.nil]))])))]))) := by kernel_rfl
theorem zok_128 : ZeroOk Try.prog 128 (D.node (.arr 8 17) fun _ => (D.node (.agg [1, 16]) (nthD [(D.lit (.int .i64 0)), (D.node (.arr 4 4) fun _ => (D.node (.agg [1, 3]) (nthD [(D.lit (.bool false)), (D.node (.agg [1, 1, 1]) (nthD [(D.lit (.int .i64 0)), D.nil, D.nil]))])))]))) := zeroOk_of (by kernel_rfl)
theorem tsz_129 : tsz Try.prog 129 = some 1 := by kernel_rfl
theorem tagg_129 : tagg Try.prog 129 = some false := by kernel_rfl
theorem tbytes_129 : tbytes Try.prog 129 = some 24 := by kernel_rfl
theorem telem_129 : telem Try.prog 129 = some 238 := by kernel_rfl
theorem zd_129 : zd Try.prog 129 = D.nil := by kernel_rfl
theorem zok_129 : ZeroOk Try.prog 129 D.nil := zeroOk_of (by kernel_rfl)
theorem tsz_130 : tsz Try.prog 130 = some 144 := by kernel_rfl
theorem tagg_130 : tagg Try.prog 130 = some true := by kernel_rfl
theorem tbytes_130 : tbytes Try.prog 130 = some 2240 := by kernel_rfl
theorem tfield_130_0 : tfield Try.prog 130 0 = some (0, 128) := by kernel_rfl
theorem tfield_130_1 : tfield Try.prog 130 1 = some (136, 58) := by kernel_rfl
theorem tfield_130_2 : tfield Try.prog 130 2 = some (138, 98) := by kernel_rfl
theorem tfield_130_3 : tfield Try.prog 130 3 = some (140, 77) := by kernel_rfl
theorem tfield_130_4 : tfield Try.prog 130 4 = some (141, 129) := by kernel_rfl
theorem tfield_130_5 : tfield Try.prog 130 5 = some (142, 3) := by kernel_rfl
theorem tfield_130_6 : tfield Try.prog 130 6 = some (143, 4) := by kernel_rfl
theorem tplaces_130 : tplaces Try.prog 130 = some [(0, 136), (136, 2), (138, 2), (140, 1), (141, 1), (142, 1), (143, 1)] := by kernel_rfl
theorem zd_130 : zd Try.prog 130 = (D.node (.agg [136, 2, 2, 1, 1, 1, 1]) (nthD [(D.node (.arr 8 17) fun _ => (D.node (.agg [1, 16]) (nthD [(D.lit (.int .i64 0)), (D.node (.arr 4 4) fun _ => (D.node (.agg [1, 3]) (nthD [(D.lit (.bool false)), (D.node (.agg [1, 1, 1]) (nthD [(D.lit (.int .i64 0)), D.nil, D.nil]))])))]))), (D.node (.agg [1, 1]) (nthD [D.nil, (D.lit (.int .i64 0))])), (D.node (.agg [1, 1]) (nthD [D.nil, (D.lit (.int .i64 0))])), D.nil, D.nil, (D.lit (.int .i64 0)), (D.lit (.bool false))])) := by kernel_rfl
theorem zok_130 : ZeroOk Try.prog 130 (D.node (.agg [136, 2, 2, 1, 1, 1, 1]) (nthD [(D.node (.arr 8 17) fun _ => (D.node (.agg [1, 16]) (nthD [(D.lit (.int .i64 0)), (D.node (.arr 4 4) fun _ => (D.node (.agg [1, 3]) (nthD [(D.lit (.bool false)), (D.node (.agg [1, 1, 1]) (nthD [(D.lit (.int .i64 0)), D.nil, D.nil]))])))]))), (D.node (.agg [1, 1]) (nthD [D.nil, (D.lit (.int .i64 0))])), (D.node (.agg [1, 1]) (nthD [D.nil, (D.lit (.int .i64 0))])), D.nil, D.nil, (D.lit (.int .i64 0)), (D.lit (.bool false))])) := zeroOk_of (by kernel_rfl)
theorem tsz_131 : tsz Try.prog 131 = some 144 := by kernel_rfl
theorem tagg_131 : tagg Try.prog 131 = some true := by kernel_rfl
theorem tbytes_131 : tbytes Try.prog 131 = some 2240 := by kernel_rfl
theorem tfield_131_0 : tfield Try.prog 131 0 = some (0, 128) := by kernel_rfl
theorem tfield_131_1 : tfield Try.prog 131 1 = some (136, 58) := by kernel_rfl
theorem tfield_131_2 : tfield Try.prog 131 2 = some (138, 98) := by kernel_rfl
theorem tfield_131_3 : tfield Try.prog 131 3 = some (140, 77) := by kernel_rfl
theorem tfield_131_4 : tfield Try.prog 131 4 = some (141, 129) := by kernel_rfl
theorem tfield_131_5 : tfield Try.prog 131 5 = some (142, 3) := by kernel_rfl
theorem tfield_131_6 : tfield Try.prog 131 6 = some (143, 4) := by kernel_rfl
theorem tplaces_131 : tplaces Try.prog 131 = some [(0, 136), (136, 2), (138, 2), (140, 1), (141, 1), (142, 1), (143, 1)] := by kernel_rfl
theorem zd_131 : zd Try.prog 131 = (D.node (.agg [136, 2, 2, 1, 1, 1, 1]) (nthD [(D.node (.arr 8 17) fun _ => (D.node (.agg [1, 16]) (nthD [(D.lit (.int .i64 0)), (D.node (.arr 4 4) fun _ => (D.node (.agg [1, 3]) (nthD [(D.lit (.bool false)), (D.node (.agg [1, 1, 1]) (nthD [(D.lit (.int .i64 0)), D.nil, D.nil]))])))]))), (D.node (.agg [1, 1]) (nthD [D.nil, (D.lit (.int .i64 0))])), (D.node (.agg [1, 1]) (nthD [D.nil, (D.lit (.int .i64 0))])), D.nil, D.nil, (D.lit (.int .i64 0)), (D.lit (.bool false))])) := by kernel_rfl
theorem zok_131 : ZeroOk Try.prog 131 (D.node (.agg [136, 2, 2, 1, 1, 1, 1]) (nthD [(D.node (.arr 8 17) fun _ => (D.node (.agg [1, 16]) (nthD [(D.lit (.int .i64 0)), (D.node (.arr 4 4) fun _ => (D.node (.agg [1, 3]) (nthD [(D.lit (.bool false)), (D.node (.agg [1, 1, 1]) (nthD [(D.lit (.int .i64 0)), D.nil, D.nil]))])))]))), (D.node (.agg [1, 1]) (nthD [D.nil, (D.lit (.int .i64 0))])), (D.node (.agg [1, 1]) (nthD [D.nil, (D.lit (.int .i64 0))])), D.nil, D.nil, (D.lit (.int .i64 0)), (D.lit (.bool false))])) := zeroOk_of (by kernel_rfl)
theorem tsz_145 : tsz Try.prog 145 = some 3 := by kernel_rfl
theorem tagg_145 : tagg Try.prog 145 = some true := by kernel_rfl
theorem tbytes_145 : tbytes Try.prog 145 = some 24 := by kernel_rfl
theorem tfield_145_0 : tfield Try.prog 145 0 = some (0, 3) := by kernel_rfl
theorem tfield_145_1 : tfield Try.prog 145 1 = some (1, 3) := by kernel_rfl
theorem tfield_145_2 : tfield Try.prog 145 2 = some (2, 4) := by kernel_rfl
theorem tplaces_145 : tplaces Try.prog 145 = some [(0, 1), (1, 1), (2, 1)] := by kernel_rfl
theorem zd_145 : zd Try.prog 145 = (D.node (.agg [1, 1, 1]) (nthD [(D.lit (.int .i64 0)), (D.lit (.int .i64 0)), (D.lit (.bool false))])) := by kernel_rfl
theorem zok_145 : ZeroOk Try.prog 145 (D.node (.agg [1, 1, 1]) (nthD [(D.lit (.int .i64 0)), (D.lit (.int .i64 0)), (D.lit (.bool false))])) := zeroOk_of (by kernel_rfl)
theorem tsz_146 : tsz Try.prog 146 = some 3 := by kernel_rfl
theorem tagg_146 : tagg Try.prog 146 = some true := by kernel_rfl
theorem tbytes_146 : tbytes Try.prog 146 = some 24 := by kernel_rfl
theorem tfield_146_0 : tfield Try.prog 146 0 = some (0, 3) := by kernel_rfl
theorem tfield_146_1 : tfield Try.prog 146 1 = some (1, 3) := by kernel_rfl
theorem tfield_146_2 : tfield Try.prog 146 2 = some (2, 4) := by kernel_rfl
theorem tplaces_146 : tplaces Try.prog 146 = some [(0, 1), (1, 1), (2, 1)] := by kernel_rfl
theorem zd_146 : zd Try.prog 146 = (D.node (.agg [1, 1, 1]) (nthD [(D.lit (.int .i64 0)), (D.lit (.int .i64 0)), (D.lit (.bool false))])) := by kernel_rfl
theorem zok_146 : ZeroOk Try.prog 146 (D.node (.agg [1, 1, 1]) (nthD [(D.lit (.int .i64 0)), (D.lit (.int .i64 0)), (D.lit (.bool false))])) := zeroOk_of (by kernel_rfl)
theorem tsz_172 : tsz Try.prog 172 = some 1 := by kernel_rfl
theorem tagg_172 : tagg Try.prog 172 = some false := by kernel_rfl
theorem tbytes_172 : tbytes Try.prog 172 = some 8 := by kernel_rfl
theorem tsz_189 : tsz Try.prog 189 = some 1 := by kernel_rfl
theorem tagg_189 : tagg Try.prog 189 = some false := by kernel_rfl
theorem tbytes_189 : tbytes Try.prog 189 = some 8 := by kernel_rfl
theorem tsz_193 : tsz Try.prog 193 = some 1 := by kernel_rfl
theorem tagg_193 : tagg Try.prog 193 = some false := by kernel_rfl
theorem tbytes_193 : tbytes Try.prog 193 = some 24 := by kernel_rfl
theorem telem_193 : telem Try.prog 193 = some 4 := by kernel_rfl
theorem zd_193 : zd Try.prog 193 = D.nil := by kernel_rfl
theorem zok_193 : ZeroOk Try.prog 193 D.nil := zeroOk_of (by kernel_rfl)
theorem tsz_208 : tsz Try.prog 208 = some 1 := by kernel_rfl
theorem tagg_208 : tagg Try.prog 208 = some false := by kernel_rfl
theorem tbytes_208 : tbytes Try.prog 208 = some 8 := by kernel_rfl
theorem tsz_216 : tsz Try.prog 216 = some 1 := by kernel_rfl
theorem tagg_216 : tagg Try.prog 216 = some false := by kernel_rfl
theorem tbytes_216 : tbytes Try.prog 216 = some 8 := by kernel_rfl
theorem tint_216 : tint Try.prog 216 = some .u64 := by kernel_rfl
theorem tund_216 : (Try.prog.underlying 216).isSome = true := by kernel_rfl
theorem zd_216 : zd Try.prog 216 = (D.lit (.int .u64 0)) := by kernel_rfl
theorem zok_216 : ZeroOk Try.prog 216 (D.lit (.int .u64 0)) := zeroOk_of (by kernel_rfl)
theorem tsz_219 : tsz Try.prog 219 = some 20 := by kernel_rfl
theorem tagg_219 : tagg Try.prog 219 = some true := by kernel_rfl
theorem tbytes_219 : tbytes Try.prog 219 = some 280 := by kernel_rfl
theorem tfield_219_0 : tfield Try.prog 219 0 = some (0, 3) := by kernel_rfl
theorem tfield_219_1 : tfield Try.prog 219 1 = some (1, 29) := by kernel_rfl
theorem tfield_219_2 : tfield Try.prog 219 2 = some (18, 4) := by kernel_rfl
theorem tfield_219_3 : tfield Try.prog 219 3 = some (19, 4) := by kernel_rfl
theorem tplaces_219 : tplaces Try.prog 219 = some [(0, 1), (1, 17), (18, 1), (19, 1)] := by kernel_rfl
theorem zd_219 : zd Try.prog 219 = (D.node (.agg [1, 17, 1, 1]) (nthD [(D.lit (.int .i64 0)), (D.node (.agg [1, 16]) (nthD [(D.lit (.int .i64 0)), (D.node (.arr 4 4) fun _ => (D.node (.agg [1, 3]) (nthD [(D.lit (.bool false)), (D.node (.agg [1, 1, 1]) (nthD [(D.lit (.int .i64 0)), D.nil, D.nil]))])))])), (D.lit (.bool false)), (D.lit (.bool false))])) := by kernel_rfl
theorem zok_219 : ZeroOk Try.prog 219 (D.node (.agg [1, 17, 1, 1]) (nthD [(D.lit (.int .i64 0)), (D.node (.agg [1, 16]) (nthD [(D.lit (.int .i64 0)), (D.node (.arr 4 4) fun _ => (D.node (.agg [1, 3]) (nthD [(D.lit (.bool false)), (D.node (.agg [1, 1, 1]) (nthD [(D.lit (.int .i64 0)), D.nil, D.nil]))])))])), (D.lit (.bool false)), (D.lit (.bool false))])) := zeroOk_of (by kernel_rfl)
theorem tsz_220 : tsz Try.prog 220 = some 20 := by kernel_rfl
theorem tagg_220 : tagg Try.prog 220 = some true := by kernel_rfl
theorem tbytes_220 : tbytes Try.prog 220 = some 280 := by kernel_rfl
theorem tfield_220_0 : tfield Try.prog 220 0 = some (0, 3) := by kernel_rfl
theorem tfield_220_1 : tfield Try.prog 220 1 = some (1, 29) := by kernel_rfl
theorem tfield_220_2 : tfield Try.prog 220 2 = some (18, 4) := by kernel_rfl
theorem tfield_220_3 : tfield Try.prog 220 3 = some (19, 4) := by kernel_rfl
theorem tplaces_220 : tplaces Try.prog 220 = some [(0, 1), (1, 17), (18, 1), (19, 1)] := by kernel_rfl
theorem zd_220 : zd Try.prog 220 = (D.node (.agg [1, 17, 1, 1]) (nthD [(D.lit (.int .i64 0)), (D.node (.agg [1, 16]) (nthD [(D.lit (.int .i64 0)), (D.node (.arr 4 4) fun _ => (D.node (.agg [1, 3]) (nthD [(D.lit (.bool false)), (D.node (.agg [1, 1, 1]) (nthD [(D.lit (.int .i64 0)), D.nil, D.nil]))])))])), (D.lit (.bool false)), (D.lit (.bool false))])) := by kernel_rfl
theorem zok_220 : ZeroOk Try.prog 220 (D.node (.agg [1, 17, 1, 1]) (nthD [(D.lit (.int .i64 0)), (D.node (.agg [1, 16]) (nthD [(D.lit (.int .i64 0)), (D.node (.arr 4 4) fun _ => (D.node (.agg [1, 3]) (nthD [(D.lit (.bool false)), (D.node (.agg [1, 1, 1]) (nthD [(D.lit (.int .i64 0)), D.nil, D.nil]))])))])), (D.lit (.bool false)), (D.lit (.bool false))])) := zeroOk_of (by kernel_rfl)
theorem tsz_224 : tsz Try.prog 224 = some 3 := by kernel_rfl
theorem tagg_224 : tagg Try.prog 224 = some true := by kernel_rfl
theorem tbytes_224 : tbytes Try.prog 224 = some 24 := by kernel_rfl
theorem tfield_224_0 : tfield Try.prog 224 0 = some (0, 3) := by kernel_rfl
theorem tfield_224_1 : tfield Try.prog 224 1 = some (1, 3) := by kernel_rfl
theorem tfield_224_2 : tfield Try.prog 224 2 = some (2, 4) := by kernel_rfl
theorem tplaces_224 : tplaces Try.prog 224 = some [(0, 1), (1, 1), (2, 1)] := by kernel_rfl
theorem zd_224 : zd Try.prog 224 = (D.node (.agg [1, 1, 1]) (nthD [(D.lit (.int .i64 0)), (D.lit (.int .i64 0)), (D.lit (.bool false))])) := by kernel_rfl
theorem zok_224 : ZeroOk Try.prog 224 (D.node (.agg [1, 1, 1]) (nthD [(D.lit (.int .i64 0)), (D.lit (.int .i64 0)), (D.lit (.bool false))])) := zeroOk_of (by kernel_rfl)
theorem tsz_226 : tsz Try.prog 226 = some 3 := by kernel_rfl
theorem tagg_226 : tagg Try.prog 226 = some true := by kernel_rfl
theorem tbytes_226 : tbytes Try.prog 226 = some 40 := by kernel_rfl
theorem tfield_226_0 : tfield Try.prog 226 0 = some (0, 43) := by kernel_rfl
theorem tfield_226_1 : tfield Try.prog 226 1 = some (1, 3) := by kernel_rfl
theorem tfield_226_2 : tfield Try.prog 226 2 = some (2, 3) := by kernel_rfl
theorem tplaces_226 : tplaces Try.prog 226 = some [(0, 1), (1, 1), (2, 1)] := by kernel_rfl
theorem zd_226 : zd Try.prog 226 = (D.node (.agg [1, 1, 1]) (nthD [D.nil, (D.lit (.int .i64 0)), (D.lit (.int .i64 0))])) := by kernel_rfl
theorem zok_226 : ZeroOk Try.prog 226 (D.node (.agg [1, 1, 1]) (nthD [D.nil, (D.lit (.int .i64 0)), (D.lit (.int .i64 0))])) := zeroOk_of (by kernel_rfl)
theorem tsz_227 : tsz Try.prog 227 = some 3 := by kernel_rfl
theorem tagg_227 : tagg Try.prog 227 = some true := by kernel_rfl
theorem tbytes_227 : tbytes Try.prog 227 = some 40 := by kernel_rfl
theorem tfield_227_0 : tfield Try.prog 227 0 = some (0, 43) := by kernel_rfl
theorem tfield_227_1 : tfield Try.prog 227 1 = some (1, 3) := by kernel_rfl
theorem tfield_227_2 : tfield Try.prog 227 2 = some (2, 3) := by kernel_rfl
theorem tplaces_227 : tplaces Try.prog 227 = some [(0, 1), (1, 1), (2, 1)] := by kernel_rfl
theorem zd_227 : zd Try.prog 227 = (D.node (.agg [1, 1, 1]) (nthD [D.nil, (D.lit (.int .i64 0)), (D.lit (.int .i64 0))])) := by kernel_rfl
theorem zok_227 : ZeroOk Try.prog 227 (D.node (.agg [1, 1, 1]) (nthD [D.nil, (D.lit (.int .i64 0)), (D.lit (.int .i64 0))])) := zeroOk_of (by kernel_rfl)
theorem tsz_237 : tsz Try.prog 237 = some 2 := by kernel_rfl
theorem tagg_237 : tagg Try.prog 237 = some true := by kernel_rfl
theorem tbytes_237 : tbytes Try.prog 237 = some 16 := by kernel_rfl
theorem tfield_237_0 : tfield Try.prog 237 0 = some (0, 3) := by kernel_rfl
theorem tfield_237_1 : tfield Try.prog 237 1 = some (1, 3) := by kernel_rfl
theorem tplaces_237 : tplaces Try.prog 237 = some [(0, 1), (1, 1)] := by kernel_rfl
theorem zd_237 : zd Try.prog 237 = (D.node (.agg [1, 1]) (nthD [(D.lit (.int .i64 0)), (D.lit (.int .i64 0))])) := by kernel_rfl
theorem zok_237 : ZeroOk Try.prog 237 (D.node (.agg [1, 1]) (nthD [(D.lit (.int .i64 0)), (D.lit (.int .i64 0))])) := zeroOk_of (by kernel_rfl)
theorem tsz_238 : tsz Try.prog 238 = some 2 := by kernel_rfl
theorem tagg_238 : tagg Try.prog 238 = some true := by kernel_rfl
theorem tbytes_238 : tbytes Try.prog 238 = some 16 := by kernel_rfl
theorem tfield_238_0 : tfield Try.prog 238 0 = some (0, 3) := by kernel_rfl
theorem tfield_238_1 : tfield Try.prog 238 1 = some (1, 3) := by kernel_rfl
theorem tplaces_238 : tplaces Try.prog 238 = some [(0, 1), (1, 1)] := by kernel_rfl
theorem zd_238 : zd Try.prog 238 = (D.node (.agg [1, 1]) (nthD [(D.lit (.int .i64 0)), (D.lit (.int .i64 0))])) := by kernel_rfl
theorem zok_238 : ZeroOk Try.prog 238 (D.node (.agg [1, 1]) (nthD [(D.lit (.int .i64 0)), (D.lit (.int .i64 0))])) := zeroOk_of (by kernel_rfl)
theorem tsz_243 : tsz Try.prog 243 = some 1 := by kernel_rfl
theorem tagg_243 : tagg Try.prog 243 = some false := by kernel_rfl
theorem tbytes_243 : tbytes Try.prog 243 = some 8 := by kernel_rfl
theorem tsz_248 : tsz Try.prog 248 = some 1 := by kernel_rfl
theorem tagg_248 : tagg Try.prog 248 = some false := by kernel_rfl
theorem tbytes_248 : tbytes Try.prog 248 = some 24 := by kernel_rfl
theorem telem_248 : telem Try.prog 248 = some 43 := by kernel_rfl
theorem zd_248 : zd Try.prog 248 = D.nil := by kernel_rfl
theorem zok_248 : ZeroOk Try.prog 248 D.nil := zeroOk_of (by kernel_rfl)
theorem tsz_259 : tsz Try.prog 259 = some 1 := by kernel_rfl
theorem tagg_259 : tagg Try.prog 259 = some false := by kernel_rfl
theorem tbytes_259 : tbytes Try.prog 259 = some 4 := by kernel_rfl
theorem tint_259 : tint Try.prog 259 = some .u32 := by kernel_rfl
theorem tund_259 : (Try.prog.underlying 259).isSome = true := by kernel_rfl
theorem zd_259 : zd Try.prog 259 = (D.lit (.int .u32 0)) := by kernel_rfl
theorem zok_259 : ZeroOk Try.prog 259 (D.lit (.int .u32 0)) := zeroOk_of (by kernel_rfl)
theorem tsz_265 : tsz Try.prog 265 = some 4 := by kernel_rfl
theorem tagg_265 : tagg Try.prog 265 = some true := by kernel_rfl
theorem tbytes_265 : tbytes Try.prog 265 = some 40 := by kernel_rfl
theorem tfield_265_0 : tfield Try.prog 265 0 = some (0, 17) := by kernel_rfl
theorem tfield_265_1 : tfield Try.prog 265 1 = some (1, 17) := by kernel_rfl
theorem tfield_265_2 : tfield Try.prog 265 2 = some (2, 17) := by kernel_rfl
theorem tfield_265_3 : tfield Try.prog 265 3 = some (3, 9) := by kernel_rfl
theorem tplaces_265 : tplaces Try.prog 265 = some [(0, 1), (1, 1), (2, 1), (3, 1)] := by kernel_rfl
theorem tsz_267 : tsz Try.prog 267 = some 0 := by kernel_rfl
theorem tagg_267 : tagg Try.prog 267 = some true := by kernel_rfl
theorem tbytes_267 : tbytes Try.prog 267 = some 0 := by kernel_rfl
theorem tarr_267 : tarr Try.prog 267 = some (0, 16) := by kernel_rfl
theorem tsz_268 : tsz Try.prog 268 = some 0 := by kernel_rfl
theorem tagg_268 : tagg Try.prog 268 = some true := by kernel_rfl
theorem tbytes_268 : tbytes Try.prog 268 = some 0 := by kernel_rfl
theorem tfield_268_0 : tfield Try.prog 268 0 = some (0, 267) := by kernel_rfl
theorem tplaces_268 : tplaces Try.prog 268 = some [(0, 0)] := by kernel_rfl
theorem tsz_274 : tsz Try.prog 274 = some 1 := by kernel_rfl
theorem tagg_274 : tagg Try.prog 274 = some false := by kernel_rfl
theorem tbytes_274 : tbytes Try.prog 274 = some 8 := by kernel_rfl
theorem tsz_277 : tsz Try.prog 277 = some 11 := by kernel_rfl
theorem tagg_277 : tagg Try.prog 277 = some true := by kernel_rfl
theorem tbytes_277 : tbytes Try.prog 277 = some 48 := by kernel_rfl
theorem tfield_277_0 : tfield Try.prog 277 0 = some (0, 12) := by kernel_rfl
theorem tfield_277_1 : tfield Try.prog 277 1 = some (1, 12) := by kernel_rfl
theorem tfield_277_2 : tfield Try.prog 277 2 = some (2, 259) := by kernel_rfl
theorem tfield_277_3 : tfield Try.prog 277 3 = some (3, 271) := by kernel_rfl
theorem tfield_277_4 : tfield Try.prog 277 4 = some (4, 5) := by kernel_rfl
theorem tfield_277_5 : tfield Try.prog 277 5 = some (5, 5) := by kernel_rfl
theorem tfield_277_6 : tfield Try.prog 277 6 = some (6, 272) := by kernel_rfl
theorem tfield_277_7 : tfield Try.prog 277 7 = some (7, 273) := by kernel_rfl
theorem tfield_277_8 : tfield Try.prog 277 8 = some (8, 274) := by kernel_rfl
theorem tfield_277_9 : tfield Try.prog 277 9 = some (9, 275) := by kernel_rfl
theorem tfield_277_10 : tfield Try.prog 277 10 = some (10, 276) := by kernel_rfl
attribute [go_sem] tsz_2 tagg_2 tbytes_2 tint_2 tund_2 zd_2 zok_2 tsz_3 tagg_3 tbytes_3 tint_3 tund_3 zd_3 zok_3 tsz_4 tagg_4 tbytes_4 tbool_4 zd_4 zok_4 tsz_5 tagg_5 tbytes_5 tint_5 tund_5 zd_5 zok_5 tsz_7 tagg_7 tbytes_7 tfield_7_0 tfield_7_1 tfield_7_2 tfield_7_3 tplaces_7 zd_7 zok_7 tsz_9 tagg_9 tbytes_9 tstr_9 zd_9 zok_9 tsz_12 tagg_12 tbytes_12 tint_12 tund_12 zd_12 zok_12 tsz_13 tagg_13 tbytes_13 tfield_13_0 tfield_13_1 tplaces_13 zd_13 zok_13 tsz_15 tagg_15 tbytes_15 tsz_16 tagg_16 tbytes_16 tsz_17 tagg_17 tbytes_17 tsz_18 tagg_18 tbytes_18 tfield_18_0 tplaces_18 tsz_21 tagg_21 tbytes_21 tint_21 tund_21 zd_21 zok_21 tsz_22 tagg_22 tbytes_22 telem_22 zd_22 zok_22 tsz_23 tagg_23 tbytes_23 tfield_23_0 tfield_23_1 tfield_23_2 tplaces_23 zd_23 zok_23 tsz_24 tagg_24 tbytes_24 tfield_24_0 tfield_24_1 tfield_24_2 tplaces_24 zd_24 zok_24 tsz_25 tagg_25 tbytes_25 tfield_25_0 tfield_25_1 tplaces_25 zd_25 zok_25 tsz_26 tagg_26 tbytes_26 tfield_26_0 tfield_26_1 tplaces_26 zd_26 zok_26 tsz_27 tagg_27 tbytes_27 tarr_27 zd_27 zok_27 tsz_28 tagg_28 tbytes_28 tfield_28_0 tfield_28_1 tplaces_28 zd_28 zok_28 tsz_29 tagg_29 tbytes_29 tfield_29_0 tfield_29_1 tplaces_29 zd_29 zok_29 tsz_32 tagg_32 tbytes_32 tfield_32_0 tfield_32_1 tfield_32_2 tplaces_32 zd_32 zok_32 tsz_33 tagg_33 tbytes_33 tfield_33_0 tfield_33_1 tplaces_33 zd_33 zok_33 tsz_34 tagg_34 tbytes_34 tfield_34_0 tfield_34_1 tplaces_34 zd_34 zok_34 tsz_35 tagg_35 tbytes_35 tarr_35 zd_35 zok_35 tsz_36 tagg_36 tbytes_36 tfield_36_0 tfield_36_1 tplaces_36 zd_36 zok_36 tsz_37 tagg_37 tbytes_37 tfield_37_0 tfield_37_1 tplaces_37 zd_37 zok_37 tsz_43 tagg_43 tbytes_43 telem_43 zd_43 zok_43 tsz_51 tagg_51 tbytes_51 telem_51 zd_51 zok_51 tsz_52 tagg_52 tbytes_52 tfield_52_0 tfield_52_1 tplaces_52 zd_52 zok_52 tsz_53 tagg_53 tbytes_53 tfield_53_0 tfield_53_1 tplaces_53 zd_53 zok_53 tsz_56 tagg_56 tbytes_56 telem_56 zd_56 zok_56 tsz_57 tagg_57 tbytes_57 tfield_57_0 tfield_57_1 tplaces_57 zd_57 zok_57 tsz_58 tagg_58 tbytes_58 tfield_58_0 tfield_58_1 tplaces_58 zd_58 zok_58 tsz_72 tagg_72 tbytes_72 telem_72 zd_72 zok_72 tsz_73 tagg_73 tbytes_73 tfield_73_0 tfield_73_1 tfield_73_2 tfield_73_3 tfield_73_4 tfield_73_5 tfield_73_6 tfield_73_7 tfield_73_8 tplaces_73 zd_73 zok_73 tsz_74 tagg_74 tbytes_74 tfield_74_0 tfield_74_1 tfield_74_2 tfield_74_3 tfield_74_4 tfield_74_5 tfield_74_6 tfield_74_7 tfield_74_8 tplaces_74 zd_74 zok_74 tsz_77 tagg_77 tbytes_77 telem_77 zd_77 zok_77 tsz_78 tagg_78 tbytes_78 tfield_78_0 tfield_78_1 tfield_78_2 tfield_78_3 tfield_78_4 tfield_78_5 tfield_78_6 tfield_78_7 tfield_78_8 tplaces_78 zd_78 zok_78 tsz_79 tagg_79 tbytes_79 tfield_79_0 tfield_79_1 tfield_79_2 tfield_79_3 tfield_79_4 tfield_79_5 tfield_79_6 tfield_79_7 tfield_79_8 tplaces_79 zd_79 zok_79 tsz_89 tagg_89 tbytes_89 tfield_89_0 tfield_89_1 tfield_89_2 tfield_89_3 tplaces_89 zd_89 zok_89 tsz_90 tagg_90 tbytes_90 tfield_90_0 tfield_90_1 tfield_90_2 tfield_90_3 tplaces_90 zd_90 zok_90 tsz_91 tagg_91 tbytes_91 telem_91 zd_91 zok_91 tsz_92 tagg_92 tbytes_92 tfield_92_0 tfield_92_1 tplaces_92 zd_92 zok_92 tsz_93 tagg_93 tbytes_93 tfield_93_0 tfield_93_1 tplaces_93 zd_93 zok_93 tsz_96 tagg_96 tbytes_96 telem_96 zd_96 zok_96 tsz_97 tagg_97 tbytes_97 tfield_97_0 tfield_97_1 tplaces_97 zd_97 zok_97 tsz_98 tagg_98 tbytes_98 tfield_98_0 tfield_98_1 tplaces_98 zd_98 zok_98 tsz_115 tagg_115 tbytes_115 telem_115 zd_115 zok_115 tsz_128 tagg_128 tbytes_128 tarr_128 zd_128 zok_128 tsz_129 tagg_129 tbytes_129 telem_129 zd_129 zok_129 tsz_130 tagg_130 tbytes_130 tfield_130_0 tfield_130_1 tfield_130_2 tfield_130_3 tfield_130_4 tfield_130_5 tfield_130_6 tplaces_130 zd_130 zok_130 tsz_131 tagg_131 tbytes_131 tfield_131_0 tfield_131_1 tfield_131_2 tfield_131_3 tfield_131_4 tfield_131_5 tfield_131_6 tplaces_131 zd_131 zok_131 tsz_145 tagg_145 tbytes_145 tfield_145_0 tfield_145_1 tfield_145_2 tplaces_145 zd_145 zok_145 tsz_146 tagg_146 tbytes_146 tfield_146_0 tfield_146_1 tfield_146_2 tplaces_146 zd_146 zok_146 tsz_172 tagg_172 tbytes_172 tsz_189 tagg_189 tbytes_189 tsz_193 tagg_193 tbytes_193 telem_193 zd_193 zok_193 tsz_208 tagg_208 tbytes_208 tsz_216 tagg_216 tbytes_216 tint_216 tund_216 zd_216 zok_216 tsz_219 tagg_219 tbytes_219 tfield_219_0 tfield_219_1 tfield_219_2 tfield_219_3 tplaces_219 zd_219 zok_219 tsz_220 tagg_220 tbytes_220 tfield_220_0 tfield_220_1 tfield_220_2 tfield_220_3 tplaces_220 zd_220 zok_220 tsz_224 tagg_224 tbytes_224 tfield_224_0 tfield_224_1 tfield_224_2 tplaces_224 zd_224 zok_224 tsz_226 tagg_226 tbytes_226 tfield_226_0 tfield_226_1 tfield_226_2 tplaces_226 zd_226 zok_226 tsz_227 tagg_227 tbytes_227 tfield_227_0 tfield_227_1 tfield_227_2 tplaces_227 zd_227 zok_227 tsz_237 tagg_237 tbytes_237 tfield_237_0 tfield_237_1 tplaces_237 zd_237 zok_237 tsz_238 tagg_238 tbytes_238 tfield_238_0 tfield_238_1 tplaces_238 zd_238 zok_238 tsz_243 tagg_243 tbytes_243 tsz_248 tagg_248 tbytes_248 telem_248 zd_248 zok_248 tsz_259 tagg_259 tbytes_259 tint_259 tund_259 zd_259 zok_259 tsz_265 tagg_265 tbytes_265 tfield_265_0 tfield_265_1 tfield_265_2 tfield_265_3 tplaces_265 tsz_267 tagg_267 tbytes_267 tarr_267 tsz_268 tagg_268 tbytes_268 tfield_268_0 tplaces_268 tsz_274 tagg_274 tbytes_274 tsz_277 tagg_277 tbytes_277 tfield_277_0 tfield_277_1 tfield_277_2 tfield_277_3 tfield_277_4 tfield_277_5 tfield_277_6 tfield_277_7 tfield_277_8 tfield_277_9 tfield_277_10

end Go.Proofs.Ytjaddgkhlmallaa.IM
