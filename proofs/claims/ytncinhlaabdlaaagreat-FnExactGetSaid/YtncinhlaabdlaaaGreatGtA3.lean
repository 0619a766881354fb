/- Several of my texts in one module (merge.py, shake.py). -/
import Derived.Test.YtncinhlaabdlaaaGreatProg
import Derived.Test.YtncinhlaabdlaaaGreatGtA2
import Derived.KernelRfl
import Derived.Laws.BitsLemmas
section
namespace Go.Proofs.YtncinhlaabdlaaaGreat.IM
open Go Go.Proofs
theorem tsz_2 : tsz Tryz.prog 2 = some 1 := by kernel_rfl
theorem tagg_2 : tagg Tryz.prog 2 = some false := by kernel_rfl
theorem tbytes_2 : tbytes Tryz.prog 2 = some 8 := by kernel_rfl
theorem tint_2 : tint Tryz.prog 2 = some .i64 := by kernel_rfl
theorem tund_2 : (Tryz.prog.underlying 2).isSome = true := by kernel_rfl
theorem zd_2 : zd Tryz.prog 2 = (D.lit (.int .i64 0)) := by kernel_rfl
theorem zok_2 : ZeroOk Tryz.prog 2 (D.lit (.int .i64 0)) := zeroOk_of (by kernel_rfl)
theorem tsz_3 : tsz Tryz.prog 3 = some 1 := by kernel_rfl
theorem tagg_3 : tagg Tryz.prog 3 = some false := by kernel_rfl
theorem tbytes_3 : tbytes Tryz.prog 3 = some 8 := by kernel_rfl
theorem tint_3 : tint Tryz.prog 3 = some .i64 := by kernel_rfl
theorem tund_3 : (Tryz.prog.underlying 3).isSome = true := by kernel_rfl
theorem zd_3 : zd Tryz.prog 3 = (D.lit (.int .i64 0)) := by kernel_rfl
theorem zok_3 : ZeroOk Tryz.prog 3 (D.lit (.int .i64 0)) := zeroOk_of (by kernel_rfl)
theorem tsz_4 : tsz Tryz.prog 4 = some 1 := by kernel_rfl
theorem tagg_4 : tagg Tryz.prog 4 = some false := by kernel_rfl
theorem tbytes_4 : tbytes Tryz.prog 4 = some 1 := by kernel_rfl
theorem tbool_4 : isBoolT Tryz.prog 4 = true := by kernel_rfl
theorem zd_4 : zd Tryz.prog 4 = (D.lit (.bool false)) := by kernel_rfl
theorem zok_4 : ZeroOk Tryz.prog 4 (D.lit (.bool false)) := zeroOk_of (by kernel_rfl)
theorem tsz_5 : tsz Tryz.prog 5 = some 1 := by kernel_rfl
theorem tagg_5 : tagg Tryz.prog 5 = some false := by kernel_rfl
theorem tbytes_5 : tbytes Tryz.prog 5 = some 1 := by kernel_rfl
theorem tint_5 : tint Tryz.prog 5 = some .u8 := by kernel_rfl
theorem tund_5 : (Tryz.prog.underlying 5).isSome = true := by kernel_rfl
theorem zd_5 : zd Tryz.prog 5 = (D.lit (.int .u8 0)) := by kernel_rfl
theorem zok_5 : ZeroOk Tryz.prog 5 (D.lit (.int .u8 0)) := zeroOk_of (by kernel_rfl)
theorem tsz_7 : tsz Tryz.prog 7 = some 4 := by kernel_rfl
theorem tagg_7 : tagg Tryz.prog 7 = some true := by kernel_rfl
theorem tbytes_7 : tbytes Tryz.prog 7 = some 24 := by kernel_rfl
theorem tfield_7_0 : tfield Tryz.prog 7 0 = some (0, 2) := by kernel_rfl
theorem tfield_7_1 : tfield Tryz.prog 7 1 = some (1, 3) := by kernel_rfl
theorem tfield_7_2 : tfield Tryz.prog 7 2 = some (2, 4) := by kernel_rfl
theorem tfield_7_3 : tfield Tryz.prog 7 3 = some (3, 6) := by kernel_rfl
theorem tplaces_7 : tplaces Tryz.prog 7 = some [(0, 1), (1, 1), (2, 1), (3, 1)] := by kernel_rfl
theorem zd_7 : zd Tryz.prog 7 = (D.node (.agg [1, 1, 1, 1]) (nthD [(D.lit (.int .i64 0)), (D.lit (.int .i64 0)), (D.lit (.bool false)), (D.lit (.int .u8 0))])) := by kernel_rfl
theorem zok_7 : ZeroOk Tryz.prog 7 (D.node (.agg [1, 1, 1, 1]) (nthD [(D.lit (.int .i64 0)), (D.lit (.int .i64 0)), (D.lit (.bool false)), (D.lit (.int .u8 0))])) := zeroOk_of (by kernel_rfl)
theorem tsz_9 : tsz Tryz.prog 9 = some 1 := by kernel_rfl
theorem tagg_9 : tagg Tryz.prog 9 = some false := by kernel_rfl
theorem tbytes_9 : tbytes Tryz.prog 9 = some 16 := by kernel_rfl
theorem tstr_9 : Tryz.prog.underlying 9 = some .string := by kernel_rfl
theorem zd_9 : zd Tryz.prog 9 = (D.lit (.string ⟨#[]⟩)) := by kernel_rfl
theorem zok_9 : ZeroOk Tryz.prog 9 (D.lit (.string ⟨#[]⟩)) := zeroOk_of (by kernel_rfl)
theorem tsz_12 : tsz Tryz.prog 12 = some 1 := by kernel_rfl
theorem tagg_12 : tagg Tryz.prog 12 = some false := by kernel_rfl
theorem tbytes_12 : tbytes Tryz.prog 12 = some 8 := by kernel_rfl
theorem tint_12 : tint Tryz.prog 12 = some .u64 := by kernel_rfl
theorem tund_12 : (Tryz.prog.underlying 12).isSome = true := by kernel_rfl
theorem zd_12 : zd Tryz.prog 12 = (D.lit (.int .u64 0)) := by kernel_rfl
theorem zok_12 : ZeroOk Tryz.prog 12 (D.lit (.int .u64 0)) := zeroOk_of (by kernel_rfl)
theorem tsz_13 : tsz Tryz.prog 13 = some 2 := by kernel_rfl
theorem tagg_13 : tagg Tryz.prog 13 = some true := by kernel_rfl
theorem tbytes_13 : tbytes Tryz.prog 13 = some 24 := by kernel_rfl
theorem tfield_13_0 : tfield Tryz.prog 13 0 = some (0, 9) := by kernel_rfl
theorem tfield_13_1 : tfield Tryz.prog 13 1 = some (1, 12) := by kernel_rfl
theorem tplaces_13 : tplaces Tryz.prog 13 = some [(0, 1), (1, 1)] := by kernel_rfl
theorem zd_13 : zd Tryz.prog 13 = (D.node (.agg [1, 1]) (nthD [(D.lit (.string ⟨#[]⟩)), (D.lit (.int .u64 0))])) := by kernel_rfl
theorem zok_13 : ZeroOk Tryz.prog 13 (D.node (.agg [1, 1]) (nthD [(D.lit (.string ⟨#[]⟩)), (D.lit (.int .u64 0))])) := zeroOk_of (by kernel_rfl)
theorem tsz_15 : tsz Tryz.prog 15 = some 1 := by kernel_rfl
theorem tagg_15 : tagg Tryz.prog 15 = some false := by kernel_rfl
theorem tbytes_15 : tbytes Tryz.prog 15 = some 8 := by kernel_rfl
theorem tsz_16 : tsz Tryz.prog 16 = some 1 := by kernel_rfl
theorem tagg_16 : tagg Tryz.prog 16 = some false := by kernel_rfl
theorem tbytes_16 : tbytes Tryz.prog 16 = some 8 := by kernel_rfl
theorem tsz_17 : tsz Tryz.prog 17 = some 1 := by kernel_rfl
theorem tagg_17 : tagg Tryz.prog 17 = some false := by kernel_rfl
theorem tbytes_17 : tbytes Tryz.prog 17 = some 8 := by kernel_rfl
theorem tsz_18 : tsz Tryz.prog 18 = some 1 := by kernel_rfl
theorem tagg_18 : tagg Tryz.prog 18 = some true := by kernel_rfl
theorem tbytes_18 : tbytes Tryz.prog 18 = some 8 := by kernel_rfl
theorem tfield_18_0 : tfield Tryz.prog 18 0 = some (0, 17) := by kernel_rfl
theorem tplaces_18 : tplaces Tryz.prog 18 = some [(0, 1)] := by kernel_rfl
theorem tsz_21 : tsz Tryz.prog 21 = some 1 := by kernel_rfl
theorem tagg_21 : tagg Tryz.prog 21 = some false := by kernel_rfl
theorem tbytes_21 : tbytes Tryz.prog 21 = some 4 := by kernel_rfl
theorem tint_21 : tint Tryz.prog 21 = some .i32 := by kernel_rfl
theorem tund_21 : (Tryz.prog.underlying 21).isSome = true := by kernel_rfl
theorem zd_21 : zd Tryz.prog 21 = (D.lit (.int .i32 0)) := by kernel_rfl
theorem zok_21 : ZeroOk Tryz.prog 21 (D.lit (.int .i32 0)) := zeroOk_of (by kernel_rfl)
theorem tsz_22 : tsz Tryz.prog 22 = some 1 := by kernel_rfl
theorem tagg_22 : tagg Tryz.prog 22 = some false := by kernel_rfl
theorem tbytes_22 : tbytes Tryz.prog 22 = some 24 := by kernel_rfl
theorem telem_22 : telem Tryz.prog 22 = some 3 := by kernel_rfl
theorem zd_22 : zd Tryz.prog 22 = D.nil := by kernel_rfl
theorem zok_22 : ZeroOk Tryz.prog 22 D.nil := zeroOk_of (by kernel_rfl)
theorem tsz_23 : tsz Tryz.prog 23 = some 3 := by kernel_rfl
theorem tagg_23 : tagg Tryz.prog 23 = some true := by kernel_rfl
theorem tbytes_23 : tbytes Tryz.prog 23 = some 56 := by kernel_rfl
theorem tfield_23_0 : tfield Tryz.prog 23 0 = some (0, 3) := by kernel_rfl
theorem tfield_23_1 : tfield Tryz.prog 23 1 = some (1, 22) := by kernel_rfl
theorem tfield_23_2 : tfield Tryz.prog 23 2 = some (2, 22) := by kernel_rfl
theorem tplaces_23 : tplaces Tryz.prog 23 = some [(0, 1), (1, 1), (2, 1)] := by kernel_rfl
theorem zd_23 : zd Tryz.prog 23 = (D.node (.agg [1, 1, 1]) (nthD [(D.lit (.int .i64 0)), D.nil, D.nil])) := by kernel_rfl
theorem zok_23 : ZeroOk Tryz.prog 23 (D.node (.agg [1, 1, 1]) (nthD [(D.lit (.int .i64 0)), D.nil, D.nil])) := zeroOk_of (by kernel_rfl)
theorem tsz_24 : tsz Tryz.prog 24 = some 3 := by kernel_rfl
theorem tagg_24 : tagg Tryz.prog 24 = some true := by kernel_rfl
theorem tbytes_24 : tbytes Tryz.prog 24 = some 56 := by kernel_rfl
theorem tfield_24_0 : tfield Tryz.prog 24 0 = some (0, 3) := by kernel_rfl
theorem tfield_24_1 : tfield Tryz.prog 24 1 = some (1, 22) := by kernel_rfl
theorem tfield_24_2 : tfield Tryz.prog 24 2 = some (2, 22) := by kernel_rfl
theorem tplaces_24 : tplaces Tryz.prog 24 = some [(0, 1), (1, 1), (2, 1)] := by kernel_rfl
theorem zd_24 : zd Tryz.prog 24 = (D.node (.agg [1, 1, 1]) (nthD [(D.lit (.int .i64 0)), D.nil, D.nil])) := by kernel_rfl
theorem zok_24 : ZeroOk Tryz.prog 24 (D.node (.agg [1, 1, 1]) (nthD [(D.lit (.int .i64 0)), D.nil, D.nil])) := zeroOk_of (by kernel_rfl)
theorem tsz_25 : tsz Tryz.prog 25 = some 4 := by kernel_rfl
theorem tagg_25 : tagg Tryz.prog 25 = some true := by kernel_rfl
theorem tbytes_25 : tbytes Tryz.prog 25 = some 64 := by kernel_rfl
theorem tfield_25_0 : tfield Tryz.prog 25 0 = some (0, 4) := by kernel_rfl
theorem tfield_25_1 : tfield Tryz.prog 25 1 = some (1, 24) := by kernel_rfl
theorem tplaces_25 : tplaces Tryz.prog 25 = some [(0, 1), (1, 3)] := by kernel_rfl
theorem zd_25 : zd Tryz.prog 25 = (D.node (.agg [1, 3]) (nthD [(D.lit (.bool false)), (D.node (.agg [1, 1, 1]) (nthD [(D.lit (.int .i64 0)), D.nil, D.nil]))])) := by kernel_rfl
theorem zok_25 : ZeroOk Tryz.prog 25 (D.node (.agg [1, 3]) (nthD [(D.lit (.bool false)), (D.node (.agg [1, 1, 1]) (nthD [(D.lit (.int .i64 0)), D.nil, D.nil]))])) := zeroOk_of (by kernel_rfl)
theorem tsz_26 : tsz Tryz.prog 26 = some 4 := by kernel_rfl
theorem tagg_26 : tagg Tryz.prog 26 = some true := by kernel_rfl
theorem tbytes_26 : tbytes Tryz.prog 26 = some 64 := by kernel_rfl
theorem tfield_26_0 : tfield Tryz.prog 26 0 = some (0, 4) := by kernel_rfl
theorem tfield_26_1 : tfield Tryz.prog 26 1 = some (1, 24) := by kernel_rfl
theorem tplaces_26 : tplaces Tryz.prog 26 = some [(0, 1), (1, 3)] := by kernel_rfl
theorem zd_26 : zd Tryz.prog 26 = (D.node (.agg [1, 3]) (nthD [(D.lit (.bool false)), (D.node (.agg [1, 1, 1]) (nthD [(D.lit (.int .i64 0)), D.nil, D.nil]))])) := by kernel_rfl
theorem zok_26 : ZeroOk Tryz.prog 26 (D.node (.agg [1, 3]) (nthD [(D.lit (.bool false)), (D.node (.agg [1, 1, 1]) (nthD [(D.lit (.int .i64 0)), D.nil, D.nil]))])) := zeroOk_of (by kernel_rfl)
theorem tsz_27 : tsz Tryz.prog 27 = some 16 := by kernel_rfl
theorem tagg_27 : tagg Tryz.prog 27 = some true := by kernel_rfl
theorem tbytes_27 : tbytes Tryz.prog 27 = some 256 := by kernel_rfl
theorem tarr_27 : tarr Tryz.prog 27 = some (4, 26) := by kernel_rfl
theorem zd_27 : zd Tryz.prog 27 = (D.node (.arr 4 4) fun _ => (D.node (.agg [1, 3]) (nthD [(D.lit (.bool false)), (D.node (.agg [1, 1, 1]) (nthD [(D.lit (.int .i64 0)), D.nil, D.nil]))]))) := by kernel_rfl
theorem zok_27 : ZeroOk Tryz.prog 27 (D.node (.arr 4 4) fun _ => (D.node (.agg [1, 3]) (nthD [(D.lit (.bool false)), (D.node (.agg [1, 1, 1]) (nthD [(D.lit (.int .i64 0)), D.nil, D.nil]))]))) := zeroOk_of (by kernel_rfl)
theorem tsz_28 : tsz Tryz.prog 28 = some 17 := by kernel_rfl
theorem tagg_28 : tagg Tryz.prog 28 = some true := by kernel_rfl
theorem tbytes_28 : tbytes Tryz.prog 28 = some 264 := by kernel_rfl
theorem tfield_28_0 : tfield Tryz.prog 28 0 = some (0, 3) := by kernel_rfl
theorem tfield_28_1 : tfield Tryz.prog 28 1 = some (1, 27) := by kernel_rfl
theorem tplaces_28 : tplaces Tryz.prog 28 = some [(0, 1), (1, 16)] := by kernel_rfl
theorem zd_28 : zd Tryz.prog 28 = (D.node (.agg [1, 16]) (nthD [(D.lit (.int .i64 0)), (D.node (.arr 4 4) fun _ => (D.node (.agg [1, 3]) (nthD [(D.lit (.bool false)), (D.node (.agg [1, 1, 1]) (nthD [(D.lit (.int .i64 0)), D.nil, D.nil]))])))])) := by kernel_rfl
theorem zok_28 : ZeroOk Tryz.prog 28 (D.node (.agg [1, 16]) (nthD [(D.lit (.int .i64 0)), (D.node (.arr 4 4) fun _ => (D.node (.agg [1, 3]) (nthD [(D.lit (.bool false)), (D.node (.agg [1, 1, 1]) (nthD [(D.lit (.int .i64 0)), D.nil, D.nil]))])))])) := zeroOk_of (by kernel_rfl)
theorem tsz_29 : tsz Tryz.prog 29 = some 17 := by kernel_rfl
theorem tagg_29 : tagg Tryz.prog 29 = some true := by kernel_rfl
theorem tbytes_29 : tbytes Tryz.prog 29 = some 264 := by kernel_rfl
theorem tfield_29_0 : tfield Tryz.prog 29 0 = some (0, 3) := by kernel_rfl
theorem tfield_29_1 : tfield Tryz.prog 29 1 = some (1, 27) := by kernel_rfl
theorem tplaces_29 : tplaces Tryz.prog 29 = some [(0, 1), (1, 16)] := by kernel_rfl
theorem zd_29 : zd Tryz.prog 29 = (D.node (.agg [1, 16]) (nthD [(D.lit (.int .i64 0)), (D.node (.arr 4 4) fun _ => (D.node (.agg [1, 3]) (nthD [(D.lit (.bool false)), (D.node (.agg [1, 1, 1]) (nthD [(D.lit (.int .i64 0)), D.nil, D.nil]))])))])) := by kernel_rfl
theorem zok_29 : ZeroOk Tryz.prog 29 (D.node (.agg [1, 16]) (nthD [(D.lit (.int .i64 0)), (D.node (.arr 4 4) fun _ => (D.node (.agg [1, 3]) (nthD [(D.lit (.bool false)), (D.node (.agg [1, 1, 1]) (nthD [(D.lit (.int .i64 0)), D.nil, D.nil]))])))])) := zeroOk_of (by kernel_rfl)
theorem tsz_30 : tsz Tryz.prog 30 = some 136 := by kernel_rfl
theorem tagg_30 : tagg Tryz.prog 30 = some true := by kernel_rfl
theorem tbytes_30 : tbytes Tryz.prog 30 = some 2112 := by kernel_rfl
theorem tarr_30 : tarr Tryz.prog 30 = some (8, 29) := by kernel_rfl
theorem zd_30 : zd Tryz.prog 30 = (D.node (.arr 8 17) fun _ => (D.node (.agg [1, 16]) (nthD [(D.lit (.int .i64 0)), (D.node (.arr 4 4) fun _ => (D.node (.agg [1, 3]) (nthD [(D.lit (.bool false)), (D.node (.agg [1, 1, 1]) (nthD [(D.lit (.int .i64 0)), D.nil, D.nil]))])))]))) := by kernel_rfl
theorem zok_30 : ZeroOk Tryz.prog 30 (D.node (.arr 8 17) fun _ => (D.node (.agg [1, 16]) (nthD [(D.lit (.int .i64 0)), (D.node (.arr 4 4) fun _ => (D.node (.agg [1, 3]) (nthD [(D.lit (.bool false)), (D.node (.agg [1, 1, 1]) (nthD [(D.lit (.int .i64 0)), D.nil, D.nil]))])))]))) := zeroOk_of (by kernel_rfl)
theorem tsz_31 : tsz Tryz.prog 31 = some 1 := by kernel_rfl
theorem tagg_31 : tagg Tryz.prog 31 = some false := by kernel_rfl
theorem tbytes_31 : tbytes Tryz.prog 31 = some 24 := by kernel_rfl
theorem telem_31 : telem Tryz.prog 31 = some 206 := by kernel_rfl
theorem zd_31 : zd Tryz.prog 31 = D.nil := by kernel_rfl
theorem zok_31 : ZeroOk Tryz.prog 31 D.nil := zeroOk_of (by kernel_rfl)
theorem tsz_32 : tsz Tryz.prog 32 = some 2 := by kernel_rfl
theorem tagg_32 : tagg Tryz.prog 32 = some true := by kernel_rfl
theorem tbytes_32 : tbytes Tryz.prog 32 = some 32 := by kernel_rfl
theorem tfield_32_0 : tfield Tryz.prog 32 0 = some (0, 31) := by kernel_rfl
theorem tfield_32_1 : tfield Tryz.prog 32 1 = some (1, 3) := by kernel_rfl
theorem tplaces_32 : tplaces Tryz.prog 32 = some [(0, 1), (1, 1)] := by kernel_rfl
theorem zd_32 : zd Tryz.prog 32 = (D.node (.agg [1, 1]) (nthD [D.nil, (D.lit (.int .i64 0))])) := by kernel_rfl
theorem zok_32 : ZeroOk Tryz.prog 32 (D.node (.agg [1, 1]) (nthD [D.nil, (D.lit (.int .i64 0))])) := zeroOk_of (by kernel_rfl)
theorem tsz_33 : tsz Tryz.prog 33 = some 2 := by kernel_rfl
theorem tagg_33 : tagg Tryz.prog 33 = some true := by kernel_rfl
theorem tbytes_33 : tbytes Tryz.prog 33 = some 32 := by kernel_rfl
theorem tfield_33_0 : tfield Tryz.prog 33 0 = some (0, 31) := by kernel_rfl
theorem tfield_33_1 : tfield Tryz.prog 33 1 = some (1, 3) := by kernel_rfl
theorem tplaces_33 : tplaces Tryz.prog 33 = some [(0, 1), (1, 1)] := by kernel_rfl
theorem zd_33 : zd Tryz.prog 33 = (D.node (.agg [1, 1]) (nthD [D.nil, (D.lit (.int .i64 0))])) := by kernel_rfl
theorem zok_33 : ZeroOk Tryz.prog 33 (D.node (.agg [1, 1]) (nthD [D.nil, (D.lit (.int .i64 0))])) := zeroOk_of (by kernel_rfl)
theorem tsz_34 : tsz Tryz.prog 34 = some 1 := by kernel_rfl
theorem tagg_34 : tagg Tryz.prog 34 = some false := by kernel_rfl
theorem tbytes_34 : tbytes Tryz.prog 34 = some 24 := by kernel_rfl
theorem telem_34 : telem Tryz.prog 34 = some 209 := by kernel_rfl
theorem zd_34 : zd Tryz.prog 34 = D.nil := by kernel_rfl
theorem zok_34 : ZeroOk Tryz.prog 34 D.nil := zeroOk_of (by kernel_rfl)
theorem tsz_35 : tsz Tryz.prog 35 = some 2 := by kernel_rfl
theorem tagg_35 : tagg Tryz.prog 35 = some true := by kernel_rfl
theorem tbytes_35 : tbytes Tryz.prog 35 = some 32 := by kernel_rfl
theorem tfield_35_0 : tfield Tryz.prog 35 0 = some (0, 34) := by kernel_rfl
theorem tfield_35_1 : tfield Tryz.prog 35 1 = some (1, 3) := by kernel_rfl
theorem tplaces_35 : tplaces Tryz.prog 35 = some [(0, 1), (1, 1)] := by kernel_rfl
theorem zd_35 : zd Tryz.prog 35 = (D.node (.agg [1, 1]) (nthD [D.nil, (D.lit (.int .i64 0))])) := by kernel_rfl
theorem zok_35 : ZeroOk Tryz.prog 35 (D.node (.agg [1, 1]) (nthD [D.nil, (D.lit (.int .i64 0))])) := zeroOk_of (by kernel_rfl)
theorem tsz_36 : tsz Tryz.prog 36 = some 2 := by kernel_rfl
theorem tagg_36 : tagg Tryz.prog 36 = some true := by kernel_rfl
theorem tbytes_36 : tbytes Tryz.prog 36 = some 32 := by kernel_rfl
theorem tfield_36_0 : tfield Tryz.prog 36 0 = some (0, 34) := by kernel_rfl
theorem tfield_36_1 : tfield Tryz.prog 36 1 = some (1, 3) := by kernel_rfl
theorem tplaces_36 : tplaces Tryz.prog 36 = some [(0, 1), (1, 1)] := by kernel_rfl
theorem zd_36 : zd Tryz.prog 36 = (D.node (.agg [1, 1]) (nthD [D.nil, (D.lit (.int .i64 0))])) := by kernel_rfl
theorem zok_36 : ZeroOk Tryz.prog 36 (D.node (.agg [1, 1]) (nthD [D.nil, (D.lit (.int .i64 0))])) := zeroOk_of (by kernel_rfl)
theorem tsz_37 : tsz Tryz.prog 37 = some 1 := by kernel_rfl
theorem tagg_37 : tagg Tryz.prog 37 = some false := by kernel_rfl
theorem tbytes_37 : tbytes Tryz.prog 37 = some 24 := by kernel_rfl
theorem telem_37 : telem Tryz.prog 37 = some 159 := by kernel_rfl
theorem zd_37 : zd Tryz.prog 37 = D.nil := by kernel_rfl
theorem zok_37 : ZeroOk Tryz.prog 37 D.nil := zeroOk_of (by kernel_rfl)
theorem tsz_38 : tsz Tryz.prog 38 = some 1 := by kernel_rfl
theorem tagg_38 : tagg Tryz.prog 38 = some false := by kernel_rfl
theorem tbytes_38 : tbytes Tryz.prog 38 = some 24 := by kernel_rfl
theorem telem_38 : telem Tryz.prog 38 = some 161 := by kernel_rfl
theorem zd_38 : zd Tryz.prog 38 = D.nil := by kernel_rfl
theorem zok_38 : ZeroOk Tryz.prog 38 D.nil := zeroOk_of (by kernel_rfl)
theorem tsz_39 : tsz Tryz.prog 39 = some 144 := by kernel_rfl
theorem tagg_39 : tagg Tryz.prog 39 = some true := by kernel_rfl
theorem tbytes_39 : tbytes Tryz.prog 39 = some 2240 := by kernel_rfl
theorem tfield_39_0 : tfield Tryz.prog 39 0 = some (0, 30) := by kernel_rfl
theorem tfield_39_1 : tfield Tryz.prog 39 1 = some (136, 33) := by kernel_rfl
theorem tfield_39_2 : tfield Tryz.prog 39 2 = some (138, 36) := by kernel_rfl
theorem tfield_39_3 : tfield Tryz.prog 39 3 = some (140, 37) := by kernel_rfl
theorem tfield_39_4 : tfield Tryz.prog 39 4 = some (141, 38) := by kernel_rfl
theorem tfield_39_5 : tfield Tryz.prog 39 5 = some (142, 3) := by kernel_rfl
theorem tfield_39_6 : tfield Tryz.prog 39 6 = some (143, 4) := by kernel_rfl
theorem tplaces_39 : tplaces Tryz.prog 39 = some [(0, 136), (136, 2), (138, 2), (140, 1), (141, 1), (142, 1), (143, 1)] := by kernel_rfl
theorem zd_39 : zd Tryz.prog 39 = (D.node (.agg [136, 2, 2, 1, 1, 1, 1]) (nthD [(D.node (.arr 8 17) fun _ => (D.node (.agg [1, 16]) (nthD [(D.lit (.int .i64 0)), (D.node (.arr 4 4) fun _ => (D.node (.agg [1, 3]) (nthD [(D.lit (.bool false)), (D.node (.agg [1, 1, 1]) (nthD [(D.lit (.int .i64 0)), D.nil, D.nil]))])))]))), (D.node (.agg [1, 1]) (nthD [D.nil, (D.lit (.int .i64 0))])), (D.node (.agg [1, 1]) (nthD [D.nil, (D.lit (.int .i64 0))])), D.nil, D.nil, (D.lit (.int .i64 0)), (D.lit (.bool false))])) := by kernel_rfl
theorem zok_39 : ZeroOk Tryz.prog 39 (D.node (.agg [136, 2, 2, 1, 1, 1, 1]) (nthD [(D.node (.arr 8 17) fun _ => (D.node (.agg [1, 16]) (nthD [(D.lit (.int .i64 0)), (D.node (.arr 4 4) fun _ => (D.node (.agg [1, 3]) (nthD [(D.lit (.bool false)), (D.node (.agg [1, 1, 1]) (nthD [(D.lit (.int .i64 0)), D.nil, D.nil]))])))]))), (D.node (.agg [1, 1]) (nthD [D.nil, (D.lit (.int .i64 0))])), (D.node (.agg [1, 1]) (nthD [D.nil, (D.lit (.int .i64 0))])), D.nil, D.nil, (D.lit (.int .i64 0)), (D.lit (.bool false))])) := zeroOk_of (by kernel_rfl)
theorem tsz_40 : tsz Tryz.prog 40 = some 144 := by kernel_rfl
theorem tagg_40 : tagg Tryz.prog 40 = some true := by kernel_rfl
theorem tbytes_40 : tbytes Tryz.prog 40 = some 2240 := by kernel_rfl
theorem tfield_40_0 : tfield Tryz.prog 40 0 = some (0, 30) := by kernel_rfl
theorem tfield_40_1 : tfield Tryz.prog 40 1 = some (136, 33) := by kernel_rfl
theorem tfield_40_2 : tfield Tryz.prog 40 2 = some (138, 36) := by kernel_rfl
theorem tfield_40_3 : tfield Tryz.prog 40 3 = some (140, 37) := by kernel_rfl
theorem tfield_40_4 : tfield Tryz.prog 40 4 = some (141, 38) := by kernel_rfl
theorem tfield_40_5 : tfield Tryz.prog 40 5 = some (142, 3) := by kernel_rfl
theorem tfield_40_6 : tfield Tryz.prog 40 6 = some (143, 4) := by kernel_rfl
theorem tplaces_40 : tplaces Tryz.prog 40 = some [(0, 136), (136, 2), (138, 2), (140, 1), (141, 1), (142, 1), (143, 1)] := by kernel_rfl
theorem zd_40 : zd Tryz.prog 40 = (D.node (.agg [136, 2, 2, 1, 1, 1, 1]) (nthD [(D.node (.arr 8 17) fun _ => (D.node (.agg [1, 16]) (nthD [(D.lit (.int .i64 0)), (D.node (.arr 4 4) fun _ => (D.node (.agg [1, 3]) (nthD [(D.lit (.bool false)), (D.node (.agg [1, 1, 1]) (nthD [(D.lit (.int .i64 0)), D.nil, D.nil]))])))]))), (D.node (.agg [1, 1]) (nthD [D.nil, (D.lit (.int .i64 0))])), (D.node (.agg [1, 1]) (nthD [D.nil, (D.lit (.int .i64 0))])), D.nil, D.nil, (D.lit (.int .i64 0)), (D.lit (.bool false))])) := by kernel_rfl
theorem zok_40 : ZeroOk Tryz.prog 40 (D.node (.agg [136, 2, 2, 1, 1, 1, 1]) (nthD [(D.node (.arr 8 17) fun _ => (D.node (.agg [1, 16]) (nthD [(D.lit (.int .i64 0)), (D.node (.arr 4 4) fun _ => (D.node (.agg [1, 3]) (nthD [(D.lit (.bool false)), (D.node (.agg [1, 1, 1]) (nthD [(D.lit (.int .i64 0)), D.nil, D.nil]))])))]))), (D.node (.agg [1, 1]) (nthD [D.nil, (D.lit (.int .i64 0))])), (D.node (.agg [1, 1]) (nthD [D.nil, (D.lit (.int .i64 0))])), D.nil, D.nil, (D.lit (.int .i64 0)), (D.lit (.bool false))])) := zeroOk_of (by kernel_rfl)
theorem tsz_43 : tsz Tryz.prog 43 = some 3 := by kernel_rfl
theorem tagg_43 : tagg Tryz.prog 43 = some true := by kernel_rfl
theorem tbytes_43 : tbytes Tryz.prog 43 = some 56 := by kernel_rfl
theorem tfield_43_0 : tfield Tryz.prog 43 0 = some (0, 3) := by kernel_rfl
theorem tfield_43_1 : tfield Tryz.prog 43 1 = some (1, 22) := by kernel_rfl
theorem tfield_43_2 : tfield Tryz.prog 43 2 = some (2, 22) := by kernel_rfl
theorem tplaces_43 : tplaces Tryz.prog 43 = some [(0, 1), (1, 1), (2, 1)] := by kernel_rfl
theorem zd_43 : zd Tryz.prog 43 = (D.node (.agg [1, 1, 1]) (nthD [(D.lit (.int .i64 0)), D.nil, D.nil])) := by kernel_rfl
theorem zok_43 : ZeroOk Tryz.prog 43 (D.node (.agg [1, 1, 1]) (nthD [(D.lit (.int .i64 0)), D.nil, D.nil])) := zeroOk_of (by kernel_rfl)
theorem tsz_44 : tsz Tryz.prog 44 = some 4 := by kernel_rfl
theorem tagg_44 : tagg Tryz.prog 44 = some true := by kernel_rfl
theorem tbytes_44 : tbytes Tryz.prog 44 = some 64 := by kernel_rfl
theorem tfield_44_0 : tfield Tryz.prog 44 0 = some (0, 4) := by kernel_rfl
theorem tfield_44_1 : tfield Tryz.prog 44 1 = some (1, 43) := by kernel_rfl
theorem tplaces_44 : tplaces Tryz.prog 44 = some [(0, 1), (1, 3)] := by kernel_rfl
theorem zd_44 : zd Tryz.prog 44 = (D.node (.agg [1, 3]) (nthD [(D.lit (.bool false)), (D.node (.agg [1, 1, 1]) (nthD [(D.lit (.int .i64 0)), D.nil, D.nil]))])) := by kernel_rfl
theorem zok_44 : ZeroOk Tryz.prog 44 (D.node (.agg [1, 3]) (nthD [(D.lit (.bool false)), (D.node (.agg [1, 1, 1]) (nthD [(D.lit (.int .i64 0)), D.nil, D.nil]))])) := zeroOk_of (by kernel_rfl)
theorem tsz_45 : tsz Tryz.prog 45 = some 4 := by kernel_rfl
theorem tagg_45 : tagg Tryz.prog 45 = some true := by kernel_rfl
theorem tbytes_45 : tbytes Tryz.prog 45 = some 64 := by kernel_rfl
theorem tfield_45_0 : tfield Tryz.prog 45 0 = some (0, 4) := by kernel_rfl
theorem tfield_45_1 : tfield Tryz.prog 45 1 = some (1, 43) := by kernel_rfl
theorem tplaces_45 : tplaces Tryz.prog 45 = some [(0, 1), (1, 3)] := by kernel_rfl
theorem zd_45 : zd Tryz.prog 45 = (D.node (.agg [1, 3]) (nthD [(D.lit (.bool false)), (D.node (.agg [1, 1, 1]) (nthD [(D.lit (.int .i64 0)), D.nil, D.nil]))])) := by kernel_rfl
theorem zok_45 : ZeroOk Tryz.prog 45 (D.node (.agg [1, 3]) (nthD [(D.lit (.bool false)), (D.node (.agg [1, 1, 1]) (nthD [(D.lit (.int .i64 0)), D.nil, D.nil]))])) := zeroOk_of (by kernel_rfl)
theorem tsz_46 : tsz Tryz.prog 46 = some 16 := by kernel_rfl
theorem tagg_46 : tagg Tryz.prog 46 = some true := by kernel_rfl
theorem tbytes_46 : tbytes Tryz.prog 46 = some 256 := by kernel_rfl
theorem tarr_46 : tarr Tryz.prog 46 = some (4, 45) := by kernel_rfl
theorem zd_46 : zd Tryz.prog 46 = (D.node (.arr 4 4) fun _ => (D.node (.agg [1, 3]) (nthD [(D.lit (.bool false)), (D.node (.agg [1, 1, 1]) (nthD [(D.lit (.int .i64 0)), D.nil, D.nil]))]))) := by kernel_rfl
theorem zok_46 : ZeroOk Tryz.prog 46 (D.node (.arr 4 4) fun _ => (D.node (.agg [1, 3]) (nthD [(D.lit (.bool false)), (D.node (.agg [1, 1, 1]) (nthD [(D.lit (.int .i64 0)), D.nil, D.nil]))]))) := zeroOk_of (by kernel_rfl)
theorem tsz_47 : tsz Tryz.prog 47 = some 17 := by kernel_rfl
theorem tagg_47 : tagg Tryz.prog 47 = some true := by kernel_rfl
theorem tbytes_47 : tbytes Tryz.prog 47 = some 264 := by kernel_rfl
theorem tfield_47_0 : tfield Tryz.prog 47 0 = some (0, 3) := by kernel_rfl
theorem tfield_47_1 : tfield Tryz.prog 47 1 = some (1, 46) := by kernel_rfl
theorem tplaces_47 : tplaces Tryz.prog 47 = some [(0, 1), (1, 16)] := by kernel_rfl
theorem zd_47 : zd Tryz.prog 47 = (D.node (.agg [1, 16]) (nthD [(D.lit (.int .i64 0)), (D.node (.arr 4 4) fun _ => (D.node (.agg [1, 3]) (nthD [(D.lit (.bool false)), (D.node (.agg [1, 1, 1]) (nthD [(D.lit (.int .i64 0)), D.nil, D.nil]))])))])) := by kernel_rfl
theorem zok_47 : ZeroOk Tryz.prog 47 (D.node (.agg [1, 16]) (nthD [(D.lit (.int .i64 0)), (D.node (.arr 4 4) fun _ => (D.node (.agg [1, 3]) (nthD [(D.lit (.bool false)), (D.node (.agg [1, 1, 1]) (nthD [(D.lit (.int .i64 0)), D.nil, D.nil]))])))])) := zeroOk_of (by kernel_rfl)
theorem tsz_48 : tsz Tryz.prog 48 = some 17 := by kernel_rfl
theorem tagg_48 : tagg Tryz.prog 48 = some true := by kernel_rfl
theorem tbytes_48 : tbytes Tryz.prog 48 = some 264 := by kernel_rfl
theorem tfield_48_0 : tfield Tryz.prog 48 0 = some (0, 3) := by kernel_rfl
theorem tfield_48_1 : tfield Tryz.prog 48 1 = some (1, 46) := by kernel_rfl
theorem tplaces_48 : tplaces Tryz.prog 48 = some [(0, 1), (1, 16)] := by kernel_rfl
theorem zd_48 : zd Tryz.prog 48 = (D.node (.agg [1, 16]) (nthD [(D.lit (.int .i64 0)), (D.node (.arr 4 4) fun _ => (D.node (.agg [1, 3]) (nthD [(D.lit (.bool false)), (D.node (.agg [1, 1, 1]) (nthD [(D.lit (.int .i64 0)), D.nil, D.nil]))])))])) := by kernel_rfl
theorem zok_48 : ZeroOk Tryz.prog 48 (D.node (.agg [1, 16]) (nthD [(D.lit (.int .i64 0)), (D.node (.arr 4 4) fun _ => (D.node (.agg [1, 3]) (nthD [(D.lit (.bool false)), (D.node (.agg [1, 1, 1]) (nthD [(D.lit (.int .i64 0)), D.nil, D.nil]))])))])) := zeroOk_of (by kernel_rfl)
theorem tsz_49 : tsz Tryz.prog 49 = some 136 := by kernel_rfl
theorem tagg_49 : tagg Tryz.prog 49 = some true := by kernel_rfl
theorem tbytes_49 : tbytes Tryz.prog 49 = some 2112 := by kernel_rfl
theorem tarr_49 : tarr Tryz.prog 49 = some (8, 48) := by kernel_rfl
theorem zd_49 : zd Tryz.prog 49 = (D.node (.arr 8 17) fun _ => (D.node (.agg [1, 16]) (nthD [(D.lit (.int .i64 0)), (D.node (.arr 4 4) fun _ => (D.node (.agg [1, 3]) (nthD [(D.lit (.bool false)), (D.node (.agg [1, 1, 1]) (nthD [(D.lit (.int .i64 0)), D.nil, D.nil]))])))]))) := by kernel_rfl
theorem zok_49 : ZeroOk Tryz.prog 49 (D.node (.arr 8 17) fun _ => (D.node (.agg [1, 16]) (nthD [(D.lit (.int .i64 0)), (D.node (.arr 4 4) fun _ => (D.node (.agg [1, 3]) (nthD [(D.lit (.bool false)), (D.node (.agg [1, 1, 1]) (nthD [(D.lit (.int .i64 0)), D.nil, D.nil]))])))]))) := zeroOk_of (by kernel_rfl)
theorem tsz_50 : tsz Tryz.prog 50 = some 1 := by kernel_rfl
theorem tagg_50 : tagg Tryz.prog 50 = some false := by kernel_rfl
theorem tbytes_50 : tbytes Tryz.prog 50 = some 24 := by kernel_rfl
theorem telem_50 : telem Tryz.prog 50 = some 143 := by kernel_rfl
theorem zd_50 : zd Tryz.prog 50 = D.nil := by kernel_rfl
theorem zok_50 : ZeroOk Tryz.prog 50 D.nil := zeroOk_of (by kernel_rfl)
theorem tsz_51 : tsz Tryz.prog 51 = some 2 := by kernel_rfl
theorem tagg_51 : tagg Tryz.prog 51 = some true := by kernel_rfl
theorem tbytes_51 : tbytes Tryz.prog 51 = some 32 := by kernel_rfl
theorem tfield_51_0 : tfield Tryz.prog 51 0 = some (0, 50) := by kernel_rfl
theorem tfield_51_1 : tfield Tryz.prog 51 1 = some (1, 3) := by kernel_rfl
theorem tplaces_51 : tplaces Tryz.prog 51 = some [(0, 1), (1, 1)] := by kernel_rfl
theorem zd_51 : zd Tryz.prog 51 = (D.node (.agg [1, 1]) (nthD [D.nil, (D.lit (.int .i64 0))])) := by kernel_rfl
theorem zok_51 : ZeroOk Tryz.prog 51 (D.node (.agg [1, 1]) (nthD [D.nil, (D.lit (.int .i64 0))])) := zeroOk_of (by kernel_rfl)
theorem tsz_52 : tsz Tryz.prog 52 = some 2 := by kernel_rfl
theorem tagg_52 : tagg Tryz.prog 52 = some true := by kernel_rfl
theorem tbytes_52 : tbytes Tryz.prog 52 = some 32 := by kernel_rfl
theorem tfield_52_0 : tfield Tryz.prog 52 0 = some (0, 50) := by kernel_rfl
theorem tfield_52_1 : tfield Tryz.prog 52 1 = some (1, 3) := by kernel_rfl
theorem tplaces_52 : tplaces Tryz.prog 52 = some [(0, 1), (1, 1)] := by kernel_rfl
theorem zd_52 : zd Tryz.prog 52 = (D.node (.agg [1, 1]) (nthD [D.nil, (D.lit (.int .i64 0))])) := by kernel_rfl
theorem zok_52 : ZeroOk Tryz.prog 52 (D.node (.agg [1, 1]) (nthD [D.nil, (D.lit (.int .i64 0))])) := zeroOk_of (by kernel_rfl)
theorem tsz_53 : tsz Tryz.prog 53 = some 1 := by kernel_rfl
theorem tagg_53 : tagg Tryz.prog 53 = some false := by kernel_rfl
theorem tbytes_53 : tbytes Tryz.prog 53 = some 24 := by kernel_rfl
theorem telem_53 : telem Tryz.prog 53 = some 107 := by kernel_rfl
theorem zd_53 : zd Tryz.prog 53 = D.nil := by kernel_rfl
theorem zok_53 : ZeroOk Tryz.prog 53 D.nil := zeroOk_of (by kernel_rfl)
theorem tsz_54 : tsz Tryz.prog 54 = some 2 := by kernel_rfl
theorem tagg_54 : tagg Tryz.prog 54 = some true := by kernel_rfl
theorem tbytes_54 : tbytes Tryz.prog 54 = some 32 := by kernel_rfl
theorem tfield_54_0 : tfield Tryz.prog 54 0 = some (0, 53) := by kernel_rfl
theorem tfield_54_1 : tfield Tryz.prog 54 1 = some (1, 3) := by kernel_rfl
theorem tplaces_54 : tplaces Tryz.prog 54 = some [(0, 1), (1, 1)] := by kernel_rfl
theorem zd_54 : zd Tryz.prog 54 = (D.node (.agg [1, 1]) (nthD [D.nil, (D.lit (.int .i64 0))])) := by kernel_rfl
theorem zok_54 : ZeroOk Tryz.prog 54 (D.node (.agg [1, 1]) (nthD [D.nil, (D.lit (.int .i64 0))])) := zeroOk_of (by kernel_rfl)
theorem tsz_55 : tsz Tryz.prog 55 = some 2 := by kernel_rfl
theorem tagg_55 : tagg Tryz.prog 55 = some true := by kernel_rfl
theorem tbytes_55 : tbytes Tryz.prog 55 = some 32 := by kernel_rfl
theorem tfield_55_0 : tfield Tryz.prog 55 0 = some (0, 53) := by kernel_rfl
theorem tfield_55_1 : tfield Tryz.prog 55 1 = some (1, 3) := by kernel_rfl
theorem tplaces_55 : tplaces Tryz.prog 55 = some [(0, 1), (1, 1)] := by kernel_rfl
theorem zd_55 : zd Tryz.prog 55 = (D.node (.agg [1, 1]) (nthD [D.nil, (D.lit (.int .i64 0))])) := by kernel_rfl
theorem zok_55 : ZeroOk Tryz.prog 55 (D.node (.agg [1, 1]) (nthD [D.nil, (D.lit (.int .i64 0))])) := zeroOk_of (by kernel_rfl)
theorem tsz_56 : tsz Tryz.prog 56 = some 1 := by kernel_rfl
theorem tagg_56 : tagg Tryz.prog 56 = some false := by kernel_rfl
theorem tbytes_56 : tbytes Tryz.prog 56 = some 24 := by kernel_rfl
theorem telem_56 : telem Tryz.prog 56 = some 103 := by kernel_rfl
theorem zd_56 : zd Tryz.prog 56 = D.nil := by kernel_rfl
theorem zok_56 : ZeroOk Tryz.prog 56 D.nil := zeroOk_of (by kernel_rfl)
theorem tsz_57 : tsz Tryz.prog 57 = some 1 := by kernel_rfl
theorem tagg_57 : tagg Tryz.prog 57 = some false := by kernel_rfl
theorem tbytes_57 : tbytes Tryz.prog 57 = some 24 := by kernel_rfl
theorem telem_57 : telem Tryz.prog 57 = some 101 := by kernel_rfl
theorem zd_57 : zd Tryz.prog 57 = D.nil := by kernel_rfl
theorem zok_57 : ZeroOk Tryz.prog 57 D.nil := zeroOk_of (by kernel_rfl)
theorem tsz_58 : tsz Tryz.prog 58 = some 144 := by kernel_rfl
theorem tagg_58 : tagg Tryz.prog 58 = some true := by kernel_rfl
theorem tbytes_58 : tbytes Tryz.prog 58 = some 2240 := by kernel_rfl
theorem tfield_58_0 : tfield Tryz.prog 58 0 = some (0, 49) := by kernel_rfl
theorem tfield_58_1 : tfield Tryz.prog 58 1 = some (136, 52) := by kernel_rfl
theorem tfield_58_2 : tfield Tryz.prog 58 2 = some (138, 55) := by kernel_rfl
theorem tfield_58_3 : tfield Tryz.prog 58 3 = some (140, 56) := by kernel_rfl
theorem tfield_58_4 : tfield Tryz.prog 58 4 = some (141, 57) := by kernel_rfl
theorem tfield_58_5 : tfield Tryz.prog 58 5 = some (142, 3) := by kernel_rfl
theorem tfield_58_6 : tfield Tryz.prog 58 6 = some (143, 4) := by kernel_rfl
theorem tplaces_58 : tplaces Tryz.prog 58 = some [(0, 136), (136, 2), (138, 2), (140, 1), (141, 1), (142, 1), (143, 1)] := by kernel_rfl
theorem zd_58 : zd Tryz.prog 58 = (D.node (.agg [136, 2, 2, 1, 1, 1, 1]) (nthD [(D.node (.arr 8 17) fun _ => (D.node (.agg [1, 16]) (nthD [(D.lit (.int .i64 0)), (D.node (.arr 4 4) fun _ => (D.node (.agg [1, 3]) (nthD [(D.lit (.bool false)), (D.node (.agg [1, 1, 1]) (nthD [(D.lit (.int .i64 0)), D.nil, D.nil]))])))]))), (D.node (.agg [1, 1]) (nthD [D.nil, (D.lit (.int .i64 0))])), (D.node (.agg [1, 1]) (nthD [D.nil, (D.lit (.int .i64 0))])), D.nil, D.nil, (D.lit (.int .i64 0)), (D.lit (.bool false))])) := by kernel_rfl
theorem zok_58 : ZeroOk Tryz.prog 58 (D.node (.agg [136, 2, 2, 1, 1, 1, 1]) (nthD [(D.node (.arr 8 17) fun _ => (D.node (.agg [1, 16]) (nthD [(D.lit (.int .i64 0)), (D.node (.arr 4 4) fun _ => (D.node (.agg [1, 3]) (nthD [(D.lit (.bool false)), (D.node (.agg [1, 1, 1]) (nthD [(D.lit (.int .i64 0)), D.nil, D.nil]))])))]))), (D.node (.agg [1, 1]) (nthD [D.nil, (D.lit (.int .i64 0))])), (D.node (.agg [1, 1]) (nthD [D.nil, (D.lit (.int .i64 0))])), D.nil, D.nil, (D.lit (.int .i64 0)), (D.lit (.bool false))])) := zeroOk_of (by kernel_rfl)
theorem tsz_59 : tsz Tryz.prog 59 = some 144 := by kernel_rfl
theorem tagg_59 : tagg Tryz.prog 59 = some true := by kernel_rfl
theorem tbytes_59 : tbytes Tryz.prog 59 = some 2240 := by kernel_rfl
theorem tfield_59_0 : tfield Tryz.prog 59 0 = some (0, 49) := by kernel_rfl
theorem tfield_59_1 : tfield Tryz.prog 59 1 = some (136, 52) := by kernel_rfl
theorem tfield_59_2 : tfield Tryz.prog 59 2 = some (138, 55) := by kernel_rfl
theorem tfield_59_3 : tfield Tryz.prog 59 3 = some (140, 56) := by kernel_rfl
theorem tfield_59_4 : tfield Tryz.prog 59 4 = some (141, 57) := by kernel_rfl
theorem tfield_59_5 : tfield Tryz.prog 59 5 = some (142, 3) := by kernel_rfl
theorem tfield_59_6 : tfield Tryz.prog 59 6 = some (143, 4) := by kernel_rfl
theorem tplaces_59 : tplaces Tryz.prog 59 = some [(0, 136), (136, 2), (138, 2), (140, 1), (141, 1), (142, 1), (143, 1)] := by kernel_rfl
theorem zd_59 : zd Tryz.prog 59 = (D.node (.agg [136, 2, 2, 1, 1, 1, 1]) (nthD [(D.node (.arr 8 17) fun _ => (D.node (.agg [1, 16]) (nthD [(D.lit (.int .i64 0)), (D.node (.arr 4 4) fun _ => (D.node (.agg [1, 3]) (nthD [(D.lit (.bool false)), (D.node (.agg [1, 1, 1]) (nthD [(D.lit (.int .i64 0)), D.nil, D.nil]))])))]))), (D.node (.agg [1, 1]) (nthD [D.nil, (D.lit (.int .i64 0))])), (D.node (.agg [1, 1]) (nthD [D.nil, (D.lit (.int .i64 0))])), D.nil, D.nil, (D.lit (.int .i64 0)), (D.lit (.bool false))])) := by kernel_rfl
theorem zok_59 : ZeroOk Tryz.prog 59 (D.node (.agg [136, 2, 2, 1, 1, 1, 1]) (nthD [(D.node (.arr 8 17) fun _ => (D.node (.agg [1, 16]) (nthD [(D.lit (.int .i64 0)), (D.node (.arr 4 4) fun _ => (D.node (.agg [1, 3]) (nthD [(D.lit (.bool false)), (D.node (.agg [1, 1, 1]) (nthD [(D.lit (.int .i64 0)), D.nil, D.nil]))])))]))), (D.node (.agg [1, 1]) (nthD [D.nil, (D.lit (.int .i64 0))])), (D.node (.agg [1, 1]) (nthD [D.nil, (D.lit (.int .i64 0))])), D.nil, D.nil, (D.lit (.int .i64 0)), (D.lit (.bool false))])) := zeroOk_of (by kernel_rfl)
theorem tsz_91 : tsz Tryz.prog 91 = some 1 := by kernel_rfl
theorem tagg_91 : tagg Tryz.prog 91 = some false := by kernel_rfl
theorem tbytes_91 : tbytes Tryz.prog 91 = some 8 := by kernel_rfl
theorem tsz_100 : tsz Tryz.prog 100 = some 2 := by kernel_rfl
theorem tagg_100 : tagg Tryz.prog 100 = some true := by kernel_rfl
theorem tbytes_100 : tbytes Tryz.prog 100 = some 16 := by kernel_rfl
theorem tfield_100_0 : tfield Tryz.prog 100 0 = some (0, 3) := by kernel_rfl
theorem tfield_100_1 : tfield Tryz.prog 100 1 = some (1, 3) := by kernel_rfl
theorem tplaces_100 : tplaces Tryz.prog 100 = some [(0, 1), (1, 1)] := by kernel_rfl
theorem zd_100 : zd Tryz.prog 100 = (D.node (.agg [1, 1]) (nthD [(D.lit (.int .i64 0)), (D.lit (.int .i64 0))])) := by kernel_rfl
theorem zok_100 : ZeroOk Tryz.prog 100 (D.node (.agg [1, 1]) (nthD [(D.lit (.int .i64 0)), (D.lit (.int .i64 0))])) := zeroOk_of (by kernel_rfl)
theorem tsz_101 : tsz Tryz.prog 101 = some 2 := by kernel_rfl
theorem tagg_101 : tagg Tryz.prog 101 = some true := by kernel_rfl
theorem tbytes_101 : tbytes Tryz.prog 101 = some 16 := by kernel_rfl
theorem tfield_101_0 : tfield Tryz.prog 101 0 = some (0, 3) := by kernel_rfl
theorem tfield_101_1 : tfield Tryz.prog 101 1 = some (1, 3) := by kernel_rfl
theorem tplaces_101 : tplaces Tryz.prog 101 = some [(0, 1), (1, 1)] := by kernel_rfl
theorem zd_101 : zd Tryz.prog 101 = (D.node (.agg [1, 1]) (nthD [(D.lit (.int .i64 0)), (D.lit (.int .i64 0))])) := by kernel_rfl
theorem zok_101 : ZeroOk Tryz.prog 101 (D.node (.agg [1, 1]) (nthD [(D.lit (.int .i64 0)), (D.lit (.int .i64 0))])) := zeroOk_of (by kernel_rfl)
theorem tsz_102 : tsz Tryz.prog 102 = some 3 := by kernel_rfl
theorem tagg_102 : tagg Tryz.prog 102 = some true := by kernel_rfl
theorem tbytes_102 : tbytes Tryz.prog 102 = some 24 := by kernel_rfl
theorem tfield_102_0 : tfield Tryz.prog 102 0 = some (0, 3) := by kernel_rfl
theorem tfield_102_1 : tfield Tryz.prog 102 1 = some (1, 3) := by kernel_rfl
theorem tfield_102_2 : tfield Tryz.prog 102 2 = some (2, 4) := by kernel_rfl
theorem tplaces_102 : tplaces Tryz.prog 102 = some [(0, 1), (1, 1), (2, 1)] := by kernel_rfl
theorem zd_102 : zd Tryz.prog 102 = (D.node (.agg [1, 1, 1]) (nthD [(D.lit (.int .i64 0)), (D.lit (.int .i64 0)), (D.lit (.bool false))])) := by kernel_rfl
theorem zok_102 : ZeroOk Tryz.prog 102 (D.node (.agg [1, 1, 1]) (nthD [(D.lit (.int .i64 0)), (D.lit (.int .i64 0)), (D.lit (.bool false))])) := zeroOk_of (by kernel_rfl)
theorem tsz_103 : tsz Tryz.prog 103 = some 3 := by kernel_rfl
theorem tagg_103 : tagg Tryz.prog 103 = some true := by kernel_rfl
theorem tbytes_103 : tbytes Tryz.prog 103 = some 24 := by kernel_rfl
theorem tfield_103_0 : tfield Tryz.prog 103 0 = some (0, 3) := by kernel_rfl
theorem tfield_103_1 : tfield Tryz.prog 103 1 = some (1, 3) := by kernel_rfl
theorem tfield_103_2 : tfield Tryz.prog 103 2 = some (2, 4) := by kernel_rfl
theorem tplaces_103 : tplaces Tryz.prog 103 = some [(0, 1), (1, 1), (2, 1)] := by kernel_rfl
theorem zd_103 : zd Tryz.prog 103 = (D.node (.agg [1, 1, 1]) (nthD [(D.lit (.int .i64 0)), (D.lit (.int .i64 0)), (D.lit (.bool false))])) := by kernel_rfl
theorem zok_103 : ZeroOk Tryz.prog 103 (D.node (.agg [1, 1, 1]) (nthD [(D.lit (.int .i64 0)), (D.lit (.int .i64 0)), (D.lit (.bool false))])) := zeroOk_of (by kernel_rfl)
theorem tsz_106 : tsz Tryz.prog 106 = some 15 := by kernel_rfl
theorem tagg_106 : tagg Tryz.prog 106 = some true := by kernel_rfl
theorem tbytes_106 : tbytes Tryz.prog 106 = some 200 := by kernel_rfl
theorem tfield_106_0 : tfield Tryz.prog 106 0 = some (0, 3) := by kernel_rfl
theorem tfield_106_1 : tfield Tryz.prog 106 1 = some (1, 3) := by kernel_rfl
theorem tfield_106_2 : tfield Tryz.prog 106 2 = some (2, 3) := by kernel_rfl
theorem tfield_106_3 : tfield Tryz.prog 106 3 = some (3, 3) := by kernel_rfl
theorem tfield_106_4 : tfield Tryz.prog 106 4 = some (4, 3) := by kernel_rfl
theorem tfield_106_5 : tfield Tryz.prog 106 5 = some (5, 45) := by kernel_rfl
theorem tfield_106_6 : tfield Tryz.prog 106 6 = some (9, 45) := by kernel_rfl
theorem tfield_106_7 : tfield Tryz.prog 106 7 = some (13, 3) := by kernel_rfl
theorem tfield_106_8 : tfield Tryz.prog 106 8 = some (14, 56) := by kernel_rfl
theorem tplaces_106 : tplaces Tryz.prog 106 = some [(0, 1), (1, 1), (2, 1), (3, 1), (4, 1), (5, 4), (9, 4), (13, 1), (14, 1)] := by kernel_rfl
theorem zd_106 : zd Tryz.prog 106 = (D.node (.agg [1, 1, 1, 1, 1, 4, 4, 1, 1]) (nthD [(D.lit (.int .i64 0)), (D.lit (.int .i64 0)), (D.lit (.int .i64 0)), (D.lit (.int .i64 0)), (D.lit (.int .i64 0)), (D.node (.agg [1, 3]) (nthD [(D.lit (.bool false)), (D.node (.agg [1, 1, 1]) (nthD [(D.lit (.int .i64 0)), D.nil, D.nil]))])), (D.node (.agg [1, 3]) (nthD [(D.lit (.bool false)), (D.node (.agg [1, 1, 1]) (nthD [(D.lit (.int .i64 0)), D.nil, D.nil]))])), (D.lit (.int .i64 0)), D.nil])) := by kernel_rfl
theorem zok_106 : ZeroOk Tryz.prog 106 (D.node (.agg [1, 1, 1, 1, 1, 4, 4, 1, 1]) (nthD [(D.lit (.int .i64 0)), (D.lit (.int .i64 0)), (D.lit (.int .i64 0)), (D.lit (.int .i64 0)), (D.lit (.int .i64 0)), (D.node (.agg [1, 3]) (nthD [(D.lit (.bool false)), (D.node (.agg [1, 1, 1]) (nthD [(D.lit (.int .i64 0)), D.nil, D.nil]))])), (D.node (.agg [1, 3]) (nthD [(D.lit (.bool false)), (D.node (.agg [1, 1, 1]) (nthD [(D.lit (.int .i64 0)), D.nil, D.nil]))])), (D.lit (.int .i64 0)), D.nil])) := zeroOk_of (by kernel_rfl)
theorem tsz_107 : tsz Tryz.prog 107 = some 15 := by kernel_rfl
theorem tagg_107 : tagg Tryz.prog 107 = some true := by kernel_rfl
theorem tbytes_107 : tbytes Tryz.prog 107 = some 200 := by kernel_rfl
theorem tfield_107_0 : tfield Tryz.prog 107 0 = some (0, 3) := by kernel_rfl
theorem tfield_107_1 : tfield Tryz.prog 107 1 = some (1, 3) := by kernel_rfl
theorem tfield_107_2 : tfield Tryz.prog 107 2 = some (2, 3) := by kernel_rfl
theorem tfield_107_3 : tfield Tryz.prog 107 3 = some (3, 3) := by kernel_rfl
theorem tfield_107_4 : tfield Tryz.prog 107 4 = some (4, 3) := by kernel_rfl
theorem tfield_107_5 : tfield Tryz.prog 107 5 = some (5, 45) := by kernel_rfl
theorem tfield_107_6 : tfield Tryz.prog 107 6 = some (9, 45) := by kernel_rfl
theorem tfield_107_7 : tfield Tryz.prog 107 7 = some (13, 3) := by kernel_rfl
theorem tfield_107_8 : tfield Tryz.prog 107 8 = some (14, 56) := by kernel_rfl
theorem tplaces_107 : tplaces Tryz.prog 107 = some [(0, 1), (1, 1), (2, 1), (3, 1), (4, 1), (5, 4), (9, 4), (13, 1), (14, 1)] := by kernel_rfl
theorem zd_107 : zd Tryz.prog 107 = (D.node (.agg [1, 1, 1, 1, 1, 4, 4, 1, 1]) (nthD [(D.lit (.int .i64 0)), (D.lit (.int .i64 0)), (D.lit (.int .i64 0)), (D.lit (.int .i64 0)), (D.lit (.int .i64 0)), (D.node (.agg [1, 3]) (nthD [(D.lit (.bool false)), (D.node (.agg [1, 1, 1]) (nthD [(D.lit (.int .i64 0)), D.nil, D.nil]))])), (D.node (.agg [1, 3]) (nthD [(D.lit (.bool false)), (D.node (.agg [1, 1, 1]) (nthD [(D.lit (.int .i64 0)), D.nil, D.nil]))])), (D.lit (.int .i64 0)), D.nil])) := by kernel_rfl
theorem zok_107 : ZeroOk Tryz.prog 107 (D.node (.agg [1, 1, 1, 1, 1, 4, 4, 1, 1]) (nthD [(D.lit (.int .i64 0)), (D.lit (.int .i64 0)), (D.lit (.int .i64 0)), (D.lit (.int .i64 0)), (D.lit (.int .i64 0)), (D.node (.agg [1, 3]) (nthD [(D.lit (.bool false)), (D.node (.agg [1, 1, 1]) (nthD [(D.lit (.int .i64 0)), D.nil, D.nil]))])), (D.node (.agg [1, 3]) (nthD [(D.lit (.bool false)), (D.node (.agg [1, 1, 1]) (nthD [(D.lit (.int .i64 0)), D.nil, D.nil]))])), (D.lit (.int .i64 0)), D.nil])) := zeroOk_of (by kernel_rfl)
theorem tsz_127 : tsz Tryz.prog 127 = some 1 := by kernel_rfl
theorem tagg_127 : tagg Tryz.prog 127 = some false := by kernel_rfl
theorem tbytes_127 : tbytes Tryz.prog 127 = some 8 := by kernel_rfl
theorem tsz_129 : tsz Tryz.prog 129 = some 1 := by kernel_rfl
theorem tagg_129 : tagg Tryz.prog 129 = some false := by kernel_rfl
theorem tbytes_129 : tbytes Tryz.prog 129 = some 8 := by kernel_rfl
theorem tsz_130 : tsz Tryz.prog 130 = some 145 := by kernel_rfl
theorem tagg_130 : tagg Tryz.prog 130 = some true := by kernel_rfl
theorem tbytes_130 : tbytes Tryz.prog 130 = some 2248 := by kernel_rfl
theorem tfield_130_0 : tfield Tryz.prog 130 0 = some (0, 59) := by kernel_rfl
theorem tfield_130_1 : tfield Tryz.prog 130 1 = some (144, 3) := by kernel_rfl
theorem tplaces_130 : tplaces Tryz.prog 130 = some [(0, 144), (144, 1)] := by kernel_rfl
theorem zd_130 : zd Tryz.prog 130 = (D.node (.agg [144, 1]) (nthD [(D.node (.agg [136, 2, 2, 1, 1, 1, 1]) (nthD [(D.node (.arr 8 17) fun _ => (D.node (.agg [1, 16]) (nthD [(D.lit (.int .i64 0)), (D.node (.arr 4 4) fun _ => (D.node (.agg [1, 3]) (nthD [(D.lit (.bool false)), (D.node (.agg [1, 1, 1]) (nthD [(D.lit (.int .i64 0)), D.nil, D.nil]))])))]))), (D.node (.agg [1, 1]) (nthD [D.nil, (D.lit (.int .i64 0))])), (D.node (.agg [1, 1]) (nthD [D.nil, (D.lit (.int .i64 0))])), D.nil, D.nil, (D.lit (.int .i64 0)), (D.lit (.bool false))])), (D.lit (.int .i64 0))])) := by kernel_rfl
theorem zok_130 : ZeroOk Tryz.prog 130 (D.node (.agg [144, 1]) (nthD [(D.node (.agg [136, 2, 2, 1, 1, 1, 1]) (nthD [(D.node (.arr 8 17) fun _ => (D.node (.agg [1, 16]) (nthD [(D.lit (.int .i64 0)), (D.node (.arr 4 4) fun _ => (D.node (.agg [1, 3]) (nthD [(D.lit (.bool false)), (D.node (.agg [1, 1, 1]) (nthD [(D.lit (.int .i64 0)), D.nil, D.nil]))])))]))), (D.node (.agg [1, 1]) (nthD [D.nil, (D.lit (.int .i64 0))])), (D.node (.agg [1, 1]) (nthD [D.nil, (D.lit (.int .i64 0))])), D.nil, D.nil, (D.lit (.int .i64 0)), (D.lit (.bool false))])), (D.lit (.int .i64 0))])) := zeroOk_of (by kernel_rfl)
theorem tsz_131 : tsz Tryz.prog 131 = some 145 := by kernel_rfl
theorem tagg_131 : tagg Tryz.prog 131 = some true := by kernel_rfl
theorem tbytes_131 : tbytes Tryz.prog 131 = some 2248 := by kernel_rfl
theorem tfield_131_0 : tfield Tryz.prog 131 0 = some (0, 59) := by kernel_rfl
theorem tfield_131_1 : tfield Tryz.prog 131 1 = some (144, 3) := by kernel_rfl
theorem tplaces_131 : tplaces Tryz.prog 131 = some [(0, 144), (144, 1)] := by kernel_rfl
theorem zd_131 : zd Tryz.prog 131 = (D.node (.agg [144, 1]) (nthD [(D.node (.agg [136, 2, 2, 1, 1, 1, 1]) (nthD [(D.node (.arr 8 17) fun _ => (D.node (.agg [1, 16]) (nthD [(D.lit (.int .i64 0)), (D.node (.arr 4 4) fun _ => (D.node (.agg [1, 3]) (nthD [(D.lit (.bool false)), (D.node (.agg [1, 1, 1]) (nthD [(D.lit (.int .i64 0)), D.nil, D.nil]))])))]))), (D.node (.agg [1, 1]) (nthD [D.nil, (D.lit (.int .i64 0))])), (D.node (.agg [1, 1]) (nthD [D.nil, (D.lit (.int .i64 0))])), D.nil, D.nil, (D.lit (.int .i64 0)), (D.lit (.bool false))])), (D.lit (.int .i64 0))])) := by kernel_rfl
theorem zok_131 : ZeroOk Tryz.prog 131 (D.node (.agg [144, 1]) (nthD [(D.node (.agg [136, 2, 2, 1, 1, 1, 1]) (nthD [(D.node (.arr 8 17) fun _ => (D.node (.agg [1, 16]) (nthD [(D.lit (.int .i64 0)), (D.node (.arr 4 4) fun _ => (D.node (.agg [1, 3]) (nthD [(D.lit (.bool false)), (D.node (.agg [1, 1, 1]) (nthD [(D.lit (.int .i64 0)), D.nil, D.nil]))])))]))), (D.node (.agg [1, 1]) (nthD [D.nil, (D.lit (.int .i64 0))])), (D.node (.agg [1, 1]) (nthD [D.nil, (D.lit (.int .i64 0))])), D.nil, D.nil, (D.lit (.int .i64 0)), (D.lit (.bool false))])), (D.lit (.int .i64 0))])) := zeroOk_of (by kernel_rfl)
theorem tsz_132 : tsz Tryz.prog 132 = some 1 := by kernel_rfl
theorem tagg_132 : tagg Tryz.prog 132 = some false := by kernel_rfl
theorem tbytes_132 : tbytes Tryz.prog 132 = some 24 := by kernel_rfl
theorem telem_132 : telem Tryz.prog 132 = some 135 := by kernel_rfl
theorem zd_132 : zd Tryz.prog 132 = D.nil := by kernel_rfl
theorem zok_132 : ZeroOk Tryz.prog 132 D.nil := zeroOk_of (by kernel_rfl)
theorem tsz_134 : tsz Tryz.prog 134 = some 3 := by kernel_rfl
theorem tagg_134 : tagg Tryz.prog 134 = some true := by kernel_rfl
theorem tbytes_134 : tbytes Tryz.prog 134 = some 24 := by kernel_rfl
theorem tfield_134_0 : tfield Tryz.prog 134 0 = some (0, 3) := by kernel_rfl
theorem tfield_134_1 : tfield Tryz.prog 134 1 = some (1, 3) := by kernel_rfl
theorem tfield_134_2 : tfield Tryz.prog 134 2 = some (2, 3) := by kernel_rfl
theorem tplaces_134 : tplaces Tryz.prog 134 = some [(0, 1), (1, 1), (2, 1)] := by kernel_rfl
theorem zd_134 : zd Tryz.prog 134 = (D.node (.agg [1, 1, 1]) (nthD [(D.lit (.int .i64 0)), (D.lit (.int .i64 0)), (D.lit (.int .i64 0))])) := by kernel_rfl
theorem zok_134 : ZeroOk Tryz.prog 134 (D.node (.agg [1, 1, 1]) (nthD [(D.lit (.int .i64 0)), (D.lit (.int .i64 0)), (D.lit (.int .i64 0))])) := zeroOk_of (by kernel_rfl)
theorem tsz_135 : tsz Tryz.prog 135 = some 3 := by kernel_rfl
theorem tagg_135 : tagg Tryz.prog 135 = some true := by kernel_rfl
theorem tbytes_135 : tbytes Tryz.prog 135 = some 24 := by kernel_rfl
theorem tfield_135_0 : tfield Tryz.prog 135 0 = some (0, 3) := by kernel_rfl
theorem tfield_135_1 : tfield Tryz.prog 135 1 = some (1, 3) := by kernel_rfl
theorem tfield_135_2 : tfield Tryz.prog 135 2 = some (2, 3) := by kernel_rfl
theorem tplaces_135 : tplaces Tryz.prog 135 = some [(0, 1), (1, 1), (2, 1)] := by kernel_rfl
theorem zd_135 : zd Tryz.prog 135 = (D.node (.agg [1, 1, 1]) (nthD [(D.lit (.int .i64 0)), (D.lit (.int .i64 0)), (D.lit (.int .i64 0))])) := by kernel_rfl
theorem zok_135 : ZeroOk Tryz.prog 135 (D.node (.agg [1, 1, 1]) (nthD [(D.lit (.int .i64 0)), (D.lit (.int .i64 0)), (D.lit (.int .i64 0))])) := zeroOk_of (by kernel_rfl)
theorem tsz_142 : tsz Tryz.prog 142 = some 20 := by kernel_rfl
theorem tagg_142 : tagg Tryz.prog 142 = some true := by kernel_rfl
theorem tbytes_142 : tbytes Tryz.prog 142 = some 280 := by kernel_rfl
theorem tfield_142_0 : tfield Tryz.prog 142 0 = some (0, 3) := by kernel_rfl
theorem tfield_142_1 : tfield Tryz.prog 142 1 = some (1, 48) := by kernel_rfl
theorem tfield_142_2 : tfield Tryz.prog 142 2 = some (18, 4) := by kernel_rfl
theorem tfield_142_3 : tfield Tryz.prog 142 3 = some (19, 4) := by kernel_rfl
theorem tplaces_142 : tplaces Tryz.prog 142 = some [(0, 1), (1, 17), (18, 1), (19, 1)] := by kernel_rfl
theorem zd_142 : zd Tryz.prog 142 = (D.node (.agg [1, 17, 1, 1]) (nthD [(D.lit (.int .i64 0)), (D.node (.agg [1, 16]) (nthD [(D.lit (.int .i64 0)), (D.node (.arr 4 4) fun _ => (D.node (.agg [1, 3]) (nthD [(D.lit (.bool false)), (D.node (.agg [1, 1, 1]) (nthD [(D.lit (.int .i64 0)), D.nil, D.nil]))])))])), (D.lit (.bool false)), (D.lit (.bool false))])) := by kernel_rfl
theorem zok_142 : ZeroOk Tryz.prog 142 (D.node (.agg [1, 17, 1, 1]) (nthD [(D.lit (.int .i64 0)), (D.node (.agg [1, 16]) (nthD [(D.lit (.int .i64 0)), (D.node (.arr 4 4) fun _ => (D.node (.agg [1, 3]) (nthD [(D.lit (.bool false)), (D.node (.agg [1, 1, 1]) (nthD [(D.lit (.int .i64 0)), D.nil, D.nil]))])))])), (D.lit (.bool false)), (D.lit (.bool false))])) := zeroOk_of (by kernel_rfl)
theorem tsz_143 : tsz Tryz.prog 143 = some 20 := by kernel_rfl
theorem tagg_143 : tagg Tryz.prog 143 = some true := by kernel_rfl
theorem tbytes_143 : tbytes Tryz.prog 143 = some 280 := by kernel_rfl
theorem tfield_143_0 : tfield Tryz.prog 143 0 = some (0, 3) := by kernel_rfl
theorem tfield_143_1 : tfield Tryz.prog 143 1 = some (1, 48) := by kernel_rfl
theorem tfield_143_2 : tfield Tryz.prog 143 2 = some (18, 4) := by kernel_rfl
theorem tfield_143_3 : tfield Tryz.prog 143 3 = some (19, 4) := by kernel_rfl
theorem tplaces_143 : tplaces Tryz.prog 143 = some [(0, 1), (1, 17), (18, 1), (19, 1)] := by kernel_rfl
theorem zd_143 : zd Tryz.prog 143 = (D.node (.agg [1, 17, 1, 1]) (nthD [(D.lit (.int .i64 0)), (D.node (.agg [1, 16]) (nthD [(D.lit (.int .i64 0)), (D.node (.arr 4 4) fun _ => (D.node (.agg [1, 3]) (nthD [(D.lit (.bool false)), (D.node (.agg [1, 1, 1]) (nthD [(D.lit (.int .i64 0)), D.nil, D.nil]))])))])), (D.lit (.bool false)), (D.lit (.bool false))])) := by kernel_rfl
theorem zok_143 : ZeroOk Tryz.prog 143 (D.node (.agg [1, 17, 1, 1]) (nthD [(D.lit (.int .i64 0)), (D.node (.agg [1, 16]) (nthD [(D.lit (.int .i64 0)), (D.node (.arr 4 4) fun _ => (D.node (.agg [1, 3]) (nthD [(D.lit (.bool false)), (D.node (.agg [1, 1, 1]) (nthD [(D.lit (.int .i64 0)), D.nil, D.nil]))])))])), (D.lit (.bool false)), (D.lit (.bool false))])) := zeroOk_of (by kernel_rfl)
theorem tsz_159 : tsz Tryz.prog 159 = some 3 := by kernel_rfl
theorem tagg_159 : tagg Tryz.prog 159 = some true := by kernel_rfl
theorem tbytes_159 : tbytes Tryz.prog 159 = some 24 := by kernel_rfl
theorem tfield_159_0 : tfield Tryz.prog 159 0 = some (0, 3) := by kernel_rfl
theorem tfield_159_1 : tfield Tryz.prog 159 1 = some (1, 3) := by kernel_rfl
theorem tfield_159_2 : tfield Tryz.prog 159 2 = some (2, 4) := by kernel_rfl
theorem tplaces_159 : tplaces Tryz.prog 159 = some [(0, 1), (1, 1), (2, 1)] := by kernel_rfl
theorem zd_159 : zd Tryz.prog 159 = (D.node (.agg [1, 1, 1]) (nthD [(D.lit (.int .i64 0)), (D.lit (.int .i64 0)), (D.lit (.bool false))])) := by kernel_rfl
theorem zok_159 : ZeroOk Tryz.prog 159 (D.node (.agg [1, 1, 1]) (nthD [(D.lit (.int .i64 0)), (D.lit (.int .i64 0)), (D.lit (.bool false))])) := zeroOk_of (by kernel_rfl)
theorem tsz_161 : tsz Tryz.prog 161 = some 2 := by kernel_rfl
theorem tagg_161 : tagg Tryz.prog 161 = some true := by kernel_rfl
theorem tbytes_161 : tbytes Tryz.prog 161 = some 16 := by kernel_rfl
theorem tfield_161_0 : tfield Tryz.prog 161 0 = some (0, 3) := by kernel_rfl
theorem tfield_161_1 : tfield Tryz.prog 161 1 = some (1, 3) := by kernel_rfl
theorem tplaces_161 : tplaces Tryz.prog 161 = some [(0, 1), (1, 1)] := by kernel_rfl
theorem zd_161 : zd Tryz.prog 161 = (D.node (.agg [1, 1]) (nthD [(D.lit (.int .i64 0)), (D.lit (.int .i64 0))])) := by kernel_rfl
theorem zok_161 : ZeroOk Tryz.prog 161 (D.node (.agg [1, 1]) (nthD [(D.lit (.int .i64 0)), (D.lit (.int .i64 0))])) := zeroOk_of (by kernel_rfl)
theorem tsz_195 : tsz Tryz.prog 195 = some 1 := by kernel_rfl
theorem tagg_195 : tagg Tryz.prog 195 = some false := by kernel_rfl
theorem tbytes_195 : tbytes Tryz.prog 195 = some 8 := by kernel_rfl
theorem tsz_202 : tsz Tryz.prog 202 = some 1 := by kernel_rfl
theorem tagg_202 : tagg Tryz.prog 202 = some false := by kernel_rfl
theorem tbytes_202 : tbytes Tryz.prog 202 = some 8 := by kernel_rfl
theorem tsz_205 : tsz Tryz.prog 205 = some 20 := by kernel_rfl
theorem tagg_205 : tagg Tryz.prog 205 = some true := by kernel_rfl
theorem tbytes_205 : tbytes Tryz.prog 205 = some 280 := by kernel_rfl
theorem tfield_205_0 : tfield Tryz.prog 205 0 = some (0, 3) := by kernel_rfl
theorem tfield_205_1 : tfield Tryz.prog 205 1 = some (1, 29) := by kernel_rfl
theorem tfield_205_2 : tfield Tryz.prog 205 2 = some (18, 4) := by kernel_rfl
theorem tfield_205_3 : tfield Tryz.prog 205 3 = some (19, 4) := by kernel_rfl
theorem tplaces_205 : tplaces Tryz.prog 205 = some [(0, 1), (1, 17), (18, 1), (19, 1)] := by kernel_rfl
theorem zd_205 : zd Tryz.prog 205 = (D.node (.agg [1, 17, 1, 1]) (nthD [(D.lit (.int .i64 0)), (D.node (.agg [1, 16]) (nthD [(D.lit (.int .i64 0)), (D.node (.arr 4 4) fun _ => (D.node (.agg [1, 3]) (nthD [(D.lit (.bool false)), (D.node (.agg [1, 1, 1]) (nthD [(D.lit (.int .i64 0)), D.nil, D.nil]))])))])), (D.lit (.bool false)), (D.lit (.bool false))])) := by kernel_rfl
theorem zok_205 : ZeroOk Tryz.prog 205 (D.node (.agg [1, 17, 1, 1]) (nthD [(D.lit (.int .i64 0)), (D.node (.agg [1, 16]) (nthD [(D.lit (.int .i64 0)), (D.node (.arr 4 4) fun _ => (D.node (.agg [1, 3]) (nthD [(D.lit (.bool false)), (D.node (.agg [1, 1, 1]) (nthD [(D.lit (.int .i64 0)), D.nil, D.nil]))])))])), (D.lit (.bool false)), (D.lit (.bool false))])) := zeroOk_of (by kernel_rfl)
theorem tsz_206 : tsz Tryz.prog 206 = some 20 := by kernel_rfl
theorem tagg_206 : tagg Tryz.prog 206 = some true := by kernel_rfl
theorem tbytes_206 : tbytes Tryz.prog 206 = some 280 := by kernel_rfl
theorem tfield_206_0 : tfield Tryz.prog 206 0 = some (0, 3) := by kernel_rfl
theorem tfield_206_1 : tfield Tryz.prog 206 1 = some (1, 29) := by kernel_rfl
theorem tfield_206_2 : tfield Tryz.prog 206 2 = some (18, 4) := by kernel_rfl
theorem tfield_206_3 : tfield Tryz.prog 206 3 = some (19, 4) := by kernel_rfl
theorem tplaces_206 : tplaces Tryz.prog 206 = some [(0, 1), (1, 17), (18, 1), (19, 1)] := by kernel_rfl
theorem zd_206 : zd Tryz.prog 206 = (D.node (.agg [1, 17, 1, 1]) (nthD [(D.lit (.int .i64 0)), (D.node (.agg [1, 16]) (nthD [(D.lit (.int .i64 0)), (D.node (.arr 4 4) fun _ => (D.node (.agg [1, 3]) (nthD [(D.lit (.bool false)), (D.node (.agg [1, 1, 1]) (nthD [(D.lit (.int .i64 0)), D.nil, D.nil]))])))])), (D.lit (.bool false)), (D.lit (.bool false))])) := by kernel_rfl
theorem zok_206 : ZeroOk Tryz.prog 206 (D.node (.agg [1, 17, 1, 1]) (nthD [(D.lit (.int .i64 0)), (D.node (.agg [1, 16]) (nthD [(D.lit (.int .i64 0)), (D.node (.arr 4 4) fun _ => (D.node (.agg [1, 3]) (nthD [(D.lit (.bool false)), (D.node (.agg [1, 1, 1]) (nthD [(D.lit (.int .i64 0)), D.nil, D.nil]))])))])), (D.lit (.bool false)), (D.lit (.bool false))])) := zeroOk_of (by kernel_rfl)
theorem tsz_208 : tsz Tryz.prog 208 = some 15 := by kernel_rfl
theorem tagg_208 : tagg Tryz.prog 208 = some true := by kernel_rfl
theorem tbytes_208 : tbytes Tryz.prog 208 = some 200 := by kernel_rfl
theorem tfield_208_0 : tfield Tryz.prog 208 0 = some (0, 3) := by kernel_rfl
theorem tfield_208_1 : tfield Tryz.prog 208 1 = some (1, 3) := by kernel_rfl
theorem tfield_208_2 : tfield Tryz.prog 208 2 = some (2, 3) := by kernel_rfl
theorem tfield_208_3 : tfield Tryz.prog 208 3 = some (3, 3) := by kernel_rfl
theorem tfield_208_4 : tfield Tryz.prog 208 4 = some (4, 3) := by kernel_rfl
theorem tfield_208_5 : tfield Tryz.prog 208 5 = some (5, 26) := by kernel_rfl
theorem tfield_208_6 : tfield Tryz.prog 208 6 = some (9, 26) := by kernel_rfl
theorem tfield_208_7 : tfield Tryz.prog 208 7 = some (13, 3) := by kernel_rfl
theorem tfield_208_8 : tfield Tryz.prog 208 8 = some (14, 37) := by kernel_rfl
theorem tplaces_208 : tplaces Tryz.prog 208 = some [(0, 1), (1, 1), (2, 1), (3, 1), (4, 1), (5, 4), (9, 4), (13, 1), (14, 1)] := by kernel_rfl
theorem zd_208 : zd Tryz.prog 208 = (D.node (.agg [1, 1, 1, 1, 1, 4, 4, 1, 1]) (nthD [(D.lit (.int .i64 0)), (D.lit (.int .i64 0)), (D.lit (.int .i64 0)), (D.lit (.int .i64 0)), (D.lit (.int .i64 0)), (D.node (.agg [1, 3]) (nthD [(D.lit (.bool false)), (D.node (.agg [1, 1, 1]) (nthD [(D.lit (.int .i64 0)), D.nil, D.nil]))])), (D.node (.agg [1, 3]) (nthD [(D.lit (.bool false)), (D.node (.agg [1, 1, 1]) (nthD [(D.lit (.int .i64 0)), D.nil, D.nil]))])), (D.lit (.int .i64 0)), D.nil])) := by kernel_rfl
theorem zok_208 : ZeroOk Tryz.prog 208 (D.node (.agg [1, 1, 1, 1, 1, 4, 4, 1, 1]) (nthD [(D.lit (.int .i64 0)), (D.lit (.int .i64 0)), (D.lit (.int .i64 0)), (D.lit (.int .i64 0)), (D.lit (.int .i64 0)), (D.node (.agg [1, 3]) (nthD [(D.lit (.bool false)), (D.node (.agg [1, 1, 1]) (nthD [(D.lit (.int .i64 0)), D.nil, D.nil]))])), (D.node (.agg [1, 3]) (nthD [(D.lit (.bool false)), (D.node (.agg [1, 1, 1]) (nthD [(D.lit (.int .i64 0)), D.nil, D.nil]))])), (D.lit (.int .i64 0)), D.nil])) := zeroOk_of (by kernel_rfl)
theorem tsz_209 : tsz Tryz.prog 209 = some 15 := by kernel_rfl
theorem tagg_209 : tagg Tryz.prog 209 = some true := by kernel_rfl
theorem tbytes_209 : tbytes Tryz.prog 209 = some 200 := by kernel_rfl
theorem tfield_209_0 : tfield Tryz.prog 209 0 = some (0, 3) := by kernel_rfl
theorem tfield_209_1 : tfield Tryz.prog 209 1 = some (1, 3) := by kernel_rfl
theorem tfield_209_2 : tfield Tryz.prog 209 2 = some (2, 3) := by kernel_rfl
theorem tfield_209_3 : tfield Tryz.prog 209 3 = some (3, 3) := by kernel_rfl
theorem tfield_209_4 : tfield Tryz.prog 209 4 = some (4, 3) := by kernel_rfl
theorem tfield_209_5 : tfield Tryz.prog 209 5 = some (5, 26) := by kernel_rfl
theorem tfield_209_6 : tfield Tryz.prog 209 6 = some (9, 26) := by kernel_rfl
theorem tfield_209_7 : tfield Tryz.prog 209 7 = some (13, 3) := by kernel_rfl
theorem tfield_209_8 : tfield Tryz.prog 209 8 = some (14, 37) := by kernel_rfl
theorem tplaces_209 : tplaces Tryz.prog 209 = some [(0, 1), (1, 1), (2, 1), (3, 1), (4, 1), (5, 4), (9, 4), (13, 1), (14, 1)] := by kernel_rfl
theorem zd_209 : zd Tryz.prog 209 = (D.node (.agg [1, 1, 1, 1, 1, 4, 4, 1, 1]) (nthD [(D.lit (.int .i64 0)), (D.lit (.int .i64 0)), (D.lit (.int .i64 0)), (D.lit (.int .i64 0)), (D.lit (.int .i64 0)), (D.node (.agg [1, 3]) (nthD [(D.lit (.bool false)), (D.node (.agg [1, 1, 1]) (nthD [(D.lit (.int .i64 0)), D.nil, D.nil]))])), (D.node (.agg [1, 3]) (nthD [(D.lit (.bool false)), (D.node (.agg [1, 1, 1]) (nthD [(D.lit (.int .i64 0)), D.nil, D.nil]))])), (D.lit (.int .i64 0)), D.nil])) := by kernel_rfl
theorem zok_209 : ZeroOk Tryz.prog 209 (D.node (.agg [1, 1, 1, 1, 1, 4, 4, 1, 1]) (nthD [(D.lit (.int .i64 0)), (D.lit (.int .i64 0)), (D.lit (.int .i64 0)), (D.lit (.int .i64 0)), (D.lit (.int .i64 0)), (D.node (.agg [1, 3]) (nthD [(D.lit (.bool false)), (D.node (.agg [1, 1, 1]) (nthD [(D.lit (.int .i64 0)), D.nil, D.nil]))])), (D.node (.agg [1, 3]) (nthD [(D.lit (.bool false)), (D.node (.agg [1, 1, 1]) (nthD [(D.lit (.int .i64 0)), D.nil, D.nil]))])), (D.lit (.int .i64 0)), D.nil])) := zeroOk_of (by kernel_rfl)
theorem tsz_226 : tsz Tryz.prog 226 = some 1 := by kernel_rfl
theorem tagg_226 : tagg Tryz.prog 226 = some false := by kernel_rfl
theorem tbytes_226 : tbytes Tryz.prog 226 = some 24 := by kernel_rfl
theorem telem_226 : telem Tryz.prog 226 = some 48 := by kernel_rfl
theorem zd_226 : zd Tryz.prog 226 = D.nil := by kernel_rfl
theorem zok_226 : ZeroOk Tryz.prog 226 D.nil := zeroOk_of (by kernel_rfl)
theorem tsz_234 : tsz Tryz.prog 234 = some 1 := by kernel_rfl
theorem tagg_234 : tagg Tryz.prog 234 = some false := by kernel_rfl
theorem tbytes_234 : tbytes Tryz.prog 234 = some 24 := by kernel_rfl
theorem telem_234 : telem Tryz.prog 234 = some 45 := by kernel_rfl
theorem zd_234 : zd Tryz.prog 234 = D.nil := by kernel_rfl
theorem zok_234 : ZeroOk Tryz.prog 234 D.nil := zeroOk_of (by kernel_rfl)
theorem tsz_247 : tsz Tryz.prog 247 = some 4 := by kernel_rfl
theorem tagg_247 : tagg Tryz.prog 247 = some true := by kernel_rfl
theorem tbytes_247 : tbytes Tryz.prog 247 = some 40 := by kernel_rfl
theorem tfield_247_0 : tfield Tryz.prog 247 0 = some (0, 17) := by kernel_rfl
theorem tfield_247_1 : tfield Tryz.prog 247 1 = some (1, 17) := by kernel_rfl
theorem tfield_247_2 : tfield Tryz.prog 247 2 = some (2, 17) := by kernel_rfl
theorem tfield_247_3 : tfield Tryz.prog 247 3 = some (3, 9) := by kernel_rfl
theorem tplaces_247 : tplaces Tryz.prog 247 = some [(0, 1), (1, 1), (2, 1), (3, 1)] := by kernel_rfl
theorem tsz_249 : tsz Tryz.prog 249 = some 0 := by kernel_rfl
theorem tagg_249 : tagg Tryz.prog 249 = some true := by kernel_rfl
theorem tbytes_249 : tbytes Tryz.prog 249 = some 0 := by kernel_rfl
theorem tarr_249 : tarr Tryz.prog 249 = some (0, 16) := by kernel_rfl
theorem tsz_250 : tsz Tryz.prog 250 = some 0 := by kernel_rfl
theorem tagg_250 : tagg Tryz.prog 250 = some true := by kernel_rfl
theorem tbytes_250 : tbytes Tryz.prog 250 = some 0 := by kernel_rfl
theorem tfield_250_0 : tfield Tryz.prog 250 0 = some (0, 249) := by kernel_rfl
theorem tplaces_250 : tplaces Tryz.prog 250 = some [(0, 0)] := by kernel_rfl
theorem tsz_253 : tsz Tryz.prog 253 = some 1 := by kernel_rfl
theorem tagg_253 : tagg Tryz.prog 253 = some false := by kernel_rfl
theorem tbytes_253 : tbytes Tryz.prog 253 = some 4 := by kernel_rfl
theorem tint_253 : tint Tryz.prog 253 = some .u32 := by kernel_rfl
theorem tund_253 : (Tryz.prog.underlying 253).isSome = true := by kernel_rfl
theorem zd_253 : zd Tryz.prog 253 = (D.lit (.int .u32 0)) := by kernel_rfl
theorem zok_253 : ZeroOk Tryz.prog 253 (D.lit (.int .u32 0)) := zeroOk_of (by kernel_rfl)
theorem tsz_257 : tsz Tryz.prog 257 = some 1 := by kernel_rfl
theorem tagg_257 : tagg Tryz.prog 257 = some false := by kernel_rfl
theorem tbytes_257 : tbytes Tryz.prog 257 = some 8 := by kernel_rfl
theorem tsz_260 : tsz Tryz.prog 260 = some 11 := by kernel_rfl
theorem tagg_260 : tagg Tryz.prog 260 = some true := by kernel_rfl
theorem tbytes_260 : tbytes Tryz.prog 260 = some 48 := by kernel_rfl
theorem tfield_260_0 : tfield Tryz.prog 260 0 = some (0, 12) := by kernel_rfl
theorem tfield_260_1 : tfield Tryz.prog 260 1 = some (1, 12) := by kernel_rfl
theorem tfield_260_2 : tfield Tryz.prog 260 2 = some (2, 253) := by kernel_rfl
theorem tfield_260_3 : tfield Tryz.prog 260 3 = some (3, 254) := by kernel_rfl
theorem tfield_260_4 : tfield Tryz.prog 260 4 = some (4, 5) := by kernel_rfl
theorem tfield_260_5 : tfield Tryz.prog 260 5 = some (5, 5) := by kernel_rfl
theorem tfield_260_6 : tfield Tryz.prog 260 6 = some (6, 255) := by kernel_rfl
theorem tfield_260_7 : tfield Tryz.prog 260 7 = some (7, 256) := by kernel_rfl
theorem tfield_260_8 : tfield Tryz.prog 260 8 = some (8, 257) := by kernel_rfl
theorem tfield_260_9 : tfield Tryz.prog 260 9 = some (9, 258) := by kernel_rfl
theorem tfield_260_10 : tfield Tryz.prog 260 10 = some (10, 259) := by kernel_rfl
attribute [go_sem] tsz_2 tagg_2 tbytes_2 tint_2 tund_2 zd_2 zok_2 tsz_3 tagg_3 tbytes_3 tint_3 tund_3 zd_3 zok_3 tsz_4 tagg_4 tbytes_4 tbool_4 zd_4 zok_4 tsz_5 tagg_5 tbytes_5 tint_5 tund_5 zd_5 zok_5 tsz_7 tagg_7 tbytes_7 tfield_7_0 tfield_7_1 tfield_7_2 tfield_7_3 tplaces_7 zd_7 zok_7 tsz_9 tagg_9 tbytes_9 tstr_9 zd_9 zok_9 tsz_12 tagg_12 tbytes_12 tint_12 tund_12 zd_12 zok_12 tsz_13 tagg_13 tbytes_13 tfield_13_0 tfield_13_1 tplaces_13 zd_13 zok_13 tsz_15 tagg_15 tbytes_15 tsz_16 tagg_16 tbytes_16 tsz_17 tagg_17 tbytes_17 tsz_18 tagg_18 tbytes_18 tfield_18_0 tplaces_18 tsz_21 tagg_21 tbytes_21 tint_21 tund_21 zd_21 zok_21 tsz_22 tagg_22 tbytes_22 telem_22 zd_22 zok_22 tsz_23 tagg_23 tbytes_23 tfield_23_0 tfield_23_1 tfield_23_2 tplaces_23 zd_23 zok_23 tsz_24 tagg_24 tbytes_24 tfield_24_0 tfield_24_1 tfield_24_2 tplaces_24 zd_24 zok_24 tsz_25 tagg_25 tbytes_25 tfield_25_0 tfield_25_1 tplaces_25 zd_25 zok_25 tsz_26 tagg_26 tbytes_26 tfield_26_0 tfield_26_1 tplaces_26 zd_26 zok_26 tsz_27 tagg_27 tbytes_27 tarr_27 zd_27 zok_27 tsz_28 tagg_28 tbytes_28 tfield_28_0 tfield_28_1 tplaces_28 zd_28 zok_28 tsz_29 tagg_29 tbytes_29 tfield_29_0 tfield_29_1 tplaces_29 zd_29 zok_29 tsz_30 tagg_30 tbytes_30 tarr_30 zd_30 zok_30 tsz_31 tagg_31 tbytes_31 telem_31 zd_31 zok_31 tsz_32 tagg_32 tbytes_32 tfield_32_0 tfield_32_1 tplaces_32 zd_32 zok_32 tsz_33 tagg_33 tbytes_33 tfield_33_0 tfield_33_1 tplaces_33 zd_33 zok_33 tsz_34 tagg_34 tbytes_34 telem_34 zd_34 zok_34 tsz_35 tagg_35 tbytes_35 tfield_35_0 tfield_35_1 tplaces_35 zd_35 zok_35 tsz_36 tagg_36 tbytes_36 tfield_36_0 tfield_36_1 tplaces_36 zd_36 zok_36 tsz_37 tagg_37 tbytes_37 telem_37 zd_37 zok_37 tsz_38 tagg_38 tbytes_38 telem_38 zd_38 zok_38 tsz_39 tagg_39 tbytes_39 tfield_39_0 tfield_39_1 tfield_39_2 tfield_39_3 tfield_39_4 tfield_39_5 tfield_39_6 tplaces_39 zd_39 zok_39 tsz_40 tagg_40 tbytes_40 tfield_40_0 tfield_40_1 tfield_40_2 tfield_40_3 tfield_40_4 tfield_40_5 tfield_40_6 tplaces_40 zd_40 zok_40 tsz_43 tagg_43 tbytes_43 tfield_43_0 tfield_43_1 tfield_43_2 tplaces_43 zd_43 zok_43 tsz_44 tagg_44 tbytes_44 tfield_44_0 tfield_44_1 tplaces_44 zd_44 zok_44 tsz_45 tagg_45 tbytes_45 tfield_45_0 tfield_45_1 tplaces_45 zd_45 zok_45 tsz_46 tagg_46 tbytes_46 tarr_46 zd_46 zok_46 tsz_47 tagg_47 tbytes_47 tfield_47_0 tfield_47_1 tplaces_47 zd_47 zok_47 tsz_48 tagg_48 tbytes_48 tfield_48_0 tfield_48_1 tplaces_48 zd_48 zok_48 tsz_49 tagg_49 tbytes_49 tarr_49 zd_49 zok_49 tsz_50 tagg_50 tbytes_50 telem_50 zd_50 zok_50 tsz_51 tagg_51 tbytes_51 tfield_51_0 tfield_51_1 tplaces_51 zd_51 zok_51 tsz_52 tagg_52 tbytes_52 tfield_52_0 tfield_52_1 tplaces_52 zd_52 zok_52 tsz_53 tagg_53 tbytes_53 telem_53 zd_53 zok_53 tsz_54 tagg_54 tbytes_54 tfield_54_0 tfield_54_1 tplaces_54 zd_54 zok_54 tsz_55 tagg_55 tbytes_55 tfield_55_0 tfield_55_1 tplaces_55 zd_55 zok_55 tsz_56 tagg_56 tbytes_56 telem_56 zd_56 zok_56 tsz_57 tagg_57 tbytes_57 telem_57 zd_57 zok_57 tsz_58 tagg_58 tbytes_58 tfield_58_0 tfield_58_1 tfield_58_2 tfield_58_3 tfield_58_4 tfield_58_5 tfield_58_6 tplaces_58 zd_58 zok_58 tsz_59 tagg_59 tbytes_59 tfield_59_0 tfield_59_1 tfield_59_2 tfield_59_3 tfield_59_4 tfield_59_5 tfield_59_6 tplaces_59 zd_59 zok_59 tsz_91 tagg_91 tbytes_91 tsz_100 tagg_100 tbytes_100 tfield_100_0 tfield_100_1 tplaces_100 zd_100 zok_100 tsz_101 tagg_101 tbytes_101 tfield_101_0 tfield_101_1 tplaces_101 zd_101 zok_101 tsz_102 tagg_102 tbytes_102 tfield_102_0 tfield_102_1 tfield_102_2 tplaces_102 zd_102 zok_102 tsz_103 tagg_103 tbytes_103 tfield_103_0 tfield_103_1 tfield_103_2 tplaces_103 zd_103 zok_103 tsz_106 tagg_106 tbytes_106 tfield_106_0 tfield_106_1 tfield_106_2 tfield_106_3 tfield_106_4 tfield_106_5 tfield_106_6 tfield_106_7 tfield_106_8 tplaces_106 zd_106 zok_106 tsz_107 tagg_107 tbytes_107 tfield_107_0 tfield_107_1 tfield_107_2 tfield_107_3 tfield_107_4 tfield_107_5 tfield_107_6 tfield_107_7 tfield_107_8 tplaces_107 zd_107 zok_107 tsz_127 tagg_127 tbytes_127 tsz_129 tagg_129 tbytes_129 tsz_130 tagg_130 tbytes_130 tfield_130_0 tfield_130_1 tplaces_130 zd_130 zok_130 tsz_131 tagg_131 tbytes_131 tfield_131_0 tfield_131_1 tplaces_131 zd_131 zok_131 tsz_132 tagg_132 tbytes_132 telem_132 zd_132 zok_132 tsz_134 tagg_134 tbytes_134 tfield_134_0 tfield_134_1 tfield_134_2 tplaces_134 zd_134 zok_134 tsz_135 tagg_135 tbytes_135 tfield_135_0 tfield_135_1 tfield_135_2 tplaces_135 zd_135 zok_135 tsz_142 tagg_142 tbytes_142 tfield_142_0 tfield_142_1 tfield_142_2 tfield_142_3 tplaces_142 zd_142 zok_142 tsz_143 tagg_143 tbytes_143 tfield_143_0 tfield_143_1 tfield_143_2 tfield_143_3 tplaces_143 zd_143 zok_143 tsz_159 tagg_159 tbytes_159 tfield_159_0 tfield_159_1 tfield_159_2 tplaces_159 zd_159 zok_159 tsz_161 tagg_161 tbytes_161 tfield_161_0 tfield_161_1 tplaces_161 zd_161 zok_161 tsz_195 tagg_195 tbytes_195 tsz_202 tagg_202 tbytes_202 tsz_205 tagg_205 tbytes_205 tfield_205_0 tfield_205_1 tfield_205_2 tfield_205_3 tplaces_205 zd_205 zok_205 tsz_206 tagg_206 tbytes_206 tfield_206_0 tfield_206_1 tfield_206_2 tfield_206_3 tplaces_206 zd_206 zok_206 tsz_208 tagg_208 tbytes_208 tfield_208_0 tfield_208_1 tfield_208_2 tfield_208_3 tfield_208_4 tfield_208_5 tfield_208_6 tfield_208_7 tfield_208_8 tplaces_208 zd_208 zok_208 tsz_209 tagg_209 tbytes_209 tfield_209_0 tfield_209_1 tfield_209_2 tfield_209_3 tfield_209_4 tfield_209_5 tfield_209_6 tfield_209_7 tfield_209_8 tplaces_209 zd_209 zok_209 tsz_226 tagg_226 tbytes_226 telem_226 zd_226 zok_226 tsz_234 tagg_234 tbytes_234 telem_234 zd_234 zok_234 tsz_247 tagg_247 tbytes_247 tfield_247_0 tfield_247_1 tfield_247_2 tfield_247_3 tplaces_247 tsz_249 tagg_249 tbytes_249 tarr_249 tsz_250 tagg_250 tbytes_250 tfield_250_0 tplaces_250 tsz_253 tagg_253 tbytes_253 tint_253 tund_253 zd_253 zok_253 tsz_257 tagg_257 tbytes_257 tsz_260 tagg_260 tbytes_260 tfield_260_0 tfield_260_1 tfield_260_2 tfield_260_3 tfield_260_4 tfield_260_5 tfield_260_6 tfield_260_7 tfield_260_8 tfield_260_9 tfield_260_10
end Go.Proofs.YtncinhlaabdlaaaGreat.IM
end
section
namespace Go.Proofs.YtncinhlaabdlaaaGreat.Md
structure Obj where
  kind : Int
  ints : List Int
  refs : List Int
structure Slot where
  has : Bool
  o : Obj
structure Page where
  lsn : Int
  slots : List Slot
structure Live where
  tx : Int
  last : Int
  aborts : Bool
structure Rec where
  lsn : Int
  tx : Int
  prev : Int
  kind : Int
  oid : Int
  before : Slot
  after : Slot
  next : Int
  txs : List Live
structure Log where
  recs : List Rec
  sure : Int
structure Seat where
  no : Int
  p : Page
  dirty : Bool
  hot : Bool
structure Pool where
  seats : List Seat
  hand : Int
structure Hold where
  tx : Int
  oid : Int
structure Engine where
  disk : List Page
  pool : Pool
  log : Log
  txs : List Live
  holds : List Hold
  next : Int
  down : Bool
def inB (n lo hi : Int) : Bool := decide (lo ≤ n) && decide (n ≤ hi)
def AllB {α : Type} (p : α → Bool) (xs : List α) (i : Nat) (b : Bool) : Prop := ∀ j (_ : j < i) (hj : j < xs.length), p xs[j] = b
theorem allB_zero {α : Type} (p : α → Bool) (xs : List α) (b : Bool) : AllB p xs 0 b := fun j h => absurd h (by omega)
theorem AllB.succ {α : Type} {p : α → Bool} {xs : List α} {i : Nat} {b : Bool} (h : AllB p xs i b) (hi : i < xs.length) (hp : p xs[i] = b) : AllB p xs (i + 1) b := by
  intro j hj hj'
  by_cases h1 : j < i
  · exact h j h1 hj'
  · obtain rfl : j = i := by omega
    exact hp
theorem AllB.all {α : Type} {p : α → Bool} {xs : List α} {i : Nat} (h : AllB p xs i true) (hi : ¬ i < xs.length) : xs.all p = true := by
  rw [List.all_eq_true]
  intro x hx
  obtain ⟨j, hj, rfl⟩ := List.getElem_of_mem hx
  exact h j (by omega) hj
theorem not_all {α : Type} {p : α → Bool} {xs : List α} {i : Nat} (hi : i < xs.length) (hp : p xs[i] = false) : xs.all p = false := by
  rw [List.all_eq_false]; exact ⟨_, List.getElem_mem hi, by simp [hp]⟩
def idx {α : Type} (pr : α → Bool) (xs : List α) : Int := match xs.findIdx? pr with | some i => (i : Int) | none => -1
theorem idx_none {α : Type} {pr : α → Bool} {xs : List α} (h : ∀ j (hj : j < xs.length), pr xs[j] = false) : idx pr xs = -1 := by
  unfold idx
  have : xs.findIdx? pr = none := by
    rw [List.findIdx?_eq_none_iff]
    intro x hx
    obtain ⟨j, hj, rfl⟩ := List.getElem_of_mem hx
    exact h j hj
  rw [this]
theorem idx_at {α : Type} {pr : α → Bool} {xs : List α} {i : Nat} (hi : i < xs.length) (h : pr xs[i] = true) (hall : ∀ j, j < i → ∀ (hj : j < xs.length), pr xs[j] = false) : idx pr xs = i := by
  unfold idx
  have : xs.findIdx? pr = some i := by
    rw [List.findIdx?_eq_some_iff_getElem]
    exact ⟨hi, h, fun j hj => by simpa using hall j hj (by omega)⟩
  rw [this]
theorem idx_any {α : Type} {pr : α → Bool} {xs : List α} : decide (0 ≤ idx pr xs) = xs.any pr := by
  unfold idx
  cases h : xs.findIdx? pr with
  | none =>
    rw [List.findIdx?_eq_none_iff] at h
    have : xs.any pr = false := by rw [List.any_eq_false]; intro x hx; simp [h x hx]
    simp [this]
  | some i =>
    rw [List.findIdx?_eq_some_iff_getElem] at h
    obtain ⟨hi, h1, _⟩ := h
    have : xs.any pr = true := List.any_eq_true.2 ⟨_, List.getElem_mem hi, h1⟩
    simp [this]
def szObj (o : Obj) : Nat := o.ints.length + o.refs.length
def szSlot (s : Slot) : Nat := szObj s.o
def sumBy {α : Type} (f : α → Nat) (l : List α) : Nat := (l.map f).sum
def szPage (p : Page) : Nat := sumBy szSlot p.slots
def szRec (r : Rec) : Nat := szSlot r.before + szSlot r.after + r.txs.length
def szRecs (l : List Rec) : Nat := l.length + sumBy szRec l
def szLog (l : Log) : Nat := szRecs l.recs
def szSeat (s : Seat) : Nat := szPage s.p
def szSeats (l : List Seat) : Nat := l.length + sumBy szSeat l
def szPool (p : Pool) : Nat := szSeats p.seats
def szEngine (e : Engine) : Nat := sumBy szPage e.disk + szPool e.pool + szLog e.log + e.txs.length + e.holds.length
def szR (n : Nat) (left : Int) : Int := if (n : Int) ≤ left then left - n else -1
theorem szR_add (a b : Nat) (left : Int) (_ : 0 ≤ left) : (if szR a left < 0 then -1 else szR b (szR a left)) = szR (a + b) left := by
  unfold szR
  by_cases h1 : (a : Int) ≤ left
  · rw [if_pos h1, if_neg (by omega)]
    by_cases h2 : (b : Int) ≤ left - a
    · rw [if_pos h2, if_pos (by omega)]; omega
    · rw [if_neg h2, if_neg (by omega)]
  · rw [if_neg h1, if_pos (by omega), if_neg (by omega)]
theorem szR_add2 (a b : Nat) (left : Int) (h0 : 0 ≤ left) (h : ¬ szR a left < 0) : szR b (szR a left) = szR (a + b) left := by
  rw [← szR_add a b left h0, if_neg h]
theorem szR_zero (left : Int) (h0 : 0 ≤ left) : szR 0 left = left := by unfold szR; rw [if_pos (by omega)]; omega
theorem szR_le (n : Nat) (left : Int) (h : ¬ szR n left < 0) : (n : Int) ≤ left := by
  unfold szR at h
  split at h
  · assumption
  · omega
theorem szR_rg (n : Nat) (left : Int) (h0 : 0 ≤ left) (h : left ≤ 1048576) (h' : ¬ szR n left < 0) : 0 ≤ szR n left ∧ szR n left ≤ 1048576 := by
  unfold szR at *
  split at h' <;> omega
theorem sumBy_take {α : Type} (f : α → Nat) (l : List α) (i : Nat) (h : i < l.length) : sumBy f (l.take (i + 1)) = sumBy f (l.take i) + f l[i] := by
  unfold sumBy
  rw [List.take_succ_eq_append_getElem h, List.map_append, List.sum_append]
  simp
theorem sumBy_all {α : Type} (f : α → Nat) (l : List α) (i : Nat) (h : ¬ i < l.length) : sumBy f (l.take i) = sumBy f l := by
  rw [List.take_of_length_le (by omega)]
theorem sumBy_le {α : Type} (f : α → Nat) (l : List α) (i : Nat) : sumBy f (l.take i) ≤ sumBy f l := by
  have h := List.take_append_drop i l
  unfold sumBy
  have : ((l.take i ++ l.drop i).map f).sum = ((l.take i).map f).sum + ((l.drop i).map f).sum := by rw [List.map_append, List.sum_append]
  rw [h] at this
  omega
theorem sumBy_mem {α : Type} (f : α → Nat) (l : List α) (x : α) (h : x ∈ l) : f x ≤ sumBy f l := by
  unfold sumBy
  induction l with
  | nil => cases h
  | cons y l ih =>
    simp only [List.map_cons, List.sum_cons]
    rcases List.mem_cons.1 h with rfl | h
    · omega
    · have := ih h; omega
def groupsOf : Nat → Nat → List Int
  | 0, m => [(m % 256 : Nat)]
  | k + 1, m => if 127 < m then ((m % 128 + 128 : Nat) : Int) :: groupsOf k (m / 128) else [(m : Int)]
def zig (n : Int) : Nat := if n < 0 then (-2 * n - 1).toNat else (2 * n).toNat
def clampI (n : Int) : Int := max (-1000000000000) (min n 1000000000000)
def intBytes (n : Int) : List Int := groupsOf 9 (zig (clampI n))
def putInt (b : List Int) (n : Int) : List Int := b ++ intBytes n
def zObj : Obj := ⟨0, [], []⟩
theorem any_not {α : Type} (l : List α) (p : α → Bool) : (l.any fun x => !p x) = !l.all p := by
  rw [List.not_all_eq_any_not]
def intsOk (l : List Int) : Bool := l.all fun n => inB n (-1000000) 1000000
def refsOk (l : List Int) : Bool := l.all fun n => inB n 0 31
theorem any_ints (l : List Int) : (l.any fun n => !inB n (-1000000) 1000000) = !intsOk l := any_not l _
theorem any_refs (l : List Int) : (l.any fun n => !inB n 0 31) = !refsOk l := any_not l _
def objOk (o : Obj) : Bool := inB o.kind 1 99 && decide (o.ints.length ≤ 5) && decide (o.refs.length ≤ 5) && intsOk o.ints && refsOk o.refs
def putInts (b : List Int) (l : List Int) : List Int := l.foldl putInt (putInt b l.length)
def putObj (o : Obj) : List Int := if objOk o then putInts (putInts (putInt [] o.kind) o.ints) o.refs else []
def zSlot : Slot := ⟨false, zObj⟩
def noObj (o : Obj) : Bool := o.kind == 0 && (o.ints.length : Int) == 0 && (o.refs.length : Int) == 0
def slotOk (s : Slot) : Bool := if s.has then objOk s.o else noObj s.o
def slotsOk (l : List Slot) : Bool := l.all slotOk
theorem any_slots (l : List Slot) : (l.any fun s => !slotOk s) = !slotsOk l := any_not l _
def pageOk (p : Page) : Bool := inB p.lsn 0 1000000 && slotsOk p.slots
def noSlot (s : Slot) : Bool := !s.has && noObj s.o
def ascending : List Live → Bool
  | x :: y :: l => decide (x.tx < y.tx) && ascending (y :: l)
  | _ => true
def livesOk (l : List Live) (lsn : Int) : Bool := l.all (fun x => inB x.tx 1 1000 && inB x.last 1 (lsn - 1)) && ascending l && decide (l.length ≤ 20)
def recOk (r : Rec) : Bool :=
  inB r.lsn 1 1000000 &&
    if r.kind = 6 then r.tx == 0 && r.prev == 0 && r.oid == 0 && noSlot r.before && noSlot r.after && r.next == 0 && livesOk r.txs r.lsn
    else inB r.tx 1 1000 && inB r.prev 0 (r.lsn - 1) && r.txs.isEmpty &&
      if r.kind = 1 then inB r.oid 1 31 && slotOk r.before && slotOk r.after && r.next == 0
      else if r.kind = 4 then inB r.oid 1 31 && noSlot r.before && slotOk r.after && inB r.next 0 (r.lsn - 1)
      else (r.kind == 2 || r.kind == 3 || r.kind == 5) && r.oid == 0 && noSlot r.before && noSlot r.after && r.next == 0
def zRec : Rec := ⟨0, 0, 0, 0, 0, zSlot, zSlot, 0, []⟩
def logOk (l : Log) : Bool := l.recs.zipIdx.all (fun x => x.1.lsn == (x.2 : Int) + 1 && recOk x.1) && decide (l.recs.length ≤ 4000) && inB l.sure 0 l.recs.length
def seated (p : Pool) (no : Int) : Int := match p.seats.findIdx? (fun s => s.no == no) with | some i => i | none => -1
def distinctNos : List Int → Bool
  | [] => true
  | x :: l => !l.contains x && distinctNos l
def poolOk (p : Pool) : Bool := p.seats.all (fun s => inB s.no 0 7 && pageOk s.p) && distinctNos (p.seats.map (·.no)) && decide (p.seats.length ≤ 3) && inB p.hand 0 2
def mkInts (k : Int) (n : Nat) : List Int := (List.range n).map fun (j : Nat) => k + (j : Int)
theorem mkInts_length (k : Int) (n : Nat) : (mkInts k n).length = n := by simp [mkInts]
theorem mkInts_get (k : Int) (n i : Nat) (h : i < (mkInts k n).length) : (mkInts k n)[i] = k + i := by simp [mkInts]
def b3 (k : Int) : Bool := Int.tmod k 3 == 0
def mkL {α : Type} (mk : Int → α → α) (cnt : α → Nat) : Int → List α → List α
  | _, [] => []
  | k, x :: l => mk k x :: mkL mk cnt (k + cnt x) l
theorem mkL_length {α : Type} (mk : Int → α → α) (cnt : α → Nat) : ∀ (k : Int) (l : List α), (mkL mk cnt k l).length = l.length
  | _, [] => rfl
  | k, x :: l => by simp [mkL, mkL_length mk cnt _ l]
theorem mkL_get {α : Type} (mk : Int → α → α) (cnt : α → Nat) : ∀ (k : Int) (l : List α) (i : Nat) (h : i < (mkL mk cnt k l).length) (h' : i < l.length), (mkL mk cnt k l)[i] = mk (k + sumBy cnt (l.take i)) l[i]
  | k, x :: l, 0, _, _ => by simp [mkL, sumBy]
  | k, x :: l, i + 1, h, h' => by
    simp only [mkL, List.getElem_cons_succ]
    rw [mkL_get mk cnt (k + cnt x) l i (by simpa [mkL] using h) (by simpa using h')]
    congr 1
    simp only [List.take_succ_cons, sumBy, List.map_cons, List.sum_cons]
    omega
def mkObj (k : Int) (o : Obj) : Obj := ⟨o.kind, mkInts k o.ints.length, mkInts (k + o.ints.length) o.refs.length⟩
def mkSlot (k : Int) (s : Slot) : Slot := ⟨s.has, mkObj k s.o⟩
def mkPage (k : Int) (p : Page) : Page := ⟨p.lsn, mkL mkSlot szSlot k p.slots⟩
def mkLive (k : Int) (_ : Live) : Live := ⟨k, k + 1, b3 (k + 2)⟩
def cLive (_ : Live) : Nat := 3
def mkHold (k : Int) (_ : Hold) : Hold := ⟨k, k + 1⟩
def cHold (_ : Hold) : Nat := 2
def mkSeat (k : Int) (s : Seat) : Seat := ⟨k, ⟨k + 1, s.p.slots⟩, b3 (k + 2), b3 (k + 3)⟩
def cSeat (_ : Seat) : Nat := 4
def mkLives (k : Int) (l : List Live) : List Live := mkL mkLive cLive k l
def cLives (l : List Live) : Nat := sumBy cLive l
def mkSeats (k : Int) (l : List Seat) : List Seat := mkL mkSeat cSeat k l
def cSeats (l : List Seat) : Nat := sumBy cSeat l
def mkHolds (k : Int) (l : List Hold) : List Hold := mkL mkHold cHold k l
def mkPool (k : Int) (p : Pool) : Pool := ⟨mkSeats k p.seats, p.hand⟩
def cPool (p : Pool) : Nat := cSeats p.seats
def mkSlotE (k : Int) (s : Slot) : Slot := ⟨b3 k, ⟨k + 1, mkInts (k + 2) s.o.ints.length, mkInts (k + 2 + s.o.ints.length) s.o.refs.length⟩⟩
def cSlotE (s : Slot) : Nat := 2 + szObj s.o
def mkRecE (k : Int) (r : Rec) : Rec := ⟨k, k + 1, k + 2, k + 3, k + 4, mkSlotE (k + 5) r.before, mkSlotE (k + 5 + cSlotE r.before) r.after, k + 5 + cSlotE r.before + cSlotE r.after, mkLives (k + 6 + cSlotE r.before + cSlotE r.after) r.txs⟩
def cRecE (r : Rec) : Nat := 6 + cSlotE r.before + cSlotE r.after + cLives r.txs
def mkRecs (k : Int) (l : List Rec) : List Rec := mkL mkRecE cRecE k l
def cRecs (l : List Rec) : Nat := sumBy cRecE l
def mkLog (k : Int) (l : Log) : Log := ⟨mkRecs k l.recs, l.sure⟩
def cLog (l : Log) : Nat := cRecs l.recs
theorem cLives_eq (l : List Live) : cLives l = 3 * l.length := by
  unfold cLives sumBy cLive; induction l with
  | nil => rfl
  | cons x l ih => simp only [List.map_cons, List.sum_cons, List.length_cons]; omega
theorem cSeats_eq (l : List Seat) : cSeats l = 4 * l.length := by
  unfold cSeats sumBy cSeat; induction l with
  | nil => rfl
  | cons x l ih => simp only [List.map_cons, List.sum_cons, List.length_cons]; omega
end Go.Proofs.YtncinhlaabdlaaaGreat.Md
end
section
namespace Go.Proofs.YtncinhlaabdlaaaGreat.IM
open Go Go.RowKit
set_option linter.unusedVariables false
def IsInt (d : D) (n : Int) : Prop := d = .lit (.int .i64 n)
def IsByte (d : D) (n : Int) : Prop := d = .lit (.int .u8 n)
def IsBool (d : D) (b : Bool) : Prop := d = .lit (.bool b)
def IsL {α : Type} (sz : Nat) (R : D → α → Prop) (d : D) (xs : List α) : Prop :=
  (d = .nil ∧ xs = []) ∨ ∃ t zb f, d = .sl t zb xs.length sz f ∧ (∀ i, (f i).still) ∧ xs.length < 140737488355328 ∧ ∀ i (h : i < xs.length), R (f i) xs[i]
def IsA {α : Type} (n sz : Nat) (R : D → α → Prop) (d : D) (xs : List α) : Prop :=
  xs.length = n ∧ ∃ f, d = .node (.arr n sz) f ∧ (∀ i, (f i).still) ∧ ∀ i (h : i < xs.length), R (f i) xs[i]
def IsS (lay : List Nat) (Q : (Nat → D) → Prop) (d : D) : Prop := ∃ f, d = .node (.agg lay) f ∧ (∀ i, (f i).still) ∧ Q f
theorem IsInt.still {d : D} {n : Int} (h : IsInt d n) : d.still := by rw [h]; trivial
theorem IsByte.still {d : D} {n : Int} (h : IsByte d n) : d.still := by rw [h]; trivial
theorem IsBool.still {d : D} {b : Bool} (h : IsBool d b) : d.still := by rw [h]; trivial
theorem IsL.still {α : Type} {sz : Nat} {R : D → α → Prop} {d : D} {xs : List α} (h : IsL sz R d xs) : d.still := by
  rcases h with ⟨rfl, _⟩ | ⟨t, zb, f, rfl, h, _⟩
  · trivial
  · exact h
theorem IsA.still {α : Type} {n sz : Nat} {R : D → α → Prop} {d : D} {xs : List α} (h : IsA n sz R d xs) : d.still := by
  obtain ⟨_, f, rfl, h, _⟩ := h; exact h
theorem IsS.still {lay : List Nat} {Q : (Nat → D) → Prop} {d : D} (h : IsS lay Q d) : d.still := by
  obtain ⟨f, rfl, h, _⟩ := h; exact h
theorem IsL.size {α : Type} {sz : Nat} {R : D → α → Prop} {d : D} {xs : List α} (h : IsL sz R d xs) : d.size = 1 := by
  rcases h with ⟨rfl, _⟩ | ⟨t, zb, f, rfl, h, _⟩ <;> rfl
theorem IsL.isNode {α : Type} {sz : Nat} {R : D → α → Prop} {d : D} {xs : List α} (h : IsL sz R d xs) : d.isNode = some false := by
  rcases h with ⟨rfl, _⟩ | ⟨t, zb, f, rfl, h, _⟩ <;> rfl
theorem IsL.plain {α : Type} {sz : Nat} {R : D → α → Prop} {d : D} {xs : List α} (h : IsL sz R d xs) : d.plain := by
  rcases h with ⟨rfl, _⟩ | ⟨t, zb, f, rfl, h, _⟩ <;> trivial
theorem IsL.len {α : Type} {sz : Nat} {R : D → α → Prop} {d : D} {xs : List α} (h : IsL sz R d xs) : d.len = some xs.length := by
  rcases h with ⟨rfl, rfl⟩ | ⟨t, zb, f, rfl, h, _⟩ <;> rfl
theorem IsL.lenT {α : Type} {sz : Nat} {R : D → α → Prop} {d : D} {xs : List α} (h : IsL sz R d xs) (P : Program) (T : TypeId) : lenT P T d = if (telem P T).isSome = true then some xs.length else none := by
  rcases h with ⟨rfl, rfl⟩ | ⟨t, zb, f, rfl, h, _⟩ <;> rfl
theorem IsL.short {α : Type} {sz : Nat} {R : D → α → Prop} {d : D} {xs : List α} (h : IsL sz R d xs) : xs.length < 140737488355328 := by
  rcases h with ⟨rfl, rfl⟩ | ⟨t, zb, f, rfl, _, h, _⟩
  · simp
  · exact h
theorem IsS.size {lay : List Nat} {Q : (Nat → D) → Prop} {d : D} (h : IsS lay Q d) : d.size = lay.sum := by
  obtain ⟨f, rfl, _⟩ := h; rfl
theorem IsS.isNode {lay : List Nat} {Q : (Nat → D) → Prop} {d : D} (h : IsS lay Q d) : d.isNode = some true := by
  obtain ⟨f, rfl, _⟩ := h; rfl
theorem IsS.plain {lay : List Nat} {Q : (Nat → D) → Prop} {d : D} (h : IsS lay Q d) : d.plain := by
  obtain ⟨f, rfl, _⟩ := h; trivial
theorem IsA.size {α : Type} {n sz : Nat} {R : D → α → Prop} {d : D} {xs : List α} (h : IsA n sz R d xs) : d.size = n * sz := by
  obtain ⟨_, f, rfl, h, _⟩ := h; rfl
theorem IsA.isNode {α : Type} {n sz : Nat} {R : D → α → Prop} {d : D} {xs : List α} (h : IsA n sz R d xs) : d.isNode = some true := by
  obtain ⟨_, f, rfl, h, _⟩ := h; rfl
theorem IsA.plain {α : Type} {n sz : Nat} {R : D → α → Prop} {d : D} {xs : List α} (h : IsA n sz R d xs) : d.plain := by
  obtain ⟨_, f, rfl, h, _⟩ := h; trivial
theorem still_nthD {l : List D} (h : ∀ d ∈ l, d.still) (i : Nat) : (nthD l i).still := by
  induction l generalizing i with
  | nil => cases i <;> trivial
  | cons d l ih =>
    cases i with
    | zero => exact h d (by simp)
    | succ i => exact ih (fun d hd => h d (by simp [hd])) i
theorem still_upd {f : Nat → D} {k : Nat} {d : D} (h : ∀ i, (f i).still) (hd : d.still) (i : Nat) : (upd f k d i).still := by
  unfold upd; split
  · exact hd
  · exact h i
theorem still_cat {n : Nat} {f f' : Nat → D} (h : ∀ i, (f i).still) (h' : ∀ i, (f' i).still) (i : Nat) : (catD n f f' i).still := by
  unfold catD; split
  · exact h i
  · exact h' _
def D.whole : D → Prop
  | .sl _ zb n _ f => zb = true ∧ ∀ i, i < n → (f i).whole
  | .node k f => ∀ i, i < k.cnt → (f i).whole
  | .tup n f => ∀ i, i < n → (f i).whole
  | .lit _ => True
  | .nil => True
  | _ => False
structure Own (lo hi : Nat) (d : D) : Prop where
  rg : ∀ t ∈ d.tl, lo ≤ t ∧ t < hi
  nd : d.tl.Nodup
  wh : d.whole
theorem Own.mono {lo lo' hi hi' : Nat} {d : D} (h : Own lo hi d) (h1 : lo' ≤ lo) (h2 : hi ≤ hi') : Own lo' hi' d :=
  ⟨fun t ht => ⟨Nat.le_trans h1 (h.rg t ht).1, Nat.lt_of_lt_of_le (h.rg t ht).2 h2⟩, h.nd, h.wh⟩
theorem own_lit (lo hi : Nat) (v : Value) : Own lo hi (.lit v) := ⟨fun t ht => by simp [D.tl] at ht, by simp [D.tl], trivial⟩
theorem own_nil (lo hi : Nat) : Own lo hi .nil := ⟨fun t ht => by simp [D.tl] at ht, by simp [D.tl], trivial⟩
theorem nodup_append' {l l' : List Nat} (h : l.Nodup) (h' : l'.Nodup) (hd : ∀ x ∈ l, x ∉ l') : (l ++ l').Nodup :=
  List.nodup_append.2 ⟨h, h', fun a ha b hb hab => hd a ha (hab ▸ hb)⟩
structure OwnN (lo hi n : Nat) (f : Nat → D) : Prop where
  rg : ∀ i, i < n → ∀ t ∈ (f i).tl, lo ≤ t ∧ t < hi
  nd : ∀ i, i < n → (f i).tl.Nodup
  dj : ∀ i j, i < j → j < n → ∀ t ∈ (f i).tl, t ∉ (f j).tl
  wh : ∀ i, i < n → (f i).whole
theorem OwnN.mono {lo lo' hi hi' n : Nat} {f : Nat → D} (h : OwnN lo hi n f) (h1 : lo' ≤ lo) (h2 : hi ≤ hi') : OwnN lo' hi' n f :=
  ⟨fun i hi t ht => ⟨Nat.le_trans h1 (h.rg i hi t ht).1, Nat.lt_of_lt_of_le (h.rg i hi t ht).2 h2⟩, h.nd, h.dj, h.wh⟩
theorem OwnN.nodup {lo hi n : Nat} {f : Nat → D} (h : OwnN lo hi n f) : ((List.range n).flatMap fun i => (f i).tl).Nodup := by
  induction n with
  | zero => simp
  | succ n ih =>
    rw [List.range_succ, List.flatMap_append]
    refine nodup_append' (ih ⟨fun i hi => h.rg i (by omega), fun i hi => h.nd i (by omega), fun i j hij hj => h.dj i j hij (by omega), fun i hi => h.wh i (by omega)⟩) (by simpa using h.nd n (by omega)) ?_
    intro x hx hx'
    simp only [List.mem_flatMap, List.mem_range, List.mem_singleton, exists_eq_left] at hx hx'
    obtain ⟨i, hi, hx⟩ := hx
    exact h.dj i n hi (by omega) x hx hx'
theorem OwnN.of_nodup {lo hi n : Nat} {f : Nat → D} (h1 : ∀ t ∈ (List.range n).flatMap (fun i => (f i).tl), lo ≤ t ∧ t < hi) (h2 : ((List.range n).flatMap fun i => (f i).tl).Nodup) (h3 : ∀ i, i < n → (f i).whole) : OwnN lo hi n f := by
  refine ⟨fun i hi t ht => h1 t (by simp only [List.mem_flatMap, List.mem_range]; exact ⟨i, hi, ht⟩), fun i hi => ?_, fun i j hij hj t ht ht' => ?_, h3⟩
  · have := (List.pairwise_flatMap.1 h2).1 i (by simpa using hi)
    exact this
  · have := (List.pairwise_flatMap.1 h2).2
    have h4 : List.Pairwise (fun a b => ∀ x ∈ (f a).tl, ∀ y ∈ (f b).tl, x ≠ y) (List.range n) := this
    rw [List.pairwise_iff_getElem] at h4
    have h5 := h4 i j (by simp; omega) (by simpa using hj) hij
    simp only [List.getElem_range] at h5
    exact h5 t ht t ht' rfl
theorem own_node {lo hi : Nat} {k : Kd} {f : Nat → D} (h : OwnN lo hi k.cnt f) : Own lo hi (.node k f) := by
  refine ⟨fun t ht => ?_, h.nodup, h.wh⟩
  simp only [D.tl, List.mem_flatMap, List.mem_range] at ht
  obtain ⟨i, hi, ht⟩ := ht
  exact h.rg i hi t ht
theorem own_sl {lo hi t n sz : Nat} {f : Nat → D} (h : OwnN lo hi n f) (h1 : lo ≤ t) (h2 : t < hi) (h3 : ∀ i, i < n → t ∉ (f i).tl) : Own lo hi (.sl t true n sz f) := by
  refine ⟨fun x hx => ?_, ?_, rfl, h.wh⟩
  · simp only [D.tl, List.mem_cons, List.mem_flatMap, List.mem_range] at hx
    rcases hx with rfl | ⟨i, hi, hx⟩
    · exact ⟨h1, h2⟩
    · exact h.rg i hi x hx
  · simp only [D.tl]
    refine List.nodup_cons.2 ⟨fun hx => ?_, h.nodup⟩
    simp only [List.mem_flatMap, List.mem_range] at hx
    obtain ⟨i, hi, hx⟩ := hx
    exact h3 i hi hx
theorem Own.node {lo hi : Nat} {k : Kd} {f : Nat → D} (h : Own lo hi (.node k f)) : OwnN lo hi k.cnt f := OwnN.of_nodup h.rg h.nd h.wh
theorem Own.tup {lo hi n : Nat} {f : Nat → D} (h : Own lo hi (.tup n f)) : OwnN lo hi n f := OwnN.of_nodup h.rg h.nd h.wh
theorem Own.sl {lo hi t n sz : Nat} {zb : Bool} {f : Nat → D} (h : Own lo hi (.sl t zb n sz f)) : OwnN lo hi n f ∧ lo ≤ t ∧ t < hi ∧ zb = true ∧ ∀ i, i < n → t ∉ (f i).tl := by
  have h1 := List.nodup_cons.1 h.nd
  refine ⟨OwnN.of_nodup (fun x hx => h.rg x (List.mem_cons_of_mem _ hx)) h1.2 h.wh.2, (h.rg t List.mem_cons_self).1, (h.rg t List.mem_cons_self).2, h.wh.1, fun i hi hx => h1.1 ?_⟩
  simp only [List.mem_flatMap, List.mem_range]
  exact ⟨i, hi, hx⟩
theorem ownN_zero (lo hi : Nat) (f : Nat → D) : OwnN lo hi 0 f := ⟨fun i hi => absurd hi (by omega), fun i hi => absurd hi (by omega), fun i j _ hj => absurd hj (by omega), fun i hi => absurd hi (by omega)⟩
theorem OwnN.snoc {lo mid hi n : Nat} {f g : Nat → D} (h : OwnN lo mid n f) (h1 : Own mid hi (g n)) (h2 : lo ≤ mid) (h3 : mid ≤ hi) (hfg : ∀ i, i < n → g i = f i) : OwnN lo hi (n + 1) g := by
  refine ⟨fun i hi t ht => ?_, fun i hi => ?_, fun i j hij hj t ht ht' => ?_, fun i hi => ?_⟩
  · by_cases hn : i < n
    · rw [hfg i hn] at ht
      have := h.rg i hn t ht; omega
    · obtain rfl : i = n := by omega
      have := h1.rg t ht; omega
  · by_cases hn : i < n
    · rw [hfg i hn]; exact h.nd i hn
    · obtain rfl : i = n := by omega
      exact h1.nd
  · by_cases hn : j < n
    · rw [hfg i (by omega)] at ht
      rw [hfg j hn] at ht'
      exact h.dj i j hij hn t ht ht'
    · obtain rfl : j = n := by omega
      rw [hfg i (by omega)] at ht
      have h4 := h.rg i (by omega) t ht
      have h5 := h1.rg t ht'
      omega
  · by_cases hn : i < n
    · rw [hfg i hn]; exact h.wh i hn
    · obtain rfl : i = n := by omega
      exact h1.wh
theorem ownN_plain {lo hi n : Nat} {f : Nat → D} (h : ∀ i, i < n → (f i).tl = [] ∧ (f i).whole) : OwnN lo hi n f :=
  ⟨fun i hi t ht => by rw [(h i hi).1] at ht; simp at ht, fun i hi => by rw [(h i hi).1]; simp, fun i j hij hj t ht => by rw [(h i (by omega)).1] at ht; simp at ht, fun i hi => (h i hi).2⟩
def D.data : D → Prop
  | .lit _ => True
  | .nil => True
  | .sl _ _ n _ f => ∀ i, i < n → (f i).data
  | .node k f => ∀ i, i < k.cnt → (f i).data
  | .tup n f => ∀ i, i < n → (f i).data
  | .any => True
  | _ => False
theorem tags_of_tl {p : Nat → Prop} {d : D} : d.data → (∀ t ∈ d.tl, p t) → d.tags p := by
  induction d with
  | lit v => intro _ _; trivial
  | nil => intro _ _; trivial
  | any => intro _ _; trivial
  | sl t zb n sz f ih =>
    intro hd h
    refine ⟨h t (by simp [D.tl]), fun i hi => ih i (hd i hi) fun x hx => h x ?_⟩
    simp only [D.tl, List.mem_cons, List.mem_flatMap, List.mem_range]
    exact .inr ⟨i, hi, hx⟩
  | node k f ih =>
    intro hd h i hi
    refine ih i (hd i hi) fun x hx => h x ?_
    simp only [D.tl, List.mem_flatMap, List.mem_range]
    exact ⟨i, hi, hx⟩
  | tup n f ih =>
    intro hd h i hi
    refine ih i (hd i hi) fun x hx => h x ?_
    simp only [D.tl, List.mem_flatMap, List.mem_range]
    exact ⟨i, hi, hx⟩
  | _ => intro hd; exact hd.elim
theorem whole_data {d : D} : d.whole → d.data := by
  induction d with
  | sl t zb n sz f ih => intro h i hi; exact ih i (h.2 i hi)
  | node k f ih => intro h i hi; exact ih i (h i hi)
  | tup n f ih => intro h i hi; exact ih i (h i hi)
  | lit v => intro _; trivial
  | nil => intro _; trivial
  | _ => intro h; exact h.elim
theorem Own.tags {lo hi : Nat} {d : D} (h : Own lo hi d) : d.tags (lo ≤ ·) := tags_of_tl (whole_data h.wh) fun t ht => (h.rg t ht).1
def IsObj (d : D) (o : Md.Obj) : Prop := IsS [1, 1, 1] (fun f => IsInt (f 0) o.kind ∧ IsL 1 IsInt (f 1) o.ints ∧ IsL 1 IsInt (f 2) o.refs) d
def IsSlot (d : D) (s : Md.Slot) : Prop := IsS [1, 3] (fun f => IsBool (f 0) s.has ∧ IsObj (f 1) s.o) d
def IsPage (d : D) (p : Md.Page) : Prop := IsS [1, 16] (fun f => IsInt (f 0) p.lsn ∧ IsA 4 4 IsSlot (f 1) p.slots) d
def IsLive (d : D) (x : Md.Live) : Prop := IsS [1, 1, 1] (fun f => IsInt (f 0) x.tx ∧ IsInt (f 1) x.last ∧ IsBool (f 2) x.aborts) d
def IsRec (d : D) (r : Md.Rec) : Prop := IsS [1, 1, 1, 1, 1, 4, 4, 1, 1] (fun f => IsInt (f 0) r.lsn ∧ IsInt (f 1) r.tx ∧ IsInt (f 2) r.prev ∧ IsInt (f 3) r.kind ∧ IsInt (f 4) r.oid ∧
  IsSlot (f 5) r.before ∧ IsSlot (f 6) r.after ∧ IsInt (f 7) r.next ∧ IsL 3 IsLive (f 8) r.txs) d
def IsLog (d : D) (l : Md.Log) : Prop := IsS [1, 1] (fun f => IsL 15 IsRec (f 0) l.recs ∧ IsInt (f 1) l.sure) d
def IsSeat (d : D) (s : Md.Seat) : Prop := IsS [1, 17, 1, 1] (fun f => IsInt (f 0) s.no ∧ IsPage (f 1) s.p ∧ IsBool (f 2) s.dirty ∧ IsBool (f 3) s.hot) d
def IsPool (d : D) (p : Md.Pool) : Prop := IsS [1, 1] (fun f => IsL 20 IsSeat (f 0) p.seats ∧ IsInt (f 1) p.hand) d
def IsHold (d : D) (x : Md.Hold) : Prop := IsS [1, 1] (fun f => IsInt (f 0) x.tx ∧ IsInt (f 1) x.oid) d
def IsEngine (d : D) (e : Md.Engine) : Prop := IsS [136, 2, 2, 1, 1, 1, 1] (fun f => IsA 8 17 IsPage (f 0) e.disk ∧ IsPool (f 1) e.pool ∧ IsLog (f 2) e.log ∧ IsL 3 IsLive (f 3) e.txs ∧
  IsL 2 IsHold (f 4) e.holds ∧ IsInt (f 5) e.next ∧ IsBool (f 6) e.down) d
theorem IsObj.still {d : D} {o : Md.Obj} (h : IsObj d o) : d.still := IsS.still h
theorem IsSlot.still {d : D} {o : Md.Slot} (h : IsSlot d o) : d.still := IsS.still h
theorem IsPage.still {d : D} {o : Md.Page} (h : IsPage d o) : d.still := IsS.still h
theorem IsLive.still {d : D} {o : Md.Live} (h : IsLive d o) : d.still := IsS.still h
theorem IsRec.still {d : D} {o : Md.Rec} (h : IsRec d o) : d.still := IsS.still h
theorem IsLog.still {d : D} {o : Md.Log} (h : IsLog d o) : d.still := IsS.still h
theorem IsSeat.still {d : D} {o : Md.Seat} (h : IsSeat d o) : d.still := IsS.still h
theorem IsPool.still {d : D} {o : Md.Pool} (h : IsPool d o) : d.still := IsS.still h
theorem IsHold.still {d : D} {o : Md.Hold} (h : IsHold d o) : d.still := IsS.still h
theorem IsEngine.still {d : D} {o : Md.Engine} (h : IsEngine d o) : d.still := IsS.still h
section
variable {P : Program} {f m : Nat} {cs : Nat → D} {xs : List Operand} {dst : Option Tmp} {ev : Operand → D} {R : Roots} {n : Nat} {k : Roots → Nat → D → Prop} {Mk : Prop}
theorem xcall_v {args : List D} {v : D} (h : PCall P f args fun _ _ r => r = v) (hargs : ((xs.map fun x => rl 9 (labView R) (ev x)) ++ (List.range m).map fun i => rl 9 (labView R) (cs i)) = args)
    (hv : ∀ p, v.tags p) (hk : ∀ n1, n ≤ n1 → k R n1 v) : XCallT P f m cs xs dst ev R n k Mk := by
  refine .inl (.inr (.inl (hargs ▸ h.mono fun n0 n1 r h01 hr hn => ?_)))
  subst hr
  exact ⟨hv _, hk n1 (Nat.le_trans hn h01)⟩
theorem xcall_p {args : List D} {Q : Nat → Nat → D → Prop} (h : PCall P f args Q) (hargs : ((xs.map fun x => rl 9 (labView R) (ev x)) ++ (List.range m).map fun i => rl 9 (labView R) (cs i)) = args)
    (hk : ∀ n0 n1 r, n ≤ n0 → n0 ≤ n1 → Q n0 n1 r → r.tags (n0 ≤ ·) ∧ k R n1 r) : XCallT P f m cs xs dst ev R n k Mk :=
  .inl (.inr (.inl (hargs ▸ h.mono fun n0 n1 r h01 hr hn => hk n0 n1 r hn h01 hr)))
end
theorem iwp_for {P : Program} {w0 : World} {M : Fr} {Q : Exit → St → Prop} {st : St} {c : Code} (n : Nat) (I : Nat → St → Prop) (i0 : Nat) (hi : i0 ≤ n) (h0 : I i0 st)
    (hr : ∀ i st, i ≤ n → I i st → IWp P w0 M c (qthen (fun st' => i < n ∧ Into w0 M st' (I (i + 1))) Q) st) : IWp P w0 M (.loop c) Q st := by
  refine iwp_loop (fun m st => ∃ i, i ≤ n ∧ m = n - i ∧ I i st) (m := n - i0) ⟨i0, hi, rfl, h0⟩ ?_
  rintro m st ⟨i, hin, rfl, hI⟩
  refine iwp_mono (hr i st hin hI) fun x st' hq => ?_
  cases x with
  | normal =>
    obtain ⟨hlt, hinto⟩ := hq
    refine ⟨n - (i + 1), by omega, fun a w hs => ?_⟩
    obtain ⟨st'', h1, h2⟩ := hinto a w hs
    exact ⟨st'', ⟨i + 1, hlt, rfl, h1⟩, h2⟩
  | _ => exact hq
def keepL (s s0 : Nat → D) : List Nat → Prop
  | [] => True
  | t :: K => s t = s0 t ∧ keepL s s0 K
@[go_sem] theorem keepL_nil (s s0 : Nat → D) : keepL s s0 [] = True := rfl
@[go_sem] theorem keepL_cons (s s0 : Nat → D) (t : Nat) (K : List Nat) : keepL s s0 (t :: K) = (s t = s0 t ∧ keepL s s0 K) := rfl
theorem keepL_refl (s : Nat → D) (K : List Nat) : keepL s s K := by
  induction K with
  | nil => trivial
  | cons t K ih => exact ⟨rfl, ih⟩
def RoundR (N n : Nat) (s0 : Nat → D) (K : List Nat) (J : Nat → (Nat → D) → Roots → Prop) (st : St) : Prop := ∃ n' s R, n ≤ n' ∧ st = ⟨N, n', s, R⟩ ∧ keepL s s0 K ∧ J n' s R
theorem into_r {w0 : World} {M : Fr} {N n n' : Nat} {R : Roots} {s0 s : Nat → D} {K : List Nat} {J : Nat → (Nat → D) → Roots → Prop} (hn : n ≤ n') (hk : keepL s s0 K) (hJ : J n' s R) : Into w0 M ⟨N, n', s, R⟩ (RoundR N n s0 K J) :=
  Into.of ⟨n', s, R, hn, rfl, hk, hJ⟩
theorem iwp_forR {P : Program} {w0 : World} {M : Fr} {Q : Exit → St → Prop} {c : Code} {N n : Nat} {R0 : Roots} {s0 : Nat → D} (len : Nat) (K : List Nat) (J : Nat → Nat → (Nat → D) → Roots → Prop) (i0 : Nat) (hi : i0 ≤ len) (h0 : J i0 n s0 R0)
    (hr : ∀ i n' s R, i ≤ len → n ≤ n' → keepL s s0 K → J i n' s R → IWp P w0 M c (qthen (fun st' => i < len ∧ Into w0 M st' (RoundR N n s0 K (J (i + 1)))) Q) ⟨N, n', s, R⟩) : IWp P w0 M (.loop c) Q ⟨N, n, s0, R0⟩ := by
  refine iwp_for len (fun i st => RoundR N n s0 K (J i) st) i0 hi ⟨n, s0, R0, Nat.le_refl _, rfl, keepL_refl _ _, h0⟩ ?_
  rintro i st hi ⟨n', s, R, hn, rfl, hk, hJ⟩
  exact hr i n' s R hi hn hk hJ
def RoundK (N n : Nat) (R : Roots) (s0 : Nat → D) (K : List Nat) (J : (Nat → D) → Prop) (st : St) : Prop := ∃ n' s, n ≤ n' ∧ st = ⟨N, n', s, R⟩ ∧ keepL s s0 K ∧ J s
theorem into_k {w0 : World} {M : Fr} {N n n' : Nat} {R : Roots} {s0 s : Nat → D} {K : List Nat} {J : (Nat → D) → Prop} (hn : n ≤ n') (hk : keepL s s0 K) (hJ : J s) : Into w0 M ⟨N, n', s, R⟩ (RoundK N n R s0 K J) :=
  Into.of ⟨n', s, hn, rfl, hk, hJ⟩
theorem iwp_forK {P : Program} {w0 : World} {M : Fr} {Q : Exit → St → Prop} {c : Code} {N n : Nat} {R : Roots} {s0 : Nat → D} (len : Nat) (K : List Nat) (J : Nat → (Nat → D) → Prop) (i0 : Nat) (hi : i0 ≤ len) (h0 : J i0 s0)
    (hr : ∀ i n' s, i ≤ len → n ≤ n' → keepL s s0 K → J i s → IWp P w0 M c (qthen (fun st' => i < len ∧ Into w0 M st' (RoundK N n R s0 K (J (i + 1)))) Q) ⟨N, n', s, R⟩) : IWp P w0 M (.loop c) Q ⟨N, n, s0, R⟩ := by
  refine iwp_for len (fun i st => RoundK N n R s0 K (J i) st) i0 hi ⟨n, s0, Nat.le_refl _, rfl, keepL_refl _ _, h0⟩ ?_
  rintro i st hi ⟨n', s, hn, rfl, hk, hJ⟩
  exact hr i n' s hi hn hk hJ
theorem IsL.sl {α : Type} {sz : Nat} {R : D → α → Prop} {d : D} {xs : List α} (h : IsL sz R d xs) {i : Nat} (hi : i < xs.length) :
    ∃ t zb f, d = .sl t zb xs.length sz f ∧ (∀ i, (f i).still) ∧ ∀ i (h : i < xs.length), R (f i) xs[i] := by
  rcases h with ⟨_, rfl⟩ | ⟨t, zb, f, h1, h2, _, h3⟩
  · exact absurd hi (by simp)
  · exact ⟨t, zb, f, h1, h2, h3⟩
def Shp {α : Type} (R : D → α → Prop) (sz : Nat) (nd : Bool) : Prop := ∀ d x, R d x → d.size = sz ∧ d.isNode = some nd ∧ d.plain ∧ d.still
theorem shp_int : Shp IsInt 1 false := fun d x h => by rw [h]; exact ⟨rfl, rfl, trivial, trivial⟩
theorem shp_S {α : Type} {lay : List Nat} {Q : α → (Nat → D) → Prop} {sz : Nat} (h : lay.sum = sz) : Shp (fun d x => IsS lay (Q x) d) sz true := fun d x hx => ⟨by rw [IsS.size hx, h], IsS.isNode hx, IsS.plain hx, IsS.still hx⟩
theorem shp_obj : Shp IsObj 3 true := shp_S rfl
theorem shp_slot : Shp IsSlot 4 true := shp_S rfl
theorem shp_page : Shp IsPage 17 true := shp_S rfl
theorem shp_live : Shp IsLive 3 true := shp_S rfl
theorem shp_rec : Shp IsRec 15 true := shp_S rfl
theorem shp_log : Shp IsLog 2 true := shp_S rfl
theorem shp_seat : Shp IsSeat 20 true := shp_S rfl
theorem shp_pool : Shp IsPool 2 true := shp_S rfl
theorem shp_hold : Shp IsHold 2 true := shp_S rfl
theorem shp_engine : Shp IsEngine 144 true := shp_S rfl
theorem i64_succ {i : Nat} (h : i < 140737488355328) : IntKind.i64.wrap ((i : Int) + 1) = ((i + 1 : Nat) : Int) := by
  rw [IntKind.wrap_i64]
  omega
attribute [go_sem] Int.toNat_natCast Int.natCast_nonneg Int.ofNat_lt Int.ofNat_le
@[go_sem] theorem tags_lit' (v : Value) (p : Nat → Prop) : (D.lit v).tags p = True := rfl
@[go_sem] theorem labView_same (R : Roots) (l g b : Nat) (d : D) : labView (upd R l (some (g, b, d))) l g = .per b d := by simp [labView]
@[go_sem] theorem labView_other (R : Roots) (l l' g : Nat) (x : Option (Nat × Nat × D)) (h : l ≠ l') : labView (upd R l' x) l g = labView R l g := by simp [labView, upd_ne _ _ h]
open Classical in
noncomputable def slV (k : Nat) (F : Relab) (b o i n sz : Nat) (ok ok2 : Prop) : D → D
  | .node (.arr N sz') f => if ok ∧ ok2 ∧ i = 0 ∧ n ≤ N ∧ sz' = sz then .sl b (o == 0) n sz fun i => rl k F (f i) else .any
  | _ => .any
open Classical in
noncomputable def ptV (k : Nat) (F : Relab) (ok : Prop) (d : D) : D := if ok then .cptr (rl k F d) else .any
def wLab : Lab → (Nat → Nat → D) → (Nat → D → D) → D
  | .gone, _, _ => .any
  | .to l g, f, _ => f l g
  | .per b d, _, h => h b d
@[go_sem] theorem wLab_gone (f : Nat → Nat → D) (h : Nat → D → D) : wLab .gone f h = .any := rfl
@[go_sem] theorem wLab_to (l g : Nat) (f : Nat → Nat → D) (h : Nat → D → D) : wLab (.to l g) f h = f l g := rfl
@[go_sem] theorem wLab_per (b : Nat) (d : D) (f : Nat → Nat → D) (h : Nat → D → D) : wLab (.per b d) f h = h b d := rfl
@[go_sem] theorem slV_arr (k : Nat) (F : Relab) (b o i n sz N sz' : Nat) (f : Nat → D) (ok ok2 : Prop) (h : ok ∧ ok2 ∧ i = 0 ∧ n ≤ N ∧ sz' = sz) : slV k F b o i n sz ok ok2 (.node (.arr N sz') f) = .sl b (o == 0) n sz fun i => rl k F (f i) := by
  simp only [slV]; rw [if_pos h]
@[go_sem] theorem ptV_ok (k : Nat) (F : Relab) (ok : Prop) (d : D) (h : ok) : ptV k F ok d = .cptr (rl k F d) := by unfold ptV; rw [if_pos h]
@[go_sem] theorem rl_msl_go (k : Nat) (F : Relab) (l g o : Nat) (p : List Nat) (i n sz : Nat) : rl (k + 1) F (.msl l g o p i n sz) = wLab (F l g) (fun l' g' => .msl l' g' o p i n sz) (fun b d => slV k F b o i n sz (d.inb p) (d.offOf p = o) (d.get p)) := by
  rw [rl_msl]
  cases F l g with
  | per b d =>
    simp only [wLab]
    split
    · rename_i hx; rw [hx]; simp only [slV]; split <;> first | rfl | simp_all
    · rename_i hx
      cases hd : d.get p with
      | node kd f => cases kd with
        | arr N sz' => exact absurd hd (hx _ _ _)
        | agg lay => rfl
      | _ => rfl
  | _ => rfl
@[go_sem] theorem rl_ptr_go (k : Nat) (F : Relab) (l g o : Nat) (p : List Nat) : rl (k + 1) F (.ptr l g o p) = wLab (F l g) (fun l' g' => .ptr l' g' o p) (fun b d => ptV k F (o = 0 ∧ p = []) d) := by
  rw [rl_ptr]
  cases F l g <;> simp [wLab, ptV]
@[go_sem] theorem retOk_cell (P : Program) (st : St) (t T : Nat) : retOk P st (.cell t T) = wRef (st.s t) (fun l g o p => TyOk P T ((st.rd l g).get p) ∧ (st.rd l g).inb p ∧ (st.rd l g).offOf p = o) (fun _ => False) := by
  simp only [retOk, wRef]
  cases st.s t <;> rfl
def rdP (R : Roots) : D → D
  | .ptr l g _ p => (rdR R l g).get p
  | _ => .any
@[go_sem] theorem rdP_ptr (R : Roots) (l g o : Nat) (p : List Nat) : rdP R (.ptr l g o p) = (rdR R l g).get p := rfl
@[go_sem] theorem retD_cell (st : St) (t T : Nat) : retD st (.cell t T) = rdP st.R (st.s t) := by
  simp only [retD, rdP]
  cases st.s t <;> rfl
def stillL : List D → Prop
  | [] => True
  | d :: l => d.still ∧ stillL l
theorem stillL_all {l : List D} : stillL l ↔ ∀ i, (nthD l i).still := by
  induction l with
  | nil => exact ⟨fun _ i => by cases i <;> trivial, fun _ => trivial⟩
  | cons d l ih =>
    constructor
    · rintro ⟨h1, h2⟩ i
      cases i with
      | zero => exact h1
      | succ i => exact ih.1 h2 i
    · intro h; exact ⟨h 0, ih.2 fun i => h (i + 1)⟩
theorem stN {l : List D} (h : stillL l) : ∀ i, (nthD l i).still := stillL_all.1 h
@[go_sem] theorem stillL_nil : stillL [] = True := rfl
@[go_sem] theorem stillL_cons (d : D) (l : List D) : stillL (d :: l) = (d.still ∧ stillL l) := rfl
@[go_sem] theorem still_lit (v : Value) : (D.lit v).still = True := rfl
@[go_sem] theorem still_nil : D.nil.still = True := rfl
@[go_sem] theorem still_any : D.any.still = True := rfl
@[go_sem] theorem still_nodeN (k : Kd) (l : List D) : (D.node k (nthD l)).still = stillL l := by
  apply propext; rw [stillL_all]; rfl
@[go_sem] theorem still_nodeC (k : Kd) (d : D) : (D.node k fun _ => d).still = d.still := by
  apply propext; exact ⟨fun h => h 0, fun h _ => h⟩
theorem ownN_snoc_lit {lo hi n : Nat} {f : Nat → D} {v : Value} (h : OwnN lo hi n f) (hv : f n = .lit v) : OwnN lo hi (n + 1) f :=
  ⟨fun i hi t ht => by
    by_cases hn : i < n
    · exact h.rg i hn t ht
    · obtain rfl : i = n := by omega
      rw [hv] at ht; simp [D.tl] at ht,
   fun i hi => by
    by_cases hn : i < n
    · exact h.nd i hn
    · obtain rfl : i = n := by omega
      rw [hv]; simp [D.tl],
   fun i j hij hj t ht ht' => by
    by_cases hn : j < n
    · exact h.dj i j hij hn t ht ht'
    · obtain rfl : j = n := by omega
      rw [hv] at ht'; simp [D.tl] at ht',
   fun i hi => by
    by_cases hn : i < n
    · exact h.wh i hn
    · obtain rfl : i = n := by omega
      rw [hv]; trivial⟩
theorem ownN_snoc_own {lo mid hi a b n : Nat} {f : Nat → D} (h : OwnN lo mid n f) (hv : Own a b (f n)) (h1 : lo ≤ mid) (h2 : mid ≤ a) (h3 : b ≤ hi) (h4 : a ≤ b) : OwnN lo hi (n + 1) f :=
  (h.snoc (g := f) (hv.mono h2 h3) h1 (by omega) fun _ _ => rfl)
theorem Facts.here {N n n1 l g b : Nat} {s : Nat → D} {R : Roots} {d : D} (h : Facts ⟨N, n, s, upd R l (some (g, b, d))⟩ n1) : b < n1 ∧ b ∉ d.tl :=
  have e : (St.mk N n s (upd R l (some (g, b, d)))).R l = some (g, b, d) := upd_same _ _ _
  ⟨h.lt l g b d e, h.root l g b d l g b d e e⟩
theorem rls_still {k : Nat} {F : Relab} {f : Nat → D} (h : ∀ i, (f i).still) : (fun i => rl k F (f i)) = f := by funext i; exact rl_still (h i)
theorem rlnode_still {k : Nat} {F : Relab} {kd : Kd} {f : Nat → D} (h : ∀ i, (f i).still) : rl k F (.node kd f) = .node kd f := rl_still (show (D.node kd f).still from h)
theorem fin_node {kd : Kd} {f : Nat → D} {k : Nat} {F : Relab} {Q : D → Prop} (hst : ∀ i, (f i).still) (h : (∀ i, (f i).still) → Q (.node kd f)) : Q (rl k F (.node kd f)) := by
  rw [rlnode_still hst]; exact h hst
structure Fill {α : Type} (R : D → α → Prop) (sz lo hi : Nat) (xs : List α) (n i : Nat) (f : Nat → D) : Prop where
  st : ∀ j, (f j).still
  sh : ∀ j, j < n → (f j).plain ∧ (f j).size = sz
  ok : ∀ j (hj : j < xs.length), j < i → R (f j) xs[j]
  own : OwnN lo hi i f
theorem Fill.start {α : Type} {R : D → α → Prop} {sz lo hi : Nat} {xs : List α} {n : Nat} {f : Nat → D} (h1 : ∀ j, (f j).still) (h2 : ∀ j, j < n → (f j).plain ∧ (f j).size = sz) : Fill R sz lo hi xs n 0 f :=
  ⟨h1, h2, fun j _ hj => absurd hj (by omega), ownN_zero _ _ _⟩
theorem Fill.step {α : Type} {R : D → α → Prop} {sz lo hi mid n0 n1 : Nat} {xs : List α} {n i : Nat} {f : Nat → D} {r : D} {nd : Bool} (h : Fill R sz lo mid xs n i f) (hR : Shp R sz nd) (hlt : i < xs.length) (hr : R r xs[i]) (ho : Own n0 n1 r)
    (h1 : lo ≤ mid) (h2 : mid ≤ n0) (h3 : n1 ≤ hi) (h4 : n0 ≤ n1) : Fill R sz lo hi xs n (i + 1) (upd f i r) := by
  obtain ⟨e1, e2, e3, e4⟩ := hR _ _ hr
  refine ⟨still_upd h.st e4, fun j hj => ?_, fun j hj hji => ?_, ?_⟩
  · unfold upd; split
    · exact ⟨e3, e1⟩
    · exact h.sh j hj
  · unfold upd; split
    · rename_i hji'; subst hji'; exact hr
    · exact h.ok j hj (by omega)
  · refine h.own.snoc (mid := mid) (by rw [upd_same]; exact ho.mono h2 h3) h1 (by omega) fun j hj => by rw [upd_ne _ _ (by omega)]
theorem Fill.mono {α : Type} {R : D → α → Prop} {sz lo hi hi' : Nat} {xs : List α} {n i : Nat} {f : Nat → D} (h : Fill R sz lo hi xs n i f) (h1 : hi ≤ hi') : Fill R sz lo hi' xs n i f := ⟨h.st, h.sh, h.ok, h.own.mono (Nat.le_refl _) h1⟩
theorem Fill.isL {α : Type} {R : D → α → Prop} {sz lo hi n1 b : Nat} {xs : List α} {i : Nat} {f : Nat → D} (h : Fill R sz lo hi xs xs.length i f) (hge : ¬ i < xs.length) (hs : xs.length ≤ 4194304) (h1 : lo ≤ b) (h2 : b < n1) (h3 : hi ≤ n1) (hb : b ∉ (D.node (.arr xs.length sz) f).tl) :
    IsL sz R (.sl b true xs.length sz f) xs ∧ Own lo n1 (.sl b true xs.length sz f) := by
  have ho : OwnN lo hi xs.length f := ⟨fun j hj => h.own.rg j (by omega), fun j hj => h.own.nd j (by omega), fun j k hjk hk => h.own.dj j k hjk (by omega), fun j hj => h.own.wh j (by omega)⟩
  refine ⟨.inr ⟨b, true, f, rfl, h.st, by omega, fun j hj => h.ok j hj (by omega)⟩, own_sl (ho.mono (Nat.le_refl _) h3) h1 h2 fun j hj hx => hb ?_⟩
  simp only [D.tl, List.mem_flatMap, List.mem_range]
  exact ⟨j, hj, hx⟩
theorem Fill.isA {α : Type} {R : D → α → Prop} {sz lo hi n : Nat} {xs : List α} {i : Nat} {f : Nat → D} (h : Fill R sz lo hi xs n i f) (hn : xs.length = n) (hge : ¬ i < n) :
    IsA n sz R (.node (.arr n sz) f) xs ∧ Own lo hi (.node (.arr n sz) f) := by
  refine ⟨⟨hn, f, rfl, h.st, fun j hj => h.ok j hj (by omega)⟩, own_node ⟨fun j hj => h.own.rg j (by have : j < n := hj; omega), fun j hj => h.own.nd j (by have : j < n := hj; omega), fun j k hjk hk => h.own.dj j k hjk (by have : k < n := hk; omega), fun j hj => h.own.wh j (by have : j < n := hj; omega)⟩⟩
def pendV (P : Program) (rs : List ResultVar) (v : D) : Exit → St → Prop
  | .normal, st => (∀ r ∈ rs, retOk P st r) ∧ rl 9 (labView st.R) (retV st rs) = v
  | .ret, st => (∀ r ∈ rs, retOk P st r) ∧ rl 9 (labView st.R) (retV st rs) = v
  | _, _ => False
@[go_sem] theorem pendV_ret (P : Program) (rs : List ResultVar) (v : D) (st : St) : pendV P rs v .ret st = ((∀ r ∈ rs, retOk P st r) ∧ rl 9 (labView st.R) (retV st rs) = v) := rfl
@[go_sem] theorem pendV_normal (P : Program) (rs : List ResultVar) (v : D) (st : St) : pendV P rs v .normal st = ((∀ r ∈ rs, retOk P st r) ∧ rl 9 (labView st.R) (retV st rs) = v) := rfl
theorem pcall_intro_v {P : Program} {f : FuncId} {fn : Func} {c : Code} {rs : List ResultVar} {args : List D} {v : D} (hf : P.funcs[f]? = some fn) (hb : fn.body = some c) (hnm : (fn.name == "runtime.NumGoroutine") = false)
    (hrs : fn.results = rs.toArray) (hlen : rs.length ≤ 4) (hN : args.length ≤ fn.ntmps)
    (h : ∀ w0 M n0, IWp P w0 M c (pendV P rs v) (St.start fn.ntmps n0 args fun _ => none)) : PCall P f args fun _ _ r => r = v := by
  refine pcall_intro hf hb hnm hrs hlen hN fun w0 M n0 hW => iwp_mono (h w0 M n0) fun x st hq => ?_
  cases x with
  | normal => exact ⟨hq.1, fun _ _ _ => hq.2⟩
  | ret => exact ⟨hq.1, fun _ _ _ => hq.2⟩
  | _ => exact hq.elim
attribute [go_sem] Nat.reduceLT Nat.reduceEqDiff Nat.reduceAdd Nat.reduceMul Nat.reduceBEq beq_self_eq_true Nat.reduceLeDiff Nat.le_refl Int.reduceEq reduceCtorEq
end Go.Proofs.YtncinhlaabdlaaaGreat.IM
end
section
namespace Go.Proofs.YtncinhlaabdlaaaGreat.IM
open Go Go.RowKit
set_option linter.unusedVariables false
section
variable {P : Program} {w0 : World} {M : Fr}
def vcPT (P : Program) (ops : Array Oper) (Ls B : List Nat) (R0 : Roots) (K : St → Prop) (plan : List (Nat × Bool)) (st : St) (_ : Tok K := .mk) (_ : Tok ops := .mk) (_ : Tok R0 := .mk) : Prop := vcPlan P ops Ls B R0 K plan st
def vcET (P : Program) (ops : Array Oper) (Ls : List Nat) (o : Oper) (st : St) (K : St → Prop) (_ : Tok K := .mk) (_ : Tok ops := .mk) (_ : Tok o := .mk) : Prop := vcE P ops Ls o st K
def vcGT (P : Program) (ops : Array Oper) (o : Oper) (st : St) (K : St → Prop) (_ : Tok K := .mk) (_ : Tok ops := .mk) (_ : Tok o := .mk) : Prop := vcG P ops o st K
theorem iwp_plan {id : Nat} {ops : List Oper} {Q : Exit → St → Prop} {st : St} (plan : List (Nat × Bool)) (Ls : List Nat) (hm : P.follows .mixedOrders = true) (hp : planOk ops.toArray plan (Array.replicate ops.toArray.size false) = true) (hl : plan.length ≤ ops.toArray.size) (B : List Nat) (hb : barOk ops.toArray B plan = true)
    (h : vcPT P ops.toArray Ls B st.R (fun st => Q .normal st) plan st) : IWpT P w0 M (.region id ops.toArray true) Q st :=
  iwp_draw plan Ls hm hp hl B hb h
variable (ops : Array Oper) (Ls B : List Nat) (R0 : Roots) (K : St → Prop) (plan : List (Nat × Bool)) (st : St) (dst : Option Tmp) (ty : TypeId) (pos : String) (after : Array Edge)
attribute [go_sem] false_or true_or or_true and_true true_and
@[go_sem] theorem bin_eqlB (T : TypeId) (a b : Bool) (h : isBoolT P T = true) : bin P T .eql (.bool a) (.bool b) = some (.bool (a == b)) := by simp [bin, h]
@[go_sem] theorem bin_neqB (T : TypeId) (a b : Bool) (h : isBoolT P T = true) : bin P T .neq (.bool a) (.bool b) = some (.bool (a != b)) := by simp [bin, h]
def capD (d : D) : Nat → D := fun i => if i = 0 then d else D.ofV .nilFunc
@[go_sem] theorem eff_makeFunc1 (f : FuncId) (x : Operand) (st : St) (dst : Option Tmp) (R : Roots) (n : Nat) (k : Roots → Nat → D → Prop) : effT P (.makeFunc (.func f) #[] [x].toArray) dst st.ev R n k =
    ((st.ev x).isRef ∧ k R n (.fn f 1 (capD (st.ev x)))) := by
  rw [eff_makeFunc]
  have : (fun i => st.ev ([x].getD i (.const .nilFunc))) = capD (st.ev x) := by
    funext i
    cases i with
    | zero => rfl
    | succ i => rfl
  rw [← this]
  apply propext
  constructor
  · rintro ⟨h1, h2⟩; exact ⟨h1 0 (by simp), h2⟩
  · rintro ⟨h1, h2⟩
    refine ⟨fun i hi => ?_, h2⟩
    obtain rfl : i = 0 := by simpa using hi
    exact h1
@[go_sem] theorem rl_cap (k : Nat) (F : Relab) (f n : Nat) (d : D) : rl (k + 2) F (.fn f n (capD d)) = .fn f n (capD (rl (k + 1) F d)) := by
  rw [rl_fn]
  congr 1
  funext i
  unfold capD
  split
  · rfl
  · exact rl_still (by trivial)
@[go_sem] theorem capD_zero (d : D) : capD d 0 = d := rfl
theorem still_cap {d : D} (h : d.still) (i : Nat) : (capD d i).still := by unfold capD; split <;> trivial
@[go_sem] theorem vcP_nil : vcPT P ops Ls B R0 K [] st = K st := (rfl)
attribute [go_sem] List.contains_cons List.contains_nil Bool.or_true Bool.true_or Bool.or_false Bool.false_or
@[go_sem] theorem vcP_early (i : Nat) : vcPT P ops Ls B R0 K ((i, true) :: plan) st = wSome (ops[i]?) fun o => wSome (some (if B.contains i = true then [] else Ls)) fun L => vcET P ops L o st fun st => vcPT P ops Ls B R0 K plan st := by
  simp only [vcPT, vcPlan, vcET]
  cases ops[i]? <;> rfl
@[go_sem] theorem vcP_late (i : Nat) : vcPT P ops Ls B R0 K ((i, false) :: plan) st = wSome (ops[i]?) fun o => vcGT P ops o st fun st => (B.contains i = true ∨ ∀ l ∈ Ls, st.R l = R0 l) ∧ vcPT P ops Ls B R0 K plan st := by
  simp only [vcPT, vcPlan, vcGT]
  cases ops[i]? <;> rfl
theorem know_eq {st : St} {t : Nat} {b : Bool} (h : st.s t = .lit (.bool b)) : st.know (.tmp t) b = st := by
  cases st with
  | mk N n s R =>
    show St.mk N n (upd s t (.lit (.bool b))) R = _
    congr
    funext k
    unfold upd
    split
    · rename_i hk; subst hk; exact h.symm
    · rfl
theorem tst_know {st : St} {t : Nat} {want : Bool} {A B : St → Prop} : Tst (st.s t) want (A st) (B st) = wTest (st.s t) (fun b => wGd b want (A (st.know (.tmp t) want)) (B (st.know (.tmp t) (!want)))) (B st) := by
  rw [← wTest_eq]
  apply propext
  constructor
  · rintro (⟨b, h1, h2, h3⟩ | h)
    · refine .inl ⟨b, h1, fun hb => ?_, fun hb => ?_⟩
      · rw [know_eq (by rw [h1, hb])]; exact h2 hb
      · rw [know_eq (by rw [h1, hb])]; exact h3 hb
    · exact .inr h
  · rintro (⟨b, h1, h2, h3⟩ | h)
    · refine .inl ⟨b, h1, fun hb => ?_, fun hb => ?_⟩
      · have := h2 hb; rwa [know_eq (by rw [h1, hb])] at this
      · have := h3 hb; rwa [know_eq (by rw [h1, hb])] at this
    · exact .inr h
@[go_sem] theorem vcE_free (op : Op) : vcET P ops Ls ⟨dst, op, ty, pos, after, none⟩ st K = (earlyOp Ls op st.ev ∧ vcOpT P ⟨dst, op, ty, pos, after, none⟩ st K) := (rfl)
@[go_sem] theorem vcE_guard (op : Op) (j : Nat) (want : Bool) : vcET P ops Ls ⟨dst, op, ty, pos, after, some (j, want)⟩ st K =
    wSome ((ops[j]?).bind (·.dst)) fun t => t < st.N ∧ wTest (st.s t) (fun b => wGd b want (earlyOp Ls op (st.know (.tmp t) want).ev ∧ vcOpT P ⟨dst, op, ty, pos, after, some (j, want)⟩ (st.know (.tmp t) want) K) ((st.know (.tmp t) (!want)).dstOk dst ∧ K ((st.know (.tmp t) (!want)).put dst und))) (st.dstOk dst ∧ K (st.put dst und)) := by
  simp only [vcET, vcE, vcOpT]
  cases (ops[j]?).bind (·.dst) with
  | none => rfl
  | some t => simp only [wSome]; rw [tst_know (A := fun st => earlyOp Ls op st.ev ∧ vcOp P ⟨dst, op, ty, pos, after, some (j, want)⟩ st K) (B := fun st => st.dstOk dst ∧ K (st.put dst und))]
@[go_sem] theorem vcG_free (op : Op) : vcGT P ops ⟨dst, op, ty, pos, after, none⟩ st K = vcOpT P ⟨dst, op, ty, pos, after, none⟩ st K := (rfl)
@[go_sem] theorem vcG_guard (op : Op) (j : Nat) (want : Bool) : vcGT P ops ⟨dst, op, ty, pos, after, some (j, want)⟩ st K =
    wSome ((ops[j]?).bind (·.dst)) fun t => t < st.N ∧ wTest (st.s t) (fun b => wGd b want (vcOpT P ⟨dst, op, ty, pos, after, some (j, want)⟩ (st.know (.tmp t) want) K) ((st.know (.tmp t) (!want)).dstOk dst ∧ K ((st.know (.tmp t) (!want)).put dst und))) (st.dstOk dst ∧ K (st.put dst und)) := by
  simp only [vcGT, vcG, vcOpT]
  cases (ops[j]?).bind (·.dst) with
  | none => rfl
  | some t => simp only [wSome]; rw [tst_know (A := fun st => vcOp P ⟨dst, op, ty, pos, after, some (j, want)⟩ st K) (B := fun st => st.dstOk dst ∧ K (st.put dst und))]
variable (ev : Operand → D)
@[go_sem] theorem early_move (x : Operand) : earlyOp Ls (.move x) ev = True := rfl
@[go_sem] theorem early_assign (x : Operand) : earlyOp Ls (.assign x) ev = True := rfl
@[go_sem] theorem early_pick (a b c : Operand) : earlyOp Ls (.pick a b c) ev = True := rfl
@[go_sem] theorem early_un (o : UnOp) (T : TypeId) (x : Operand) : earlyOp Ls (.unOp o T x) ev = True := rfl
@[go_sem] theorem early_bin_tmp (o : BinOp) (T T2 : TypeId) (x : Operand) (t : Tmp) : earlyOp Ls (.binOp o T x (.tmp t) T2) ev = True := by cases o <;> rfl
@[go_sem] theorem early_bin_int (o : BinOp) (T T2 : TypeId) (x : Operand) (kd : IntKind) (i : Int) : earlyOp Ls (.binOp o T x (.const (.int kd i)) T2) ev = True := by cases o <;> rfl
@[go_sem] theorem early_bin_bool (o : BinOp) (T T2 : TypeId) (x : Operand) (b : Bool) : earlyOp Ls (.binOp o T x (.const (.bool b)) T2) ev = True := by cases o <;> rfl
@[go_sem] theorem early_fieldAddr (T : TypeId) (x : Operand) (i : Nat) : earlyOp Ls (.fieldAddr T x i) ev = True := rfl
@[go_sem] theorem early_indexAddr (T : TypeId) (x y : Operand) : earlyOp Ls (.indexAddr T x y) ev = True := rfl
@[go_sem] theorem early_build (T : TypeId) (ps : Array (Nat × Operand)) : earlyOp Ls (.build T ps) ev = True := rfl
@[go_sem] theorem early_nilCheck (x : Operand) : earlyOp Ls (.nilCheck x) ev = True := rfl
@[go_sem] theorem early_index (T : TypeId) (x y : Operand) : earlyOp Ls (.index T x y) ev = True := rfl
def earlyL (Ls : List Nat) : D → Prop
  | .ptr l _ _ _ => l ∈ Ls
  | _ => True
@[go_sem] theorem early_load (T : TypeId) (x : Operand) : earlyOp Ls (.load T x) ev = earlyL Ls (ev x) := rfl
@[go_sem] theorem earlyL_ptr (l g o : Nat) (p : List Nat) : earlyL Ls (.ptr l g o p) = (l ∈ Ls) := rfl
@[go_sem] theorem earlyL_cptr (d : D) : earlyL Ls (.cptr d) = True := rfl
@[go_sem] theorem early_builtin (b : Builtin) (xs : Array Operand) (ts : Array TypeId) : earlyOp Ls (.call { callee := .builtin b, args := xs, argTypes := ts }) ev = earlyB b := rfl
@[go_sem] theorem earlyB_len : earlyB .len = True := rfl
@[go_sem] theorem earlyB_max : earlyB .max = True := rfl
@[go_sem] theorem earlyB_min : earlyB .min = True := rfl
@[go_sem] theorem early_slice (T : TypeId) (x : Operand) (lo hi mx : Option Operand) : earlyOp Ls (.slice T x lo hi mx) ev = earlyS Ls (ev x) (lo.map ev) (mx.map ev) := rfl
@[go_sem] theorem earlyS_ptr (l g o : Nat) (p : List Nat) (lo mx : Option D) : earlyS Ls (.ptr l g o p) lo mx = (l ∈ Ls) := rfl
@[go_sem] theorem earlyS_sl (t : Nat) (zb : Bool) (n sz : Nat) (f : Nat → D) (lo mx : Option D) : earlyS Ls (.sl t zb n sz f) lo mx = True := rfl
end
section
variable {P : Program} {w0 : World} {M : Fr}
def vcTT (P : Program) (ops : Array Oper) (Ls B : List Nat) (R0 : Roots) (K : St → Prop) (p : Pl) (st : St) (_ : Tok K := .mk) (_ : Tok ops := .mk) (_ : Tok R0 := .mk) (_ : Tok p := .mk) : Prop := vcPl P ops Ls B R0 K p st
theorem iwp_planT {id : Nat} {ops : List Oper} {Q : Exit → St → Prop} {st : St} (p : Pl) (Ls B : List Nat) (hm : P.follows .mixedOrders = true) (hp : plOk ops.toArray p (Array.replicate ops.toArray.size false) = true) (hl : p.len ≤ ops.toArray.size) (hb : (plEdge ops.toArray B p && plTail B p) = true)
    (h : vcTT P ops.toArray Ls B st.R (fun st => Q .normal st) p st) : IWpT P w0 M (.region id ops.toArray true) Q st :=
  iwp_drawT p Ls B hm hp hl hb h
variable (P) (ops : Array Oper) (Ls B : List Nat) (R0 : Roots) (K : St → Prop) (r s : Pl) (st : St)
@[go_sem] theorem vcT_done : vcTT P ops Ls B R0 K .done st = K st := (rfl)
@[go_sem] theorem vcT_early (i : Nat) : vcTT P ops Ls B R0 K (.early i r) st = wSome (ops[i]?) fun o => wSome (some (if B.contains i = true then [] else Ls)) fun L => vcET P ops L o st fun st => vcTT P ops Ls B R0 K r st := by
  simp only [vcTT, vcPl, vcET]
  cases ops[i]? <;> rfl
@[go_sem] theorem vcT_late (i : Nat) : vcTT P ops Ls B R0 K (.late i r) st = wSome (ops[i]?) fun o => vcGT P ops o st fun st => (B.contains i = true ∨ ∀ l ∈ Ls, st.R l = R0 l) ∧ vcTT P ops Ls B R0 K r st := by
  simp only [vcTT, vcPl, vcGT]
  cases ops[i]? <;> rfl
@[go_sem] theorem vcT_fork (i j : Nat) : vcTT P ops Ls B R0 K (.fork i r j s) st = (vcTT P ops Ls B R0 K (.late i r) st ∧ vcTT P ops Ls B R0 K (.late j s) st) := (rfl)
@[go_sem] theorem vcT_fork3 (u : Pl) (i j k : Nat) : vcTT P ops Ls B R0 K (.fork3 i r j s k u) st = (vcTT P ops Ls B R0 K (.late i r) st ∧ vcTT P ops Ls B R0 K (.late j s) st ∧ vcTT P ops Ls B R0 K (.late k u) st) := (rfl)
end
end Go.Proofs.YtncinhlaabdlaaaGreat.IM
end
section
namespace Go.Proofs.YtncinhlaabdlaaaGreat.IM
open Go Go.RowKit
set_option linter.unusedVariables false
section
variable {P : Program} {w0 : World} {M : Fr} {st : St} {e : Env} {a : Act}
def MEnd (Qd : D → Prop) (d d' : D) : Prop := Qd d' ∧ d.skel d' ∧ d'.tags (· ∈ d.tl)
def mpend (P : Program) (rs : List ResultVar) (v : Value) (Qd : D → Prop) (d : D) : Exit → St → Prop
  | .normal, st => (∀ r ∈ rs, retOk P st r) ∧ retV st rs = .lit v ∧ MEnd Qd d (rl 9 (labView st.R) (st.s 0))
  | .ret, st => (∀ r ∈ rs, retOk P st r) ∧ retV st rs = .lit v ∧ MEnd Qd d (rl 9 (labView st.R) (st.s 0))
  | _, _ => False
theorem mcall_intro {f : FuncId} {fn : Func} {c : Code} {rs : List ResultVar} {d : D} {rest : List D} {v : Value} {Qd : D → Prop} (hf : P.funcs[f]? = some fn) (hb : fn.body = some c) (hnm : (fn.name == "runtime.NumGoroutine") = false)
    (hrs : fn.results = rs.toArray) (hlen : rs.length ≤ 4) (hN : rest.length + 1 ≤ fn.ntmps) (hv : Leaf v)
    (h : ∀ w0 M n0, (∀ b, n0 ≤ b → wr w0 M b) → (∀ b ∈ d.tl, wr w0 M b) → IWp P w0 M c (mpend P rs v Qd d) (St.start fn.ntmps n0 (d :: rest) fun _ => none)) : MCall P f d rest v Qd := by
  refine ⟨⟨fn, hf, by rw [hb]; rfl, hnm⟩, hv, fun w p vs hsz hp hS hvs => ?_⟩
  refine calls_of_wp hf hb ?_
  have hgood : Good w ⟨(· ∈ d.tl), p⟩ (St.start fn.ntmps w.heap.size (d :: rest) fun _ => none) ⟨fun _ => none, 1, p, w⟩ { tmps := vs ++ Array.replicate (fn.ntmps - vs.size) undef, defers := [] } := by
    refine ⟨rfl, by simp [St.start]; omega, rfl, fun t => ?_, fun l g b d hl => (nomatch hl), fun l g b d hl => (nomatch hl), fun l l' g g' b d d' hl hl' => (nomatch hl), hp, Keep.refl _ _, Nat.le_refl _, fun b hb => .inr (.inl hb)⟩
    show VRep _ ((d :: rest).getD t .any) _
    rcases Nat.lt_or_ge t (d :: rest).length with ht | ht
    · have h1 : (d :: rest).getD t .any = (d :: rest)[t] := by simp only [List.getD_eq_getElem?_getD, List.getElem?_eq_getElem ht, Option.getD_some]
      have h2 : (vs ++ Array.replicate (fn.ntmps - vs.size) undef).getD t undef = vs.getD t undef := by
        have : t < vs.size := by rw [hsz]; simpa using ht
        simp [Array.getElem?_append_left, this]
      rw [h1]
      simp only at h2 ⊢
      rw [h2]
      exact hvs t _ (List.getElem?_eq_getElem ht)
    · have h1 : (d :: rest).getD t .any = .any := by simp only [List.getD_eq_getElem?_getD, List.getElem?_eq_none ht, Option.getD_none]
      rw [h1]; trivial
  refine wp_mono (h w _ w.heap.size (fun b hb => .inl hb) (fun b hb => .inr hb) _ _ ⟨_, rfl, hgood⟩) ?_
  rintro x a' w' ⟨st, hq, e, rfl, hg⟩
  have fin : ((∀ r ∈ rs, retOk P st r) ∧ retV st rs = .lit v ∧ MEnd Qd d (rl 9 (labView st.R) (st.s 0))) →
      a'.defers = [] ∧ ∃ v1, (results fn a'.tmps).run P e.w = .ok v1 e.w ∧ (Ending.returned v1 = .returned v ∧ Keep w (· ∈ d.tl) e.w ∧ ∃ d' p' u, Qd d' ∧ d.skel d' ∧ d'.tags (· ∈ d.tl) ∧ VRep ⟨fun _ => none, 1, p', e.w⟩ d' u) := by
    rintro ⟨h1, h2, ⟨h3, h4, h5⟩⟩
    obtain ⟨v1, hrun, hv1⟩ := run_results hg fn hrs hlen h1
    rw [h2] at hv1
    obtain rfl := (VRep_lit hv1).1
    exact ⟨hg.df, _, hrun, rfl, hg.keep, _, _, _, h3, h4, h5, VRep_rl (relab_view hg) 9 _ _ (hg.slot 0)⟩
  cases x with
  | normal => exact fin hq
  | ret => exact fin hq
  | _ => exact hq.elim
def apend (P : Program) (rs : List ResultVar) (n0 : Nat) (Q : Nat → Nat → D → Prop) (d : D) : Exit → St → Prop
  | .normal, st => (∀ r ∈ rs, retOk P st r) ∧ ∀ n1, st.n ≤ n1 → Facts st n1 → Q n0 n1 (rl 9 (labView st.R) (retV st rs)) ∧ (rl 9 (labView st.R) (retV st rs)).tags (fun b => b ∈ d.tl ∨ n0 ≤ b)
  | .ret, st => (∀ r ∈ rs, retOk P st r) ∧ ∀ n1, st.n ≤ n1 → Facts st n1 → Q n0 n1 (rl 9 (labView st.R) (retV st rs)) ∧ (rl 9 (labView st.R) (retV st rs)).tags (fun b => b ∈ d.tl ∨ n0 ≤ b)
  | _, _ => False
variable (rs : List ResultVar) (v : Value) (Qd : D → Prop) (d : D) (n0 : Nat) (Q : Nat → Nat → D → Prop)
@[go_sem] theorem apend_ret : apend P rs n0 Q d .ret st = ((∀ r ∈ rs, retOk P st r) ∧ ∀ n1, st.n ≤ n1 → Facts st n1 → Q n0 n1 (rl 9 (labView st.R) (retV st rs)) ∧ (rl 9 (labView st.R) (retV st rs)).tags (fun b => b ∈ d.tl ∨ n0 ≤ b)) := rfl
@[go_sem] theorem apend_normal : apend P rs n0 Q d .normal st = ((∀ r ∈ rs, retOk P st r) ∧ ∀ n1, st.n ≤ n1 → Facts st n1 → Q n0 n1 (rl 9 (labView st.R) (retV st rs)) ∧ (rl 9 (labView st.R) (retV st rs)).tags (fun b => b ∈ d.tl ∨ n0 ≤ b)) := rfl
@[go_sem] theorem mpend_ret : mpend P rs v Qd d .ret st = ((∀ r ∈ rs, retOk P st r) ∧ retV st rs = .lit v ∧ MEnd Qd d (rl 9 (labView st.R) (st.s 0))) := rfl
@[go_sem] theorem mpend_normal : mpend P rs v Qd d .normal st = ((∀ r ∈ rs, retOk P st r) ∧ retV st rs = .lit v ∧ MEnd Qd d (rl 9 (labView st.R) (st.s 0))) := rfl
end
theorem Into.thaw {w0 : World} {M : Fr} {st : St} {K : St → Prop} (h : ThawK (wr w0 M) st (fun st' => Into w0 M st' K)) : Into w0 M st K := fun a w hs => by
  obtain ⟨st', h1, h2⟩ := hs.thaw (fun _ h => h) h
  exact h1 a w h2
section
variable {P : Program} {W : Nat → Prop} {f m : Nat} {cs : Nat → D} {xs : List Operand} {dst : Option Tmp} {ev : Operand → D} {R : Roots} {n : Nat} {k : Roots → Nat → D → Prop} {st : St} {K : St → Prop}
theorem stillL_mem {l : List D} (h : stillL l) : ∀ x ∈ l, x.still := by
  induction l with
  | nil => intro x hx; simp at hx
  | cons y l ih =>
    intro x hx
    rcases List.mem_cons.1 hx with rfl | hx
    · exact h.1
    · exact ih h.2 x hx
theorem xcall_m {d : D} {rest : List D} {v : Value} {Qd : D → Prop} (h : MCall P f d rest v Qd) (hargs : xs.map st.ev = d :: rest) (hdp : d.plain) (hst : d.still) (hrest : stillL rest) (hW : ∀ b ∈ d.tl, W b)
    (hk : ∀ d' n1, st.n ≤ n1 → Qd d' → d.skel d' → ∃ (s' : Nat → D) (R' : Roots), (∀ t, Carry d d' (st.s t) (s' t)) ∧
      CarR d d' st.R R' ∧
      K (({ N := st.N, n := n1, s := s', R := R' } : St).put dst (.lit v))) : XCallT P f 0 cs xs dst ev R n k (MEffT P W f 0 cs xs dst st K) :=
  .inr (.inl (.inl ⟨d, rest, v, Qd, rfl, hargs, hdp, hst, stillL_mem hrest, hW, h, hk⟩))
def pickS (s : Nat → D) : List Nat → (Nat → D) → Nat → D
  | [], b => b
  | t :: K, b => upd (pickS s K b) t (s t)
@[go_sem] theorem pickS_nil (s b : Nat → D) : pickS s [] b = b := rfl
@[go_sem] theorem pickS_cons (s b : Nat → D) (t : Nat) (K : List Nat) : pickS s (t :: K) b = upd (pickS s K b) t (s t) := rfl
def carL (d d' : D) (s : Nat → D) : List Nat → Prop
  | [] => True
  | t :: K => Carry d d' (s t) (s t) ∧ carL d d' s K
@[go_sem] theorem carL_nil (d d' : D) (s : Nat → D) : carL d d' s [] = True := rfl
@[go_sem] theorem carL_cons (d d' : D) (s : Nat → D) (t : Nat) (K : List Nat) : carL d d' s (t :: K) = (Carry d d' (s t) (s t) ∧ carL d d' s K) := rfl
@[go_sem] theorem carry_lit (d d' : D) (v : Value) : Carry d d' (.lit v) (.lit v) = True := eq_true (.apart _ trivial)
@[go_sem] theorem carry_nil (d d' : D) : Carry d d' .nil .nil = True := eq_true (.apart _ trivial)
@[go_sem] theorem carry_ptr (d d' : D) (l g o : Nat) (p : List Nat) : Carry d d' (.ptr l g o p) (.ptr l g o p) = True := eq_true (.ptr _ _ _ _)
@[go_sem] theorem carry_msl (d d' : D) (l g o : Nat) (p : List Nat) (i n sz : Nat) : Carry d d' (.msl l g o p i n sz) (.msl l g o p i n sz) = True := eq_true (.msl _ _ _ _ _ _ _)
theorem carry_pick {d d' : D} {s b : Nat → D} : ∀ {K : List Nat}, carL d d' s K → (∀ t, Carry d d' (s t) (b t)) → ∀ t, Carry d d' (s t) (pickS s K b t)
  | [], _, h => h
  | k :: K, h, hb => fun t => by
    show Carry d d' (s t) (upd (pickS s K b) k (s k) t)
    by_cases ht : t = k
    · subst ht; rw [upd_same]; exact h.1
    · rw [upd_ne _ _ ht]; exact carry_pick h.2 hb t
theorem carry_upd {d d' : D} {s b : Nat → D} {t : Nat} {x' : D} (hx : Carry d d' (s t) x') (h : ∀ t, Carry d d' (s t) (b t)) : ∀ j, Carry d d' (s j) (upd b t x' j) := fun j => by
  by_cases hj : j = t
  · subst hj; rw [upd_same]; exact hx
  · rw [upd_ne _ _ hj]; exact h j
theorem carry_any {d d' : D} {s : Nat → D} : ∀ t, Carry d d' (s t) ((fun _ => D.any) t) := fun _ => .drop _
theorem xcall_t {args : List D} {Q : Nat → Nat → D → Prop} (h : PCall P f args Q) (hargs : ((xs.map fun x => rl 9 (labView st.R) (st.ev x)) ++ (List.range m).map fun i => rl 9 (labView st.R) (cs i)) = args)
    (hk : ∀ n0 n1 r, st.n ≤ n0 → n0 ≤ n1 → Q n0 n1 r → r.tags (n0 ≤ ·) ∧ Conv W K ((St.mk st.N n1 st.s st.R).put dst r)) : XCallT P f m cs xs dst ev R n k (MEffT P W f m cs xs dst st K) :=
  .inr (.inr (.inr (.inl (hargs ▸ h.mono fun n0 n1 r h01 hr hn => hk n0 n1 r hn h01 hr))))
theorem Conv.one {W : Nat → Prop} {K : St → Prop} {st : St} (h : ThawK W st K) : Conv W K st := ⟨1, .inl h⟩
theorem Conv.oneR {W : Nat → Prop} {K : St → Prop} {st : St} (h : ThawR W st K) : Conv W K st := ⟨1, .inr h⟩
theorem Conv.zero {W : Nat → Prop} {K : St → Prop} {st : St} (h : K st) : Conv W K st := ⟨0, h⟩
end
@[go_sem] theorem skel_lit (v v' : Value) : (D.lit v).skel (.lit v') = (v = v') := rfl
@[go_sem] theorem skel_nil : D.nil.skel .nil = True := rfl
@[go_sem] theorem skel_sl (t t' : Nat) (zb zb' : Bool) (n n' sz sz' : Nat) (f f' : Nat → D) : (D.sl t zb n sz f).skel (.sl t' zb' n' sz' f') = (t' = t ∧ zb = true ∧ zb' = true ∧ n' = n ∧ sz' = sz) := rfl
theorem skel_self {d : D} : d.whole → d.skel d := by
  induction d with
  | lit v => intro _; rfl
  | nil => intro _; trivial
  | sl t zb n sz f ih => intro h; exact ⟨rfl, h.1, h.1, rfl, rfl⟩
  | node k f ih => intro h; exact ⟨rfl, fun i hi => ih i (h i hi)⟩
  | tup n f ih => intro h; exact ⟨rfl, fun i hi => ih i (h i hi)⟩
  | _ => intro h; exact h.elim
structure Mkd {α : Type} (R : D → α → Prop) (x' : α) (d d' : D) : Prop where
  rel : R d' x'
  tl : d'.tl = d.tl
  wh : d'.whole
  sk : d.skel d'
theorem Mkd.tags {α : Type} {R : D → α → Prop} {x' : α} {d d' : D} (h : Mkd R x' d d') : d'.tags (· ∈ d.tl) := tags_of_tl (whole_data h.wh) fun t ht => h.tl ▸ ht
theorem Mkd.fin {α : Type} {R : D → α → Prop} {x' : α} {d d' : D} (h : Mkd R x' d d') : MEnd (Mkd R x' d) d d' := ⟨h, h.sk, h.tags⟩
theorem Mkd.own {α : Type} {R : D → α → Prop} {x' : α} {d d' : D} (h : Mkd R x' d d') {lo hi : Nat} (ho : Own lo hi d) : Own lo hi d' := ⟨fun t ht => ho.rg t (h.tl ▸ ht), h.tl ▸ ho.nd, h.wh⟩
theorem mkd_node {α : Type} {R : D → α → Prop} {x' : α} {k : Kd} {f f' : Nat → D} (hr : R (.node k f') x') (h : ∀ i, i < k.cnt → (f' i).tl = (f i).tl ∧ (f' i).whole ∧ (f i).skel (f' i)) : Mkd R x' (.node k f) (.node k f') := by
  refine ⟨hr, ?_, fun i hi => (h i hi).2.1, rfl, fun i hi => (h i hi).2.2⟩
  simp only [D.tl]
  have key : ∀ n, n ≤ k.cnt → ((List.range n).flatMap fun i => (f' i).tl) = (List.range n).flatMap fun i => (f i).tl := by
    intro n
    induction n with
    | zero => intro _; rfl
    | succ n ih => intro hn; rw [List.range_succ, List.flatMap_append, List.flatMap_append, ih (by omega)]; simp [(h n (by omega)).1]
  exact key _ (Nat.le_refl _)
theorem OwnN.apart {lo hi n : Nat} {f : Nat → D} (h : OwnN lo hi n f) {i j : Nat} (hi : i < n) (hj : j < n) (hne : j ≠ i) : (f j).tags (fun b => b ∉ (f i).tl) := by
  refine tags_of_tl (whole_data (h.wh j hj)) fun t ht ht' => ?_
  rcases Nat.lt_or_ge i j with h1 | h1
  · exact h.dj i j h1 hj t ht' ht
  · exact h.dj j i (by omega) hi t ht ht'
theorem carry_field {lo hi : Nat} {k : Kd} {f : Nat → D} {d' : D} (h : OwnN lo hi k.cnt f) {i : Nat} (hi : i < k.cnt) : Carry (f i) d' (.node k f) (.node k (upd f i d')) := by
  refine .node k f _ fun j hj => ?_
  by_cases hji : j = i
  · subst hji; rw [upd_same]; exact .here
  · rw [upd_ne _ _ hji]; exact .apart _ (h.apart hi hj hji)
theorem OwnN.upd {lo hi n : Nat} {f : Nat → D} (h : OwnN lo hi n f) {i : Nat} {d' : D} (htl : d'.tl = (f i).tl) (hw : d'.whole) : OwnN lo hi n (upd f i d') := by
  have e : ∀ j, (IM.upd f i d' j).tl = (f j).tl := fun j => by
    by_cases hji : j = i
    · subst hji; rw [upd_same]; exact htl
    · rw [upd_ne _ _ hji]
  refine ⟨fun j hj t ht => h.rg j hj t (e j ▸ ht), fun j hj => by rw [e]; exact h.nd j hj, fun a b hab hb t ht ht' => h.dj a b hab hb t (e a ▸ ht) (e b ▸ ht'), fun j hj => ?_⟩
  by_cases hji : j = i
  · subst hji; rw [upd_same]; exact hw
  · rw [upd_ne _ _ hji]; exact h.wh j hj
@[go_sem] theorem bin_rem (P : Program) (T : TypeId) (k : IntKind) (a b : Int) (h : ¬ b = 0) : bin P T .rem (.int k a) (.int k b) = some (.int k (a.tmod b)) := by simp [bin, h]
@[go_sem] theorem bin_quo (P : Program) (T : TypeId) (k : IntKind) (a b : Int) (h : ¬ b = 0) : bin P T .quo (.int k a) (.int k b) = some (.int k (k.wrap (a.tdiv b))) := by simp [bin, h]
@[go_sem] theorem bin_and (P : Program) (T : TypeId) (k : IntKind) (a b : Int) : bin P T .and (.int k a) (.int k b) = some (.int k (bits .and k a b)) := by simp [bin]
@[go_sem] theorem bin_or (P : Program) (T : TypeId) (k : IntKind) (a b : Int) : bin P T .or (.int k a) (.int k b) = some (.int k (bits .or k a b)) := by simp [bin]
@[go_sem] theorem bin_xor (P : Program) (T : TypeId) (k : IntKind) (a b : Int) : bin P T .xor (.int k a) (.int k b) = some (.int k (bits .xor k a b)) := by simp [bin]
attribute [go_sem] Option.getD_some Option.getD_none forall_eq_or_imp
@[go_sem] theorem blkR_same (R : Roots) (l g b : Nat) (d : D) : blkR (upd R l (some (g, b, d))) (some l) = some b := by simp [blkR]
@[go_sem] theorem blkR_other (R : Roots) (l l' : Nat) (x : Option (Nat × Nat × D)) (h : l ≠ l') : blkR (upd R l' x) (some l) = blkR R (some l) := by simp [blkR, upd_ne _ _ h]
@[go_sem] theorem blkR_none (R : Roots) : blkR R none = none := rfl
@[go_sem] theorem catD_zero (f f' : Nat → D) : catD 0 f f' = f' := by funext i; simp [catD]
theorem fin_row {α : Type} {R : D → α → Prop} {sz lo hi b : Nat} {f : Nat → D} {xs : List α} (hst : ∀ i, (f i).still) (hs : xs.length < 140737488355328) (hf : ∀ i (h : i < xs.length), R (f i) xs[i]) (hp : ∀ d x, R d x → d.tl = [] ∧ d.whole) (h1 : lo ≤ b) (h2 : b < hi) :
    IsL sz R (.sl b true xs.length sz f) xs ∧ Own lo hi (.sl b true xs.length sz f) :=
  ⟨.inr ⟨b, true, f, rfl, hst, hs, hf⟩, own_sl (ownN_plain fun i hi => hp _ _ (hf i hi)) h1 h2 fun i hi hx => by rw [(hp _ _ (hf i hi)).1] at hx; simp at hx⟩
theorem fin_nil {α : Type} {R : D → α → Prop} {sz lo hi : Nat} : IsL sz R .nil ([] : List α) ∧ Own lo hi .nil := ⟨.inl ⟨rfl, rfl⟩, own_nil _ _⟩
theorem fin_zero {α : Type} {R : D → α → Prop} {sz lo hi b : Nat} {zb : Bool} {f : Nat → D} (hst : ∀ i, (f i).still) (hz : zb = true) (h1 : lo ≤ b) (h2 : b < hi) : IsL sz R (.sl b zb 0 sz f) ([] : List α) ∧ Own lo hi (.sl b zb 0 sz f) := by
  subst hz
  exact ⟨.inr ⟨b, true, f, rfl, hst, by simp, fun i h => absurd h (by simp)⟩, own_sl (ownN_zero _ _ _) h1 h2 fun i hi => absurd hi (Nat.not_lt_zero i)⟩
theorem nthD_ge : ∀ (l : List D) (i : Nat), l.length ≤ i → nthD l i = .any
  | [], _, _ => by simp [nthD]
  | d :: l, 0, h => by simp at h
  | d :: l, i + 1, h => nthD_ge l i (by simpa using h)
theorem fin_obj2 {n0 n1 : Nat} {F : Relab} {h : Nat → D} {o : Md.Obj} {b1 b2 : Nat} {f1 f2 : Nat → D} (h0 : h 0 = .lit (.int .i64 o.kind)) (h1 : rl 8 F (h 1) = .sl b1 true o.ints.length 1 fun i => rl 7 F (f1 i)) (h2 : rl 8 F (h 2) = .sl b2 true o.refs.length 1 fun i => rl 7 F (f2 i))
    (h3 : ∀ i, 3 ≤ i → h i = .any) (s1 : ∀ i, (f1 i).still) (s2 : ∀ i, (f2 i).still) (r1 : ∀ i (h : i < o.ints.length), IsInt (f1 i) o.ints[i]) (r2 : ∀ i (h : i < o.refs.length), IsInt (f2 i) o.refs[i])
    (l1 : o.ints.length < 140737488355328) (l2 : o.refs.length < 140737488355328) (a1 : n0 ≤ b1) (a2 : b1 < n1) (a3 : n0 ≤ b2) (a4 : b2 < n1) (hne : b1 ≠ b2) :
    IsObj (rl 9 F (.node (.agg [1, 1, 1]) h)) o ∧ Own n0 n1 (rl 9 F (.node (.agg [1, 1, 1]) h)) := by
  have hp : ∀ d x, IsInt d x → d.tl = [] ∧ d.whole := fun d x h => by rw [h]; exact ⟨rfl, trivial⟩
  rw [rls_still s1] at h1
  rw [rls_still s2] at h2
  obtain ⟨q1, o1⟩ := fin_row (R := IsInt) (sz := 1) s1 l1 r1 hp a1 a2
  obtain ⟨q2, o2⟩ := fin_row (R := IsInt) (sz := 1) s2 l2 r2 hp a3 a4
  rw [rl_node]
  have e0 : rl 8 F (h 0) = .lit (.int .i64 o.kind) := by rw [h0, rl_lit]
  have tl1 : (rl 8 F (h 1)).tl = [b1] := by rw [h1]; simp only [D.tl]; rw [List.flatMap_eq_nil_iff.2 fun i hi => (hp _ _ (r1 i (by simpa using hi))).1]
  have tl2 : (rl 8 F (h 2)).tl = [b2] := by rw [h2]; simp only [D.tl]; rw [List.flatMap_eq_nil_iff.2 fun i hi => (hp _ _ (r2 i (by simpa using hi))).1]
  refine ⟨⟨_, rfl, fun i => ?_, e0, ?_, ?_⟩, own_node ⟨fun i hi t ht => ?_, fun i hi => ?_, fun i j hij hj t ht ht' => ?_, fun i hi => ?_⟩⟩
  · match i with
    | 0 => show (rl 8 F (h 0)).still; rw [e0]; trivial
    | 1 => show (rl 8 F (h 1)).still; rw [h1]; exact s1
    | 2 => show (rl 8 F (h 2)).still; rw [h2]; exact s2
    | i + 3 => show (rl 8 F (h (i + 3))).still; rw [h3 _ (by omega), rl_any]; trivial
  · show IsL 1 IsInt (rl 8 F (h 1)) _; rw [h1]; exact q1
  · show IsL 1 IsInt (rl 8 F (h 2)) _; rw [h2]; exact q2
  · have hi' : i < 3 := hi
    match i, hi', ht with
    | 0, _, ht => have ht : t ∈ (rl 8 F (h 0)).tl := ht; rw [e0] at ht; simp [D.tl] at ht
    | 1, _, ht => have ht : t ∈ (rl 8 F (h 1)).tl := ht; rw [tl1] at ht; simp at ht; omega
    | 2, _, ht => have ht : t ∈ (rl 8 F (h 2)).tl := ht; rw [tl2] at ht; simp at ht; omega
  · have hi' : i < 3 := hi
    match i, hi' with
    | 0, _ => show (rl 8 F (h 0)).tl.Nodup; rw [e0]; simp [D.tl]
    | 1, _ => show (rl 8 F (h 1)).tl.Nodup; rw [tl1]; simp
    | 2, _ => show (rl 8 F (h 2)).tl.Nodup; rw [tl2]; simp
  · have hj' : j < 3 := hj
    match i, j, hij, hj', ht, ht' with
    | 0, _, _, _, ht, _ => have ht : t ∈ (rl 8 F (h 0)).tl := ht; rw [e0] at ht; simp [D.tl] at ht
    | 1, 2, _, _, ht, ht' =>
      have ht : t ∈ (rl 8 F (h 1)).tl := ht
      have ht' : t ∈ (rl 8 F (h 2)).tl := ht'
      rw [tl1] at ht; rw [tl2] at ht'; simp at ht ht'; omega
    | 1, 0, h, _, _, _ => omega
    | 1, 1, h, _, _, _ => omega
    | 2, 0, h, _, _, _ => omega
    | 2, 1, h, _, _, _ => omega
    | 2, 2, h, _, _, _ => omega
    | i + 3, _, h, _, _, _ => omega
  · have hi' : i < 3 := hi
    match i, hi' with
    | 0, _ => show (rl 8 F (h 0)).whole; rw [e0]; trivial
    | 1, _ => show (rl 8 F (h 1)).whole; rw [h1]; exact o1.wh
    | 2, _ => show (rl 8 F (h 2)).whole; rw [h2]; exact o2.wh
@[go_sem] theorem retV_two (st : St) (r1 r2 : ResultVar) : retV st [r1, r2] = .tup 2 (nthD [retD st r1, retD st r2]) := by
  show D.tup 2 _ = _
  congr 1
  funext i
  match i with
  | 0 => rfl
  | 1 => rfl
  | i + 2 => simp [nthD]
@[go_sem] theorem retV_three (st : St) (r1 r2 r3 : ResultVar) : retV st [r1, r2, r3] = .tup 3 (nthD [retD st r1, retD st r2, retD st r3]) := by
  show D.tup 3 _ = _
  congr 1
  funext i
  match i with
  | 0 => rfl
  | 1 => rfl
  | 2 => rfl
  | i + 3 => simp [nthD]
theorem rl_nthD (k : Nat) (F : Relab) : ∀ (l : List D) (i : Nat), rl k F (nthD l i) = nthD (l.map (rl k F)) i
  | [], i => by cases i <;> exact rl_any k F
  | d :: l, 0 => rfl
  | d :: l, i + 1 => rl_nthD k F l i
@[go_sem high] theorem rl_tupN (k : Nat) (F : Relab) (n : Nat) (l : List D) : rl (k + 1) F (.tup n (nthD l)) = .tup n (nthD (l.map (rl k F))) := by
  rw [rl_tup]; congr 1; funext i; exact rl_nthD k F l i
inductive Two (A : D → Prop) (b : D) : D → Prop
  | mk (d : D) (h : A d) : Two A b (.tup 2 (nthD [d, b]))
  | no (r : D) (h : False) : Two A b r
theorem Two.out {A : D → Prop} {b r : D} (h : Two A b r) : ∃ d, r = .tup 2 (nthD [d, b]) ∧ A d := by
  cases h with
  | mk d h => exact ⟨d, rfl, h⟩
  | no _ h => exact h.elim
theorem Two.of {A : D → Prop} {b b' d : D} (h : A d) (hb : b' = b) : Two A b (.tup 2 (nthD [d, b'])) := by subst hb; exact .mk d h
end Go.Proofs.YtncinhlaabdlaaaGreat.IM
end
section
namespace Go.Proofs.YtncinhlaabdlaaaGreat.IM
open Go Go.RowKit
set_option linter.unusedVariables false
structure MFill {α : Type} (R : D → α → Prop) (sz : Nat) (ys : List α) (f0 : Nat → D) (n i : Nat) (f : Nat → D) : Prop where
  st : ∀ j, (f j).still
  sh : ∀ j, j < n → (f j).plain ∧ (f j).size = sz
  ok : ∀ j (hj : j < ys.length), j < i → R (f j) ys[j]
  tl : ∀ j, j < n → (f j).tl = (f0 j).tl
  wh : ∀ j, j < n → (f j).whole
  old : ∀ j, i ≤ j → f j = f0 j
theorem MFill.start {α : Type} {R : D → α → Prop} {sz : Nat} {ys : List α} {n : Nat} {f : Nat → D} (h1 : ∀ j, (f j).still) (h2 : ∀ j, j < n → (f j).plain ∧ (f j).size = sz) (h3 : ∀ j, j < n → (f j).whole) : MFill R sz ys f n 0 f :=
  ⟨h1, h2, fun j _ hj => absurd hj (by omega), fun _ _ => rfl, h3, fun _ _ => rfl⟩
theorem MFill.step {α : Type} {R : D → α → Prop} {sz : Nat} {ys : List α} {n i : Nat} {f0 f : Nat → D} {r : D} {nd : Bool} (h : MFill R sz ys f0 n i f) (hR : Shp R sz nd) (hlt : i < ys.length) (hr : R r ys[i]) (ht : r.tl = (f0 i).tl) (hw : r.whole) :
    MFill R sz ys f0 n (i + 1) (upd f i r) := by
  obtain ⟨e1, e2, e3, e4⟩ := hR _ _ hr
  refine ⟨still_upd h.st e4, fun j hj => ?_, fun j hj hji => ?_, fun j hj => ?_, fun j hj => ?_, fun j hj => ?_⟩
  · unfold upd; split
    · exact ⟨e3, e1⟩
    · exact h.sh j hj
  · unfold upd; split
    · rename_i hji'; subst hji'; exact hr
    · exact h.ok j hj (by omega)
  · unfold upd; split
    · rename_i hji'; subst hji'; exact ht
    · exact h.tl j hj
  · unfold upd; split
    · exact hw
    · exact h.wh j hj
  · rw [upd_ne _ _ (by omega)]; exact h.old j (by omega)
theorem flat_tl {n : Nat} {f f0 : Nat → D} (h : ∀ j, j < n → (f j).tl = (f0 j).tl) : ((List.range n).flatMap fun i => (f i).tl) = (List.range n).flatMap fun i => (f0 i).tl := by
  have key : ∀ m, m ≤ n → ((List.range m).flatMap fun i => (f i).tl) = (List.range m).flatMap fun i => (f0 i).tl := by
    intro m
    induction m with
    | zero => intro _; rfl
    | succ m ih => intro hm; rw [List.range_succ, List.flatMap_append, List.flatMap_append, ih (by omega)]; simp [h m (by omega)]
  exact key n (Nat.le_refl _)
theorem MFill.mkd {α : Type} {R : D → α → Prop} {sz t : Nat} {ys : List α} {n i : Nat} {f0 f : Nat → D} (h : MFill R sz ys f0 n i f) (hn : ys.length = n) (hge : ¬ i < n) (hs : n < 140737488355328) :
    Mkd (IsL sz R) ys (.sl t true n sz f0) (.sl t true n sz f) := by
  subst hn
  refine ⟨.inr ⟨t, true, f, rfl, h.st, hs, fun j hj => h.ok j hj (by omega)⟩, ?_, ⟨rfl, h.wh⟩, rfl, rfl, rfl, rfl, rfl⟩
  simp only [D.tl]
  rw [flat_tl h.tl]
theorem mkd_nil {α : Type} {R : D → α → Prop} {sz : Nat} : Mkd (IsL sz R) ([] : List α) .nil .nil := ⟨.inl ⟨rfl, rfl⟩, rfl, trivial, trivial⟩
section
variable {P : Program}
theorem mcall_intro_sl {f : FuncId} {fn : Func} {c : Code} {rs : List ResultVar} {t n sz : Nat} {fe : Nat → D} {x : D} {v : Value} {Qd : D → Prop} (hf : P.funcs[f]? = some fn) (hb : fn.body = some c) (hnm : (fn.name == "runtime.NumGoroutine") = false)
    (hrs : fn.results = rs.toArray) (hlen : rs.length ≤ 4) (hN : [x].length + 1 ≤ fn.ntmps) (hv : Leaf v) (hfree : ∀ i, i < n → (fe i).free t) (hx : x.free t)
    (h : ∀ w0 M n0 g, (∀ b, n0 ≤ b → wr w0 M b) → (∀ b ∈ (D.sl t true n sz fe).tl, wr w0 M b) →
      IWp P w0 M c (mpend P rs v Qd (.sl t true n sz fe)) ⟨fn.ntmps, n0, nthD [.msl 1000 g 0 [] 0 n sz, x], upd (fun _ => none) 1000 (some (g, t, .node (.arr n sz) fe))⟩) : MCall P f (.sl t true n sz fe) [x] v Qd := by
  refine mcall_intro hf hb hnm hrs hlen hN hv fun w0 M n0 hW hS => iwp_into (Into.thaw ⟨t, n, sz, fe, 1000, hS t (by simp [D.tl]), rfl, hfree, ⟨0, .here⟩, fun g =>
    ⟨nthD [.msl 1000 g 0 [] 0 n sz, x], upd (fun _ => none) 1000 (some (g, t, .node (.arr n sz) fe)), fun j => ?_, fun l' => ?_, Into.of (h w0 M n0 g hW hS)⟩⟩)
  · match j with
    | 0 => exact .here
    | 1 => exact .free _ hx
    | j + 2 =>
      have e : nthD [D.msl 1000 g 0 [] 0 n sz, x] (j + 2) = .any := by cases j <;> rfl
      rw [e]; exact .drop _
  · by_cases hl : l' = 1000
    · subst hl; exact .inr (.inl ⟨rfl, upd_same _ _ _⟩)
    · exact .inl (upd_ne _ _ hl)
theorem xcall_mk {α : Type} {W : Nat → Prop} {f : Nat} {cs : Nat → D} {xs : List Operand} {dst : Option Tmp} {ev : Operand → D} {R : Roots} {n : Nat} {k : Roots → Nat → D → Prop} {st : St} {K : St → Prop} {Rl : D → α → Prop} {x' : α}
    {d : D} {rest : List D} {v : Value} (h : MCall P f d rest v (Mkd Rl x' d)) (hargs : xs.map st.ev = d :: rest) (hdp : d.plain) (hst : d.still) (hrest : stillL rest) (hW : ∀ b ∈ d.tl, W b) (K0 : List Nat) (b0 : D → Nat → D) (R1 : D → Roots)
    (hk : ∀ d' n1, st.n ≤ n1 → Mkd Rl x' d d' → carL d d' st.s K0 ∧ (∀ t, Carry d d' (st.s t) (b0 d' t)) ∧ CarR d d' st.R (R1 d') ∧
      K (({ N := st.N, n := n1, s := pickS st.s K0 (b0 d'), R := R1 d' } : St).put dst (.lit v))) : XCallT P f 0 cs xs dst ev R n k (MEffT P W f 0 cs xs dst st K) :=
  xcall_m h hargs hdp hst hrest hW fun d' n1 hn1 hq hs => by
    obtain ⟨h1, h2, h3, h4⟩ := hk d' n1 hn1 hq
    exact ⟨_, _, carry_pick h1 h2, h3, h4⟩
end
theorem w64 {x : Int} (h1 : -9223372036854775808 ≤ x) (h2 : x < 9223372036854775808) : IntKind.i64.wrap x = x := by rw [IntKind.wrap_i64]; omega
theorem IsInt.tl {d : D} {n : Int} (h : IsInt d n) : d.tl = [] := by rw [h]; rfl
theorem IsByte.tl {d : D} {n : Int} (h : IsByte d n) : d.tl = [] := by rw [h]; rfl
theorem IsBool.tl {d : D} {b : Bool} (h : IsBool d b) : d.tl = [] := by rw [h]; rfl
theorem IsInt.wh {d : D} {n : Int} (h : IsInt d n) : d.whole := by rw [h]; trivial
theorem IsByte.wh {d : D} {n : Int} (h : IsByte d n) : d.whole := by rw [h]; trivial
theorem IsBool.wh {d : D} {b : Bool} (h : IsBool d b) : d.whole := by rw [h]; trivial
theorem tl_flat {n : Nat} {f : Nat → D} (h : ∀ i, i < n → (f i).tl = []) : ((List.range n).flatMap fun i => (f i).tl) = [] := by
  rw [List.flatMap_eq_nil_iff]
  intro i hi
  exact h i (by simpa using hi)
theorem IsLive.tl {d : D} {x : Md.Live} (h : IsLive d x) : d.tl = [] := by
  obtain ⟨f, rfl, _, h0, h1, h2⟩ := h
  refine tl_flat fun i hi => ?_
  have hi' : i < 3 := hi
  match i, hi' with
  | 0, _ => exact h0.tl
  | 1, _ => exact h1.tl
  | 2, _ => exact h2.tl
theorem IsLive.wh {d : D} {x : Md.Live} (h : IsLive d x) : d.whole := by
  obtain ⟨f, rfl, _, h0, h1, h2⟩ := h
  intro i hi
  have hi' : i < 3 := hi
  match i, hi' with
  | 0, _ => exact h0.wh
  | 1, _ => exact h1.wh
  | 2, _ => exact h2.wh
theorem IsHold.tl {d : D} {x : Md.Hold} (h : IsHold d x) : d.tl = [] := by
  obtain ⟨f, rfl, _, h0, h1⟩ := h
  refine tl_flat fun i hi => ?_
  have hi' : i < 2 := hi
  match i, hi' with
  | 0, _ => exact h0.tl
  | 1, _ => exact h1.tl
theorem IsHold.wh {d : D} {x : Md.Hold} (h : IsHold d x) : d.whole := by
  obtain ⟨f, rfl, _, h0, h1⟩ := h
  intro i hi
  have hi' : i < 2 := hi
  match i, hi' with
  | 0, _ => exact h0.wh
  | 1, _ => exact h1.wh
theorem free_nil {t : Nat} {d : D} (hw : d.whole) (h : t ∉ d.tl) : d.free t := by
  refine free_of_tl ?_ h
  clear h
  induction d with
  | sl t' zb n sz f ih => intro i hi; exact ih i (hw.2 i hi)
  | node k f ih => intro i hi; exact ih i (hw i hi)
  | tup n f ih => intro i hi; exact ih i (hw i hi)
  | lit v => trivial
  | nil => trivial
  | _ => exact hw.elim
theorem own_free {lo hi t n sz : Nat} {zb : Bool} {f : Nat → D} (h : Own lo hi (.sl t zb n sz f)) : ∀ i, i < n → (f i).free t := fun i hi => free_nil (h.wh.2 i hi) (h.sl.2.2.2.2 i hi)
theorem tl_upd {k : Kd} {f : Nat → D} {i : Nat} {d' : D} (h : d'.tl = (f i).tl) : (D.node k (upd f i d')).tl = (D.node k f).tl :=
  flat_tl fun j _ => by
    by_cases hj : j = i
    · subst hj; rw [upd_same]; exact h
    · rw [upd_ne _ _ hj]
theorem wh_upd {k : Kd} {f : Nat → D} {i : Nat} {d' : D} (h : (D.node k f).whole) (hd : d'.whole) : (D.node k (upd f i d')).whole := by
  intro j hj
  by_cases hji : j = i
  · subst hji; rw [upd_same]; exact hd
  · rw [upd_ne _ _ hji]; exact h j hj
theorem OwnN.own {lo hi n : Nat} {f : Nat → D} (h : OwnN lo hi n f) {i : Nat} (hlt : i < n) : Own lo hi (f i) := ⟨h.rg i hlt, h.nd i hlt, h.wh i hlt⟩
theorem tl_child {k : Kd} {f : Nat → D} {i t : Nat} (hi : i < k.cnt) (h : t ∈ (f i).tl) : t ∈ (D.node k f).tl := by
  simp only [D.tl, List.mem_flatMap, List.mem_range]; exact ⟨i, hi, h⟩
def Ch (n : Nat) (f f' : Nat → D) : Prop := ∀ i, i < n → (f' i).tl = (f i).tl ∧ (f' i).whole ∧ (f i).skel (f' i)
theorem Ch.refl {lo hi n : Nat} {f : Nat → D} (h : OwnN lo hi n f) : Ch n f f := fun i hi => ⟨rfl, h.wh i hi, skel_self (h.wh i hi)⟩
theorem Ch.upd {α : Type} {R : D → α → Prop} {x' : α} {n : Nat} {f f' : Nat → D} (h : Ch n f f') {i : Nat} {e : D} (hm : Mkd R x' (f i) e) : Ch n f (IM.upd f' i e) := fun j hj => by
  by_cases hji : j = i
  · subst hji; rw [upd_same]; exact ⟨hm.tl, hm.wh, hm.sk⟩
  · rw [upd_ne _ _ hji]; exact h j hj
theorem carry_field' {lo hi : Nat} {k : Kd} {f : Nat → D} {d d' : D} (h : OwnN lo hi k.cnt f) {i : Nat} (hi : i < k.cnt) (hf : f i = d) : Carry d d' (.node k f) (.node k (upd f i d')) := by
  subst hf; exact carry_field h hi
theorem mk_sum {α : Type} (c : Nat) (l : List α) (i : Nat) (hi : i ≤ l.length) : Md.sumBy (fun _ => c) (l.take i) = c * i := by
  unfold Md.sumBy
  induction l generalizing i with
  | nil => obtain rfl : i = 0 := by simpa using hi
           simp
  | cons x l ih =>
    cases i with
    | zero => simp
    | succ i =>
      simp only [List.take_succ_cons, List.map_cons, List.sum_cons]
      rw [ih i (by simpa using hi), Nat.mul_succ]; omega
theorem mkLives_get (k : Int) (l : List Md.Live) (i : Nat) (h : i < (Md.mkLives k l).length) (h' : i < l.length) : (Md.mkLives k l)[i] = ⟨k + (3 * i : Nat), k + (3 * i + 1 : Nat), Md.b3 (k + (3 * i + 2 : Nat))⟩ := by
  have e := Md.mkL_get Md.mkLive Md.cLive k l i h h'
  have hs : Md.sumBy Md.cLive (l.take i) = 3 * i := mk_sum 3 l i (by omega)
  have e1 : k + ((3 * i : Nat) : Int) + 1 = k + ((3 * i + 1 : Nat) : Int) := by omega
  have e2 : k + ((3 * i : Nat) : Int) + 2 = k + ((3 * i + 2 : Nat) : Int) := by omega
  refine e.trans ?_
  rw [hs]
  simp only [Md.mkLive, e1, e2]
theorem mkHolds_get (k : Int) (l : List Md.Hold) (i : Nat) (h : i < (Md.mkHolds k l).length) (h' : i < l.length) : (Md.mkHolds k l)[i] = ⟨k + (2 * i : Nat), k + (2 * i + 1 : Nat)⟩ := by
  have e := Md.mkL_get Md.mkHold Md.cHold k l i h h'
  have hs : Md.sumBy Md.cHold (l.take i) = 2 * i := mk_sum 2 l i (by omega)
  have e1 : k + ((2 * i : Nat) : Int) + 1 = k + ((2 * i + 1 : Nat) : Int) := by omega
  refine e.trans ?_
  rw [hs]
  simp only [Md.mkHold, e1]
theorem mkSeats_get (k : Int) (l : List Md.Seat) (i : Nat) (h : i < (Md.mkSeats k l).length) (h' : i < l.length) : (Md.mkSeats k l)[i] = ⟨k + (4 * i : Nat), ⟨k + (4 * i + 1 : Nat), l[i].p.slots⟩, Md.b3 (k + (4 * i + 2 : Nat)), Md.b3 (k + (4 * i + 3 : Nat))⟩ := by
  have e := Md.mkL_get Md.mkSeat Md.cSeat k l i h h'
  have hs : Md.sumBy Md.cSeat (l.take i) = 4 * i := mk_sum 4 l i (by omega)
  have e1 : k + ((4 * i : Nat) : Int) + 1 = k + ((4 * i + 1 : Nat) : Int) := by omega
  have e2 : k + ((4 * i : Nat) : Int) + 2 = k + ((4 * i + 2 : Nat) : Int) := by omega
  have e3 : k + ((4 * i : Nat) : Int) + 3 = k + ((4 * i + 3 : Nat) : Int) := by omega
  refine e.trans ?_
  rw [hs]
  simp only [Md.mkSeat, e1, e2, e3]
theorem mkLives_length (k : Int) (l : List Md.Live) : (Md.mkLives k l).length = l.length := Md.mkL_length _ _ _ _
theorem mkHolds_length (k : Int) (l : List Md.Hold) : (Md.mkHolds k l).length = l.length := Md.mkL_length _ _ _ _
theorem mkSeats_length (k : Int) (l : List Md.Seat) : (Md.mkSeats k l).length = l.length := Md.mkL_length _ _ _ _
theorem isA_set {α : Type} {n sz i : Nat} {R : D → α → Prop} {f : Nat → D} {xs : List α} {r : D} {x : α} (hl : xs.length = n) (hst : ∀ i, (f i).still) (hf : ∀ i (h : i < xs.length), R (f i) xs[i]) (hr : R r x) (hs : r.still) :
    IsA n sz R (.node (.arr n sz) (upd f i r)) (xs.set i x) := by
  refine ⟨by simpa using hl, _, rfl, still_upd hst hs, fun j hj => ?_⟩
  rw [List.getElem_set]
  by_cases hji : i = j
  · subst hji; rw [if_pos rfl, upd_same]; exact hr
  · rw [if_neg hji, upd_ne _ _ (Ne.symm hji)]; exact hf j (by simpa using hj)
end Go.Proofs.YtncinhlaabdlaaaGreat.IM
end
section
namespace Go.Proofs.YtncinhlaabdlaaaGreat.IM
open Go Go.Proofs Go.RowKit
set_option linter.unusedVariables false
set_option linter.unusedSimpArgs false
set_option maxHeartbeats 2000000
set_option maxRecDepth 20000
theorem rep_tags {e : Env} {d : D} : ∀ {cs : List Value}, d.data → Rep e d cs → d.tags e.P := by
  induction d with
  | lit v => intro cs _ _; trivial
  | nil => intro cs _ _; trivial
  | any => intro cs _ _; trivial
  | sl t zb n sz f ih =>
    intro cs hd h
    obtain ⟨o, c, ps, _, _, hp, hr, _⟩ := h
    exact ⟨hp, fun i hi => ih i (hd i hi) (hr i hi).2⟩
  | node k f ih =>
    intro cs hd h i hi
    obtain ⟨ps, hr, _⟩ := h
    exact ih i (hd i hi) (hr i hi).2
  | tup n f ih => intro cs hd h; exact h.elim
  | _ => intro cs hd; exact hd.elim
theorem vrep_tags {e : Env} {d : D} : ∀ {v : Value}, d.data → VRep e d v → d.tags e.P := by
  induction d with
  | lit v => intro u _ _; trivial
  | nil => intro u _ _; trivial
  | any => intro u _ _; trivial
  | sl t zb n sz f ih => intro u hd h; exact rep_tags hd h
  | node k f ih =>
    intro u hd h
    obtain ⟨cs, _, hr⟩ := h
    exact rep_tags (d := .node k f) hd hr
  | tup n f ih =>
    intro u hd h i hi
    obtain ⟨vs, _, _, hr⟩ := h
    exact ih i (hd i hi) (hr i hi)
  | _ => intro u hd; exact hd.elim
theorem D.tags_mono {p q : Nat → Prop} (hpq : ∀ b, p b → q b) {d : D} : d.tags p → d.tags q := by
  induction d with
  | lit v => intro _; trivial
  | nil => intro _; trivial
  | any => intro _; trivial
  | opq v S φ => intro h b hb; exact hpq b (h b hb)
  | sl t zb n sz f ih => intro h; exact ⟨hpq _ h.1, fun i hi => ih i (h.2 i hi)⟩
  | node k f ih => intro h i hi; exact ih i (h i hi)
  | tup n f ih => intro h i hi; exact ih i (h i hi)
  | _ => intro h; exact h.elim
section
variable {P : Program}
theorem icall_intro_t {f : FuncId} {fn : Func} {c : Code} {rs : List ResultVar} {args ins : List D} {Q : Nat → Nat → List D → D → Prop} (hf : P.funcs[f]? = some fn) (hb : fn.body = some c) (hnm : (fn.name == "runtime.NumGoroutine") = false)
    (hrs : fn.results = rs.toArray) (hlen : rs.length ≤ 4) (hN : args.length ≤ fn.ntmps)
    (h : ∀ w0 M n0 gb, (∀ b, n0 ≤ b → wr w0 M b) → (∀ a ∈ args, a.data → a.tags (· < n0)) → IWp P w0 M c (pendI P rs n0 Q) (St.start fn.ntmps n0 args (InsR gb ins))) : ICall P f args ins Q := by
  refine ⟨⟨fn, hf, by rw [hb]; rfl, hnm⟩, fun w p gb vs hsz hp hins hinj hvs => ?_⟩
  have hT : ∀ a ∈ args, a.data → a.tags (· < w.heap.size) := fun a ha hd => by
    obtain ⟨i, hi, rfl⟩ := List.getElem_of_mem ha
    exact (D.tags_mono (fun b hb => (hp b hb)) (vrep_tags hd (hvs i _ (List.getElem?_eq_getElem hi))))
  refine calls_of_wp hf hb ?_
  have hgood : Good w ⟨fun b => ∃ i, i < ins.length ∧ b = gb i, p⟩ (St.start fn.ntmps w.heap.size args (InsR gb ins)) ⟨InsR gb ins, 1, p, w⟩ { tmps := vs ++ Array.replicate (fn.ntmps - vs.size) undef, defers := [] } := by
    refine ⟨rfl, by simp [St.start]; omega, rfl, fun t => ?_, fun l g b d hl => ?_, fun l g b d hl => ?_, fun l l' g g' b d d' hl hl' => ?_, hp, Keep.refl _ _, Nat.le_refl _, fun b hb => .inr (.inl hb)⟩
    · show VRep _ (args.getD t .any) _
      rcases Nat.lt_or_ge t args.length with ht | ht
      · have h1 : args.getD t .any = args[t] := by simp [List.getD_eq_getElem?_getD, ht]
        have h2 : (vs ++ Array.replicate (fn.ntmps - vs.size) undef).getD t undef = vs.getD t undef := by
          simp [Array.getElem?_append_left, hsz, ht]
        rw [h1]
        simp only at h2 ⊢
        rw [h2]
        exact hvs t _ (List.getElem?_eq_getElem ht)
      · have h1 : args.getD t .any = .any := by simp [List.getD_eq_getElem?_getD, List.getElem?_eq_none ht]
        rw [h1]; trivial
    · obtain ⟨i, rfl, h2, h3, rfl, rfl⟩ := InsR_some hl
      exact ⟨Nat.one_pos, hins i d h3⟩
    · obtain ⟨i, rfl, h2, h3, rfl, rfl⟩ := InsR_some hl
      exact .inr ⟨i, h2, rfl⟩
    · obtain ⟨i, rfl, h2, h3, rfl, rfl⟩ := InsR_some hl
      obtain ⟨i', rfl, h2', h3', _, h4⟩ := InsR_some hl'
      rw [hinj i i' h2 h2' h4]
  refine wp_mono (h w _ w.heap.size gb (fun b hb => .inl hb) hT _ _ ⟨_, rfl, hgood⟩) ?_
  rintro x a' w' ⟨st, hq, e, rfl, hg⟩
  have fin : (∃ os : List Nat, os.Nodup ∧ (∀ l ∈ os, (st.R l).isSome = true) ∧ (∀ l ∈ os, (rl 9 (labExit st.R os) (cntR st.R l)).plain) ∧ (∀ r ∈ rs, retOk P st r) ∧
      ∀ n1, st.n ≤ n1 → Facts st n1 → Q w.heap.size n1 (os.map fun l => rl 9 (labExit st.R os) (cntR st.R l)) (rl 9 (labExit st.R os) (retV st rs))) →
      a'.defers = [] ∧ ∃ v, (results fn a'.tmps).run P e.w = .ok v e.w ∧ ∃ v_1 r outs gb' p', Ending.returned v = Ending.returned v_1 ∧ Q w.heap.size e.w.heap.size outs r ∧
      Keep w (fun b => ∃ i, i < ins.length ∧ b = gb i) e.w ∧ (∀ b, p b → p' b) ∧
      (∀ b, p' b → b < e.w.heap.size ∧ (p b ∨ w.heap.size ≤ b ∨ ∃ i, i < ins.length ∧ b = gb i)) ∧
      (∀ i d, outs[i]? = some d → RootOk ⟨InsR gb' outs, 1, p', e.w⟩ (gb' i) d ∧ (w.heap.size ≤ gb' i ∨ ∃ j, j < ins.length ∧ gb' i = gb j)) ∧
      (∀ i j, i < outs.length → j < outs.length → gb' i = gb' j → i = j) ∧
      VRep ⟨InsR gb' outs, 1, p', e.w⟩ r v_1 := by
    rintro ⟨os, hnd, hos, hpl, h1, h3⟩
    obtain ⟨v, hrun, hv⟩ := run_results hg fn hrs hlen h1
    have hblk : ∀ i l, os[i]? = some l → ∃ g b d, st.R l = some (g, b, d) := fun i l hl => by
      have := hos l (List.mem_of_getElem? hl)
      rw [Option.isSome_iff_exists] at this
      obtain ⟨⟨g, b, d⟩, hx⟩ := this
      exact ⟨g, b, d, hx⟩
    let gb' : Nat → Nat := fun i => match (os[i]?).bind st.R with | some (_, b, _) => b | none => 0
    have hgb : ∀ i l, os[i]? = some l → ∀ g b d, st.R l = some (g, b, d) → gb' i = b := fun i l hl g b d hR => by simp [gb', hl, hR]
    let p' : Nat → Prop := fun b => p b ∨ e.P b ∨ ∃ l g d, l ∉ os ∧ st.R l = some (g, b, d)
    let outs : List D := os.map fun l => rl 9 (labExit st.R os) (cntR st.R l)
    have hlt : ∀ l g b d, st.R l = some (g, b, d) → b < e.w.heap.size := fun l g b d hl => by
      obtain ⟨C, T, cs, r1, _⟩ := (hg.envroot hl).row
      exact lt_of_block r1
    have ok : RelabOk e ⟨InsR gb' outs, 1, p', e.w⟩ (labExit st.R os) := by
      refine ⟨rfl, fun b hb => .inr (.inl hb), fun l g l' g' hF hgg => ?_, fun l g b d hF => ?_⟩
      · unfold labExit at hF
        split at hF
        · rename_i g1 b1 d1 hR
          split at hF
          · rename_i hgg'
            subst hgg'
            split at hF
            · rename_i i hi
              simp only [Lab.to.injEq] at hF
              obtain ⟨rfl, rfl⟩ := hF
              refine ⟨Nat.one_pos, fun b d hb => ?_⟩
              obtain ⟨i', h1, h2, h3, _, rfl⟩ := InsR_some hb
              obtain rfl : i' = i := by omega
              rw [hgb _ _ (idxOf?_spec hi) _ _ _ hR, hg.R, hR]
              exact ⟨_, rfl⟩
            · cases hF
          · cases hF
        · cases hF
      · unfold labExit at hF
        split at hF
        · rename_i g1 b1 d1 hR
          split at hF
          · rename_i hgg'
            subst hgg'
            split at hF
            · cases hF
            · rename_i hi
              simp only [Lab.per.injEq] at hF
              obtain ⟨rfl, rfl⟩ := hF
              exact ⟨by rw [hg.R]; exact hR, hg.envroot hR, .inr (.inr ⟨l, _, _, by simpa [List.idxOf?_eq_none_iff] using hi, hR⟩)⟩
          · cases hF
        · cases hF
    refine ⟨hg.df, v, hrun, v, _, outs, gb', p', rfl, h3 _ hg.n hg.facts, hg.keep, fun b hb => .inl hb, ?_, ?_, ?_, VRep_rl ok 9 _ _ hv⟩
    · rintro b (hb | hb | ⟨l, g, d, hl, hR⟩)
      · exact ⟨Nat.lt_of_lt_of_le (hp b hb) hg.keep.size, .inl hb⟩
      · exact ⟨hg.P b hb, (hg.per b hb).elim (fun h => .inr (.inl h)) fun h => h.elim .inl fun h => .inr (.inr h)⟩
      · exact ⟨hlt _ _ _ _ hR, .inr (hg.own _ _ _ _ hR)⟩
    · intro i d hi
      rw [List.getElem?_map, Option.map_eq_some_iff] at hi
      obtain ⟨l, hl, rfl⟩ := hi
      obtain ⟨g, b, d, hR⟩ := hblk i l hl
      have hro := hg.envroot hR
      rw [hgb i l hl g b d hR]
      refine ⟨⟨?_, hpl l (List.mem_of_getElem? hl), ?_⟩, hg.own _ _ _ _ hR⟩
      · rintro (hb | hb | ⟨l', g', d', hl', hR'⟩)
        · rcases hg.own _ _ _ _ hR with h' | ⟨j, hj, rfl⟩
          · have := hp b hb; omega
          · exact (hins j _ (List.getElem?_eq_getElem hj)).np hb
        · exact hro.np hb
        · have := hg.inj _ _ _ _ _ _ _ hR hR'
          subst this
          exact hl' (List.mem_of_getElem? hl)
      · have hcd : cntR st.R l = d := by simp [cntR, hR]
        obtain ⟨C, T, cs, r1, r2, r3⟩ := hro.row
        rw [hcd]
        exact ⟨C, T, cs, r1, Rep_rl ok 9 _ _ r2, r3⟩
    · intro i j hi hj hij
      have hi' : i < os.length := by simpa [outs] using hi
      have hj' : j < os.length := by simpa [outs] using hj
      obtain ⟨g, b, d, hR⟩ := hblk i os[i] (by simp [hi'])
      obtain ⟨g', b', d', hR'⟩ := hblk j os[j] (by simp [hj'])
      rw [hgb i os[i] (by simp [hi']) g b d hR, hgb j os[j] (by simp [hj']) g' b' d' hR'] at hij
      subst hij
      exact nodup_inj hnd hi' hj' (hg.inj _ _ _ _ _ _ _ hR hR')
  cases x with
  | normal => exact fin hq
  | ret => exact fin hq
  | _ => exact hq.elim
theorem pcall_intro_t {f : FuncId} {fn : Func} {c : Code} {rs : List ResultVar} {args : List D} {Q : Nat → Nat → D → Prop} (hf : P.funcs[f]? = some fn) (hb : fn.body = some c) (hnm : (fn.name == "runtime.NumGoroutine") = false)
    (hrs : fn.results = rs.toArray) (hlen : rs.length ≤ 4) (hN : args.length ≤ fn.ntmps)
    (h : ∀ w0 M n0, (∀ b, n0 ≤ b → wr w0 M b) → (∀ a ∈ args, a.data → a.tags (· < n0)) → IWp P w0 M c (pend P rs n0 Q) (St.start fn.ntmps n0 args fun _ => none)) : PCall P f args Q := by
  refine icall_intro_t hf hb hnm hrs hlen hN fun w0 M n0 gb hW hT => ?_
  have hnil : InsR gb [] = fun _ => none := by funext l; simp [InsR]
  rw [hnil]
  refine iwp_mono (h w0 M n0 hW hT) fun x st hq => ?_
  have fin : ((∀ r ∈ rs, retOk P st r) ∧ ∀ n1, st.n ≤ n1 → Facts st n1 → Q n0 n1 (rl 9 (labView st.R) (retV st rs))) → _ := fun ⟨h1, h2⟩ =>
    (⟨[], List.nodup_nil, by simp, by simp, h1, fun n1 hn hf => ⟨rfl, by rw [labExit_nil]; exact h2 n1 hn hf⟩⟩ :
      ∃ os : List Nat, os.Nodup ∧ (∀ l ∈ os, (st.R l).isSome = true) ∧ (∀ l ∈ os, (rl 9 (labExit st.R os) (cntR st.R l)).plain) ∧ (∀ r ∈ rs, retOk P st r) ∧
        ∀ n1, st.n ≤ n1 → Facts st n1 → ((os.map fun l => rl 9 (labExit st.R os) (cntR st.R l)) = [] ∧ Q n0 n1 (rl 9 (labExit st.R os) (retV st rs))))
  cases x with
  | normal => exact fin hq
  | ret => exact fin hq
  | _ => exact hq.elim
end
theorem pcall_intro_vt {P : Program} {f : FuncId} {fn : Func} {c : Code} {rs : List ResultVar} {args : List D} {v : D} (hf : P.funcs[f]? = some fn) (hb : fn.body = some c) (hnm : (fn.name == "runtime.NumGoroutine") = false)
    (hrs : fn.results = rs.toArray) (hlen : rs.length ≤ 4) (hN : args.length ≤ fn.ntmps)
    (h : ∀ w0 M n0, (∀ b, n0 ≤ b → wr w0 M b) → (∀ a ∈ args, a.data → a.tags (· < n0)) → IWp P w0 M c (pendV P rs v) (St.start fn.ntmps n0 args fun _ => none)) : PCall P f args fun _ _ r => r = v := by
  refine pcall_intro_t hf hb hnm hrs hlen hN fun w0 M n0 hW hT => iwp_mono (h w0 M n0 hW hT) fun x st hq => ?_
  cases x with
  | normal => exact ⟨hq.1, fun _ _ _ => hq.2⟩
  | ret => exact ⟨hq.1, fun _ _ _ => hq.2⟩
  | _ => exact hq.elim
theorem IsL.data {α : Type} {sz : Nat} {R : D → α → Prop} {d : D} {xs : List α} (hR : ∀ d x, R d x → d.data) (h : IsL sz R d xs) : d.data := by
  rcases h with ⟨rfl, _⟩ | ⟨t, zb, f, rfl, _, _, hf⟩
  · trivial
  · exact fun i hi => hR _ _ (hf i hi)
theorem IsA.data {α : Type} {n sz : Nat} {R : D → α → Prop} {d : D} {xs : List α} (hR : ∀ d x, R d x → d.data) (h : IsA n sz R d xs) : d.data := by
  obtain ⟨hl, f, rfl, _, hf⟩ := h
  exact fun i hi => hR _ _ (hf i (by rw [hl]; exact hi))
theorem IsInt.data {d : D} {n : Int} (h : IsInt d n) : d.data := by rw [h]; trivial
theorem IsBool.data {d : D} {n : Bool} (h : IsBool d n) : d.data := by rw [h]; trivial
theorem IsByte.data {d : D} {n : Int} (h : IsByte d n) : d.data := by rw [h]; trivial
theorem IsObj.data {d : D} {x : Md.Obj} (h : IsObj d x) : d.data := by
  obtain ⟨f, rfl, _, h0, h1, h2⟩ := h
  intro i hi
  have hi' : i < 3 := hi
  match i, hi' with
  | 0, _ => exact IsInt.data h0
  | 1, _ => exact IsL.data (fun _ _ h => IsInt.data h) h1
  | 2, _ => exact IsL.data (fun _ _ h => IsInt.data h) h2
theorem IsSlot.data {d : D} {x : Md.Slot} (h : IsSlot d x) : d.data := by
  obtain ⟨f, rfl, _, h0, h1⟩ := h
  intro i hi
  have hi' : i < 2 := hi
  match i, hi' with
  | 0, _ => exact IsBool.data h0
  | 1, _ => exact h1.data
theorem IsPage.data {d : D} {x : Md.Page} (h : IsPage d x) : d.data := by
  obtain ⟨f, rfl, _, h0, h1⟩ := h
  intro i hi
  have hi' : i < 2 := hi
  match i, hi' with
  | 0, _ => exact IsInt.data h0
  | 1, _ => exact IsA.data (fun _ _ h => IsSlot.data h) h1
theorem carry_lo {d d' v : D} {lo hi m : Nat} (ho : Own lo hi d) (hm : m ≤ lo) (h : v.tags (· < m)) : Carry d d' v v :=
  .apart _ (D.tags_mono (fun b hb hx => by have := (ho.rg b hx).1; have : b < m := hb; omega) h)
theorem carry_own {d d' v : D} {lo hi lo' hi' : Nat} (ho : Own lo hi d) (hv : Own lo' hi' v) (hm : hi ≤ lo' ∨ hi' ≤ lo) : Carry d d' v v :=
  .apart _ (tags_of_tl (whole_data hv.wh) fun b hb hx => by have := ho.rg b hx; have := hv.rg b hb; omega)
end Go.Proofs.YtncinhlaabdlaaaGreat.IM
end
section
namespace Go.Proofs.YtncinhlaabdlaaaGreat.IM
open Go Go.Proofs Go.RowKit
set_option linter.unusedVariables false
set_option linter.unusedSimpArgs false
set_option maxHeartbeats 2000000
set_option maxRecDepth 20000
section
variable {P : Program}
theorem nthD_getD (l : List D) (i : Nat) : l.getD i .any = nthD l i := by
  induction l generalizing i with
  | nil => cases i <;> rfl
  | cons d l ih => cases i with
    | zero => rfl
    | succ i => simpa [nthD] using ih i
end
def labB (R : Roots) : Relab := fun l g => if l = 1000 then .gone else labView R l g
def BEnd (Q : Nat → Nat → D → D → Prop) (d : D) (n0 n1 : Nat) (d' r : D) (T : Nat → Prop := fun b => b ∈ d.tl) (T2 : Nat → Prop := fun b => b ∈ d.tl) : Prop := Q n0 n1 d' r ∧ d'.plain ∧ d'.tags (fun b => T2 b ∨ n0 ≤ b) ∧ r.tags (fun b => T b ∨ n0 ≤ b)
def bpend (P : Program) (rs : List ResultVar) (n0 : Nat) (Q : Nat → Nat → D → D → Prop) (d : D) (gb : Nat) (T : Nat → Prop := fun b => b ∈ d.tl) (T2 : Nat → Prop := fun b => b ∈ d.tl) : Exit → St → Prop
  | .normal, st => (∀ r ∈ rs, retOk P st r) ∧ ∃ d1, st.R 1000 = some (0, gb, d1) ∧ ∀ n1, st.n ≤ n1 → Facts st n1 → BEnd Q d n0 n1 (rl 9 (labB st.R) d1) (rl 9 (labB st.R) (retV st rs)) T T2
  | .ret, st => (∀ r ∈ rs, retOk P st r) ∧ ∃ d1, st.R 1000 = some (0, gb, d1) ∧ ∀ n1, st.n ≤ n1 → Facts st n1 → BEnd Q d n0 n1 (rl 9 (labB st.R) d1) (rl 9 (labB st.R) (retV st rs)) T T2
  | _, _ => False
section
variable {P : Program}
theorem insR_one (gb : Nat) (d : D) : InsR (fun _ => gb) [d] = upd (fun _ => none) 1000 (some (0, gb, d)) := by
  funext l
  unfold InsR upd
  by_cases h : l = 1000
  · subst h; simp
  · rw [if_neg h]
    split
    · rfl
    · have : ¬ l - 1000 < [d].length := by simp; omega
      rw [List.getElem?_eq_none (by omega)]; rfl
theorem bcall_intro {f : FuncId} {fn : Func} {c : Code} {rs : List ResultVar} {d0 d : D} {rest : List D} {Q : Nat → Nat → D → D → Prop} {o : Nat} {q : List Nat} {T T2 : Nat → Prop} (hf : P.funcs[f]? = some fn) (hb : fn.body = some c) (hnm : (fn.name == "runtime.NumGoroutine") = false)
    (hrs : fn.results = rs.toArray) (hlen : rs.length ≤ 4) (hN : rest.length + 1 ≤ fn.ntmps)
    (h : ∀ w0 M n0 gb, (∀ b, n0 ≤ b → wr w0 M b) → (∀ b ∈ d0.tl, wr w0 M b) → (∀ a ∈ d :: rest, a.data → a.tags (· < n0)) → gb < n0 →
      IWp P w0 M c (bpend P rs n0 Q d gb T T2) ⟨fn.ntmps, n0, nthD (.ptr 1000 0 o q :: rest), upd (fun _ => none) 1000 (some (0, gb, d))⟩) : BCall P f d0 d rest Q o q T T2 := by
  refine ⟨⟨fn, hf, by rw [hb]; rfl, hnm⟩, fun w p gb vs hsz hp hS hro hvs => ?_⟩
  obtain ⟨C0, T0, cs0, q1, q2, q3⟩ := hro.row
  have hT : ∀ a ∈ d :: rest, a.data → a.tags (· < w.heap.size) := fun a ha hd => by
    rcases List.mem_cons.1 ha with rfl | ha
    · exact D.tags_mono (fun b hb => hp b hb) (rep_tags hd q2)
    · obtain ⟨i, hi, rfl⟩ := List.getElem_of_mem ha
      exact (D.tags_mono (fun b hb => (hp b hb)) (vrep_tags hd (hvs (i + 1) _ (by rw [List.getElem?_cons_succ]; exact List.getElem?_eq_getElem hi))))
  refine calls_of_wp hf hb ?_
  have hgood : Good w ⟨fun b => b = gb ∨ b ∈ d0.tl, p⟩ ⟨fn.ntmps, w.heap.size, nthD (.ptr 1000 0 o q :: rest), upd (fun _ => none) 1000 (some (0, gb, d))⟩ ⟨InsR (fun _ => gb) [d], 1, p, w⟩ { tmps := vs ++ Array.replicate (fn.ntmps - vs.size) undef, defers := [] } := by
    have hsub : ∀ l g b d1, upd (fun _ => none : Roots) 1000 (some (0, gb, d)) l = some (g, b, d1) → l = 1000 ∧ g = 0 ∧ b = gb ∧ d1 = d := by
      intro l g b d1 hl
      by_cases h1 : l = 1000
      · subst h1; rw [upd_same] at hl
        simp only [Option.some.injEq, Prod.mk.injEq] at hl
        obtain ⟨rfl, rfl, rfl⟩ := hl
        exact ⟨rfl, rfl, rfl, rfl⟩
      · rw [upd_ne _ _ h1] at hl; cases hl
    refine ⟨insR_one gb d, by simp; omega, rfl, fun t => ?_, fun l g b d1 hl => ?_, fun l g b d1 hl => ?_, fun l l' g g' b d1 d' hl hl' => ?_, hp, Keep.refl _ _, Nat.le_refl _, fun b hb => .inr (.inl hb)⟩
    · show VRep _ (nthD (.ptr 1000 0 o q :: rest) t) _
      rw [← nthD_getD]
      rcases Nat.lt_or_ge t (D.ptr 1000 0 o q :: rest).length with ht | ht
      · have h1 : (D.ptr 1000 0 o q :: rest).getD t .any = (D.ptr 1000 0 o q :: rest)[t] := by simp only [List.getD_eq_getElem?_getD, List.getElem?_eq_getElem ht, Option.getD_some]
        have h2 : (vs ++ Array.replicate (fn.ntmps - vs.size) undef).getD t undef = vs.getD t undef := by
          have : t < vs.size := by rw [hsz]; simpa using ht
          simp [Array.getElem?_append_left, this]
        rw [h1]
        simp only at h2 ⊢
        rw [h2]
        exact hvs t _ (List.getElem?_eq_getElem ht)
      · have h1 : (D.ptr 1000 0 o q :: rest).getD t .any = .any := by simp only [List.getD_eq_getElem?_getD, List.getElem?_eq_none ht, Option.getD_none]
        rw [h1]; trivial
    · obtain ⟨rfl, rfl, rfl, rfl⟩ := hsub _ _ _ _ hl
      exact ⟨Nat.one_pos, hro⟩
    · obtain ⟨rfl, rfl, rfl, rfl⟩ := hsub _ _ _ _ hl
      exact .inr (.inl rfl)
    · obtain ⟨rfl, _⟩ := hsub _ _ _ _ hl
      obtain ⟨rfl, _⟩ := hsub _ _ _ _ hl'
      rfl
  refine wp_mono (h w ⟨fun b => b = gb ∨ b ∈ d0.tl, p⟩ w.heap.size gb (fun b hb => .inl hb) (fun b hb => .inr (.inr hb)) hT (lt_of_block q1) _ _ ⟨_, rfl, hgood⟩) ?_
  rintro x a' w' ⟨st, hq, e, rfl, hg⟩
  have fin : ((∀ r ∈ rs, retOk P st r) ∧ ∃ d1, st.R 1000 = some (0, gb, d1) ∧ ∀ n1, st.n ≤ n1 → Facts st n1 → BEnd Q d w.heap.size n1 (rl 9 (labB st.R) d1) (rl 9 (labB st.R) (retV st rs)) T T2) →
      a'.defers = [] ∧ ∃ v1, (results fn a'.tmps).run P e.w = .ok v1 e.w ∧ ∃ v r d' p', Ending.returned v1 = .returned v ∧ Keep w (fun b => b = gb ∨ b ∈ d0.tl) e.w ∧ Q w.heap.size e.w.heap.size d' r ∧ (∀ b, p' b → b < e.w.heap.size) ∧
        d'.tags (fun b => T2 b ∨ w.heap.size ≤ b) ∧ r.tags (fun b => T b ∨ w.heap.size ≤ b) ∧ RootOk ⟨fun _ => none, 1, p', e.w⟩ gb d' ∧ VRep ⟨fun _ => none, 1, p', e.w⟩ r v := by
    rintro ⟨h1, d1, hR1, h2⟩
    obtain ⟨v1, hrun, hv1⟩ := run_results hg fn hrs hlen h1
    obtain ⟨h3, h4, h5, h6⟩ := h2 _ hg.n hg.facts
    have hro1 := hg.envroot hR1
    let p' : Nat → Prop := fun b => e.P b ∨ ∃ l g x, l ≠ 1000 ∧ st.R l = some (g, b, x)
    have ok : RelabOk e ⟨fun _ => none, 1, p', e.w⟩ (labB st.R) := by
      refine ⟨rfl, fun b hb => .inl hb, fun l g l' g' hF hgg => ?_, fun l g b x hF => ?_⟩
      · unfold labB at hF
        split at hF
        · cases hF
        · obtain ⟨_, _, hto, _⟩ := relab_view hg
          exact hto l g l' g' hF hgg
      · unfold labB at hF
        split at hF
        · cases hF
        · rename_i hne
          obtain ⟨_, _, _, hper⟩ := relab_view hg
          obtain ⟨g1, g2, g3⟩ := hper l g b x hF
          exact ⟨g1, g2, .inr ⟨l, g, x, hne, by rw [← hg.R]; exact g1⟩⟩
    obtain ⟨C, T, cs, r1, r2, r3⟩ := hro1.row
    refine ⟨hg.df, _, hrun, v1, _, _, p', rfl, hg.keep, h3, ?_, h5, h6, ⟨?_, h4, C, T, cs, r1, Rep_rl ok 9 _ _ r2, r3⟩, VRep_rl ok 9 _ _ hv1⟩
    · rintro b (hb | ⟨l, g, x, _, hl⟩)
      · exact hg.P b hb
      · obtain ⟨C, T, cs, r1, _⟩ := (hg.envroot hl).row; exact lt_of_block r1
    · rintro (hb | ⟨l, g, x, hne, hl⟩)
      · exact hro1.np hb
      · exact hne (hg.inj _ _ _ _ _ _ _ hl hR1)
  cases x with
  | normal => exact fin hq
  | ret => exact fin hq
  | _ => exact hq.elim
theorem CarR.skip {d d' : D} {R R' : Roots} (h : CarR d d' R R') {l : Nat} {x : Option (Nat × Nat × D)} (hn : R' l = Option.none) : CarR d d' (IM.upd R l x) R' := by
  intro l'
  by_cases hl : l' = l
  · subst hl; rw [hn]; trivial
  · rw [upd_ne _ _ hl]; exact h l'
theorem still_mapBV {F : Relab} : ∀ {l : List D}, stillL l → l.map (rl 9 F) = l
  | [], _ => rfl
  | x :: l, h => by rw [List.map_cons, rl_still h.1, still_mapBV h.2]
@[go_sem] theorem labBV_ne (R : Roots) (l g l' g' : Nat) (h : l' ≠ l) : labBV R l g l' g' = labView R l' g' := if_neg h
end
section
variable (P : Program) (rs : List ResultVar) (n0 : Nat) (Q : Nat → Nat → D → D → Prop) (d : D) (gb : Nat) (T T2 : Nat → Prop) (st : St)
@[go_sem] theorem bpend_ret : bpend P rs n0 Q d gb T T2 .ret st = ((∀ r ∈ rs, retOk P st r) ∧ ∃ d1, st.R 1000 = some (0, gb, d1) ∧ ∀ n1, st.n ≤ n1 → Facts st n1 → BEnd Q d n0 n1 (rl 9 (labB st.R) d1) (rl 9 (labB st.R) (retV st rs)) T T2) := rfl
@[go_sem] theorem bpend_normal : bpend P rs n0 Q d gb T T2 .normal st = ((∀ r ∈ rs, retOk P st r) ∧ ∃ d1, st.R 1000 = some (0, gb, d1) ∧ ∀ n1, st.n ≤ n1 → Facts st n1 → BEnd Q d n0 n1 (rl 9 (labB st.R) d1) (rl 9 (labB st.R) (retV st rs)) T T2) := rfl
end
structure Ext (d : D) (n0 n1 : Nat) (r : D) : Prop where
  rg : ∀ t ∈ r.tl, t ∈ d.tl ∨ (n0 ≤ t ∧ t < n1)
  nd : r.tl.Nodup
  wh : r.whole
theorem Ext.tags {d r : D} {n0 n1 : Nat} (h : Ext d n0 n1 r) : r.tags (fun b => b ∈ d.tl ∨ n0 ≤ b) := tags_of_tl (whole_data h.wh) fun t ht => (h.rg t ht).imp id And.left
theorem Ext.own {d r : D} {n0 n1 lo hi : Nat} (h : Ext d n0 n1 r) (ho : Own lo hi d) (h1 : hi ≤ n1) (h2 : lo ≤ n0) : Own lo n1 r :=
  ⟨fun t ht => by
    rcases h.rg t ht with h3 | h3
    · have := ho.rg t h3; omega
    · omega, h.nd, h.wh⟩
theorem Ext.trans {d r s : D} {n0 n1 m0 m1 : Nat} (h : Ext d n0 n1 r) (h' : Ext r m0 m1 s) (h1 : n0 ≤ m0) (h2 : n1 ≤ m1) : Ext d n0 m1 s :=
  ⟨fun t ht => by
    rcases h'.rg t ht with h3 | h3
    · exact (h.rg t h3).imp id fun h => ⟨h.1, by omega⟩
    · exact .inr ⟨by omega, h3.2⟩, h'.nd, h'.wh⟩
theorem Ext.mono {d r : D} {n0 n1 m0 m1 : Nat} (h : Ext d n0 n1 r) (h1 : m0 ≤ n0) (h2 : n1 ≤ m1) : Ext d m0 m1 r := ⟨fun t ht => (h.rg t ht).imp id fun h => ⟨by omega, by omega⟩, h.nd, h.wh⟩
theorem Ext.refl {d : D} {lo hi : Nat} (ho : Own lo hi d) (n0 n1 : Nat) : Ext d n0 n1 d := ⟨fun t ht => .inl ht, ho.nd, ho.wh⟩
theorem ext_nil {r : D} {n0 n1 : Nat} (h : Ext .nil n0 n1 r) : Own n0 n1 r := ⟨fun t ht => by
    rcases h.rg t ht with h3 | h3
    · exact absurd h3 (by simp [D.tl])
    · exact h3, h.nd, h.wh⟩
theorem free_of_tags {m t : Nat} (h : m ≤ t) {d : D} : d.tags (· < m) → d.free t := by
  induction d with
  | sl t' zb n sz f ih => intro hd; exact ⟨fun e => by have : t' < m := hd.1; omega, fun i hi => ih i (hd.2 i hi)⟩
  | node k f ih => intro hd i hi; exact ih i (hd i hi)
  | tup n f ih => intro hd i hi; exact ih i (hd i hi)
  | opq v S φ => intro hd hx; have : t < m := hd t hx; omega
  | lit v => intro _; trivial
  | nil => intro _; trivial
  | any => intro _; trivial
  | _ => intro hd; exact hd.elim
theorem thaw_pick {t m sz l g : Nat} {f s : Nat → D} : ∀ {keep : List Nat}, (∀ j ∈ keep, (s j).free t) → ∀ j, Thaw t m sz f l g (s j) (pickS s keep (fun _ => .any) j)
  | [], _, j => .drop _
  | k :: keep, h, j => by
    show Thaw t m sz f l g (s j) (upd (pickS s keep fun _ => .any) k (s k) j)
    by_cases hj : j = k
    · subst hj; rw [upd_same]; exact .free _ (h _ (List.mem_cons_self ..))
    · rw [upd_ne _ _ hj]; exact thaw_pick (fun j hj => h j (List.mem_cons_of_mem _ hj)) j
end Go.Proofs.YtncinhlaabdlaaaGreat.IM
end
section
namespace Go.Proofs.YtncinhlaabdlaaaGreat.IM
open Go Go.Proofs Go.RowKit
set_option linter.unusedVariables false
set_option linter.unusedSimpArgs false
set_option maxHeartbeats 2000000
set_option maxRecDepth 20000
section
variable {P : Program} {f : Nat} {cs : Nat → D} {xs : List Operand} {dst : Option Tmp} {ev : Operand → D} {R : Roots} {n : Nat} {k : Roots → Nat → D → Prop} {Mk : Prop}
theorem still_map {F : Relab} : ∀ {l : List D}, stillL l → l.map (rl 9 F) = l
  | [], _ => rfl
  | x :: l, h => by rw [List.map_cons, rl_still h.1, still_map h.2]
end
def OEnd (P : Program) (rs : List ResultVar) (sz : Nat) (A : Nat → (Nat → D) → Prop) (st : St) : Prop :=
  (∀ r ∈ rs, retOk P st r) ∧ ∃ l g b m f, retV st rs = .msl l g 0 [] 0 m sz ∧ st.R l = some (g, b, .node (.arr m sz) f) ∧ (∀ i, (f i).still) ∧ A m f
def opend (P : Program) (rs : List ResultVar) (sz : Nat) (A : Nat → (Nat → D) → Prop) : Exit → St → Prop
  | .normal, st => OEnd P rs sz A st
  | .ret, st => OEnd P rs sz A st
  | _, _ => False
@[go_sem] theorem opend_ret (P : Program) (rs : List ResultVar) (sz : Nat) (A : Nat → (Nat → D) → Prop) (st : St) : opend P rs sz A .ret st = OEnd P rs sz A st := rfl
@[go_sem] theorem opend_normal (P : Program) (rs : List ResultVar) (sz : Nat) (A : Nat → (Nat → D) → Prop) (st : St) : opend P rs sz A .normal st = OEnd P rs sz A st := rfl
end Go.Proofs.YtncinhlaabdlaaaGreat.IM
end
section
namespace Go.Proofs.YtncinhlaabdlaaaGreat.IM
open Go Go.RowKit
set_option linter.unusedVariables false
section
variable (P : Program)
@[go_sem] theorem bin_shl (T : TypeId) (k k' : IntKind) (a b : Int) (h : 0 ≤ b) : bin P T .shl (.int k a) (.int k' b) = some (.int k (k.wrap (a * 2 ^ min b.toNat k.bits))) := by
  have : ¬ b < 0 := by omega
  simp [bin, this]
@[go_sem] theorem bin_shr (T : TypeId) (k k' : IntKind) (a b : Int) (h : 0 ≤ b) : bin P T .shr (.int k a) (.int k' b) = some (.int k (a / 2 ^ min b.toNat k.bits)) := by
  have : ¬ b < 0 := by omega
  simp [bin, this]
end
def ByteRow (f : Nat → D) (xs : List Int) : Prop := (∀ i, (f i).still) ∧ ∀ i (h : i < xs.length), IsByte (f i) xs[i]
theorem ByteRow.cat {f z : Nat → D} {xs : List Int} {v : Int} (h : ByteRow f xs) (hz : ∀ j, (z j).still) : ByteRow (catD xs.length f (upd z 0 (.lit (.int .u8 v)))) (xs ++ [v]) := by
  refine ⟨still_cat h.1 (still_upd hz trivial), fun i hi => ?_⟩
  rw [List.length_append, List.length_singleton] at hi
  by_cases h1 : i < xs.length
  · rw [List.getElem_append_left h1]
    have : catD xs.length f (upd z 0 (.lit (.int .u8 v))) i = f i := by simp [catD, h1]
    rw [this]; exact h.2 i h1
  · obtain rfl : i = xs.length := by omega
    have : catD xs.length f (upd z 0 (.lit (.int .u8 v))) xs.length = .lit (.int .u8 v) := by simp [catD, upd]
    rw [this]; simp [IsByte]
theorem ByteRow.append {f f' : Nat → D} {xs ys : List Int} (h : ByteRow f xs) (h' : ByteRow f' ys) : ByteRow (catD xs.length f f') (xs ++ ys) := by
  refine ⟨still_cat h.1 h'.1, fun i hi => ?_⟩
  rw [List.length_append] at hi
  by_cases h1 : i < xs.length
  · rw [List.getElem_append_left h1]
    have : catD xs.length f f' i = f i := by simp [catD, h1]
    rw [this]; exact h.2 i h1
  · rw [List.getElem_append_right (by omega)]
    have : catD xs.length f f' i = f' (i - xs.length) := by simp [catD, h1]
    rw [this]; exact h'.2 _ (by omega)
theorem ByteRow.nil (f : Nat → D) (h : ∀ i, (f i).still) : ByteRow f [] := ⟨h, fun i hi => absurd hi (Nat.not_lt_zero i)⟩
theorem ByteRow.one {z : Nat → D} {v : Int} (hz : ∀ j, (z j).still) : ByteRow (upd z 0 (.lit (.int .u8 v))) [v] := by
  have := ByteRow.cat (v := v) (ByteRow.nil z hz) hz
  simpa [catD_zero] using this
theorem ByteRow.fin {f : Nat → D} {xs : List Int} {b : Nat} {d : D} {n0 n1 : Nat} (h : ByteRow f xs) (hl : xs.length < 140737488355328) (hb : b ∈ d.tl ∨ n0 ≤ b) (hb1 : b < n1) : IsL 1 IsByte (.sl b true xs.length 1 f) xs ∧ Ext d n0 n1 (.sl b true xs.length 1 f) := by
  refine ⟨.inr ⟨b, true, f, rfl, h.1, hl, h.2⟩, ?_⟩
  have htl : (D.sl b true xs.length 1 f).tl = [b] := by
    simp only [D.tl]
    rw [tl_flat fun i hi => (h.2 i hi).tl]
  refine ⟨fun t ht => ?_, by rw [htl]; simp, rfl, fun i hi => (h.2 i hi).wh⟩
  rw [htl] at ht
  obtain rfl : t = b := by simpa using ht
  exact hb.imp id fun h => ⟨h, hb1⟩
theorem ByteRow.own {f : Nat → D} {xs : List Int} {b : Nat} {n0 n1 : Nat} (h : ByteRow f xs) (hl : xs.length < 140737488355328) (hb : n0 ≤ b) (hb1 : b < n1) : IsL 1 IsByte (.sl b true xs.length 1 f) xs ∧ Own n0 n1 (.sl b true xs.length 1 f) :=
  ⟨(h.fin hl (d := .nil) (.inr hb) hb1).1, ext_nil (h.fin hl (d := .nil) (.inr hb) hb1).2⟩
theorem IsL.bytes {d : D} {xs : List Int} (h : IsL 1 IsByte d xs) : (d = .nil ∧ xs = []) ∨ ∃ t zb f, d = .sl t zb xs.length 1 f ∧ ByteRow f xs ∧ xs.length < 140737488355328 := by
  rcases h with h | ⟨t, zb, f, h1, h2, h3, h4⟩
  · exact .inl h
  · exact .inr ⟨t, zb, f, h1, ⟨h2, h4⟩, h3⟩
end Go.Proofs.YtncinhlaabdlaaaGreat.IM
end
section
namespace Go.Proofs.YtncinhlaabdlaaaGreat.IM
open Go Go.Proofs
theorem strT_9 : strT Tryz.prog 9 = true := by kernel_rfl
theorem tintS_9 : tint Tryz.prog 9 = none := by kernel_rfl
attribute [go_sem] strT_9 tintS_9
end Go.Proofs.YtncinhlaabdlaaaGreat.IM
end
