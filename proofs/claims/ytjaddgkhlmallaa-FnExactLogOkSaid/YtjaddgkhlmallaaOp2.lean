/- How the laws' types show their models: closed facts, each by the kernel. Written by opens.py. -/
import Derived.Test.YtjaddgkhlmallaaOp1
import Derived.Test.YtjaddgkhlmallaaProg
import Derived.KernelRfl
namespace Go.Proofs.Ytjaddgkhlmallaa.IM
open Go Go.Proofs
set_option linter.unusedVariables false
section
variable {H : Type} {enc : TypeId × Value → H}

theorem opens_22 : Opens enc Try.prog 22 (IsL 1 IsInt) := opens_sl (e := 3) (by kernel_rfl) (opens_int (by kernel_rfl)) (fun _ _ h => h.still)
theorem is_24 : structIs Try.prog 24 [(3, 0, 1), (22, 1, 1), (22, 2, 1)] 3 = true := by kernel_rfl
theorem opens_24 : Opens enc Try.prog 24 IsObj := by
  intro w fuel cs x hx hw
  obtain ⟨hl, hf⟩ := open_fields is_24 hx hw
  obtain ⟨m0, y0, hy0, hw0⟩ := hf 0 _ _ _ rfl
  obtain ⟨d0, a0, r0, s0⟩ := (opens_int (by kernel_rfl)) w m0 _ y0 hy0 hw0
  obtain ⟨m1, y1, hy1, hw1⟩ := hf 1 _ _ _ rfl
  obtain ⟨d1, a1, r1, s1⟩ := opens_22 w m1 _ y1 hy1 hw1
  obtain ⟨m2, y2, hy2, hw2⟩ := hf 2 _ _ _ rfl
  obtain ⟨d2, a2, r2, s2⟩ := opens_22 w m2 _ y2 hy2 hw2
  refine ⟨.node (.agg [1, 1, 1]) (nthD [d0, d1, d2]), ⟨a0, a1, a2⟩, rep_node (by rw [hl]; rfl) fun i hi => ?_, _, rfl, still_nthD (by simp only [List.mem_cons, List.not_mem_nil, or_false]; rintro d (rfl | rfl | rfl) <;> first | exact s0.still | exact s1.still | exact s2.still), s0, s1, s2⟩
  have hi : i < 3 := hi
  match i, hi with
  | 0, _ => exact r0
  | 1, _ => exact r1
  | 2, _ => exact r2
theorem is_26 : structIs Try.prog 26 [(4, 0, 1), (24, 1, 3)] 4 = true := by kernel_rfl
theorem opens_26 : Opens enc Try.prog 26 IsSlot := by
  intro w fuel cs x hx hw
  obtain ⟨hl, hf⟩ := open_fields is_26 hx hw
  obtain ⟨m0, y0, hy0, hw0⟩ := hf 0 _ _ _ rfl
  obtain ⟨d0, a0, r0, s0⟩ := (opens_bool (by kernel_rfl)) w m0 _ y0 hy0 hw0
  obtain ⟨m1, y1, hy1, hw1⟩ := hf 1 _ _ _ rfl
  obtain ⟨d1, a1, r1, s1⟩ := opens_24 w m1 _ y1 hy1 hw1
  refine ⟨.node (.agg [1, 3]) (nthD [d0, d1]), ⟨a0, a1⟩, rep_node (by rw [hl]; rfl) fun i hi => ?_, _, rfl, still_nthD (by simp only [List.mem_cons, List.not_mem_nil, or_false]; rintro d (rfl | rfl) <;> first | exact s0.still | exact s1.still), s0, s1⟩
  have hi : i < 2 := hi
  match i, hi with
  | 0, _ => exact r0
  | 1, _ => exact r1
theorem opens_27 : Opens enc Try.prog 27 (IsA 4 4 IsSlot) := opens_arr (e := 26) (by kernel_rfl) opens_26 (fun _ _ h => h.still)
theorem is_29 : structIs Try.prog 29 [(3, 0, 1), (27, 1, 16)] 17 = true := by kernel_rfl
theorem opens_29 : Opens enc Try.prog 29 IsPage := by
  intro w fuel cs x hx hw
  obtain ⟨hl, hf⟩ := open_fields is_29 hx hw
  obtain ⟨m0, y0, hy0, hw0⟩ := hf 0 _ _ _ rfl
  obtain ⟨d0, a0, r0, s0⟩ := (opens_int (by kernel_rfl)) w m0 _ y0 hy0 hw0
  obtain ⟨m1, y1, hy1, hw1⟩ := hf 1 _ _ _ rfl
  obtain ⟨d1, a1, r1, s1⟩ := opens_27 w m1 _ y1 hy1 hw1
  refine ⟨.node (.agg [1, 16]) (nthD [d0, d1]), ⟨a0, a1⟩, rep_node (by rw [hl]; rfl) fun i hi => ?_, _, rfl, still_nthD (by simp only [List.mem_cons, List.not_mem_nil, or_false]; rintro d (rfl | rfl) <;> first | exact s0.still | exact s1.still), s0, s1⟩
  have hi : i < 2 := hi
  match i, hi with
  | 0, _ => exact r0
  | 1, _ => exact r1
theorem is_220 : structIs Try.prog 220 [(3, 0, 1), (29, 1, 17), (4, 18, 1), (4, 19, 1)] 20 = true := by kernel_rfl
theorem opens_220 : Opens enc Try.prog 220 IsSeat := by
  intro w fuel cs x hx hw
  obtain ⟨hl, hf⟩ := open_fields is_220 hx hw
  obtain ⟨m0, y0, hy0, hw0⟩ := hf 0 _ _ _ rfl
  obtain ⟨d0, a0, r0, s0⟩ := (opens_int (by kernel_rfl)) w m0 _ y0 hy0 hw0
  obtain ⟨m1, y1, hy1, hw1⟩ := hf 1 _ _ _ rfl
  obtain ⟨d1, a1, r1, s1⟩ := opens_29 w m1 _ y1 hy1 hw1
  obtain ⟨m2, y2, hy2, hw2⟩ := hf 2 _ _ _ rfl
  obtain ⟨d2, a2, r2, s2⟩ := (opens_bool (by kernel_rfl)) w m2 _ y2 hy2 hw2
  obtain ⟨m3, y3, hy3, hw3⟩ := hf 3 _ _ _ rfl
  obtain ⟨d3, a3, r3, s3⟩ := (opens_bool (by kernel_rfl)) w m3 _ y3 hy3 hw3
  refine ⟨.node (.agg [1, 17, 1, 1]) (nthD [d0, d1, d2, d3]), ⟨a0, a1, a2, a3⟩, rep_node (by rw [hl]; rfl) fun i hi => ?_, _, rfl, still_nthD (by simp only [List.mem_cons, List.not_mem_nil, or_false]; rintro d (rfl | rfl | rfl | rfl) <;> first | exact s0.still | exact s1.still | exact s2.still | exact s3.still), s0, s1, s2, s3⟩
  have hi : i < 4 := hi
  match i, hi with
  | 0, _ => exact r0
  | 1, _ => exact r1
  | 2, _ => exact r2
  | 3, _ => exact r3
theorem opens_51 : Opens enc Try.prog 51 (IsL 20 IsSeat) := opens_sl (e := 220) (by kernel_rfl) opens_220 (fun _ _ h => h.still)
theorem is_53 : structIs Try.prog 53 [(51, 0, 1), (3, 1, 1)] 2 = true := by kernel_rfl
theorem opens_53 : Opens enc Try.prog 53 IsPool := by
  intro w fuel cs x hx hw
  obtain ⟨hl, hf⟩ := open_fields is_53 hx hw
  obtain ⟨m0, y0, hy0, hw0⟩ := hf 0 _ _ _ rfl
  obtain ⟨d0, a0, r0, s0⟩ := opens_51 w m0 _ y0 hy0 hw0
  obtain ⟨m1, y1, hy1, hw1⟩ := hf 1 _ _ _ rfl
  obtain ⟨d1, a1, r1, s1⟩ := (opens_int (by kernel_rfl)) w m1 _ y1 hy1 hw1
  refine ⟨.node (.agg [1, 1]) (nthD [d0, d1]), ⟨a0, a1⟩, rep_node (by rw [hl]; rfl) fun i hi => ?_, _, rfl, still_nthD (by simp only [List.mem_cons, List.not_mem_nil, or_false]; rintro d (rfl | rfl) <;> first | exact s0.still | exact s1.still), s0, s1⟩
  have hi : i < 2 := hi
  match i, hi with
  | 0, _ => exact r0
  | 1, _ => exact r1
theorem is_224 : structIs Try.prog 224 [(3, 0, 1), (3, 1, 1), (4, 2, 1)] 3 = true := by kernel_rfl
theorem opens_224 : Opens enc Try.prog 224 IsLive := by
  intro w fuel cs x hx hw
  obtain ⟨hl, hf⟩ := open_fields is_224 hx hw
  obtain ⟨m0, y0, hy0, hw0⟩ := hf 0 _ _ _ rfl
  obtain ⟨d0, a0, r0, s0⟩ := (opens_int (by kernel_rfl)) w m0 _ y0 hy0 hw0
  obtain ⟨m1, y1, hy1, hw1⟩ := hf 1 _ _ _ rfl
  obtain ⟨d1, a1, r1, s1⟩ := (opens_int (by kernel_rfl)) w m1 _ y1 hy1 hw1
  obtain ⟨m2, y2, hy2, hw2⟩ := hf 2 _ _ _ rfl
  obtain ⟨d2, a2, r2, s2⟩ := (opens_bool (by kernel_rfl)) w m2 _ y2 hy2 hw2
  refine ⟨.node (.agg [1, 1, 1]) (nthD [d0, d1, d2]), ⟨a0, a1, a2⟩, rep_node (by rw [hl]; rfl) fun i hi => ?_, _, rfl, still_nthD (by simp only [List.mem_cons, List.not_mem_nil, or_false]; rintro d (rfl | rfl | rfl) <;> first | exact s0.still | exact s1.still | exact s2.still), s0, s1, s2⟩
  have hi : i < 3 := hi
  match i, hi with
  | 0, _ => exact r0
  | 1, _ => exact r1
  | 2, _ => exact r2
theorem opens_72 : Opens enc Try.prog 72 (IsL 3 IsLive) := opens_sl (e := 224) (by kernel_rfl) opens_224 (fun _ _ h => h.still)
theorem is_74 : structIs Try.prog 74 [(3, 0, 1), (3, 1, 1), (3, 2, 1), (3, 3, 1), (3, 4, 1), (26, 5, 4), (26, 9, 4), (3, 13, 1), (72, 14, 1)] 15 = true := by kernel_rfl
theorem opens_74 : Opens enc Try.prog 74 IsRec := by
  intro w fuel cs x hx hw
  obtain ⟨hl, hf⟩ := open_fields is_74 hx hw
  obtain ⟨m0, y0, hy0, hw0⟩ := hf 0 _ _ _ rfl
  obtain ⟨d0, a0, r0, s0⟩ := (opens_int (by kernel_rfl)) w m0 _ y0 hy0 hw0
  obtain ⟨m1, y1, hy1, hw1⟩ := hf 1 _ _ _ rfl
  obtain ⟨d1, a1, r1, s1⟩ := (opens_int (by kernel_rfl)) w m1 _ y1 hy1 hw1
  obtain ⟨m2, y2, hy2, hw2⟩ := hf 2 _ _ _ rfl
  obtain ⟨d2, a2, r2, s2⟩ := (opens_int (by kernel_rfl)) w m2 _ y2 hy2 hw2
  obtain ⟨m3, y3, hy3, hw3⟩ := hf 3 _ _ _ rfl
  obtain ⟨d3, a3, r3, s3⟩ := (opens_int (by kernel_rfl)) w m3 _ y3 hy3 hw3
  obtain ⟨m4, y4, hy4, hw4⟩ := hf 4 _ _ _ rfl
  obtain ⟨d4, a4, r4, s4⟩ := (opens_int (by kernel_rfl)) w m4 _ y4 hy4 hw4
  obtain ⟨m5, y5, hy5, hw5⟩ := hf 5 _ _ _ rfl
  obtain ⟨d5, a5, r5, s5⟩ := opens_26 w m5 _ y5 hy5 hw5
  obtain ⟨m6, y6, hy6, hw6⟩ := hf 6 _ _ _ rfl
  obtain ⟨d6, a6, r6, s6⟩ := opens_26 w m6 _ y6 hy6 hw6
  obtain ⟨m7, y7, hy7, hw7⟩ := hf 7 _ _ _ rfl
  obtain ⟨d7, a7, r7, s7⟩ := (opens_int (by kernel_rfl)) w m7 _ y7 hy7 hw7
  obtain ⟨m8, y8, hy8, hw8⟩ := hf 8 _ _ _ rfl
  obtain ⟨d8, a8, r8, s8⟩ := opens_72 w m8 _ y8 hy8 hw8
  refine ⟨.node (.agg [1, 1, 1, 1, 1, 4, 4, 1, 1]) (nthD [d0, d1, d2, d3, d4, d5, d6, d7, d8]), ⟨a0, a1, a2, a3, a4, a5, a6, a7, a8⟩, rep_node (by rw [hl]; rfl) fun i hi => ?_, _, rfl, still_nthD (by simp only [List.mem_cons, List.not_mem_nil, or_false]; rintro d (rfl | rfl | rfl | rfl | rfl | rfl | rfl | rfl | rfl) <;> first | exact s0.still | exact s1.still | exact s2.still | exact s3.still | exact s4.still | exact s5.still | exact s6.still | exact s7.still | exact s8.still), s0, s1, s2, s3, s4, s5, s6, s7, s8⟩
  have hi : i < 9 := hi
  match i, hi with
  | 0, _ => exact r0
  | 1, _ => exact r1
  | 2, _ => exact r2
  | 3, _ => exact r3
  | 4, _ => exact r4
  | 5, _ => exact r5
  | 6, _ => exact r6
  | 7, _ => exact r7
  | 8, _ => exact r8
theorem opens_91 : Opens enc Try.prog 91 (IsL 15 IsRec) := opens_sl (e := 74) (by kernel_rfl) opens_74 (fun _ _ h => h.still)
theorem is_93 : structIs Try.prog 93 [(91, 0, 1), (3, 1, 1)] 2 = true := by kernel_rfl
theorem opens_93 : Opens enc Try.prog 93 IsLog := by
  intro w fuel cs x hx hw
  obtain ⟨hl, hf⟩ := open_fields is_93 hx hw
  obtain ⟨m0, y0, hy0, hw0⟩ := hf 0 _ _ _ rfl
  obtain ⟨d0, a0, r0, s0⟩ := opens_91 w m0 _ y0 hy0 hw0
  obtain ⟨m1, y1, hy1, hw1⟩ := hf 1 _ _ _ rfl
  obtain ⟨d1, a1, r1, s1⟩ := (opens_int (by kernel_rfl)) w m1 _ y1 hy1 hw1
  refine ⟨.node (.agg [1, 1]) (nthD [d0, d1]), ⟨a0, a1⟩, rep_node (by rw [hl]; rfl) fun i hi => ?_, _, rfl, still_nthD (by simp only [List.mem_cons, List.not_mem_nil, or_false]; rintro d (rfl | rfl) <;> first | exact s0.still | exact s1.still), s0, s1⟩
  have hi : i < 2 := hi
  match i, hi with
  | 0, _ => exact r0
  | 1, _ => exact r1
theorem opens_43 : Opens enc Try.prog 43 (IsL 1 IsByte) := opens_sl (e := 5) (by kernel_rfl) (opens_byte (by kernel_rfl)) (fun _ _ h => h.still)
theorem opens_193 : Opens enc Try.prog 193 (IsL 1 IsBool) := opens_sl (e := 4) (by kernel_rfl) (opens_bool (by kernel_rfl)) (fun _ _ h => h.still)
theorem opens_248 : Opens enc Try.prog 248 (IsL 1 (IsL 1 IsByte)) := opens_sl (e := 43) (by kernel_rfl) opens_43 (fun _ _ h => h.still)
end
end Go.Proofs.Ytjaddgkhlmallaa.IM
