/- The functions that the statement reaches, and what they come to. Part 3. -/
import Derived.Lib.DecodeN
import Derived.Test.YtbiihldcljemfaaGreatDoorFw1
import Derived.Test.YtbiihldcljemfaaGreatDoorFw2
import Derived.Test.YtbiihldcljemfaaGreatDoorFw3
import Derived.Test.YtbiihldcljemfaaGreatDoorStateReads1
import Derived.Test.YtbiihldcljemfaaGreatDoorStateReads2
set_option linter.unusedVariables false
set_option linter.unusedSimpArgs false
set_option linter.unusedSectionVars false
section
/- The program's functions, as plain equations. -/
namespace Go.Proofs.YtbiihldcljemfaaGreatDoor
open Pal
set_option maxRecDepth 100000
noncomputable def ref09_Read.body : Go.Code := Tryz.f145.body.getD .skip
noncomputable def ref09_Read.rs : List Go.ResultVar := Tryz.f145.results.toList
def ref09_Read.regs : List (Nat × RInfo) := [(0, ri [0,2] [2,1000000]), (1, ri [0,2,3] [2,3,1000000]), (2, ri [0,2,3] [2,3,1000000]), (3, ri [0,2,3,10] [2,3,1000000]), (4, ri [0,2,3] [2,3,1000000]), (5, ri [0,2,3] [2,3,1000000]), (6, ri [0,2,3,27] [2,3,1000000]), (7, ri [0,2,3] [2,3,1000000]), (8, ri [2,3,35] [2,3,1000000]), (9, ri [2] [2,1000000]), (10, ri [2] [2,1000000])]
noncomputable def ref09_Read.cx (k : Nat) : Cx := ⟨tt, pp, [(71, (ref02_Reader_Int.e k)), (173, (ref02_Reader_Text.e k)), (144, (ref09_Unfold.e k)), (149, (ref09_Right.e k))], ref09_Read.regs, k, mm⟩
@[reducible] def ref09_Read.sg : Sg := ⟨[.ref], [tref02Reader], .dat tValue, [tref02Reader]⟩
noncomputable def ref09_Read.f (k : Nat) (o0 : Ty.D tref02Reader) : Option (Sg.Out ref09_Read.sg) := Sg.fn ref09_Read.sg (ref09_Read.cx k) ref09_Read.body ref09_Read.rs o0
theorem ref09_Read.f_eq (k : Nat) (o0 : Ty.D tref02Reader) : ref09_Read.f k o0 = bnd (ref02_Reader_Int.f k o0) fun r0 => br (ieq r0.1 2) (bnd (ref02_Reader_Text.f k r0.2) fun r1 => br (ieq r1.2.2.2 0) (bnd (ref09_Right.f k (r0.1, (0, r1.1))) fun r2 => br (bnot r2) (some ((0, (0, [])), (r1.2.1, (r1.2.2.1, 2)))) (br (bnot (ieq r1.2.2.2 0)) (some ((0, (0, [])), r1.2)) (some ((r0.1, (0, r1.1)), r1.2)))) (br (bnot (ieq r1.2.2.2 0)) (some ((0, (0, [])), r1.2)) (some ((r0.1, (0, r1.1)), r1.2)))) (bnd (ref02_Reader_Int.f k r0.2) fun r3 => bnd (ref09_Unfold.f k r3.1) fun r4 => br (ieq r3.2.2.2 0) (bnd (ref09_Right.f k (r0.1, (r4, []))) fun r5 => br (bnot r5) (some ((0, (0, [])), (r3.2.1, (r3.2.2.1, 2)))) (br (bnot (ieq r3.2.2.2 0)) (some ((0, (0, [])), r3.2)) (some ((r0.1, (r4, [])), r3.2)))) (br (bnot (ieq r3.2.2.2 0)) (some ((0, (0, [])), r3.2)) (some ((r0.1, (r4, [])), r3.2)))) := by kernel_rfl
noncomputable def ref09_Read.e (k : Nat) : Entry := Sg.entry ref09_Read.sg fun x => ref09_Read.f k x
theorem ref09_Read.ok (k : Nat) : CallOK Tryz.prog 145 (ref09_Read.e k) := fn_ok (c := ref09_Read.cx k) (code := ref09_Read.body) (TT.of tt_ok pp_ok mm_ok) (fns_ok ⟨(ref02_Reader_Int.ok k), (ref02_Reader_Text.ok k), (ref09_Unfold.ok k), (ref09_Right.ok k), trivial⟩) mixed Tryz.func145 (by kernel_rfl) (by kernel_rfl) (by kernel_rfl) (by kernel_rfl) (by kernel_rfl) (by kernel_rfl) (fun x => by kernel_rfl)
noncomputable def ref04_ints.body : Go.Code := Tryz.f146.body.getD .skip
noncomputable def ref04_ints.rs : List Go.ResultVar := Tryz.f146.results.toList
def ref04_ints.regs : List (Nat × RInfo) := [(0, ri [0,1] []), (1, ri [0,1,7] []), (2, ri [4] []), (3, ri [10] []), (4, ri [4] []), (5, ri [4] [])]
noncomputable def ref04_ints.cx (k : Nat) : Cx := ⟨tt, pp, [], ref04_ints.regs, k, mm⟩
@[reducible] def ref04_ints.sg : Sg := ⟨[.dat (.int .i64), .dat (.int .i64)], [], .dat (.int .i64), []⟩
noncomputable def ref04_ints.f (k : Nat) (a0 : Ty.D (.int .i64)) (a1 : Ty.D (.int .i64)) : Option (Sg.Out ref04_ints.sg) := Sg.fn ref04_ints.sg (ref04_ints.cx k) ref04_ints.body ref04_ints.rs (a0, a1)
theorem ref04_ints.f_eq (k : Nat) (a0 : Ty.D (.int .i64)) (a1 : Ty.D (.int .i64)) : ref04_ints.f k a0 a1 = br (ilt a0 a1) (some (-1)) (br (ilt a1 a0) (some 1) (some 0)) := by kernel_rfl
noncomputable def ref04_ints.e (k : Nat) : Entry := Sg.entry ref04_ints.sg fun x => ref04_ints.f k x.1 x.2
theorem ref04_ints.ok (k : Nat) : CallOK Tryz.prog 146 (ref04_ints.e k) := fn_ok (c := ref04_ints.cx k) (code := ref04_ints.body) (TT.of tt_ok pp_ok mm_ok) (fns_ok trivial) mixed Tryz.func146 (by kernel_rfl) (by kernel_rfl) (by kernel_rfl) (by kernel_rfl) (by kernel_rfl) (by kernel_rfl) (fun x => by kernel_rfl)
noncomputable def ref04_Compare.body : Go.Code := Tryz.f102.body.getD .skip
noncomputable def ref04_Compare.rs : List Go.ResultVar := Tryz.f102.results.toList
def ref04_Compare.regs : List (Nat × RInfo) := [(0, ri [2,3] [2,3]), (1, ri [2,3,9] [2,3]), (2, ri [4] [14,19]), (3, ri [4] [14,19])]
noncomputable def ref04_Compare.cx (k : Nat) : Cx := ⟨tt, pp, [(146, (ref04_ints.e k))], ref04_Compare.regs, k, mm⟩
@[reducible] def ref04_Compare.sg : Sg := ⟨[.dat tDot, .dat tDot], [], .dat (.int .i64), []⟩
noncomputable def ref04_Compare.f (k : Nat) (a0 : Ty.D tDot) (a1 : Ty.D tDot) : Option (Sg.Out ref04_Compare.sg) := Sg.fn ref04_Compare.sg (ref04_Compare.cx k) ref04_Compare.body ref04_Compare.rs (a0, a1)
theorem ref04_Compare.f_eq (k : Nat) (a0 : Ty.D tDot) (a1 : Ty.D tDot) : ref04_Compare.f k a0 a1 = br (bnot (ieq a0.1 a1.1)) (bnd (ref04_ints.f k a0.1 a1.1) fun r0 => some r0) (bnd (ref04_ints.f k a0.2 a1.2) fun r1 => some r1) := by kernel_rfl
noncomputable def ref04_Compare.e (k : Nat) : Entry := Sg.entry ref04_Compare.sg fun x => ref04_Compare.f k x.1 x.2
theorem ref04_Compare.ok (k : Nat) : CallOK Tryz.prog 102 (ref04_Compare.e k) := fn_ok (c := ref04_Compare.cx k) (code := ref04_Compare.body) (TT.of tt_ok pp_ok mm_ok) (fns_ok ⟨(ref04_ints.ok k), trivial⟩) mixed Tryz.func102 (by kernel_rfl) (by kernel_rfl) (by kernel_rfl) (by kernel_rfl) (by kernel_rfl) (by kernel_rfl) (fun x => by kernel_rfl)
noncomputable def ref04_Refs.body : Go.Code := Tryz.f176.body.getD .skip
noncomputable def ref04_Refs.rs : List Go.ResultVar := Tryz.f176.results.toList
def ref04_Refs.regs : List (Nat × RInfo) := [(0, ri [2,3] [2,3]), (1, ri [2,3,10] [2,3]), (2, ri [4] [15,20]), (3, ri [4] [15,20])]
noncomputable def ref04_Refs.cx (k : Nat) : Cx := ⟨tt, pp, [(102, (ref04_Compare.e k)), (146, (ref04_ints.e k))], ref04_Refs.regs, k, mm⟩
@[reducible] def ref04_Refs.sg : Sg := ⟨[.dat tUndo, .dat tUndo], [], .dat (.int .i64), []⟩
noncomputable def ref04_Refs.f (k : Nat) (a0 : Ty.D tUndo) (a1 : Ty.D tUndo) : Option (Sg.Out ref04_Refs.sg) := Sg.fn ref04_Refs.sg (ref04_Refs.cx k) ref04_Refs.body ref04_Refs.rs (a0, a1)
theorem ref04_Refs.f_eq (k : Nat) (a0 : Ty.D tUndo) (a1 : Ty.D tUndo) : ref04_Refs.f k a0 a1 = bnd (ref04_Compare.f k a0.1 a1.1) fun r0 => br (bnot (ieq r0 0)) (bnd (ref04_Compare.f k a0.1 a1.1) fun r1 => some r1) (bnd (ref04_ints.f k a0.2 a1.2) fun r2 => some r2) := by kernel_rfl
noncomputable def ref04_Refs.e (k : Nat) : Entry := Sg.entry ref04_Refs.sg fun x => ref04_Refs.f k x.1 x.2
theorem ref04_Refs.ok (k : Nat) : CallOK Tryz.prog 176 (ref04_Refs.e k) := fn_ok (c := ref04_Refs.cx k) (code := ref04_Refs.body) (TT.of tt_ok pp_ok mm_ok) (fns_ok ⟨(ref04_Compare.ok k), (ref04_ints.ok k), trivial⟩) mixed Tryz.func176 (by kernel_rfl) (by kernel_rfl) (by kernel_rfl) (by kernel_rfl) (by kernel_rfl) (by kernel_rfl) (fun x => by kernel_rfl)
noncomputable def ref11_Refs.body : Go.Code := Tryz.f150.body.getD .skip
noncomputable def ref11_Refs.rs : List Go.ResultVar := Tryz.f150.results.toList
def ref11_Refs.regs : List (Nat × RInfo) := [(0, ri [0] []), (1, ri [0,3] []), (2, ⟨[0, 3, 7], [], [], [], 0, [0, 3], [], [], [], []⟩), (4, ri [0,3,32] []), (5, ri [2] []), (6, rq [0,3,47] [] 15), (7, ri [2] []), (3, ri [0,3] []), (8, ri [2] [])]
noncomputable def ref11_Refs.cx (k : Nat) : Cx := ⟨tt, pp, [(77, (ref04_Right.e k)), (176, (ref04_Refs.e k))], ref11_Refs.regs, k, mm⟩
@[reducible] def ref11_Refs.sg : Sg := ⟨[.dat (.slc tUndo)], [], .dat .bool, []⟩
noncomputable def ref11_Refs.f (k : Nat) (a0 : Ty.D (.slc tUndo)) : Option (Sg.Out ref11_Refs.sg) := Sg.fn ref11_Refs.sg (ref11_Refs.cx k) ref11_Refs.body ref11_Refs.rs a0
noncomputable def ref11_Refs.l2 (k : Nat) (n : Nat) (x0 : Ty.D (.slc tUndo)) (x3 : Ty.D (.int .i64)) : Option (Sg.Out ref11_Refs.sg) := loopAt (ref11_Refs.cx k) ref11_Refs.body [1, 0, 1, 0] 2 [0, 3] [] [] (Sg.K ref11_Refs.sg (ref11_Refs.cx k) ref11_Refs.rs) n ⟨[(0, .dat (.slc tUndo) x0), (3, .dat (.int .i64) x3)], []⟩
theorem ref11_Refs.f_eq (k : Nat) (a0 : Ty.D (.slc tUndo)) : ref11_Refs.f k a0 = ref11_Refs.l2 k k a0 0 := by kernel_rfl
theorem ref11_Refs.l2_eq (k : Nat) (n2 : Nat) (x0 : Ty.D (.slc tUndo)) (x3 : Ty.D (.int .i64)) : ref11_Refs.l2 k (n2 + 1) x0 x3 = br (ilt x3 (ilen x0)) (br (inL x3 x0) (bnd (ref04_Right.f k ((rd tUndo x0 (natOf x3)).1)) fun r0 => br (bnot r0) (some false) (br (inL x3 x0) (br (ilt ((rd tUndo x0 (natOf x3)).2) 0) (some false) (br (inL x3 x0) (br (ilt 15 ((rd tUndo x0 (natOf x3)).2)) (some false) (br (ilt 0 x3) (br (inL (isub .i64 x3 1) x0) (br (inL x3 x0) (bnd (ref04_Refs.f k (rd tUndo x0 (natOf (isub .i64 x3 1))) (rd tUndo x0 (natOf x3))) fun r1 => br (bnot (ieq r1 (-1))) (some false) (ref11_Refs.l2 k n2 x0 (iadd .i64 x3 1))) none) none) (ref11_Refs.l2 k n2 x0 (iadd .i64 x3 1)))) none)) none)) none) (some true) := by kernel_rfl
noncomputable def ref11_Refs.e (k : Nat) : Entry := Sg.entry ref11_Refs.sg fun x => ref11_Refs.f k x
theorem ref11_Refs.ok (k : Nat) : CallOK Tryz.prog 150 (ref11_Refs.e k) := fn_ok (c := ref11_Refs.cx k) (code := ref11_Refs.body) (TT.of tt_ok pp_ok mm_ok) (fns_ok ⟨(ref04_Right.ok k), (ref04_Refs.ok k), trivial⟩) mixed Tryz.func150 (by kernel_rfl) (by kernel_rfl) (by kernel_rfl) (by kernel_rfl) (by kernel_rfl) (by kernel_rfl) (fun x => by kernel_rfl)
noncomputable def ref11_Check.body : Go.Code := Tryz.f107.body.getD .skip
noncomputable def ref11_Check.rs : List Go.ResultVar := Tryz.f107.results.toList
def ref11_Check.regs : List (Nat × RInfo) := [(0, ⟨[1], [1], [0], [], 0, [], [], [], [], []⟩), (1, ri [1,12] [1]), (2, ri [2] [15]), (3, ri [1,3] [1,15]), (4, ri [1,3,17] [1,15]), (5, ri [2] [15]), (6, ri [1,4] [1,4]), (7, ri [1,33] [1]), (8, ri [2] [15]), (9, ri [1,47] [1]), (10, ri [2] [15]), (11, ri [1,75] [1]), (12, ri [2] [15]), (13, ri [1,89] [1]), (14, ri [2] [15]), (15, ri [1,93] [1]), (16, ri [2] [15]), (17, ri [97] []), (18, ri [2] [15]), (19, ri [2] [15])]
noncomputable def ref11_Check.cx (k : Nat) : Cx := ⟨tt, pp, [(148, (ref10_Check.e k)), (149, (ref09_Right.e k)), (150, (ref11_Refs.e k))], ref11_Check.regs, k, mm⟩
@[reducible] def ref11_Check.sg : Sg := ⟨[.dat tOp], [], .dat (.int .i64), []⟩
noncomputable def ref11_Check.f (k : Nat) (a0 : Ty.D tOp) : Option (Sg.Out ref11_Check.sg) := Sg.fn ref11_Check.sg (ref11_Check.cx k) ref11_Check.body ref11_Check.rs a0
theorem ref11_Check.f_eq (k : Nat) (a0 : Ty.D tOp) : ref11_Check.f k a0 = br (ilt a0.1 1) (some 18) (br (ilt 5 a0.1) (some 18) (bnd (ref10_Check.f k a0.2.1) fun r0 => br (bnot (ieq r0 0)) (some r0) (br (ieq a0.1 3) (br (bnot (deq tValue a0.2.2.1 (0, (0, [])))) (some 2) (br (bnot (ieq a0.1 3)) (br (bnot (ieq a0.1 5)) (bnd (ref09_Right.f k a0.2.2.1) fun r1 => br (bnot r1) (some 2) (br (bnot (ieq a0.1 3)) (br (bnot (ieq a0.2.2.2.1 0)) (some 2) (br (ieq a0.1 3) (br (ieq a0.2.2.2.1 0) (some 2) (br (ilt 2147483647 a0.2.2.2.1) (some 2) (br (ilt a0.2.2.2.1 (-2147483647)) (some 2) (br (ieq a0.1 2) (br (ilt 0 (ilen a0.2.2.2.2)) (some 2) (br (ilt 256 (ilen a0.2.2.2.2)) (some 7) (bnd (ref11_Refs.f k a0.2.2.2.2) fun r2 => br (bnot r2) (some 2) (some 0)))) (br (ieq a0.1 3) (br (ilt 0 (ilen a0.2.2.2.2)) (some 2) (br (ilt 256 (ilen a0.2.2.2.2)) (some 7) (bnd (ref11_Refs.f k a0.2.2.2.2) fun r3 => br (bnot r3) (some 2) (some 0)))) (br (ilt 256 (ilen a0.2.2.2.2)) (some 7) (bnd (ref11_Refs.f k a0.2.2.2.2) fun r4 => br (bnot r4) (some 2) (some 0)))))))) (br (ieq a0.1 2) (br (ilt 0 (ilen a0.2.2.2.2)) (some 2) (br (ilt 256 (ilen a0.2.2.2.2)) (some 7) (bnd (ref11_Refs.f k a0.2.2.2.2) fun r5 => br (bnot r5) (some 2) (some 0)))) (br (ieq a0.1 3) (br (ilt 0 (ilen a0.2.2.2.2)) (some 2) (br (ilt 256 (ilen a0.2.2.2.2)) (some 7) (bnd (ref11_Refs.f k a0.2.2.2.2) fun r6 => br (bnot r6) (some 2) (some 0)))) (br (ilt 256 (ilen a0.2.2.2.2)) (some 7) (bnd (ref11_Refs.f k a0.2.2.2.2) fun r7 => br (bnot r7) (some 2) (some 0))))))) (br (ieq a0.1 3) (br (ieq a0.2.2.2.1 0) (some 2) (br (ilt 2147483647 a0.2.2.2.1) (some 2) (br (ilt a0.2.2.2.1 (-2147483647)) (some 2) (br (ieq a0.1 2) (br (ilt 0 (ilen a0.2.2.2.2)) (some 2) (br (ilt 256 (ilen a0.2.2.2.2)) (some 7) (bnd (ref11_Refs.f k a0.2.2.2.2) fun r8 => br (bnot r8) (some 2) (some 0)))) (br (ieq a0.1 3) (br (ilt 0 (ilen a0.2.2.2.2)) (some 2) (br (ilt 256 (ilen a0.2.2.2.2)) (some 7) (bnd (ref11_Refs.f k a0.2.2.2.2) fun r9 => br (bnot r9) (some 2) (some 0)))) (br (ilt 256 (ilen a0.2.2.2.2)) (some 7) (bnd (ref11_Refs.f k a0.2.2.2.2) fun r10 => br (bnot r10) (some 2) (some 0)))))))) (br (ieq a0.1 2) (br (ilt 0 (ilen a0.2.2.2.2)) (some 2) (br (ilt 256 (ilen a0.2.2.2.2)) (some 7) (bnd (ref11_Refs.f k a0.2.2.2.2) fun r11 => br (bnot r11) (some 2) (some 0)))) (br (ieq a0.1 3) (br (ilt 0 (ilen a0.2.2.2.2)) (some 2) (br (ilt 256 (ilen a0.2.2.2.2)) (some 7) (bnd (ref11_Refs.f k a0.2.2.2.2) fun r12 => br (bnot r12) (some 2) (some 0)))) (br (ilt 256 (ilen a0.2.2.2.2)) (some 7) (bnd (ref11_Refs.f k a0.2.2.2.2) fun r13 => br (bnot r13) (some 2) (some 0)))))))) (br (bnot (ieq a0.1 3)) (br (bnot (ieq a0.2.2.2.1 0)) (some 2) (br (ieq a0.1 3) (br (ieq a0.2.2.2.1 0) (some 2) (br (ilt 2147483647 a0.2.2.2.1) (some 2) (br (ilt a0.2.2.2.1 (-2147483647)) (some 2) (br (ieq a0.1 2) (br (ilt 0 (ilen a0.2.2.2.2)) (some 2) (br (ilt 256 (ilen a0.2.2.2.2)) (some 7) (bnd (ref11_Refs.f k a0.2.2.2.2) fun r14 => br (bnot r14) (some 2) (some 0)))) (br (ieq a0.1 3) (br (ilt 0 (ilen a0.2.2.2.2)) (some 2) (br (ilt 256 (ilen a0.2.2.2.2)) (some 7) (bnd (ref11_Refs.f k a0.2.2.2.2) fun r15 => br (bnot r15) (some 2) (some 0)))) (br (ilt 256 (ilen a0.2.2.2.2)) (some 7) (bnd (ref11_Refs.f k a0.2.2.2.2) fun r16 => br (bnot r16) (some 2) (some 0)))))))) (br (ieq a0.1 2) (br (ilt 0 (ilen a0.2.2.2.2)) (some 2) (br (ilt 256 (ilen a0.2.2.2.2)) (some 7) (bnd (ref11_Refs.f k a0.2.2.2.2) fun r17 => br (bnot r17) (some 2) (some 0)))) (br (ieq a0.1 3) (br (ilt 0 (ilen a0.2.2.2.2)) (some 2) (br (ilt 256 (ilen a0.2.2.2.2)) (some 7) (bnd (ref11_Refs.f k a0.2.2.2.2) fun r18 => br (bnot r18) (some 2) (some 0)))) (br (ilt 256 (ilen a0.2.2.2.2)) (some 7) (bnd (ref11_Refs.f k a0.2.2.2.2) fun r19 => br (bnot r19) (some 2) (some 0))))))) (br (ieq a0.1 3) (br (ieq a0.2.2.2.1 0) (some 2) (br (ilt 2147483647 a0.2.2.2.1) (some 2) (br (ilt a0.2.2.2.1 (-2147483647)) (some 2) (br (ieq a0.1 2) (br (ilt 0 (ilen a0.2.2.2.2)) (some 2) (br (ilt 256 (ilen a0.2.2.2.2)) (some 7) (bnd (ref11_Refs.f k a0.2.2.2.2) fun r20 => br (bnot r20) (some 2) (some 0)))) (br (ieq a0.1 3) (br (ilt 0 (ilen a0.2.2.2.2)) (some 2) (br (ilt 256 (ilen a0.2.2.2.2)) (some 7) (bnd (ref11_Refs.f k a0.2.2.2.2) fun r21 => br (bnot r21) (some 2) (some 0)))) (br (ilt 256 (ilen a0.2.2.2.2)) (some 7) (bnd (ref11_Refs.f k a0.2.2.2.2) fun r22 => br (bnot r22) (some 2) (some 0)))))))) (br (ieq a0.1 2) (br (ilt 0 (ilen a0.2.2.2.2)) (some 2) (br (ilt 256 (ilen a0.2.2.2.2)) (some 7) (bnd (ref11_Refs.f k a0.2.2.2.2) fun r23 => br (bnot r23) (some 2) (some 0)))) (br (ieq a0.1 3) (br (ilt 0 (ilen a0.2.2.2.2)) (some 2) (br (ilt 256 (ilen a0.2.2.2.2)) (some 7) (bnd (ref11_Refs.f k a0.2.2.2.2) fun r24 => br (bnot r24) (some 2) (some 0)))) (br (ilt 256 (ilen a0.2.2.2.2)) (some 7) (bnd (ref11_Refs.f k a0.2.2.2.2) fun r25 => br (bnot r25) (some 2) (some 0)))))))) (br (bnot (ieq a0.1 3)) (br (bnot (ieq a0.2.2.2.1 0)) (some 2) (br (ieq a0.1 3) (br (ieq a0.2.2.2.1 0) (some 2) (br (ilt 2147483647 a0.2.2.2.1) (some 2) (br (ilt a0.2.2.2.1 (-2147483647)) (some 2) (br (ieq a0.1 2) (br (ilt 0 (ilen a0.2.2.2.2)) (some 2) (br (ilt 256 (ilen a0.2.2.2.2)) (some 7) (bnd (ref11_Refs.f k a0.2.2.2.2) fun r26 => br (bnot r26) (some 2) (some 0)))) (br (ieq a0.1 3) (br (ilt 0 (ilen a0.2.2.2.2)) (some 2) (br (ilt 256 (ilen a0.2.2.2.2)) (some 7) (bnd (ref11_Refs.f k a0.2.2.2.2) fun r27 => br (bnot r27) (some 2) (some 0)))) (br (ilt 256 (ilen a0.2.2.2.2)) (some 7) (bnd (ref11_Refs.f k a0.2.2.2.2) fun r28 => br (bnot r28) (some 2) (some 0)))))))) (br (ieq a0.1 2) (br (ilt 0 (ilen a0.2.2.2.2)) (some 2) (br (ilt 256 (ilen a0.2.2.2.2)) (some 7) (bnd (ref11_Refs.f k a0.2.2.2.2) fun r29 => br (bnot r29) (some 2) (some 0)))) (br (ieq a0.1 3) (br (ilt 0 (ilen a0.2.2.2.2)) (some 2) (br (ilt 256 (ilen a0.2.2.2.2)) (some 7) (bnd (ref11_Refs.f k a0.2.2.2.2) fun r30 => br (bnot r30) (some 2) (some 0)))) (br (ilt 256 (ilen a0.2.2.2.2)) (some 7) (bnd (ref11_Refs.f k a0.2.2.2.2) fun r31 => br (bnot r31) (some 2) (some 0))))))) (br (ieq a0.1 3) (br (ieq a0.2.2.2.1 0) (some 2) (br (ilt 2147483647 a0.2.2.2.1) (some 2) (br (ilt a0.2.2.2.1 (-2147483647)) (some 2) (br (ieq a0.1 2) (br (ilt 0 (ilen a0.2.2.2.2)) (some 2) (br (ilt 256 (ilen a0.2.2.2.2)) (some 7) (bnd (ref11_Refs.f k a0.2.2.2.2) fun r32 => br (bnot r32) (some 2) (some 0)))) (br (ieq a0.1 3) (br (ilt 0 (ilen a0.2.2.2.2)) (some 2) (br (ilt 256 (ilen a0.2.2.2.2)) (some 7) (bnd (ref11_Refs.f k a0.2.2.2.2) fun r33 => br (bnot r33) (some 2) (some 0)))) (br (ilt 256 (ilen a0.2.2.2.2)) (some 7) (bnd (ref11_Refs.f k a0.2.2.2.2) fun r34 => br (bnot r34) (some 2) (some 0)))))))) (br (ieq a0.1 2) (br (ilt 0 (ilen a0.2.2.2.2)) (some 2) (br (ilt 256 (ilen a0.2.2.2.2)) (some 7) (bnd (ref11_Refs.f k a0.2.2.2.2) fun r35 => br (bnot r35) (some 2) (some 0)))) (br (ieq a0.1 3) (br (ilt 0 (ilen a0.2.2.2.2)) (some 2) (br (ilt 256 (ilen a0.2.2.2.2)) (some 7) (bnd (ref11_Refs.f k a0.2.2.2.2) fun r36 => br (bnot r36) (some 2) (some 0)))) (br (ilt 256 (ilen a0.2.2.2.2)) (some 7) (bnd (ref11_Refs.f k a0.2.2.2.2) fun r37 => br (bnot r37) (some 2) (some 0))))))))) (br (ieq a0.1 5) (br (bnot (deq tValue a0.2.2.1 (0, (0, [])))) (some 2) (br (bnot (ieq a0.1 3)) (br (bnot (ieq a0.1 5)) (bnd (ref09_Right.f k a0.2.2.1) fun r38 => br (bnot r38) (some 2) (br (bnot (ieq a0.1 3)) (br (bnot (ieq a0.2.2.2.1 0)) (some 2) (br (ieq a0.1 3) (br (ieq a0.2.2.2.1 0) (some 2) (br (ilt 2147483647 a0.2.2.2.1) (some 2) (br (ilt a0.2.2.2.1 (-2147483647)) (some 2) (br (ieq a0.1 2) (br (ilt 0 (ilen a0.2.2.2.2)) (some 2) (br (ilt 256 (ilen a0.2.2.2.2)) (some 7) (bnd (ref11_Refs.f k a0.2.2.2.2) fun r39 => br (bnot r39) (some 2) (some 0)))) (br (ieq a0.1 3) (br (ilt 0 (ilen a0.2.2.2.2)) (some 2) (br (ilt 256 (ilen a0.2.2.2.2)) (some 7) (bnd (ref11_Refs.f k a0.2.2.2.2) fun r40 => br (bnot r40) (some 2) (some 0)))) (br (ilt 256 (ilen a0.2.2.2.2)) (some 7) (bnd (ref11_Refs.f k a0.2.2.2.2) fun r41 => br (bnot r41) (some 2) (some 0)))))))) (br (ieq a0.1 2) (br (ilt 0 (ilen a0.2.2.2.2)) (some 2) (br (ilt 256 (ilen a0.2.2.2.2)) (some 7) (bnd (ref11_Refs.f k a0.2.2.2.2) fun r42 => br (bnot r42) (some 2) (some 0)))) (br (ieq a0.1 3) (br (ilt 0 (ilen a0.2.2.2.2)) (some 2) (br (ilt 256 (ilen a0.2.2.2.2)) (some 7) (bnd (ref11_Refs.f k a0.2.2.2.2) fun r43 => br (bnot r43) (some 2) (some 0)))) (br (ilt 256 (ilen a0.2.2.2.2)) (some 7) (bnd (ref11_Refs.f k a0.2.2.2.2) fun r44 => br (bnot r44) (some 2) (some 0))))))) (br (ieq a0.1 3) (br (ieq a0.2.2.2.1 0) (some 2) (br (ilt 2147483647 a0.2.2.2.1) (some 2) (br (ilt a0.2.2.2.1 (-2147483647)) (some 2) (br (ieq a0.1 2) (br (ilt 0 (ilen a0.2.2.2.2)) (some 2) (br (ilt 256 (ilen a0.2.2.2.2)) (some 7) (bnd (ref11_Refs.f k a0.2.2.2.2) fun r45 => br (bnot r45) (some 2) (some 0)))) (br (ieq a0.1 3) (br (ilt 0 (ilen a0.2.2.2.2)) (some 2) (br (ilt 256 (ilen a0.2.2.2.2)) (some 7) (bnd (ref11_Refs.f k a0.2.2.2.2) fun r46 => br (bnot r46) (some 2) (some 0)))) (br (ilt 256 (ilen a0.2.2.2.2)) (some 7) (bnd (ref11_Refs.f k a0.2.2.2.2) fun r47 => br (bnot r47) (some 2) (some 0)))))))) (br (ieq a0.1 2) (br (ilt 0 (ilen a0.2.2.2.2)) (some 2) (br (ilt 256 (ilen a0.2.2.2.2)) (some 7) (bnd (ref11_Refs.f k a0.2.2.2.2) fun r48 => br (bnot r48) (some 2) (some 0)))) (br (ieq a0.1 3) (br (ilt 0 (ilen a0.2.2.2.2)) (some 2) (br (ilt 256 (ilen a0.2.2.2.2)) (some 7) (bnd (ref11_Refs.f k a0.2.2.2.2) fun r49 => br (bnot r49) (some 2) (some 0)))) (br (ilt 256 (ilen a0.2.2.2.2)) (some 7) (bnd (ref11_Refs.f k a0.2.2.2.2) fun r50 => br (bnot r50) (some 2) (some 0)))))))) (br (bnot (ieq a0.1 3)) (br (bnot (ieq a0.2.2.2.1 0)) (some 2) (br (ieq a0.1 3) (br (ieq a0.2.2.2.1 0) (some 2) (br (ilt 2147483647 a0.2.2.2.1) (some 2) (br (ilt a0.2.2.2.1 (-2147483647)) (some 2) (br (ieq a0.1 2) (br (ilt 0 (ilen a0.2.2.2.2)) (some 2) (br (ilt 256 (ilen a0.2.2.2.2)) (some 7) (bnd (ref11_Refs.f k a0.2.2.2.2) fun r51 => br (bnot r51) (some 2) (some 0)))) (br (ieq a0.1 3) (br (ilt 0 (ilen a0.2.2.2.2)) (some 2) (br (ilt 256 (ilen a0.2.2.2.2)) (some 7) (bnd (ref11_Refs.f k a0.2.2.2.2) fun r52 => br (bnot r52) (some 2) (some 0)))) (br (ilt 256 (ilen a0.2.2.2.2)) (some 7) (bnd (ref11_Refs.f k a0.2.2.2.2) fun r53 => br (bnot r53) (some 2) (some 0)))))))) (br (ieq a0.1 2) (br (ilt 0 (ilen a0.2.2.2.2)) (some 2) (br (ilt 256 (ilen a0.2.2.2.2)) (some 7) (bnd (ref11_Refs.f k a0.2.2.2.2) fun r54 => br (bnot r54) (some 2) (some 0)))) (br (ieq a0.1 3) (br (ilt 0 (ilen a0.2.2.2.2)) (some 2) (br (ilt 256 (ilen a0.2.2.2.2)) (some 7) (bnd (ref11_Refs.f k a0.2.2.2.2) fun r55 => br (bnot r55) (some 2) (some 0)))) (br (ilt 256 (ilen a0.2.2.2.2)) (some 7) (bnd (ref11_Refs.f k a0.2.2.2.2) fun r56 => br (bnot r56) (some 2) (some 0))))))) (br (ieq a0.1 3) (br (ieq a0.2.2.2.1 0) (some 2) (br (ilt 2147483647 a0.2.2.2.1) (some 2) (br (ilt a0.2.2.2.1 (-2147483647)) (some 2) (br (ieq a0.1 2) (br (ilt 0 (ilen a0.2.2.2.2)) (some 2) (br (ilt 256 (ilen a0.2.2.2.2)) (some 7) (bnd (ref11_Refs.f k a0.2.2.2.2) fun r57 => br (bnot r57) (some 2) (some 0)))) (br (ieq a0.1 3) (br (ilt 0 (ilen a0.2.2.2.2)) (some 2) (br (ilt 256 (ilen a0.2.2.2.2)) (some 7) (bnd (ref11_Refs.f k a0.2.2.2.2) fun r58 => br (bnot r58) (some 2) (some 0)))) (br (ilt 256 (ilen a0.2.2.2.2)) (some 7) (bnd (ref11_Refs.f k a0.2.2.2.2) fun r59 => br (bnot r59) (some 2) (some 0)))))))) (br (ieq a0.1 2) (br (ilt 0 (ilen a0.2.2.2.2)) (some 2) (br (ilt 256 (ilen a0.2.2.2.2)) (some 7) (bnd (ref11_Refs.f k a0.2.2.2.2) fun r60 => br (bnot r60) (some 2) (some 0)))) (br (ieq a0.1 3) (br (ilt 0 (ilen a0.2.2.2.2)) (some 2) (br (ilt 256 (ilen a0.2.2.2.2)) (some 7) (bnd (ref11_Refs.f k a0.2.2.2.2) fun r61 => br (bnot r61) (some 2) (some 0)))) (br (ilt 256 (ilen a0.2.2.2.2)) (some 7) (bnd (ref11_Refs.f k a0.2.2.2.2) fun r62 => br (bnot r62) (some 2) (some 0)))))))) (br (bnot (ieq a0.1 3)) (br (bnot (ieq a0.2.2.2.1 0)) (some 2) (br (ieq a0.1 3) (br (ieq a0.2.2.2.1 0) (some 2) (br (ilt 2147483647 a0.2.2.2.1) (some 2) (br (ilt a0.2.2.2.1 (-2147483647)) (some 2) (br (ieq a0.1 2) (br (ilt 0 (ilen a0.2.2.2.2)) (some 2) (br (ilt 256 (ilen a0.2.2.2.2)) (some 7) (bnd (ref11_Refs.f k a0.2.2.2.2) fun r63 => br (bnot r63) (some 2) (some 0)))) (br (ieq a0.1 3) (br (ilt 0 (ilen a0.2.2.2.2)) (some 2) (br (ilt 256 (ilen a0.2.2.2.2)) (some 7) (bnd (ref11_Refs.f k a0.2.2.2.2) fun r64 => br (bnot r64) (some 2) (some 0)))) (br (ilt 256 (ilen a0.2.2.2.2)) (some 7) (bnd (ref11_Refs.f k a0.2.2.2.2) fun r65 => br (bnot r65) (some 2) (some 0)))))))) (br (ieq a0.1 2) (br (ilt 0 (ilen a0.2.2.2.2)) (some 2) (br (ilt 256 (ilen a0.2.2.2.2)) (some 7) (bnd (ref11_Refs.f k a0.2.2.2.2) fun r66 => br (bnot r66) (some 2) (some 0)))) (br (ieq a0.1 3) (br (ilt 0 (ilen a0.2.2.2.2)) (some 2) (br (ilt 256 (ilen a0.2.2.2.2)) (some 7) (bnd (ref11_Refs.f k a0.2.2.2.2) fun r67 => br (bnot r67) (some 2) (some 0)))) (br (ilt 256 (ilen a0.2.2.2.2)) (some 7) (bnd (ref11_Refs.f k a0.2.2.2.2) fun r68 => br (bnot r68) (some 2) (some 0))))))) (br (ieq a0.1 3) (br (ieq a0.2.2.2.1 0) (some 2) (br (ilt 2147483647 a0.2.2.2.1) (some 2) (br (ilt a0.2.2.2.1 (-2147483647)) (some 2) (br (ieq a0.1 2) (br (ilt 0 (ilen a0.2.2.2.2)) (some 2) (br (ilt 256 (ilen a0.2.2.2.2)) (some 7) (bnd (ref11_Refs.f k a0.2.2.2.2) fun r69 => br (bnot r69) (some 2) (some 0)))) (br (ieq a0.1 3) (br (ilt 0 (ilen a0.2.2.2.2)) (some 2) (br (ilt 256 (ilen a0.2.2.2.2)) (some 7) (bnd (ref11_Refs.f k a0.2.2.2.2) fun r70 => br (bnot r70) (some 2) (some 0)))) (br (ilt 256 (ilen a0.2.2.2.2)) (some 7) (bnd (ref11_Refs.f k a0.2.2.2.2) fun r71 => br (bnot r71) (some 2) (some 0)))))))) (br (ieq a0.1 2) (br (ilt 0 (ilen a0.2.2.2.2)) (some 2) (br (ilt 256 (ilen a0.2.2.2.2)) (some 7) (bnd (ref11_Refs.f k a0.2.2.2.2) fun r72 => br (bnot r72) (some 2) (some 0)))) (br (ieq a0.1 3) (br (ilt 0 (ilen a0.2.2.2.2)) (some 2) (br (ilt 256 (ilen a0.2.2.2.2)) (some 7) (bnd (ref11_Refs.f k a0.2.2.2.2) fun r73 => br (bnot r73) (some 2) (some 0)))) (br (ilt 256 (ilen a0.2.2.2.2)) (some 7) (bnd (ref11_Refs.f k a0.2.2.2.2) fun r74 => br (bnot r74) (some 2) (some 0))))))))) (br (bnot (ieq a0.1 3)) (br (bnot (ieq a0.1 5)) (bnd (ref09_Right.f k a0.2.2.1) fun r75 => br (bnot r75) (some 2) (br (bnot (ieq a0.1 3)) (br (bnot (ieq a0.2.2.2.1 0)) (some 2) (br (ieq a0.1 3) (br (ieq a0.2.2.2.1 0) (some 2) (br (ilt 2147483647 a0.2.2.2.1) (some 2) (br (ilt a0.2.2.2.1 (-2147483647)) (some 2) (br (ieq a0.1 2) (br (ilt 0 (ilen a0.2.2.2.2)) (some 2) (br (ilt 256 (ilen a0.2.2.2.2)) (some 7) (bnd (ref11_Refs.f k a0.2.2.2.2) fun r76 => br (bnot r76) (some 2) (some 0)))) (br (ieq a0.1 3) (br (ilt 0 (ilen a0.2.2.2.2)) (some 2) (br (ilt 256 (ilen a0.2.2.2.2)) (some 7) (bnd (ref11_Refs.f k a0.2.2.2.2) fun r77 => br (bnot r77) (some 2) (some 0)))) (br (ilt 256 (ilen a0.2.2.2.2)) (some 7) (bnd (ref11_Refs.f k a0.2.2.2.2) fun r78 => br (bnot r78) (some 2) (some 0)))))))) (br (ieq a0.1 2) (br (ilt 0 (ilen a0.2.2.2.2)) (some 2) (br (ilt 256 (ilen a0.2.2.2.2)) (some 7) (bnd (ref11_Refs.f k a0.2.2.2.2) fun r79 => br (bnot r79) (some 2) (some 0)))) (br (ieq a0.1 3) (br (ilt 0 (ilen a0.2.2.2.2)) (some 2) (br (ilt 256 (ilen a0.2.2.2.2)) (some 7) (bnd (ref11_Refs.f k a0.2.2.2.2) fun r80 => br (bnot r80) (some 2) (some 0)))) (br (ilt 256 (ilen a0.2.2.2.2)) (some 7) (bnd (ref11_Refs.f k a0.2.2.2.2) fun r81 => br (bnot r81) (some 2) (some 0))))))) (br (ieq a0.1 3) (br (ieq a0.2.2.2.1 0) (some 2) (br (ilt 2147483647 a0.2.2.2.1) (some 2) (br (ilt a0.2.2.2.1 (-2147483647)) (some 2) (br (ieq a0.1 2) (br (ilt 0 (ilen a0.2.2.2.2)) (some 2) (br (ilt 256 (ilen a0.2.2.2.2)) (some 7) (bnd (ref11_Refs.f k a0.2.2.2.2) fun r82 => br (bnot r82) (some 2) (some 0)))) (br (ieq a0.1 3) (br (ilt 0 (ilen a0.2.2.2.2)) (some 2) (br (ilt 256 (ilen a0.2.2.2.2)) (some 7) (bnd (ref11_Refs.f k a0.2.2.2.2) fun r83 => br (bnot r83) (some 2) (some 0)))) (br (ilt 256 (ilen a0.2.2.2.2)) (some 7) (bnd (ref11_Refs.f k a0.2.2.2.2) fun r84 => br (bnot r84) (some 2) (some 0)))))))) (br (ieq a0.1 2) (br (ilt 0 (ilen a0.2.2.2.2)) (some 2) (br (ilt 256 (ilen a0.2.2.2.2)) (some 7) (bnd (ref11_Refs.f k a0.2.2.2.2) fun r85 => br (bnot r85) (some 2) (some 0)))) (br (ieq a0.1 3) (br (ilt 0 (ilen a0.2.2.2.2)) (some 2) (br (ilt 256 (ilen a0.2.2.2.2)) (some 7) (bnd (ref11_Refs.f k a0.2.2.2.2) fun r86 => br (bnot r86) (some 2) (some 0)))) (br (ilt 256 (ilen a0.2.2.2.2)) (some 7) (bnd (ref11_Refs.f k a0.2.2.2.2) fun r87 => br (bnot r87) (some 2) (some 0)))))))) (br (bnot (ieq a0.1 3)) (br (bnot (ieq a0.2.2.2.1 0)) (some 2) (br (ieq a0.1 3) (br (ieq a0.2.2.2.1 0) (some 2) (br (ilt 2147483647 a0.2.2.2.1) (some 2) (br (ilt a0.2.2.2.1 (-2147483647)) (some 2) (br (ieq a0.1 2) (br (ilt 0 (ilen a0.2.2.2.2)) (some 2) (br (ilt 256 (ilen a0.2.2.2.2)) (some 7) (bnd (ref11_Refs.f k a0.2.2.2.2) fun r88 => br (bnot r88) (some 2) (some 0)))) (br (ieq a0.1 3) (br (ilt 0 (ilen a0.2.2.2.2)) (some 2) (br (ilt 256 (ilen a0.2.2.2.2)) (some 7) (bnd (ref11_Refs.f k a0.2.2.2.2) fun r89 => br (bnot r89) (some 2) (some 0)))) (br (ilt 256 (ilen a0.2.2.2.2)) (some 7) (bnd (ref11_Refs.f k a0.2.2.2.2) fun r90 => br (bnot r90) (some 2) (some 0)))))))) (br (ieq a0.1 2) (br (ilt 0 (ilen a0.2.2.2.2)) (some 2) (br (ilt 256 (ilen a0.2.2.2.2)) (some 7) (bnd (ref11_Refs.f k a0.2.2.2.2) fun r91 => br (bnot r91) (some 2) (some 0)))) (br (ieq a0.1 3) (br (ilt 0 (ilen a0.2.2.2.2)) (some 2) (br (ilt 256 (ilen a0.2.2.2.2)) (some 7) (bnd (ref11_Refs.f k a0.2.2.2.2) fun r92 => br (bnot r92) (some 2) (some 0)))) (br (ilt 256 (ilen a0.2.2.2.2)) (some 7) (bnd (ref11_Refs.f k a0.2.2.2.2) fun r93 => br (bnot r93) (some 2) (some 0))))))) (br (ieq a0.1 3) (br (ieq a0.2.2.2.1 0) (some 2) (br (ilt 2147483647 a0.2.2.2.1) (some 2) (br (ilt a0.2.2.2.1 (-2147483647)) (some 2) (br (ieq a0.1 2) (br (ilt 0 (ilen a0.2.2.2.2)) (some 2) (br (ilt 256 (ilen a0.2.2.2.2)) (some 7) (bnd (ref11_Refs.f k a0.2.2.2.2) fun r94 => br (bnot r94) (some 2) (some 0)))) (br (ieq a0.1 3) (br (ilt 0 (ilen a0.2.2.2.2)) (some 2) (br (ilt 256 (ilen a0.2.2.2.2)) (some 7) (bnd (ref11_Refs.f k a0.2.2.2.2) fun r95 => br (bnot r95) (some 2) (some 0)))) (br (ilt 256 (ilen a0.2.2.2.2)) (some 7) (bnd (ref11_Refs.f k a0.2.2.2.2) fun r96 => br (bnot r96) (some 2) (some 0)))))))) (br (ieq a0.1 2) (br (ilt 0 (ilen a0.2.2.2.2)) (some 2) (br (ilt 256 (ilen a0.2.2.2.2)) (some 7) (bnd (ref11_Refs.f k a0.2.2.2.2) fun r97 => br (bnot r97) (some 2) (some 0)))) (br (ieq a0.1 3) (br (ilt 0 (ilen a0.2.2.2.2)) (some 2) (br (ilt 256 (ilen a0.2.2.2.2)) (some 7) (bnd (ref11_Refs.f k a0.2.2.2.2) fun r98 => br (bnot r98) (some 2) (some 0)))) (br (ilt 256 (ilen a0.2.2.2.2)) (some 7) (bnd (ref11_Refs.f k a0.2.2.2.2) fun r99 => br (bnot r99) (some 2) (some 0)))))))) (br (bnot (ieq a0.1 3)) (br (bnot (ieq a0.2.2.2.1 0)) (some 2) (br (ieq a0.1 3) (br (ieq a0.2.2.2.1 0) (some 2) (br (ilt 2147483647 a0.2.2.2.1) (some 2) (br (ilt a0.2.2.2.1 (-2147483647)) (some 2) (br (ieq a0.1 2) (br (ilt 0 (ilen a0.2.2.2.2)) (some 2) (br (ilt 256 (ilen a0.2.2.2.2)) (some 7) (bnd (ref11_Refs.f k a0.2.2.2.2) fun r100 => br (bnot r100) (some 2) (some 0)))) (br (ieq a0.1 3) (br (ilt 0 (ilen a0.2.2.2.2)) (some 2) (br (ilt 256 (ilen a0.2.2.2.2)) (some 7) (bnd (ref11_Refs.f k a0.2.2.2.2) fun r101 => br (bnot r101) (some 2) (some 0)))) (br (ilt 256 (ilen a0.2.2.2.2)) (some 7) (bnd (ref11_Refs.f k a0.2.2.2.2) fun r102 => br (bnot r102) (some 2) (some 0)))))))) (br (ieq a0.1 2) (br (ilt 0 (ilen a0.2.2.2.2)) (some 2) (br (ilt 256 (ilen a0.2.2.2.2)) (some 7) (bnd (ref11_Refs.f k a0.2.2.2.2) fun r103 => br (bnot r103) (some 2) (some 0)))) (br (ieq a0.1 3) (br (ilt 0 (ilen a0.2.2.2.2)) (some 2) (br (ilt 256 (ilen a0.2.2.2.2)) (some 7) (bnd (ref11_Refs.f k a0.2.2.2.2) fun r104 => br (bnot r104) (some 2) (some 0)))) (br (ilt 256 (ilen a0.2.2.2.2)) (some 7) (bnd (ref11_Refs.f k a0.2.2.2.2) fun r105 => br (bnot r105) (some 2) (some 0))))))) (br (ieq a0.1 3) (br (ieq a0.2.2.2.1 0) (some 2) (br (ilt 2147483647 a0.2.2.2.1) (some 2) (br (ilt a0.2.2.2.1 (-2147483647)) (some 2) (br (ieq a0.1 2) (br (ilt 0 (ilen a0.2.2.2.2)) (some 2) (br (ilt 256 (ilen a0.2.2.2.2)) (some 7) (bnd (ref11_Refs.f k a0.2.2.2.2) fun r106 => br (bnot r106) (some 2) (some 0)))) (br (ieq a0.1 3) (br (ilt 0 (ilen a0.2.2.2.2)) (some 2) (br (ilt 256 (ilen a0.2.2.2.2)) (some 7) (bnd (ref11_Refs.f k a0.2.2.2.2) fun r107 => br (bnot r107) (some 2) (some 0)))) (br (ilt 256 (ilen a0.2.2.2.2)) (some 7) (bnd (ref11_Refs.f k a0.2.2.2.2) fun r108 => br (bnot r108) (some 2) (some 0)))))))) (br (ieq a0.1 2) (br (ilt 0 (ilen a0.2.2.2.2)) (some 2) (br (ilt 256 (ilen a0.2.2.2.2)) (some 7) (bnd (ref11_Refs.f k a0.2.2.2.2) fun r109 => br (bnot r109) (some 2) (some 0)))) (br (ieq a0.1 3) (br (ilt 0 (ilen a0.2.2.2.2)) (some 2) (br (ilt 256 (ilen a0.2.2.2.2)) (some 7) (bnd (ref11_Refs.f k a0.2.2.2.2) fun r110 => br (bnot r110) (some 2) (some 0)))) (br (ilt 256 (ilen a0.2.2.2.2)) (some 7) (bnd (ref11_Refs.f k a0.2.2.2.2) fun r111 => br (bnot r111) (some 2) (some 0)))))))))))) := by kernel_rfl
noncomputable def ref11_Check.e (k : Nat) : Entry := Sg.entry ref11_Check.sg fun x => ref11_Check.f k x
theorem ref11_Check.ok (k : Nat) : CallOK Tryz.prog 107 (ref11_Check.e k) := fn_ok (c := ref11_Check.cx k) (code := ref11_Check.body) (TT.of tt_ok pp_ok mm_ok) (fns_ok ⟨(ref10_Check.ok k), (ref09_Right.ok k), (ref11_Refs.ok k), trivial⟩) mixed Tryz.func107 (by kernel_rfl) (by kernel_rfl) (by kernel_rfl) (by kernel_rfl) (by kernel_rfl) (by kernel_rfl) (fun x => by kernel_rfl)
noncomputable def ref11_Read.body : Go.Code := Tryz.f101.body.getD .skip
noncomputable def ref11_Read.rs : List Go.ResultVar := Tryz.f101.results.toList
def ref11_Read.regs : List (Nat × RInfo) := [(0, ri [0,2] [2,1000000]), (1, ⟨[0, 2, 3], [2, 3, 1000000], [2], [], 0, [], [], [], [], []⟩), (2, ri [0,2,3] [2,3,1000000]), (3, ri [0,2,3,13] [2,3,1000000]), (4, ⟨[2], [2, 1000000], [1], [], 0, [], [], [], [], []⟩), (5, ⟨[0, 2, 3], [2, 3, 1000000], [3], [], 0, [], [], [], [], []⟩), (6, ri [0,2,3,20] [2,3,1000000]), (7, ri [0,2,3] [2,3,1000000]), (8, ri [0,2,3,37] [2,3,1000000]), (9, ri [0,2,3] [2,3,1000000]), (10, ri [0,2,3,53] [2,3,1000000]), (11, ri [0,2,3,4] [2,3,55,1000000]), (12, ri [0,2,3,4,5] [2,3,55,1000000]), (13, ⟨[0, 2, 3, 4, 5, 58], [2, 3, 55, 1000000], [], [], 0, [0, 2, 3, 4, 5], [2, 3, 55, 1000000], [], [], []⟩), (15, ri [0,2,3,4,5,6] [2,3,6,55,1000000]), (16, ⟨[0, 2, 3, 4, 5], [2, 3, 55, 1000000], [1, 7, 9], [], 8, [], [], [], [[], [], [], [], [], [2, 4], [2, 4], [1, 2, 4], [1, 2, 4], [1, 2, 4]], []⟩), (14, ri [0,2,3,4,5] [2,3,55,1000000]), (17, ri [0,2,3,76] [2,3,1000000]), (18, ri [0,2,3] [2,3,1000000]), (19, ri [2,3,85] [2,3,1000000]), (20, ⟨[2], [2, 1000000], [1], [], 0, [], [], [], [], []⟩), (21, ⟨[2], [2, 1000000], [1], [], 0, [], [], [], [], []⟩)]
noncomputable def ref11_Read.cx (k : Nat) : Cx := ⟨tt, pp, [(71, (ref02_Reader_Int.e k)), (143, (ref10_Read.e k)), (144, (ref09_Unfold.e k)), (145, (ref09_Read.e k)), (67, (ref02_Reader_Many.e k)), (70, (ref04_Read.e k)), (107, (ref11_Check.e k)), (100, (ref02_Reader_Fail.e k))], ref11_Read.regs, k, mm⟩
@[reducible] def ref11_Read.sg : Sg := ⟨[.ref], [tref02Reader], .dat tOp, [tref02Reader]⟩
noncomputable def ref11_Read.f (k : Nat) (o0 : Ty.D tref02Reader) : Option (Sg.Out ref11_Read.sg) := Sg.fn ref11_Read.sg (ref11_Read.cx k) ref11_Read.body ref11_Read.rs o0
noncomputable def ref11_Read.l13 (k : Nat) (n : Nat) (x4 : Ty.D (.int .i64)) (x5 : Ty.D (.int .i64)) (m2a : Ty.D (.int .i64)) (m2ba : List (Ty.D .str)) (m2bba : Ty.D tValue) (m2bbba : Ty.D (.int .i64)) (m2bbbb : List (Ty.D tUndo)) (m3a : Ty.D (.int .i64)) (m3ba : List (Ty.D .str)) (m3bba : Ty.D tValue) (m3bbba : Ty.D (.int .i64)) (m3bbbb : List (Ty.D tUndo)) (m1000000 : Ty.D tref02Reader) : Option (Sg.Out ref11_Read.sg) := loopAt (ref11_Read.cx k) ref11_Read.body [1, 1, 1, 1, 1, 1, 1, 0, 1, 0, 1, 1, 0] 13 [0, 2, 3, 4, 5] [2, 3, 55, 1000000] [] (Sg.K ref11_Read.sg (ref11_Read.cx k) ref11_Read.rs) n ⟨[(0, .ref 1000000 []), (2, .ref 2 []), (3, .ref 3 []), (4, .dat (.int .i64) x4), (5, .dat (.int .i64) x5)], [(2, .pr (.dat (.int .i64) m2a) (.pr (.own .str m2ba) (.pr (.dat tValue m2bba) (.pr (.dat (.int .i64) m2bbba) (.own tUndo m2bbbb))))), (3, .pr (.dat (.int .i64) m3a) (.pr (.own .str m3ba) (.pr (.dat tValue m3bba) (.pr (.dat (.int .i64) m3bbba) (.own tUndo m3bbbb))))), (1000000, .dat tref02Reader m1000000)]⟩
theorem ref11_Read.f_eq (k : Nat) (o0 : Ty.D tref02Reader) : ref11_Read.f k o0 = bnd (ref02_Reader_Int.f k o0) fun r0 => br (ieq r0.1 0) (some ((r0.1, ([], ((0, (0, [])), (0, [])))), r0.2)) (bnd (ref10_Read.f k r0.2) fun r1 => br (ieq r0.1 3) (bnd (ref02_Reader_Int.f k r1.2) fun r2 => bnd (ref09_Unfold.f k r2.1) fun r3 => br (ieq r0.1 1) (bnd (ref09_Read.f k r2.2) fun r4 => br (ieq r0.1 1) (bnd (ref02_Reader_Many.f k 256 r4.2) fun r5 => ref11_Read.l13 k k r5.1 0 0 [] (0, (0, [])) 0 [] r0.1 r1.1 r4.1 r3 [] r5.2) (br (ieq r0.1 4) (bnd (ref02_Reader_Many.f k 256 r4.2) fun r6 => ref11_Read.l13 k k r6.1 0 0 [] (0, (0, [])) 0 [] r0.1 r1.1 r4.1 r3 [] r6.2) (br (ieq r0.1 5) (bnd (ref02_Reader_Many.f k 256 r4.2) fun r7 => ref11_Read.l13 k k r7.1 0 0 [] (0, (0, [])) 0 [] r0.1 r1.1 r4.1 r3 [] r7.2) (br (ieq r4.2.2.2 0) (bnd (ref11_Check.f k (r0.1, (r1.1, (r4.1, (r3, []))))) fun r8 => bnd (ref02_Reader_Fail.f k r8 r4.2) fun r9 => br (bnot (ieq r9.2.2.2 0)) (some ((0, ([], ((0, (0, [])), (0, [])))), r9.2)) (some ((r0.1, (r1.1, (r4.1, (r3, [])))), r9.2))) (br (bnot (ieq r4.2.2.2 0)) (some ((0, ([], ((0, (0, [])), (0, [])))), r4.2)) (some ((r0.1, (r1.1, (r4.1, (r3, [])))), r4.2))))))) (br (ieq r0.1 2) (bnd (ref09_Read.f k r2.2) fun r10 => br (ieq r0.1 1) (bnd (ref02_Reader_Many.f k 256 r10.2) fun r11 => ref11_Read.l13 k k r11.1 0 0 [] (0, (0, [])) 0 [] r0.1 r1.1 r10.1 r3 [] r11.2) (br (ieq r0.1 4) (bnd (ref02_Reader_Many.f k 256 r10.2) fun r12 => ref11_Read.l13 k k r12.1 0 0 [] (0, (0, [])) 0 [] r0.1 r1.1 r10.1 r3 [] r12.2) (br (ieq r0.1 5) (bnd (ref02_Reader_Many.f k 256 r10.2) fun r13 => ref11_Read.l13 k k r13.1 0 0 [] (0, (0, [])) 0 [] r0.1 r1.1 r10.1 r3 [] r13.2) (br (ieq r10.2.2.2 0) (bnd (ref11_Check.f k (r0.1, (r1.1, (r10.1, (r3, []))))) fun r14 => bnd (ref02_Reader_Fail.f k r14 r10.2) fun r15 => br (bnot (ieq r15.2.2.2 0)) (some ((0, ([], ((0, (0, [])), (0, [])))), r15.2)) (some ((r0.1, (r1.1, (r10.1, (r3, [])))), r15.2))) (br (bnot (ieq r10.2.2.2 0)) (some ((0, ([], ((0, (0, [])), (0, [])))), r10.2)) (some ((r0.1, (r1.1, (r10.1, (r3, [])))), r10.2))))))) (br (ieq r0.1 4) (bnd (ref09_Read.f k r2.2) fun r16 => br (ieq r0.1 1) (bnd (ref02_Reader_Many.f k 256 r16.2) fun r17 => ref11_Read.l13 k k r17.1 0 0 [] (0, (0, [])) 0 [] r0.1 r1.1 r16.1 r3 [] r17.2) (br (ieq r0.1 4) (bnd (ref02_Reader_Many.f k 256 r16.2) fun r18 => ref11_Read.l13 k k r18.1 0 0 [] (0, (0, [])) 0 [] r0.1 r1.1 r16.1 r3 [] r18.2) (br (ieq r0.1 5) (bnd (ref02_Reader_Many.f k 256 r16.2) fun r19 => ref11_Read.l13 k k r19.1 0 0 [] (0, (0, [])) 0 [] r0.1 r1.1 r16.1 r3 [] r19.2) (br (ieq r16.2.2.2 0) (bnd (ref11_Check.f k (r0.1, (r1.1, (r16.1, (r3, []))))) fun r20 => bnd (ref02_Reader_Fail.f k r20 r16.2) fun r21 => br (bnot (ieq r21.2.2.2 0)) (some ((0, ([], ((0, (0, [])), (0, [])))), r21.2)) (some ((r0.1, (r1.1, (r16.1, (r3, [])))), r21.2))) (br (bnot (ieq r16.2.2.2 0)) (some ((0, ([], ((0, (0, [])), (0, [])))), r16.2)) (some ((r0.1, (r1.1, (r16.1, (r3, [])))), r16.2))))))) (br (ieq r0.1 1) (bnd (ref02_Reader_Many.f k 256 r2.2) fun r22 => ref11_Read.l13 k k r22.1 0 0 [] (0, (0, [])) 0 [] r0.1 r1.1 (0, (0, [])) r3 [] r22.2) (br (ieq r0.1 4) (bnd (ref02_Reader_Many.f k 256 r2.2) fun r23 => ref11_Read.l13 k k r23.1 0 0 [] (0, (0, [])) 0 [] r0.1 r1.1 (0, (0, [])) r3 [] r23.2) (br (ieq r0.1 5) (bnd (ref02_Reader_Many.f k 256 r2.2) fun r24 => ref11_Read.l13 k k r24.1 0 0 [] (0, (0, [])) 0 [] r0.1 r1.1 (0, (0, [])) r3 [] r24.2) (br (ieq r2.2.2.2 0) (bnd (ref11_Check.f k (r0.1, (r1.1, ((0, (0, [])), (r3, []))))) fun r25 => bnd (ref02_Reader_Fail.f k r25 r2.2) fun r26 => br (bnot (ieq r26.2.2.2 0)) (some ((0, ([], ((0, (0, [])), (0, [])))), r26.2)) (some ((r0.1, (r1.1, ((0, (0, [])), (r3, [])))), r26.2))) (br (bnot (ieq r2.2.2.2 0)) (some ((0, ([], ((0, (0, [])), (0, [])))), r2.2)) (some ((r0.1, (r1.1, ((0, (0, [])), (r3, [])))), r2.2)))))))))) (br (ieq r0.1 1) (bnd (ref09_Read.f k r1.2) fun r27 => br (ieq r0.1 1) (bnd (ref02_Reader_Many.f k 256 r27.2) fun r28 => ref11_Read.l13 k k r28.1 0 0 [] (0, (0, [])) 0 [] r0.1 r1.1 r27.1 0 [] r28.2) (br (ieq r0.1 4) (bnd (ref02_Reader_Many.f k 256 r27.2) fun r29 => ref11_Read.l13 k k r29.1 0 0 [] (0, (0, [])) 0 [] r0.1 r1.1 r27.1 0 [] r29.2) (br (ieq r0.1 5) (bnd (ref02_Reader_Many.f k 256 r27.2) fun r30 => ref11_Read.l13 k k r30.1 0 0 [] (0, (0, [])) 0 [] r0.1 r1.1 r27.1 0 [] r30.2) (br (ieq r27.2.2.2 0) (bnd (ref11_Check.f k (r0.1, (r1.1, (r27.1, (0, []))))) fun r31 => bnd (ref02_Reader_Fail.f k r31 r27.2) fun r32 => br (bnot (ieq r32.2.2.2 0)) (some ((0, ([], ((0, (0, [])), (0, [])))), r32.2)) (some ((r0.1, (r1.1, (r27.1, (0, [])))), r32.2))) (br (bnot (ieq r27.2.2.2 0)) (some ((0, ([], ((0, (0, [])), (0, [])))), r27.2)) (some ((r0.1, (r1.1, (r27.1, (0, [])))), r27.2))))))) (br (ieq r0.1 2) (bnd (ref09_Read.f k r1.2) fun r33 => br (ieq r0.1 1) (bnd (ref02_Reader_Many.f k 256 r33.2) fun r34 => ref11_Read.l13 k k r34.1 0 0 [] (0, (0, [])) 0 [] r0.1 r1.1 r33.1 0 [] r34.2) (br (ieq r0.1 4) (bnd (ref02_Reader_Many.f k 256 r33.2) fun r35 => ref11_Read.l13 k k r35.1 0 0 [] (0, (0, [])) 0 [] r0.1 r1.1 r33.1 0 [] r35.2) (br (ieq r0.1 5) (bnd (ref02_Reader_Many.f k 256 r33.2) fun r36 => ref11_Read.l13 k k r36.1 0 0 [] (0, (0, [])) 0 [] r0.1 r1.1 r33.1 0 [] r36.2) (br (ieq r33.2.2.2 0) (bnd (ref11_Check.f k (r0.1, (r1.1, (r33.1, (0, []))))) fun r37 => bnd (ref02_Reader_Fail.f k r37 r33.2) fun r38 => br (bnot (ieq r38.2.2.2 0)) (some ((0, ([], ((0, (0, [])), (0, [])))), r38.2)) (some ((r0.1, (r1.1, (r33.1, (0, [])))), r38.2))) (br (bnot (ieq r33.2.2.2 0)) (some ((0, ([], ((0, (0, [])), (0, [])))), r33.2)) (some ((r0.1, (r1.1, (r33.1, (0, [])))), r33.2))))))) (br (ieq r0.1 4) (bnd (ref09_Read.f k r1.2) fun r39 => br (ieq r0.1 1) (bnd (ref02_Reader_Many.f k 256 r39.2) fun r40 => ref11_Read.l13 k k r40.1 0 0 [] (0, (0, [])) 0 [] r0.1 r1.1 r39.1 0 [] r40.2) (br (ieq r0.1 4) (bnd (ref02_Reader_Many.f k 256 r39.2) fun r41 => ref11_Read.l13 k k r41.1 0 0 [] (0, (0, [])) 0 [] r0.1 r1.1 r39.1 0 [] r41.2) (br (ieq r0.1 5) (bnd (ref02_Reader_Many.f k 256 r39.2) fun r42 => ref11_Read.l13 k k r42.1 0 0 [] (0, (0, [])) 0 [] r0.1 r1.1 r39.1 0 [] r42.2) (br (ieq r39.2.2.2 0) (bnd (ref11_Check.f k (r0.1, (r1.1, (r39.1, (0, []))))) fun r43 => bnd (ref02_Reader_Fail.f k r43 r39.2) fun r44 => br (bnot (ieq r44.2.2.2 0)) (some ((0, ([], ((0, (0, [])), (0, [])))), r44.2)) (some ((r0.1, (r1.1, (r39.1, (0, [])))), r44.2))) (br (bnot (ieq r39.2.2.2 0)) (some ((0, ([], ((0, (0, [])), (0, [])))), r39.2)) (some ((r0.1, (r1.1, (r39.1, (0, [])))), r39.2))))))) (br (ieq r0.1 1) (bnd (ref02_Reader_Many.f k 256 r1.2) fun r45 => ref11_Read.l13 k k r45.1 0 0 [] (0, (0, [])) 0 [] r0.1 r1.1 (0, (0, [])) 0 [] r45.2) (br (ieq r0.1 4) (bnd (ref02_Reader_Many.f k 256 r1.2) fun r46 => ref11_Read.l13 k k r46.1 0 0 [] (0, (0, [])) 0 [] r0.1 r1.1 (0, (0, [])) 0 [] r46.2) (br (ieq r0.1 5) (bnd (ref02_Reader_Many.f k 256 r1.2) fun r47 => ref11_Read.l13 k k r47.1 0 0 [] (0, (0, [])) 0 [] r0.1 r1.1 (0, (0, [])) 0 [] r47.2) (br (ieq r1.2.2.2 0) (bnd (ref11_Check.f k (r0.1, (r1.1, ((0, (0, [])), (0, []))))) fun r48 => bnd (ref02_Reader_Fail.f k r48 r1.2) fun r49 => br (bnot (ieq r49.2.2.2 0)) (some ((0, ([], ((0, (0, [])), (0, [])))), r49.2)) (some ((r0.1, (r1.1, ((0, (0, [])), (0, [])))), r49.2))) (br (bnot (ieq r1.2.2.2 0)) (some ((0, ([], ((0, (0, [])), (0, [])))), r1.2)) (some ((r0.1, (r1.1, ((0, (0, [])), (0, [])))), r1.2))))))))))) := by kernel_rfl
theorem ref11_Read.l13_eq (k : Nat) (n13 : Nat) (x4 : Ty.D (.int .i64)) (x5 : Ty.D (.int .i64)) (m2a : Ty.D (.int .i64)) (m2ba : List (Ty.D .str)) (m2bba : Ty.D tValue) (m2bbba : Ty.D (.int .i64)) (m2bbbb : List (Ty.D tUndo)) (m3a : Ty.D (.int .i64)) (m3ba : List (Ty.D .str)) (m3bba : Ty.D tValue) (m3bbba : Ty.D (.int .i64)) (m3bbbb : List (Ty.D tUndo)) (m1000000 : Ty.D tref02Reader) : ref11_Read.l13 k (n13 + 1) x4 x5 m2a m2ba m2bba m2bbba m2bbbb m3a m3ba m3bba m3bbba m3bbbb m1000000 = br (ilt x5 x4) (bnd (ref04_Read.f k m1000000) fun r0 => bnd (ref02_Reader_Int.f k r0.2) fun r1 => br (room m3bbbb ((r0.1, r1.1) :: [])) (ref11_Read.l13 k n13 x4 (iadd .i64 x5 1) m2a m2ba m2bba m2bbba m2bbbb m3a m3ba m3bba m3bbba (app m3bbbb ((r0.1, r1.1) :: [])) r1.2) none) (br (ieq m1000000.2.2 0) (bnd (ref11_Check.f k (m3a, (m3ba, (m3bba, (m3bbba, m3bbbb))))) fun r2 => bnd (ref02_Reader_Fail.f k r2 m1000000) fun r3 => br (bnot (ieq r3.2.2.2 0)) (some ((0, ([], ((0, (0, [])), (0, [])))), r3.2)) (some ((m3a, (m3ba, (m3bba, (m3bbba, m3bbbb)))), r3.2))) (br (bnot (ieq m1000000.2.2 0)) (some ((0, ([], ((0, (0, [])), (0, [])))), m1000000)) (some ((m3a, (m3ba, (m3bba, (m3bbba, m3bbbb)))), m1000000)))) := by kernel_rfl
noncomputable def ref11_Read.e (k : Nat) : Entry := Sg.entry ref11_Read.sg fun x => ref11_Read.f k x
theorem ref11_Read.ok (k : Nat) : CallOK Tryz.prog 101 (ref11_Read.e k) := fn_ok (c := ref11_Read.cx k) (code := ref11_Read.body) (TT.of tt_ok pp_ok mm_ok) (fns_ok ⟨(ref02_Reader_Int.ok k), (ref10_Read.ok k), (ref09_Unfold.ok k), (ref09_Read.ok k), (ref02_Reader_Many.ok k), (ref04_Read.ok k), (ref11_Check.ok k), (ref02_Reader_Fail.ok k), trivial⟩) mixed Tryz.func101 (by kernel_rfl) (by kernel_rfl) (by kernel_rfl) (by kernel_rfl) (by kernel_rfl) (by kernel_rfl) (fun x => by kernel_rfl)
noncomputable def ref11_Gone.body : Go.Code := Tryz.f108.body.getD .skip
noncomputable def ref11_Gone.rs : List Go.ResultVar := Tryz.f108.results.toList
def ref11_Gone.regs : List (Nat × RInfo) := [(0, ⟨[1], [1], [0], [], 0, [], [], [], [], []⟩), (1, ri [1,3] [1,3]), (2, ri [2] [])]
noncomputable def ref11_Gone.cx (k : Nat) : Cx := ⟨tt, pp, [], ref11_Gone.regs, k, mm⟩
@[reducible] def ref11_Gone.sg : Sg := ⟨[.dat tOp], [], .dat .bool, []⟩
noncomputable def ref11_Gone.f (k : Nat) (a0 : Ty.D tOp) : Option (Sg.Out ref11_Gone.sg) := Sg.fn ref11_Gone.sg (ref11_Gone.cx k) ref11_Gone.body ref11_Gone.rs a0
theorem ref11_Gone.f_eq (k : Nat) (a0 : Ty.D tOp) : ref11_Gone.f k a0 = br (ieq a0.1 0) (br (ieq (ilen a0.2.1) 0) (br (deq tValue a0.2.2.1 (0, (0, []))) (br (ieq a0.2.2.2.1 0) (some (ieq (ilen a0.2.2.2.2) 0)) (some false)) (some false)) (some false)) (some false) := by kernel_rfl
noncomputable def ref11_Gone.e (k : Nat) : Entry := Sg.entry ref11_Gone.sg fun x => ref11_Gone.f k x
theorem ref11_Gone.ok (k : Nat) : CallOK Tryz.prog 108 (ref11_Gone.e k) := fn_ok (c := ref11_Gone.cx k) (code := ref11_Gone.body) (TT.of tt_ok pp_ok mm_ok) (fns_ok trivial) mixed Tryz.func108 (by kernel_rfl) (by kernel_rfl) (by kernel_rfl) (by kernel_rfl) (by kernel_rfl) (by kernel_rfl) (fun x => by kernel_rfl)
noncomputable def ref12_Check.body : Go.Code := Tryz.f76.body.getD .skip
noncomputable def ref12_Check.rs : List Go.ResultVar := Tryz.f76.results.toList
def ref12_Check.regs : List (Nat × RInfo) := [(0, ⟨[1], [1], [0], [], 0, [], [], [], [], []⟩), (1, ri [1,28] [1]), (2, ri [2] [49]), (3, ri [1,32] [1]), (4, ri [2] [49]), (5, ri [1,36] [1]), (6, ri [2] [49]), (7, ri [1,3] [1]), (8, ⟨[1, 3, 41], [1], [], [], 0, [1, 3], [1], [], [], []⟩), (10, ri [1,3,4] [1,49]), (11, ri [1,3,4,64] [1,49]), (12, ri [2] [49]), (9, ri [1,3] [1]), (13, ri [2] [49])]
noncomputable def ref12_Check.cx (k : Nat) : Cx := ⟨tt, pp, [(77, (ref04_Right.e k)), (107, (ref11_Check.e k)), (108, (ref11_Gone.e k))], ref12_Check.regs, k, mm⟩
@[reducible] def ref12_Check.sg : Sg := ⟨[.dat tTxn], [], .dat (.int .i64), []⟩
noncomputable def ref12_Check.f (k : Nat) (a0 : Ty.D tTxn) : Option (Sg.Out ref12_Check.sg) := Sg.fn ref12_Check.sg (ref12_Check.cx k) ref12_Check.body ref12_Check.rs a0
noncomputable def ref12_Check.l8 (k : Nat) (n : Nat) (x3 : Ty.D (.int .i64)) (m1 : Ty.D tTxn) : Option (Sg.Out ref12_Check.sg) := loopAt (ref12_Check.cx k) ref12_Check.body [1, 1, 1, 1, 0, 1, 0] 8 [1, 3] [1] [] (Sg.K ref12_Check.sg (ref12_Check.cx k) ref12_Check.rs) n ⟨[(1, .ref 1 []), (3, .dat (.int .i64) x3)], [(1, .dat tTxn m1)]⟩
theorem ref12_Check.f_eq (k : Nat) (a0 : Ty.D tTxn) : ref12_Check.f k a0 = bnd (ref04_Right.f k a0.1) fun r0 => br (bnot r0) (some 2) (br (ilt a0.2.1 0) (some 2) (br (ilt 7 a0.2.1) (some 2) (br (ilt a0.2.2.1 1) (some 2) (br (ilt 1099511627776 a0.2.2.1) (some 2) (br (ieq (ilen a0.2.2.2.2) 0) (some 11) (br (ilt 16 (ilen a0.2.2.2.2)) (some 7) (ref12_Check.l8 k k 0 a0))))))) := by kernel_rfl
theorem ref12_Check.l8_eq (k : Nat) (n8 : Nat) (x3 : Ty.D (.int .i64)) (m1 : Ty.D tTxn) : ref12_Check.l8 k (n8 + 1) x3 m1 = br (ilt x3 (ilen m1.2.2.2.2)) (br (inL x3 m1.2.2.2.2) (bnd (ref11_Check.f k (rd tOp m1.2.2.2.2 (natOf x3))) fun r0 => br (bnot (ieq r0 0)) (br m1.2.2.2.1 (br (inL x3 m1.2.2.2.2) (bnd (ref11_Gone.f k (rd tOp m1.2.2.2.2 (natOf x3))) fun r1 => br (bnot r1) (some r0) (ref12_Check.l8 k n8 (iadd .i64 x3 1) m1)) none) (br (bnot false) (some r0) (ref12_Check.l8 k n8 (iadd .i64 x3 1) m1))) (ref12_Check.l8 k n8 (iadd .i64 x3 1) m1)) none) (some 0) := by kernel_rfl
noncomputable def ref12_Check.e (k : Nat) : Entry := Sg.entry ref12_Check.sg fun x => ref12_Check.f k x
theorem ref12_Check.ok (k : Nat) : CallOK Tryz.prog 76 (ref12_Check.e k) := fn_ok (c := ref12_Check.cx k) (code := ref12_Check.body) (TT.of tt_ok pp_ok mm_ok) (fns_ok ⟨(ref04_Right.ok k), (ref11_Check.ok k), (ref11_Gone.ok k), trivial⟩) mixed Tryz.func76 (by kernel_rfl) (by kernel_rfl) (by kernel_rfl) (by kernel_rfl) (by kernel_rfl) (by kernel_rfl) (fun x => by kernel_rfl)
noncomputable def ref12_Read.body : Go.Code := Tryz.f68.body.getD .skip
noncomputable def ref12_Read.rs : List Go.ResultVar := Tryz.f68.results.toList
def ref12_Read.regs : List (Nat × RInfo) := [(0, ri [0,2] [2,1000000]), (1, ⟨[0, 2, 3], [2, 3, 1000000], [2], [], 0, [], [], [], [], []⟩), (2, ri [0,2,3] [2,3,1000000]), (3, ri [0,2,3] [2,3,1000000]), (4, ri [0,2,3] [2,3,1000000]), (5, ri [0,2,3,4] [2,3,18,1000000]), (6, ri [0,2,3,4,20] [2,3,18,1000000]), (7, ri [0,2,3,4] [2,3,18,1000000]), (8, ri [0,2,3] [2,3,1000000]), (9, ri [0,2,3,5] [2,3,27,1000000]), (10, ri [0,2,3,5,6] [2,3,27,1000000]), (11, ⟨[0, 2, 3, 5, 6, 30], [2, 3, 27, 1000000], [], [], 0, [0, 2, 3, 5, 6], [2, 3, 27, 1000000], [], [], []⟩), (13, ⟨[0, 2, 3, 5, 6], [2, 3, 27, 1000000], [1, 5, 7], [], 6, [], [], [], [[], [], [], [], [3], [1, 3], [1, 3], [1, 3]], []⟩), (12, ri [0,2,3,5,6] [2,3,27,1000000]), (14, ri [0,2,3,44] [2,3,1000000]), (15, ri [0,2,3] [2,3,1000000]), (16, ri [2,3,53] [2,3,1000000]), (17, ⟨[2], [2, 1000000], [1], [], 0, [], [], [], [], []⟩), (18, ⟨[2], [2, 1000000], [1], [], 0, [], [], [], [], []⟩)]
noncomputable def ref12_Read.cx (k : Nat) : Cx := ⟨tt, pp, [(70, (ref04_Read.e k)), (71, (ref02_Reader_Int.e k)), (100, (ref02_Reader_Fail.e k)), (67, (ref02_Reader_Many.e k)), (101, (ref11_Read.e k)), (76, (ref12_Check.e k))], ref12_Read.regs, k, mm⟩
@[reducible] def ref12_Read.sg : Sg := ⟨[.ref], [tref02Reader], .dat tTxn, [tref02Reader]⟩
noncomputable def ref12_Read.f (k : Nat) (o0 : Ty.D tref02Reader) : Option (Sg.Out ref12_Read.sg) := Sg.fn ref12_Read.sg (ref12_Read.cx k) ref12_Read.body ref12_Read.rs o0
noncomputable def ref12_Read.l11 (k : Nat) (n : Nat) (x5 : Ty.D (.int .i64)) (x6 : Ty.D (.int .i64)) (m2a : Ty.D tDot) (m2ba : Ty.D (.int .i64)) (m2bba : Ty.D (.int .i64)) (m2bbba : Ty.D .bool) (m2bbbb : List (Ty.D tOp)) (m3a : Ty.D tDot) (m3ba : Ty.D (.int .i64)) (m3bba : Ty.D (.int .i64)) (m3bbba : Ty.D .bool) (m3bbbb : List (Ty.D tOp)) (m1000000 : Ty.D tref02Reader) : Option (Sg.Out ref12_Read.sg) := loopAt (ref12_Read.cx k) ref12_Read.body [1, 1, 1, 1, 1, 1, 1, 1, 1, 0, 1, 0] 11 [0, 2, 3, 5, 6] [2, 3, 27, 1000000] [] (Sg.K ref12_Read.sg (ref12_Read.cx k) ref12_Read.rs) n ⟨[(0, .ref 1000000 []), (2, .ref 2 []), (3, .ref 3 []), (5, .dat (.int .i64) x5), (6, .dat (.int .i64) x6)], [(2, .pr (.dat tDot m2a) (.pr (.dat (.int .i64) m2ba) (.pr (.dat (.int .i64) m2bba) (.pr (.dat .bool m2bbba) (.own tOp m2bbbb))))), (3, .pr (.dat tDot m3a) (.pr (.dat (.int .i64) m3ba) (.pr (.dat (.int .i64) m3bba) (.pr (.dat .bool m3bbba) (.own tOp m3bbbb))))), (1000000, .dat tref02Reader m1000000)]⟩
theorem ref12_Read.f_eq (k : Nat) (o0 : Ty.D tref02Reader) : ref12_Read.f k o0 = bnd (ref04_Read.f k o0) fun r0 => bnd (ref02_Reader_Int.f k r0.2) fun r1 => bnd (ref02_Reader_Int.f k r1.2) fun r2 => bnd (ref02_Reader_Int.f k r2.2) fun r3 => br (ilt 1 r3.1) (bnd (ref02_Reader_Fail.f k 3 r3.2) fun r4 => bnd (ref02_Reader_Many.f k 16 r4.2) fun r5 => ref12_Read.l11 k k r5.1 0 (0, 0) 0 0 false [] r0.1 r1.1 r2.1 (ieq r3.1 1) [] r5.2) (bnd (ref02_Reader_Many.f k 16 r3.2) fun r6 => ref12_Read.l11 k k r6.1 0 (0, 0) 0 0 false [] r0.1 r1.1 r2.1 (ieq r3.1 1) [] r6.2) := by kernel_rfl
theorem ref12_Read.l11_eq (k : Nat) (n11 : Nat) (x5 : Ty.D (.int .i64)) (x6 : Ty.D (.int .i64)) (m2a : Ty.D tDot) (m2ba : Ty.D (.int .i64)) (m2bba : Ty.D (.int .i64)) (m2bbba : Ty.D .bool) (m2bbbb : List (Ty.D tOp)) (m3a : Ty.D tDot) (m3ba : Ty.D (.int .i64)) (m3bba : Ty.D (.int .i64)) (m3bbba : Ty.D .bool) (m3bbbb : List (Ty.D tOp)) (m1000000 : Ty.D tref02Reader) : ref12_Read.l11 k (n11 + 1) x5 x6 m2a m2ba m2bba m2bbba m2bbbb m3a m3ba m3bba m3bbba m3bbbb m1000000 = br (ilt x6 x5) (bnd (ref11_Read.f k m1000000) fun r0 => br (room m3bbbb (r0.1 :: [])) (ref12_Read.l11 k n11 x5 (iadd .i64 x6 1) m2a m2ba m2bba m2bbba m2bbbb m3a m3ba m3bba m3bbba (app m3bbbb (r0.1 :: [])) r0.2) none) (br (ieq m1000000.2.2 0) (bnd (ref12_Check.f k (m3a, (m3ba, (m3bba, (m3bbba, m3bbbb))))) fun r1 => bnd (ref02_Reader_Fail.f k r1 m1000000) fun r2 => br (bnot (ieq r2.2.2.2 0)) (some (((0, 0), (0, (0, (false, [])))), r2.2)) (some ((m3a, (m3ba, (m3bba, (m3bbba, m3bbbb)))), r2.2))) (br (bnot (ieq m1000000.2.2 0)) (some (((0, 0), (0, (0, (false, [])))), m1000000)) (some ((m3a, (m3ba, (m3bba, (m3bbba, m3bbbb)))), m1000000)))) := by kernel_rfl
noncomputable def ref12_Read.e (k : Nat) : Entry := Sg.entry ref12_Read.sg fun x => ref12_Read.f k x
theorem ref12_Read.ok (k : Nat) : CallOK Tryz.prog 68 (ref12_Read.e k) := fn_ok (c := ref12_Read.cx k) (code := ref12_Read.body) (TT.of tt_ok pp_ok mm_ok) (fns_ok ⟨(ref04_Read.ok k), (ref02_Reader_Int.ok k), (ref02_Reader_Fail.ok k), (ref02_Reader_Many.ok k), (ref11_Read.ok k), (ref12_Check.ok k), trivial⟩) mixed Tryz.func68 (by kernel_rfl) (by kernel_rfl) (by kernel_rfl) (by kernel_rfl) (by kernel_rfl) (by kernel_rfl) (fun x => by kernel_rfl)
noncomputable def ref12_Rises.body : Go.Code := Tryz.f69.body.getD .skip
noncomputable def ref12_Rises.rs : List Go.ResultVar := Tryz.f69.results.toList
def ref12_Rises.regs : List (Nat × RInfo) := [(0, ri [0] []), (1, ri [0,3] []), (2, ⟨[0, 3, 7], [], [], [], 0, [0, 3], [], [], [], []⟩), (4, rq [0,3,22] [] 13), (5, ri [2] []), (3, ri [0,3] []), (6, ri [2] [])]
noncomputable def ref12_Rises.cx (k : Nat) : Cx := ⟨tt, pp, [(102, (ref04_Compare.e k))], ref12_Rises.regs, k, mm⟩
@[reducible] def ref12_Rises.sg : Sg := ⟨[.dat (.slc tTxn)], [], .dat .bool, []⟩
noncomputable def ref12_Rises.f (k : Nat) (a0 : Ty.D (.slc tTxn)) : Option (Sg.Out ref12_Rises.sg) := Sg.fn ref12_Rises.sg (ref12_Rises.cx k) ref12_Rises.body ref12_Rises.rs a0
noncomputable def ref12_Rises.l2 (k : Nat) (n : Nat) (x0 : Ty.D (.slc tTxn)) (x3 : Ty.D (.int .i64)) : Option (Sg.Out ref12_Rises.sg) := loopAt (ref12_Rises.cx k) ref12_Rises.body [1, 0, 1, 0] 2 [0, 3] [] [] (Sg.K ref12_Rises.sg (ref12_Rises.cx k) ref12_Rises.rs) n ⟨[(0, .dat (.slc tTxn) x0), (3, .dat (.int .i64) x3)], []⟩
theorem ref12_Rises.f_eq (k : Nat) (a0 : Ty.D (.slc tTxn)) : ref12_Rises.f k a0 = ref12_Rises.l2 k k a0 1 := by kernel_rfl
theorem ref12_Rises.l2_eq (k : Nat) (n2 : Nat) (x0 : Ty.D (.slc tTxn)) (x3 : Ty.D (.int .i64)) : ref12_Rises.l2 k (n2 + 1) x0 x3 = br (ilt x3 (ilen x0)) (br (inL (isub .i64 x3 1) x0) (br (inL x3 x0) (bnd (ref04_Compare.f k ((rd tTxn x0 (natOf (isub .i64 x3 1))).1) ((rd tTxn x0 (natOf x3)).1)) fun r0 => br (bnot (ieq r0 (-1))) (some false) (ref12_Rises.l2 k n2 x0 (iadd .i64 x3 1))) none) none) (some true) := by kernel_rfl
noncomputable def ref12_Rises.e (k : Nat) : Entry := Sg.entry ref12_Rises.sg fun x => ref12_Rises.f k x
theorem ref12_Rises.ok (k : Nat) : CallOK Tryz.prog 69 (ref12_Rises.e k) := fn_ok (c := ref12_Rises.cx k) (code := ref12_Rises.body) (TT.of tt_ok pp_ok mm_ok) (fns_ok ⟨(ref04_Compare.ok k), trivial⟩) mixed Tryz.func69 (by kernel_rfl) (by kernel_rfl) (by kernel_rfl) (by kernel_rfl) (by kernel_rfl) (by kernel_rfl) (fun x => by kernel_rfl)
noncomputable def ref12_ReadList.body : Go.Code := Tryz.f28.body.getD .skip
noncomputable def ref12_ReadList.rs : List Go.ResultVar := Tryz.f28.results.toList
def ref12_ReadList.regs : List (Nat × RInfo) := [(0, ri [0,1] [1000000]), (1, ri [0,5] [10,1000000]), (2, ri [0,5,6] [10,1000000]), (3, ri [0,5,6,7] [10,1000000]), (4, ⟨[0, 5, 6, 7, 13], [10, 1000000], [], [], 0, [0, 5, 6, 7], [10, 1000000], [], [], []⟩), (6, ⟨[0, 5, 6, 7], [10, 1000000], [0, 4, 5], [], 0, [], [], [], [], []⟩), (5, ri [0,5,6,7] [10,1000000]), (7, ri [0,6,30] [1000000]), (8, ri [0,6] [1000000]), (9, ri [6,38] [1000000]), (10, ri [4] [1000000]), (11, ⟨[4], [1000000], [0, 1], [], 0, [], [], [], [], []⟩)]
noncomputable def ref12_ReadList.cx (k : Nat) : Cx := ⟨tt, pp, [(67, (ref02_Reader_Many.e k)), (68, (ref12_Read.e k)), (69, (ref12_Rises.e k))], ref12_ReadList.regs, k, mm⟩
@[reducible] def ref12_ReadList.sg : Sg := ⟨[.ref, .dat (.int .i64)], [tref02Reader], .own tTxn, [tref02Reader]⟩
noncomputable def ref12_ReadList.f (k : Nat) (a1 : Ty.D (.int .i64)) (o0 : Ty.D tref02Reader) : Option (Sg.Out ref12_ReadList.sg) := Sg.fn ref12_ReadList.sg (ref12_ReadList.cx k) ref12_ReadList.body ref12_ReadList.rs (a1, o0)
noncomputable def ref12_ReadList.l4 (k : Nat) (n : Nat) (x5 : Ty.D (.int .i64)) (x6 : List (Ty.D tTxn)) (x7 : Ty.D (.int .i64)) (m1000000 : Ty.D tref02Reader) : Option (Sg.Out ref12_ReadList.sg) := loopAt (ref12_ReadList.cx k) ref12_ReadList.body [1, 1, 1, 0, 1, 0] 4 [0, 5, 6, 7] [10, 1000000] [] (Sg.K ref12_ReadList.sg (ref12_ReadList.cx k) ref12_ReadList.rs) n ⟨[(0, .ref 1000000 []), (5, .dat (.int .i64) x5), (6, .own tTxn x6), (7, .dat (.int .i64) x7)], [(1000000, .dat tref02Reader m1000000)]⟩
theorem ref12_ReadList.f_eq (k : Nat) (a1 : Ty.D (.int .i64)) (o0 : Ty.D tref02Reader) : ref12_ReadList.f k a1 o0 = bnd (ref02_Reader_Many.f k a1 o0) fun r0 => ref12_ReadList.l4 k k r0.1 [] 0 r0.2 := by kernel_rfl
theorem ref12_ReadList.l4_eq (k : Nat) (n4 : Nat) (x5 : Ty.D (.int .i64)) (x6 : List (Ty.D tTxn)) (x7 : Ty.D (.int .i64)) (m1000000 : Ty.D tref02Reader) : ref12_ReadList.l4 k (n4 + 1) x5 x6 x7 m1000000 = br (ilt x7 x5) (bnd (ref12_Read.f k m1000000) fun r0 => br (room x6 (r0.1 :: [])) (ref12_ReadList.l4 k n4 x5 (app x6 (r0.1 :: [])) (iadd .i64 x7 1) r0.2) none) (br (ieq m1000000.2.2 0) (bnd (ref12_Rises.f k x6) fun r1 => br (bnot r1) (some ([], (m1000000.1, (m1000000.2.1, 2)))) (br (bnot (ieq m1000000.2.2 0)) (some ([], m1000000)) (some (x6, m1000000)))) (br (bnot (ieq m1000000.2.2 0)) (some ([], m1000000)) (some (x6, m1000000)))) := by kernel_rfl
noncomputable def ref12_ReadList.e (k : Nat) : Entry := Sg.entry ref12_ReadList.sg fun x => ref12_ReadList.f k x.1 x.2
theorem ref12_ReadList.ok (k : Nat) : CallOK Tryz.prog 28 (ref12_ReadList.e k) := fn_ok (c := ref12_ReadList.cx k) (code := ref12_ReadList.body) (TT.of tt_ok pp_ok mm_ok) (fns_ok ⟨(ref02_Reader_Many.ok k), (ref12_Read.ok k), (ref12_Rises.ok k), trivial⟩) mixed Tryz.func28 (by kernel_rfl) (by kernel_rfl) (by kernel_rfl) (by kernel_rfl) (by kernel_rfl) (by kernel_rfl) (fun x => by kernel_rfl)
noncomputable def ref08_one.body : Go.Code := Tryz.f103.body.getD .skip
noncomputable def ref08_one.rs : List Go.ResultVar := Tryz.f103.results.toList
def ref08_one.regs : List (Nat × RInfo) := [(0, ri [1] [1]), (1, ri [2] [5])]
noncomputable def ref08_one.cx (k : Nat) : Cx := ⟨tt, pp, [(77, (ref04_Right.e k))], ref08_one.regs, k, mm⟩
@[reducible] def ref08_one.sg : Sg := ⟨[.dat tUndo], [], .dat .bool, []⟩
noncomputable def ref08_one.f (k : Nat) (a0 : Ty.D tUndo) : Option (Sg.Out ref08_one.sg) := Sg.fn ref08_one.sg (ref08_one.cx k) ref08_one.body ref08_one.rs a0
theorem ref08_one.f_eq (k : Nat) (a0 : Ty.D tUndo) : ref08_one.f k a0 = bnd (ref04_Right.f k a0.1) fun r0 => br r0 (br (ile 1 a0.2) (some (ile a0.2 64)) (some false)) (some false) := by kernel_rfl
noncomputable def ref08_one.e (k : Nat) : Entry := Sg.entry ref08_one.sg fun x => ref08_one.f k x
theorem ref08_one.ok (k : Nat) : CallOK Tryz.prog 103 (ref08_one.e k) := fn_ok (c := ref08_one.cx k) (code := ref08_one.body) (TT.of tt_ok pp_ok mm_ok) (fns_ok ⟨(ref04_Right.ok k), trivial⟩) mixed Tryz.func103 (by kernel_rfl) (by kernel_rfl) (by kernel_rfl) (by kernel_rfl) (by kernel_rfl) (by kernel_rfl) (fun x => by kernel_rfl)
noncomputable def ref08_Right.body : Go.Code := Tryz.f72.body.getD .skip
noncomputable def ref08_Right.rs : List Go.ResultVar := Tryz.f72.results.toList
def ref08_Right.regs : List (Nat × RInfo) := [(0, ri [0] []), (1, ri [0,3] []), (2, ⟨[0, 3, 7], [], [], [], 0, [0, 3], [], [], [], []⟩), (4, rq [0,3,34] [] 25), (5, ri [2] []), (3, ri [0,3] []), (6, ri [2] [])]
noncomputable def ref08_Right.cx (k : Nat) : Cx := ⟨tt, pp, [(103, (ref08_one.e k)), (102, (ref04_Compare.e k))], ref08_Right.regs, k, mm⟩
@[reducible] def ref08_Right.sg : Sg := ⟨[.dat (.slc tUndo)], [], .dat .bool, []⟩
noncomputable def ref08_Right.f (k : Nat) (a0 : Ty.D (.slc tUndo)) : Option (Sg.Out ref08_Right.sg) := Sg.fn ref08_Right.sg (ref08_Right.cx k) ref08_Right.body ref08_Right.rs a0
noncomputable def ref08_Right.l2 (k : Nat) (n : Nat) (x0 : Ty.D (.slc tUndo)) (x3 : Ty.D (.int .i64)) : Option (Sg.Out ref08_Right.sg) := loopAt (ref08_Right.cx k) ref08_Right.body [1, 0, 1, 0] 2 [0, 3] [] [] (Sg.K ref08_Right.sg (ref08_Right.cx k) ref08_Right.rs) n ⟨[(0, .dat (.slc tUndo) x0), (3, .dat (.int .i64) x3)], []⟩
theorem ref08_Right.f_eq (k : Nat) (a0 : Ty.D (.slc tUndo)) : ref08_Right.f k a0 = ref08_Right.l2 k k a0 0 := by kernel_rfl
theorem ref08_Right.l2_eq (k : Nat) (n2 : Nat) (x0 : Ty.D (.slc tUndo)) (x3 : Ty.D (.int .i64)) : ref08_Right.l2 k (n2 + 1) x0 x3 = br (ilt x3 (ilen x0)) (br (inL x3 x0) (bnd (ref08_one.f k (rd tUndo x0 (natOf x3))) fun r0 => br (bnot r0) (some false) (br (ilt 0 x3) (br (inL (isub .i64 x3 1) x0) (br (inL x3 x0) (bnd (ref04_Compare.f k ((rd tUndo x0 (natOf (isub .i64 x3 1))).1) ((rd tUndo x0 (natOf x3)).1)) fun r1 => br (bnot (ieq r1 (-1))) (some false) (ref08_Right.l2 k n2 x0 (iadd .i64 x3 1))) none) none) (ref08_Right.l2 k n2 x0 (iadd .i64 x3 1)))) none) (some true) := by kernel_rfl
noncomputable def ref08_Right.e (k : Nat) : Entry := Sg.entry ref08_Right.sg fun x => ref08_Right.f k x
theorem ref08_Right.ok (k : Nat) : CallOK Tryz.prog 72 (ref08_Right.e k) := fn_ok (c := ref08_Right.cx k) (code := ref08_Right.body) (TT.of tt_ok pp_ok mm_ok) (fns_ok ⟨(ref08_one.ok k), (ref04_Compare.ok k), trivial⟩) mixed Tryz.func72 (by kernel_rfl) (by kernel_rfl) (by kernel_rfl) (by kernel_rfl) (by kernel_rfl) (by kernel_rfl) (fun x => by kernel_rfl)
noncomputable def ref08_Read.body : Go.Code := Tryz.f29.body.getD .skip
noncomputable def ref08_Read.rs : List Go.ResultVar := Tryz.f29.results.toList
def ref08_Read.regs : List (Nat × RInfo) := [(0, ri [0,1] [1000000]), (1, ri [0,5] [11,1000000]), (2, ri [0,5,6] [11,1000000]), (3, ri [0,5,6,7] [11,1000000]), (4, ⟨[0, 5, 6, 7, 14], [11, 1000000], [], [], 0, [0, 5, 6, 7], [11, 1000000], [], [], []⟩), (6, ri [0,5,6,7,8] [8,11,1000000]), (7, ⟨[0, 5, 6, 7], [11, 1000000], [0, 6, 7], [], 7, [], [], [], [[], [], [], [], [1, 3], [1, 3], [1, 3], [1, 3]], []⟩), (5, ri [0,5,6,7] [11,1000000]), (8, ri [0,6,35] [1000000]), (9, ri [0,6] [1000000]), (10, ri [6,43] [1000000]), (11, ri [4] [1000000]), (12, ⟨[4], [1000000], [0, 1], [], 0, [], [], [], [], []⟩)]
noncomputable def ref08_Read.cx (k : Nat) : Cx := ⟨tt, pp, [(67, (ref02_Reader_Many.e k)), (70, (ref04_Read.e k)), (71, (ref02_Reader_Int.e k)), (72, (ref08_Right.e k))], ref08_Read.regs, k, mm⟩
@[reducible] def ref08_Read.sg : Sg := ⟨[.ref, .dat (.int .i64)], [tref02Reader], .own tUndo, [tref02Reader]⟩
noncomputable def ref08_Read.f (k : Nat) (a1 : Ty.D (.int .i64)) (o0 : Ty.D tref02Reader) : Option (Sg.Out ref08_Read.sg) := Sg.fn ref08_Read.sg (ref08_Read.cx k) ref08_Read.body ref08_Read.rs (a1, o0)
noncomputable def ref08_Read.l4 (k : Nat) (n : Nat) (x5 : Ty.D (.int .i64)) (x6 : List (Ty.D tUndo)) (x7 : Ty.D (.int .i64)) (m1000000 : Ty.D tref02Reader) : Option (Sg.Out ref08_Read.sg) := loopAt (ref08_Read.cx k) ref08_Read.body [1, 1, 1, 0, 1, 0] 4 [0, 5, 6, 7] [11, 1000000] [] (Sg.K ref08_Read.sg (ref08_Read.cx k) ref08_Read.rs) n ⟨[(0, .ref 1000000 []), (5, .dat (.int .i64) x5), (6, .own tUndo x6), (7, .dat (.int .i64) x7)], [(1000000, .dat tref02Reader m1000000)]⟩
theorem ref08_Read.f_eq (k : Nat) (a1 : Ty.D (.int .i64)) (o0 : Ty.D tref02Reader) : ref08_Read.f k a1 o0 = bnd (ref02_Reader_Many.f k a1 o0) fun r0 => ref08_Read.l4 k k r0.1 [] 0 r0.2 := by kernel_rfl
theorem ref08_Read.l4_eq (k : Nat) (n4 : Nat) (x5 : Ty.D (.int .i64)) (x6 : List (Ty.D tUndo)) (x7 : Ty.D (.int .i64)) (m1000000 : Ty.D tref02Reader) : ref08_Read.l4 k (n4 + 1) x5 x6 x7 m1000000 = br (ilt x7 x5) (bnd (ref04_Read.f k m1000000) fun r0 => bnd (ref02_Reader_Int.f k r0.2) fun r1 => br (room x6 ((r0.1, r1.1) :: [])) (ref08_Read.l4 k n4 x5 (app x6 ((r0.1, r1.1) :: [])) (iadd .i64 x7 1) r1.2) none) (br (ieq m1000000.2.2 0) (bnd (ref08_Right.f k x6) fun r2 => br (bnot r2) (some ([], (m1000000.1, (m1000000.2.1, 2)))) (br (bnot (ieq m1000000.2.2 0)) (some ([], m1000000)) (some (x6, m1000000)))) (br (bnot (ieq m1000000.2.2 0)) (some ([], m1000000)) (some (x6, m1000000)))) := by kernel_rfl
noncomputable def ref08_Read.e (k : Nat) : Entry := Sg.entry ref08_Read.sg fun x => ref08_Read.f k x.1 x.2
theorem ref08_Read.ok (k : Nat) : CallOK Tryz.prog 29 (ref08_Read.e k) := fn_ok (c := ref08_Read.cx k) (code := ref08_Read.body) (TT.of tt_ok pp_ok mm_ok) (fns_ok ⟨(ref02_Reader_Many.ok k), (ref04_Read.ok k), (ref02_Reader_Int.ok k), (ref08_Right.ok k), trivial⟩) mixed Tryz.func29 (by kernel_rfl) (by kernel_rfl) (by kernel_rfl) (by kernel_rfl) (by kernel_rfl) (by kernel_rfl) (fun x => by kernel_rfl)
noncomputable def ref05_Right.body : Go.Code := Tryz.f104.body.getD .skip
noncomputable def ref05_Right.rs : List Go.ResultVar := Tryz.f104.results.toList
def ref05_Right.regs : List (Nat × RInfo) := [(0, ri [1] [1]), (1, ri [1,3] [1]), (2, ⟨[1, 3, 5], [1], [], [], 0, [1, 3], [1], [], [], []⟩), (4, ri [1,3,17] [1]), (5, ri [2] []), (3, ri [1,3] [1]), (6, ri [2] [])]
noncomputable def ref05_Right.cx (k : Nat) : Cx := ⟨tt, pp, [], ref05_Right.regs, k, mm⟩
@[reducible] def ref05_Right.sg : Sg := ⟨[.dat tVec], [], .dat .bool, []⟩
noncomputable def ref05_Right.f (k : Nat) (a0 : Ty.D tVec) : Option (Sg.Out ref05_Right.sg) := Sg.fn ref05_Right.sg (ref05_Right.cx k) ref05_Right.body ref05_Right.rs a0
noncomputable def ref05_Right.l2 (k : Nat) (n : Nat) (x3 : Ty.D (.int .i64)) (m1 : Ty.D tVec) : Option (Sg.Out ref05_Right.sg) := loopAt (ref05_Right.cx k) ref05_Right.body [1, 0, 1, 0] 2 [1, 3] [1] [] (Sg.K ref05_Right.sg (ref05_Right.cx k) ref05_Right.rs) n ⟨[(1, .ref 1 []), (3, .dat (.int .i64) x3)], [(1, .dat tVec m1)]⟩
theorem ref05_Right.f_eq (k : Nat) (a0 : Ty.D tVec) : ref05_Right.f k a0 = ref05_Right.l2 k k 0 a0 := by kernel_rfl
theorem ref05_Right.l2_eq (k : Nat) (n2 : Nat) (x3 : Ty.D (.int .i64)) (m1 : Ty.D tVec) : ref05_Right.l2 k (n2 + 1) x3 m1 = br (ilt x3 16) (br (inB x3 16) (br (ilt (rd (.int .i64) m1 (natOf x3)) 0) (some false) (br (inB x3 16) (br (ilt 1048576 (rd (.int .i64) m1 (natOf x3))) (some false) (ref05_Right.l2 k n2 (iadd .i64 x3 1) m1)) none)) none) (some true) := by kernel_rfl
noncomputable def ref05_Right.e (k : Nat) : Entry := Sg.entry ref05_Right.sg fun x => ref05_Right.f k x
theorem ref05_Right.ok (k : Nat) : CallOK Tryz.prog 104 (ref05_Right.e k) := fn_ok (c := ref05_Right.cx k) (code := ref05_Right.body) (TT.of tt_ok pp_ok mm_ok) (fns_ok trivial) mixed Tryz.func104 (by kernel_rfl) (by kernel_rfl) (by kernel_rfl) (by kernel_rfl) (by kernel_rfl) (by kernel_rfl) (fun x => by kernel_rfl)
noncomputable def ref05_Read.body : Go.Code := Tryz.f73.body.getD .skip
noncomputable def ref05_Read.rs : List Go.ResultVar := Tryz.f73.results.toList
def ref05_Read.regs : List (Nat × RInfo) := [(0, ri [0,2] [2,1000000]), (1, ri [0,2,3] [2,3,1000000]), (2, ri [0,2,3,4] [2,3,1000000]), (3, ⟨[0, 2, 3, 4, 7], [2, 3, 1000000], [], [], 0, [0, 2, 3, 4], [2, 3, 1000000], [], [], []⟩), (5, ri [0,2,3,4] [2,3,1000000]), (4, ri [0,2,3,4] [2,3,1000000]), (6, ri [0,2,3,23] [2,3,1000000]), (7, ri [0,2,3] [2,3,1000000]), (8, ri [2,3,31] [2,3,1000000]), (9, ri [2] [2,1000000]), (10, ri [2] [2,1000000])]
noncomputable def ref05_Read.cx (k : Nat) : Cx := ⟨tt, pp, [(71, (ref02_Reader_Int.e k)), (104, (ref05_Right.e k))], ref05_Read.regs, k, mm⟩
@[reducible] def ref05_Read.sg : Sg := ⟨[.ref], [tref02Reader], .dat tVec, [tref02Reader]⟩
noncomputable def ref05_Read.f (k : Nat) (o0 : Ty.D tref02Reader) : Option (Sg.Out ref05_Read.sg) := Sg.fn ref05_Read.sg (ref05_Read.cx k) ref05_Read.body ref05_Read.rs o0
noncomputable def ref05_Read.l3 (k : Nat) (n : Nat) (x4 : Ty.D (.int .i64)) (m2 : Ty.D tVec) (m3 : Ty.D tVec) (m1000000 : Ty.D tref02Reader) : Option (Sg.Out ref05_Read.sg) := loopAt (ref05_Read.cx k) ref05_Read.body [1, 1, 0, 1, 0] 3 [0, 2, 3, 4] [2, 3, 1000000] [] (Sg.K ref05_Read.sg (ref05_Read.cx k) ref05_Read.rs) n ⟨[(0, .ref 1000000 []), (2, .ref 2 []), (3, .ref 3 []), (4, .dat (.int .i64) x4)], [(2, .dat tVec m2), (3, .dat tVec m3), (1000000, .dat tref02Reader m1000000)]⟩
theorem ref05_Read.f_eq (k : Nat) (o0 : Ty.D tref02Reader) : ref05_Read.f k o0 = ref05_Read.l3 k k 0 (zarr 16 0) (zarr 16 0) o0 := by kernel_rfl
theorem ref05_Read.l3_eq (k : Nat) (n3 : Nat) (x4 : Ty.D (.int .i64)) (m2 : Ty.D tVec) (m3 : Ty.D tVec) (m1000000 : Ty.D tref02Reader) : ref05_Read.l3 k (n3 + 1) x4 m2 m3 m1000000 = br (ilt x4 16) (bnd (ref02_Reader_Int.f k m1000000) fun r0 => br (inB x4 16) (ref05_Read.l3 k n3 (iadd .i64 x4 1) m2 (upd m3 (natOf x4) r0.1) r0.2) none) (br (ieq m1000000.2.2 0) (bnd (ref05_Right.f k m3) fun r1 => br (bnot r1) (some ((zarr 16 0), (m1000000.1, (m1000000.2.1, 2)))) (br (bnot (ieq m1000000.2.2 0)) (some ((zarr 16 0), m1000000)) (some (m3, m1000000)))) (br (bnot (ieq m1000000.2.2 0)) (some ((zarr 16 0), m1000000)) (some (m3, m1000000)))) := by kernel_rfl
noncomputable def ref05_Read.e (k : Nat) : Entry := Sg.entry ref05_Read.sg fun x => ref05_Read.f k x
theorem ref05_Read.ok (k : Nat) : CallOK Tryz.prog 73 (ref05_Read.e k) := fn_ok (c := ref05_Read.cx k) (code := ref05_Read.body) (TT.of tt_ok pp_ok mm_ok) (fns_ok ⟨(ref02_Reader_Int.ok k), (ref05_Right.ok k), trivial⟩) mixed Tryz.func73 (by kernel_rfl) (by kernel_rfl) (by kernel_rfl) (by kernel_rfl) (by kernel_rfl) (by kernel_rfl) (fun x => by kernel_rfl)
noncomputable def ref06_ReadList.body : Go.Code := Tryz.f31.body.getD .skip
noncomputable def ref06_ReadList.rs : List Go.ResultVar := Tryz.f31.results.toList
def ref06_ReadList.regs : List (Nat × RInfo) := [(0, ri [0,1] [1000000]), (1, ri [0,5] [10,1000000]), (2, ri [0,5,6] [10,1000000]), (3, ri [0,5,6,7] [10,1000000]), (4, ⟨[0, 5, 6, 7, 13], [10, 1000000], [], [], 0, [0, 5, 6, 7], [10, 1000000], [], [], []⟩), (6, ⟨[0, 5, 6, 7], [10, 1000000], [0, 4, 5], [], 0, [], [], [], [], []⟩), (5, ri [0,5,6,7] [10,1000000]), (7, ri [6,25] [1000000]), (8, ri [4] [1000000]), (9, ⟨[4], [1000000], [0, 1], [], 0, [], [], [], [], []⟩)]
noncomputable def ref06_ReadList.cx (k : Nat) : Cx := ⟨tt, pp, [(67, (ref02_Reader_Many.e k)), (70, (ref04_Read.e k))], ref06_ReadList.regs, k, mm⟩
@[reducible] def ref06_ReadList.sg : Sg := ⟨[.ref, .dat (.int .i64)], [tref02Reader], .own tDot, [tref02Reader]⟩
noncomputable def ref06_ReadList.f (k : Nat) (a1 : Ty.D (.int .i64)) (o0 : Ty.D tref02Reader) : Option (Sg.Out ref06_ReadList.sg) := Sg.fn ref06_ReadList.sg (ref06_ReadList.cx k) ref06_ReadList.body ref06_ReadList.rs (a1, o0)
noncomputable def ref06_ReadList.l4 (k : Nat) (n : Nat) (x5 : Ty.D (.int .i64)) (x6 : List (Ty.D tDot)) (x7 : Ty.D (.int .i64)) (m1000000 : Ty.D tref02Reader) : Option (Sg.Out ref06_ReadList.sg) := loopAt (ref06_ReadList.cx k) ref06_ReadList.body [1, 1, 1, 0, 1, 0] 4 [0, 5, 6, 7] [10, 1000000] [] (Sg.K ref06_ReadList.sg (ref06_ReadList.cx k) ref06_ReadList.rs) n ⟨[(0, .ref 1000000 []), (5, .dat (.int .i64) x5), (6, .own tDot x6), (7, .dat (.int .i64) x7)], [(1000000, .dat tref02Reader m1000000)]⟩
theorem ref06_ReadList.f_eq (k : Nat) (a1 : Ty.D (.int .i64)) (o0 : Ty.D tref02Reader) : ref06_ReadList.f k a1 o0 = bnd (ref02_Reader_Many.f k a1 o0) fun r0 => ref06_ReadList.l4 k k r0.1 [] 0 r0.2 := by kernel_rfl
theorem ref06_ReadList.l4_eq (k : Nat) (n4 : Nat) (x5 : Ty.D (.int .i64)) (x6 : List (Ty.D tDot)) (x7 : Ty.D (.int .i64)) (m1000000 : Ty.D tref02Reader) : ref06_ReadList.l4 k (n4 + 1) x5 x6 x7 m1000000 = br (ilt x7 x5) (bnd (ref04_Read.f k m1000000) fun r0 => br (room x6 (r0.1 :: [])) (ref06_ReadList.l4 k n4 x5 (app x6 (r0.1 :: [])) (iadd .i64 x7 1) r0.2) none) (br (bnot (ieq m1000000.2.2 0)) (some ([], m1000000)) (some (x6, m1000000))) := by kernel_rfl
noncomputable def ref06_ReadList.e (k : Nat) : Entry := Sg.entry ref06_ReadList.sg fun x => ref06_ReadList.f k x.1 x.2
theorem ref06_ReadList.ok (k : Nat) : CallOK Tryz.prog 31 (ref06_ReadList.e k) := fn_ok (c := ref06_ReadList.cx k) (code := ref06_ReadList.body) (TT.of tt_ok pp_ok mm_ok) (fns_ok ⟨(ref02_Reader_Many.ok k), (ref04_Read.ok k), trivial⟩) mixed Tryz.func31 (by kernel_rfl) (by kernel_rfl) (by kernel_rfl) (by kernel_rfl) (by kernel_rfl) (by kernel_rfl) (fun x => by kernel_rfl)
noncomputable def ref06_Right.body : Go.Code := Tryz.f74.body.getD .skip
noncomputable def ref06_Right.rs : List Go.ResultVar := Tryz.f74.results.toList
def ref06_Right.regs : List (Nat × RInfo) := [(0, ⟨[1], [1], [0], [], 0, [], [], [], [], []⟩), (1, ri [1,14] [1]), (2, ri [2] []), (3, ri [1,3] [1]), (4, ⟨[1, 3, 19], [1], [], [], 0, [1, 3], [1], [], [], []⟩), (6, ri [1,3,4] [1,4]), (7, rq [1,3,4,40] [1,4] 14), (8, ri [2] []), (9, rq [1,3,53] [1] 13), (10, ri [2] []), (5, ri [1,3] [1]), (11, ri [2] [])]
noncomputable def ref06_Right.cx (k : Nat) : Cx := ⟨tt, pp, [(104, (ref05_Right.e k)), (77, (ref04_Right.e k)), (102, (ref04_Compare.e k))], ref06_Right.regs, k, mm⟩
@[reducible] def ref06_Right.sg : Sg := ⟨[.dat tDots], [], .dat .bool, []⟩
noncomputable def ref06_Right.f (k : Nat) (a0 : Ty.D tDots) : Option (Sg.Out ref06_Right.sg) := Sg.fn ref06_Right.sg (ref06_Right.cx k) ref06_Right.body ref06_Right.rs a0
noncomputable def ref06_Right.l4 (k : Nat) (n : Nat) (x3 : Ty.D (.int .i64)) (m1 : Ty.D tDots) : Option (Sg.Out ref06_Right.sg) := loopAt (ref06_Right.cx k) ref06_Right.body [1, 1, 0, 1, 0] 4 [1, 3] [1] [] (Sg.K ref06_Right.sg (ref06_Right.cx k) ref06_Right.rs) n ⟨[(1, .ref 1 []), (3, .dat (.int .i64) x3)], [(1, .dat tDots m1)]⟩
theorem ref06_Right.f_eq (k : Nat) (a0 : Ty.D tDots) : ref06_Right.f k a0 = bnd (ref05_Right.f k a0.1) fun r0 => br (bnot r0) (some false) (br (ilt 4096 (ilen a0.2)) (some false) (ref06_Right.l4 k k 0 a0)) := by kernel_rfl
theorem ref06_Right.l4_eq (k : Nat) (n4 : Nat) (x3 : Ty.D (.int .i64)) (m1 : Ty.D tDots) : ref06_Right.l4 k (n4 + 1) x3 m1 = br (ilt x3 (ilen m1.2)) (br (inL x3 m1.2) (bnd (ref04_Right.f k (rd tDot m1.2 (natOf x3))) fun r0 => br (bnot r0) (some false) (br (inB ((rd tDot m1.2 (natOf x3)).1) 16) (br (ile (isub .i64 ((rd tDot m1.2 (natOf x3)).2) 1) (rd (.int .i64) m1.1 (natOf ((rd tDot m1.2 (natOf x3)).1)))) (some false) (br (ilt 0 x3) (br (inL (isub .i64 x3 1) m1.2) (bnd (ref04_Compare.f k (rd tDot m1.2 (natOf (isub .i64 x3 1))) (rd tDot m1.2 (natOf x3))) fun r1 => br (bnot (ieq r1 (-1))) (some false) (ref06_Right.l4 k n4 (iadd .i64 x3 1) m1)) none) (ref06_Right.l4 k n4 (iadd .i64 x3 1) m1))) none)) none) (some true) := by kernel_rfl
noncomputable def ref06_Right.e (k : Nat) : Entry := Sg.entry ref06_Right.sg fun x => ref06_Right.f k x
theorem ref06_Right.ok (k : Nat) : CallOK Tryz.prog 74 (ref06_Right.e k) := fn_ok (c := ref06_Right.cx k) (code := ref06_Right.body) (TT.of tt_ok pp_ok mm_ok) (fns_ok ⟨(ref05_Right.ok k), (ref04_Right.ok k), (ref04_Compare.ok k), trivial⟩) mixed Tryz.func74 (by kernel_rfl) (by kernel_rfl) (by kernel_rfl) (by kernel_rfl) (by kernel_rfl) (by kernel_rfl) (fun x => by kernel_rfl)
noncomputable def ref06_Read.body : Go.Code := Tryz.f30.body.getD .skip
noncomputable def ref06_Read.rs : List Go.ResultVar := Tryz.f30.results.toList
def ref06_Read.regs : List (Nat × RInfo) := [(0, ri [0,2] [2,1000000]), (1, ⟨[0, 2, 3], [2, 3, 1000000], [2], [], 0, [], [], [], [], []⟩), (2, ri [0,2,3] [2,3,1000000]), (3, ⟨[0, 2, 3], [2, 3, 1000000], [3], [], 0, [], [], [], [], []⟩), (4, ri [0,2,3,20] [2,3,1000000]), (5, ri [0,2,3] [2,3,1000000]), (6, ri [2,3,28] [2,3,1000000]), (7, ⟨[2], [2, 1000000], [1], [], 0, [], [], [], [], []⟩), (8, ⟨[2], [2, 1000000], [1], [], 0, [], [], [], [], []⟩)]
noncomputable def ref06_Read.cx (k : Nat) : Cx := ⟨tt, pp, [(73, (ref05_Read.e k)), (31, (ref06_ReadList.e k)), (74, (ref06_Right.e k))], ref06_Read.regs, k, mm⟩
@[reducible] def ref06_Read.sg : Sg := ⟨[.ref], [tref02Reader], .dat tDots, [tref02Reader]⟩
noncomputable def ref06_Read.f (k : Nat) (o0 : Ty.D tref02Reader) : Option (Sg.Out ref06_Read.sg) := Sg.fn ref06_Read.sg (ref06_Read.cx k) ref06_Read.body ref06_Read.rs o0
theorem ref06_Read.f_eq (k : Nat) (o0 : Ty.D tref02Reader) : ref06_Read.f k o0 = bnd (ref05_Read.f k o0) fun r0 => bnd (ref06_ReadList.f k 4096 r0.2) fun r1 => br (ieq r1.2.2.2 0) (bnd (ref06_Right.f k (r0.1, r1.1)) fun r2 => br (bnot r2) (some (((zarr 16 0), []), (r1.2.1, (r1.2.2.1, 2)))) (br (bnot (ieq r1.2.2.2 0)) (some (((zarr 16 0), []), r1.2)) (some ((r0.1, r1.1), r1.2)))) (br (bnot (ieq r1.2.2.2 0)) (some (((zarr 16 0), []), r1.2)) (some ((r0.1, r1.1), r1.2))) := by kernel_rfl
noncomputable def ref06_Read.e (k : Nat) : Entry := Sg.entry ref06_Read.sg fun x => ref06_Read.f k x
theorem ref06_Read.ok (k : Nat) : CallOK Tryz.prog 30 (ref06_Read.e k) := fn_ok (c := ref06_Read.cx k) (code := ref06_Read.body) (TT.of tt_ok pp_ok mm_ok) (fns_ok ⟨(ref05_Read.ok k), (ref06_ReadList.ok k), (ref06_Right.ok k), trivial⟩) mixed Tryz.func30 (by kernel_rfl) (by kernel_rfl) (by kernel_rfl) (by kernel_rfl) (by kernel_rfl) (by kernel_rfl) (fun x => by kernel_rfl)
noncomputable def ref05_Has.body : Go.Code := Tryz.f147.body.getD .skip
noncomputable def ref05_Has.rs : List Go.ResultVar := Tryz.f147.results.toList
def ref05_Has.regs : List (Nat × RInfo) := [(0, ri [2,3] [2,3]), (1, rq [4] [6] 11)]
noncomputable def ref05_Has.cx (k : Nat) : Cx := ⟨tt, pp, [(77, (ref04_Right.e k))], ref05_Has.regs, k, mm⟩
@[reducible] def ref05_Has.sg : Sg := ⟨[.dat tVec, .dat tDot], [], .dat .bool, []⟩
noncomputable def ref05_Has.f (k : Nat) (a0 : Ty.D tVec) (a1 : Ty.D tDot) : Option (Sg.Out ref05_Has.sg) := Sg.fn ref05_Has.sg (ref05_Has.cx k) ref05_Has.body ref05_Has.rs (a0, a1)
theorem ref05_Has.f_eq (k : Nat) (a0 : Ty.D tVec) (a1 : Ty.D tDot) : ref05_Has.f k a0 a1 = bnd (ref04_Right.f k a1) fun r0 => br r0 (br (inB a1.1 16) (some (ile a1.2 (rd (.int .i64) a0 (natOf a1.1)))) none) (some false) := by kernel_rfl
noncomputable def ref05_Has.e (k : Nat) : Entry := Sg.entry ref05_Has.sg fun x => ref05_Has.f k x.1 x.2
theorem ref05_Has.ok (k : Nat) : CallOK Tryz.prog 147 (ref05_Has.e k) := fn_ok (c := ref05_Has.cx k) (code := ref05_Has.body) (TT.of tt_ok pp_ok mm_ok) (fns_ok ⟨(ref04_Right.ok k), trivial⟩) mixed Tryz.func147 (by kernel_rfl) (by kernel_rfl) (by kernel_rfl) (by kernel_rfl) (by kernel_rfl) (by kernel_rfl) (fun x => by kernel_rfl)
noncomputable def ref06_Has.body : Go.Code := Tryz.f105.body.getD .skip
noncomputable def ref06_Has.rs : List Go.ResultVar := Tryz.f105.results.toList
def ref06_Has.regs : List (Nat × RInfo) := [(0, ⟨[2, 3], [2, 3], [0], [], 0, [], [], [], [], []⟩), (1, ri [2,3,9] [2,3,9]), (2, ri [4] []), (3, ri [2,3,5] [2,3]), (4, ⟨[2, 3, 5, 14], [2, 3], [], [], 0, [2, 3, 5], [2, 3], [], [], []⟩), (6, rq [2,3,5,23] [2,3] 7), (7, ri [4] []), (5, ri [2,3,5] [2,3]), (8, ri [4] [])]
noncomputable def ref06_Has.cx (k : Nat) : Cx := ⟨tt, pp, [(147, (ref05_Has.e k))], ref06_Has.regs, k, mm⟩
@[reducible] def ref06_Has.sg : Sg := ⟨[.dat tDots, .dat tDot], [], .dat .bool, []⟩
noncomputable def ref06_Has.f (k : Nat) (a0 : Ty.D tDots) (a1 : Ty.D tDot) : Option (Sg.Out ref06_Has.sg) := Sg.fn ref06_Has.sg (ref06_Has.cx k) ref06_Has.body ref06_Has.rs (a0, a1)
noncomputable def ref06_Has.l4 (k : Nat) (n : Nat) (x5 : Ty.D (.int .i64)) (m2 : Ty.D tDots) (m3 : Ty.D tDot) : Option (Sg.Out ref06_Has.sg) := loopAt (ref06_Has.cx k) ref06_Has.body [1, 1, 0, 1, 0] 4 [2, 3, 5] [2, 3] [] (Sg.K ref06_Has.sg (ref06_Has.cx k) ref06_Has.rs) n ⟨[(2, .ref 2 []), (3, .ref 3 []), (5, .dat (.int .i64) x5)], [(2, .dat tDots m2), (3, .dat tDot m3)]⟩
theorem ref06_Has.f_eq (k : Nat) (a0 : Ty.D tDots) (a1 : Ty.D tDot) : ref06_Has.f k a0 a1 = bnd (ref05_Has.f k a0.1 a1) fun r0 => br r0 (some true) (ref06_Has.l4 k k 0 a0 a1) := by kernel_rfl
theorem ref06_Has.l4_eq (k : Nat) (n4 : Nat) (x5 : Ty.D (.int .i64)) (m2 : Ty.D tDots) (m3 : Ty.D tDot) : ref06_Has.l4 k (n4 + 1) x5 m2 m3 = br (ilt x5 (ilen m2.2)) (br (inL x5 m2.2) (br (deq tDot (rd tDot m2.2 (natOf x5)) m3) (some true) (ref06_Has.l4 k n4 (iadd .i64 x5 1) m2 m3)) none) (some false) := by kernel_rfl
noncomputable def ref06_Has.e (k : Nat) : Entry := Sg.entry ref06_Has.sg fun x => ref06_Has.f k x.1 x.2
theorem ref06_Has.ok (k : Nat) : CallOK Tryz.prog 105 (ref06_Has.e k) := fn_ok (c := ref06_Has.cx k) (code := ref06_Has.body) (TT.of tt_ok pp_ok mm_ok) (fns_ok ⟨(ref05_Has.ok k), trivial⟩) mixed Tryz.func105 (by kernel_rfl) (by kernel_rfl) (by kernel_rfl) (by kernel_rfl) (by kernel_rfl) (by kernel_rfl) (fun x => by kernel_rfl)
noncomputable def ref06_filled.body : Go.Code := Tryz.f106.body.getD .skip
noncomputable def ref06_filled.rs : List Go.ResultVar := Tryz.f106.results.toList
def ref06_filled.regs : List (Nat × RInfo) := [(0, ⟨[1, 2], [1, 2], [0], [], 0, [], [], [], [], []⟩), (1, ⟨[1, 2, 3], [1, 2, 3], [4], [], 0, [], [], [], [], []⟩), (2, ri [1,2,3,4] [1,2,3]), (3, ⟨[1, 2, 3, 4, 13], [1, 2, 3], [], [], 0, [1, 2, 3, 4], [1, 2, 3], [], [], []⟩), (5, ri [1,2,3,4,5] [1,2,3,5]), (6, rq [1,2,3,4,5,29] [1,2,3,5] 9), (7, ri [1,2,3,4] [1,2,3]), (8, rq [1,2,3,4,5,43] [1,2,3,5] 8), (9, ⟨[1, 2, 3, 4], [1, 2, 3], [1, 4, 6], [], 0, [], [], [], [], []⟩), (4, ri [1,2,3,4] [1,2,3]), (10, ⟨[2], [2], [1], [], 0, [], [], [], [], []⟩)]
noncomputable def ref06_filled.cx (k : Nat) : Cx := ⟨tt, pp, [], ref06_filled.regs, k, mm⟩
@[reducible] def ref06_filled.sg : Sg := ⟨[.dat tDots], [], .dat tDots, []⟩
noncomputable def ref06_filled.f (k : Nat) (a0 : Ty.D tDots) : Option (Sg.Out ref06_filled.sg) := Sg.fn ref06_filled.sg (ref06_filled.cx k) ref06_filled.body ref06_filled.rs a0
noncomputable def ref06_filled.l3 (k : Nat) (n : Nat) (x4 : Ty.D (.int .i64)) (m1 : Ty.D tDots) (m2a : Ty.D tVec) (m2b : List (Ty.D tDot)) (m3a : Ty.D tVec) (m3b : List (Ty.D tDot)) : Option (Sg.Out ref06_filled.sg) := loopAt (ref06_filled.cx k) ref06_filled.body [1, 1, 0, 1, 0] 3 [1, 2, 3, 4] [1, 2, 3] [] (Sg.K ref06_filled.sg (ref06_filled.cx k) ref06_filled.rs) n ⟨[(1, .ref 1 []), (2, .ref 2 []), (3, .ref 3 []), (4, .dat (.int .i64) x4)], [(1, .dat tDots m1), (2, .pr (.dat tVec m2a) (.own tDot m2b)), (3, .pr (.dat tVec m3a) (.own tDot m3b))]⟩
theorem ref06_filled.f_eq (k : Nat) (a0 : Ty.D tDots) : ref06_filled.f k a0 = ref06_filled.l3 k k 0 a0 (zarr 16 0) [] a0.1 [] := by kernel_rfl
theorem ref06_filled.l3_eq (k : Nat) (n3 : Nat) (x4 : Ty.D (.int .i64)) (m1 : Ty.D tDots) (m2a : Ty.D tVec) (m2b : List (Ty.D tDot)) (m3a : Ty.D tVec) (m3b : List (Ty.D tDot)) : ref06_filled.l3 k (n3 + 1) x4 m1 m2a m2b m3a m3b = br (ilt x4 (ilen m1.2)) (br (inL x4 m1.2) (br (inB ((rd tDot m1.2 (natOf x4)).1) 16) (br (ieq ((rd tDot m1.2 (natOf x4)).2) (iadd .i64 (rd (.int .i64) m3a (natOf ((rd tDot m1.2 (natOf x4)).1))) 1)) (br (inB ((rd tDot m1.2 (natOf x4)).1) 16) (ref06_filled.l3 k n3 (iadd .i64 x4 1) m1 m2a m2b (upd m3a (natOf ((rd tDot m1.2 (natOf x4)).1)) ((rd tDot m1.2 (natOf x4)).2)) m3b) none) (br (inB ((rd tDot m1.2 (natOf x4)).1) 16) (br (ilt (rd (.int .i64) m3a (natOf ((rd tDot m1.2 (natOf x4)).1))) ((rd tDot m1.2 (natOf x4)).2)) (br (room m3b ((rd tDot m1.2 (natOf x4)) :: [])) (ref06_filled.l3 k n3 (iadd .i64 x4 1) m1 m2a m2b m3a (app m3b ((rd tDot m1.2 (natOf x4)) :: []))) none) (ref06_filled.l3 k n3 (iadd .i64 x4 1) m1 m2a m2b m3a m3b)) none)) none) none) (some (m3a, m3b)) := by kernel_rfl
noncomputable def ref06_filled.e (k : Nat) : Entry := Sg.entry ref06_filled.sg fun x => ref06_filled.f k x
theorem ref06_filled.ok (k : Nat) : CallOK Tryz.prog 106 (ref06_filled.e k) := fn_ok (c := ref06_filled.cx k) (code := ref06_filled.body) (TT.of tt_ok pp_ok mm_ok) (fns_ok trivial) mixed Tryz.func106 (by kernel_rfl) (by kernel_rfl) (by kernel_rfl) (by kernel_rfl) (by kernel_rfl) (by kernel_rfl) (fun x => by kernel_rfl)
noncomputable def ref06_Put.body : Go.Code := Tryz.f75.body.getD .skip
noncomputable def ref06_Put.rs : List Go.ResultVar := Tryz.f75.results.toList
def ref06_Put.regs : List (Nat × RInfo) := [(0, ⟨[2, 3, 4], [2, 3, 4], [0], [], 0, [], [], [], [], []⟩), (1, ri [2,3,4,15] [2,3,4,14]), (2, ⟨[4], [4], [1], [], 0, [], [], [], [], []⟩), (3, ri [2,3,4,5] [2,3,4]), (4, ri [2,3,4,5,6] [2,3,4]), (5, ri [2,3,4,5,6,7] [2,3,4]), (6, ⟨[2, 3, 4, 5, 6, 7, 21], [2, 3, 4], [], [], 0, [2, 3, 4, 5, 6, 7], [2, 3, 4], [], [], []⟩), (8, rq [2,3,4,5,6,7,35] [2,3,4] 12), (9, ⟨[2, 3, 4, 5, 7], [2, 3, 4], [0, 3, 4], [], 0, [], [], [], [], []⟩), (10, ri [2,3,4,5,6,7] [2,3,4]), (11, ⟨[2, 3, 4, 5, 6, 7], [2, 3, 4], [0, 7, 8], [], 0, [], [], [], [], []⟩), (7, ri [2,3,4,5,6,7] [2,3,4]), (12, ri [2,3,4,5,49] [2,3,4]), (13, ⟨[2, 4, 5], [2, 4], [0, 3, 4], [], 0, [], [], [], [], []⟩), (14, ⟨[4], [4], [5], [], 0, [], [], [], [], []⟩)]
noncomputable def ref06_Put.cx (k : Nat) : Cx := ⟨tt, pp, [(77, (ref04_Right.e k)), (105, (ref06_Has.e k)), (102, (ref04_Compare.e k)), (106, (ref06_filled.e k))], ref06_Put.regs, k, mm⟩
@[reducible] def ref06_Put.sg : Sg := ⟨[.dat tDots, .dat tDot], [], .dat tDots, []⟩
noncomputable def ref06_Put.f (k : Nat) (a0 : Ty.D tDots) (a1 : Ty.D tDot) : Option (Sg.Out ref06_Put.sg) := Sg.fn ref06_Put.sg (ref06_Put.cx k) ref06_Put.body ref06_Put.rs (a0, a1)
noncomputable def ref06_Put.l6 (k : Nat) (n : Nat) (x5 : List (Ty.D tDot)) (x6 : Ty.D .bool) (x7 : Ty.D (.int .i64)) (m2 : Ty.D tDots) (m3 : Ty.D tDot) (m4a : Ty.D tVec) (m4b : List (Ty.D tDot)) : Option (Sg.Out ref06_Put.sg) := loopAt (ref06_Put.cx k) ref06_Put.body [1, 1, 1, 1, 0, 1, 0] 6 [2, 3, 4, 5, 6, 7] [2, 3, 4] [] (Sg.K ref06_Put.sg (ref06_Put.cx k) ref06_Put.rs) n ⟨[(2, .ref 2 []), (3, .ref 3 []), (4, .ref 4 []), (5, .own tDot x5), (6, .dat .bool x6), (7, .dat (.int .i64) x7)], [(2, .dat tDots m2), (3, .dat tDot m3), (4, .pr (.dat tVec m4a) (.own tDot m4b))]⟩
theorem ref06_Put.f_eq (k : Nat) (a0 : Ty.D tDots) (a1 : Ty.D tDot) : ref06_Put.f k a0 a1 = bnd (ref04_Right.f k a1) fun r0 => br (bnot r0) (some a0) (bnd (ref06_Has.f k a0 a1) fun r1 => br r1 (some a0) (ref06_Put.l6 k k [] false 0 a0 a1 (zarr 16 0) [])) := by kernel_rfl
theorem ref06_Put.l6_eq (k : Nat) (n6 : Nat) (x5 : List (Ty.D tDot)) (x6 : Ty.D .bool) (x7 : Ty.D (.int .i64)) (m2 : Ty.D tDots) (m3 : Ty.D tDot) (m4a : Ty.D tVec) (m4b : List (Ty.D tDot)) : ref06_Put.l6 k (n6 + 1) x5 x6 x7 m2 m3 m4a m4b = br (ilt x7 (ilen m2.2)) (br (bnot x6) (br (inL x7 m2.2) (bnd (ref04_Compare.f k m3 (rd tDot m2.2 (natOf x7))) fun r0 => br (ilt r0 0) (br (room x5 (m3 :: [])) (br (inL x7 m2.2) (br (room (app x5 (m3 :: [])) ((rd tDot m2.2 (natOf x7)) :: [])) (ref06_Put.l6 k n6 (app (app x5 (m3 :: [])) ((rd tDot m2.2 (natOf x7)) :: [])) true (iadd .i64 x7 1) m2 m3 m4a m4b) none) none) none) (br (inL x7 m2.2) (br (room x5 ((rd tDot m2.2 (natOf x7)) :: [])) (ref06_Put.l6 k n6 (app x5 ((rd tDot m2.2 (natOf x7)) :: [])) x6 (iadd .i64 x7 1) m2 m3 m4a m4b) none) none)) none) (br (inL x7 m2.2) (br (room x5 ((rd tDot m2.2 (natOf x7)) :: [])) (ref06_Put.l6 k n6 (app x5 ((rd tDot m2.2 (natOf x7)) :: [])) x6 (iadd .i64 x7 1) m2 m3 m4a m4b) none) none)) (br (bnot x6) (br (room x5 (m3 :: [])) (bnd (ref06_filled.f k (m2.1, (app x5 (m3 :: [])))) fun r1 => some r1) none) (bnd (ref06_filled.f k (m2.1, x5)) fun r2 => some r2)) := by kernel_rfl
noncomputable def ref06_Put.e (k : Nat) : Entry := Sg.entry ref06_Put.sg fun x => ref06_Put.f k x.1 x.2
theorem ref06_Put.ok (k : Nat) : CallOK Tryz.prog 75 (ref06_Put.e k) := fn_ok (c := ref06_Put.cx k) (code := ref06_Put.body) (TT.of tt_ok pp_ok mm_ok) (fns_ok ⟨(ref04_Right.ok k), (ref06_Has.ok k), (ref04_Compare.ok k), (ref06_filled.ok k), trivial⟩) mixed Tryz.func75 (by kernel_rfl) (by kernel_rfl) (by kernel_rfl) (by kernel_rfl) (by kernel_rfl) (by kernel_rfl) (fun x => by kernel_rfl)
noncomputable def ref22_Known.body : Go.Code := Tryz.f32.body.getD .skip
noncomputable def ref22_Known.rs : List Go.ResultVar := Tryz.f32.results.toList
def ref22_Known.regs : List (Nat × RInfo) := [(0, ri [0,2] [2]), (1, ⟨[0, 2, 3], [2, 3], [2], [], 0, [], [], [], [], []⟩), (2, ri [0,2,3,4] [2,3]), (3, ⟨[0, 2, 3, 4, 9], [2, 3], [], [], 0, [0, 2, 10000003, 4], [2, 10000003], [], [], []⟩), (5, ⟨[0, 2, 3, 4], [2, 3], [7], [], 7, [], [], [], [[], [], [], [], [], [], [0, 5], [0, 5]], []⟩), (4, ri [0,2,3,4] [2,3]), (6, ⟨[2], [2], [1], [], 0, [], [], [], [], []⟩)]
noncomputable def ref22_Known.cx (k : Nat) : Cx := ⟨tt, pp, [(75, (ref06_Put.e k))], ref22_Known.regs, k, mm⟩
@[reducible] def ref22_Known.sg : Sg := ⟨[.dat (.slc tTxn)], [], .dat tDots, []⟩
noncomputable def ref22_Known.f (k : Nat) (a0 : Ty.D (.slc tTxn)) : Option (Sg.Out ref22_Known.sg) := Sg.fn ref22_Known.sg (ref22_Known.cx k) ref22_Known.body ref22_Known.rs a0
noncomputable def ref22_Known.l3 (k : Nat) (n : Nat) (x0 : Ty.D (.slc tTxn)) (x4 : Ty.D (.int .i64)) (m2a : Ty.D tVec) (m2b : List (Ty.D tDot)) (m3 : Ty.D tDots) : Option (Sg.Out ref22_Known.sg) := loopAt (ref22_Known.cx k) ref22_Known.body [1, 1, 0, 1, 0] 3 [0, 2, 10000003, 4] [2, 10000003] [] (Sg.K ref22_Known.sg (ref22_Known.cx k) ref22_Known.rs) n ⟨[(0, .dat (.slc tTxn) x0), (2, .ref 2 []), (3, .ref 3 []), (4, .dat (.int .i64) x4)], [(2, .pr (.dat tVec m2a) (.own tDot m2b)), (3, .dat tDots m3)]⟩
theorem ref22_Known.f_eq (k : Nat) (a0 : Ty.D (.slc tTxn)) : ref22_Known.f k a0 = ref22_Known.l3 k k a0 0 (zarr 16 0) [] ((zarr 16 0), []) := by kernel_rfl
theorem ref22_Known.l3_eq (k : Nat) (n3 : Nat) (x0 : Ty.D (.slc tTxn)) (x4 : Ty.D (.int .i64)) (m2a : Ty.D tVec) (m2b : List (Ty.D tDot)) (m3 : Ty.D tDots) : ref22_Known.l3 k (n3 + 1) x0 x4 m2a m2b m3 = br (ilt x4 (ilen x0)) (br (inL x4 x0) (bnd (ref06_Put.f k m3 ((rd tTxn x0 (natOf x4)).1)) fun r0 => ref22_Known.l3 k n3 x0 (iadd .i64 x4 1) m2a m2b r0) none) (some m3) := by kernel_rfl
noncomputable def ref22_Known.e (k : Nat) : Entry := Sg.entry ref22_Known.sg fun x => ref22_Known.f k x
theorem ref22_Known.ok (k : Nat) : CallOK Tryz.prog 32 (ref22_Known.e k) := fn_ok (c := ref22_Known.cx k) (code := ref22_Known.body) (TT.of tt_ok pp_ok mm_ok) (fns_ok ⟨(ref06_Put.ok k), trivial⟩) mixed Tryz.func32 (by kernel_rfl) (by kernel_rfl) (by kernel_rfl) (by kernel_rfl) (by kernel_rfl) (by kernel_rfl) (fun x => by kernel_rfl)
noncomputable def ref04_Same.body : Go.Code := Tryz.f16.body.getD .skip
noncomputable def ref04_Same.rs : List Go.ResultVar := Tryz.f16.results.toList
def ref04_Same.regs : List (Nat × RInfo) := [(0, ri [0,1] []), (1, ri [0,1,10] []), (2, ri [4] []), (3, ri [0,1,5] []), (4, ⟨[0, 1, 5, 14], [], [], [], 0, [0, 1, 5], [], [], [], []⟩), (6, rq [0,1,5,25] [] 9), (7, ri [4] []), (5, ri [0,1,5] []), (8, ri [4] [])]
noncomputable def ref04_Same.cx (k : Nat) : Cx := ⟨tt, pp, [], ref04_Same.regs, k, mm⟩
@[reducible] def ref04_Same.sg : Sg := ⟨[.dat (.slc tDot), .dat (.slc tDot)], [], .dat .bool, []⟩
noncomputable def ref04_Same.f (k : Nat) (a0 : Ty.D (.slc tDot)) (a1 : Ty.D (.slc tDot)) : Option (Sg.Out ref04_Same.sg) := Sg.fn ref04_Same.sg (ref04_Same.cx k) ref04_Same.body ref04_Same.rs (a0, a1)
noncomputable def ref04_Same.l4 (k : Nat) (n : Nat) (x0 : Ty.D (.slc tDot)) (x1 : Ty.D (.slc tDot)) (x5 : Ty.D (.int .i64)) : Option (Sg.Out ref04_Same.sg) := loopAt (ref04_Same.cx k) ref04_Same.body [1, 1, 0, 1, 0] 4 [0, 1, 5] [] [] (Sg.K ref04_Same.sg (ref04_Same.cx k) ref04_Same.rs) n ⟨[(0, .dat (.slc tDot) x0), (1, .dat (.slc tDot) x1), (5, .dat (.int .i64) x5)], []⟩
theorem ref04_Same.f_eq (k : Nat) (a0 : Ty.D (.slc tDot)) (a1 : Ty.D (.slc tDot)) : ref04_Same.f k a0 a1 = br (bnot (ieq (ilen a0) (ilen a1))) (some false) (ref04_Same.l4 k k a0 a1 0) := by kernel_rfl
theorem ref04_Same.l4_eq (k : Nat) (n4 : Nat) (x0 : Ty.D (.slc tDot)) (x1 : Ty.D (.slc tDot)) (x5 : Ty.D (.int .i64)) : ref04_Same.l4 k (n4 + 1) x0 x1 x5 = br (ilt x5 (ilen x0)) (br (inL x5 x0) (br (inL x5 x1) (br (bnot (deq tDot (rd tDot x0 (natOf x5)) (rd tDot x1 (natOf x5)))) (some false) (ref04_Same.l4 k n4 x0 x1 (iadd .i64 x5 1))) none) none) (some true) := by kernel_rfl
noncomputable def ref04_Same.e (k : Nat) : Entry := Sg.entry ref04_Same.sg fun x => ref04_Same.f k x.1 x.2
theorem ref04_Same.ok (k : Nat) : CallOK Tryz.prog 16 (ref04_Same.e k) := fn_ok (c := ref04_Same.cx k) (code := ref04_Same.body) (TT.of tt_ok pp_ok mm_ok) (fns_ok trivial) mixed Tryz.func16 (by kernel_rfl) (by kernel_rfl) (by kernel_rfl) (by kernel_rfl) (by kernel_rfl) (by kernel_rfl) (fun x => by kernel_rfl)
noncomputable def ref06_Same.body : Go.Code := Tryz.f19.body.getD .skip
noncomputable def ref06_Same.rs : List Go.ResultVar := Tryz.f19.results.toList
def ref06_Same.regs : List (Nat × RInfo) := [(0, ⟨[2, 3], [2, 3], [0, 1], [], 0, [], [], [], [], []⟩), (1, ri [4] [15])]
noncomputable def ref06_Same.cx (k : Nat) : Cx := ⟨tt, pp, [(16, (ref04_Same.e k))], ref06_Same.regs, k, mm⟩
@[reducible] def ref06_Same.sg : Sg := ⟨[.dat tDots, .dat tDots], [], .dat .bool, []⟩
noncomputable def ref06_Same.f (k : Nat) (a0 : Ty.D tDots) (a1 : Ty.D tDots) : Option (Sg.Out ref06_Same.sg) := Sg.fn ref06_Same.sg (ref06_Same.cx k) ref06_Same.body ref06_Same.rs (a0, a1)
theorem ref06_Same.f_eq (k : Nat) (a0 : Ty.D tDots) (a1 : Ty.D tDots) : ref06_Same.f k a0 a1 = br (deq tVec a0.1 a1.1) (bnd (ref04_Same.f k a0.2 a1.2) fun r0 => some r0) (some false) := by kernel_rfl
noncomputable def ref06_Same.e (k : Nat) : Entry := Sg.entry ref06_Same.sg fun x => ref06_Same.f k x.1 x.2
theorem ref06_Same.ok (k : Nat) : CallOK Tryz.prog 19 (ref06_Same.e k) := fn_ok (c := ref06_Same.cx k) (code := ref06_Same.body) (TT.of tt_ok pp_ok mm_ok) (fns_ok ⟨(ref04_Same.ok k), trivial⟩) mixed Tryz.func19 (by kernel_rfl) (by kernel_rfl) (by kernel_rfl) (by kernel_rfl) (by kernel_rfl) (by kernel_rfl) (fun x => by kernel_rfl)
noncomputable def ref22_Right.body : Go.Code := Tryz.f33.body.getD .skip
noncomputable def ref22_Right.rs : List Go.ResultVar := Tryz.f33.results.toList
def ref22_Right.regs : List (Nat × RInfo) := [(0, ⟨[1], [1], [0], [], 0, [], [], [], [], []⟩), (1, ri [1,27] [1]), (2, ri [2] [72,79]), (3, ri [1,3] [1]), (4, ⟨[1, 3, 32], [1], [], [], 0, [1, 3], [1], [], [], []⟩), (6, ri [1,3,41] [1]), (7, ri [2] [72,79]), (5, ri [1,3] [1]), (8, ri [1,4] [1]), (9, ⟨[1, 4, 43], [1], [], [], 0, [1, 4], [1], [], [], []⟩), (11, ri [1,4,51] [1]), (12, ri [2] [72,79]), (13, ri [1,4,5] [1]), (14, ⟨[1, 4, 5, 58], [1], [], [], 0, [1, 4, 5], [1], [], [], []⟩), (16, ri [1,4,5,69] [1]), (17, ri [2] [72,79]), (15, ri [1,4,5] [1]), (10, ri [1,4] [1]), (18, rq [2] [72,79] 11)]
noncomputable def ref22_Right.cx (k : Nat) : Cx := ⟨tt, pp, [(69, (ref12_Rises.e k)), (72, (ref08_Right.e k)), (74, (ref06_Right.e k)), (76, (ref12_Check.e k)), (77, (ref04_Right.e k)), (32, (ref22_Known.e k)), (19, (ref06_Same.e k))], ref22_Right.regs, k, mm⟩
@[reducible] def ref22_Right.sg : Sg := ⟨[.dat tState], [], .dat .bool, []⟩
noncomputable def ref22_Right.f (k : Nat) (a0 : Ty.D tState) : Option (Sg.Out ref22_Right.sg) := Sg.fn ref22_Right.sg (ref22_Right.cx k) ref22_Right.body ref22_Right.rs a0
noncomputable def ref22_Right.l4 (k : Nat) (n : Nat) (x3 : Ty.D (.int .i64)) (m1 : Ty.D tState) : Option (Sg.Out ref22_Right.sg) := loopAt (ref22_Right.cx k) ref22_Right.body [1, 1, 0, 1, 0] 4 [1, 3] [1] [] (Sg.K ref22_Right.sg (ref22_Right.cx k) ref22_Right.rs) n ⟨[(1, .ref 1 []), (3, .dat (.int .i64) x3)], [(1, .dat tState m1)]⟩
noncomputable def ref22_Right.l9 (k : Nat) (n : Nat) (x4 : Ty.D (.int .i64)) (m1 : Ty.D tState) : Option (Sg.Out ref22_Right.sg) := loopAt (ref22_Right.cx k) ref22_Right.body [1, 1, 1, 0, 1, 0] 9 [1, 4] [1] [] (Sg.K ref22_Right.sg (ref22_Right.cx k) ref22_Right.rs) n ⟨[(1, .ref 1 []), (4, .dat (.int .i64) x4)], [(1, .dat tState m1)]⟩
noncomputable def ref22_Right.l14 (k : Nat) (n9 : Nat) (n : Nat) (x4 : Ty.D (.int .i64)) (x5 : Ty.D (.int .i64)) (m1 : Ty.D tState) : Option (Sg.Out ref22_Right.sg) := loopAt (ref22_Right.cx k) ref22_Right.body [1, 1, 1, 0, 1, 0, 0, 1, 0, 0, 1, 1, 0] 14 [1, 4, 5] [1] [n9] (Sg.K ref22_Right.sg (ref22_Right.cx k) ref22_Right.rs) n ⟨[(1, .ref 1 []), (4, .dat (.int .i64) x4), (5, .dat (.int .i64) x5)], [(1, .dat tState m1)]⟩
theorem ref22_Right.f_eq (k : Nat) (a0 : Ty.D tState) : ref22_Right.f k a0 = br (ilt 1000 (ilen a0.1)) (some false) (bnd (ref12_Rises.f k a0.1) fun r0 => br (bnot r0) (some false) (bnd (ref08_Right.f k a0.2.1) fun r1 => br (bnot r1) (some false) (bnd (ref06_Right.f k a0.2.2.2.1) fun r2 => br (bnot r2) (some false) (ref22_Right.l4 k k 0 a0)))) := by kernel_rfl
theorem ref22_Right.l4_eq (k : Nat) (n4 : Nat) (x3 : Ty.D (.int .i64)) (m1 : Ty.D tState) : ref22_Right.l4 k (n4 + 1) x3 m1 = br (ilt x3 (ilen m1.1)) (br (inL x3 m1.1) (bnd (ref12_Check.f k (rd tTxn m1.1 (natOf x3))) fun r0 => br (bnot (ieq r0 0)) (some false) (ref22_Right.l4 k n4 (iadd .i64 x3 1) m1)) none) (ref22_Right.l9 k k 0 m1) := by kernel_rfl
theorem ref22_Right.l9_eq (k : Nat) (n9 : Nat) (x4 : Ty.D (.int .i64)) (m1 : Ty.D tState) : ref22_Right.l9 k (n9 + 1) x4 m1 = br (ilt x4 8) (br (inB x4 8) (br (ilt 1000 (ilen (rd (.slc tDot) m1.2.2.2.2 (natOf x4)))) (some false) (ref22_Right.l14 k n9 k x4 0 m1)) none) (bnd (ref06_Right.f k m1.2.2.1) fun r0 => br r0 (bnd (ref22_Known.f k m1.1) fun r1 => bnd (ref06_Same.f k m1.2.2.1 r1) fun r2 => some r2) (some false)) := by kernel_rfl
theorem ref22_Right.l14_eq (k : Nat) (n9 : Nat) (n14 : Nat) (x4 : Ty.D (.int .i64)) (x5 : Ty.D (.int .i64)) (m1 : Ty.D tState) : ref22_Right.l14 k n9 (n14 + 1) x4 x5 m1 = br (inB x4 8) (br (ilt x5 (ilen (rd (.slc tDot) m1.2.2.2.2 (natOf x4)))) (br (inB x4 8) (br (inL x5 (rd (.slc tDot) m1.2.2.2.2 (natOf x4))) (bnd (ref04_Right.f k (rd tDot (rd (.slc tDot) m1.2.2.2.2 (natOf x4)) (natOf x5))) fun r0 => br (bnot r0) (some false) (ref22_Right.l14 k n9 n14 x4 (iadd .i64 x5 1) m1)) none) none) (ref22_Right.l9 k n9 (iadd .i64 x4 1) m1)) none := by kernel_rfl
noncomputable def ref22_Right.e (k : Nat) : Entry := Sg.entry ref22_Right.sg fun x => ref22_Right.f k x
theorem ref22_Right.ok (k : Nat) : CallOK Tryz.prog 33 (ref22_Right.e k) := fn_ok (c := ref22_Right.cx k) (code := ref22_Right.body) (TT.of tt_ok pp_ok mm_ok) (fns_ok ⟨(ref12_Rises.ok k), (ref08_Right.ok k), (ref06_Right.ok k), (ref12_Check.ok k), (ref04_Right.ok k), (ref22_Known.ok k), (ref06_Same.ok k), trivial⟩) mixed Tryz.func33 (by kernel_rfl) (by kernel_rfl) (by kernel_rfl) (by kernel_rfl) (by kernel_rfl) (by kernel_rfl) (fun x => by kernel_rfl)
noncomputable def ref22_Read.body : Go.Code := Tryz.f8.body.getD .skip
noncomputable def ref22_Read.rs : List Go.ResultVar := Tryz.f8.results.toList
def ref22_Read.regs : List (Nat × RInfo) := [(0, ri [0,2] [2,1000000]), (1, ⟨[0, 2, 3], [2, 3, 1000000], [2], [], 0, [], [], [], [], []⟩), (2, ⟨[0, 2, 3], [2, 3, 1000000], [3], [], 0, [], [], [], [], []⟩), (3, ⟨[0, 2, 3], [2, 3, 1000000], [3], [], 0, [], [], [], [], []⟩), (4, ⟨[0, 2, 3], [2, 3, 1000000], [3], [], 0, [], [], [], [], []⟩), (5, ri [0,2,3,4] [2,3,1000000]), (6, ⟨[0, 2, 3, 4, 16], [2, 3, 1000000], [], [], 0, [0, 2, 3, 4], [2, 3, 1000000], [], [], []⟩), (8, ⟨[0, 2, 3, 4], [2, 3, 1000000], [5], [], 0, [], [], [], [], []⟩), (7, ri [0,2,3,4] [2,3,1000000]), (9, ⟨[0, 2, 3], [2, 3, 1000000], [4], [], 0, [], [], [], [], []⟩), (10, ri [0,2,3,37] [2,3,1000000]), (11, ri [0,2,3] [2,3,1000000]), (12, ri [2,3,45] [2,3,1000000]), (13, ⟨[2], [2, 1000000], [1], [], 0, [], [], [], [], []⟩), (14, ⟨[2], [2, 1000000], [1], [], 0, [], [], [], [], []⟩)]
noncomputable def ref22_Read.cx (k : Nat) : Cx := ⟨tt, pp, [(28, (ref12_ReadList.e k)), (29, (ref08_Read.e k)), (30, (ref06_Read.e k)), (31, (ref06_ReadList.e k)), (32, (ref22_Known.e k)), (33, (ref22_Right.e k))], ref22_Read.regs, k, mm⟩
@[reducible] def ref22_Read.sg : Sg := ⟨[.ref], [tref02Reader], .dat tState, [tref02Reader]⟩
noncomputable def ref22_Read.f (k : Nat) (o0 : Ty.D tref02Reader) : Option (Sg.Out ref22_Read.sg) := Sg.fn ref22_Read.sg (ref22_Read.cx k) ref22_Read.body ref22_Read.rs o0
noncomputable def ref22_Read.l6 (k : Nat) (n : Nat) (x4 : Ty.D (.int .i64)) (m2a : List (Ty.D tTxn)) (m2ba : List (Ty.D tUndo)) (m2bbaa : Ty.D tVec) (m2bbab : List (Ty.D tDot)) (m2bbbaa : Ty.D tVec) (m2bbbab : List (Ty.D tDot)) (m2bbbb : Ty.D (.arr 8 (.slc tDot))) (m3a : List (Ty.D tTxn)) (m3ba : List (Ty.D tUndo)) (m3bbaa : Ty.D tVec) (m3bbab : List (Ty.D tDot)) (m3bbb : Ty.D (.pair tDots (.arr 8 (.slc tDot)))) (m1000000 : Ty.D tref02Reader) : Option (Sg.Out ref22_Read.sg) := loopAt (ref22_Read.cx k) ref22_Read.body [1, 1, 1, 1, 1, 0, 1, 0] 6 [0, 2, 3, 4] [2, 3, 1000000] [] (Sg.K ref22_Read.sg (ref22_Read.cx k) ref22_Read.rs) n ⟨[(0, .ref 1000000 []), (2, .ref 2 []), (3, .ref 3 []), (4, .dat (.int .i64) x4)], [(2, .pr (.own tTxn m2a) (.pr (.own tUndo m2ba) (.pr (.pr (.dat tVec m2bbaa) (.own tDot m2bbab)) (.pr (.pr (.dat tVec m2bbbaa) (.own tDot m2bbbab)) (.dat (.arr 8 (.slc tDot)) m2bbbb))))), (3, .pr (.own tTxn m3a) (.pr (.own tUndo m3ba) (.pr (.pr (.dat tVec m3bbaa) (.own tDot m3bbab)) (.dat (.pair tDots (.arr 8 (.slc tDot))) m3bbb)))), (1000000, .dat tref02Reader m1000000)]⟩
theorem ref22_Read.f_eq (k : Nat) (o0 : Ty.D tref02Reader) : ref22_Read.f k o0 = bnd (ref12_ReadList.f k 1000 o0) fun r0 => bnd (ref08_Read.f k 1048576 r0.2) fun r1 => bnd (ref06_Read.f k r1.2) fun r2 => ref22_Read.l6 k k 0 [] [] (zarr 16 0) [] (zarr 16 0) [] (zarr 8 []) r0.1 r1.1 (zarr 16 0) [] (r2.1, (zarr 8 [])) r2.2 := by kernel_rfl
theorem ref22_Read.l6_eq (k : Nat) (n6 : Nat) (x4 : Ty.D (.int .i64)) (m2a : List (Ty.D tTxn)) (m2ba : List (Ty.D tUndo)) (m2bbaa : Ty.D tVec) (m2bbab : List (Ty.D tDot)) (m2bbbaa : Ty.D tVec) (m2bbbab : List (Ty.D tDot)) (m2bbbb : Ty.D (.arr 8 (.slc tDot))) (m3a : List (Ty.D tTxn)) (m3ba : List (Ty.D tUndo)) (m3bbaa : Ty.D tVec) (m3bbab : List (Ty.D tDot)) (m3bbb : Ty.D (.pair tDots (.arr 8 (.slc tDot)))) (m1000000 : Ty.D tref02Reader) : ref22_Read.l6 k (n6 + 1) x4 m2a m2ba m2bbaa m2bbab m2bbbaa m2bbbab m2bbbb m3a m3ba m3bbaa m3bbab m3bbb m1000000 = br (ilt x4 8) (bnd (ref06_ReadList.f k 1000 m1000000) fun r0 => br (inB x4 8) (ref22_Read.l6 k n6 (iadd .i64 x4 1) m2a m2ba m2bbaa m2bbab m2bbbaa m2bbbab m2bbbb m3a m3ba m3bbaa m3bbab (m3bbb.1, (upd m3bbb.2 (natOf x4) r0.1)) r0.2) none) (bnd (ref22_Known.f k m3a) fun r1 => br (ieq m1000000.2.2 0) (bnd (ref22_Right.f k (m3a, (m3ba, (r1, m3bbb)))) fun r2 => br (bnot r2) (some (([], ([], (((zarr 16 0), []), (((zarr 16 0), []), (zarr 8 []))))), (m1000000.1, (m1000000.2.1, 2)))) (br (bnot (ieq m1000000.2.2 0)) (some (([], ([], (((zarr 16 0), []), (((zarr 16 0), []), (zarr 8 []))))), m1000000)) (some ((m3a, (m3ba, (r1, m3bbb))), m1000000)))) (br (bnot (ieq m1000000.2.2 0)) (some (([], ([], (((zarr 16 0), []), (((zarr 16 0), []), (zarr 8 []))))), m1000000)) (some ((m3a, (m3ba, (r1, m3bbb))), m1000000)))) := by kernel_rfl
noncomputable def ref22_Read.e (k : Nat) : Entry := Sg.entry ref22_Read.sg fun x => ref22_Read.f k x
theorem ref22_Read.ok (k : Nat) : CallOK Tryz.prog 8 (ref22_Read.e k) := fn_ok (c := ref22_Read.cx k) (code := ref22_Read.body) (TT.of tt_ok pp_ok mm_ok) (fns_ok ⟨(ref12_ReadList.ok k), (ref08_Read.ok k), (ref06_Read.ok k), (ref06_ReadList.ok k), (ref22_Known.ok k), (ref22_Right.ok k), trivial⟩) mixed Tryz.func8 (by kernel_rfl) (by kernel_rfl) (by kernel_rfl) (by kernel_rfl) (by kernel_rfl) (by kernel_rfl) (fun x => by kernel_rfl)
noncomputable def ref03_Same.body : Go.Code := Tryz.f123.body.getD .skip
noncomputable def ref03_Same.rs : List Go.ResultVar := Tryz.f123.results.toList
def ref03_Same.regs : List (Nat × RInfo) := [(0, ri [0,1] []), (1, ri [0,1,10] []), (2, ri [4] []), (3, ri [0,1,5] []), (4, ⟨[0, 1, 5, 14], [], [], [], 0, [0, 1, 5], [], [], [], []⟩), (6, rq [0,1,5,25] [] 9), (7, ri [4] []), (5, ri [0,1,5] []), (8, ri [4] [])]
noncomputable def ref03_Same.cx (k : Nat) : Cx := ⟨tt, pp, [], ref03_Same.regs, k, mm⟩
@[reducible] def ref03_Same.sg : Sg := ⟨[.dat (.slc .str), .dat (.slc .str)], [], .dat .bool, []⟩
noncomputable def ref03_Same.f (k : Nat) (a0 : Ty.D (.slc .str)) (a1 : Ty.D (.slc .str)) : Option (Sg.Out ref03_Same.sg) := Sg.fn ref03_Same.sg (ref03_Same.cx k) ref03_Same.body ref03_Same.rs (a0, a1)
noncomputable def ref03_Same.l4 (k : Nat) (n : Nat) (x0 : Ty.D (.slc .str)) (x1 : Ty.D (.slc .str)) (x5 : Ty.D (.int .i64)) : Option (Sg.Out ref03_Same.sg) := loopAt (ref03_Same.cx k) ref03_Same.body [1, 1, 0, 1, 0] 4 [0, 1, 5] [] [] (Sg.K ref03_Same.sg (ref03_Same.cx k) ref03_Same.rs) n ⟨[(0, .dat (.slc .str) x0), (1, .dat (.slc .str) x1), (5, .dat (.int .i64) x5)], []⟩
theorem ref03_Same.f_eq (k : Nat) (a0 : Ty.D (.slc .str)) (a1 : Ty.D (.slc .str)) : ref03_Same.f k a0 a1 = br (bnot (ieq (ilen a0) (ilen a1))) (some false) (ref03_Same.l4 k k a0 a1 0) := by kernel_rfl
theorem ref03_Same.l4_eq (k : Nat) (n4 : Nat) (x0 : Ty.D (.slc .str)) (x1 : Ty.D (.slc .str)) (x5 : Ty.D (.int .i64)) : ref03_Same.l4 k (n4 + 1) x0 x1 x5 = br (ilt x5 (ilen x0)) (br (inL x5 x0) (br (inL x5 x1) (br (bnot (seq (rd .str x0 (natOf x5)) (rd .str x1 (natOf x5)))) (some false) (ref03_Same.l4 k n4 x0 x1 (iadd .i64 x5 1))) none) none) (some true) := by kernel_rfl
noncomputable def ref03_Same.e (k : Nat) : Entry := Sg.entry ref03_Same.sg fun x => ref03_Same.f k x.1 x.2
theorem ref03_Same.ok (k : Nat) : CallOK Tryz.prog 123 (ref03_Same.e k) := fn_ok (c := ref03_Same.cx k) (code := ref03_Same.body) (TT.of tt_ok pp_ok mm_ok) (fns_ok trivial) mixed Tryz.func123 (by kernel_rfl) (by kernel_rfl) (by kernel_rfl) (by kernel_rfl) (by kernel_rfl) (by kernel_rfl) (fun x => by kernel_rfl)
noncomputable def ref11_Same.body : Go.Code := Tryz.f88.body.getD .skip
noncomputable def ref11_Same.rs : List Go.ResultVar := Tryz.f88.results.toList
def ref11_Same.regs : List (Nat × RInfo) := [(0, ⟨[2, 3], [2, 3], [0, 1], [], 0, [], [], [], [], []⟩), (1, ri [2,3,41] [2,3]), (2, ri [4] []), (3, ri [2,3,5] [2,3]), (4, ⟨[2, 3, 5, 46], [2, 3], [], [], 0, [2, 3, 5], [2, 3], [], [], []⟩), (6, rq [2,3,5,59] [2,3] 11), (7, ri [4] []), (5, ri [2,3,5] [2,3]), (8, ri [4] [])]
noncomputable def ref11_Same.cx (k : Nat) : Cx := ⟨tt, pp, [(123, (ref03_Same.e k))], ref11_Same.regs, k, mm⟩
@[reducible] def ref11_Same.sg : Sg := ⟨[.dat tOp, .dat tOp], [], .dat .bool, []⟩
noncomputable def ref11_Same.f (k : Nat) (a0 : Ty.D tOp) (a1 : Ty.D tOp) : Option (Sg.Out ref11_Same.sg) := Sg.fn ref11_Same.sg (ref11_Same.cx k) ref11_Same.body ref11_Same.rs (a0, a1)
noncomputable def ref11_Same.l4 (k : Nat) (n : Nat) (x5 : Ty.D (.int .i64)) (m2 : Ty.D tOp) (m3 : Ty.D tOp) : Option (Sg.Out ref11_Same.sg) := loopAt (ref11_Same.cx k) ref11_Same.body [1, 1, 0, 1, 0] 4 [2, 3, 5] [2, 3] [] (Sg.K ref11_Same.sg (ref11_Same.cx k) ref11_Same.rs) n ⟨[(2, .ref 2 []), (3, .ref 3 []), (5, .dat (.int .i64) x5)], [(2, .dat tOp m2), (3, .dat tOp m3)]⟩
theorem ref11_Same.f_eq (k : Nat) (a0 : Ty.D tOp) (a1 : Ty.D tOp) : ref11_Same.f k a0 a1 = br (bnot (ieq a0.1 a1.1)) (some false) (br (bnot (deq tValue a0.2.2.1 a1.2.2.1)) (some false) (br (bnot (ieq a0.2.2.2.1 a1.2.2.2.1)) (some false) (bnd (ref03_Same.f k a0.2.1 a1.2.1) fun r0 => br (bnot r0) (some false) (br (bnot (ieq (ilen a0.2.2.2.2) (ilen a1.2.2.2.2))) (some false) (ref11_Same.l4 k k 0 a0 a1))))) := by kernel_rfl
theorem ref11_Same.l4_eq (k : Nat) (n4 : Nat) (x5 : Ty.D (.int .i64)) (m2 : Ty.D tOp) (m3 : Ty.D tOp) : ref11_Same.l4 k (n4 + 1) x5 m2 m3 = br (ilt x5 (ilen m2.2.2.2.2)) (br (inL x5 m2.2.2.2.2) (br (inL x5 m3.2.2.2.2) (br (bnot (deq tUndo (rd tUndo m2.2.2.2.2 (natOf x5)) (rd tUndo m3.2.2.2.2 (natOf x5)))) (some false) (ref11_Same.l4 k n4 (iadd .i64 x5 1) m2 m3)) none) none) (some true) := by kernel_rfl
noncomputable def ref11_Same.e (k : Nat) : Entry := Sg.entry ref11_Same.sg fun x => ref11_Same.f k x.1 x.2
theorem ref11_Same.ok (k : Nat) : CallOK Tryz.prog 88 (ref11_Same.e k) := fn_ok (c := ref11_Same.cx k) (code := ref11_Same.body) (TT.of tt_ok pp_ok mm_ok) (fns_ok ⟨(ref03_Same.ok k), trivial⟩) mixed Tryz.func88 (by kernel_rfl) (by kernel_rfl) (by kernel_rfl) (by kernel_rfl) (by kernel_rfl) (by kernel_rfl) (fun x => by kernel_rfl)
noncomputable def ref12_Same.body : Go.Code := Tryz.f45.body.getD .skip
noncomputable def ref12_Same.rs : List Go.ResultVar := Tryz.f45.results.toList
def ref12_Same.regs : List (Nat × RInfo) := [(0, ⟨[2, 3], [2, 3], [0, 1], [], 0, [], [], [], [], []⟩), (1, ri [2,3,40] [2,3]), (2, ri [4] []), (3, ri [2,3,5] [2,3]), (4, ⟨[2, 3, 5, 45], [2, 3], [], [], 0, [2, 3, 5], [2, 3], [], [], []⟩), (6, rq [2,3,5,59] [2,3] 12), (7, ri [4] []), (5, ri [2,3,5] [2,3]), (8, ri [4] [])]
noncomputable def ref12_Same.cx (k : Nat) : Cx := ⟨tt, pp, [(88, (ref11_Same.e k))], ref12_Same.regs, k, mm⟩
@[reducible] def ref12_Same.sg : Sg := ⟨[.dat tTxn, .dat tTxn], [], .dat .bool, []⟩
noncomputable def ref12_Same.f (k : Nat) (a0 : Ty.D tTxn) (a1 : Ty.D tTxn) : Option (Sg.Out ref12_Same.sg) := Sg.fn ref12_Same.sg (ref12_Same.cx k) ref12_Same.body ref12_Same.rs (a0, a1)
noncomputable def ref12_Same.l4 (k : Nat) (n : Nat) (x5 : Ty.D (.int .i64)) (m2 : Ty.D tTxn) (m3 : Ty.D tTxn) : Option (Sg.Out ref12_Same.sg) := loopAt (ref12_Same.cx k) ref12_Same.body [1, 1, 0, 1, 0] 4 [2, 3, 5] [2, 3] [] (Sg.K ref12_Same.sg (ref12_Same.cx k) ref12_Same.rs) n ⟨[(2, .ref 2 []), (3, .ref 3 []), (5, .dat (.int .i64) x5)], [(2, .dat tTxn m2), (3, .dat tTxn m3)]⟩
theorem ref12_Same.f_eq (k : Nat) (a0 : Ty.D tTxn) (a1 : Ty.D tTxn) : ref12_Same.f k a0 a1 = br (bnot (deq tDot a0.1 a1.1)) (some false) (br (bnot (ieq a0.2.1 a1.2.1)) (some false) (br (bnot (ieq a0.2.2.1 a1.2.2.1)) (some false) (br (bnot (deq .bool a0.2.2.2.1 a1.2.2.2.1)) (some false) (br (bnot (ieq (ilen a0.2.2.2.2) (ilen a1.2.2.2.2))) (some false) (ref12_Same.l4 k k 0 a0 a1))))) := by kernel_rfl
theorem ref12_Same.l4_eq (k : Nat) (n4 : Nat) (x5 : Ty.D (.int .i64)) (m2 : Ty.D tTxn) (m3 : Ty.D tTxn) : ref12_Same.l4 k (n4 + 1) x5 m2 m3 = br (ilt x5 (ilen m2.2.2.2.2)) (br (inL x5 m2.2.2.2.2) (br (inL x5 m3.2.2.2.2) (bnd (ref11_Same.f k (rd tOp m2.2.2.2.2 (natOf x5)) (rd tOp m3.2.2.2.2 (natOf x5))) fun r0 => br (bnot r0) (some false) (ref12_Same.l4 k n4 (iadd .i64 x5 1) m2 m3)) none) none) (some true) := by kernel_rfl
noncomputable def ref12_Same.e (k : Nat) : Entry := Sg.entry ref12_Same.sg fun x => ref12_Same.f k x.1 x.2
theorem ref12_Same.ok (k : Nat) : CallOK Tryz.prog 45 (ref12_Same.e k) := fn_ok (c := ref12_Same.cx k) (code := ref12_Same.body) (TT.of tt_ok pp_ok mm_ok) (fns_ok ⟨(ref11_Same.ok k), trivial⟩) mixed Tryz.func45 (by kernel_rfl) (by kernel_rfl) (by kernel_rfl) (by kernel_rfl) (by kernel_rfl) (by kernel_rfl) (fun x => by kernel_rfl)
noncomputable def ref12_All.body : Go.Code := Tryz.f17.body.getD .skip
noncomputable def ref12_All.rs : List Go.ResultVar := Tryz.f17.results.toList
def ref12_All.regs : List (Nat × RInfo) := [(0, ri [0,1] []), (1, ri [0,1,10] []), (2, ri [4] []), (3, ri [0,1,5] []), (4, ⟨[0, 1, 5, 14], [], [], [], 0, [0, 1, 5], [], [], [], []⟩), (6, rq [0,1,5,26] [] 10), (7, ri [4] []), (5, ri [0,1,5] []), (8, ri [4] [])]
noncomputable def ref12_All.cx (k : Nat) : Cx := ⟨tt, pp, [(45, (ref12_Same.e k))], ref12_All.regs, k, mm⟩
@[reducible] def ref12_All.sg : Sg := ⟨[.dat (.slc tTxn), .dat (.slc tTxn)], [], .dat .bool, []⟩
noncomputable def ref12_All.f (k : Nat) (a0 : Ty.D (.slc tTxn)) (a1 : Ty.D (.slc tTxn)) : Option (Sg.Out ref12_All.sg) := Sg.fn ref12_All.sg (ref12_All.cx k) ref12_All.body ref12_All.rs (a0, a1)
noncomputable def ref12_All.l4 (k : Nat) (n : Nat) (x0 : Ty.D (.slc tTxn)) (x1 : Ty.D (.slc tTxn)) (x5 : Ty.D (.int .i64)) : Option (Sg.Out ref12_All.sg) := loopAt (ref12_All.cx k) ref12_All.body [1, 1, 0, 1, 0] 4 [0, 1, 5] [] [] (Sg.K ref12_All.sg (ref12_All.cx k) ref12_All.rs) n ⟨[(0, .dat (.slc tTxn) x0), (1, .dat (.slc tTxn) x1), (5, .dat (.int .i64) x5)], []⟩
theorem ref12_All.f_eq (k : Nat) (a0 : Ty.D (.slc tTxn)) (a1 : Ty.D (.slc tTxn)) : ref12_All.f k a0 a1 = br (bnot (ieq (ilen a0) (ilen a1))) (some false) (ref12_All.l4 k k a0 a1 0) := by kernel_rfl
theorem ref12_All.l4_eq (k : Nat) (n4 : Nat) (x0 : Ty.D (.slc tTxn)) (x1 : Ty.D (.slc tTxn)) (x5 : Ty.D (.int .i64)) : ref12_All.l4 k (n4 + 1) x0 x1 x5 = br (ilt x5 (ilen x0)) (br (inL x5 x0) (br (inL x5 x1) (bnd (ref12_Same.f k (rd tTxn x0 (natOf x5)) (rd tTxn x1 (natOf x5))) fun r0 => br (bnot r0) (some false) (ref12_All.l4 k n4 x0 x1 (iadd .i64 x5 1))) none) none) (some true) := by kernel_rfl
noncomputable def ref12_All.e (k : Nat) : Entry := Sg.entry ref12_All.sg fun x => ref12_All.f k x.1 x.2
theorem ref12_All.ok (k : Nat) : CallOK Tryz.prog 17 (ref12_All.e k) := fn_ok (c := ref12_All.cx k) (code := ref12_All.body) (TT.of tt_ok pp_ok mm_ok) (fns_ok ⟨(ref12_Same.ok k), trivial⟩) mixed Tryz.func17 (by kernel_rfl) (by kernel_rfl) (by kernel_rfl) (by kernel_rfl) (by kernel_rfl) (by kernel_rfl) (fun x => by kernel_rfl)
noncomputable def ref08_Same.body : Go.Code := Tryz.f18.body.getD .skip
noncomputable def ref08_Same.rs : List Go.ResultVar := Tryz.f18.results.toList
def ref08_Same.regs : List (Nat × RInfo) := [(0, ri [0,1] []), (1, ri [0,1,10] []), (2, ri [4] []), (3, ri [0,1,5] []), (4, ⟨[0, 1, 5, 14], [], [], [], 0, [0, 1, 5], [], [], [], []⟩), (6, rq [0,1,5,25] [] 9), (7, ri [4] []), (5, ri [0,1,5] []), (8, ri [4] [])]
noncomputable def ref08_Same.cx (k : Nat) : Cx := ⟨tt, pp, [], ref08_Same.regs, k, mm⟩
@[reducible] def ref08_Same.sg : Sg := ⟨[.dat (.slc tUndo), .dat (.slc tUndo)], [], .dat .bool, []⟩
noncomputable def ref08_Same.f (k : Nat) (a0 : Ty.D (.slc tUndo)) (a1 : Ty.D (.slc tUndo)) : Option (Sg.Out ref08_Same.sg) := Sg.fn ref08_Same.sg (ref08_Same.cx k) ref08_Same.body ref08_Same.rs (a0, a1)
noncomputable def ref08_Same.l4 (k : Nat) (n : Nat) (x0 : Ty.D (.slc tUndo)) (x1 : Ty.D (.slc tUndo)) (x5 : Ty.D (.int .i64)) : Option (Sg.Out ref08_Same.sg) := loopAt (ref08_Same.cx k) ref08_Same.body [1, 1, 0, 1, 0] 4 [0, 1, 5] [] [] (Sg.K ref08_Same.sg (ref08_Same.cx k) ref08_Same.rs) n ⟨[(0, .dat (.slc tUndo) x0), (1, .dat (.slc tUndo) x1), (5, .dat (.int .i64) x5)], []⟩
theorem ref08_Same.f_eq (k : Nat) (a0 : Ty.D (.slc tUndo)) (a1 : Ty.D (.slc tUndo)) : ref08_Same.f k a0 a1 = br (bnot (ieq (ilen a0) (ilen a1))) (some false) (ref08_Same.l4 k k a0 a1 0) := by kernel_rfl
theorem ref08_Same.l4_eq (k : Nat) (n4 : Nat) (x0 : Ty.D (.slc tUndo)) (x1 : Ty.D (.slc tUndo)) (x5 : Ty.D (.int .i64)) : ref08_Same.l4 k (n4 + 1) x0 x1 x5 = br (ilt x5 (ilen x0)) (br (inL x5 x0) (br (inL x5 x1) (br (bnot (deq tUndo (rd tUndo x0 (natOf x5)) (rd tUndo x1 (natOf x5)))) (some false) (ref08_Same.l4 k n4 x0 x1 (iadd .i64 x5 1))) none) none) (some true) := by kernel_rfl
noncomputable def ref08_Same.e (k : Nat) : Entry := Sg.entry ref08_Same.sg fun x => ref08_Same.f k x.1 x.2
theorem ref08_Same.ok (k : Nat) : CallOK Tryz.prog 18 (ref08_Same.e k) := fn_ok (c := ref08_Same.cx k) (code := ref08_Same.body) (TT.of tt_ok pp_ok mm_ok) (fns_ok trivial) mixed Tryz.func18 (by kernel_rfl) (by kernel_rfl) (by kernel_rfl) (by kernel_rfl) (by kernel_rfl) (by kernel_rfl) (fun x => by kernel_rfl)
noncomputable def ref22_Same.body : Go.Code := Tryz.f6.body.getD .skip
noncomputable def ref22_Same.rs : List Go.ResultVar := Tryz.f6.results.toList
def ref22_Same.regs : List (Nat × RInfo) := [(0, ⟨[2, 3], [2, 3], [0, 1], [], 0, [], [], [], [], []⟩), (1, ri [2,3,5] [2,3]), (2, ⟨[2, 3, 5, 7], [2, 3], [], [], 0, [2, 3, 5], [2, 3], [], [], []⟩), (4, rq [2,3,5,19] [2,3] 10), (5, ri [4] [24,30,37,44]), (3, ri [2,3,5] [2,3]), (6, ri [4] [24,30,37,44])]
noncomputable def ref22_Same.cx (k : Nat) : Cx := ⟨tt, pp, [(16, (ref04_Same.e k)), (17, (ref12_All.e k)), (18, (ref08_Same.e k)), (19, (ref06_Same.e k))], ref22_Same.regs, k, mm⟩
@[reducible] def ref22_Same.sg : Sg := ⟨[.dat tState, .dat tState], [], .dat .bool, []⟩
noncomputable def ref22_Same.f (k : Nat) (a0 : Ty.D tState) (a1 : Ty.D tState) : Option (Sg.Out ref22_Same.sg) := Sg.fn ref22_Same.sg (ref22_Same.cx k) ref22_Same.body ref22_Same.rs (a0, a1)
noncomputable def ref22_Same.l2 (k : Nat) (n : Nat) (x5 : Ty.D (.int .i64)) (m2 : Ty.D tState) (m3 : Ty.D tState) : Option (Sg.Out ref22_Same.sg) := loopAt (ref22_Same.cx k) ref22_Same.body [1, 0, 1, 0] 2 [2, 3, 5] [2, 3] [] (Sg.K ref22_Same.sg (ref22_Same.cx k) ref22_Same.rs) n ⟨[(2, .ref 2 []), (3, .ref 3 []), (5, .dat (.int .i64) x5)], [(2, .dat tState m2), (3, .dat tState m3)]⟩
theorem ref22_Same.f_eq (k : Nat) (a0 : Ty.D tState) (a1 : Ty.D tState) : ref22_Same.f k a0 a1 = ref22_Same.l2 k k 0 a0 a1 := by kernel_rfl
theorem ref22_Same.l2_eq (k : Nat) (n2 : Nat) (x5 : Ty.D (.int .i64)) (m2 : Ty.D tState) (m3 : Ty.D tState) : ref22_Same.l2 k (n2 + 1) x5 m2 m3 = br (ilt x5 8) (br (inB x5 8) (br (inB x5 8) (bnd (ref04_Same.f k (rd (.slc tDot) m2.2.2.2.2 (natOf x5)) (rd (.slc tDot) m3.2.2.2.2 (natOf x5))) fun r0 => br (bnot r0) (some false) (ref22_Same.l2 k n2 (iadd .i64 x5 1) m2 m3)) none) none) (bnd (ref12_All.f k m2.1 m3.1) fun r1 => br r1 (bnd (ref08_Same.f k m2.2.1 m3.2.1) fun r2 => br r2 (bnd (ref06_Same.f k m2.2.2.1 m3.2.2.1) fun r3 => br r3 (bnd (ref06_Same.f k m2.2.2.2.1 m3.2.2.2.1) fun r4 => some r4) (some false)) (some false)) (some false)) := by kernel_rfl
noncomputable def ref22_Same.e (k : Nat) : Entry := Sg.entry ref22_Same.sg fun x => ref22_Same.f k x.1 x.2
theorem ref22_Same.ok (k : Nat) : CallOK Tryz.prog 6 (ref22_Same.e k) := fn_ok (c := ref22_Same.cx k) (code := ref22_Same.body) (TT.of tt_ok pp_ok mm_ok) (fns_ok ⟨(ref04_Same.ok k), (ref12_All.ok k), (ref08_Same.ok k), (ref06_Same.ok k), trivial⟩) mixed Tryz.func6 (by kernel_rfl) (by kernel_rfl) (by kernel_rfl) (by kernel_rfl) (by kernel_rfl) (by kernel_rfl) (fun x => by kernel_rfl)
noncomputable def pack_Reader_Left.body : Go.Code := Tryz.f10.body.getD .skip
noncomputable def pack_Reader_Left.rs : List Go.ResultVar := Tryz.f10.results.toList
def pack_Reader_Left.regs : List (Nat × RInfo) := [(0, ri [0] [1000000]), (1, ri [0,5] [1000000]), (2, ri [2] [1000000]), (3, ri [2] [1000000])]
noncomputable def pack_Reader_Left.cx (k : Nat) : Cx := ⟨tt, pp, [(34, (pack_Reader_fine.e k))], pack_Reader_Left.regs, k, mm⟩
@[reducible] def pack_Reader_Left.sg : Sg := ⟨[.ref], [tpackReader], .dat (.int .i64), [tpackReader]⟩
noncomputable def pack_Reader_Left.f (k : Nat) (o0 : Ty.D tpackReader) : Option (Sg.Out pack_Reader_Left.sg) := Sg.fn pack_Reader_Left.sg (pack_Reader_Left.cx k) pack_Reader_Left.body pack_Reader_Left.rs o0
theorem pack_Reader_Left.f_eq (k : Nat) (o0 : Ty.D tpackReader) : pack_Reader_Left.f k o0 = bnd (pack_Reader_fine.f k o0) fun r0 => br (bnot r0.1) (some (0, r0.2)) (some ((ilen r0.2.1), r0.2)) := by kernel_rfl
noncomputable def pack_Reader_Left.e (k : Nat) : Entry := Sg.entry pack_Reader_Left.sg fun x => pack_Reader_Left.f k x
theorem pack_Reader_Left.ok (k : Nat) : CallOK Tryz.prog 10 (pack_Reader_Left.e k) := fn_ok (c := pack_Reader_Left.cx k) (code := pack_Reader_Left.body) (TT.of tt_ok pp_ok mm_ok) (fns_ok ⟨(pack_Reader_fine.ok k), trivial⟩) mixed Tryz.func10 (by kernel_rfl) (by kernel_rfl) (by kernel_rfl) (by kernel_rfl) (by kernel_rfl) (by kernel_rfl) (fun x => by kernel_rfl)
noncomputable def ref02_Reader_Left.body : Go.Code := Tryz.f11.body.getD .skip
noncomputable def ref02_Reader_Left.rs : List Go.ResultVar := Tryz.f11.results.toList
def ref02_Reader_Left.regs : List (Nat × RInfo) := [(0, ri [0] [1000000]), (1, ri [0,7] [1000000]), (2, ri [2] [1000000]), (3, rq [2] [1000000] 10)]
noncomputable def ref02_Reader_Left.cx (k : Nat) : Cx := ⟨tt, pp, [], ref02_Reader_Left.regs, k, mm⟩
@[reducible] def ref02_Reader_Left.sg : Sg := ⟨[.ref], [tref02Reader], .dat (.int .i64), [tref02Reader]⟩
noncomputable def ref02_Reader_Left.f (k : Nat) (o0 : Ty.D tref02Reader) : Option (Sg.Out ref02_Reader_Left.sg) := Sg.fn ref02_Reader_Left.sg (ref02_Reader_Left.cx k) ref02_Reader_Left.body ref02_Reader_Left.rs o0
theorem ref02_Reader_Left.f_eq (k : Nat) (o0 : Ty.D tref02Reader) : ref02_Reader_Left.f k o0 = br (bnot (ieq o0.2.2 0)) (some (0, o0)) (some ((isub .i64 (ilen o0.1) o0.2.1), o0)) := by kernel_rfl
noncomputable def ref02_Reader_Left.e (k : Nat) : Entry := Sg.entry ref02_Reader_Left.sg fun x => ref02_Reader_Left.f k x
theorem ref02_Reader_Left.ok (k : Nat) : CallOK Tryz.prog 11 (ref02_Reader_Left.e k) := fn_ok (c := ref02_Reader_Left.cx k) (code := ref02_Reader_Left.body) (TT.of tt_ok pp_ok mm_ok) (fns_ok trivial) mixed Tryz.func11 (by kernel_rfl) (by kernel_rfl) (by kernel_rfl) (by kernel_rfl) (by kernel_rfl) (by kernel_rfl) (fun x => by kernel_rfl)
noncomputable def law22_one.body : Go.Code := Tryz.f36.body.getD .skip
noncomputable def law22_one.rs : List Go.ResultVar := Tryz.f36.results.toList
def law22_one.regs : List (Nat × RInfo) := [(0, ri [0,2] [2]), (1, ⟨[2], [2], [7], [], 0, [], [], [], [], []⟩)]
noncomputable def law22_one.cx (k : Nat) : Cx := ⟨tt, pp, [], law22_one.regs, k, mm⟩
@[reducible] def law22_one.sg : Sg := ⟨[.dat (.int .i64)], [], .dat tTxn, []⟩
noncomputable def law22_one.f (k : Nat) (a0 : Ty.D (.int .i64)) : Option (Sg.Out law22_one.sg) := Sg.fn law22_one.sg (law22_one.cx k) law22_one.body law22_one.rs a0
noncomputable def law22_one.e (k : Nat) : Entry := Sg.entry law22_one.sg fun x => law22_one.f k x
theorem law22_one.ok (k : Nat) : CallOK Tryz.prog 36 (law22_one.e k) := fn_ok (c := law22_one.cx k) (code := law22_one.body) (TT.of tt_ok pp_ok mm_ok) (fns_ok trivial) mixed Tryz.func36 (by kernel_rfl) (by kernel_rfl) (by kernel_rfl) (by kernel_rfl) (by kernel_rfl) (by kernel_rfl) (fun x => by kernel_rfl)
noncomputable def txn_Find_1.body : Go.Code := Tryz.f110.body.getD .skip
noncomputable def txn_Find_1.rs : List Go.ResultVar := Tryz.f110.results.toList
def txn_Find_1.regs : List (Nat × RInfo) := [(0, ⟨[2, 3], [2, 3], [0], [], 0, [], [], [], [], []⟩), (1, ri [4] [8])]
noncomputable def txn_Find_1.cx (k : Nat) : Cx := ⟨tt, pp, [(59, (dot_Compare.e k))], txn_Find_1.regs, k, mm⟩
@[reducible] def txn_Find_1.sg : Sg := ⟨[.dat tTxn, .dat tDot], [], .dat (.int .i64), []⟩
noncomputable def txn_Find_1.f (k : Nat) (a0 : Ty.D tTxn) (a1 : Ty.D tDot) : Option (Sg.Out txn_Find_1.sg) := Sg.fn txn_Find_1.sg (txn_Find_1.cx k) txn_Find_1.body txn_Find_1.rs (a0, a1)
noncomputable def txn_Find_1.e (k : Nat) : Entry := Sg.entry txn_Find_1.sg fun x => txn_Find_1.f k x.1 x.2
theorem txn_Find_1.ok (k : Nat) : CallOK Tryz.prog 110 (txn_Find_1.e k) := fn_ok (c := txn_Find_1.cx k) (code := txn_Find_1.body) (TT.of tt_ok pp_ok mm_ok) (fns_ok ⟨(dot_Compare.ok k), trivial⟩) mixed Tryz.func110 (by kernel_rfl) (by kernel_rfl) (by kernel_rfl) (by kernel_rfl) (by kernel_rfl) (by kernel_rfl) (fun x => by kernel_rfl)
noncomputable def slices_BinarySearchFunc_api_Txn_api_Txn_api_Dot_txn_Find_1.body : Go.Code := Tryz.f109.body.getD .skip
noncomputable def slices_BinarySearchFunc_api_Txn_api_Txn_api_Dot_txn_Find_1.rs : List Go.ResultVar := Tryz.f109.results.toList
def slices_BinarySearchFunc_api_Txn_api_Txn_api_Dot_txn_Find_1.regs : List (Nat × RInfo) := [(0, ri [0,2,4] [4]), (1, ri [0,2,4,8] [4]), (2, ri [0,2,4,8,9,10] [4]), (3, ⟨[0, 2, 4, 8, 9, 10, 17], [4], [], [], 0, [0, 2, 4, 8, 9, 10], [4], [], [], []⟩), (4, ri [0,2,4,8,9,10,11] [4]), (5, ⟨[0, 2, 4, 8, 9, 10, 11, 31], [4], [], [], 8, [], [], [], [[], [], [], [], [], [], [4, 5], [6, 4, 5]], []⟩), (6, ri [0,2,4,8,9,10] [4]), (7, ri [0,2,4,8,9,10] [4]), (8, ⟨[6, 7], [], [], [], 15, [], [], [], [[], [], [], [], [], [], [], [], [], [], [], [9, 10], [11, 9, 10], [11, 9, 10], [11, 9, 10], [11, 9, 10]], []⟩)]
noncomputable def slices_BinarySearchFunc_api_Txn_api_Txn_api_Dot_txn_Find_1.cx (k : Nat) : Cx := ⟨tt, pp, [(110, (txn_Find_1.e k))], slices_BinarySearchFunc_api_Txn_api_Txn_api_Dot_txn_Find_1.regs, k, mm⟩
@[reducible] def slices_BinarySearchFunc_api_Txn_api_Txn_api_Dot_txn_Find_1.sg : Sg := ⟨[.dat (.slc tTxn), .dat tDot, .fn 110 0], [], .t2 (.dat (.int .i64)) (.dat .bool), []⟩
noncomputable def slices_BinarySearchFunc_api_Txn_api_Txn_api_Dot_txn_Find_1.f (k : Nat) (a0 : Ty.D (.slc tTxn)) (a1 : Ty.D tDot) : Option (Sg.Out slices_BinarySearchFunc_api_Txn_api_Txn_api_Dot_txn_Find_1.sg) := Sg.fn slices_BinarySearchFunc_api_Txn_api_Txn_api_Dot_txn_Find_1.sg (slices_BinarySearchFunc_api_Txn_api_Txn_api_Dot_txn_Find_1.cx k) slices_BinarySearchFunc_api_Txn_api_Txn_api_Dot_txn_Find_1.body slices_BinarySearchFunc_api_Txn_api_Txn_api_Dot_txn_Find_1.rs (a0, a1)
noncomputable def slices_BinarySearchFunc_api_Txn_api_Txn_api_Dot_txn_Find_1.e (k : Nat) : Entry := Sg.entry slices_BinarySearchFunc_api_Txn_api_Txn_api_Dot_txn_Find_1.sg fun x => slices_BinarySearchFunc_api_Txn_api_Txn_api_Dot_txn_Find_1.f k x.1 x.2
theorem slices_BinarySearchFunc_api_Txn_api_Txn_api_Dot_txn_Find_1.ok (k : Nat) : CallOK Tryz.prog 109 (slices_BinarySearchFunc_api_Txn_api_Txn_api_Dot_txn_Find_1.e k) := fn_ok (c := slices_BinarySearchFunc_api_Txn_api_Txn_api_Dot_txn_Find_1.cx k) (code := slices_BinarySearchFunc_api_Txn_api_Txn_api_Dot_txn_Find_1.body) (TT.of tt_ok pp_ok mm_ok) (fns_ok ⟨(txn_Find_1.ok k), trivial⟩) mixed Tryz.func109 (by kernel_rfl) (by kernel_rfl) (by kernel_rfl) (by kernel_rfl) (by kernel_rfl) (by kernel_rfl) (fun x => by kernel_rfl)
noncomputable def txn_Find.body : Go.Code := Tryz.f78.body.getD .skip
noncomputable def txn_Find.rs : List Go.ResultVar := Tryz.f78.results.toList
def txn_Find.regs : List (Nat × RInfo) := [(0, ri [0,3] [3]), (1, ri [5,6] [10]), (2, ri [5,14] [10]), (3, ri [4] [10]), (4, ri [4] [10])]
noncomputable def txn_Find.cx (k : Nat) : Cx := ⟨tt, pp, [(109, (slices_BinarySearchFunc_api_Txn_api_Txn_api_Dot_txn_Find_1.e k)), (110, (txn_Find_1.e k))], txn_Find.regs, k, mm⟩
@[reducible] def txn_Find.sg : Sg := ⟨[.dat (.slc tTxn), .dat tDot], [], .dat (.int .i64), []⟩
noncomputable def txn_Find.f (k : Nat) (a0 : Ty.D (.slc tTxn)) (a1 : Ty.D tDot) : Option (Sg.Out txn_Find.sg) := Sg.fn txn_Find.sg (txn_Find.cx k) txn_Find.body txn_Find.rs (a0, a1)
noncomputable def txn_Find.e (k : Nat) : Entry := Sg.entry txn_Find.sg fun x => txn_Find.f k x.1 x.2
theorem txn_Find.ok (k : Nat) : CallOK Tryz.prog 78 (txn_Find.e k) := fn_ok (c := txn_Find.cx k) (code := txn_Find.body) (TT.of tt_ok pp_ok mm_ok) (fns_ok ⟨(slices_BinarySearchFunc_api_Txn_api_Txn_api_Dot_txn_Find_1.ok k), (txn_Find_1.ok k), trivial⟩) mixed Tryz.func78 (by kernel_rfl) (by kernel_rfl) (by kernel_rfl) (by kernel_rfl) (by kernel_rfl) (by kernel_rfl) (fun x => by kernel_rfl)
noncomputable def txn_Put_1.body : Go.Code := Tryz.f111.body.getD .skip
noncomputable def txn_Put_1.rs : List Go.ResultVar := Tryz.f111.results.toList
def txn_Put_1.regs : List (Nat × RInfo) := [(0, ⟨[2, 3], [2, 3], [0], [], 0, [], [], [], [], []⟩), (1, ri [4] [8])]
noncomputable def txn_Put_1.cx (k : Nat) : Cx := ⟨tt, pp, [(59, (dot_Compare.e k))], txn_Put_1.regs, k, mm⟩
@[reducible] def txn_Put_1.sg : Sg := ⟨[.dat tTxn, .dat tDot], [], .dat (.int .i64), []⟩
noncomputable def txn_Put_1.f (k : Nat) (a0 : Ty.D tTxn) (a1 : Ty.D tDot) : Option (Sg.Out txn_Put_1.sg) := Sg.fn txn_Put_1.sg (txn_Put_1.cx k) txn_Put_1.body txn_Put_1.rs (a0, a1)
noncomputable def txn_Put_1.e (k : Nat) : Entry := Sg.entry txn_Put_1.sg fun x => txn_Put_1.f k x.1 x.2
theorem txn_Put_1.ok (k : Nat) : CallOK Tryz.prog 111 (txn_Put_1.e k) := fn_ok (c := txn_Put_1.cx k) (code := txn_Put_1.body) (TT.of tt_ok pp_ok mm_ok) (fns_ok ⟨(dot_Compare.ok k), trivial⟩) mixed Tryz.func111 (by kernel_rfl) (by kernel_rfl) (by kernel_rfl) (by kernel_rfl) (by kernel_rfl) (by kernel_rfl) (fun x => by kernel_rfl)
noncomputable def slices_BinarySearchFunc_api_Txn_api_Txn_api_Dot_txn_Put_1.body : Go.Code := Tryz.f109.body.getD .skip
noncomputable def slices_BinarySearchFunc_api_Txn_api_Txn_api_Dot_txn_Put_1.rs : List Go.ResultVar := Tryz.f109.results.toList
def slices_BinarySearchFunc_api_Txn_api_Txn_api_Dot_txn_Put_1.regs : List (Nat × RInfo) := [(0, ri [0,2,4] [4]), (1, ri [0,2,4,8] [4]), (2, ri [0,2,4,8,9,10] [4]), (3, ⟨[0, 2, 4, 8, 9, 10, 17], [4], [], [], 0, [0, 2, 4, 8, 9, 10], [4], [], [], []⟩), (4, ri [0,2,4,8,9,10,11] [4]), (5, ⟨[0, 2, 4, 8, 9, 10, 11, 31], [4], [], [], 8, [], [], [], [[], [], [], [], [], [], [4, 5], [6, 4, 5]], []⟩), (6, ri [0,2,4,8,9,10] [4]), (7, ri [0,2,4,8,9,10] [4]), (8, ⟨[6, 7], [], [], [], 15, [], [], [], [[], [], [], [], [], [], [], [], [], [], [], [9, 10], [11, 9, 10], [11, 9, 10], [11, 9, 10], [11, 9, 10]], []⟩)]
noncomputable def slices_BinarySearchFunc_api_Txn_api_Txn_api_Dot_txn_Put_1.cx (k : Nat) : Cx := ⟨tt, pp, [(111, (txn_Put_1.e k))], slices_BinarySearchFunc_api_Txn_api_Txn_api_Dot_txn_Put_1.regs, k, mm⟩
@[reducible] def slices_BinarySearchFunc_api_Txn_api_Txn_api_Dot_txn_Put_1.sg : Sg := ⟨[.dat (.slc tTxn), .dat tDot, .fn 111 0], [], .t2 (.dat (.int .i64)) (.dat .bool), []⟩
noncomputable def slices_BinarySearchFunc_api_Txn_api_Txn_api_Dot_txn_Put_1.f (k : Nat) (a0 : Ty.D (.slc tTxn)) (a1 : Ty.D tDot) : Option (Sg.Out slices_BinarySearchFunc_api_Txn_api_Txn_api_Dot_txn_Put_1.sg) := Sg.fn slices_BinarySearchFunc_api_Txn_api_Txn_api_Dot_txn_Put_1.sg (slices_BinarySearchFunc_api_Txn_api_Txn_api_Dot_txn_Put_1.cx k) slices_BinarySearchFunc_api_Txn_api_Txn_api_Dot_txn_Put_1.body slices_BinarySearchFunc_api_Txn_api_Txn_api_Dot_txn_Put_1.rs (a0, a1)
noncomputable def slices_BinarySearchFunc_api_Txn_api_Txn_api_Dot_txn_Put_1.e (k : Nat) : Entry := Sg.entry slices_BinarySearchFunc_api_Txn_api_Txn_api_Dot_txn_Put_1.sg fun x => slices_BinarySearchFunc_api_Txn_api_Txn_api_Dot_txn_Put_1.f k x.1 x.2
theorem slices_BinarySearchFunc_api_Txn_api_Txn_api_Dot_txn_Put_1.ok (k : Nat) : CallOK Tryz.prog 109 (slices_BinarySearchFunc_api_Txn_api_Txn_api_Dot_txn_Put_1.e k) := fn_ok (c := slices_BinarySearchFunc_api_Txn_api_Txn_api_Dot_txn_Put_1.cx k) (code := slices_BinarySearchFunc_api_Txn_api_Txn_api_Dot_txn_Put_1.body) (TT.of tt_ok pp_ok mm_ok) (fns_ok ⟨(txn_Put_1.ok k), trivial⟩) mixed Tryz.func109 (by kernel_rfl) (by kernel_rfl) (by kernel_rfl) (by kernel_rfl) (by kernel_rfl) (by kernel_rfl) (fun x => by kernel_rfl)
noncomputable def txn_Put.body : Go.Code := Tryz.f79.body.getD .skip
noncomputable def txn_Put.rs : List Go.ResultVar := Tryz.f79.results.toList
def txn_Put.regs : List (Nat × RInfo) := [(0, ⟨[0, 3], [3], [0], [], 0, [], [], [1], [], []⟩), (1, ⟨[0, 3, 5, 6], [3, 11], [], [], 0, [], [], [0, 3], [], []⟩), (2, ⟨[0, 3, 5, 14], [3, 11], [], [], 0, [], [], [6], [], []⟩), (3, ⟨[4], [21], [0, 1], [], 0, [], [], [], [], []⟩), (4, ⟨[4], [21], [5, 6], [], 6, [], [], [0, 5, 3], [], []⟩)]
noncomputable def txn_Put.cx (k : Nat) : Cx := ⟨tt, pp, [(109, (Entry.alt slices_BinarySearchFunc_api_Txn_api_Txn_api_Dot_txn_Find_1.sg (slices_BinarySearchFunc_api_Txn_api_Txn_api_Dot_txn_Find_1.e k) (slices_BinarySearchFunc_api_Txn_api_Txn_api_Dot_txn_Put_1.e k))), (111, (txn_Put_1.e k)), (113, (cloneE tTxn)), (112, (insE tTxn))], txn_Put.regs, k, mm⟩
@[reducible] def txn_Put.sg : Sg := ⟨[.dat (.slc tTxn), .dat tTxn], [], .dat (.slc tTxn), []⟩
noncomputable def txn_Put.f (k : Nat) (a0 : Ty.D (.slc tTxn)) (a1 : Ty.D tTxn) : Option (Sg.Out txn_Put.sg) := Sg.fn txn_Put.sg (txn_Put.cx k) txn_Put.body txn_Put.rs (a0, a1)
noncomputable def txn_Put.e (k : Nat) : Entry := Sg.entry txn_Put.sg fun x => txn_Put.f k x.1 x.2
theorem txn_Put.ok (k : Nat) : CallOK Tryz.prog 79 (txn_Put.e k) := fn_ok (c := txn_Put.cx k) (code := txn_Put.body) (TT.of tt_ok pp_ok mm_ok) (fns_ok ⟨(alt_ok (slices_BinarySearchFunc_api_Txn_api_Txn_api_Dot_txn_Find_1.ok k) (slices_BinarySearchFunc_api_Txn_api_Txn_api_Dot_txn_Put_1.ok k)), (txn_Put_1.ok k), cloneTxn_ok, insTxn_ok, trivial⟩) mixed Tryz.func79 (by kernel_rfl) (by kernel_rfl) (by kernel_rfl) (by kernel_rfl) (by kernel_rfl) (by kernel_rfl) (fun x => by kernel_rfl)
end Go.Proofs.YtbiihldcljemfaaGreatDoor
end
section
/- The program's functions, as plain equations. -/
namespace Go.Proofs.YtbiihldcljemfaaGreatDoor
open Pal
set_option maxRecDepth 100000
noncomputable def vec_Has.body : Go.Code := Tryz.f153.body.getD .skip
noncomputable def vec_Has.rs : List Go.ResultVar := Tryz.f153.results.toList
def vec_Has.regs : List (Nat × RInfo) := [(0, ri [2,3] [2,3]), (1, rq [4] [6] 11)]
noncomputable def vec_Has.cx (k : Nat) : Cx := ⟨tt, pp, [(57, (dot_Right.e k))], vec_Has.regs, k, mm⟩
@[reducible] def vec_Has.sg : Sg := ⟨[.dat tVec, .dat tDot], [], .dat .bool, []⟩
noncomputable def vec_Has.f (k : Nat) (a0 : Ty.D tVec) (a1 : Ty.D tDot) : Option (Sg.Out vec_Has.sg) := Sg.fn vec_Has.sg (vec_Has.cx k) vec_Has.body vec_Has.rs (a0, a1)
noncomputable def vec_Has.e (k : Nat) : Entry := Sg.entry vec_Has.sg fun x => vec_Has.f k x.1 x.2
theorem vec_Has.ok (k : Nat) : CallOK Tryz.prog 153 (vec_Has.e k) := fn_ok (c := vec_Has.cx k) (code := vec_Has.body) (TT.of tt_ok pp_ok mm_ok) (fns_ok ⟨(dot_Right.ok k), trivial⟩) mixed Tryz.func153 (by kernel_rfl) (by kernel_rfl) (by kernel_rfl) (by kernel_rfl) (by kernel_rfl) (by kernel_rfl) (fun x => by kernel_rfl)
noncomputable def slices_BinarySearchFunc_api_Dot_api_Dot_api_Dot_dot_Compare.body : Go.Code := Tryz.f115.body.getD .skip
noncomputable def slices_BinarySearchFunc_api_Dot_api_Dot_api_Dot_dot_Compare.rs : List Go.ResultVar := Tryz.f115.results.toList
def slices_BinarySearchFunc_api_Dot_api_Dot_api_Dot_dot_Compare.regs : List (Nat × RInfo) := [(0, ri [0,2,4] [4]), (1, ri [0,2,4,8] [4]), (2, ri [0,2,4,8,9,10] [4]), (3, ⟨[0, 2, 4, 8, 9, 10, 17], [4], [], [], 0, [0, 2, 4, 8, 9, 10], [4], [], [], []⟩), (4, ri [0,2,4,8,9,10,11] [4]), (5, ⟨[0, 2, 4, 8, 9, 10, 11, 31], [4], [], [], 8, [], [], [], [[], [], [], [], [], [], [4, 5], [6, 4, 5]], []⟩), (6, ri [0,2,4,8,9,10] [4]), (7, ri [0,2,4,8,9,10] [4]), (8, ⟨[6, 7], [], [], [], 15, [], [], [], [[], [], [], [], [], [], [], [], [], [], [], [9, 10], [11, 9, 10], [11, 9, 10], [11, 9, 10], [11, 9, 10]], []⟩)]
noncomputable def slices_BinarySearchFunc_api_Dot_api_Dot_api_Dot_dot_Compare.cx (k : Nat) : Cx := ⟨tt, pp, [(59, (dot_Compare.e k))], slices_BinarySearchFunc_api_Dot_api_Dot_api_Dot_dot_Compare.regs, k, mm⟩
@[reducible] def slices_BinarySearchFunc_api_Dot_api_Dot_api_Dot_dot_Compare.sg : Sg := ⟨[.dat (.slc tDot), .dat tDot, .fn 59 0], [], .t2 (.dat (.int .i64)) (.dat .bool), []⟩
noncomputable def slices_BinarySearchFunc_api_Dot_api_Dot_api_Dot_dot_Compare.f (k : Nat) (a0 : Ty.D (.slc tDot)) (a1 : Ty.D tDot) : Option (Sg.Out slices_BinarySearchFunc_api_Dot_api_Dot_api_Dot_dot_Compare.sg) := Sg.fn slices_BinarySearchFunc_api_Dot_api_Dot_api_Dot_dot_Compare.sg (slices_BinarySearchFunc_api_Dot_api_Dot_api_Dot_dot_Compare.cx k) slices_BinarySearchFunc_api_Dot_api_Dot_api_Dot_dot_Compare.body slices_BinarySearchFunc_api_Dot_api_Dot_api_Dot_dot_Compare.rs (a0, a1)
noncomputable def slices_BinarySearchFunc_api_Dot_api_Dot_api_Dot_dot_Compare.e (k : Nat) : Entry := Sg.entry slices_BinarySearchFunc_api_Dot_api_Dot_api_Dot_dot_Compare.sg fun x => slices_BinarySearchFunc_api_Dot_api_Dot_api_Dot_dot_Compare.f k x.1 x.2
theorem slices_BinarySearchFunc_api_Dot_api_Dot_api_Dot_dot_Compare.ok (k : Nat) : CallOK Tryz.prog 115 (slices_BinarySearchFunc_api_Dot_api_Dot_api_Dot_dot_Compare.e k) := fn_ok (c := slices_BinarySearchFunc_api_Dot_api_Dot_api_Dot_dot_Compare.cx k) (code := slices_BinarySearchFunc_api_Dot_api_Dot_api_Dot_dot_Compare.body) (TT.of tt_ok pp_ok mm_ok) (fns_ok ⟨(dot_Compare.ok k), trivial⟩) mixed Tryz.func115 (by kernel_rfl) (by kernel_rfl) (by kernel_rfl) (by kernel_rfl) (by kernel_rfl) (by kernel_rfl) (fun x => by kernel_rfl)
noncomputable def dots_Has.body : Go.Code := Tryz.f114.body.getD .skip
noncomputable def dots_Has.rs : List Go.ResultVar := Tryz.f114.results.toList
def dots_Has.regs : List (Nat × RInfo) := [(0, ⟨[2, 3], [2, 3], [0], [], 0, [], [], [], [], []⟩), (1, ri [2,3,10] [2,3,10]), (2, ri [4] [15]), (3, ri [6] [15]), (4, ri [4] [15])]
noncomputable def dots_Has.cx (k : Nat) : Cx := ⟨tt, pp, [(153, (vec_Has.e k)), (115, (slices_BinarySearchFunc_api_Dot_api_Dot_api_Dot_dot_Compare.e k)), (59, (dot_Compare.e k))], dots_Has.regs, k, mm⟩
@[reducible] def dots_Has.sg : Sg := ⟨[.dat tDots, .dat tDot], [], .dat .bool, []⟩
noncomputable def dots_Has.f (k : Nat) (a0 : Ty.D tDots) (a1 : Ty.D tDot) : Option (Sg.Out dots_Has.sg) := Sg.fn dots_Has.sg (dots_Has.cx k) dots_Has.body dots_Has.rs (a0, a1)
noncomputable def dots_Has.e (k : Nat) : Entry := Sg.entry dots_Has.sg fun x => dots_Has.f k x.1 x.2
theorem dots_Has.ok (k : Nat) : CallOK Tryz.prog 114 (dots_Has.e k) := fn_ok (c := dots_Has.cx k) (code := dots_Has.body) (TT.of tt_ok pp_ok mm_ok) (fns_ok ⟨(vec_Has.ok k), (slices_BinarySearchFunc_api_Dot_api_Dot_api_Dot_dot_Compare.ok k), (dot_Compare.ok k), trivial⟩) mixed Tryz.func114 (by kernel_rfl) (by kernel_rfl) (by kernel_rfl) (by kernel_rfl) (by kernel_rfl) (by kernel_rfl) (fun x => by kernel_rfl)
noncomputable def dots_Put.body : Go.Code := Tryz.f80.body.getD .skip
noncomputable def dots_Put.rs : List Go.ResultVar := Tryz.f80.results.toList
def dots_Put.regs : List (Nat × RInfo) := [(0, ⟨[2, 3, 4], [2, 3, 4], [0], [], 0, [], [], [0, 1], [], []⟩), (1, ⟨[2, 3, 4, 14], [2, 3, 4, 13], [], [], 0, [], [], [3, 2], [], []⟩), (2, ⟨[4], [4], [1], [], 0, [], [], [2, 4], [], []⟩), (3, ⟨[2, 3, 4, 5], [2, 3, 4, 20], [], [], 0, [], [], [2, 3], [], []⟩), (4, ⟨[4], [4], [8, 10], [], 10, [], [], [2, 5, 3, 4], [[], [], [], [], [3], [], [], [6], [3, 6], [1, 3, 6], [1, 3, 6]], []⟩)]
noncomputable def dots_Put.cx (k : Nat) : Cx := ⟨tt, pp, [(57, (dot_Right.e k)), (114, (dots_Has.e k)), (115, (slices_BinarySearchFunc_api_Dot_api_Dot_api_Dot_dot_Compare.e k)), (59, (dot_Compare.e k)), (55, (cloneE tDot)), (116, (insE tDot)), (60, (dots_made.e k))], dots_Put.regs, k, mm⟩
@[reducible] def dots_Put.sg : Sg := ⟨[.dat tDots, .dat tDot], [], .dat tDots, []⟩
noncomputable def dots_Put.f (k : Nat) (a0 : Ty.D tDots) (a1 : Ty.D tDot) : Option (Sg.Out dots_Put.sg) := Sg.fn dots_Put.sg (dots_Put.cx k) dots_Put.body dots_Put.rs (a0, a1)
noncomputable def dots_Put.e (k : Nat) : Entry := Sg.entry dots_Put.sg fun x => dots_Put.f k x.1 x.2
theorem dots_Put.ok (k : Nat) : CallOK Tryz.prog 80 (dots_Put.e k) := fn_ok (c := dots_Put.cx k) (code := dots_Put.body) (TT.of tt_ok pp_ok mm_ok) (fns_ok ⟨(dot_Right.ok k), (dots_Has.ok k), (slices_BinarySearchFunc_api_Dot_api_Dot_api_Dot_dot_Compare.ok k), (dot_Compare.ok k), cloneDot_ok, insDot_ok, (dots_made.ok k), trivial⟩) mixed Tryz.func80 (by kernel_rfl) (by kernel_rfl) (by kernel_rfl) (by kernel_rfl) (by kernel_rfl) (by kernel_rfl) (fun x => by kernel_rfl)
noncomputable def state_Put.body : Go.Code := Tryz.f35.body.getD .skip
noncomputable def state_Put.rs : List Go.ResultVar := Tryz.f35.results.toList
def state_Put.regs : List (Nat × RInfo) := [(0, ⟨[2, 3, 4], [2, 3, 4], [0, 1], [], 0, [], [], [], [], []⟩), (1, ri [2,3,4,10] [2,3,4]), (2, ⟨[4], [4], [1], [], 0, [], [], [], [], []⟩), (3, ⟨[2, 3, 4], [2, 3, 4], [5], [], 0, [], [], [], [], []⟩), (4, ⟨[2, 4], [2, 4], [6], [], 0, [], [], [], [], []⟩), (5, ⟨[4], [4], [1], [], 0, [], [], [], [], []⟩)]
noncomputable def state_Put.cx (k : Nat) : Cx := ⟨tt, pp, [(78, (txn_Find.e k)), (79, (txn_Put.e k)), (80, (dots_Put.e k))], state_Put.regs, k, mm⟩
@[reducible] def state_Put.sg : Sg := ⟨[.dat tState, .dat tTxn], [], .dat tState, []⟩
noncomputable def state_Put.f (k : Nat) (a0 : Ty.D tState) (a1 : Ty.D tTxn) : Option (Sg.Out state_Put.sg) := Sg.fn state_Put.sg (state_Put.cx k) state_Put.body state_Put.rs (a0, a1)
noncomputable def state_Put.e (k : Nat) : Entry := Sg.entry state_Put.sg fun x => state_Put.f k x.1 x.2
theorem state_Put.ok (k : Nat) : CallOK Tryz.prog 35 (state_Put.e k) := fn_ok (c := state_Put.cx k) (code := state_Put.body) (TT.of tt_ok pp_ok mm_ok) (fns_ok ⟨(txn_Find.ok k), (txn_Put.ok k), (dots_Put.ok k), trivial⟩) mixed Tryz.func35 (by kernel_rfl) (by kernel_rfl) (by kernel_rfl) (by kernel_rfl) (by kernel_rfl) (by kernel_rfl) (fun x => by kernel_rfl)
noncomputable def state_Time.body : Go.Code := Tryz.f37.body.getD .skip
noncomputable def state_Time.rs : List Go.ResultVar := Tryz.f37.results.toList
def state_Time.regs : List (Nat × RInfo) := [(0, ⟨[1], [1], [0], [], 0, [], [], [], [], []⟩), (1, ri [1,3] [1]), (2, ri [3,7,8,9] []), (3, ⟨[3, 7, 8, 9, 10], [], [], [], 0, [3, 7, 8, 9], [], [], [], []⟩), (4, ⟨[3, 5, 7, 8, 9], [5], [3], [], 0, [], [], [], [], []⟩), (5, ri [3,7,8,9] []), (6, ri [3,7,8,9] []), (7, ri [2] [])]
noncomputable def state_Time.cx (k : Nat) : Cx := ⟨tt, pp, [], state_Time.regs, k, mm⟩
@[reducible] def state_Time.sg : Sg := ⟨[.dat tState], [], .dat (.int .i64), []⟩
noncomputable def state_Time.f (k : Nat) (a0 : Ty.D tState) : Option (Sg.Out state_Time.sg) := Sg.fn state_Time.sg (state_Time.cx k) state_Time.body state_Time.rs a0
noncomputable def state_Time.e (k : Nat) : Entry := Sg.entry state_Time.sg fun x => state_Time.f k x
theorem state_Time.ok (k : Nat) : CallOK Tryz.prog 37 (state_Time.e k) := fn_ok (c := state_Time.cx k) (code := state_Time.body) (TT.of tt_ok pp_ok mm_ok) (fns_ok trivial) mixed Tryz.func37 (by kernel_rfl) (by kernel_rfl) (by kernel_rfl) (by kernel_rfl) (by kernel_rfl) (by kernel_rfl) (fun x => by kernel_rfl)
noncomputable def state_Cells.body : Go.Code := Tryz.f38.body.getD .skip
noncomputable def state_Cells.rs : List Go.ResultVar := Tryz.f38.results.toList
def state_Cells.regs : List (Nat × RInfo) := [(0, ⟨[1], [1], [0], [], 0, [], [], [], [], []⟩), (1, ri [1,3] [1]), (2, ri [3,9,10,11] []), (3, ⟨[3, 9, 10, 11, 12], [], [], [], 0, [3, 9, 10, 11], [], [], [], []⟩), (4, ⟨[3, 5, 9, 10, 11], [5], [3], [], 0, [], [], [], [], []⟩), (5, ri [3,9,10,11,16,17,18] []), (6, ⟨[3, 9, 10, 11, 16, 17, 18, 19], [], [], [], 0, [3, 9, 10, 11, 16, 17, 18], [], [], [], []⟩), (7, ⟨[3, 7, 9, 10, 11, 16, 17, 18], [7], [3], [], 0, [], [], [], [], []⟩), (8, ri [3,9,10,11,16,17,18,24] []), (9, ri [3,9,10,11,16,17,18] []), (10, ri [3,9,10,11,16,17,18] []), (11, ri [3,9,10,11] []), (12, ri [2] [])]
noncomputable def state_Cells.cx (k : Nat) : Cx := ⟨tt, pp, [(81, (op_Gone.e k))], state_Cells.regs, k, mm⟩
@[reducible] def state_Cells.sg : Sg := ⟨[.dat tState], [], .dat (.int .i64), []⟩
noncomputable def state_Cells.f (k : Nat) (a0 : Ty.D tState) : Option (Sg.Out state_Cells.sg) := Sg.fn state_Cells.sg (state_Cells.cx k) state_Cells.body state_Cells.rs a0
noncomputable def state_Cells.e (k : Nat) : Entry := Sg.entry state_Cells.sg fun x => state_Cells.f k x
theorem state_Cells.ok (k : Nat) : CallOK Tryz.prog 38 (state_Cells.e k) := fn_ok (c := state_Cells.cx k) (code := state_Cells.body) (TT.of tt_ok pp_ok mm_ok) (fns_ok ⟨(op_Gone.ok k), trivial⟩) mixed Tryz.func38 (by kernel_rfl) (by kernel_rfl) (by kernel_rfl) (by kernel_rfl) (by kernel_rfl) (by kernel_rfl) (fun x => by kernel_rfl)
noncomputable def slices_BinarySearchFunc_api_Undo_api_Undo_api_Undo_tally_compare.body : Go.Code := Tryz.f190.body.getD .skip
noncomputable def slices_BinarySearchFunc_api_Undo_api_Undo_api_Undo_tally_compare.rs : List Go.ResultVar := Tryz.f190.results.toList
def slices_BinarySearchFunc_api_Undo_api_Undo_api_Undo_tally_compare.regs : List (Nat × RInfo) := [(0, ri [0,2,4] [4]), (1, ri [0,2,4,8] [4]), (2, ri [0,2,4,8,9,10] [4]), (3, ⟨[0, 2, 4, 8, 9, 10, 17], [4], [], [], 0, [0, 2, 4, 8, 9, 10], [4], [], [], []⟩), (4, ri [0,2,4,8,9,10,11] [4]), (5, ⟨[0, 2, 4, 8, 9, 10, 11, 31], [4], [], [], 8, [], [], [], [[], [], [], [], [], [], [4, 5], [6, 4, 5]], []⟩), (6, ri [0,2,4,8,9,10] [4]), (7, ri [0,2,4,8,9,10] [4]), (8, ⟨[6, 7], [], [], [], 15, [], [], [], [[], [], [], [], [], [], [], [], [], [], [], [9, 10], [11, 9, 10], [11, 9, 10], [11, 9, 10], [11, 9, 10]], []⟩)]
noncomputable def slices_BinarySearchFunc_api_Undo_api_Undo_api_Undo_tally_compare.cx (k : Nat) : Cx := ⟨tt, pp, [(90, (tally_compare.e k))], slices_BinarySearchFunc_api_Undo_api_Undo_api_Undo_tally_compare.regs, k, mm⟩
@[reducible] def slices_BinarySearchFunc_api_Undo_api_Undo_api_Undo_tally_compare.sg : Sg := ⟨[.dat (.slc tUndo), .dat tUndo, .fn 90 0], [], .t2 (.dat (.int .i64)) (.dat .bool), []⟩
noncomputable def slices_BinarySearchFunc_api_Undo_api_Undo_api_Undo_tally_compare.f (k : Nat) (a0 : Ty.D (.slc tUndo)) (a1 : Ty.D tUndo) : Option (Sg.Out slices_BinarySearchFunc_api_Undo_api_Undo_api_Undo_tally_compare.sg) := Sg.fn slices_BinarySearchFunc_api_Undo_api_Undo_api_Undo_tally_compare.sg (slices_BinarySearchFunc_api_Undo_api_Undo_api_Undo_tally_compare.cx k) slices_BinarySearchFunc_api_Undo_api_Undo_api_Undo_tally_compare.body slices_BinarySearchFunc_api_Undo_api_Undo_api_Undo_tally_compare.rs (a0, a1)
noncomputable def slices_BinarySearchFunc_api_Undo_api_Undo_api_Undo_tally_compare.e (k : Nat) : Entry := Sg.entry slices_BinarySearchFunc_api_Undo_api_Undo_api_Undo_tally_compare.sg fun x => slices_BinarySearchFunc_api_Undo_api_Undo_api_Undo_tally_compare.f k x.1 x.2
theorem slices_BinarySearchFunc_api_Undo_api_Undo_api_Undo_tally_compare.ok (k : Nat) : CallOK Tryz.prog 190 (slices_BinarySearchFunc_api_Undo_api_Undo_api_Undo_tally_compare.e k) := fn_ok (c := slices_BinarySearchFunc_api_Undo_api_Undo_api_Undo_tally_compare.cx k) (code := slices_BinarySearchFunc_api_Undo_api_Undo_api_Undo_tally_compare.body) (TT.of tt_ok pp_ok mm_ok) (fns_ok ⟨(tally_compare.ok k), trivial⟩) mixed Tryz.func190 (by kernel_rfl) (by kernel_rfl) (by kernel_rfl) (by kernel_rfl) (by kernel_rfl) (by kernel_rfl) (fun x => by kernel_rfl)
noncomputable def tally_at.body : Go.Code := Tryz.f179.body.getD .skip
noncomputable def tally_at.rs : List Go.ResultVar := Tryz.f179.results.toList
def tally_at.regs : List (Nat × RInfo) := [(0, ri [0,3] [3]), (1, ri [4,5] [9])]
noncomputable def tally_at.cx (k : Nat) : Cx := ⟨tt, pp, [(190, (slices_BinarySearchFunc_api_Undo_api_Undo_api_Undo_tally_compare.e k)), (90, (tally_compare.e k))], tally_at.regs, k, mm⟩
@[reducible] def tally_at.sg : Sg := ⟨[.dat (.slc tUndo), .dat tDot], [], .t2 (.dat (.int .i64)) (.dat .bool), []⟩
noncomputable def tally_at.f (k : Nat) (a0 : Ty.D (.slc tUndo)) (a1 : Ty.D tDot) : Option (Sg.Out tally_at.sg) := Sg.fn tally_at.sg (tally_at.cx k) tally_at.body tally_at.rs (a0, a1)
noncomputable def tally_at.e (k : Nat) : Entry := Sg.entry tally_at.sg fun x => tally_at.f k x.1 x.2
theorem tally_at.ok (k : Nat) : CallOK Tryz.prog 179 (tally_at.e k) := fn_ok (c := tally_at.cx k) (code := tally_at.body) (TT.of tt_ok pp_ok mm_ok) (fns_ok ⟨(slices_BinarySearchFunc_api_Undo_api_Undo_api_Undo_tally_compare.ok k), (tally_compare.ok k), trivial⟩) mixed Tryz.func179 (by kernel_rfl) (by kernel_rfl) (by kernel_rfl) (by kernel_rfl) (by kernel_rfl) (by kernel_rfl) (fun x => by kernel_rfl)
noncomputable def tally_Get.body : Go.Code := Tryz.f156.body.getD .skip
noncomputable def tally_Get.rs : List Go.ResultVar := Tryz.f156.results.toList
def tally_Get.regs : List (Nat × RInfo) := [(0, ri [0,3] [3]), (1, ri [0,5,6] [10]), (2, ri [0,5,13] [10]), (3, ri [4] []), (4, ri [4] [])]
noncomputable def tally_Get.cx (k : Nat) : Cx := ⟨tt, pp, [(179, (tally_at.e k))], tally_Get.regs, k, mm⟩
@[reducible] def tally_Get.sg : Sg := ⟨[.dat (.slc tUndo), .dat tDot], [], .dat (.int .i64), []⟩
noncomputable def tally_Get.f (k : Nat) (a0 : Ty.D (.slc tUndo)) (a1 : Ty.D tDot) : Option (Sg.Out tally_Get.sg) := Sg.fn tally_Get.sg (tally_Get.cx k) tally_Get.body tally_Get.rs (a0, a1)
noncomputable def tally_Get.e (k : Nat) : Entry := Sg.entry tally_Get.sg fun x => tally_Get.f k x.1 x.2
theorem tally_Get.ok (k : Nat) : CallOK Tryz.prog 156 (tally_Get.e k) := fn_ok (c := tally_Get.cx k) (code := tally_Get.body) (TT.of tt_ok pp_ok mm_ok) (fns_ok ⟨(tally_at.ok k), trivial⟩) mixed Tryz.func156 (by kernel_rfl) (by kernel_rfl) (by kernel_rfl) (by kernel_rfl) (by kernel_rfl) (by kernel_rfl) (fun x => by kernel_rfl)
noncomputable def tally_Seen.body : Go.Code := Tryz.f118.body.getD .skip
noncomputable def tally_Seen.rs : List Go.ResultVar := Tryz.f118.results.toList
def tally_Seen.regs : List (Nat × RInfo) := [(0, ri [0,3] [3]), (1, ri [4] [])]
noncomputable def tally_Seen.cx (k : Nat) : Cx := ⟨tt, pp, [(156, (tally_Get.e k))], tally_Seen.regs, k, mm⟩
@[reducible] def tally_Seen.sg : Sg := ⟨[.dat (.slc tUndo), .dat tDot], [], .dat .bool, []⟩
noncomputable def tally_Seen.f (k : Nat) (a0 : Ty.D (.slc tUndo)) (a1 : Ty.D tDot) : Option (Sg.Out tally_Seen.sg) := Sg.fn tally_Seen.sg (tally_Seen.cx k) tally_Seen.body tally_Seen.rs (a0, a1)
noncomputable def tally_Seen.e (k : Nat) : Entry := Sg.entry tally_Seen.sg fun x => tally_Seen.f k x.1 x.2
theorem tally_Seen.ok (k : Nat) : CallOK Tryz.prog 118 (tally_Seen.e k) := fn_ok (c := tally_Seen.cx k) (code := tally_Seen.body) (TT.of tt_ok pp_ok mm_ok) (fns_ok ⟨(tally_Get.ok k), trivial⟩) mixed Tryz.func118 (by kernel_rfl) (by kernel_rfl) (by kernel_rfl) (by kernel_rfl) (by kernel_rfl) (by kernel_rfl) (fun x => by kernel_rfl)
noncomputable def live_covered.body : Go.Code := Tryz.f117.body.getD .skip
noncomputable def live_covered.rs : List Go.ResultVar := Tryz.f117.results.toList
def live_covered.regs : List (Nat × RInfo) := [(0, ri [0,1] []), (1, ri [0,1,5] [12]), (2, ri [1,5,13,14,15] [12]), (3, ⟨[1, 5, 13, 14, 15, 16], [12], [], [], 0, [1, 5, 13, 14, 15], [12], [], [], []⟩), (4, ⟨[1, 5, 7, 13, 14, 15], [7, 12], [3], [], 0, [], [], [], [], []⟩), (5, ri [1,5,7,13,14,15,23] [7,12]), (6, ri [1,5,13,14,15,25,26,27] [12]), (7, ⟨[1, 5, 13, 14, 15, 25, 26, 27, 28], [12], [], [], 0, [1, 5, 13, 14, 15, 25, 26, 27], [12], [], [], []⟩), (8, ⟨[1, 5, 9, 13, 14, 15, 25, 26, 27], [9, 12], [3], [], 0, [], [], [], [], []⟩), (9, ri [1,5,13,14,15,25,26,27,32,33,34] [12]), (10, ⟨[1, 5, 13, 14, 15, 25, 26, 27, 32, 33, 34, 35], [12], [], [], 0, [1, 5, 13, 14, 15, 25, 26, 27, 32, 33, 34], [12], [], [], []⟩), (11, ri [1,5,11,13,14,15,25,26,27,32,33,34] [11,12]), (12, ri [1,5,13,14,15,25,26,27,32,33,34] [12]), (13, ri [1,5,13,14,15,25,26,27,32,33,34] [12]), (14, ri [1,5,13,14,15,25,26,27] [12]), (15, ri [1,5,13,14,15] [12]), (16, ri [4] [12])]
noncomputable def live_covered.cx (k : Nat) : Cx := ⟨tt, pp, [(118, (tally_Seen.e k))], live_covered.regs, k, mm⟩
@[reducible] def live_covered.sg : Sg := ⟨[.dat (.slc tTxn), .dat (.slc tUndo)], [], .newm, [(.map tUndo .bool)]⟩
noncomputable def live_covered.f (k : Nat) (a0 : Ty.D (.slc tTxn)) (a1 : Ty.D (.slc tUndo)) : Option (Sg.Out live_covered.sg) := Sg.fn live_covered.sg (live_covered.cx k) live_covered.body live_covered.rs (a0, a1)
noncomputable def live_covered.e (k : Nat) : Entry := Sg.entry live_covered.sg fun x => live_covered.f k x.1 x.2
theorem live_covered.ok (k : Nat) : CallOK Tryz.prog 117 (live_covered.e k) := fn_ok (c := live_covered.cx k) (code := live_covered.body) (TT.of tt_ok pp_ok mm_ok) (fns_ok ⟨(tally_Seen.ok k), trivial⟩) mixed Tryz.func117 (by kernel_rfl) (by kernel_rfl) (by kernel_rfl) (by kernel_rfl) (by kernel_rfl) (by kernel_rfl) (fun x => by kernel_rfl)
noncomputable def live_All.body : Go.Code := Tryz.f82.body.getD .skip
noncomputable def live_All.rs : List Go.ResultVar := Tryz.f82.results.toList
def live_All.regs : List (Nat × RInfo) := [(0, ri [0,1] []), (1, ri [0,1,5] [14]), (2, ri [0,1,5,6] [14]), (3, ri [1,5,6,15,16,17] [14]), (4, ⟨[1, 5, 6, 15, 16, 17, 18], [14], [], [], 0, [1, 5, 6, 15, 16, 17], [14], [], [], []⟩), (5, ⟨[1, 5, 6, 8, 15, 16, 17], [8, 14], [3], [], 0, [], [], [], [], []⟩), (6, ri [1,5,6,8,15,16,17,25] [8,14]), (7, ri [1,5,6,8,15,16,17,27,28,29] [8,14]), (8, ⟨[1, 5, 6, 8, 15, 16, 17, 27, 28, 29, 30], [8, 14], [], [], 0, [1, 5, 6, 8, 15, 16, 17, 27, 28, 29], [8, 14], [], [], []⟩), (9, ⟨[1, 5, 6, 8, 9, 10, 15, 16, 17, 27, 28, 29], [8, 10, 14], [5], [], 0, [], [], [], [], []⟩), (10, ri [1,5,6,8,10,11,15,16,17,27,28,29] [8,10,11,14]), (11, ri [1,5,6,8,10,11,15,16,17,27,28,29,56] [8,10,11,14]), (12, ⟨[1, 5, 6, 8, 15, 16, 17, 27, 28, 29], [8, 14], [0, 7, 8], [], 0, [], [], [], [], []⟩), (13, ri [1,5,6,8,15,16,17,27,28,29] [8,14]), (14, ri [1,5,6,15,16,17] [14]), (15, ⟨[4], [], [0, 1], [], 0, [], [], [], [], []⟩)]
noncomputable def live_All.cx (k : Nat) : Cx := ⟨tt, pp, [(117, (live_covered.e k)), (118, (tally_Seen.e k))], live_All.regs, k, mm⟩
@[reducible] def live_All.sg : Sg := ⟨[.dat (.slc tTxn), .dat (.slc tUndo)], [], .own tItem, []⟩
noncomputable def live_All.f (k : Nat) (a0 : Ty.D (.slc tTxn)) (a1 : Ty.D (.slc tUndo)) : Option (Sg.Out live_All.sg) := Sg.fn live_All.sg (live_All.cx k) live_All.body live_All.rs (a0, a1)
noncomputable def live_All.e (k : Nat) : Entry := Sg.entry live_All.sg fun x => live_All.f k x.1 x.2
theorem live_All.ok (k : Nat) : CallOK Tryz.prog 82 (live_All.e k) := fn_ok (c := live_All.cx k) (code := live_All.body) (TT.of tt_ok pp_ok mm_ok) (fns_ok ⟨(live_covered.ok k), (tally_Seen.ok k), trivial⟩) mixed Tryz.func82 (by kernel_rfl) (by kernel_rfl) (by kernel_rfl) (by kernel_rfl) (by kernel_rfl) (by kernel_rfl) (fun x => by kernel_rfl)
noncomputable def state_Items.body : Go.Code := Tryz.f39.body.getD .skip
noncomputable def state_Items.rs : List Go.ResultVar := Tryz.f39.results.toList
def state_Items.regs : List (Nat × RInfo) := [(0, ⟨[1], [1], [0], [], 0, [], [], [], [], []⟩), (1, ⟨[2], [7], [5], [], 0, [], [], [], [], []⟩)]
noncomputable def state_Items.cx (k : Nat) : Cx := ⟨tt, pp, [(82, (live_All.e k))], state_Items.regs, k, mm⟩
@[reducible] def state_Items.sg : Sg := ⟨[.dat tState], [], .own tItem, []⟩
noncomputable def state_Items.f (k : Nat) (a0 : Ty.D tState) : Option (Sg.Out state_Items.sg) := Sg.fn state_Items.sg (state_Items.cx k) state_Items.body state_Items.rs a0
noncomputable def state_Items.e (k : Nat) : Entry := Sg.entry state_Items.sg fun x => state_Items.f k x
theorem state_Items.ok (k : Nat) : CallOK Tryz.prog 39 (state_Items.e k) := fn_ok (c := state_Items.cx k) (code := state_Items.body) (TT.of tt_ok pp_ok mm_ok) (fns_ok ⟨(live_All.ok k), trivial⟩) mixed Tryz.func39 (by kernel_rfl) (by kernel_rfl) (by kernel_rfl) (by kernel_rfl) (by kernel_rfl) (by kernel_rfl) (fun x => by kernel_rfl)
noncomputable def law22_awake.body : Go.Code := Tryz.f12.body.getD .skip
noncomputable def law22_awake.rs : List Go.ResultVar := Tryz.f12.results.toList
def law22_awake.regs : List (Nat × RInfo) := [(0, ri [] []), (1, ⟨[1], [1], [4], [], 0, [], [], [], [], []⟩), (2, ri [0] [6,14])]
noncomputable def law22_awake.cx (k : Nat) : Cx := ⟨tt, pp, [(36, (law22_one.e k)), (35, (state_Put.e k)), (26, (state_Right.e k)), (37, (state_Time.e k)), (38, (state_Cells.e k)), (39, (state_Items.e k))], law22_awake.regs, k, mm⟩
@[reducible] def law22_awake.sg : Sg := ⟨[], [], .dat .bool, []⟩
noncomputable def law22_awake.f (k : Nat) : Option (Sg.Out law22_awake.sg) := Sg.fn law22_awake.sg (law22_awake.cx k) law22_awake.body law22_awake.rs ()
noncomputable def law22_awake.e (k : Nat) : Entry := Sg.entry law22_awake.sg fun x => law22_awake.f k
theorem law22_awake.ok (k : Nat) : CallOK Tryz.prog 12 (law22_awake.e k) := fn_ok (c := law22_awake.cx k) (code := law22_awake.body) (TT.of tt_ok pp_ok mm_ok) (fns_ok ⟨(law22_one.ok k), (state_Put.ok k), (state_Right.ok k), (state_Time.ok k), (state_Cells.ok k), (state_Items.ok k), trivial⟩) mixed Tryz.func12 (by kernel_rfl) (by kernel_rfl) (by kernel_rfl) (by kernel_rfl) (by kernel_rfl) (by kernel_rfl) (fun x => by kernel_rfl)
noncomputable def law22_StateReads.body : Go.Code := Tryz.f3.body.getD .skip
noncomputable def law22_StateReads.rs : List Go.ResultVar := Tryz.f3.results.toList
def law22_StateReads.regs : List (Nat × RInfo) := [(0, ri [0] []), (1, ri [0,7] []), (2, ri [0] []), (3, ri [0,3] [11]), (4, ri [3,4] [11,14]), (5, ⟨[2], [19, 37], [], [], 24, [], [], [], [[], [], [], [1], [1, 3], [1, 3], [1, 3], [1, 3], [1, 3], [1, 3], [1, 3], [1, 3], [7, 1, 3, 11], [1, 3, 7, 11], [1, 3, 7, 11], [1, 3, 7, 11], [1, 3, 7, 11], [1, 3, 7, 11], [1, 3, 7, 11, 16], [16, 1, 3, 7, 11, 18], [1, 3, 7, 11, 16, 18], [1, 3, 7, 11, 16, 18], [1, 3, 7, 11, 16, 18], [1, 3, 7, 11, 16, 18], [1, 3, 7, 11, 16, 18]], []⟩)]
noncomputable def law22_StateReads.cx (k : Nat) : Cx := ⟨tt, pp, [(5, (pack_Open.e k)), (7, (state_Read.e k)), (8, (ref22_Read.e k)), (6, (ref22_Same.e k)), (9, (pack_Reader_Fault.e k)), (10, (pack_Reader_Left.e k)), (11, (ref02_Reader_Left.e k)), (12, (law22_awake.e k))], law22_StateReads.regs, k, mm⟩
@[reducible] def law22_StateReads.sg : Sg := ⟨[.dat .str], [], .dat .bool, []⟩
noncomputable def law22_StateReads.f (k : Nat) (a0 : Ty.D .str) : Option (Sg.Out law22_StateReads.sg) := Sg.fn law22_StateReads.sg (law22_StateReads.cx k) law22_StateReads.body law22_StateReads.rs a0
theorem law22_StateReads.f_eq (k : Nat) (a0 : Ty.D .str) : law22_StateReads.f k a0 = br (ilt 600 (ilen a0)) (br (inS 0 600 (ilen a0)) (bnd (pack_Open.f k (piece a0 0 600)) fun r0 => bnd (state_Read.f k r0.2) fun r1 => bnd (ref22_Read.f k ((piece a0 0 600), (0, 0))) fun r2 => bnd (ref22_Same.f k r1.1 r2.1) fun r3 => br r3 (bnd (pack_Reader_Fault.f k r1.2) fun r4 => br (ieq r4.1 r2.2.2.2) (bnd (pack_Reader_Left.f k r4.2) fun r5 => bnd (ref02_Reader_Left.f k r2.2) fun r6 => br (ieq r5.1 r6.1) (bnd (law22_awake.f k) fun r7 => some r7) (some false)) (some false)) (some false)) none) (bnd (pack_Open.f k a0) fun r8 => bnd (state_Read.f k r8.2) fun r9 => bnd (ref22_Read.f k (a0, (0, 0))) fun r10 => bnd (ref22_Same.f k r9.1 r10.1) fun r11 => br r11 (bnd (pack_Reader_Fault.f k r9.2) fun r12 => br (ieq r12.1 r10.2.2.2) (bnd (pack_Reader_Left.f k r12.2) fun r13 => bnd (ref02_Reader_Left.f k r10.2) fun r14 => br (ieq r13.1 r14.1) (bnd (law22_awake.f k) fun r15 => some r15) (some false)) (some false)) (some false)) := by kernel_rfl
noncomputable def law22_StateReads.e (k : Nat) : Entry := Sg.entry law22_StateReads.sg fun x => law22_StateReads.f k x
theorem law22_StateReads.ok (k : Nat) : CallOK Tryz.prog 3 (law22_StateReads.e k) := fn_ok (c := law22_StateReads.cx k) (code := law22_StateReads.body) (TT.of tt_ok pp_ok mm_ok) (fns_ok ⟨(pack_Open.ok k), (state_Read.ok k), (ref22_Read.ok k), (ref22_Same.ok k), (pack_Reader_Fault.ok k), (pack_Reader_Left.ok k), (ref02_Reader_Left.ok k), (law22_awake.ok k), trivial⟩) mixed Tryz.func3 (by kernel_rfl) (by kernel_rfl) (by kernel_rfl) (by kernel_rfl) (by kernel_rfl) (by kernel_rfl) (fun x => by kernel_rfl)
@[reducible] def ref10_Short.sg : Sg := ⟨[.dat (.slc .str)], [], .dat .bool, []⟩
@[reducible] def ref11_Short.sg : Sg := ⟨[.dat tOp], [], .dat .bool, []⟩
@[reducible] def ref12_Short.sg : Sg := ⟨[.dat tTxn], [], .dat .bool, []⟩
@[reducible] def ref22_Short.sg : Sg := ⟨[.dat tState], [], .dat .bool, []⟩
@[reducible] def ref22_Good.sg : Sg := ⟨[.dat tState], [], .dat .bool, []⟩
@[reducible] def dot_Code.sg : Sg := ⟨[.dat tDot], [], .dat .str, []⟩
@[reducible] def pack_Text.sg : Sg := ⟨[.dat .str], [], .dat .str, []⟩
@[reducible] def path_Code.sg : Sg := ⟨[.dat (.slc .str)], [], .dat .str, []⟩
@[reducible] def value_Fold.sg : Sg := ⟨[.dat (.int .i64)], [], .dat (.int .i64), []⟩
@[reducible] def value_Code.sg : Sg := ⟨[.dat tValue], [], .dat .str, []⟩
@[reducible] def op_Code.sg : Sg := ⟨[.dat tOp], [], .dat .str, []⟩
@[reducible] def txn_Code.sg : Sg := ⟨[.dat tTxn], [], .dat .str, []⟩
@[reducible] def txn_List.sg : Sg := ⟨[.dat (.slc tTxn)], [], .dat .str, []⟩
@[reducible] def tally_Code.sg : Sg := ⟨[.dat (.slc tUndo)], [], .dat .str, []⟩
@[reducible] def vec_Code.sg : Sg := ⟨[.dat tVec], [], .dat .str, []⟩
@[reducible] def dots_List.sg : Sg := ⟨[.dat (.slc tDot)], [], .dat .str, []⟩
@[reducible] def dots_Code.sg : Sg := ⟨[.dat tDots], [], .dat .str, []⟩
@[reducible] def state_Code.sg : Sg := ⟨[.dat tState], [], .dat .str, []⟩
@[reducible] def pack_Reader_End.sg : Sg := ⟨[.ref], [tpackReader], .dat (.int .i64), [tpackReader]⟩
@[reducible] def law22_StateBack.sg : Sg := ⟨[.dat tState], [], .dat .bool, []⟩
end Go.Proofs.YtbiihldcljemfaaGreatDoor
end
section
/- Sets of dots: one way to stand. -/
namespace Go.Proofs.YtbiihldcljemfaaGreatDoor
open Pal
abbrev Vec := List Int
abbrev DSet := Vec × List Dot
def vat (v : Vec) (r : Int) : Int := rd (.int .i64) v (natOf r)
theorem rightD_iff (d : Dot) : rightD d = true ↔ 0 ≤ d.1 ∧ d.1 < 16 ∧ 1 ≤ d.2 ∧ d.2 ≤ 1048576 := by unfold rightD; rw [decide_eq_true_iff]
theorem vat_get {v : Vec} {i : Nat} (h : i < v.length) : vat v (i : Int) = v[i] := by unfold vat; rw [natOf_nat]; exact rd_at' (e := .int .i64) h
theorem vat_upd {v : Vec} {r : Int} {x : Int} (h0 : 0 ≤ r) (h1 : r < v.length) (q : Int) (hq : 0 ≤ q) : vat (upd v (natOf r) x) q = if q = r then x else vat v q := by
  obtain ⟨a, rfl⟩ := Int.eq_ofNat_of_zero_le h0
  obtain ⟨b, rfl⟩ := Int.eq_ofNat_of_zero_le hq
  have ha : a < v.length := by omega
  show ((v.set a x).getD b (0 : Int)) = if ((b : Int) = (a : Int)) then x else v.getD b (0 : Int)
  rw [List.getD_eq_getElem?_getD, List.getD_eq_getElem?_getD, List.getElem?_set]
  by_cases h : a = b
  · subst h; rw [if_pos rfl, if_pos ha, if_pos rfl]; rfl
  · rw [if_neg h, if_neg (by omega)]
structure VOk (v : Vec) : Prop where
  len : v.length = 16
  lo : ∀ r, 0 ≤ r → r < 16 → 0 ≤ vat v r
  hi : ∀ r, 0 ≤ r → r < 16 → vat v r ≤ 1048576
structure Can (s : DSet) : Prop where
  vok : VOk s.1
  rt : ∀ d ∈ s.2, rightD d = true
  gap : ∀ d ∈ s.2, vat s.1 d.1 + 1 < d.2
  srt : s.2.Pairwise (fun a b => dotLt a b = true)
def Mem (s : DSet) (d : Dot) : Prop := rightD d = true ∧ (d.2 ≤ vat s.1 d.1 ∨ d ∈ s.2)
theorem vec_ext {v u : Vec} (h1 : v.length = 16) (h2 : u.length = 16) (h : ∀ r, 0 ≤ r → r < 16 → vat v r = vat u r) : v = u := by
  apply List.ext_getElem (by omega)
  intro i a b
  have := h (i : Int) (by omega) (by omega)
  rwa [vat_get a, vat_get b] at this
theorem dotLt_asym {a b : Dot} (h : dotLt a b = true) : dotLt b a = false := by
  rw [← Bool.not_eq_true, dotLt_iff]; rw [dotLt_iff] at h; omega
theorem srt_nodup {l : List Dot} (h : l.Pairwise (fun a b => dotLt a b = true)) : l.Nodup :=
  h.imp fun {a b} hab e => by subst e; rw [dotLt_swo.irrefl] at hab; cases hab
theorem srt_unique {l m : List Dot} (h1 : l.Pairwise (fun a b => dotLt a b = true)) (h2 : m.Pairwise (fun a b => dotLt a b = true)) (h : ∀ d, d ∈ l ↔ d ∈ m) : l = m :=
  sorted_unique dotLt_tot ((List.perm_ext_iff_of_nodup (srt_nodup h1) (srt_nodup h2)).2 h) (h1.imp dotLt_asym) (h2.imp dotLt_asym)
theorem can_le {s t : DSet} (hs : Can s) (ht : Can t) (h : ∀ d, Mem s d → Mem t d) (r : Int) (h0 : 0 ≤ r) (h1 : r < 16) : vat s.1 r ≤ vat t.1 r := by
  rcases (by omega : vat t.1 r < vat s.1 r ∨ vat s.1 r ≤ vat t.1 r) with hlt | hge
  · exfalso
    have a := ht.vok.lo r h0 h1
    have b := hs.vok.hi r h0 h1
    have hr : rightD (r, vat t.1 r + 1) = true := (rightD_iff _).2 ⟨h0, h1, by show 1 ≤ vat t.1 r + 1; omega, by show vat t.1 r + 1 ≤ 1048576; omega⟩
    have hm := h (r, vat t.1 r + 1) ⟨hr, .inl (by show vat t.1 r + 1 ≤ vat s.1 r; omega)⟩
    rcases hm.2 with c | c
    · have : vat t.1 r + 1 ≤ vat t.1 r := c; omega
    · have : vat t.1 r + 1 < vat t.1 r + 1 := ht.gap _ c; omega
  · exact hge
theorem can_unique {s t : DSet} (hs : Can s) (ht : Can t) (h : ∀ d, Mem s d ↔ Mem t d) : s = t := by
  have hv : ∀ r, 0 ≤ r → r < 16 → vat s.1 r = vat t.1 r := fun r h0 h1 => Int.le_antisymm (can_le hs ht (fun d => (h d).1) r h0 h1) (can_le ht hs (fun d => (h d).2) r h0 h1)
  apply Prod.ext
  · exact vec_ext hs.vok.len ht.vok.len hv
  · refine srt_unique hs.srt ht.srt fun d => ⟨fun hd => ?_, fun hd => ?_⟩
    · have hr := hs.rt d hd
      obtain ⟨a, b, _, _⟩ := (rightD_iff d).1 hr
      rcases ((h d).1 ⟨hr, .inr hd⟩).2 with c | c
      · have := hs.gap d hd; rw [hv d.1 a b] at this; omega
      · exact c
    · have hr := ht.rt d hd
      obtain ⟨a, b, _, _⟩ := (rightD_iff d).1 hr
      rcases ((h d).2 ⟨hr, .inr hd⟩).2 with c | c
      · have := ht.gap d hd; rw [← hv d.1 a b] at this; omega
      · exact c
def put1 (s : DSet) (d : Dot) : DSet :=
  if d.2 ≤ vat s.1 d.1 then s else if d.2 = vat s.1 d.1 + 1 then (upd s.1 (natOf d.1) d.2, s.2) else if s.2.getLast? = some d then s else (s.1, s.2 ++ [d])
theorem put1_can {s : DSet} {d : Dot} (hs : Can s) (hd : rightD d = true) (hb : ∀ e ∈ s.2, dotLt d e = false) : Can (put1 s d) ∧ (∀ x, Mem (put1 s d) x ↔ Mem s x ∨ x = d) ∧ (∀ e ∈ (put1 s d).2, e ∈ s.2 ∨ e = d) := by
  obtain ⟨a, b, c1, c2⟩ := (rightD_iff d).1 hd
  have hlen := hs.vok.len
  unfold put1
  by_cases h1 : d.2 ≤ vat s.1 d.1
  · rw [if_pos h1]
    exact ⟨hs, fun x => ⟨.inl, fun h => h.elim id fun e => by subst e; exact ⟨hd, .inl h1⟩⟩, fun e he => .inl he⟩
  · rw [if_neg h1]
    by_cases h2 : d.2 = vat s.1 d.1 + 1
    · rw [if_pos h2]
      have hne : ∀ e ∈ s.2, e.1 ≠ d.1 := fun e he hee => by
        have g := hs.gap e he
        have := hb e he
        rw [← Bool.not_eq_true, dotLt_iff] at this
        rw [hee] at g
        omega
      have hv : ∀ q, 0 ≤ q → q < 16 → vat (upd s.1 (natOf d.1) d.2) q = if q = d.1 then d.2 else vat s.1 q := fun q h0 _ => vat_upd a (by omega) q h0
      refine ⟨⟨⟨by simp [upd, hlen], fun r h0 h1 => ?_, fun r h0 h1 => ?_⟩, hs.rt, fun e he => ?_, hs.srt⟩, fun x => ⟨fun ⟨hr, h⟩ => ?_, fun h => ?_⟩, fun e he => .inl he⟩
      · rw [hv r h0 h1]; split
        · omega
        · exact hs.vok.lo r h0 h1
      · rw [hv r h0 h1]; split
        · omega
        · exact hs.vok.hi r h0 h1
      · obtain ⟨q0, q1, _, _⟩ := (rightD_iff e).1 (hs.rt e he)
        show vat (upd s.1 (natOf d.1) d.2) e.1 + 1 < e.2
        rw [hv e.1 q0 q1, if_neg (hne e he)]; exact hs.gap e he
      · obtain ⟨q0, q1, _, _⟩ := (rightD_iff x).1 hr
        rcases h with h | h
        · have h : x.2 ≤ vat (upd s.1 (natOf d.1) d.2) x.1 := h
          rw [hv x.1 q0 q1] at h
          split at h
          · rename_i hx
            by_cases he : x.2 = d.2
            · exact .inr (Prod.ext hx he)
            · exact .inl ⟨hr, .inl (by rw [hx]; omega)⟩
          · exact .inl ⟨hr, .inl h⟩
        · exact .inl ⟨hr, .inr h⟩
      · rcases h with ⟨hr, h⟩ | rfl
        · obtain ⟨q0, q1, _, _⟩ := (rightD_iff x).1 hr
          rcases h with h | h
          · refine ⟨hr, .inl ?_⟩
            show x.2 ≤ vat (upd s.1 (natOf d.1) d.2) x.1
            rw [hv x.1 q0 q1]; split
            · rename_i hx; rw [hx] at h; omega
            · exact h
          · exact ⟨hr, .inr h⟩
        · refine ⟨hd, .inl ?_⟩
          show x.2 ≤ vat (upd s.1 (natOf x.1) x.2) x.1
          rw [hv x.1 a b, if_pos rfl]; exact Int.le_refl _
    · rw [if_neg h2]
      by_cases h3 : s.2.getLast? = some d
      · rw [if_pos h3]
        have hmem : d ∈ s.2 := List.mem_of_getLast? h3
        exact ⟨hs, fun x => ⟨.inl, fun h => h.elim id fun e => by subst e; exact ⟨hd, .inr hmem⟩⟩, fun e he => .inl he⟩
      · rw [if_neg h3]
        have hlt : ∀ e ∈ s.2, dotLt e d = true := by
          intro e he
          cases hh : dotLt e d with
          | true => rfl
          | false =>
            exfalso
            have heq := dotLt_tot e d hh (hb e he)
            subst heq
            obtain ⟨p, q, hpq⟩ := List.append_of_mem he
            cases q with
            | nil => rw [hpq] at h3; simp at h3
            | cons z zs =>
              have hsr := hs.srt
              rw [hpq] at hsr
              have h5 := (List.pairwise_append.1 hsr).2.1
              have h6 := (List.pairwise_cons.1 h5).1 z (by simp)
              have h7 := hb z (by rw [hpq]; simp)
              rw [h6] at h7; cases h7
        refine ⟨⟨hs.vok, fun e he => ?_, fun e he => ?_, ?_⟩, fun x => ⟨fun ⟨hr, h⟩ => ?_, fun h => ?_⟩, fun e he => ?_⟩
        · rcases List.mem_append.1 he with he | he
          · exact hs.rt e he
          · rw [List.mem_singleton.1 he]; exact hd
        · rcases List.mem_append.1 he with he | he
          · exact hs.gap e he
          · rw [List.mem_singleton.1 he]; show vat s.1 d.1 + 1 < d.2; omega
        · exact List.pairwise_append.2 ⟨hs.srt, List.pairwise_singleton _ _, fun e he f hf => by rw [List.mem_singleton.1 hf]; exact hlt e he⟩
        · rcases h with h | h
          · exact .inl ⟨hr, .inl h⟩
          · rcases List.mem_append.1 h with h | h
            · exact .inl ⟨hr, .inr h⟩
            · exact .inr (List.mem_singleton.1 h)
        · rcases h with ⟨hr, h⟩ | rfl
          · exact ⟨hr, h.imp id fun h => List.mem_append.2 (.inl h)⟩
          · exact ⟨hd, .inr (List.mem_append.2 (.inr (by simp)))⟩
        · rcases List.mem_append.1 he with he | he
          · exact .inl he
          · exact .inr (List.mem_singleton.1 he)
def mk (v : Vec) (l : List Dot) : DSet := l.foldl put1 (v, [])
theorem mk_can {v : Vec} (hv : VOk v) : ∀ (l : List Dot), (∀ d ∈ l, rightD d = true) → l.Pairwise (fun a b => dotLt b a = false) →
    Can (mk v l) ∧ (∀ x, Mem (mk v l) x ↔ rightD x = true ∧ (x.2 ≤ vat v x.1 ∨ x ∈ l)) ∧ (mk v l).2.length ≤ l.length ∧ ∀ e ∈ (mk v l).2, e ∈ l := by
  have key : ∀ (l p : List Dot) (s : DSet), (∀ d ∈ p ++ l, rightD d = true) → (p ++ l).Pairwise (fun a b => dotLt b a = false) → Can s → (∀ x, Mem s x ↔ rightD x = true ∧ (x.2 ≤ vat v x.1 ∨ x ∈ p)) → s.2.length ≤ p.length → (∀ e ∈ s.2, e ∈ p) →
      Can (l.foldl put1 s) ∧ (∀ x, Mem (l.foldl put1 s) x ↔ rightD x = true ∧ (x.2 ≤ vat v x.1 ∨ x ∈ p ++ l)) ∧ (l.foldl put1 s).2.length ≤ (p ++ l).length ∧ ∀ e ∈ (l.foldl put1 s).2, e ∈ p ++ l := by
    intro l
    induction l with
    | nil => intro p s _ _ hc hm hl he; rw [List.append_nil]; exact ⟨hc, hm, hl, he⟩
    | cons d l ih =>
      intro p s hr hp hc hm hl he
      have hd : rightD d = true := hr d (by simp)
      have hbb : ∀ e ∈ s.2, dotLt d e = false := fun e hee => (List.pairwise_append.1 hp).2.2 e (he e hee) d (by simp)
      obtain ⟨c1, c2, c3⟩ := put1_can hc hd hbb
      have := ih (p ++ [d]) (put1 s d) (by simpa using hr) (by simpa using hp) c1 (fun x => by
          rw [c2, hm]
          constructor
          · rintro (⟨h1, h2⟩ | rfl)
            · exact ⟨h1, h2.imp id fun h => List.mem_append.2 (.inl h)⟩
            · exact ⟨hd, .inr (by simp)⟩
          · rintro ⟨h1, h2 | h2⟩
            · exact .inl ⟨h1, .inl h2⟩
            · rcases List.mem_append.1 h2 with h3 | h3
              · exact .inl ⟨h1, .inr h3⟩
              · exact .inr (List.mem_singleton.1 h3)) (by
          unfold put1; simp only [List.length_append, List.length_singleton]
          split
          · omega
          · split
            · show s.2.length ≤ _; omega
            · split
              · omega
              · simp; omega) (fun e hee => by
          rcases c3 e hee with h | h
          · exact List.mem_append.2 (.inl (he e h))
          · exact List.mem_append.2 (.inr (by simp [h])))
      rw [List.append_assoc] at this; exact this
  intro l hr hs
  have h0 : Can (v, []) := ⟨hv, fun d hd => by simp at hd, fun d hd => by simp at hd, List.Pairwise.nil⟩
  have := key l [] (v, []) (by simpa using hr) (by simpa using hs) h0 (fun x => by simp [Mem]) (Nat.le_refl _) (fun e he => he)
  exact this
end Go.Proofs.YtbiihldcljemfaaGreatDoor
end
section
/- What the functions of the layer of dots compute. -/
namespace Go.Proofs.YtbiihldcljemfaaGreatDoor
open Pal
theorem iadd_s {a b : Int} (h1 : -1000000000000 ≤ a) (h2 : a ≤ 1000000000000) (h3 : -1000000000000 ≤ b) (h4 : b ≤ 1000000000000) : iadd .i64 a b = a + b := by
  have e1 : ((2 : Int) ^ 63) = 9223372036854775808 := by decide
  show IntKind.wrap .i64 (a + b) = _
  rw [wrap_i64 (by rw [e1]; omega) (by rw [e1]; omega)]
theorem isub_s {a b : Int} (h1 : -1000000000000 ≤ a) (h2 : a ≤ 1000000000000) (h3 : -1000000000000 ≤ b) (h4 : b ≤ 1000000000000) : isub .i64 a b = a - b := by
  have e1 : ((2 : Int) ^ 63) = 9223372036854775808 := by decide
  show IntKind.wrap .i64 (a - b) = _
  rw [wrap_i64 (by rw [e1]; omega) (by rw [e1]; omega)]
theorem inB16 {r : Int} (h0 : 0 ≤ r) (h1 : r < 16) : inB r 16 = true := by simp [inB, h0]; omega
theorem room1 {α : Type} {xs : List α} {x : α} (h : xs.length < 4000000) : room xs (x :: []) = true := by simp [room]; omega
theorem ile_dec (a b : Int) : ile a b = decide (a ≤ b) := rfl
theorem ilt_dec (a b : Int) : ilt a b = decide (a < b) := rfl
theorem deqD (a b : Dot) : deq tDot a b = decide (a = b) := deq_dec (τ := tDot) rfl a b
theorem last_rd {M : List Dot} {m : Nat} (hl : M.length = m + 1) (hb : m < 4000000) : rd tDot M (natOf (isub .i64 (ilen M) 1)) = M[m] := by
  rw [isub_s (by unfold ilen; omega) (by unfold ilen; omega) (by omega) (by omega), show ilen M - 1 = (m : Int) by unfold ilen; omega, natOf_nat]
  exact rd_at' (e := tDot) (by omega)
theorem last_in {M : List Dot} {m : Nat} (hl : M.length = m + 1) (hb : m < 4000000) : inL (isub .i64 (ilen M) 1) M = true := by
  rw [isub_s (by unfold ilen; omega) (by unfold ilen; omega) (by omega) (by omega), show ilen M - 1 = (m : Int) by unfold ilen; omega, inL_nat]
  simp; omega
theorem getLast_is {M : List Dot} {m : Nat} (hl : M.length = m + 1) : M.getLast? = some M[m] := by
  rw [List.getLast?_eq_getElem?]; exact List.getElem?_eq_some_iff.2 ⟨by omega, by simp [hl]⟩
theorem take_next {l : List Dot} {i : Nat} (hi : i < l.length) : l.take (i + 1) = l.take i ++ [l[i]] := by rw [List.take_add_one, List.getElem?_eq_getElem hi]; rfl
theorem made_l (k : Nat) (l : List Dot) (hl : l.length < 1000000) (hr : ∀ d ∈ l, rightD d = true) (hs : l.Pairwise (fun a b => dotLt b a = false)) (v : Vec) (hv : VOk v) (za : Vec) (zb : List Dot) : ∀ (n i : Nat), i ≤ l.length → l.length < n + i →
    dots_made.l3 k n l (ilen l) (i : Int) za zb (mk v (l.take i)).1 (mk v (l.take i)).2 = some (mk v l)
  | 0, i, h, h' => by omega
  | n + 1, i, h, h' => by
    rw [dots_made.l3_eq, ilt_nat, inL_nat, natOf_nat]
    by_cases hi : i < l.length
    · have hstep : mk v (l.take (i + 1)) = put1 (mk v (l.take i)) l[i] := by rw [take_next hi]; unfold mk; rw [List.foldl_append]; rfl
      obtain ⟨hc, hm, hml, _⟩ := mk_can hv (l.take i) (fun d hd => hr d (List.mem_of_mem_take hd)) (hs.sublist (List.take_sublist i l))
      have ih := made_l k l hl hr hs v hv za zb n (i + 1) (by omega) (by omega)
      rw [hstep] at ih
      have hmk : mk v (l.take i) = mk v (l.take i) := rfl
      generalize mk v (l.take i) = s at hc hm hml ih hstep ⊢
      obtain ⟨V, M⟩ := s
      obtain ⟨r0, r1, r2, r3⟩ := (rightD_iff l[i]).1 (hr _ (List.getElem_mem hi))
      rw [rd_at' (e := tDot) hi, iadd_nat (by omega)]
      obtain ⟨d, hd⟩ : ∃ d : Dot, d = l[i] := ⟨_, rfl⟩
      rw [← hd] at r0 r1 r2 r3 ih ⊢
      have hvv : rd (.int .i64) V (natOf d.1) = vat V d.1 := rfl
      have v0 := hc.vok.lo d.1 r0 r1
      have v1 := hc.vok.hi d.1 r0 r1
      have v0' : 0 ≤ vat V d.1 := v0
      have v1' : vat V d.1 ≤ 1048576 := v1
      have hML : M.length ≤ i := by have : M.length ≤ (l.take i).length := hml; rw [List.length_take] at this; omega
      simp only [hi, decide_true, br_true, inB16 r0 r1, hvv, ile_dec]
      rw [iadd_s (by omega) (by omega) (by omega) (by omega), ieq_dec, ieq_dec]
      unfold put1 at ih
      by_cases h1 : d.2 ≤ vat V d.1
      · simp only [h1, decide_true, br_true, if_true] at ih ⊢; exact ih
      · by_cases h2 : d.2 = vat V d.1 + 1
        · rw [if_neg h1, if_pos h2] at ih
          rw [decide_eq_false h1, decide_eq_true h2]; exact ih
        · simp only [h1, h2, decide_false, br_false, if_false] at ih ⊢
          rw [room1 (by omega)]
          cases hM : M.length with
          | zero =>
            have hM0 : M = [] := List.eq_nil_of_length_eq_zero hM
            subst hM0
            simp only [List.getLast?_nil, reduceCtorEq, if_false] at ih
            have : decide (ilen ([] : List Dot) = 0) = true := rfl
            rw [this]; simp only [br_true]; exact ih
          | succ m =>
            have h4 : ¬ (ilen M = 0) := by unfold ilen; omega
            rw [last_in hM (by omega), last_rd hM (by omega), deqD, bnot_dec]
            simp only [h4, decide_false, br_true, br_false]
            rw [getLast_is hM] at ih
            by_cases h5 : M[m] = d
            · simp only [h5, if_true, decide_true, decide_false, not_true, br_false] at ih ⊢; exact ih
            · have h6 : ¬ (some M[m] = some d) := fun e => h5 (Option.some.inj e)
              simp only [h5, h6, if_false, not_false_eq_true, decide_true, br_true] at ih ⊢; exact ih
    · have : i = l.length := by omega
      subst this
      simp only [List.take_length, Nat.lt_irrefl, decide_false, br_false]
theorem made_is (k : Nat) (l : List Dot) (hl : l.length < k) (hk : k < 1000000) (hr : ∀ d ∈ l, rightD d = true) (hs : l.Pairwise (fun a b => dotLt b a = false)) (v : Vec) (hv : VOk v) : dots_made.f k v l = some (mk v l) := by
  rw [dots_made.f_eq]
  exact made_l k l (by omega) hr hs v hv (zarr 16 0) [] k 0 (by omega) (by omega)
theorem vok0 : VOk (zarr 16 0) := ⟨rfl, fun r h0 h1 => by
    obtain ⟨a, rfl⟩ := Int.eq_ofNat_of_zero_le h0
    have : a < 16 := by omega
    have e : vat (zarr 16 0) (a : Int) = 0 := by rw [vat_get (by show a < 16; omega)]; exact List.getElem_replicate ..
    rw [e]; exact Int.le_refl _, fun r h0 h1 => by
    obtain ⟨a, rfl⟩ := Int.eq_ofNat_of_zero_le h0
    have e : vat (zarr 16 0) (a : Int) = 0 := by rw [vat_get (by show a < 16; omega)]; exact List.getElem_replicate ..
    rw [e]; decide⟩
theorem vat0 (r : Int) (h0 : 0 ≤ r) (h1 : r < 16) : vat (zarr 16 0) r = 0 := by
  obtain ⟨a, rfl⟩ := Int.eq_ofNat_of_zero_le h0
  rw [vat_get (by show a < 16; omega)]; exact List.getElem_replicate ..
def ofD (l : List Dot) : DSet := mk (zarr 16 0) (isort dotLt (kept rightD l))
theorem kept_mem {l : List Dot} {d : Dot} : d ∈ isort dotLt (kept rightD l) ↔ d ∈ l ∧ rightD d = true := by
  rw [(isort_perm dotLt _).mem_iff]; unfold kept; rw [List.mem_filter]
theorem ofD_can (l : List Dot) : Can (ofD l) ∧ (∀ x, Mem (ofD l) x ↔ rightD x = true ∧ x ∈ l) ∧ (ofD l).2.length ≤ l.length := by
  obtain ⟨h1, h2, h3, _⟩ := mk_can vok0 (isort dotLt (kept rightD l)) (fun d hd => (kept_mem.1 hd).2) (isort_sorted dotLt_swo _)
  refine ⟨h1, fun x => ?_, ?_⟩
  · rw [show Mem (ofD l) x ↔ _ from h2 x, kept_mem]
    constructor
    · rintro ⟨a, b | b⟩
      · obtain ⟨q0, q1, q2, _⟩ := (rightD_iff x).1 a
        rw [vat0 x.1 q0 q1] at b; omega
      · exact ⟨a, b.1⟩
    · rintro ⟨a, b⟩; exact ⟨a, .inr ⟨b, a⟩⟩
  · refine Nat.le_trans h3 ?_
    rw [(isort_perm dotLt _).length_eq]; exact List.length_filter_le _ _
theorem of_is (k : Nat) (l : List Dot) (hl : l.length < k) (hk : k < 1000000) : dots_Of.f k l = some (ofD l) := by
  have h1 : room ([] : List Int) l = true := by simp [room]; omega
  have h2 : (kept rightD l).length ≤ l.length := List.length_filter_le _ _
  have h3 : room ([] : List Int) (kept dotKeep l) = true := by simp [room]; have : (kept dotKeep l).length ≤ l.length := h2; omega
  rw [dots_Of.f_eq, h1, h3]
  simp only [br_true]
  rw [made_is k _ (by rw [(isort_perm dotLt _).length_eq]; exact Nat.lt_of_le_of_lt h2 hl) hk (fun d hd => (kept_mem.1 hd).2) (isort_sorted dotLt_swo _) _ vok0]
  rfl
theorem rright_is (k : Nat) (d : Dot) : ref04_Right.f k d = some (rightD d) := by
  rw [ref04_Right.f_eq]
  have : ile d.1 15 = ilt d.1 16 := by unfold ile ilt; congr 1; exact propext ⟨fun h => by omega, fun h => by omega⟩
  rw [this]
  have := right_is k d
  rw [dot_Right.f_eq] at this
  exact this
def memB (s : DSet) (d : Dot) : Bool := rightD d && (decide (d.2 ≤ vat s.1 d.1) || decide (d ∈ s.2))
theorem memB_iff (s : DSet) (d : Dot) : memB s d = true ↔ Mem s d := by simp [memB, Mem]
theorem rvhas_is (k : Nat) (v : Vec) (d : Dot) : ref05_Has.f k v d = some (rightD d && decide (d.2 ≤ vat v d.1)) := by
  rw [ref05_Has.f_eq, rright_is]
  simp only [bnd]
  cases h : rightD d with
  | false => rfl
  | true =>
    obtain ⟨a, b, _, _⟩ := (rightD_iff d).1 h
    rw [inB16 a b]; rfl
theorem any_step {α : Type} {xs : List α} {i : Nat} (h : i < xs.length) (p : α → Bool) : (xs.drop i).any p = (p xs[i] || (xs.drop (i + 1)).any p) := by
  rw [List.drop_eq_getElem_cons h, List.any_cons]
theorem rhas_l (k : Nat) (s : DSet) (d : Dot) (hl : s.2.length < 1000000) : ∀ (n i : Nat), i ≤ s.2.length → s.2.length < n + i → ref06_Has.l4 k n (i : Int) s d = some ((s.2.drop i).any fun e => decide (e = d))
  | 0, i, h, h' => by omega
  | n + 1, i, h, h' => by
    rw [ref06_Has.l4_eq, ilt_nat, inL_nat, natOf_nat]
    by_cases hi : i < s.2.length
    · rw [any_step hi, rd_at' (e := tDot) hi, deqD, iadd_nat (by omega), rhas_l k s d hl n (i + 1) (by omega) (by omega)]
      by_cases he : s.2[i] = d <;> simp [hi, he, br_true, br_false]
    · rw [List.drop_of_length_le (by omega)]; simp [hi, br_false]
theorem any_mem (l : List Dot) (d : Dot) : (l.any fun e => decide (e = d)) = decide (d ∈ l) := by
  rw [Bool.eq_iff_iff]; simp
theorem rhas_is (k : Nat) (s : DSet) (d : Dot) (hl : s.2.length < k) (hk : k < 1000000) (hr : ∀ e ∈ s.2, rightD e = true) : ref06_Has.f k s d = some (memB s d) := by
  rw [ref06_Has.f_eq, rvhas_is]
  simp only [bnd]
  have := rhas_l k s d (by omega) k 0 (by omega) (by omega)
  rw [List.drop_zero, any_mem] at this
  rw [show ref06_Has.l4 k k 0 s d = _ from this]
  unfold memB
  cases h : rightD d with
  | false =>
    have : d ∉ s.2 := fun hd => by rw [hr d hd] at h; cases h
    simp [this, br_false]
  | true =>
    by_cases h2 : d.2 ≤ vat s.1 d.1 <;> simp [h2, br_true, br_false]
end Go.Proofs.YtbiihldcljemfaaGreatDoor
end
section
/- What the functions of the layer of dots compute, on. -/
namespace Go.Proofs.YtbiihldcljemfaaGreatDoor
open Pal
theorem srt_get {l : List Dot} (hs : l.Pairwise (fun a b => dotLt a b = true)) {i j : Nat} (hi : i < l.length) (hj : j < l.length) (h : i < j) : dotLt l[i] l[j] = true := List.pairwise_iff_getElem.1 hs i j hi hj h
theorem cmp_lt0 (a b : Dot) : ilt (cmpD a b) 0 = dotLt a b := rfl
def insR (d : Dot) : List Dot → List Dot
  | [] => [d]
  | y :: r => if dotLt d y then d :: y :: r else y :: insR d r
theorem insR_perm (d : Dot) : ∀ l, (insR d l).Perm (d :: l)
  | [] => List.Perm.refl _
  | y :: r => by
    unfold insR
    split
    · exact List.Perm.refl _
    · exact ((insR_perm d r).cons y).trans (List.Perm.swap d y r)
theorem insR_srt {d : Dot} : ∀ {l : List Dot}, l.Pairwise (fun a b => dotLt a b = true) → d ∉ l → (insR d l).Pairwise (fun a b => dotLt a b = true)
  | [], _, _ => List.pairwise_singleton _ _
  | y :: r, h, hd => by
    have h' := List.pairwise_cons.1 h
    unfold insR
    split
    · rename_i hy
      refine List.pairwise_cons.2 ⟨fun z hz => ?_, h⟩
      rcases List.mem_cons.1 hz with rfl | hz
      · exact hy
      · exact dotLt_swo.trans _ _ _ hy (h'.1 z hz)
    · rename_i hy
      have hyd : dotLt y d = true := by
        cases hh : dotLt y d with
        | true => rfl
        | false => exact absurd (by rw [dotLt_tot y d hh (by simpa using hy)]; exact List.mem_cons_self) hd
      refine List.pairwise_cons.2 ⟨fun z hz => ?_, insR_srt h'.2 (fun hh => hd (List.mem_cons_of_mem _ hh))⟩
      rcases List.mem_cons.1 ((insR_perm d r).mem_iff.1 hz) with rfl | hz
      · exact hyd
      · exact h'.1 z hz
def putD (s : DSet) (d : Dot) : DSet := if memB s d = true ∨ rightD d = false then s else mk s.1 (insR d s.2)
theorem insR_weak {d : Dot} {l : List Dot} (hs : l.Pairwise (fun a b => dotLt a b = true)) (hd : d ∉ l) : (insR d l).Pairwise (fun a b => dotLt b a = false) := (insR_srt hs hd).imp dotLt_asym
theorem putD_can {s : DSet} (hs : Can s) (d : Dot) : Can (putD s d) ∧ (∀ x, Mem (putD s d) x ↔ Mem s x ∨ (rightD d = true ∧ x = d)) ∧ (putD s d).2.length ≤ s.2.length + 1 := by
  unfold putD
  by_cases h : memB s d = true ∨ rightD d = false
  · rw [if_pos h]
    refine ⟨hs, fun x => ⟨.inl, fun hh => hh.elim id fun ⟨h1, h2⟩ => ?_⟩, by omega⟩
    subst h2
    rcases h with h | h
    · exact (memB_iff s x).1 h
    · rw [h] at h1; cases h1
  · rw [if_neg h]
    have h1 : ¬ Mem s d := fun hm => h (.inl ((memB_iff s d).2 hm))
    have h2 : rightD d = true := by cases hh : rightD d with
      | true => rfl
      | false => exact absurd (.inr hh) h
    have hn : d ∉ s.2 := fun hd => h1 ⟨h2, .inr hd⟩
    obtain ⟨q1, q2, q3, _⟩ := mk_can hs.vok (insR d s.2) (fun e he => by
      rcases List.mem_cons.1 ((insR_perm d s.2).mem_iff.1 he) with rfl | he
      · exact h2
      · exact hs.rt e he) (insR_weak hs.srt hn)
    refine ⟨q1, fun x => ?_, by rw [(insR_perm d s.2).length_eq] at q3; simpa using q3⟩
    rw [q2, (insR_perm d s.2).mem_iff, List.mem_cons]
    constructor
    · rintro ⟨a, b | b | b⟩
      · exact .inl ⟨a, .inl b⟩
      · exact .inr ⟨h2, b⟩
      · exact .inl ⟨a, .inr b⟩
    · rintro (⟨a, b⟩ | ⟨a, b⟩)
      · exact ⟨a, b.imp id .inr⟩
      · exact ⟨by rw [b]; exact a, .inr (.inl b)⟩
end Go.Proofs.YtbiihldcljemfaaGreatDoor
end
section
/- What the document's functions of the layer of dots compute. -/
namespace Go.Proofs.YtbiihldcljemfaaGreatDoor
open Pal
theorem filled_l (k : Nat) (s : DSet) (hl : s.2.length < 1000000) (hr : ∀ d ∈ s.2, rightD d = true) (hs : s.2.Pairwise (fun a b => dotLt a b = true)) (hv : VOk s.1) (za : Vec) (zb : List Dot) : ∀ (n i : Nat), i ≤ s.2.length → s.2.length < n + i →
    ref06_filled.l3 k n (i : Int) s za zb (mk s.1 (s.2.take i)).1 (mk s.1 (s.2.take i)).2 = some (mk s.1 s.2)
  | 0, i, h, h' => by omega
  | n + 1, i, h, h' => by
    rw [ref06_filled.l3_eq, ilt_nat, inL_nat, natOf_nat]
    by_cases hi : i < s.2.length
    · have hstep : mk s.1 (s.2.take (i + 1)) = put1 (mk s.1 (s.2.take i)) s.2[i] := by rw [take_next hi]; unfold mk; rw [List.foldl_append]; rfl
      have hws : s.2.Pairwise (fun a b => dotLt b a = false) := hs.imp dotLt_asym
      obtain ⟨hc, hm, hml, hin⟩ := mk_can hv (s.2.take i) (fun d hd => hr d (List.mem_of_mem_take hd)) (hws.sublist (List.take_sublist i s.2))
      have ih := filled_l k s hl hr hs hv za zb n (i + 1) (by omega) (by omega)
      rw [hstep] at ih
      have hnl : (mk s.1 (s.2.take i)).2.getLast? ≠ some s.2[i] := fun e => by
        have h1 := hin _ (List.mem_of_getLast? e)
        obtain ⟨t, ht, he⟩ := List.getElem_of_mem h1
        have ht2 : t < i := by rw [List.length_take] at ht; omega
        rw [List.getElem_take] at he
        have := srt_get hs (by omega) hi ht2
        rw [he, dotLt_swo.irrefl] at this; cases this
      generalize mk s.1 (s.2.take i) = t at hc hm hml ih hstep hin hnl ⊢
      obtain ⟨V, M⟩ := t
      obtain ⟨r0, r1, r2, r3⟩ := (rightD_iff s.2[i]).1 (hr _ (List.getElem_mem hi))
      rw [rd_at' (e := tDot) hi, iadd_nat (by omega)]
      obtain ⟨d, hd⟩ : ∃ d : Dot, d = s.2[i] := ⟨_, rfl⟩
      rw [← hd] at r0 r1 r2 r3 ih hnl ⊢
      have hvv : rd (.int .i64) V (natOf d.1) = vat V d.1 := rfl
      have v0 : 0 ≤ vat V d.1 := hc.vok.lo d.1 r0 r1
      have v1 : vat V d.1 ≤ 1048576 := hc.vok.hi d.1 r0 r1
      have hML : M.length ≤ i := by have : M.length ≤ (s.2.take i).length := hml; rw [List.length_take] at this; omega
      simp only [hi, decide_true, br_true, inB16 r0 r1, hvv, ilt_dec]
      rw [iadd_s (by omega) (by omega) (by omega) (by omega), ieq_dec]
      unfold put1 at ih
      by_cases h1 : d.2 ≤ vat V d.1
      · rw [if_pos h1] at ih
        rw [decide_eq_false (show ¬ d.2 = vat V d.1 + 1 by omega), decide_eq_false (show ¬ vat V d.1 < d.2 by omega)]
        exact ih
      · rw [if_neg h1] at ih
        by_cases h2 : d.2 = vat V d.1 + 1
        · rw [if_pos h2] at ih
          rw [decide_eq_true h2]; exact ih
        · rw [if_neg h2, if_neg hnl] at ih
          rw [decide_eq_false h2, decide_eq_true (show vat V d.1 < d.2 by omega), room1 (by omega)]
          exact ih
    · have : i = s.2.length := by omega
      subst this
      simp only [List.take_length, Nat.lt_irrefl, decide_false, br_false]
theorem filled_is (k : Nat) (s : DSet) (hl : s.2.length < k) (hk : k < 1000000) (hr : ∀ d ∈ s.2, rightD d = true) (hs : s.2.Pairwise (fun a b => dotLt a b = true)) (hv : VOk s.1) : ref06_filled.f k s = some (mk s.1 s.2) := by
  rw [ref06_filled.f_eq]
  exact filled_l k s (by omega) hr hs hv (zarr 16 0) [] k 0 (by omega) (by omega)
theorem rcmp_is (k : Nat) (a b : Dot) : ref04_Compare.f k a b = some (cmpD a b) := by
  rw [ref04_Compare.f_eq, ref04_ints.f_eq, ref04_ints.f_eq, ieq_dec, bnot_dec]
  have hI : ∀ x y : Int, br (ilt x y) (some (-1)) (br (ilt y x) (some 1) (some 0)) = some (cmpI x y) := fun x y => by
    unfold cmpI
    by_cases h1 : x < y
    · simp [ilt, h1, br_true]
    · by_cases h2 : y < x <;> simp [ilt, h1, h2, br_true, br_false]
  have hI' : ∀ x y : Int, bnd (br (ilt x y) (some (-1)) (br (ilt y x) (some 1) (some 0))) (fun r => some r) = some (cmpI x y) := fun x y => by rw [hI]; rfl
  rw [hI', hI']
  unfold cmpD
  by_cases h : a.1 = b.1
  · rw [if_pos ((cmpI_eq _ _).2 h)]; simp [h, br_false]
  · rw [if_neg (fun e => h ((cmpI_eq _ _).1 e))]; simp [h, br_true]
theorem rput_l (k : Nat) (s : DSet) (d : Dot) (hl : s.2.length < 1000000) (za : Vec) (zb : List Dot) : ∀ (n i : Nat) (x : List Dot) (b : Bool), i ≤ s.2.length → s.2.length < n + i → x.length ≤ i + b.toNat →
    ref06_Put.l6 k n x b (i : Int) s d za zb = bnd (ref06_filled.f k (s.1, x ++ if b then s.2.drop i else insR d (s.2.drop i))) fun r => some r
  | 0, i, _, _, h, h', _ => by omega
  | n + 1, i, x, b, h, h', hx => by
    rw [ref06_Put.l6_eq, ilt_nat, inL_nat, natOf_nat]
    by_cases hi : i < s.2.length
    · rw [List.drop_eq_getElem_cons hi, rd_at' (e := tDot) hi, iadd_nat (by omega), rcmp_is]
      have hbn : b.toNat ≤ 1 := by cases b <;> decide
      have hrm : ∀ y : Dot, room x (y :: []) = true := fun y => room1 (by omega)
      have hrm2 : ∀ y z : Dot, room (app x (y :: [])) (z :: []) = true := fun y z => room1 (by simp [app]; omega)
      simp only [hi, decide_true, br_true, bnd_some, cmp_lt0, hrm, hrm2]
      cases b with
      | true =>
        have hb : bnot true = false := rfl
        rw [hb]
        simp only [br_false]
        rw [rput_l k s d hl za zb n (i + 1) _ true (by omega) (by omega) (by simp [app] at hx ⊢; omega)]
        simp [app]
      | false =>
        have hb : bnot false = true := rfl
        rw [hb]
        simp only [br_true, Bool.false_eq_true, if_false]
        unfold insR
        cases hc : dotLt d s.2[i] with
        | true =>
          simp only [br_true, if_true]
          rw [rput_l k s d hl za zb n (i + 1) _ true (by omega) (by omega) (by simp [app] at hx ⊢; omega)]
          simp [app]
        | false =>
          simp only [br_false, Bool.false_eq_true, if_false]
          rw [rput_l k s d hl za zb n (i + 1) _ false (by omega) (by omega) (by simp [app] at hx ⊢; omega)]
          simp [app]
    · rw [List.drop_of_length_le (by omega)]
      simp only [hi, decide_false, br_false]
      cases b with
      | true => have hb : bnot true = false := rfl
                rw [hb]; simp [br_false]
      | false => have hb : bnot false = true := rfl
                 have hx' : x.length ≤ i := hx
                 rw [hb, room1 (by omega)]; simp [br_true, insR, app]
theorem rput_is (k : Nat) (s : DSet) (d : Dot) (hl : s.2.length + 1 < k) (hk : k < 1000000) (hs : Can s) : ref06_Put.f k s d = some (putD s d) := by
  rw [ref06_Put.f_eq, rright_is, rhas_is k s d (by omega) hk hs.rt]
  simp only [bnd_some]
  unfold putD
  cases h : rightD d with
  | false => simp [bnot, br_true]
  | true =>
    cases hm : memB s d with
    | true => simp [bnot, br_true, br_false]
    | false =>
      have hn : d ∉ s.2 := fun hd => by
        have := (memB_iff s d).2 ⟨h, .inr hd⟩
        rw [hm] at this; cases this
      have hb0 : bnot true = false := rfl
      rw [hb0]
      simp only [br_false]
      have := rput_l k s d (by omega) (zarr 16 0) [] k 0 [] false (by omega) (by omega) (by simp)
      rw [show ref06_Put.l6 k k [] false 0 s d (zarr 16 0) [] = _ from this]
      simp only [List.drop_zero, List.nil_append, Bool.false_eq_true, if_false]
      rw [filled_is k (s.1, insR d s.2) (by show (insR d s.2).length < k; rw [(insR_perm d s.2).length_eq]; simpa using hl) hk (fun e he => by
        rcases List.mem_cons.1 ((insR_perm d s.2).mem_iff.1 he) with rfl | he
        · exact h
        · exact hs.rt e he) (insR_srt hs.srt hn) hs.vok]
      simp [bnd]
end Go.Proofs.YtbiihldcljemfaaGreatDoor
end
section
/- The same, and right, among sets of dots. -/
namespace Go.Proofs.YtbiihldcljemfaaGreatDoor
open Pal
theorem eqD_l (k : Nat) (xs ys : List Dot) (hl : xs.length = ys.length) (hb : xs.length < 1000000) : ∀ (n i : Nat), i ≤ xs.length → xs.length < n + i →
    slices_Equal_api_Dot_api_Dot.l4 k n xs ys (ilen xs) (i : Int) = some (zall (fun x y => decide (x = y)) (xs.drop i) (ys.drop i))
  | 0, i, h, h' => by omega
  | n + 1, i, h, h' => by
    rw [slices_Equal_api_Dot_api_Dot.l4_eq, ilt_nat, inL_nat, inL_nat, natOf_nat]
    by_cases hi : i < xs.length
    · have hi' : i < ys.length := by omega
      rw [zall_step hi hi', rd_at' (e := tDot) hi, rd_at' (e := tDot) hi', deqD, bnot_dec, iadd_nat (by omega)]
      simp only [hi, hi', decide_true, br_true]
      by_cases he : xs[i] = ys[i]
      · simp only [he, not_true, decide_true, decide_false, br_false, Bool.true_and]
        exact eqD_l k xs ys hl hb n (i + 1) (by omega) (by omega)
      · simp only [he, not_false_eq_true, decide_false, decide_true, br_true, Bool.false_and]
    · rw [zall_end (by omega)]
      simp only [hi, decide_false, br_false]
theorem eqD (k : Nat) (xs ys : List Dot) (hb : xs.length < k) (hk : k < 1000000) : slices_Equal_api_Dot_api_Dot.f k xs ys = some (decide (xs = ys)) := by
  rw [slices_Equal_api_Dot_api_Dot.f_eq, ieq_len, bnot_dec]
  by_cases hl : xs.length = ys.length
  · simp only [hl, not_true, decide_false, br_false]
    have := eqD_l k xs ys hl (by omega) k 0 (by omega) (by omega)
    simp only [List.drop_zero, zall_eq xs ys hl] at this
    exact this
  · have : xs ≠ ys := fun e => hl (by rw [e])
    simp only [hl, this, not_false_eq_true, decide_true, decide_false, br_true]
theorem reqD_l (k : Nat) (xs ys : List Dot) (hl : xs.length = ys.length) (hb : xs.length < 1000000) : ∀ (n i : Nat), i ≤ xs.length → xs.length < n + i →
    ref04_Same.l4 k n xs ys (i : Int) = some (zall (fun x y => decide (x = y)) (xs.drop i) (ys.drop i))
  | 0, i, h, h' => by omega
  | n + 1, i, h, h' => by
    rw [ref04_Same.l4_eq, ilt_nat, inL_nat, inL_nat, natOf_nat]
    by_cases hi : i < xs.length
    · have hi' : i < ys.length := by omega
      rw [zall_step hi hi', rd_at' (e := tDot) hi, rd_at' (e := tDot) hi', deqD, bnot_dec, iadd_nat (by omega)]
      simp only [hi, hi', decide_true, br_true]
      by_cases he : xs[i] = ys[i]
      · simp only [he, not_true, decide_true, decide_false, br_false, Bool.true_and]
        exact reqD_l k xs ys hl hb n (i + 1) (by omega) (by omega)
      · simp only [he, not_false_eq_true, decide_false, decide_true, br_true, Bool.false_and]
    · rw [zall_end (by omega)]
      simp only [hi, decide_false, br_false]
theorem reqD (k : Nat) (xs ys : List Dot) (hb : xs.length < k) (hk : k < 1000000) : ref04_Same.f k xs ys = some (decide (xs = ys)) := by
  rw [ref04_Same.f_eq, ieq_len, bnot_dec]
  by_cases hl : xs.length = ys.length
  · simp only [hl, not_true, decide_false, br_false]
    have := reqD_l k xs ys hl (by omega) k 0 (by omega) (by omega)
    simp only [List.drop_zero, zall_eq xs ys hl] at this
    exact this
  · have : xs ≠ ys := fun e => hl (by rw [e])
    simp only [hl, this, not_false_eq_true, decide_true, decide_false, br_true]
theorem deqV (a b : Vec) : deq tVec a b = decide (a = b) := by
  have h := deq_iff tVec rfl a b
  by_cases he : a = b
  · rw [decide_eq_true he]; exact h.2 he
  · rw [decide_eq_false he, ← Bool.not_eq_true, h]; exact he
theorem same_is (k : Nat) (s t : DSet) (hb : s.2.length < k) (hk : k < 1000000) : dots_Same.f k s t = some (decide (s = t)) := by
  rw [dots_Same.f_eq, deqV, eqD k _ _ hb hk]
  obtain ⟨a, b⟩ := s
  obtain ⟨c, d⟩ := t
  by_cases h1 : a = c <;> by_cases h2 : b = d <;> simp [h1, h2, br_true, br_false, bnd]
theorem rsame_is (k : Nat) (s t : DSet) (hb : s.2.length < k) (hk : k < 1000000) : ref06_Same.f k s t = some (decide (s = t)) := by
  rw [ref06_Same.f_eq, deqV, reqD k _ _ hb hk]
  obtain ⟨a, b⟩ := s
  obtain ⟨c, d⟩ := t
  by_cases h1 : a = c <;> by_cases h2 : b = d <;> simp [h1, h2, br_true, br_false, bnd]
def vin (v : Vec) (r : Int) : Prop := 0 ≤ vat v r ∧ vat v r ≤ 1048576
theorem rvr_l (k : Nat) (v : Vec) : ∀ (n i : Nat), i ≤ 16 → 16 < n + i → ∃ b, ref05_Right.l2 k n (i : Int) v = some b ∧ (b = true ↔ ∀ r : Nat, i ≤ r → r < 16 → vin v r)
  | 0, i, h, h' => by omega
  | n + 1, i, h, h' => by
    rw [ref05_Right.l2_eq, natOf_nat]
    have e1 : ilt (i : Int) 16 = decide (i < 16) := ilt_nn i 16
    rw [e1, inB_nat]
    by_cases hi : i < 16
    · have hv : rd (.int .i64) v i = vat v (i : Int) := rfl
      rw [hv, iadd_nat (by omega), ilt_dec, ilt_dec]
      simp only [hi, decide_true, br_true]
      by_cases h1 : vat v (i : Int) < 0
      · simp only [h1, decide_true, br_true]
        exact ⟨false, rfl, ⟨fun h => (by cases h), fun h => by have := (h i (Nat.le_refl _) hi).1; omega⟩⟩
      · simp only [h1, decide_false, br_false]
        by_cases h2 : 1048576 < vat v (i : Int)
        · simp only [h2, decide_true, br_true]
          exact ⟨false, rfl, ⟨fun h => (by cases h), fun h => by have := (h i (Nat.le_refl _) hi).2; omega⟩⟩
        · simp only [h2, decide_false, br_false]
          obtain ⟨b, hb, hbi⟩ := rvr_l k v n (i + 1) (by omega) (by omega)
          refine ⟨b, hb, hbi.trans ⟨fun h r hr hr2 => ?_, fun h r hr hr2 => h r (by omega) hr2⟩⟩
          by_cases he : r = i
          · subst he; exact ⟨by omega, by omega⟩
          · exact h r (by omega) hr2
    · simp only [hi, decide_false, br_false]
      exact ⟨true, rfl, ⟨fun _ r hr hr2 => by omega, fun _ => rfl⟩⟩
theorem vok_iff {v : Vec} (hl : v.length = 16) : VOk v ↔ ∀ r : Nat, 0 ≤ r → r < 16 → vin v r := by
  constructor
  · intro h r _ hr; exact ⟨h.lo r (by omega) (by omega), h.hi r (by omega) (by omega)⟩
  · intro h
    refine ⟨hl, fun r h0 h1 => ?_, fun r h0 h1 => ?_⟩
    · obtain ⟨a, rfl⟩ := Int.eq_ofNat_of_zero_le h0; exact (h a (by omega) (by omega)).1
    · obtain ⟨a, rfl⟩ := Int.eq_ofNat_of_zero_le h0; exact (h a (by omega) (by omega)).2
theorem rvr_is (k : Nat) (v : Vec) (hl : v.length = 16) (hk : 17 < k) : ∃ b, ref05_Right.f k v = some b ∧ (b = true ↔ VOk v) := by
  rw [ref05_Right.f_eq, vok_iff hl]
  exact rvr_l k v k 0 (by omega) (by omega)
theorem vr_l (k : Nat) (v : Vec) : ∀ (n i : Nat), i ≤ 16 → 16 < n + i → ∃ b, vec_Right.l2 k n v (i : Int) = some b ∧ (b = true ↔ ∀ r : Nat, i ≤ r → r < 16 → vin v r)
  | 0, i, h, h' => by omega
  | n + 1, i, h, h' => by
    rw [vec_Right.l2_eq, natOf_nat]
    have e1 : ilt (i : Int) 16 = decide (i < 16) := ilt_nn i 16
    rw [e1, inB_nat]
    by_cases hi : i < 16
    · have hv : rd (.int .i64) v i = vat v (i : Int) := rfl
      rw [hv, iadd_nat (by omega), ilt_dec, ilt_dec]
      simp only [hi, decide_true, br_true]
      by_cases h1 : vat v (i : Int) < 0
      · simp only [h1, decide_true, br_true]
        exact ⟨false, rfl, ⟨fun h => (by cases h), fun h => by have := (h i (Nat.le_refl _) hi).1; omega⟩⟩
      · simp only [h1, decide_false, br_false]
        by_cases h2 : 1048576 < vat v (i : Int)
        · simp only [h2, decide_true, br_true]
          exact ⟨false, rfl, ⟨fun h => (by cases h), fun h => by have := (h i (Nat.le_refl _) hi).2; omega⟩⟩
        · simp only [h2, decide_false, br_false]
          obtain ⟨b, hb, hbi⟩ := vr_l k v n (i + 1) (by omega) (by omega)
          refine ⟨b, hb, hbi.trans ⟨fun h r hr hr2 => ?_, fun h r hr hr2 => h r (by omega) hr2⟩⟩
          by_cases he : r = i
          · subst he; exact ⟨by omega, by omega⟩
          · exact h r (by omega) hr2
    · simp only [hi, decide_false, br_false]
      exact ⟨true, rfl, ⟨fun _ r hr hr2 => by omega, fun _ => rfl⟩⟩
theorem vr_is (k : Nat) (v : Vec) (hl : v.length = 16) (hk : 17 < k) : ∃ b, vec_Right.f k v = some b ∧ (b = true ↔ VOk v) := by
  rw [vec_Right.f_eq, vok_iff hl]
  exact vr_l k v k 0 (by omega) (by omega)
def okAt (s : DSet) (j : Nat) (h : j < s.2.length) : Prop := rightD s.2[j] = true ∧ vat s.1 s.2[j].1 + 1 < s.2[j].2 ∧ (∀ h0 : 0 < j, dotLt (s.2[j - 1]'(by omega)) s.2[j] = true)
theorem can_iff {s : DSet} (hv : VOk s.1) : Can s ↔ ∀ j (h : j < s.2.length), 0 ≤ j → okAt s j h := by
  constructor
  · intro hs j h _
    exact ⟨hs.rt _ (List.getElem_mem h), hs.gap _ (List.getElem_mem h), fun h0 => srt_get hs.srt (by omega) h (by omega)⟩
  · intro h
    refine ⟨hv, fun d hd => ?_, fun d hd => ?_, ?_⟩
    · obtain ⟨j, hj, rfl⟩ := List.getElem_of_mem hd; exact (h j hj (Nat.zero_le _)).1
    · obtain ⟨j, hj, rfl⟩ := List.getElem_of_mem hd; exact (h j hj (Nat.zero_le _)).2.1
    · have key : ∀ t i (hi : i < s.2.length) (hj : i + 1 + t < s.2.length), dotLt s.2[i] s.2[i + 1 + t] = true := by
        intro t
        induction t with
        | zero => intro i hi hj; exact (h (i + 1) hj (Nat.zero_le _)).2.2 (by omega)
        | succ t ih =>
          intro i hi hj
          have h1 := ih i hi (by omega)
          have h2 := (h (i + 1 + (t + 1)) hj (Nat.zero_le _)).2.2 (by omega)
          exact dotLt_swo.trans _ _ _ h1 h2
      rw [List.pairwise_iff_getElem]
      intro i j hi hj hij
      have := key (j - i - 1) i hi (by omega)
      have e : i + 1 + (j - i - 1) = j := by omega
      simp only [e] at this; exact this
theorem cmp_m1 (a b : Dot) : bnot (ieq (cmpD a b) (-1)) = !dotLt a b := by
  have h1 : ∀ x y : Int, cmpI x y = -1 ∨ cmpI x y = 0 ∨ cmpI x y = 1 := fun x y => by unfold cmpI; split <;> (try split) <;> simp
  have h : cmpD a b = -1 ∨ cmpD a b = 0 ∨ cmpD a b = 1 := by unfold cmpD; split <;> exact h1 _ _
  show bnot (ieq (cmpD a b) (-1)) = !decide (cmpD a b < 0)
  rcases h with h | h | h <;> rw [h] <;> rfl
theorem rr_l (k : Nat) (s : DSet) (hl : s.2.length < 1000000) (hv : VOk s.1) : ∀ (n i : Nat), i ≤ s.2.length → s.2.length < n + i → ∃ b, ref06_Right.l4 k n (i : Int) s = some b ∧ (b = true ↔ ∀ j (h : j < s.2.length), i ≤ j → okAt s j h)
  | 0, i, h, h' => by omega
  | n + 1, i, h, h' => by
    rw [ref06_Right.l4_eq, ilt_nat, inL_nat, natOf_nat]
    by_cases hi : i < s.2.length
    · rw [rd_at' (e := tDot) hi, rright_is, iadd_nat (by omega)]
      simp only [hi, decide_true, br_true, bnd_some]
      cases hr : rightD s.2[i] with
      | false =>
        have e : bnot false = true := rfl
        rw [e]
        exact ⟨false, rfl, ⟨fun h => (by cases h), fun h => by rw [(h i hi (Nat.le_refl _)).1] at hr; cases hr⟩⟩
      | true =>
        have e : bnot true = false := rfl
        obtain ⟨r0, r1, r2, r3⟩ := (rightD_iff s.2[i]).1 hr
        have hvv : rd (.int .i64) s.1 (natOf s.2[i].1) = vat s.1 s.2[i].1 := rfl
        rw [e, inB16 r0 r1, hvv, isub_s (by omega) (by omega) (by omega) (by omega), ile_dec]
        simp only [br_true, br_false]
        by_cases hg : s.2[i].2 - 1 ≤ vat s.1 s.2[i].1
        · simp only [hg, decide_true, br_true]
          exact ⟨false, rfl, ⟨fun h => (by cases h), fun h => by have := (h i hi (Nat.le_refl _)).2.1; omega⟩⟩
        · simp only [hg, decide_false, br_false]
          obtain ⟨b, hb, hbi⟩ := rr_l k s hl hv n (i + 1) (by omega) (by omega)
          have step : (∀ h0 : 0 < i, dotLt (s.2[i - 1]'(by omega)) s.2[i] = true) → (b = true ↔ ∀ j (h : j < s.2.length), i ≤ j → okAt s j h) := fun hlt => hbi.trans ⟨fun h j hj hij => by
            by_cases he : j = i
            · subst he; exact ⟨hr, by omega, hlt⟩
            · exact h j hj (by omega), fun h j hj hij => h j hj (by omega)⟩
          by_cases h0 : 0 < i
          · have e2 : ilt 0 (i : Int) = true := by simp [ilt]; omega
            have e3 : isub .i64 (i : Int) 1 = ((i - 1 : Nat) : Int) := by rw [isub_s (by omega) (by omega) (by omega) (by omega)]; omega
            have hi1 : i - 1 < s.2.length := by omega
            rw [e2, e3, inL_nat, natOf_nat, rd_at' (e := tDot) hi1, rcmp_is]
            simp only [hi1, decide_true, br_true, bnd_some, cmp_m1]
            cases hc : dotLt s.2[i - 1] s.2[i] with
            | true => exact ⟨b, hb, step fun _ => hc⟩
            | false => exact ⟨false, rfl, ⟨fun h => (by cases h), fun h => by have := (h i hi (Nat.le_refl _)).2.2 h0; rw [hc] at this; cases this⟩⟩
          · have e2 : ilt 0 (i : Int) = false := by simp [ilt]; omega
            rw [e2]
            exact ⟨b, hb, step fun h => absurd h h0⟩
    · simp only [hi, decide_false, br_false]
      exact ⟨true, rfl, ⟨fun _ j hj hij => by omega, fun _ => rfl⟩⟩
theorem rr_is (k : Nat) (s : DSet) (hl : s.1.length = 16) (hk : 5000 < k) (hk2 : k < 1000000) : ∃ b, ref06_Right.f k s = some b ∧ (b = true ↔ Can s ∧ s.2.length ≤ 4096) := by
  obtain ⟨b, hb, hbi⟩ := rvr_is k s.1 hl (by omega)
  rw [ref06_Right.f_eq, hb]
  simp only [bnd_some]
  cases b with
  | false => exact ⟨false, rfl, ⟨fun h => (by cases h), fun h => hbi.2 h.1.vok⟩⟩
  | true =>
    have hv := hbi.1 rfl
    have e : bnot true = false := rfl
    have e2 : ilt 4096 (ilen s.2) = decide (4096 < s.2.length) := ilt_nat 4096 s.2
    rw [e, e2]
    simp only [br_false]
    by_cases h : 4096 < s.2.length
    · simp only [h, decide_true, br_true]
      exact ⟨false, rfl, ⟨fun h => (by cases h), fun h => by omega⟩⟩
    · simp only [h, decide_false, br_false]
      obtain ⟨b, hb, hbi⟩ := rr_l k s (by omega) hv k 0 (by omega) (by omega)
      exact ⟨b, hb, hbi.trans ⟨fun h2 => ⟨(can_iff hv).2 h2, by omega⟩, fun h2 => (can_iff hv).1 h2.1⟩⟩
end Go.Proofs.YtbiihldcljemfaaGreatDoor
end
section
/- Whether a set is right, how many dots there are, and the next one's number. -/
namespace Go.Proofs.YtbiihldcljemfaaGreatDoor
open Pal
theorem dr_l (k : Nat) (s : DSet) (hl : s.2.length < 1000000) (hv : VOk s.1) : ∀ (n i : Nat), i ≤ s.2.length → s.2.length < n + i → ∃ b, dots_Right.l4 (k + 3) n s.2 (ilen s.2) (i : Int) s = some b ∧ (b = true ↔ ∀ j (h : j < s.2.length), i ≤ j → okAt s j h)
  | 0, i, h, h' => by omega
  | n + 1, i, h, h' => by
    rw [dots_Right.l4_eq, ilt_nat, inL_nat, natOf_nat]
    by_cases hi : i < s.2.length
    · rw [rd_at' (e := tDot) hi, right_is, iadd_nat (by omega)]
      simp only [hi, decide_true, br_true, bnd_some]
      cases hr : rightD s.2[i] with
      | false =>
        have e : bnot false = true := rfl
        rw [e]
        exact ⟨false, rfl, ⟨fun h => (by cases h), fun h => by rw [(h i hi (Nat.le_refl _)).1] at hr; cases hr⟩⟩
      | true =>
        have e : bnot true = false := rfl
        obtain ⟨r0, r1, r2, r3⟩ := (rightD_iff s.2[i]).1 hr
        have hvv : rd (.int .i64) s.1 (natOf s.2[i].1) = vat s.1 s.2[i].1 := rfl
        have v0 := hv.lo s.2[i].1 r0 r1
        have v1 := hv.hi s.2[i].1 r0 r1
        rw [e, inB16 r0 r1, hvv, iadd_s (by omega) (by omega) (by omega) (by omega), ile_dec]
        simp only [br_true, br_false]
        by_cases hg : s.2[i].2 ≤ vat s.1 s.2[i].1 + 1
        · simp only [hg, decide_true, br_true]
          exact ⟨false, rfl, ⟨fun h => (by cases h), fun h => by have := (h i hi (Nat.le_refl _)).2.1; omega⟩⟩
        · simp only [hg, decide_false, br_false]
          obtain ⟨b, hb, hbi⟩ := dr_l k s hl hv n (i + 1) (by omega) (by omega)
          have step : (∀ h0 : 0 < i, dotLt (s.2[i - 1]'(by omega)) s.2[i] = true) → (b = true ↔ ∀ j (h : j < s.2.length), i ≤ j → okAt s j h) := fun hlt => hbi.trans ⟨fun h j hj hij => by
            by_cases he : j = i
            · subst he; exact ⟨hr, by omega, hlt⟩
            · exact h j hj (by omega), fun h j hj hij => h j hj (by omega)⟩
          by_cases h0 : 0 < i
          · have e2 : ilt 0 (i : Int) = true := by simp [ilt]; omega
            have e3 : isub .i64 (i : Int) 1 = ((i - 1 : Nat) : Int) := by rw [isub_s (by omega) (by omega) (by omega) (by omega)]; omega
            have hi1 : i - 1 < s.2.length := by omega
            have e4 : ∀ a b : Dot, ile 0 (cmpD a b) = !dotLt a b := fun a b => by
              show decide (0 ≤ cmpD a b) = !decide (cmpD a b < 0)
              by_cases h : cmpD a b < 0
              · rw [decide_eq_true h, decide_eq_false (by omega)]; rfl
              · rw [decide_eq_false h, decide_eq_true (by omega)]; rfl
            rw [e2, e3, inL_nat, natOf_nat, rd_at' (e := tDot) hi1, cmpD_is]
            simp only [hi1, decide_true, br_true, bnd_some, e4]
            cases hc : dotLt s.2[i - 1] s.2[i] with
            | true => exact ⟨b, hb, step fun _ => hc⟩
            | false => exact ⟨false, rfl, ⟨fun h => (by cases h), fun h => by have := (h i hi (Nat.le_refl _)).2.2 h0; rw [hc] at this; cases this⟩⟩
          · have e2 : ilt 0 (i : Int) = false := by simp [ilt]; omega
            rw [e2]
            exact ⟨b, hb, step fun h => absurd h h0⟩
    · simp only [hi, decide_false, br_false]
      exact ⟨true, rfl, ⟨fun _ j hj hij => by omega, fun _ => rfl⟩⟩
theorem dr_is (k : Nat) (s : DSet) (hl : s.1.length = 16) (hk : 5000 < k) (hk2 : k < 1000000) : ∃ b, dots_Right.f k s = some b ∧ (b = true ↔ Can s ∧ s.2.length ≤ 4096) := by
  obtain ⟨b, hb, hbi⟩ := vr_is k s.1 hl (by omega)
  rw [dots_Right.f_eq, hb]
  simp only [bnd_some]
  cases b with
  | false => exact ⟨false, rfl, ⟨fun h => (by cases h), fun h => hbi.2 h.1.vok⟩⟩
  | true =>
    have hv := hbi.1 rfl
    have e : bnot true = false := rfl
    have e2 : ilt 4096 (ilen s.2) = decide (4096 < s.2.length) := ilt_nat 4096 s.2
    rw [e, e2]
    simp only [br_false]
    by_cases h : 4096 < s.2.length
    · simp only [h, decide_true, br_true]
      exact ⟨false, rfl, ⟨fun h => (by cases h), fun h => by omega⟩⟩
    · simp only [h, decide_false, br_false]
      obtain ⟨q, rfl⟩ : ∃ q, k = q + 3 := ⟨k - 3, by omega⟩
      obtain ⟨b, hb, hbi⟩ := dr_l q s (by omega) hv (q + 3) 0 (by omega) (by omega)
      exact ⟨b, hb, hbi.trans ⟨fun h2 => ⟨(can_iff hv).2 h2, by omega⟩, fun h2 => (can_iff hv).1 h2.1⟩⟩
end Go.Proofs.YtbiihldcljemfaaGreatDoor
end
section
/- Unions, and what is within what. -/
namespace Go.Proofs.YtbiihldcljemfaaGreatDoor
open Pal
end Go.Proofs.YtbiihldcljemfaaGreatDoor
end
section
/- That runs answer; binary search. -/
namespace Go.Proofs.YtbiihldcljemfaaGreatDoor.Pal
open Go
end Go.Proofs.YtbiihldcljemfaaGreatDoor.Pal
end
section
/- The document's checks of names, paths, values, operations and transactions answer, of short ones. -/
namespace Go.Proofs.YtbiihldcljemfaaGreatDoor
open Pal
abbrev Str := List UInt8
abbrev Val := Int × (Int × Str)
abbrev Op := Int × (List Str × (Val × (Int × List (Dot × Int))))
abbrev Txn := Dot × (Int × (Int × (Bool × List Op)))
noncomputable instance decOp : DecidableEq Op := fun a b => Classical.propDecidable (a = b)
noncomputable instance decTxn : DecidableEq Txn := fun a b => Classical.propDecidable (a = b)
theorem ilt_lenR {α : Type} (c : Nat) (xs : List α) : ilt (c : Int) (ilen xs) = decide (c < xs.length) := by unfold ilt ilen; exact decide_eq_decide.2 ⟨fun h => by omega, fun h => by omega⟩
theorem ile_len {α : Type} (c : Nat) (xs : List α) : ile (ilen xs) (c : Int) = decide (xs.length ≤ c) := by unfold ile ilen; exact decide_eq_decide.2 ⟨fun h => by omega, fun h => by omega⟩
theorem rchar_is (k : Nat) (s : Str) (hk : 10 < k) (hs : s.length < 4000000) : ∃ (c n : Int), ref03_Char.f k s = some (c, n) ∧ 0 ≤ n ∧ n ≤ (s.length : Int) := by
  rw [ref03_Char.f_eq]
  have e0 : ieq (ilen s) 0 = decide (s.length = 0) := ieq0 s
  rw [e0]
  by_cases h0 : s.length = 0
  · rw [decide_eq_true h0]; exact ⟨0, 0, rfl, by decide, by omega⟩
  rw [decide_eq_false h0]
  have e1 : inL 0 s = true := by
    have := inL_nat 0 s
    rw [show inL 0 s = decide (0 < s.length) from this]; exact decide_eq_true (by omega)
  have l2 : ∀ c : Nat, ilt (ilen s) (c : Int) = decide (s.length < c) := fun c => by unfold ilt ilen; exact decide_eq_decide.2 ⟨fun h => by omega, fun h => by omega⟩
  have key : ∀ (N : Nat) (m x : Int), 1 ≤ N → N ≤ s.length → N ≤ 4 → ∃ (c n : Int), ref03_Char.l17 k k s x (N : Int) m 1 = some (c, n) ∧ 0 ≤ n ∧ n ≤ (s.length : Int) := by
    intro N m x hN1 hN hN4
    have : ∀ n i (x : Int), 1 ≤ i → N < n + i → i ≤ N → ∃ (c q : Int), ref03_Char.l17 k n s x (N : Int) m (i : Int) = some (c, q) ∧ 0 ≤ q ∧ q ≤ (s.length : Int) := by
      intro n
      induction n with
      | zero =>
        intro i x h1 h2 h3
        omega
      | succ n ih =>
        intro i x h1 h2 h3
        rw [ref03_Char.l17_eq, ilt_nn]
        by_cases hi : i < N
        · have e2 : inL (i : Int) s = true := by rw [inL_nat]; exact decide_eq_true (by omega)
          have e3 : iadd .i64 (i : Int) 1 = ((i + 1 : Nat) : Int) := iadd_nat (by omega)
          rw [decide_eq_true hi, e2, e3]
          simp only [br_true]
          have z : ∃ (c q : Int), (some ((0 : Int), (0 : Int))) = some (c, q) ∧ 0 ≤ q ∧ q ≤ (s.length : Int) := ⟨0, 0, rfl, by decide, by omega⟩
          have y := ih (i + 1) (isub .i64 (iadd .i64 (imul .i64 64 x) (iwrap .i64 (byteAt s (i : Int)))) 128) (by omega) (by omega) (by omega)
          cases ilt (byteAt s (i : Int)) 128 with
          | true => exact z
          | false =>
            cases ilt 191 (byteAt s (i : Int)) with
            | true => exact z
            | false => exact y
        · rw [decide_eq_false hi]
          simp only [br_false]
          have z : ∃ (c q : Int), (some ((0 : Int), (0 : Int))) = some (c, q) ∧ 0 ≤ q ∧ q ≤ (s.length : Int) := ⟨0, 0, rfl, by decide, by omega⟩
          have y : ∃ (c q : Int), (some (x, (N : Int))) = some (c, q) ∧ 0 ≤ q ∧ q ≤ (s.length : Int) := ⟨x, N, rfl, by omega, by omega⟩
          cases ilt x m with
          | true => exact z
          | false =>
            cases ilt 1114111 x with
            | true => exact z
            | false =>
              cases ile 55296 x with
              | false => exact y
              | true => cases ile x 57343 with
                | true => exact z
                | false => exact y
    exact this k 1 x (by omega) (by omega) (by omega)
  have z : ∃ (c q : Int), (some ((0 : Int), (0 : Int))) = some (c, q) ∧ 0 ≤ q ∧ q ≤ (s.length : Int) := ⟨0, 0, rfl, by decide, by omega⟩
  have kk : ∀ (N : Nat) (m x : Int), 1 ≤ N → N ≤ 4 → ∃ (c n : Int), br (ilt (ilen s) (N : Int)) (some ((0 : Int), (0 : Int))) (ref03_Char.l17 k k s x (N : Int) m 1) = some (c, n) ∧ 0 ≤ n ∧ n ≤ (s.length : Int) := by
    intro N m x hN1 hN
    rw [l2]
    by_cases h : s.length < N
    · rw [decide_eq_true h]; exact z
    · rw [decide_eq_false h]; exact key N m x hN1 (by omega) hN
  have k2 := fun m x => kk 2 m x (by decide) (by decide)
  have k3 := fun m x => kk 3 m x (by decide) (by decide)
  have k4 := fun m x => kk 4 m x (by decide) (by decide)
  rw [e1]
  simp only [br_true, br_false]
  generalize iwrap .i64 (byteAt s 0) = b
  cases ilt b 128 with
  | true => exact ⟨b, 1, rfl, by decide, by omega⟩
  | false =>
    cases ile 194 b <;> cases ilt b 224 <;> cases ile 224 b <;> cases ilt b 240 <;> cases ile 240 b <;> cases ilt b 245 <;> simp only [br_true, br_false] <;> first | exact z | exact k2 _ _ | exact k3 _ _ | exact k4 _ _
def ShortP (p : List Str) : Prop := p.length ≤ 12 ∧ ∀ s ∈ p, List.length s ≤ 120
structure ShortO (o : Op) : Prop where
  path : ShortP o.2.1
  val : o.2.2.1.2.2.length ≤ 200
  seen : o.2.2.2.2.length ≤ 300
structure ShortT (t : Txn) : Prop where
  len : t.2.2.2.2.length ≤ 20
  ops : ∀ o ∈ t.2.2.2.2, ShortO o
end Go.Proofs.YtbiihldcljemfaaGreatDoor
end
section
/- The document's characters are the machine's. -/
set_option linter.unusedVariables false
set_option linter.unusedSimpArgs false
namespace Go.Proofs.YtbiihldcljemfaaGreatDoor
open Pal
def finN (x m w : Nat) : Nat × Nat := if x < m ∨ 1114111 < x ∨ (55296 ≤ x ∧ x ≤ 57343) then (0, 0) else (x, w)
def refN (n b0 b1 b2 b3 : Nat) : Nat × Nat :=
  if b0 < 128 then (b0, 1)
  else if 194 ≤ b0 ∧ b0 < 224 then (if n < 2 then (0, 0) else if b1 < 128 ∨ 191 < b1 then (0, 0) else finN (64 * (b0 - 192) + b1 - 128) 128 2)
  else if 224 ≤ b0 ∧ b0 < 240 then (if n < 3 then (0, 0) else if b1 < 128 ∨ 191 < b1 then (0, 0) else if b2 < 128 ∨ 191 < b2 then (0, 0) else finN (64 * (64 * (b0 - 224) + b1 - 128) + b2 - 128) 2048 3)
  else if 240 ≤ b0 ∧ b0 < 245 then (if n < 4 then (0, 0) else if b1 < 128 ∨ 191 < b1 then (0, 0) else if b2 < 128 ∨ 191 < b2 then (0, 0) else if b3 < 128 ∨ 191 < b3 then (0, 0) else finN (64 * (64 * (64 * (b0 - 240) + b1 - 128) + b2 - 128) + b3 - 128) 65536 4)
  else (0, 0)
def charN (n b0 b1 b2 b3 : Nat) : Nat × Nat := if (Go.Lib.decodeN n b0 b1 b2 b3).1 = 65533 ∧ (Go.Lib.decodeN n b0 b1 b2 b3).2 ≤ 1 then (0, 0) else Go.Lib.decodeN n b0 b1 b2 b3
theorem charN_bad {n b0 b1 b2 b3 : Nat} (e : Go.Lib.decodeN n b0 b1 b2 b3 = (65533, 1)) : charN n b0 b1 b2 b3 = (0, 0) := by
  unfold charN; rw [e]; exact if_pos ⟨rfl, Nat.le_refl _⟩
theorem charN_ok {n b0 b1 b2 b3 c w : Nat} (e : Go.Lib.decodeN n b0 b1 b2 b3 = (c, w)) (h : ¬ (c = 65533 ∧ w ≤ 1)) : charN n b0 b1 b2 b3 = (c, w) := by
  unfold charN; rw [e]; exact if_neg h
theorem decN2 {n b0 b1 b2 b3 : Nat} (h : 194 ≤ b0 ∧ b0 < 224) : Go.Lib.decodeN n b0 b1 b2 b3 = if 1 < n ∧ b1 / 64 = 2 then (b0 % 32 * 64 + b1 % 64, 2) else (65533, 1) := by
  unfold Go.Lib.decodeN
  rw [if_neg (show ¬ b0 < 128 by omega)]
  by_cases g : 1 < n ∧ b1 / 64 = 2
  · rw [if_pos (show b0 / 32 = 6 ∧ (1 < n ∧ b1 / 64 = 2) from ⟨by omega, g⟩), if_pos g, if_pos (show b0 % 32 * 64 + b1 % 64 ≥ 128 by omega)]
  · rw [if_neg (show ¬ (b0 / 32 = 6 ∧ (1 < n ∧ b1 / 64 = 2)) from fun h => g h.2), if_neg g, if_neg (fun hh => by omega), if_neg (fun hh => by omega)]
def val3 (b0 b1 b2 : Nat) : Nat := b0 % 16 * 4096 + b1 % 64 * 64 + b2 % 64
def val4 (b0 b1 b2 b3 : Nat) : Nat := b0 % 8 * 262144 + b1 % 64 * 4096 + b2 % 64 * 64 + b3 % 64
theorem decN3 {n b0 b1 b2 b3 : Nat} (h : 224 ≤ b0 ∧ b0 < 240) : Go.Lib.decodeN n b0 b1 b2 b3 = if (1 < n ∧ b1 / 64 = 2) ∧ (2 < n ∧ b2 / 64 = 2) then (if val3 b0 b1 b2 ≥ 2048 ∧ (val3 b0 b1 b2 < 55296 ∨ (57344 ≤ val3 b0 b1 b2 ∧ val3 b0 b1 b2 ≤ 1114111)) then (val3 b0 b1 b2, 3) else (65533, 1)) else (65533, 1) := by
  unfold Go.Lib.decodeN
  rw [if_neg (show ¬ b0 < 128 by omega), if_neg (show ¬ (b0 / 32 = 6 ∧ (1 < n ∧ b1 / 64 = 2)) from fun hh => by omega)]
  by_cases g : (1 < n ∧ b1 / 64 = 2) ∧ (2 < n ∧ b2 / 64 = 2)
  · rw [if_pos (show b0 / 16 = 14 ∧ (1 < n ∧ b1 / 64 = 2) ∧ (2 < n ∧ b2 / 64 = 2) from ⟨by omega, g⟩), if_pos g]; rfl
  · rw [if_neg (show ¬ (b0 / 16 = 14 ∧ (1 < n ∧ b1 / 64 = 2) ∧ (2 < n ∧ b2 / 64 = 2)) from fun h => g h.2), if_neg g, if_neg (fun hh => by omega)]
theorem decN4 {n b0 b1 b2 b3 : Nat} (h : 240 ≤ b0 ∧ b0 < 248) : Go.Lib.decodeN n b0 b1 b2 b3 = if (1 < n ∧ b1 / 64 = 2) ∧ (2 < n ∧ b2 / 64 = 2) ∧ (3 < n ∧ b3 / 64 = 2) then (if val4 b0 b1 b2 b3 ≥ 65536 ∧ (val4 b0 b1 b2 b3 < 55296 ∨ (57344 ≤ val4 b0 b1 b2 b3 ∧ val4 b0 b1 b2 b3 ≤ 1114111)) then (val4 b0 b1 b2 b3, 4) else (65533, 1)) else (65533, 1) := by
  unfold Go.Lib.decodeN
  rw [if_neg (show ¬ b0 < 128 by omega), if_neg (show ¬ (b0 / 32 = 6 ∧ (1 < n ∧ b1 / 64 = 2)) from fun hh => by omega), if_neg (show ¬ (b0 / 16 = 14 ∧ (1 < n ∧ b1 / 64 = 2) ∧ (2 < n ∧ b2 / 64 = 2)) from fun hh => by omega)]
  by_cases g : (1 < n ∧ b1 / 64 = 2) ∧ (2 < n ∧ b2 / 64 = 2) ∧ (3 < n ∧ b3 / 64 = 2)
  · rw [if_pos (show b0 / 8 = 30 ∧ (1 < n ∧ b1 / 64 = 2) ∧ (2 < n ∧ b2 / 64 = 2) ∧ (3 < n ∧ b3 / 64 = 2) from ⟨by omega, g⟩), if_pos g]; rfl
  · rw [if_neg (show ¬ (b0 / 8 = 30 ∧ (1 < n ∧ b1 / 64 = 2) ∧ (2 < n ∧ b2 / 64 = 2) ∧ (3 < n ∧ b3 / 64 = 2)) from fun h => g h.2), if_neg g]
theorem decN0 {n b0 b1 b2 b3 : Nat} (h : (128 ≤ b0 ∧ b0 < 194) ∨ 248 ≤ b0) (hb : b0 < 256) : Go.Lib.decodeN n b0 b1 b2 b3 = (65533, 1) := by
  unfold Go.Lib.decodeN
  rw [if_neg (show ¬ b0 < 128 by omega)]
  by_cases g : b0 / 32 = 6 ∧ (1 < n ∧ b1 / 64 = 2)
  · rw [if_pos g, if_neg (show ¬ b0 % 32 * 64 + b1 % 64 ≥ 128 by omega)]
  · rw [if_neg g, if_neg (show ¬ (b0 / 16 = 14 ∧ (1 < n ∧ b1 / 64 = 2) ∧ (2 < n ∧ b2 / 64 = 2)) from fun hh => by omega), if_neg (show ¬ (b0 / 8 = 30 ∧ (1 < n ∧ b1 / 64 = 2) ∧ (2 < n ∧ b2 / 64 = 2) ∧ (3 < n ∧ b3 / 64 = 2)) from fun hh => by omega)]
theorem finN_no {x m w : Nat} (h : ¬ (x ≥ m ∧ (x < 55296 ∨ (57344 ≤ x ∧ x ≤ 1114111)))) : finN x m w = (0, 0) := if_pos (by omega)
theorem finN_ok {x m w : Nat} (h : x ≥ m ∧ (x < 55296 ∨ (57344 ≤ x ∧ x ≤ 1114111))) : finN x m w = (x, w) := if_neg (by omega)
theorem refN_eq (n b0 b1 b2 b3 : Nat) (hn : 1 ≤ n) (h0 : b0 < 256) (h1 : b1 < 256) (h2 : b2 < 256) (h3 : b3 < 256) : refN n b0 b1 b2 b3 = charN n b0 b1 b2 b3 := by
  unfold refN
  by_cases c0 : b0 < 128
  · have e : Go.Lib.decodeN n b0 b1 b2 b3 = (b0, 1) := by unfold Go.Lib.decodeN; rw [if_pos c0]
    rw [if_pos c0, charN_ok e (fun h => by omega)]
  rw [if_neg c0]
  by_cases c1 : 194 ≤ b0 ∧ b0 < 224
  · rw [if_pos c1]
    have e := decN2 (n := n) (b1 := b1) (b2 := b2) (b3 := b3) c1
    by_cases g : 1 < n ∧ b1 / 64 = 2
    · rw [if_pos g] at e
      rw [charN_ok e (fun h => by omega), if_neg (show ¬ n < 2 by omega), if_neg (show ¬ (b1 < 128 ∨ 191 < b1) by omega), show 64 * (b0 - 192) + b1 - 128 = b0 % 32 * 64 + b1 % 64 by omega]
      exact finN_ok (by omega)
    · rw [if_neg g] at e
      rw [charN_bad e]
      by_cases g1 : n < 2
      · rw [if_pos g1]
      · rw [if_neg g1, if_pos (show b1 < 128 ∨ 191 < b1 by omega)]
  rw [if_neg c1]
  by_cases c2 : 224 ≤ b0 ∧ b0 < 240
  · rw [if_pos c2]
    have e := decN3 (n := n) (b1 := b1) (b2 := b2) (b3 := b3) c2
    by_cases g : (1 < n ∧ b1 / 64 = 2) ∧ (2 < n ∧ b2 / 64 = 2)
    · rw [if_pos g] at e
      rw [if_neg (show ¬ n < 3 by omega), if_neg (show ¬ (b1 < 128 ∨ 191 < b1) by omega), if_neg (show ¬ (b2 < 128 ∨ 191 < b2) by omega), show 64 * (64 * (b0 - 224) + b1 - 128) + b2 - 128 = val3 b0 b1 b2 by unfold val3; omega]
      by_cases q : val3 b0 b1 b2 ≥ 2048 ∧ (val3 b0 b1 b2 < 55296 ∨ (57344 ≤ val3 b0 b1 b2 ∧ val3 b0 b1 b2 ≤ 1114111))
      · rw [if_pos q] at e
        rw [charN_ok e (fun h => by omega), finN_ok q]
      · rw [if_neg q] at e
        rw [charN_bad e, finN_no q]
    · rw [if_neg g] at e
      rw [charN_bad e]
      by_cases g1 : n < 3
      · rw [if_pos g1]
      · rw [if_neg g1]
        by_cases g2 : b1 < 128 ∨ 191 < b1
        · rw [if_pos g2]
        · rw [if_neg g2, if_pos (show b2 < 128 ∨ 191 < b2 by omega)]
  rw [if_neg c2]
  by_cases c3 : 240 ≤ b0 ∧ b0 < 245
  · rw [if_pos c3]
    have e := decN4 (n := n) (b1 := b1) (b2 := b2) (b3 := b3) (show 240 ≤ b0 ∧ b0 < 248 by omega)
    by_cases g : (1 < n ∧ b1 / 64 = 2) ∧ (2 < n ∧ b2 / 64 = 2) ∧ (3 < n ∧ b3 / 64 = 2)
    · rw [if_pos g] at e
      rw [if_neg (show ¬ n < 4 by omega), if_neg (show ¬ (b1 < 128 ∨ 191 < b1) by omega), if_neg (show ¬ (b2 < 128 ∨ 191 < b2) by omega), if_neg (show ¬ (b3 < 128 ∨ 191 < b3) by omega), show 64 * (64 * (64 * (b0 - 240) + b1 - 128) + b2 - 128) + b3 - 128 = val4 b0 b1 b2 b3 by unfold val4; omega]
      by_cases q : val4 b0 b1 b2 b3 ≥ 65536 ∧ (val4 b0 b1 b2 b3 < 55296 ∨ (57344 ≤ val4 b0 b1 b2 b3 ∧ val4 b0 b1 b2 b3 ≤ 1114111))
      · rw [if_pos q] at e
        rw [charN_ok e (fun h => by omega), finN_ok q]
      · rw [if_neg q] at e
        rw [charN_bad e, finN_no q]
    · rw [if_neg g] at e
      rw [charN_bad e]
      by_cases g1 : n < 4
      · rw [if_pos g1]
      · rw [if_neg g1]
        by_cases g2 : b1 < 128 ∨ 191 < b1
        · rw [if_pos g2]
        · rw [if_neg g2]
          by_cases g3 : b2 < 128 ∨ 191 < b2
          · rw [if_pos g3]
          · rw [if_neg g3, if_pos (show b3 < 128 ∨ 191 < b3 by omega)]
  · rw [if_neg c3]
    by_cases c4 : 245 ≤ b0 ∧ b0 < 248
    · have e := decN4 (n := n) (b1 := b1) (b2 := b2) (b3 := b3) (show 240 ≤ b0 ∧ b0 < 248 by omega)
      have hv : ¬ (val4 b0 b1 b2 b3 ≥ 65536 ∧ (val4 b0 b1 b2 b3 < 55296 ∨ (57344 ≤ val4 b0 b1 b2 b3 ∧ val4 b0 b1 b2 b3 ≤ 1114111))) := by unfold val4; omega
      rw [if_neg hv, ite_self] at e
      rw [charN_bad e]
    · rw [charN_bad (decN0 (by omega) h0)]
def byt (t : Str) (i : Nat) : Nat := (List.getD t i 0).toNat
theorem byt_lt (t : Str) (i : Nat) : byt t i < 256 := UInt8.toNat_lt _
theorem byt_at (t : Str) (i : Nat) : byteAt t (i : Int) = (byt t i : Int) := rfl
theorem l17_end (k n N x m : Nat) (t : Str) : ref03_Char.l17 k (n + 1) t (x : Int) (N : Int) (m : Int) (N : Int) = some (((finN x m N).1 : Int), ((finN x m N).2 : Int)) := by
  rw [ref03_Char.l17_eq, ilt_nn, decide_eq_false (Nat.lt_irrefl _), br_false, ilt_nn]
  unfold finN
  by_cases h1 : x < m
  · rw [decide_eq_true h1, br_true, if_pos (.inl h1)]; rfl
  · rw [decide_eq_false h1, br_false, show ilt (1114111 : Int) (x : Int) = decide (1114111 < x) from ilt_nn 1114111 x]
    by_cases h2 : 1114111 < x
    · rw [decide_eq_true h2, br_true, if_pos (.inr (.inl h2))]; rfl
    · rw [decide_eq_false h2, br_false, show ile (55296 : Int) (x : Int) = decide (55296 ≤ x) from decide_eq_decide.2 ⟨fun h => by omega, fun h => by omega⟩]
      by_cases h3 : 55296 ≤ x
      · rw [decide_eq_true h3, br_true, show ile (x : Int) (57343 : Int) = decide (x ≤ 57343) from decide_eq_decide.2 ⟨fun h => by omega, fun h => by omega⟩]
        by_cases h4 : x ≤ 57343
        · rw [decide_eq_true h4, br_true, if_pos (.inr (.inr ⟨h3, h4⟩))]; rfl
        · rw [decide_eq_false h4, br_false, if_neg (by omega)]
      · rw [decide_eq_false h3, br_false, if_neg (by omega)]
theorem l17_step (k n N x m i : Nat) (t : Str) (hi : i < N) (hN : N ≤ t.length) (hx : x < 1000000) (hi4 : i < 100) :
    ref03_Char.l17 k (n + 1) t (x : Int) (N : Int) (m : Int) (i : Int) = if byt t i < 128 ∨ 191 < byt t i then some (0, 0) else ref03_Char.l17 k n t ((64 * x + byt t i - 128 : Nat) : Int) (N : Int) (m : Int) ((i + 1 : Nat) : Int) := by
  have hb := byt_lt t i
  rw [ref03_Char.l17_eq, ilt_nn, decide_eq_true hi, br_true, inL_nat, decide_eq_true (show i < t.length by omega), br_true, byt_at, show ilt ((byt t i : Nat) : Int) 128 = decide (byt t i < 128) from ilt_nn _ 128,
    show ilt (191 : Int) ((byt t i : Nat) : Int) = decide (191 < byt t i) from ilt_nn 191 _]
  by_cases h1 : byt t i < 128
  · rw [decide_eq_true h1, br_true, if_pos (.inl h1)]
  · rw [decide_eq_false h1, br_false, br_true]
    by_cases h2 : 191 < byt t i
    · rw [decide_eq_true h2, br_true, if_pos (.inr h2)]
    · have e1 : iwrap .i64 ((byt t i : Nat) : Int) = ((byt t i : Nat) : Int) := by
        show IntKind.wrap .i64 _ = _
        rw [IntKind.wrap_i64]; omega
      have e2 : imul .i64 64 (x : Int) = ((64 * x : Nat) : Int) := by
        show IntKind.wrap .i64 (64 * (x : Int)) = _
        rw [IntKind.wrap_i64]; omega
      have e3 : iadd .i64 ((64 * x : Nat) : Int) ((byt t i : Nat) : Int) = ((64 * x + byt t i : Nat) : Int) := by
        show IntKind.wrap .i64 (((64 * x : Nat) : Int) + ((byt t i : Nat) : Int)) = _
        rw [IntKind.wrap_i64]; omega
      have e4 : isub .i64 ((64 * x + byt t i : Nat) : Int) 128 = ((64 * x + byt t i - 128 : Nat) : Int) := by
        show IntKind.wrap .i64 (((64 * x + byt t i : Nat) : Int) - 128) = _
        rw [IntKind.wrap_i64]; omega
      rw [decide_eq_false h2, br_false, br_true, e1, e2, e3, e4, iadd_nat (show i < 4611686018427387904 by omega), if_neg (by omega)]
theorem rchar_eq (k : Nat) (t : Str) (hk : 10 < k) (h0 : t ≠ []) : ref03_Char.f k t = some (((refN t.length (byt t 0) (byt t 1) (byt t 2) (byt t 3)).1 : Int), ((refN t.length (byt t 0) (byt t 1) (byt t 2) (byt t 3)).2 : Int)) := by
  have hl : 0 < t.length := List.length_pos_iff.2 h0
  obtain ⟨q, rfl⟩ : ∃ q, k = q + 5 := ⟨k - 5, by omega⟩
  have hb := byt_lt t 0; have hb1 := byt_lt t 1; have hb2 := byt_lt t 2; have hb3 := byt_lt t 3
  have e0 : ieq (ilen t) 0 = decide (t.length = 0) := ieq0 t
  have e1 : inL 0 t = true := by
    rw [show inL 0 t = decide (0 < t.length) from inL_nat 0 t]; exact decide_eq_true hl
  have l2 : ∀ c : Nat, ilt (ilen t) (c : Int) = decide (t.length < c) := fun c => by unfold ilt ilen; exact decide_eq_decide.2 ⟨fun h => by omega, fun h => by omega⟩
  have eb : iwrap .i64 (byteAt t 0) = ((byt t 0 : Nat) : Int) := by
    show IntKind.wrap .i64 ((byt t 0 : Nat) : Int) = _
    rw [IntKind.wrap_i64]; omega
  have m2 : ∀ x : Nat, x < 100 → 2 ≤ t.length → ref03_Char.l17 (q + 5) (q + 5) t (x : Int) 2 128 1 = some (((if byt t 1 < 128 ∨ 191 < byt t 1 then (0, 0) else finN (64 * x + byt t 1 - 128) 128 2 : Nat × Nat).1 : Int), ((if byt t 1 < 128 ∨ 191 < byt t 1 then (0, 0) else finN (64 * x + byt t 1 - 128) 128 2 : Nat × Nat).2 : Int)) := fun x hx h2 => by
    have s1 := l17_step (q + 5) (q + 4) 2 x 128 1 t (by omega) h2 (by omega) (by omega)
    have s2 := l17_end (q + 5) (q + 3) 2 (64 * x + byt t 1 - 128) 128 t
    refine s1.trans ?_
    by_cases h : byt t 1 < 128 ∨ 191 < byt t 1
    · rw [if_pos h, if_pos h]; rfl
    · rw [if_neg h, if_neg h]; exact s2
  have m3 : ∀ x : Nat, x < 100 → 3 ≤ t.length → ref03_Char.l17 (q + 5) (q + 5) t (x : Int) 3 2048 1 = some (((if byt t 1 < 128 ∨ 191 < byt t 1 then (0, 0) else if byt t 2 < 128 ∨ 191 < byt t 2 then (0, 0) else finN (64 * (64 * x + byt t 1 - 128) + byt t 2 - 128) 2048 3 : Nat × Nat).1 : Int), ((if byt t 1 < 128 ∨ 191 < byt t 1 then (0, 0) else if byt t 2 < 128 ∨ 191 < byt t 2 then (0, 0) else finN (64 * (64 * x + byt t 1 - 128) + byt t 2 - 128) 2048 3 : Nat × Nat).2 : Int)) := fun x hx h2 => by
    have s1 := l17_step (q + 5) (q + 4) 3 x 2048 1 t (by omega) h2 (by omega) (by omega)
    have s2 := l17_step (q + 5) (q + 3) 3 (64 * x + byt t 1 - 128) 2048 2 t (by omega) h2 (by omega) (by omega)
    have s3 := l17_end (q + 5) (q + 2) 3 (64 * (64 * x + byt t 1 - 128) + byt t 2 - 128) 2048 t
    refine s1.trans ?_
    by_cases h : byt t 1 < 128 ∨ 191 < byt t 1
    · rw [if_pos h, if_pos h]; rfl
    · rw [if_neg h, if_neg h]
      refine s2.trans ?_
      by_cases h' : byt t 2 < 128 ∨ 191 < byt t 2
      · rw [if_pos h', if_pos h']; rfl
      · rw [if_neg h', if_neg h']; exact s3
  have m4 : ∀ x : Nat, x < 100 → 4 ≤ t.length → ref03_Char.l17 (q + 5) (q + 5) t (x : Int) 4 65536 1 = some (((if byt t 1 < 128 ∨ 191 < byt t 1 then (0, 0) else if byt t 2 < 128 ∨ 191 < byt t 2 then (0, 0) else if byt t 3 < 128 ∨ 191 < byt t 3 then (0, 0) else finN (64 * (64 * (64 * x + byt t 1 - 128) + byt t 2 - 128) + byt t 3 - 128) 65536 4 : Nat × Nat).1 : Int), ((if byt t 1 < 128 ∨ 191 < byt t 1 then (0, 0) else if byt t 2 < 128 ∨ 191 < byt t 2 then (0, 0) else if byt t 3 < 128 ∨ 191 < byt t 3 then (0, 0) else finN (64 * (64 * (64 * x + byt t 1 - 128) + byt t 2 - 128) + byt t 3 - 128) 65536 4 : Nat × Nat).2 : Int)) := fun x hx h2 => by
    have s1 := l17_step (q + 5) (q + 4) 4 x 65536 1 t (by omega) h2 (by omega) (by omega)
    have s2 := l17_step (q + 5) (q + 3) 4 (64 * x + byt t 1 - 128) 65536 2 t (by omega) h2 (by omega) (by omega)
    have s3 := l17_step (q + 5) (q + 2) 4 (64 * (64 * x + byt t 1 - 128) + byt t 2 - 128) 65536 3 t (by omega) h2 (by omega) (by omega)
    have s4 := l17_end (q + 5) (q + 1) 4 (64 * (64 * (64 * x + byt t 1 - 128) + byt t 2 - 128) + byt t 3 - 128) 65536 t
    refine s1.trans ?_
    by_cases h : byt t 1 < 128 ∨ 191 < byt t 1
    · rw [if_pos h, if_pos h]; rfl
    · rw [if_neg h, if_neg h]
      refine s2.trans ?_
      by_cases h' : byt t 2 < 128 ∨ 191 < byt t 2
      · rw [if_pos h', if_pos h']; rfl
      · rw [if_neg h', if_neg h']
        refine s3.trans ?_
        by_cases h'' : byt t 3 < 128 ∨ 191 < byt t 3
        · rw [if_pos h'', if_pos h'']; rfl
        · rw [if_neg h'', if_neg h'']; exact s4
  have bl : ∀ c : Nat, ilt ((byt t 0 : Nat) : Int) (c : Int) = decide (byt t 0 < c) := fun c => ilt_nn _ c
  have bg : ∀ c : Nat, ile (c : Int) ((byt t 0 : Nat) : Int) = decide (c ≤ byt t 0) := fun c => decide_eq_decide.2 ⟨fun h => by omega, fun h => by omega⟩
  have su : ∀ c : Nat, c ≤ byt t 0 → isub .i64 ((byt t 0 : Nat) : Int) (c : Int) = ((byt t 0 - c : Nat) : Int) := fun c hc => by
    show IntKind.wrap .i64 (((byt t 0 : Nat) : Int) - (c : Int)) = _
    rw [IntKind.wrap_i64]; omega
  rw [ref03_Char.f_eq, e0, decide_eq_false (by omega), br_false, e1, br_true, eb, show ilt ((byt t 0 : Nat) : Int) 128 = _ from bl 128]
  unfold refN
  by_cases c0 : byt t 0 < 128
  · rw [decide_eq_true c0, br_true, if_pos c0]; rfl
  rw [decide_eq_false c0, br_false, if_neg c0, show ile (194 : Int) ((byt t 0 : Nat) : Int) = _ from bg 194, show ilt ((byt t 0 : Nat) : Int) 224 = _ from bl 224, show ile (224 : Int) ((byt t 0 : Nat) : Int) = _ from bg 224,
    show ilt ((byt t 0 : Nat) : Int) 240 = _ from bl 240, show ile (240 : Int) ((byt t 0 : Nat) : Int) = _ from bg 240, show ilt ((byt t 0 : Nat) : Int) 245 = _ from bl 245,
    show ilt (ilen t) 2 = _ from l2 2, show ilt (ilen t) 3 = _ from l2 3, show ilt (ilen t) 4 = _ from l2 4]
  by_cases c1 : 194 ≤ byt t 0 ∧ byt t 0 < 224
  · rw [decide_eq_true c1.1, br_true, decide_eq_true c1.2, br_true, if_pos c1]
    by_cases g : t.length < 2
    · rw [decide_eq_true g, br_true, if_pos g]; rfl
    · rw [decide_eq_false g, br_false, if_neg g, show isub .i64 ((byt t 0 : Nat) : Int) 192 = _ from su 192 (by omega)]
      exact m2 _ (by omega) (by omega)
  rw [if_neg c1]
  by_cases c2 : 224 ≤ byt t 0 ∧ byt t 0 < 240
  · rw [decide_eq_true (show 194 ≤ byt t 0 by omega), br_true, decide_eq_false (show ¬ byt t 0 < 224 by omega), br_false, decide_eq_true c2.1, br_true, decide_eq_true c2.2, br_true, if_pos c2]
    by_cases g : t.length < 3
    · rw [decide_eq_true g, br_true, if_pos g]; rfl
    · rw [decide_eq_false g, br_false, if_neg g, show isub .i64 ((byt t 0 : Nat) : Int) 224 = _ from su 224 (by omega)]
      exact m3 _ (by omega) (by omega)
  rw [if_neg c2]
  by_cases c3 : 240 ≤ byt t 0 ∧ byt t 0 < 245
  · rw [decide_eq_true (show 194 ≤ byt t 0 by omega), br_true, decide_eq_false (show ¬ byt t 0 < 224 by omega), br_false, decide_eq_true (show 224 ≤ byt t 0 by omega), br_true, decide_eq_false (show ¬ byt t 0 < 240 by omega), br_false, decide_eq_true c3.1, br_true, decide_eq_true c3.2, br_true, if_pos c3]
    by_cases g : t.length < 4
    · rw [decide_eq_true g, br_true, if_pos g]; rfl
    · rw [decide_eq_false g, br_false, if_neg g, show isub .i64 ((byt t 0 : Nat) : Int) 240 = _ from su 240 (by omega)]
      exact m4 _ (by omega) (by omega)
  rw [if_neg c3]
  by_cases d1 : 194 ≤ byt t 0
  · have d2 : ¬ byt t 0 < 224 := by omega
    have d3 : 224 ≤ byt t 0 := by omega
    have d4 : ¬ byt t 0 < 240 := by omega
    have d5 : 240 ≤ byt t 0 := by omega
    have d6 : ¬ byt t 0 < 245 := by omega
    rw [decide_eq_true d1, br_true, decide_eq_false d2, br_false, decide_eq_true d3, br_true, decide_eq_false d4, br_false, decide_eq_true d5, br_true, decide_eq_false d6, br_false]; rfl
  · have d3 : ¬ 224 ≤ byt t 0 := by omega
    have d5 : ¬ 240 ≤ byt t 0 := by omega
    rw [decide_eq_false d1, br_false, decide_eq_false d3, br_false, decide_eq_false d5, br_false]; rfl
end Go.Proofs.YtbiihldcljemfaaGreatDoor
end
section
/- Names and values: the program's tests are the document's. -/
set_option linter.unusedVariables false
set_option linter.unusedSimpArgs false
namespace Go.Proofs.YtbiihldcljemfaaGreatDoor
open Pal
theorem bget (s : Str) (j : Nat) : ((⟨s.toArray⟩ : ByteArray).get! j).toNat = byt s j := by
  unfold byt
  show (s.toArray.getD j default).toNat = _
  rw [Array.getD_eq_getD_getElem?, List.getElem?_toArray, ← List.getD_eq_getElem?_getD]; rfl
theorem byt_drop (s : Str) (i j : Nat) : byt (s.drop i) j = byt s (i + j) := by
  unfold byt
  rw [List.getD_eq_getElem?_getD, List.getD_eq_getElem?_getD, List.getElem?_drop]
theorem piece_drop (s : Str) (i : Nat) : piece s (i : Int) (ilen s) = s.drop i := by
  unfold piece ilen
  rw [Int.toNat_natCast, Int.toNat_natCast, List.take_length]
theorem rchar_at (k : Nat) (s : Str) (i : Nat) (hi : i < s.length) (hk : 10 < k) :
    ref03_Char.f k (piece s (i : Int) (ilen s)) = some (if badAt ⟨s.toArray⟩ i = true then (0, 0) else (((Go.Utf8.decode ⟨s.toArray⟩ i).1 : Int), ((Go.Utf8.decode ⟨s.toArray⟩ i).2 : Int))) := by
  have hne : s.drop i ≠ [] := fun h => by have := congrArg List.length h; rw [List.length_drop, List.length_nil] at this; omega
  have hd : Go.Utf8.decode ⟨s.toArray⟩ i = Go.Lib.decodeN (s.length - i) (byt s i) (byt s (i + 1)) (byt s (i + 2)) (byt s (i + 3)) := by
    rw [Go.Lib.decode_at, bget, bget, bget, bget]; rfl
  rw [piece_drop, rchar_eq k _ hk hne, refN_eq _ _ _ _ _ (by rw [List.length_drop]; omega) (byt_lt _ _) (byt_lt _ _) (byt_lt _ _) (byt_lt _ _), List.length_drop, byt_drop, byt_drop, byt_drop, byt_drop, Nat.add_zero]
  unfold charN badAt
  rw [← hd]
  by_cases h : (Go.Utf8.decode ⟨s.toArray⟩ i).1 = 65533 ∧ (Go.Utf8.decode ⟨s.toArray⟩ i).2 ≤ 1
  · rw [if_pos h, if_pos (by rw [decide_eq_true h.1, decide_eq_true h.2]; rfl)]; rfl
  · rw [if_neg h, if_neg (fun hh => h (by simpa using hh))]
theorem rrunes_l (k : Nat) (s : Str) (hk : 10 < k) (hs : s.length < 1000000) : ∀ (f n i : Nat) (x : List Int), s.length ≤ f + i → s.length < n + i → i ≤ s.length → x.length ≤ i →
    ref03_Runes.l3 k n s x (i : Int) = some (match runesX ⟨s.toArray⟩ f i with | some l => (x ++ l, true) | none => ([], false))
  | f, 0, i, x, _, h, _, _ => by omega
  | 0, n + 1, i, x, h0, h, hi, hx => by
    have e : i = s.length := by omega
    subst e
    rw [ref03_Runes.l3_eq, ilt_nat, decide_eq_false (Nat.lt_irrefl _), br_false]
    show some (x, true) = some (x ++ [], true)
    rw [List.append_nil]
  | f + 1, n + 1, i, x, h0, h, hi, hx => by
    have hsz : (⟨s.toArray⟩ : ByteArray).size = s.length := by simp [ByteArray.size]
    rw [ref03_Runes.l3_eq, ilt_nat]
    by_cases hl : i < s.length
    · have hin : inS (i : Int) (ilen s) (ilen s) = true := by
        have h1 : (i : Int) ≤ (s.length : Int) := by omega
        show (decide ((0 : Int) ≤ (i : Int)) && decide ((i : Int) ≤ (s.length : Int)) && decide ((s.length : Int) ≤ (s.length : Int))) = true
        rw [decide_eq_true h1, decide_eq_true (show (0 : Int) ≤ (i : Int) by omega), decide_eq_true (Int.le_refl _)]; rfl
      have hw := rwidth_pos ⟨s.toArray⟩ i (by rw [hsz]; exact hl)
      obtain ⟨c, q, hc, q0, q1⟩ := rchar_is k (piece s (i : Int) (ilen s)) hk (by rw [piece_drop, List.length_drop]; omega)
      rw [piece_drop, List.length_drop] at q1
      have hr := rchar_at k s i hl hk
      rw [runesX, if_pos (by rw [hsz]; exact hl), decide_eq_true hl, br_true, hin, br_true, hr, bnd_some]
      by_cases hb : badAt ⟨s.toArray⟩ i = true
      · rw [if_pos hb, if_pos hb]; rfl
      · rw [if_neg hb, if_neg hb]
        rw [hr, if_neg hb] at hc
        injection hc with hc
        have hq : ((Go.Utf8.decode ⟨s.toArray⟩ i).2 : Int) = q := congrArg Prod.snd hc
        have e0 : ieq ((Go.Utf8.decode ⟨s.toArray⟩ i).2 : Int) 0 = false := by rw [ieq_dec]; exact decide_eq_false (by omega)
        have e3 : iadd .i64 (i : Int) ((Go.Utf8.decode ⟨s.toArray⟩ i).2 : Int) = ((i + (Go.Utf8.decode ⟨s.toArray⟩ i).2 : Nat) : Int) := by rw [iadd_s (by omega) (by omega) (by omega) (by omega)]; omega
        rw [show ieq ((((Go.Utf8.decode ⟨s.toArray⟩ i).1 : Int), ((Go.Utf8.decode ⟨s.toArray⟩ i).2 : Int)) : Int × Int).2 0 = false from e0, br_false, room1 (show x.length < 4000000 by omega), br_true]
        show ref03_Runes.l3 k n s _ (iadd .i64 (i : Int) ((Go.Utf8.decode ⟨s.toArray⟩ i).2 : Int)) = _
        rw [e3, rrunes_l k s hk hs f n _ _ (by omega) (by omega) (by omega) (by simp only [app, List.length_append, List.length_cons, List.length_nil]; omega)]
        cases runesX ⟨s.toArray⟩ f (i + (Go.Utf8.decode ⟨s.toArray⟩ i).2) with
        | none => rfl
        | some l => simp [app]
    · have e : i = s.length := by omega
      subst e
      rw [decide_eq_false hl, br_false, runesX, if_neg (by rw [hsz]; omega)]
      show some (x, true) = some (x ++ [], true)
      rw [List.append_nil]
theorem runes_is (k : Nat) (s : Str) (hk : 10 < k) (hs : s.length < k) (hk2 : k < 1000000) : ref03_Runes.f k s = runesB s := by
  have h := rrunes_l k s hk (by omega) s.length k 0 [] (by omega) (by omega) (by omega) (by simp)
  have hz : Nat.ble s.length 1099511627776 = true := Nat.ble_eq_true_of_le (by omega)
  rw [ref03_Runes.f_eq]
  refine h.trans ?_
  unfold runesB
  rw [hz, cond_true]; rfl
theorem may_is (k : Nat) (c : Int) : name_may.f k c = some (mayB c) := by
  rw [name_may.f_eq, show ilt c 32 = decide (c < 32) from rfl]
  unfold mayB
  by_cases h1 : c < 32
  · rw [decide_eq_true h1, br_true, br_true]; rfl
  · rw [decide_eq_false h1, br_false, show ile 127 c = decide (127 ≤ c) from rfl, show ilt c 160 = decide (c < 160) from rfl, ieq_dec, bnot_dec]
    by_cases h2 : 127 ≤ c
    · rw [decide_eq_true h2, br_true]
      by_cases h3 : c < 160
      · rw [decide_eq_true h3, br_true]; rfl
      · rw [decide_eq_false h3, br_false]; simp
    · rw [decide_eq_false h2, br_false]; simp
theorem rmay_is (k : Nat) (c : Int) : ref03_may.f k c = some (mayB c) := by
  rw [ref03_may.f_eq, show ile 32 c = decide (32 ≤ c) from rfl, show ilt c 127 = decide (c < 127) from rfl, show ilt 159 c = decide (159 < c) from rfl, ieq_dec, bnot_dec]
  unfold mayB
  by_cases h1 : 32 ≤ c
  · rw [decide_eq_true h1, br_true, decide_eq_false (show ¬ c < 32 by omega)]
    by_cases h2 : c < 127
    · rw [decide_eq_true h2, br_true, decide_eq_false (show ¬ 127 ≤ c by omega)]; simp
    · rw [decide_eq_false h2, br_false, decide_eq_true (show 127 ≤ c by omega)]
      by_cases h3 : 159 < c
      · rw [decide_eq_true h3, br_true, decide_eq_false (show ¬ c < 160 by omega)]; simp
      · rw [decide_eq_false h3, br_false, decide_eq_true (show c < 160 by omega)]; rfl
  · rw [decide_eq_false h1, br_false, decide_eq_true (show c < 32 by omega)]; rfl
theorem all_step {α : Type} {xs : List α} {i : Nat} (h : i < xs.length) (p : α → Bool) : (xs.drop i).all p = (p xs[i] && (xs.drop (i + 1)).all p) := by
  rw [List.drop_eq_getElem_cons h, List.all_cons]
theorem name_l (k : Nat) (l : List Int) (hl : l.length < 1000000) : ∀ (n i : Nat), i ≤ l.length → l.length < n + i → name_Right.l5 k n l (ilen l) (i : Int) = some ((l.drop i).all mayB)
  | 0, i, _, h => by omega
  | n + 1, i, h, h' => by
    rw [name_Right.l5_eq, ilt_nat, inL_nat, natOf_nat]
    by_cases hi : i < l.length
    · rw [decide_eq_true hi, br_true, br_true, rd_at' (e := .int .i32) hi, may_is, bnd_some, iadd_nat (by omega), all_step hi, name_l k l hl n (i + 1) (by omega) (by omega)]
      cases mayB l[i] <;> rfl
    · rw [decide_eq_false hi, br_false, List.drop_eq_nil_of_le (by omega)]; rfl
theorem rname_l (k : Nat) (l : List Int) (b : Bool) (hl : l.length < 1000000) : ∀ (n i : Nat), i ≤ l.length → l.length < n + i → ref03_Right.l3 k n l b (i : Int) = some ((l.drop i).all mayB && (b && (decide (1 ≤ l.length) && decide (l.length ≤ 24))))
  | 0, i, _, h => by omega
  | n + 1, i, h, h' => by
    rw [ref03_Right.l3_eq, ilt_nat, inL_nat, natOf_nat]
    by_cases hi : i < l.length
    · rw [decide_eq_true hi, br_true, br_true, rd_at' (e := .int .i64) hi, rmay_is, bnd_some, iadd_nat (by omega), all_step hi, rname_l k l b hl n (i + 1) (by omega) (by omega)]
      cases mayB l[i] <;> rfl
    · have e1 : ile 1 (ilen l) = decide (1 ≤ l.length) := decide_eq_decide.2 ⟨fun h => by unfold ilen at h; omega, fun h => by unfold ilen; omega⟩
      have e2 : ile (ilen l) 24 = decide (l.length ≤ 24) := ile_len 24 l
      rw [decide_eq_false hi, br_false, List.drop_eq_nil_of_le (by omega), e1, e2]
      cases b <;> cases decide (1 ≤ l.length) <;> rfl
theorem runesB_len {s : Str} {r : List Int × Bool} (h : runesB s = some r) : r.1.length ≤ s.length ∧ (r.2 = false → r.1 = []) := by
  unfold runesB at h
  cases hz : Nat.ble s.length 1099511627776 with
  | false => rw [hz] at h; cases h
  | true =>
    rw [hz, cond_true] at h
    injection h with h
    subst h
    have key : ∀ (f i : Nat) (l : List Int), runesX ⟨s.toArray⟩ f i = some l → l.length ≤ f := by
      intro f
      induction f with
      | zero => intro i l h; injection h with h; subst h; simp
      | succ f ih =>
        intro i l h
        rw [runesX] at h
        by_cases hp : i < (⟨s.toArray⟩ : ByteArray).size
        · rw [if_pos hp] at h
          by_cases hb : badAt ⟨s.toArray⟩ i = true
          · rw [if_pos hb] at h; cases h
          · rw [if_neg hb] at h
            cases hr : runesX ⟨s.toArray⟩ f (i + (Go.Utf8.decode ⟨s.toArray⟩ i).2) with
            | none => rw [hr] at h; cases h
            | some l' =>
              rw [hr] at h
              have h : some (((Go.Utf8.decode ⟨s.toArray⟩ i).1 : Int) :: l') = some l := h
              injection h with h; subst h
              have := ih _ _ hr
              simp only [List.length_cons]; omega
        · rw [if_neg hp] at h; injection h with h; subst h; simp
    cases hr : runesX ⟨s.toArray⟩ s.length 0 with
    | none => exact ⟨by simp, fun _ => rfl⟩
    | some l => exact ⟨key _ _ _ hr, fun h => by cases h⟩
theorem name_is (k : Nat) (s : Str) (hk : 10 < k) (hs : s.length < k) (hk2 : k < 1000000) : ∃ b, name_Right.f k s = some b ∧ ref03_Right.f k s = some b := by
  have hz : Nat.ble s.length 1099511627776 = true := Nat.ble_eq_true_of_le (by omega)
  obtain ⟨r, hr⟩ : ∃ r, runesB s = some r := ⟨_, by unfold runesB; rw [hz, cond_true]⟩
  obtain ⟨l1, l2⟩ := runesB_len hr
  rw [ref03_Right.f_eq, runes_is k s hk hs hk2, hr, bnd_some, name_Right.f_eq, hr, bnd_some]
  have g2 := rname_l k r.1 r.2 (by omega) k 0 (by omega) (by omega)
  have g1 := name_l k r.1 (by omega) k 0 (by omega) (by omega)
  rw [List.drop_zero] at g1 g2
  refine ⟨_, ?_, g2⟩
  cases h2 : r.2 with
  | false => rw [l2 h2]; rfl
  | true =>
    have bt : bnot true = false := rfl
    have e0 : ieq (ilen r.1) 0 = decide (r.1.length = 0) := ieq0 r.1
    rw [bt, br_false, e0, show ilt 24 (ilen r.1) = decide (24 < r.1.length) from ilt_lenR 24 r.1]
    by_cases c1 : r.1.length = 0
    · rw [decide_eq_true c1, br_true, decide_eq_false (show ¬ 1 ≤ r.1.length by omega)]; simp
    · rw [decide_eq_false c1, br_false, decide_eq_true (show 1 ≤ r.1.length by omega)]
      by_cases c2 : 24 < r.1.length
      · rw [decide_eq_true c2, br_true, decide_eq_false (show ¬ r.1.length ≤ 24 by omega)]; simp
      · rw [decide_eq_false c2, br_false, decide_eq_true (show r.1.length ≤ 24 by omega)]
        refine g1.trans ?_
        simp
theorem val_is (k : Nat) (v : Val) (hk : 10 < k) (hs : v.2.2.length < k) (hk2 : k < 1000000) : ∃ b, value_Right.f k v = some b ∧ ref09_Right.f k v = some b := by
  have hz : Nat.ble v.2.2.length 1099511627776 = true := Nat.ble_eq_true_of_le (by omega)
  obtain ⟨r, hr⟩ : ∃ r, runesB v.2.2 = some r := ⟨_, by unfold runesB; rw [hz, cond_true]⟩
  rw [value_Right.f_eq, ref09_Right.f_eq, runes_is k v.2.2 hk hs hk2, hr]
  simp only [bnd_some]
  cases ieq v.1 1 with
  | true =>
    simp only [br_true]
    cases seq v.2.2 [] <;> cases ile (-2147483647) v.2.1 <;> exact ⟨_, rfl, rfl⟩
  | false =>
    simp only [br_false]
    cases ieq v.1 2 with
    | true =>
      simp only [br_true]
      cases r.2 <;> cases ieq v.2.1 0 <;> exact ⟨_, rfl, rfl⟩
    | false =>
      simp only [br_false]
      cases ieq v.1 3 with
      | false => exact ⟨_, rfl, rfl⟩
      | true =>
        simp only [br_true]
        cases seq v.2.2 [] with
        | false => exact ⟨_, rfl, rfl⟩
        | true =>
          simp only [br_true]
          rw [ieq_dec, show ile 0 v.2.1 = decide (0 ≤ v.2.1) from rfl, show ile v.2.1 1 = decide (v.2.1 ≤ 1) from rfl, ieq_dec]
          by_cases h0 : v.2.1 = 0
          · rw [decide_eq_true h0, br_true, decide_eq_true (show 0 ≤ v.2.1 by omega), br_true, decide_eq_true (show v.2.1 ≤ 1 by omega)]; exact ⟨_, rfl, rfl⟩
          · rw [decide_eq_false h0, br_false]
            by_cases h1 : v.2.1 = 1
            · rw [decide_eq_true h1, decide_eq_true (show 0 ≤ v.2.1 by omega), br_true, decide_eq_true (show v.2.1 ≤ 1 by omega)]; exact ⟨_, rfl, rfl⟩
            · rw [decide_eq_false h1]
              by_cases h2 : 0 ≤ v.2.1
              · rw [decide_eq_true h2, br_true, decide_eq_false (show ¬ v.2.1 ≤ 1 by omega)]; exact ⟨_, rfl, rfl⟩
              · rw [decide_eq_false h2, br_false]; exact ⟨_, rfl, rfl⟩
end Go.Proofs.YtbiihldcljemfaaGreatDoor
end
section
/- Paths, operations, transactions: the program's tests are the document's. -/
set_option linter.unusedVariables false
set_option linter.unusedSimpArgs false
namespace Go.Proofs.YtbiihldcljemfaaGreatDoor
open Pal
theorem path_l (k : Nat) (p : List Str) (hp : ∀ s ∈ p, List.length s < k) (hk : 10 < k) (hk2 : k < 1000000) (hl : p.length < 1000000) : ∀ (n i : Nat), i ≤ p.length → p.length < n + i →
    ∃ r : Int, slices_IndexFunc_string_string_path_Check_1.l2 k n p (ilen p) (i : Int) = some r ∧ ref10_Check.l6 k n p (i : Int) = some (if 0 ≤ r then 8 else 0)
  | 0, i, _, h => by omega
  | n + 1, i, h, h' => by
    rw [slices_IndexFunc_string_string_path_Check_1.l2_eq, ref10_Check.l6_eq, ilt_nat, inL_nat, natOf_nat]
    by_cases hi : i < p.length
    · obtain ⟨b, g1, g2⟩ := name_is k p[i] hk (hp _ (List.getElem_mem hi)) hk2
      rw [decide_eq_true hi, br_true, br_true, br_true, br_true, rd_at' (e := .str) hi, path_Check_1.f_eq, g1, g2, bnd_some, bnd_some, bnd_some, iadd_nat (by omega)]
      cases b with
      | false => exact ⟨(i : Int), rfl, by rw [if_pos (by omega)]; rfl⟩
      | true => exact path_l k p hp hk hk2 hl n (i + 1) (by omega) (by omega)
    · rw [decide_eq_false hi, br_false, br_false]; exact ⟨-1, rfl, rfl⟩
theorem path_is (k : Nat) (p : List Str) (hp : ∀ s ∈ p, List.length s < k) (hk : 10 < k) (hk2 : k < 1000000) (hl : p.length < k) : ∃ e : Int, path_Check.f k p = some e ∧ ref10_Check.f k p = some e := by
  rw [path_Check.f_eq, ref10_Check.f_eq, slices_ContainsFunc_string_string_path_Check_1.f_eq, slices_IndexFunc_string_string_path_Check_1.f_eq]
  cases ieq (ilen p) 0 with
  | true => exact ⟨8, rfl, rfl⟩
  | false =>
    cases ilt 8 (ilen p) with
    | true => exact ⟨9, rfl, rfl⟩
    | false =>
      obtain ⟨r, g1, g2⟩ := path_l k p hp hk hk2 (by omega) k 0 (by omega) (by omega)
      rw [show ((0 : Nat) : Int) = 0 from rfl] at g1 g2
      rw [br_false, br_false, br_false, br_false, g1, g2, bnd_some, bnd_some, show ile 0 r = decide (0 ≤ r) from rfl]
      by_cases h : 0 ≤ r
      · rw [decide_eq_true h, br_true, if_pos h]; exact ⟨8, rfl, rfl⟩
      · rw [decide_eq_false h, br_false, if_neg h]; exact ⟨0, rfl, rfl⟩
def cmpR (a b : Dot × Int) : Int := if cmpD a.1 b.1 = 0 then cmpI a.2 b.2 else cmpD a.1 b.1
theorem cmpI_three (a b : Int) : cmpI a b = -1 ∨ cmpI a b = 0 ∨ cmpI a b = 1 := by unfold cmpI; split <;> (try split) <;> simp
theorem cmpR_three (a b : Dot × Int) : cmpR a b = -1 ∨ cmpR a b = 0 ∨ cmpR a b = 1 := by
  unfold cmpR cmpD
  have h1 := cmpI_three a.1.1 b.1.1; have h2 := cmpI_three a.1.2 b.1.2; have h3 := cmpI_three a.2 b.2
  split <;> (try split) <;> assumption
theorem ref_is (k : Nat) (a b : Dot × Int) (h3 : 3 ≤ k) : dot_Refs.f k a b = some (cmpR a b) := by
  obtain ⟨q, rfl⟩ : ∃ q, k = q + 3 := ⟨k - 3, by omega⟩
  rw [dot_Refs.f_eq, cmpD_is, cmpI_is, bnd_some, bnd_some, or2, bnd_some]; rfl
theorem ints_is (k : Nat) (a b : Int) : ref04_ints.f k a b = some (cmpI a b) := by
  rw [ref04_ints.f_eq]
  unfold cmpI
  by_cases h1 : a < b
  · simp [ilt, h1, br_true]
  · by_cases h2 : b < a <;> simp [ilt, h1, h2, br_true, br_false]
theorem rref_is (k : Nat) (a b : Dot × Int) : ref04_Refs.f k a b = some (cmpR a b) := by
  rw [ref04_Refs.f_eq, rcmp_is, bnd_some, bnd_some, ints_is, bnd_some, ieq_dec, bnot_dec]
  unfold cmpR
  by_cases h : cmpD a.1 b.1 = 0
  · rw [decide_eq_false (by simp [h]), br_false, if_pos h]
  · rw [decide_eq_true h, br_true, if_neg h]
theorem refs_l (k : Nat) (l : List (Dot × Int)) (h3 : 3 ≤ k) (hl : l.length < 1000000) : ∀ (n i : Nat), i ≤ l.length → l.length < n + i → ∃ b, op_Refs.l2 k n l l (ilen l) (i : Int) = some b ∧ ref11_Refs.l2 k n l (i : Int) = some b
  | 0, i, _, h => by omega
  | n + 1, i, h, h' => by
    rw [op_Refs.l2_eq, ref11_Refs.l2_eq, ilt_nat, inL_nat, natOf_nat]
    by_cases hi : i < l.length
    · have ih := refs_l k l h3 hl n (i + 1) (by omega) (by omega)
      rw [decide_eq_true hi, rd_at' (e := tUndo) hi, right_is, rright_is, iadd_nat (by omega)]
      simp only [br_true, bnd_some]
      cases rightD l[i].1 with
      | false => exact ⟨false, rfl, rfl⟩
      | true =>
        have bt : bnot true = false := rfl
        simp only [bt, br_false]
        cases ilt l[i].2 0 with
        | true => exact ⟨false, rfl, rfl⟩
        | false =>
          simp only [br_false]
          rw [show ile 16 l[i].2 = decide (16 ≤ l[i].2) from rfl, show ilt 15 l[i].2 = decide (16 ≤ l[i].2) from decide_eq_decide.2 ⟨fun h => by omega, fun h => by omega⟩]
          by_cases h16 : 16 ≤ l[i].2
          · rw [decide_eq_true h16]; exact ⟨false, rfl, rfl⟩
          · rw [decide_eq_false h16]
            simp only [br_false]
            rw [show ilt 0 (i : Int) = decide (0 < i) from ilt_nn 0 i]
            by_cases hp : 0 < i
            · have hi1 : i - 1 < l.length := by omega
              have e3 : isub .i64 (i : Int) 1 = ((i - 1 : Nat) : Int) := by rw [isub_s (by omega) (by omega) (by omega) (by omega)]; omega
              rw [decide_eq_true hp, br_true, br_true, e3, inL_nat, natOf_nat, rd_at' (e := tUndo) hi1, decide_eq_true hi1, br_true, br_true, ref_is k _ _ h3, rref_is, bnd_some, bnd_some, ieq_dec, bnot_dec,
                show ile 0 (cmpR l[i - 1] l[i]) = decide (0 ≤ cmpR l[i - 1] l[i]) from rfl]
              rcases cmpR_three l[i - 1] l[i] with e | e | e
              · rw [e, decide_eq_false (by decide), decide_eq_false (by decide), br_false, br_false]; exact ih
              · rw [e]; exact ⟨false, rfl, rfl⟩
              · rw [e]; exact ⟨false, rfl, rfl⟩
            · rw [decide_eq_false hp, br_false, br_false]; exact ih
    · rw [decide_eq_false hi, br_false, br_false]; exact ⟨true, rfl, rfl⟩
theorem refs_is (k : Nat) (l : List (Dot × Int)) (h3 : 3 ≤ k) (hl : l.length < k) (hk : k < 1000000) : ∃ b, op_Refs.f k l = some b ∧ ref11_Refs.f k l = some b := by
  rw [op_Refs.f_eq, ref11_Refs.f_eq]
  exact refs_l k l h3 (by omega) k 0 (by omega) (by omega)
theorem ile_bnot (a b : Int) : ile a b = bnot (ilt b a) := by
  show decide (a ≤ b) = !decide (b < a)
  by_cases h : a ≤ b
  · rw [decide_eq_true h, decide_eq_false (by omega)]; rfl
  · rw [decide_eq_false h, decide_eq_true (by omega)]; rfl
theorem gone_both (k : Nat) (o : Op) : op_Gone.f k o = ref11_Gone.f k o := by rw [op_Gone.f_eq, ref11_Gone.f_eq]
set_option maxHeartbeats 4000000 in
theorem op_is (k : Nat) (o : Op) (hp : ∀ s ∈ o.2.1, List.length s < k) (hpl : o.2.1.length < k) (hv : o.2.2.1.2.2.length < k) (hs : o.2.2.2.2.length < k) (hk : 10 < k) (hk2 : k < 1000000) : ∃ e : Int, op_Check.f k o = some e ∧ ref11_Check.f k o = some e := by
  obtain ⟨e1, p1, p2⟩ := path_is k o.2.1 hp hk hk2 hpl
  obtain ⟨b1, v1, v2⟩ := val_is k o.2.2.1 hk hv hk2
  obtain ⟨b2, r1, r2⟩ := refs_is k o.2.2.2.2 (by omega) hs hk2
  rw [op_Check.f_eq, ref11_Check.f_eq, op_valued.f_eq, op_amount.f_eq, p1, p2, v1, v2, r1, r2]
  obtain ⟨K, P, V, A, S⟩ := o
  simp only at *
  have bt : bnot true = false := rfl
  have bf : bnot false = true := rfl
  by_cases h1 : K < 1
  · rw [show ilt K 1 = true from decide_eq_true h1]; exact ⟨18, rfl, rfl⟩
  by_cases h5 : 5 < K
  · rw [show ilt K 1 = false from decide_eq_false h1, show ilt 5 K = true from decide_eq_true h5]; exact ⟨18, rfl, rfl⟩
  have hK : K = 1 ∨ K = 2 ∨ K = 3 ∨ K = 4 ∨ K = 5 := by omega
  rw [show ilt K 1 = false from decide_eq_false h1, show ilt 5 K = false from decide_eq_false h5]
  clear h1 h5 p1 p2 v1 v2 r1 r2 hp hpl hv hs
  have i1 : ile A 2147483647 = bnot (ilt 2147483647 A) := ile_bnot _ _
  have i2 : ile (-2147483647) A = bnot (ilt A (-2147483647)) := ile_bnot _ _
  rw [i1, i2]
  rcases hK with rfl | rfl | rfl | rfl | rfl
  · simp only [show ieq (1 : Int) 1 = true from rfl, show ieq (1 : Int) 2 = false from rfl, show ieq (1 : Int) 3 = false from rfl, show ieq (1 : Int) 4 = false from rfl, show ieq (1 : Int) 5 = false from rfl, br_true, br_false, bt, bf, bnd_some]
    cases ieq e1 0 <;> cases b1 <;> cases ieq A 0 <;> cases ilt 256 (ilen S) <;> cases b2 <;> exact ⟨_, rfl, rfl⟩
  · simp only [show ieq (2 : Int) 1 = false from rfl, show ieq (2 : Int) 2 = true from rfl, show ieq (2 : Int) 3 = false from rfl, show ieq (2 : Int) 4 = false from rfl, show ieq (2 : Int) 5 = false from rfl, br_true, br_false, bt, bf, bnd_some]
    cases ieq e1 0 <;> cases b1 <;> cases ieq A 0 <;> cases ilt 0 (ilen S) <;> cases ilt 256 (ilen S) <;> cases b2 <;> exact ⟨_, rfl, rfl⟩
  · simp only [show ieq (3 : Int) 1 = false from rfl, show ieq (3 : Int) 2 = false from rfl, show ieq (3 : Int) 3 = true from rfl, show ieq (3 : Int) 4 = false from rfl, show ieq (3 : Int) 5 = false from rfl, br_true, br_false, bt, bf, bnd_some]
    cases ieq e1 0 <;> cases deq tValue V (0, (0, [])) <;> cases ieq A 0 <;> cases ilt 2147483647 A <;> cases ilt A (-2147483647) <;> cases ilt 0 (ilen S) <;> cases ilt 256 (ilen S) <;> cases b2 <;> exact ⟨_, rfl, rfl⟩
  · simp only [show ieq (4 : Int) 1 = false from rfl, show ieq (4 : Int) 2 = false from rfl, show ieq (4 : Int) 3 = false from rfl, show ieq (4 : Int) 4 = true from rfl, show ieq (4 : Int) 5 = false from rfl, br_true, br_false, bt, bf, bnd_some]
    cases ieq e1 0 <;> cases b1 <;> cases ieq A 0 <;> cases ilt 256 (ilen S) <;> cases b2 <;> exact ⟨_, rfl, rfl⟩
  · simp only [show ieq (5 : Int) 1 = false from rfl, show ieq (5 : Int) 2 = false from rfl, show ieq (5 : Int) 3 = false from rfl, show ieq (5 : Int) 4 = false from rfl, show ieq (5 : Int) 5 = true from rfl, br_true, br_false, bt, bf, bnd_some]
    cases ieq e1 0 <;> cases deq tValue V (0, (0, [])) <;> cases ieq A 0 <;> cases ilt 256 (ilen S) <;> cases b2 <;> exact ⟨_, rfl, rfl⟩
end Go.Proofs.YtbiihldcljemfaaGreatDoor
end
section
/- Transactions: the program's test is the document's. -/
set_option linter.unusedVariables false
set_option linter.unusedSimpArgs false
namespace Go.Proofs.YtbiihldcljemfaaGreatDoor
open Pal
theorem gone_tot (k : Nat) (o : Op) : ∃ g, op_Gone.f k o = some g ∧ ref11_Gone.f k o = some g := by
  rw [← gone_both, op_Gone.f_eq]
  cases ieq o.1 0 with
  | false => exact ⟨_, rfl, rfl⟩
  | true =>
    cases ieq (ilen o.2.1) 0 with
    | false => exact ⟨_, rfl, rfl⟩
    | true =>
      cases deq tValue o.2.2.1 (0, (0, [])) with
      | false => exact ⟨_, rfl, rfl⟩
      | true => cases ieq o.2.2.2.1 0 <;> exact ⟨_, rfl, rfl⟩
structure SizO (k : Nat) (o : Op) : Prop where
  path : ∀ s ∈ o.2.1, List.length s < k
  names : o.2.1.length < k
  val : o.2.2.1.2.2.length < k
  seen : o.2.2.2.2.length < k
theorem txn_l (k : Nat) (t : Txn) (ho : ∀ o ∈ t.2.2.2.2, SizO k o) (hl : t.2.2.2.2.length < 1000000) (hk : 10 < k) (hk2 : k < 1000000) : ∀ (n i : Nat), i ≤ t.2.2.2.2.length → t.2.2.2.2.length < n + i →
    ∃ e : Int, txn_Check.l10 k n t.2.2.2.2 (ilen t.2.2.2.2) (i : Int) t = some e ∧ ref12_Check.l8 k n (i : Int) t = some e
  | 0, i, _, h => by omega
  | n + 1, i, h, h' => by
    rw [txn_Check.l10_eq, ref12_Check.l8_eq, ilt_nat, inL_nat, natOf_nat]
    by_cases hi : i < t.2.2.2.2.length
    · have ih := txn_l k t ho hl hk hk2 n (i + 1) (by omega) (by omega)
      have so := ho _ (List.getElem_mem hi)
      obtain ⟨e, p1, p2⟩ := op_is k t.2.2.2.2[i] so.path so.names so.val so.seen hk hk2
      obtain ⟨g, q1, q2⟩ := gone_tot k t.2.2.2.2[i]
      rw [decide_eq_true hi, rd_at' (e := tOp) hi, p1, p2, q1, q2, iadd_nat (by omega)]
      simp only [br_true, bnd_some]
      have bt : bnot true = false := rfl
      have bf : bnot false = true := rfl
      cases t.2.2.2.1 with
      | true =>
        simp only [br_true]
        cases g with
        | true =>
          simp only [br_true, bt, br_false]
          cases ieq e 0 <;> exact ih
        | false =>
          simp only [br_false, bf, br_true]
          cases ieq e 0 with
          | true => exact ih
          | false => exact ⟨e, rfl, rfl⟩
      | false =>
        simp only [br_false, bf, br_true]
        cases ieq e 0 with
        | true => exact ih
        | false => exact ⟨e, rfl, rfl⟩
    · rw [decide_eq_false hi, br_false, br_false]; exact ⟨0, rfl, rfl⟩
theorem txn_is (k : Nat) (t : Txn) (ho : ∀ o ∈ t.2.2.2.2, SizO k o) (hl : t.2.2.2.2.length < k) (hk : 10 < k) (hk2 : k < 1000000) : ∃ e : Int, txn_Check.f k t = some e ∧ ref12_Check.f k t = some e := by
  obtain ⟨e, g1, g2⟩ := txn_l k t ho (by omega) hk hk2 k 0 (by omega) (by omega)
  rw [show ((0 : Nat) : Int) = 0 from rfl] at g1 g2
  have bt : bnot true = false := rfl
  have bf : bnot false = true := rfl
  rw [txn_Check.f_eq, ref12_Check.f_eq, right_is, rright_is, g1, g2, show ilt 7 t.2.1 = ile 8 t.2.1 from decide_eq_decide.2 ⟨fun h => by omega, fun h => by omega⟩]
  simp only [bnd_some]
  cases rightD t.1 with
  | false => exact ⟨2, rfl, rfl⟩
  | true =>
    simp only [bt, br_false]
    cases ilt t.2.1 0 <;> cases ile 8 t.2.1 <;> cases ilt t.2.2.1 1 <;> cases ilt 1099511627776 t.2.2.1 <;> cases ieq (ilen t.2.2.2.2) 0 <;> cases ilt 16 (ilen t.2.2.2.2) <;> exact ⟨_, rfl, rfl⟩
end Go.Proofs.YtbiihldcljemfaaGreatDoor
end
