/- The functions that the statement reaches, and what they come to. Part 2. -/
import Derived.Test.YthghlnmihipeoaaGreatDoorFw1
import Derived.Test.YthghlnmihipeoaaGreatDoorFw2
import Derived.Test.YthghlnmihipeoaaGreatDoorFw3
import Derived.Test.YthghlnmihipeoaaGreatDoorStateOrder1
set_option linter.unusedVariables false
set_option linter.unusedSimpArgs false
set_option linter.unusedSectionVars false
section
/- The program's functions, as plain equations. -/
namespace Go.Proofs.YthghlnmihipeoaaGreatDoor
open Pal
set_option maxRecDepth 100000
noncomputable def ref10_Short.body : Go.Code := Tryz.f46.body.getD .skip
noncomputable def ref10_Short.rs : List Go.ResultVar := Tryz.f46.results.toList
def ref10_Short.regs : List (Nat × RInfo) := [(0, ri [0] []), (1, ri [0,6] []), (2, ri [2] []), (3, ri [0,3] []), (4, ⟨[0, 3, 10], [], [], [], 0, [0, 3], [], [], [], []⟩), (6, ri [0,3,18] []), (7, ri [2] []), (5, ri [0,3] []), (8, ri [2] [])]
noncomputable def ref10_Short.cx (k : Nat) : Cx := ⟨tt, pp, [], ref10_Short.regs, k, mm⟩
@[reducible] def ref10_Short.sg : Sg := ⟨[.dat (.slc .str)], [], .dat .bool, []⟩
noncomputable def ref10_Short.f (k : Nat) (a0 : Ty.D (.slc .str)) : Option (Sg.Out ref10_Short.sg) := Sg.fn ref10_Short.sg (ref10_Short.cx k) ref10_Short.body ref10_Short.rs a0
noncomputable def ref10_Short.l4 (k : Nat) (n : Nat) (x0 : Ty.D (.slc .str)) (x3 : Ty.D (.int .i64)) : Option (Sg.Out ref10_Short.sg) := loopAt (ref10_Short.cx k) ref10_Short.body [1, 1, 0, 1, 0] 4 [0, 3] [] [] (Sg.K ref10_Short.sg (ref10_Short.cx k) ref10_Short.rs) n ⟨[(0, .dat (.slc .str) x0), (3, .dat (.int .i64) x3)], []⟩
theorem ref10_Short.f_eq (k : Nat) (a0 : Ty.D (.slc .str)) : ref10_Short.f k a0 = br (ilt 12 (ilen a0)) (some false) (ref10_Short.l4 k k a0 0) := by kernel_rfl
theorem ref10_Short.l4_eq (k : Nat) (n4 : Nat) (x0 : Ty.D (.slc .str)) (x3 : Ty.D (.int .i64)) : ref10_Short.l4 k (n4 + 1) x0 x3 = br (ilt x3 (ilen x0)) (br (inL x3 x0) (br (ilt 120 (ilen (rd .str x0 (natOf x3)))) (some false) (ref10_Short.l4 k n4 x0 (iadd .i64 x3 1))) none) (some true) := by kernel_rfl
noncomputable def ref10_Short.e (k : Nat) : Entry := Sg.entry ref10_Short.sg fun x => ref10_Short.f k x
theorem ref10_Short.ok (k : Nat) : CallOK Tryz.prog 46 (ref10_Short.e k) := fn_ok (c := ref10_Short.cx k) (code := ref10_Short.body) (TT.of tt_ok pp_ok mm_ok) (fns_ok trivial) mixed Tryz.func46 (by kernel_rfl) (by kernel_rfl) (by kernel_rfl) (by kernel_rfl) (by kernel_rfl) (by kernel_rfl) (fun x => by kernel_rfl)
noncomputable def ref11_Short.body : Go.Code := Tryz.f19.body.getD .skip
noncomputable def ref11_Short.rs : List Go.ResultVar := Tryz.f19.results.toList
def ref11_Short.regs : List (Nat × RInfo) := [(0, ⟨[1], [1], [0], [], 0, [], [], [], [], []⟩), (1, ri [2] [5])]
noncomputable def ref11_Short.cx (k : Nat) : Cx := ⟨tt, pp, [(46, (ref10_Short.e k))], ref11_Short.regs, k, mm⟩
@[reducible] def ref11_Short.sg : Sg := ⟨[.dat tOp], [], .dat .bool, []⟩
noncomputable def ref11_Short.f (k : Nat) (a0 : Ty.D tOp) : Option (Sg.Out ref11_Short.sg) := Sg.fn ref11_Short.sg (ref11_Short.cx k) ref11_Short.body ref11_Short.rs a0
theorem ref11_Short.f_eq (k : Nat) (a0 : Ty.D tOp) : ref11_Short.f k a0 = bnd (ref10_Short.f k a0.2.1) fun r0 => br r0 (br (ile (ilen a0.2.2.1.2.2) 200) (some (ile (ilen a0.2.2.2.2) 300)) (some false)) (some false) := by kernel_rfl
noncomputable def ref11_Short.e (k : Nat) : Entry := Sg.entry ref11_Short.sg fun x => ref11_Short.f k x
theorem ref11_Short.ok (k : Nat) : CallOK Tryz.prog 19 (ref11_Short.e k) := fn_ok (c := ref11_Short.cx k) (code := ref11_Short.body) (TT.of tt_ok pp_ok mm_ok) (fns_ok ⟨(ref10_Short.ok k), trivial⟩) mixed Tryz.func19 (by kernel_rfl) (by kernel_rfl) (by kernel_rfl) (by kernel_rfl) (by kernel_rfl) (by kernel_rfl) (fun x => by kernel_rfl)
noncomputable def ref12_Short.body : Go.Code := Tryz.f6.body.getD .skip
noncomputable def ref12_Short.rs : List Go.ResultVar := Tryz.f6.results.toList
def ref12_Short.regs : List (Nat × RInfo) := [(0, ⟨[1], [1], [0], [], 0, [], [], [], [], []⟩), (1, ri [1,7] [1]), (2, ri [2] []), (3, ri [1,3] [1]), (4, ⟨[1, 3, 12], [1], [], [], 0, [1, 3], [1], [], [], []⟩), (6, ri [1,3,21] [1]), (7, ri [2] []), (5, ri [1,3] [1]), (8, ri [2] [])]
noncomputable def ref12_Short.cx (k : Nat) : Cx := ⟨tt, pp, [(19, (ref11_Short.e k))], ref12_Short.regs, k, mm⟩
@[reducible] def ref12_Short.sg : Sg := ⟨[.dat tTxn], [], .dat .bool, []⟩
noncomputable def ref12_Short.f (k : Nat) (a0 : Ty.D tTxn) : Option (Sg.Out ref12_Short.sg) := Sg.fn ref12_Short.sg (ref12_Short.cx k) ref12_Short.body ref12_Short.rs a0
noncomputable def ref12_Short.l4 (k : Nat) (n : Nat) (x3 : Ty.D (.int .i64)) (m1 : Ty.D tTxn) : Option (Sg.Out ref12_Short.sg) := loopAt (ref12_Short.cx k) ref12_Short.body [1, 1, 0, 1, 0] 4 [1, 3] [1] [] (Sg.K ref12_Short.sg (ref12_Short.cx k) ref12_Short.rs) n ⟨[(1, .ref 1 []), (3, .dat (.int .i64) x3)], [(1, .dat tTxn m1)]⟩
theorem ref12_Short.f_eq (k : Nat) (a0 : Ty.D tTxn) : ref12_Short.f k a0 = br (ilt 20 (ilen a0.2.2.2.2)) (some false) (ref12_Short.l4 k k 0 a0) := by kernel_rfl
theorem ref12_Short.l4_eq (k : Nat) (n4 : Nat) (x3 : Ty.D (.int .i64)) (m1 : Ty.D tTxn) : ref12_Short.l4 k (n4 + 1) x3 m1 = br (ilt x3 (ilen m1.2.2.2.2)) (br (inL x3 m1.2.2.2.2) (bnd (ref11_Short.f k (rd tOp m1.2.2.2.2 (natOf x3))) fun r0 => br (bnot r0) (some false) (ref12_Short.l4 k n4 (iadd .i64 x3 1) m1)) none) (some true) := by kernel_rfl
noncomputable def ref12_Short.e (k : Nat) : Entry := Sg.entry ref12_Short.sg fun x => ref12_Short.f k x
theorem ref12_Short.ok (k : Nat) : CallOK Tryz.prog 6 (ref12_Short.e k) := fn_ok (c := ref12_Short.cx k) (code := ref12_Short.body) (TT.of tt_ok pp_ok mm_ok) (fns_ok ⟨(ref11_Short.ok k), trivial⟩) mixed Tryz.func6 (by kernel_rfl) (by kernel_rfl) (by kernel_rfl) (by kernel_rfl) (by kernel_rfl) (by kernel_rfl) (fun x => by kernel_rfl)
noncomputable def ref22_Short.body : Go.Code := Tryz.f18.body.getD .skip
noncomputable def ref22_Short.rs : List Go.ResultVar := Tryz.f18.results.toList
def ref22_Short.regs : List (Nat × RInfo) := [(0, ⟨[1], [1], [0], [], 0, [], [], [], [], []⟩), (1, ri [1,28] [1]), (2, ri [2] []), (3, ri [1,3] [1]), (4, ⟨[1, 3, 33], [1], [], [], 0, [1, 3], [1], [], [], []⟩), (6, ri [1,3,42] [1]), (7, ri [2] []), (5, ri [1,3] [1]), (8, ri [1,4] [1]), (9, ⟨[1, 4, 44], [1], [], [], 0, [1, 4], [1], [], [], []⟩), (11, ri [1,4,52] [1]), (12, ri [2] []), (10, ri [1,4] [1]), (13, ri [2] [])]
noncomputable def ref22_Short.cx (k : Nat) : Cx := ⟨tt, pp, [(6, (ref12_Short.e k))], ref22_Short.regs, k, mm⟩
@[reducible] def ref22_Short.sg : Sg := ⟨[.dat tState], [], .dat .bool, []⟩
noncomputable def ref22_Short.f (k : Nat) (a0 : Ty.D tState) : Option (Sg.Out ref22_Short.sg) := Sg.fn ref22_Short.sg (ref22_Short.cx k) ref22_Short.body ref22_Short.rs a0
noncomputable def ref22_Short.l4 (k : Nat) (n : Nat) (x3 : Ty.D (.int .i64)) (m1 : Ty.D tState) : Option (Sg.Out ref22_Short.sg) := loopAt (ref22_Short.cx k) ref22_Short.body [1, 1, 0, 1, 0] 4 [1, 3] [1] [] (Sg.K ref22_Short.sg (ref22_Short.cx k) ref22_Short.rs) n ⟨[(1, .ref 1 []), (3, .dat (.int .i64) x3)], [(1, .dat tState m1)]⟩
noncomputable def ref22_Short.l9 (k : Nat) (n : Nat) (x4 : Ty.D (.int .i64)) (m1 : Ty.D tState) : Option (Sg.Out ref22_Short.sg) := loopAt (ref22_Short.cx k) ref22_Short.body [1, 1, 1, 0, 1, 0] 9 [1, 4] [1] [] (Sg.K ref22_Short.sg (ref22_Short.cx k) ref22_Short.rs) n ⟨[(1, .ref 1 []), (4, .dat (.int .i64) x4)], [(1, .dat tState m1)]⟩
theorem ref22_Short.f_eq (k : Nat) (a0 : Ty.D tState) : ref22_Short.f k a0 = br (ilt 20 (ilen a0.1)) (some false) (br (ilt 100 (ilen a0.2.1)) (some false) (br (ilt 100 (ilen a0.2.2.1.2)) (some false) (br (ilt 100 (ilen a0.2.2.2.1.2)) (some false) (ref22_Short.l4 k k 0 a0)))) := by kernel_rfl
theorem ref22_Short.l4_eq (k : Nat) (n4 : Nat) (x3 : Ty.D (.int .i64)) (m1 : Ty.D tState) : ref22_Short.l4 k (n4 + 1) x3 m1 = br (ilt x3 (ilen m1.1)) (br (inL x3 m1.1) (bnd (ref12_Short.f k (rd tTxn m1.1 (natOf x3))) fun r0 => br (bnot r0) (some false) (ref22_Short.l4 k n4 (iadd .i64 x3 1) m1)) none) (ref22_Short.l9 k k 0 m1) := by kernel_rfl
theorem ref22_Short.l9_eq (k : Nat) (n9 : Nat) (x4 : Ty.D (.int .i64)) (m1 : Ty.D tState) : ref22_Short.l9 k (n9 + 1) x4 m1 = br (ilt x4 8) (br (inB x4 8) (br (ilt 40 (ilen (rd (.slc tDot) m1.2.2.2.2 (natOf x4)))) (some false) (ref22_Short.l9 k n9 (iadd .i64 x4 1) m1)) none) (some true) := by kernel_rfl
noncomputable def ref22_Short.e (k : Nat) : Entry := Sg.entry ref22_Short.sg fun x => ref22_Short.f k x
theorem ref22_Short.ok (k : Nat) : CallOK Tryz.prog 18 (ref22_Short.e k) := fn_ok (c := ref22_Short.cx k) (code := ref22_Short.body) (TT.of tt_ok pp_ok mm_ok) (fns_ok ⟨(ref12_Short.ok k), trivial⟩) mixed Tryz.func18 (by kernel_rfl) (by kernel_rfl) (by kernel_rfl) (by kernel_rfl) (by kernel_rfl) (by kernel_rfl) (fun x => by kernel_rfl)
noncomputable def ref04_ints.body : Go.Code := Tryz.f90.body.getD .skip
noncomputable def ref04_ints.rs : List Go.ResultVar := Tryz.f90.results.toList
def ref04_ints.regs : List (Nat × RInfo) := [(0, ri [0,1] []), (1, ri [0,1,7] []), (2, ri [4] []), (3, ri [10] []), (4, ri [4] []), (5, ri [4] [])]
noncomputable def ref04_ints.cx (k : Nat) : Cx := ⟨tt, pp, [], ref04_ints.regs, k, mm⟩
@[reducible] def ref04_ints.sg : Sg := ⟨[.dat (.int .i64), .dat (.int .i64)], [], .dat (.int .i64), []⟩
noncomputable def ref04_ints.f (k : Nat) (a0 : Ty.D (.int .i64)) (a1 : Ty.D (.int .i64)) : Option (Sg.Out ref04_ints.sg) := Sg.fn ref04_ints.sg (ref04_ints.cx k) ref04_ints.body ref04_ints.rs (a0, a1)
theorem ref04_ints.f_eq (k : Nat) (a0 : Ty.D (.int .i64)) (a1 : Ty.D (.int .i64)) : ref04_ints.f k a0 a1 = br (ilt a0 a1) (some (-1)) (br (ilt a1 a0) (some 1) (some 0)) := by kernel_rfl
noncomputable def ref04_ints.e (k : Nat) : Entry := Sg.entry ref04_ints.sg fun x => ref04_ints.f k x.1 x.2
theorem ref04_ints.ok (k : Nat) : CallOK Tryz.prog 90 (ref04_ints.e k) := fn_ok (c := ref04_ints.cx k) (code := ref04_ints.body) (TT.of tt_ok pp_ok mm_ok) (fns_ok trivial) mixed Tryz.func90 (by kernel_rfl) (by kernel_rfl) (by kernel_rfl) (by kernel_rfl) (by kernel_rfl) (by kernel_rfl) (fun x => by kernel_rfl)
noncomputable def ref04_Compare.body : Go.Code := Tryz.f51.body.getD .skip
noncomputable def ref04_Compare.rs : List Go.ResultVar := Tryz.f51.results.toList
def ref04_Compare.regs : List (Nat × RInfo) := [(0, ri [2,3] [2,3]), (1, ri [2,3,9] [2,3]), (2, ri [4] [14,19]), (3, ri [4] [14,19])]
noncomputable def ref04_Compare.cx (k : Nat) : Cx := ⟨tt, pp, [(90, (ref04_ints.e k))], ref04_Compare.regs, k, mm⟩
@[reducible] def ref04_Compare.sg : Sg := ⟨[.dat tDot, .dat tDot], [], .dat (.int .i64), []⟩
noncomputable def ref04_Compare.f (k : Nat) (a0 : Ty.D tDot) (a1 : Ty.D tDot) : Option (Sg.Out ref04_Compare.sg) := Sg.fn ref04_Compare.sg (ref04_Compare.cx k) ref04_Compare.body ref04_Compare.rs (a0, a1)
theorem ref04_Compare.f_eq (k : Nat) (a0 : Ty.D tDot) (a1 : Ty.D tDot) : ref04_Compare.f k a0 a1 = br (bnot (ieq a0.1 a1.1)) (bnd (ref04_ints.f k a0.1 a1.1) fun r0 => some r0) (bnd (ref04_ints.f k a0.2 a1.2) fun r1 => some r1) := by kernel_rfl
noncomputable def ref04_Compare.e (k : Nat) : Entry := Sg.entry ref04_Compare.sg fun x => ref04_Compare.f k x.1 x.2
theorem ref04_Compare.ok (k : Nat) : CallOK Tryz.prog 51 (ref04_Compare.e k) := fn_ok (c := ref04_Compare.cx k) (code := ref04_Compare.body) (TT.of tt_ok pp_ok mm_ok) (fns_ok ⟨(ref04_ints.ok k), trivial⟩) mixed Tryz.func51 (by kernel_rfl) (by kernel_rfl) (by kernel_rfl) (by kernel_rfl) (by kernel_rfl) (by kernel_rfl) (fun x => by kernel_rfl)
noncomputable def ref12_Rises.body : Go.Code := Tryz.f43.body.getD .skip
noncomputable def ref12_Rises.rs : List Go.ResultVar := Tryz.f43.results.toList
def ref12_Rises.regs : List (Nat × RInfo) := [(0, ri [0] []), (1, ri [0,3] []), (2, ⟨[0, 3, 7], [], [], [], 0, [0, 3], [], [], [], []⟩), (4, rq [0,3,22] [] 13), (5, ri [2] []), (3, ri [0,3] []), (6, ri [2] [])]
noncomputable def ref12_Rises.cx (k : Nat) : Cx := ⟨tt, pp, [(51, (ref04_Compare.e k))], ref12_Rises.regs, k, mm⟩
@[reducible] def ref12_Rises.sg : Sg := ⟨[.dat (.slc tTxn)], [], .dat .bool, []⟩
noncomputable def ref12_Rises.f (k : Nat) (a0 : Ty.D (.slc tTxn)) : Option (Sg.Out ref12_Rises.sg) := Sg.fn ref12_Rises.sg (ref12_Rises.cx k) ref12_Rises.body ref12_Rises.rs a0
noncomputable def ref12_Rises.l2 (k : Nat) (n : Nat) (x0 : Ty.D (.slc tTxn)) (x3 : Ty.D (.int .i64)) : Option (Sg.Out ref12_Rises.sg) := loopAt (ref12_Rises.cx k) ref12_Rises.body [1, 0, 1, 0] 2 [0, 3] [] [] (Sg.K ref12_Rises.sg (ref12_Rises.cx k) ref12_Rises.rs) n ⟨[(0, .dat (.slc tTxn) x0), (3, .dat (.int .i64) x3)], []⟩
theorem ref12_Rises.f_eq (k : Nat) (a0 : Ty.D (.slc tTxn)) : ref12_Rises.f k a0 = ref12_Rises.l2 k k a0 1 := by kernel_rfl
theorem ref12_Rises.l2_eq (k : Nat) (n2 : Nat) (x0 : Ty.D (.slc tTxn)) (x3 : Ty.D (.int .i64)) : ref12_Rises.l2 k (n2 + 1) x0 x3 = br (ilt x3 (ilen x0)) (br (inL (isub .i64 x3 1) x0) (br (inL x3 x0) (bnd (ref04_Compare.f k ((rd tTxn x0 (natOf (isub .i64 x3 1))).1) ((rd tTxn x0 (natOf x3)).1)) fun r0 => br (bnot (ieq r0 (-1))) (some false) (ref12_Rises.l2 k n2 x0 (iadd .i64 x3 1))) none) none) (some true) := by kernel_rfl
noncomputable def ref12_Rises.e (k : Nat) : Entry := Sg.entry ref12_Rises.sg fun x => ref12_Rises.f k x
theorem ref12_Rises.ok (k : Nat) : CallOK Tryz.prog 43 (ref12_Rises.e k) := fn_ok (c := ref12_Rises.cx k) (code := ref12_Rises.body) (TT.of tt_ok pp_ok mm_ok) (fns_ok ⟨(ref04_Compare.ok k), trivial⟩) mixed Tryz.func43 (by kernel_rfl) (by kernel_rfl) (by kernel_rfl) (by kernel_rfl) (by kernel_rfl) (by kernel_rfl) (fun x => by kernel_rfl)
noncomputable def ref04_Right.body : Go.Code := Tryz.f20.body.getD .skip
noncomputable def ref04_Right.rs : List Go.ResultVar := Tryz.f20.results.toList
def ref04_Right.regs : List (Nat × RInfo) := [(0, ri [1] [1]), (1, ri [2] [])]
noncomputable def ref04_Right.cx (k : Nat) : Cx := ⟨tt, pp, [], ref04_Right.regs, k, mm⟩
@[reducible] def ref04_Right.sg : Sg := ⟨[.dat tDot], [], .dat .bool, []⟩
noncomputable def ref04_Right.f (k : Nat) (a0 : Ty.D tDot) : Option (Sg.Out ref04_Right.sg) := Sg.fn ref04_Right.sg (ref04_Right.cx k) ref04_Right.body ref04_Right.rs a0
theorem ref04_Right.f_eq (k : Nat) (a0 : Ty.D tDot) : ref04_Right.f k a0 = br (ile 0 a0.1) (br (ile a0.1 15) (br (ile 1 a0.2) (some (ile a0.2 1048576)) (some false)) (some false)) (some false) := by kernel_rfl
noncomputable def ref04_Right.e (k : Nat) : Entry := Sg.entry ref04_Right.sg fun x => ref04_Right.f k x
theorem ref04_Right.ok (k : Nat) : CallOK Tryz.prog 20 (ref04_Right.e k) := fn_ok (c := ref04_Right.cx k) (code := ref04_Right.body) (TT.of tt_ok pp_ok mm_ok) (fns_ok trivial) mixed Tryz.func20 (by kernel_rfl) (by kernel_rfl) (by kernel_rfl) (by kernel_rfl) (by kernel_rfl) (by kernel_rfl) (fun x => by kernel_rfl)
noncomputable def ref08_one.body : Go.Code := Tryz.f50.body.getD .skip
noncomputable def ref08_one.rs : List Go.ResultVar := Tryz.f50.results.toList
def ref08_one.regs : List (Nat × RInfo) := [(0, ri [1] [1]), (1, ri [2] [5])]
noncomputable def ref08_one.cx (k : Nat) : Cx := ⟨tt, pp, [(20, (ref04_Right.e k))], ref08_one.regs, k, mm⟩
@[reducible] def ref08_one.sg : Sg := ⟨[.dat tUndo], [], .dat .bool, []⟩
noncomputable def ref08_one.f (k : Nat) (a0 : Ty.D tUndo) : Option (Sg.Out ref08_one.sg) := Sg.fn ref08_one.sg (ref08_one.cx k) ref08_one.body ref08_one.rs a0
theorem ref08_one.f_eq (k : Nat) (a0 : Ty.D tUndo) : ref08_one.f k a0 = bnd (ref04_Right.f k a0.1) fun r0 => br r0 (br (ile 1 a0.2) (some (ile a0.2 64)) (some false)) (some false) := by kernel_rfl
noncomputable def ref08_one.e (k : Nat) : Entry := Sg.entry ref08_one.sg fun x => ref08_one.f k x
theorem ref08_one.ok (k : Nat) : CallOK Tryz.prog 50 (ref08_one.e k) := fn_ok (c := ref08_one.cx k) (code := ref08_one.body) (TT.of tt_ok pp_ok mm_ok) (fns_ok ⟨(ref04_Right.ok k), trivial⟩) mixed Tryz.func50 (by kernel_rfl) (by kernel_rfl) (by kernel_rfl) (by kernel_rfl) (by kernel_rfl) (by kernel_rfl) (fun x => by kernel_rfl)
noncomputable def ref08_Right.body : Go.Code := Tryz.f23.body.getD .skip
noncomputable def ref08_Right.rs : List Go.ResultVar := Tryz.f23.results.toList
def ref08_Right.regs : List (Nat × RInfo) := [(0, ri [0] []), (1, ri [0,3] []), (2, ⟨[0, 3, 7], [], [], [], 0, [0, 3], [], [], [], []⟩), (4, rq [0,3,34] [] 25), (5, ri [2] []), (3, ri [0,3] []), (6, ri [2] [])]
noncomputable def ref08_Right.cx (k : Nat) : Cx := ⟨tt, pp, [(50, (ref08_one.e k)), (51, (ref04_Compare.e k))], ref08_Right.regs, k, mm⟩
@[reducible] def ref08_Right.sg : Sg := ⟨[.dat (.slc tUndo)], [], .dat .bool, []⟩
noncomputable def ref08_Right.f (k : Nat) (a0 : Ty.D (.slc tUndo)) : Option (Sg.Out ref08_Right.sg) := Sg.fn ref08_Right.sg (ref08_Right.cx k) ref08_Right.body ref08_Right.rs a0
noncomputable def ref08_Right.l2 (k : Nat) (n : Nat) (x0 : Ty.D (.slc tUndo)) (x3 : Ty.D (.int .i64)) : Option (Sg.Out ref08_Right.sg) := loopAt (ref08_Right.cx k) ref08_Right.body [1, 0, 1, 0] 2 [0, 3] [] [] (Sg.K ref08_Right.sg (ref08_Right.cx k) ref08_Right.rs) n ⟨[(0, .dat (.slc tUndo) x0), (3, .dat (.int .i64) x3)], []⟩
theorem ref08_Right.f_eq (k : Nat) (a0 : Ty.D (.slc tUndo)) : ref08_Right.f k a0 = ref08_Right.l2 k k a0 0 := by kernel_rfl
theorem ref08_Right.l2_eq (k : Nat) (n2 : Nat) (x0 : Ty.D (.slc tUndo)) (x3 : Ty.D (.int .i64)) : ref08_Right.l2 k (n2 + 1) x0 x3 = br (ilt x3 (ilen x0)) (br (inL x3 x0) (bnd (ref08_one.f k (rd tUndo x0 (natOf x3))) fun r0 => br (bnot r0) (some false) (br (ilt 0 x3) (br (inL (isub .i64 x3 1) x0) (br (inL x3 x0) (bnd (ref04_Compare.f k ((rd tUndo x0 (natOf (isub .i64 x3 1))).1) ((rd tUndo x0 (natOf x3)).1)) fun r1 => br (bnot (ieq r1 (-1))) (some false) (ref08_Right.l2 k n2 x0 (iadd .i64 x3 1))) none) none) (ref08_Right.l2 k n2 x0 (iadd .i64 x3 1)))) none) (some true) := by kernel_rfl
noncomputable def ref08_Right.e (k : Nat) : Entry := Sg.entry ref08_Right.sg fun x => ref08_Right.f k x
theorem ref08_Right.ok (k : Nat) : CallOK Tryz.prog 23 (ref08_Right.e k) := fn_ok (c := ref08_Right.cx k) (code := ref08_Right.body) (TT.of tt_ok pp_ok mm_ok) (fns_ok ⟨(ref08_one.ok k), (ref04_Compare.ok k), trivial⟩) mixed Tryz.func23 (by kernel_rfl) (by kernel_rfl) (by kernel_rfl) (by kernel_rfl) (by kernel_rfl) (by kernel_rfl) (fun x => by kernel_rfl)
noncomputable def ref05_Right.body : Go.Code := Tryz.f86.body.getD .skip
noncomputable def ref05_Right.rs : List Go.ResultVar := Tryz.f86.results.toList
def ref05_Right.regs : List (Nat × RInfo) := [(0, ri [1] [1]), (1, ri [1,3] [1]), (2, ⟨[1, 3, 5], [1], [], [], 0, [1, 3], [1], [], [], []⟩), (4, ri [1,3,17] [1]), (5, ri [2] []), (3, ri [1,3] [1]), (6, ri [2] [])]
noncomputable def ref05_Right.cx (k : Nat) : Cx := ⟨tt, pp, [], ref05_Right.regs, k, mm⟩
@[reducible] def ref05_Right.sg : Sg := ⟨[.dat tVec], [], .dat .bool, []⟩
noncomputable def ref05_Right.f (k : Nat) (a0 : Ty.D tVec) : Option (Sg.Out ref05_Right.sg) := Sg.fn ref05_Right.sg (ref05_Right.cx k) ref05_Right.body ref05_Right.rs a0
noncomputable def ref05_Right.l2 (k : Nat) (n : Nat) (x3 : Ty.D (.int .i64)) (m1 : Ty.D tVec) : Option (Sg.Out ref05_Right.sg) := loopAt (ref05_Right.cx k) ref05_Right.body [1, 0, 1, 0] 2 [1, 3] [1] [] (Sg.K ref05_Right.sg (ref05_Right.cx k) ref05_Right.rs) n ⟨[(1, .ref 1 []), (3, .dat (.int .i64) x3)], [(1, .dat tVec m1)]⟩
theorem ref05_Right.f_eq (k : Nat) (a0 : Ty.D tVec) : ref05_Right.f k a0 = ref05_Right.l2 k k 0 a0 := by kernel_rfl
theorem ref05_Right.l2_eq (k : Nat) (n2 : Nat) (x3 : Ty.D (.int .i64)) (m1 : Ty.D tVec) : ref05_Right.l2 k (n2 + 1) x3 m1 = br (ilt x3 16) (br (inB x3 16) (br (ilt (rd (.int .i64) m1 (natOf x3)) 0) (some false) (br (inB x3 16) (br (ilt 1048576 (rd (.int .i64) m1 (natOf x3))) (some false) (ref05_Right.l2 k n2 (iadd .i64 x3 1) m1)) none)) none) (some true) := by kernel_rfl
noncomputable def ref05_Right.e (k : Nat) : Entry := Sg.entry ref05_Right.sg fun x => ref05_Right.f k x
theorem ref05_Right.ok (k : Nat) : CallOK Tryz.prog 86 (ref05_Right.e k) := fn_ok (c := ref05_Right.cx k) (code := ref05_Right.body) (TT.of tt_ok pp_ok mm_ok) (fns_ok trivial) mixed Tryz.func86 (by kernel_rfl) (by kernel_rfl) (by kernel_rfl) (by kernel_rfl) (by kernel_rfl) (by kernel_rfl) (fun x => by kernel_rfl)
noncomputable def ref06_Right.body : Go.Code := Tryz.f44.body.getD .skip
noncomputable def ref06_Right.rs : List Go.ResultVar := Tryz.f44.results.toList
def ref06_Right.regs : List (Nat × RInfo) := [(0, ⟨[1], [1], [0], [], 0, [], [], [], [], []⟩), (1, ri [1,14] [1]), (2, ri [2] []), (3, ri [1,3] [1]), (4, ⟨[1, 3, 19], [1], [], [], 0, [1, 3], [1], [], [], []⟩), (6, ri [1,3,4] [1,4]), (7, rq [1,3,4,40] [1,4] 14), (8, ri [2] []), (9, rq [1,3,53] [1] 13), (10, ri [2] []), (5, ri [1,3] [1]), (11, ri [2] [])]
noncomputable def ref06_Right.cx (k : Nat) : Cx := ⟨tt, pp, [(86, (ref05_Right.e k)), (20, (ref04_Right.e k)), (51, (ref04_Compare.e k))], ref06_Right.regs, k, mm⟩
@[reducible] def ref06_Right.sg : Sg := ⟨[.dat tDots], [], .dat .bool, []⟩
noncomputable def ref06_Right.f (k : Nat) (a0 : Ty.D tDots) : Option (Sg.Out ref06_Right.sg) := Sg.fn ref06_Right.sg (ref06_Right.cx k) ref06_Right.body ref06_Right.rs a0
noncomputable def ref06_Right.l4 (k : Nat) (n : Nat) (x3 : Ty.D (.int .i64)) (m1 : Ty.D tDots) : Option (Sg.Out ref06_Right.sg) := loopAt (ref06_Right.cx k) ref06_Right.body [1, 1, 0, 1, 0] 4 [1, 3] [1] [] (Sg.K ref06_Right.sg (ref06_Right.cx k) ref06_Right.rs) n ⟨[(1, .ref 1 []), (3, .dat (.int .i64) x3)], [(1, .dat tDots m1)]⟩
theorem ref06_Right.f_eq (k : Nat) (a0 : Ty.D tDots) : ref06_Right.f k a0 = bnd (ref05_Right.f k a0.1) fun r0 => br (bnot r0) (some false) (br (ilt 4096 (ilen a0.2)) (some false) (ref06_Right.l4 k k 0 a0)) := by kernel_rfl
theorem ref06_Right.l4_eq (k : Nat) (n4 : Nat) (x3 : Ty.D (.int .i64)) (m1 : Ty.D tDots) : ref06_Right.l4 k (n4 + 1) x3 m1 = br (ilt x3 (ilen m1.2)) (br (inL x3 m1.2) (bnd (ref04_Right.f k (rd tDot m1.2 (natOf x3))) fun r0 => br (bnot r0) (some false) (br (inB ((rd tDot m1.2 (natOf x3)).1) 16) (br (ile (isub .i64 ((rd tDot m1.2 (natOf x3)).2) 1) (rd (.int .i64) m1.1 (natOf ((rd tDot m1.2 (natOf x3)).1)))) (some false) (br (ilt 0 x3) (br (inL (isub .i64 x3 1) m1.2) (bnd (ref04_Compare.f k (rd tDot m1.2 (natOf (isub .i64 x3 1))) (rd tDot m1.2 (natOf x3))) fun r1 => br (bnot (ieq r1 (-1))) (some false) (ref06_Right.l4 k n4 (iadd .i64 x3 1) m1)) none) (ref06_Right.l4 k n4 (iadd .i64 x3 1) m1))) none)) none) (some true) := by kernel_rfl
noncomputable def ref06_Right.e (k : Nat) : Entry := Sg.entry ref06_Right.sg fun x => ref06_Right.f k x
theorem ref06_Right.ok (k : Nat) : CallOK Tryz.prog 44 (ref06_Right.e k) := fn_ok (c := ref06_Right.cx k) (code := ref06_Right.body) (TT.of tt_ok pp_ok mm_ok) (fns_ok ⟨(ref05_Right.ok k), (ref04_Right.ok k), (ref04_Compare.ok k), trivial⟩) mixed Tryz.func44 (by kernel_rfl) (by kernel_rfl) (by kernel_rfl) (by kernel_rfl) (by kernel_rfl) (by kernel_rfl) (fun x => by kernel_rfl)
noncomputable def ref03_Char.body : Go.Code := Tryz.f114.body.getD .skip
noncomputable def ref03_Char.rs : List Go.ResultVar := Tryz.f114.results.toList
def ref03_Char.regs : List (Nat × RInfo) := [(0, ri [0] []), (1, ri [0,10] []), (2, ri [2,3] []), (3, ri [0,4] []), (4, ri [0,4] []), (6, ri [0,4,14] []), (7, ri [2,3] []), (8, ri [0,4,18] []), (9, ri [0,4,5,6] []), (10, ri [0,4,27] []), (11, ri [0,4,5,6] []), (12, ri [0,4,36] []), (13, ri [0,4,5,6] []), (5, ri [2,3] []), (14, ri [0,4,5,6,48] []), (15, ri [2,3] []), (16, ri [0,4,5,6,7] []), (17, ⟨[0, 4, 5, 6, 7, 51], [], [], [], 0, [0, 4, 5, 6, 7], [], [], [], []⟩), (19, ri [0,4,5,6,7,63] []), (20, ri [2,3] []), (21, ri [0,4,5,6,7] []), (18, ri [0,4,5,6,7] []), (22, ri [4,5,86] []), (23, ri [2,3] []), (24, ri [2,3] [])]
noncomputable def ref03_Char.cx (k : Nat) : Cx := ⟨tt, pp, [], ref03_Char.regs, k, mm⟩
@[reducible] def ref03_Char.sg : Sg := ⟨[.dat .str], [], .t2 (.dat (.int .i64)) (.dat (.int .i64)), []⟩
noncomputable def ref03_Char.f (k : Nat) (a0 : Ty.D .str) : Option (Sg.Out ref03_Char.sg) := Sg.fn ref03_Char.sg (ref03_Char.cx k) ref03_Char.body ref03_Char.rs a0
noncomputable def ref03_Char.l17 (k : Nat) (n : Nat) (x0 : Ty.D .str) (x4 : Ty.D (.int .i64)) (x5 : Ty.D (.int .i64)) (x6 : Ty.D (.int .i64)) (x7 : Ty.D (.int .i64)) : Option (Sg.Out ref03_Char.sg) := loopAt (ref03_Char.cx k) ref03_Char.body [1, 1, 1, 1, 1, 1, 0, 1, 0] 17 [0, 4, 5, 6, 7] [] [] (Sg.K ref03_Char.sg (ref03_Char.cx k) ref03_Char.rs) n ⟨[(0, .dat .str x0), (4, .dat (.int .i64) x4), (5, .dat (.int .i64) x5), (6, .dat (.int .i64) x6), (7, .dat (.int .i64) x7)], []⟩
theorem ref03_Char.f_eq (k : Nat) (a0 : Ty.D .str) : ref03_Char.f k a0 = br (ieq (ilen a0) 0) (some (0, 0)) (br (inL 0 a0) (br (ilt (iwrap .i64 (byteAt a0 0)) 128) (some ((iwrap .i64 (byteAt a0 0)), 1)) (br (ile 194 (iwrap .i64 (byteAt a0 0))) (br (ilt (iwrap .i64 (byteAt a0 0)) 224) (br (ilt (ilen a0) 2) (some (0, 0)) (ref03_Char.l17 k k a0 (isub .i64 (iwrap .i64 (byteAt a0 0)) 192) 2 128 1)) (br (ile 224 (iwrap .i64 (byteAt a0 0))) (br (ilt (iwrap .i64 (byteAt a0 0)) 240) (br (ilt (ilen a0) 3) (some (0, 0)) (ref03_Char.l17 k k a0 (isub .i64 (iwrap .i64 (byteAt a0 0)) 224) 3 2048 1)) (br (ile 240 (iwrap .i64 (byteAt a0 0))) (br (ilt (iwrap .i64 (byteAt a0 0)) 245) (br (ilt (ilen a0) 4) (some (0, 0)) (ref03_Char.l17 k k a0 (isub .i64 (iwrap .i64 (byteAt a0 0)) 240) 4 65536 1)) (some (0, 0))) (some (0, 0)))) (br (ile 240 (iwrap .i64 (byteAt a0 0))) (br (ilt (iwrap .i64 (byteAt a0 0)) 245) (br (ilt (ilen a0) 4) (some (0, 0)) (ref03_Char.l17 k k a0 (isub .i64 (iwrap .i64 (byteAt a0 0)) 240) 4 65536 1)) (some (0, 0))) (some (0, 0))))) (br (ile 224 (iwrap .i64 (byteAt a0 0))) (br (ilt (iwrap .i64 (byteAt a0 0)) 240) (br (ilt (ilen a0) 3) (some (0, 0)) (ref03_Char.l17 k k a0 (isub .i64 (iwrap .i64 (byteAt a0 0)) 224) 3 2048 1)) (br (ile 240 (iwrap .i64 (byteAt a0 0))) (br (ilt (iwrap .i64 (byteAt a0 0)) 245) (br (ilt (ilen a0) 4) (some (0, 0)) (ref03_Char.l17 k k a0 (isub .i64 (iwrap .i64 (byteAt a0 0)) 240) 4 65536 1)) (some (0, 0))) (some (0, 0)))) (br (ile 240 (iwrap .i64 (byteAt a0 0))) (br (ilt (iwrap .i64 (byteAt a0 0)) 245) (br (ilt (ilen a0) 4) (some (0, 0)) (ref03_Char.l17 k k a0 (isub .i64 (iwrap .i64 (byteAt a0 0)) 240) 4 65536 1)) (some (0, 0))) (some (0, 0)))))) none) := by kernel_rfl
theorem ref03_Char.l17_eq (k : Nat) (n17 : Nat) (x0 : Ty.D .str) (x4 : Ty.D (.int .i64)) (x5 : Ty.D (.int .i64)) (x6 : Ty.D (.int .i64)) (x7 : Ty.D (.int .i64)) : ref03_Char.l17 k (n17 + 1) x0 x4 x5 x6 x7 = br (ilt x7 x5) (br (inL x7 x0) (br (ilt (byteAt x0 x7) 128) (some (0, 0)) (br (inL x7 x0) (br (ilt 191 (byteAt x0 x7)) (some (0, 0)) (br (inL x7 x0) (ref03_Char.l17 k n17 x0 (isub .i64 (iadd .i64 (imul .i64 64 x4) (iwrap .i64 (byteAt x0 x7))) 128) x5 x6 (iadd .i64 x7 1)) none)) none)) none) (br (ilt x4 x6) (some (0, 0)) (br (ilt 1114111 x4) (some (0, 0)) (br (ile 55296 x4) (br (ile x4 57343) (some (0, 0)) (some (x4, x5))) (some (x4, x5))))) := by kernel_rfl
noncomputable def ref03_Char.e (k : Nat) : Entry := Sg.entry ref03_Char.sg fun x => ref03_Char.f k x
theorem ref03_Char.ok (k : Nat) : CallOK Tryz.prog 114 (ref03_Char.e k) := fn_ok (c := ref03_Char.cx k) (code := ref03_Char.body) (TT.of tt_ok pp_ok mm_ok) (fns_ok trivial) mixed Tryz.func114 (by kernel_rfl) (by kernel_rfl) (by kernel_rfl) (by kernel_rfl) (by kernel_rfl) (by kernel_rfl) (fun x => by kernel_rfl)
noncomputable def ref03_Runes.body : Go.Code := Tryz.f88.body.getD .skip
noncomputable def ref03_Runes.rs : List Go.ResultVar := Tryz.f88.results.toList
def ref03_Runes.regs : List (Nat × RInfo) := [(0, ri [0] []), (1, ri [0,4] []), (2, ri [0,4,5] []), (3, ⟨[0, 4, 5, 11], [], [], [], 0, [0, 4, 5], [], [], [], []⟩), (4, ri [0,4,5,6,7] [16]), (5, ri [0,4,5,6,7,20] [16]), (6, ri [2,3] []), (7, ⟨[0, 4, 5, 7], [16], [0, 3, 4], [], 0, [], [], [], [], []⟩), (8, ri [0,4,5] []), (9, ⟨[2, 3], [], [0, 1], [], 0, [], [], [], [], []⟩)]
noncomputable def ref03_Runes.cx (k : Nat) : Cx := ⟨tt, pp, [(114, (ref03_Char.e k))], ref03_Runes.regs, k, mm⟩
@[reducible] def ref03_Runes.sg : Sg := ⟨[.dat .str], [], .t2 (.dat (.slc (.int .i64))) (.dat .bool), []⟩
noncomputable def ref03_Runes.f (k : Nat) (a0 : Ty.D .str) : Option (Sg.Out ref03_Runes.sg) := Sg.fn ref03_Runes.sg (ref03_Runes.cx k) ref03_Runes.body ref03_Runes.rs a0
noncomputable def ref03_Runes.l3 (k : Nat) (n : Nat) (x0 : Ty.D .str) (x4 : List (Ty.D (.int .i64))) (x5 : Ty.D (.int .i64)) : Option (Sg.Out ref03_Runes.sg) := loopAt (ref03_Runes.cx k) ref03_Runes.body [1, 1, 0, 1, 0] 3 [0, 4, 5] [] [] (Sg.K ref03_Runes.sg (ref03_Runes.cx k) ref03_Runes.rs) n ⟨[(0, .dat .str x0), (4, .own (.int .i64) x4), (5, .dat (.int .i64) x5)], []⟩
theorem ref03_Runes.f_eq (k : Nat) (a0 : Ty.D .str) : ref03_Runes.f k a0 = ref03_Runes.l3 k k a0 [] 0 := by kernel_rfl
theorem ref03_Runes.l3_eq (k : Nat) (n3 : Nat) (x0 : Ty.D .str) (x4 : List (Ty.D (.int .i64))) (x5 : Ty.D (.int .i64)) : ref03_Runes.l3 k (n3 + 1) x0 x4 x5 = br (ilt x5 (ilen x0)) (br (inS x5 (ilen x0) (ilen x0)) (bnd (ref03_Char.f k (piece x0 x5 (ilen x0))) fun r0 => br (ieq r0.2 0) (some ([], false)) (br (room x4 (r0.1 :: [])) (ref03_Runes.l3 k n3 x0 (app x4 (r0.1 :: [])) (iadd .i64 x5 r0.2)) none)) none) (some (x4, true)) := by kernel_rfl
noncomputable def ref03_Runes.e (k : Nat) : Entry := Sg.entry ref03_Runes.sg fun x => ref03_Runes.f k x
theorem ref03_Runes.ok (k : Nat) : CallOK Tryz.prog 88 (ref03_Runes.e k) := fn_ok (c := ref03_Runes.cx k) (code := ref03_Runes.body) (TT.of tt_ok pp_ok mm_ok) (fns_ok ⟨(ref03_Char.ok k), trivial⟩) mixed Tryz.func88 (by kernel_rfl) (by kernel_rfl) (by kernel_rfl) (by kernel_rfl) (by kernel_rfl) (by kernel_rfl) (fun x => by kernel_rfl)
noncomputable def ref03_may.body : Go.Code := Tryz.f113.body.getD .skip
noncomputable def ref03_may.rs : List Go.ResultVar := Tryz.f113.results.toList
def ref03_may.regs : List (Nat × RInfo) := [(0, ri [0] []), (1, ri [2] [])]
noncomputable def ref03_may.cx (k : Nat) : Cx := ⟨tt, pp, [], ref03_may.regs, k, mm⟩
@[reducible] def ref03_may.sg : Sg := ⟨[.dat (.int .i64)], [], .dat .bool, []⟩
noncomputable def ref03_may.f (k : Nat) (a0 : Ty.D (.int .i64)) : Option (Sg.Out ref03_may.sg) := Sg.fn ref03_may.sg (ref03_may.cx k) ref03_may.body ref03_may.rs a0
theorem ref03_may.f_eq (k : Nat) (a0 : Ty.D (.int .i64)) : ref03_may.f k a0 = br (ile 32 a0) (br (ilt a0 127) (some (bnot (ieq a0 65533))) (br (ilt 159 a0) (some (bnot (ieq a0 65533))) (some false))) (some false) := by kernel_rfl
noncomputable def ref03_may.e (k : Nat) : Entry := Sg.entry ref03_may.sg fun x => ref03_may.f k x
theorem ref03_may.ok (k : Nat) : CallOK Tryz.prog 113 (ref03_may.e k) := fn_ok (c := ref03_may.cx k) (code := ref03_may.body) (TT.of tt_ok pp_ok mm_ok) (fns_ok trivial) mixed Tryz.func113 (by kernel_rfl) (by kernel_rfl) (by kernel_rfl) (by kernel_rfl) (by kernel_rfl) (by kernel_rfl) (fun x => by kernel_rfl)
noncomputable def ref03_Right.body : Go.Code := Tryz.f87.body.getD .skip
noncomputable def ref03_Right.rs : List Go.ResultVar := Tryz.f87.results.toList
def ref03_Right.regs : List (Nat × RInfo) := [(0, ri [0] []), (1, ⟨[3, 4], [8], [5], [], 0, [], [], [], [], []⟩), (2, ri [3,4,5] [8]), (3, ⟨[3, 4, 5, 14], [8], [], [], 0, [3, 4, 5], [8], [], [], []⟩), (5, ri [3,4,5,22] [8]), (6, ri [2] [8]), (4, ri [3,4,5] [8]), (7, ri [2] [8])]
noncomputable def ref03_Right.cx (k : Nat) : Cx := ⟨tt, pp, [(88, (ref03_Runes.e k)), (113, (ref03_may.e k))], ref03_Right.regs, k, mm⟩
@[reducible] def ref03_Right.sg : Sg := ⟨[.dat .str], [], .dat .bool, []⟩
noncomputable def ref03_Right.f (k : Nat) (a0 : Ty.D .str) : Option (Sg.Out ref03_Right.sg) := Sg.fn ref03_Right.sg (ref03_Right.cx k) ref03_Right.body ref03_Right.rs a0
noncomputable def ref03_Right.l3 (k : Nat) (n : Nat) (x3 : Ty.D (.slc (.int .i64))) (x4 : Ty.D .bool) (x5 : Ty.D (.int .i64)) : Option (Sg.Out ref03_Right.sg) := loopAt (ref03_Right.cx k) ref03_Right.body [1, 1, 0, 1, 0] 3 [3, 4, 5] [8] [] (Sg.K ref03_Right.sg (ref03_Right.cx k) ref03_Right.rs) n ⟨[(3, .dat (.slc (.int .i64)) x3), (4, .dat .bool x4), (5, .dat (.int .i64) x5)], []⟩
theorem ref03_Right.f_eq (k : Nat) (a0 : Ty.D .str) : ref03_Right.f k a0 = bnd (ref03_Runes.f k a0) fun r0 => ref03_Right.l3 k k r0.1 r0.2 0 := by kernel_rfl
theorem ref03_Right.l3_eq (k : Nat) (n3 : Nat) (x3 : Ty.D (.slc (.int .i64))) (x4 : Ty.D .bool) (x5 : Ty.D (.int .i64)) : ref03_Right.l3 k (n3 + 1) x3 x4 x5 = br (ilt x5 (ilen x3)) (br (inL x5 x3) (bnd (ref03_may.f k (rd (.int .i64) x3 (natOf x5))) fun r0 => br (bnot r0) (some false) (ref03_Right.l3 k n3 x3 x4 (iadd .i64 x5 1))) none) (br x4 (br (ile 1 (ilen x3)) (some (ile (ilen x3) 24)) (some false)) (some false)) := by kernel_rfl
noncomputable def ref03_Right.e (k : Nat) : Entry := Sg.entry ref03_Right.sg fun x => ref03_Right.f k x
theorem ref03_Right.ok (k : Nat) : CallOK Tryz.prog 87 (ref03_Right.e k) := fn_ok (c := ref03_Right.cx k) (code := ref03_Right.body) (TT.of tt_ok pp_ok mm_ok) (fns_ok ⟨(ref03_Runes.ok k), (ref03_may.ok k), trivial⟩) mixed Tryz.func87 (by kernel_rfl) (by kernel_rfl) (by kernel_rfl) (by kernel_rfl) (by kernel_rfl) (by kernel_rfl) (fun x => by kernel_rfl)
noncomputable def ref10_Check.body : Go.Code := Tryz.f47.body.getD .skip
noncomputable def ref10_Check.rs : List Go.ResultVar := Tryz.f47.results.toList
def ref10_Check.regs : List (Nat × RInfo) := [(0, ri [0] []), (1, ri [0,6] []), (2, ri [2] []), (3, ri [0,9] []), (4, ri [2] []), (5, ri [0,3] []), (6, ⟨[0, 3, 13], [], [], [], 0, [0, 3], [], [], [], []⟩), (8, ri [0,3,21] []), (9, ri [2] []), (7, ri [0,3] []), (10, ri [2] [])]
noncomputable def ref10_Check.cx (k : Nat) : Cx := ⟨tt, pp, [(87, (ref03_Right.e k))], ref10_Check.regs, k, mm⟩
@[reducible] def ref10_Check.sg : Sg := ⟨[.dat (.slc .str)], [], .dat (.int .i64), []⟩
noncomputable def ref10_Check.f (k : Nat) (a0 : Ty.D (.slc .str)) : Option (Sg.Out ref10_Check.sg) := Sg.fn ref10_Check.sg (ref10_Check.cx k) ref10_Check.body ref10_Check.rs a0
noncomputable def ref10_Check.l6 (k : Nat) (n : Nat) (x0 : Ty.D (.slc .str)) (x3 : Ty.D (.int .i64)) : Option (Sg.Out ref10_Check.sg) := loopAt (ref10_Check.cx k) ref10_Check.body [1, 1, 1, 0, 1, 0] 6 [0, 3] [] [] (Sg.K ref10_Check.sg (ref10_Check.cx k) ref10_Check.rs) n ⟨[(0, .dat (.slc .str) x0), (3, .dat (.int .i64) x3)], []⟩
theorem ref10_Check.f_eq (k : Nat) (a0 : Ty.D (.slc .str)) : ref10_Check.f k a0 = br (ieq (ilen a0) 0) (some 8) (br (ilt 8 (ilen a0)) (some 9) (ref10_Check.l6 k k a0 0)) := by kernel_rfl
theorem ref10_Check.l6_eq (k : Nat) (n6 : Nat) (x0 : Ty.D (.slc .str)) (x3 : Ty.D (.int .i64)) : ref10_Check.l6 k (n6 + 1) x0 x3 = br (ilt x3 (ilen x0)) (br (inL x3 x0) (bnd (ref03_Right.f k (rd .str x0 (natOf x3))) fun r0 => br (bnot r0) (some 8) (ref10_Check.l6 k n6 x0 (iadd .i64 x3 1))) none) (some 0) := by kernel_rfl
noncomputable def ref10_Check.e (k : Nat) : Entry := Sg.entry ref10_Check.sg fun x => ref10_Check.f k x
theorem ref10_Check.ok (k : Nat) : CallOK Tryz.prog 47 (ref10_Check.e k) := fn_ok (c := ref10_Check.cx k) (code := ref10_Check.body) (TT.of tt_ok pp_ok mm_ok) (fns_ok ⟨(ref03_Right.ok k), trivial⟩) mixed Tryz.func47 (by kernel_rfl) (by kernel_rfl) (by kernel_rfl) (by kernel_rfl) (by kernel_rfl) (by kernel_rfl) (fun x => by kernel_rfl)
noncomputable def ref09_Right.body : Go.Code := Tryz.f48.body.getD .skip
noncomputable def ref09_Right.rs : List Go.ResultVar := Tryz.f48.results.toList
def ref09_Right.regs : List (Nat × RInfo) := [(0, ri [1] [1]), (1, ri [1,7] [1]), (2, ri [2] [27]), (3, ri [1,23] [1]), (4, ⟨[1, 4], [1, 27], [6], [], 0, [], [], [], [], []⟩), (5, ri [2] [27]), (6, ri [2] [27])]
noncomputable def ref09_Right.cx (k : Nat) : Cx := ⟨tt, pp, [(88, (ref03_Runes.e k))], ref09_Right.regs, k, mm⟩
@[reducible] def ref09_Right.sg : Sg := ⟨[.dat tValue], [], .dat .bool, []⟩
noncomputable def ref09_Right.f (k : Nat) (a0 : Ty.D tValue) : Option (Sg.Out ref09_Right.sg) := Sg.fn ref09_Right.sg (ref09_Right.cx k) ref09_Right.body ref09_Right.rs a0
theorem ref09_Right.f_eq (k : Nat) (a0 : Ty.D tValue) : ref09_Right.f k a0 = br (ieq a0.1 1) (br (seq a0.2.2 []) (br (ile (-2147483647) a0.2.1) (some (ile a0.2.1 2147483647)) (some false)) (some false)) (br (ieq a0.1 2) (bnd (ref03_Runes.f k a0.2.2) fun r0 => br (ieq a0.2.1 0) (br r0.2 (some (ile (ilen a0.2.2) 64)) (some false)) (some false)) (br (ieq a0.1 3) (br (seq a0.2.2 []) (br (ile 0 a0.2.1) (some (ile a0.2.1 1)) (some false)) (some false)) (some false))) := by kernel_rfl
noncomputable def ref09_Right.e (k : Nat) : Entry := Sg.entry ref09_Right.sg fun x => ref09_Right.f k x
theorem ref09_Right.ok (k : Nat) : CallOK Tryz.prog 48 (ref09_Right.e k) := fn_ok (c := ref09_Right.cx k) (code := ref09_Right.body) (TT.of tt_ok pp_ok mm_ok) (fns_ok ⟨(ref03_Runes.ok k), trivial⟩) mixed Tryz.func48 (by kernel_rfl) (by kernel_rfl) (by kernel_rfl) (by kernel_rfl) (by kernel_rfl) (by kernel_rfl) (fun x => by kernel_rfl)
noncomputable def ref04_Refs.body : Go.Code := Tryz.f89.body.getD .skip
noncomputable def ref04_Refs.rs : List Go.ResultVar := Tryz.f89.results.toList
def ref04_Refs.regs : List (Nat × RInfo) := [(0, ri [2,3] [2,3]), (1, ri [2,3,10] [2,3]), (2, ri [4] [15,20]), (3, ri [4] [15,20])]
noncomputable def ref04_Refs.cx (k : Nat) : Cx := ⟨tt, pp, [(51, (ref04_Compare.e k)), (90, (ref04_ints.e k))], ref04_Refs.regs, k, mm⟩
@[reducible] def ref04_Refs.sg : Sg := ⟨[.dat tUndo, .dat tUndo], [], .dat (.int .i64), []⟩
noncomputable def ref04_Refs.f (k : Nat) (a0 : Ty.D tUndo) (a1 : Ty.D tUndo) : Option (Sg.Out ref04_Refs.sg) := Sg.fn ref04_Refs.sg (ref04_Refs.cx k) ref04_Refs.body ref04_Refs.rs (a0, a1)
theorem ref04_Refs.f_eq (k : Nat) (a0 : Ty.D tUndo) (a1 : Ty.D tUndo) : ref04_Refs.f k a0 a1 = bnd (ref04_Compare.f k a0.1 a1.1) fun r0 => br (bnot (ieq r0 0)) (bnd (ref04_Compare.f k a0.1 a1.1) fun r1 => some r1) (bnd (ref04_ints.f k a0.2 a1.2) fun r2 => some r2) := by kernel_rfl
noncomputable def ref04_Refs.e (k : Nat) : Entry := Sg.entry ref04_Refs.sg fun x => ref04_Refs.f k x.1 x.2
theorem ref04_Refs.ok (k : Nat) : CallOK Tryz.prog 89 (ref04_Refs.e k) := fn_ok (c := ref04_Refs.cx k) (code := ref04_Refs.body) (TT.of tt_ok pp_ok mm_ok) (fns_ok ⟨(ref04_Compare.ok k), (ref04_ints.ok k), trivial⟩) mixed Tryz.func89 (by kernel_rfl) (by kernel_rfl) (by kernel_rfl) (by kernel_rfl) (by kernel_rfl) (by kernel_rfl) (fun x => by kernel_rfl)
noncomputable def ref11_Refs.body : Go.Code := Tryz.f49.body.getD .skip
noncomputable def ref11_Refs.rs : List Go.ResultVar := Tryz.f49.results.toList
def ref11_Refs.regs : List (Nat × RInfo) := [(0, ri [0] []), (1, ri [0,3] []), (2, ⟨[0, 3, 7], [], [], [], 0, [0, 3], [], [], [], []⟩), (4, ri [0,3,32] []), (5, ri [2] []), (6, rq [0,3,47] [] 15), (7, ri [2] []), (3, ri [0,3] []), (8, ri [2] [])]
noncomputable def ref11_Refs.cx (k : Nat) : Cx := ⟨tt, pp, [(20, (ref04_Right.e k)), (89, (ref04_Refs.e k))], ref11_Refs.regs, k, mm⟩
@[reducible] def ref11_Refs.sg : Sg := ⟨[.dat (.slc tUndo)], [], .dat .bool, []⟩
noncomputable def ref11_Refs.f (k : Nat) (a0 : Ty.D (.slc tUndo)) : Option (Sg.Out ref11_Refs.sg) := Sg.fn ref11_Refs.sg (ref11_Refs.cx k) ref11_Refs.body ref11_Refs.rs a0
noncomputable def ref11_Refs.l2 (k : Nat) (n : Nat) (x0 : Ty.D (.slc tUndo)) (x3 : Ty.D (.int .i64)) : Option (Sg.Out ref11_Refs.sg) := loopAt (ref11_Refs.cx k) ref11_Refs.body [1, 0, 1, 0] 2 [0, 3] [] [] (Sg.K ref11_Refs.sg (ref11_Refs.cx k) ref11_Refs.rs) n ⟨[(0, .dat (.slc tUndo) x0), (3, .dat (.int .i64) x3)], []⟩
theorem ref11_Refs.f_eq (k : Nat) (a0 : Ty.D (.slc tUndo)) : ref11_Refs.f k a0 = ref11_Refs.l2 k k a0 0 := by kernel_rfl
theorem ref11_Refs.l2_eq (k : Nat) (n2 : Nat) (x0 : Ty.D (.slc tUndo)) (x3 : Ty.D (.int .i64)) : ref11_Refs.l2 k (n2 + 1) x0 x3 = br (ilt x3 (ilen x0)) (br (inL x3 x0) (bnd (ref04_Right.f k ((rd tUndo x0 (natOf x3)).1)) fun r0 => br (bnot r0) (some false) (br (inL x3 x0) (br (ilt ((rd tUndo x0 (natOf x3)).2) 0) (some false) (br (inL x3 x0) (br (ilt 15 ((rd tUndo x0 (natOf x3)).2)) (some false) (br (ilt 0 x3) (br (inL (isub .i64 x3 1) x0) (br (inL x3 x0) (bnd (ref04_Refs.f k (rd tUndo x0 (natOf (isub .i64 x3 1))) (rd tUndo x0 (natOf x3))) fun r1 => br (bnot (ieq r1 (-1))) (some false) (ref11_Refs.l2 k n2 x0 (iadd .i64 x3 1))) none) none) (ref11_Refs.l2 k n2 x0 (iadd .i64 x3 1)))) none)) none)) none) (some true) := by kernel_rfl
noncomputable def ref11_Refs.e (k : Nat) : Entry := Sg.entry ref11_Refs.sg fun x => ref11_Refs.f k x
theorem ref11_Refs.ok (k : Nat) : CallOK Tryz.prog 49 (ref11_Refs.e k) := fn_ok (c := ref11_Refs.cx k) (code := ref11_Refs.body) (TT.of tt_ok pp_ok mm_ok) (fns_ok ⟨(ref04_Right.ok k), (ref04_Refs.ok k), trivial⟩) mixed Tryz.func49 (by kernel_rfl) (by kernel_rfl) (by kernel_rfl) (by kernel_rfl) (by kernel_rfl) (by kernel_rfl) (fun x => by kernel_rfl)
noncomputable def ref11_Check.body : Go.Code := Tryz.f21.body.getD .skip
noncomputable def ref11_Check.rs : List Go.ResultVar := Tryz.f21.results.toList
def ref11_Check.regs : List (Nat × RInfo) := [(0, ⟨[1], [1], [0], [], 0, [], [], [], [], []⟩), (1, ri [1,12] [1]), (2, ri [2] [15]), (3, ri [1,3] [1,15]), (4, ri [1,3,17] [1,15]), (5, ri [2] [15]), (6, ri [1,4] [1,4]), (7, ri [1,33] [1]), (8, ri [2] [15]), (9, ri [1,47] [1]), (10, ri [2] [15]), (11, ri [1,75] [1]), (12, ri [2] [15]), (13, ri [1,89] [1]), (14, ri [2] [15]), (15, ri [1,93] [1]), (16, ri [2] [15]), (17, ri [97] []), (18, ri [2] [15]), (19, ri [2] [15])]
noncomputable def ref11_Check.cx (k : Nat) : Cx := ⟨tt, pp, [(47, (ref10_Check.e k)), (48, (ref09_Right.e k)), (49, (ref11_Refs.e k))], ref11_Check.regs, k, mm⟩
@[reducible] def ref11_Check.sg : Sg := ⟨[.dat tOp], [], .dat (.int .i64), []⟩
noncomputable def ref11_Check.f (k : Nat) (a0 : Ty.D tOp) : Option (Sg.Out ref11_Check.sg) := Sg.fn ref11_Check.sg (ref11_Check.cx k) ref11_Check.body ref11_Check.rs a0
theorem ref11_Check.f_eq (k : Nat) (a0 : Ty.D tOp) : ref11_Check.f k a0 = br (ilt a0.1 1) (some 18) (br (ilt 5 a0.1) (some 18) (bnd (ref10_Check.f k a0.2.1) fun r0 => br (bnot (ieq r0 0)) (some r0) (br (ieq a0.1 3) (br (bnot (deq tValue a0.2.2.1 (0, (0, [])))) (some 2) (br (bnot (ieq a0.1 3)) (br (bnot (ieq a0.1 5)) (bnd (ref09_Right.f k a0.2.2.1) fun r1 => br (bnot r1) (some 2) (br (bnot (ieq a0.1 3)) (br (bnot (ieq a0.2.2.2.1 0)) (some 2) (br (ieq a0.1 3) (br (ieq a0.2.2.2.1 0) (some 2) (br (ilt 2147483647 a0.2.2.2.1) (some 2) (br (ilt a0.2.2.2.1 (-2147483647)) (some 2) (br (ieq a0.1 2) (br (ilt 0 (ilen a0.2.2.2.2)) (some 2) (br (ilt 256 (ilen a0.2.2.2.2)) (some 7) (bnd (ref11_Refs.f k a0.2.2.2.2) fun r2 => br (bnot r2) (some 2) (some 0)))) (br (ieq a0.1 3) (br (ilt 0 (ilen a0.2.2.2.2)) (some 2) (br (ilt 256 (ilen a0.2.2.2.2)) (some 7) (bnd (ref11_Refs.f k a0.2.2.2.2) fun r3 => br (bnot r3) (some 2) (some 0)))) (br (ilt 256 (ilen a0.2.2.2.2)) (some 7) (bnd (ref11_Refs.f k a0.2.2.2.2) fun r4 => br (bnot r4) (some 2) (some 0)))))))) (br (ieq a0.1 2) (br (ilt 0 (ilen a0.2.2.2.2)) (some 2) (br (ilt 256 (ilen a0.2.2.2.2)) (some 7) (bnd (ref11_Refs.f k a0.2.2.2.2) fun r5 => br (bnot r5) (some 2) (some 0)))) (br (ieq a0.1 3) (br (ilt 0 (ilen a0.2.2.2.2)) (some 2) (br (ilt 256 (ilen a0.2.2.2.2)) (some 7) (bnd (ref11_Refs.f k a0.2.2.2.2) fun r6 => br (bnot r6) (some 2) (some 0)))) (br (ilt 256 (ilen a0.2.2.2.2)) (some 7) (bnd (ref11_Refs.f k a0.2.2.2.2) fun r7 => br (bnot r7) (some 2) (some 0))))))) (br (ieq a0.1 3) (br (ieq a0.2.2.2.1 0) (some 2) (br (ilt 2147483647 a0.2.2.2.1) (some 2) (br (ilt a0.2.2.2.1 (-2147483647)) (some 2) (br (ieq a0.1 2) (br (ilt 0 (ilen a0.2.2.2.2)) (some 2) (br (ilt 256 (ilen a0.2.2.2.2)) (some 7) (bnd (ref11_Refs.f k a0.2.2.2.2) fun r8 => br (bnot r8) (some 2) (some 0)))) (br (ieq a0.1 3) (br (ilt 0 (ilen a0.2.2.2.2)) (some 2) (br (ilt 256 (ilen a0.2.2.2.2)) (some 7) (bnd (ref11_Refs.f k a0.2.2.2.2) fun r9 => br (bnot r9) (some 2) (some 0)))) (br (ilt 256 (ilen a0.2.2.2.2)) (some 7) (bnd (ref11_Refs.f k a0.2.2.2.2) fun r10 => br (bnot r10) (some 2) (some 0)))))))) (br (ieq a0.1 2) (br (ilt 0 (ilen a0.2.2.2.2)) (some 2) (br (ilt 256 (ilen a0.2.2.2.2)) (some 7) (bnd (ref11_Refs.f k a0.2.2.2.2) fun r11 => br (bnot r11) (some 2) (some 0)))) (br (ieq a0.1 3) (br (ilt 0 (ilen a0.2.2.2.2)) (some 2) (br (ilt 256 (ilen a0.2.2.2.2)) (some 7) (bnd (ref11_Refs.f k a0.2.2.2.2) fun r12 => br (bnot r12) (some 2) (some 0)))) (br (ilt 256 (ilen a0.2.2.2.2)) (some 7) (bnd (ref11_Refs.f k a0.2.2.2.2) fun r13 => br (bnot r13) (some 2) (some 0)))))))) (br (bnot (ieq a0.1 3)) (br (bnot (ieq a0.2.2.2.1 0)) (some 2) (br (ieq a0.1 3) (br (ieq a0.2.2.2.1 0) (some 2) (br (ilt 2147483647 a0.2.2.2.1) (some 2) (br (ilt a0.2.2.2.1 (-2147483647)) (some 2) (br (ieq a0.1 2) (br (ilt 0 (ilen a0.2.2.2.2)) (some 2) (br (ilt 256 (ilen a0.2.2.2.2)) (some 7) (bnd (ref11_Refs.f k a0.2.2.2.2) fun r14 => br (bnot r14) (some 2) (some 0)))) (br (ieq a0.1 3) (br (ilt 0 (ilen a0.2.2.2.2)) (some 2) (br (ilt 256 (ilen a0.2.2.2.2)) (some 7) (bnd (ref11_Refs.f k a0.2.2.2.2) fun r15 => br (bnot r15) (some 2) (some 0)))) (br (ilt 256 (ilen a0.2.2.2.2)) (some 7) (bnd (ref11_Refs.f k a0.2.2.2.2) fun r16 => br (bnot r16) (some 2) (some 0)))))))) (br (ieq a0.1 2) (br (ilt 0 (ilen a0.2.2.2.2)) (some 2) (br (ilt 256 (ilen a0.2.2.2.2)) (some 7) (bnd (ref11_Refs.f k a0.2.2.2.2) fun r17 => br (bnot r17) (some 2) (some 0)))) (br (ieq a0.1 3) (br (ilt 0 (ilen a0.2.2.2.2)) (some 2) (br (ilt 256 (ilen a0.2.2.2.2)) (some 7) (bnd (ref11_Refs.f k a0.2.2.2.2) fun r18 => br (bnot r18) (some 2) (some 0)))) (br (ilt 256 (ilen a0.2.2.2.2)) (some 7) (bnd (ref11_Refs.f k a0.2.2.2.2) fun r19 => br (bnot r19) (some 2) (some 0))))))) (br (ieq a0.1 3) (br (ieq a0.2.2.2.1 0) (some 2) (br (ilt 2147483647 a0.2.2.2.1) (some 2) (br (ilt a0.2.2.2.1 (-2147483647)) (some 2) (br (ieq a0.1 2) (br (ilt 0 (ilen a0.2.2.2.2)) (some 2) (br (ilt 256 (ilen a0.2.2.2.2)) (some 7) (bnd (ref11_Refs.f k a0.2.2.2.2) fun r20 => br (bnot r20) (some 2) (some 0)))) (br (ieq a0.1 3) (br (ilt 0 (ilen a0.2.2.2.2)) (some 2) (br (ilt 256 (ilen a0.2.2.2.2)) (some 7) (bnd (ref11_Refs.f k a0.2.2.2.2) fun r21 => br (bnot r21) (some 2) (some 0)))) (br (ilt 256 (ilen a0.2.2.2.2)) (some 7) (bnd (ref11_Refs.f k a0.2.2.2.2) fun r22 => br (bnot r22) (some 2) (some 0)))))))) (br (ieq a0.1 2) (br (ilt 0 (ilen a0.2.2.2.2)) (some 2) (br (ilt 256 (ilen a0.2.2.2.2)) (some 7) (bnd (ref11_Refs.f k a0.2.2.2.2) fun r23 => br (bnot r23) (some 2) (some 0)))) (br (ieq a0.1 3) (br (ilt 0 (ilen a0.2.2.2.2)) (some 2) (br (ilt 256 (ilen a0.2.2.2.2)) (some 7) (bnd (ref11_Refs.f k a0.2.2.2.2) fun r24 => br (bnot r24) (some 2) (some 0)))) (br (ilt 256 (ilen a0.2.2.2.2)) (some 7) (bnd (ref11_Refs.f k a0.2.2.2.2) fun r25 => br (bnot r25) (some 2) (some 0)))))))) (br (bnot (ieq a0.1 3)) (br (bnot (ieq a0.2.2.2.1 0)) (some 2) (br (ieq a0.1 3) (br (ieq a0.2.2.2.1 0) (some 2) (br (ilt 2147483647 a0.2.2.2.1) (some 2) (br (ilt a0.2.2.2.1 (-2147483647)) (some 2) (br (ieq a0.1 2) (br (ilt 0 (ilen a0.2.2.2.2)) (some 2) (br (ilt 256 (ilen a0.2.2.2.2)) (some 7) (bnd (ref11_Refs.f k a0.2.2.2.2) fun r26 => br (bnot r26) (some 2) (some 0)))) (br (ieq a0.1 3) (br (ilt 0 (ilen a0.2.2.2.2)) (some 2) (br (ilt 256 (ilen a0.2.2.2.2)) (some 7) (bnd (ref11_Refs.f k a0.2.2.2.2) fun r27 => br (bnot r27) (some 2) (some 0)))) (br (ilt 256 (ilen a0.2.2.2.2)) (some 7) (bnd (ref11_Refs.f k a0.2.2.2.2) fun r28 => br (bnot r28) (some 2) (some 0)))))))) (br (ieq a0.1 2) (br (ilt 0 (ilen a0.2.2.2.2)) (some 2) (br (ilt 256 (ilen a0.2.2.2.2)) (some 7) (bnd (ref11_Refs.f k a0.2.2.2.2) fun r29 => br (bnot r29) (some 2) (some 0)))) (br (ieq a0.1 3) (br (ilt 0 (ilen a0.2.2.2.2)) (some 2) (br (ilt 256 (ilen a0.2.2.2.2)) (some 7) (bnd (ref11_Refs.f k a0.2.2.2.2) fun r30 => br (bnot r30) (some 2) (some 0)))) (br (ilt 256 (ilen a0.2.2.2.2)) (some 7) (bnd (ref11_Refs.f k a0.2.2.2.2) fun r31 => br (bnot r31) (some 2) (some 0))))))) (br (ieq a0.1 3) (br (ieq a0.2.2.2.1 0) (some 2) (br (ilt 2147483647 a0.2.2.2.1) (some 2) (br (ilt a0.2.2.2.1 (-2147483647)) (some 2) (br (ieq a0.1 2) (br (ilt 0 (ilen a0.2.2.2.2)) (some 2) (br (ilt 256 (ilen a0.2.2.2.2)) (some 7) (bnd (ref11_Refs.f k a0.2.2.2.2) fun r32 => br (bnot r32) (some 2) (some 0)))) (br (ieq a0.1 3) (br (ilt 0 (ilen a0.2.2.2.2)) (some 2) (br (ilt 256 (ilen a0.2.2.2.2)) (some 7) (bnd (ref11_Refs.f k a0.2.2.2.2) fun r33 => br (bnot r33) (some 2) (some 0)))) (br (ilt 256 (ilen a0.2.2.2.2)) (some 7) (bnd (ref11_Refs.f k a0.2.2.2.2) fun r34 => br (bnot r34) (some 2) (some 0)))))))) (br (ieq a0.1 2) (br (ilt 0 (ilen a0.2.2.2.2)) (some 2) (br (ilt 256 (ilen a0.2.2.2.2)) (some 7) (bnd (ref11_Refs.f k a0.2.2.2.2) fun r35 => br (bnot r35) (some 2) (some 0)))) (br (ieq a0.1 3) (br (ilt 0 (ilen a0.2.2.2.2)) (some 2) (br (ilt 256 (ilen a0.2.2.2.2)) (some 7) (bnd (ref11_Refs.f k a0.2.2.2.2) fun r36 => br (bnot r36) (some 2) (some 0)))) (br (ilt 256 (ilen a0.2.2.2.2)) (some 7) (bnd (ref11_Refs.f k a0.2.2.2.2) fun r37 => br (bnot r37) (some 2) (some 0))))))))) (br (ieq a0.1 5) (br (bnot (deq tValue a0.2.2.1 (0, (0, [])))) (some 2) (br (bnot (ieq a0.1 3)) (br (bnot (ieq a0.1 5)) (bnd (ref09_Right.f k a0.2.2.1) fun r38 => br (bnot r38) (some 2) (br (bnot (ieq a0.1 3)) (br (bnot (ieq a0.2.2.2.1 0)) (some 2) (br (ieq a0.1 3) (br (ieq a0.2.2.2.1 0) (some 2) (br (ilt 2147483647 a0.2.2.2.1) (some 2) (br (ilt a0.2.2.2.1 (-2147483647)) (some 2) (br (ieq a0.1 2) (br (ilt 0 (ilen a0.2.2.2.2)) (some 2) (br (ilt 256 (ilen a0.2.2.2.2)) (some 7) (bnd (ref11_Refs.f k a0.2.2.2.2) fun r39 => br (bnot r39) (some 2) (some 0)))) (br (ieq a0.1 3) (br (ilt 0 (ilen a0.2.2.2.2)) (some 2) (br (ilt 256 (ilen a0.2.2.2.2)) (some 7) (bnd (ref11_Refs.f k a0.2.2.2.2) fun r40 => br (bnot r40) (some 2) (some 0)))) (br (ilt 256 (ilen a0.2.2.2.2)) (some 7) (bnd (ref11_Refs.f k a0.2.2.2.2) fun r41 => br (bnot r41) (some 2) (some 0)))))))) (br (ieq a0.1 2) (br (ilt 0 (ilen a0.2.2.2.2)) (some 2) (br (ilt 256 (ilen a0.2.2.2.2)) (some 7) (bnd (ref11_Refs.f k a0.2.2.2.2) fun r42 => br (bnot r42) (some 2) (some 0)))) (br (ieq a0.1 3) (br (ilt 0 (ilen a0.2.2.2.2)) (some 2) (br (ilt 256 (ilen a0.2.2.2.2)) (some 7) (bnd (ref11_Refs.f k a0.2.2.2.2) fun r43 => br (bnot r43) (some 2) (some 0)))) (br (ilt 256 (ilen a0.2.2.2.2)) (some 7) (bnd (ref11_Refs.f k a0.2.2.2.2) fun r44 => br (bnot r44) (some 2) (some 0))))))) (br (ieq a0.1 3) (br (ieq a0.2.2.2.1 0) (some 2) (br (ilt 2147483647 a0.2.2.2.1) (some 2) (br (ilt a0.2.2.2.1 (-2147483647)) (some 2) (br (ieq a0.1 2) (br (ilt 0 (ilen a0.2.2.2.2)) (some 2) (br (ilt 256 (ilen a0.2.2.2.2)) (some 7) (bnd (ref11_Refs.f k a0.2.2.2.2) fun r45 => br (bnot r45) (some 2) (some 0)))) (br (ieq a0.1 3) (br (ilt 0 (ilen a0.2.2.2.2)) (some 2) (br (ilt 256 (ilen a0.2.2.2.2)) (some 7) (bnd (ref11_Refs.f k a0.2.2.2.2) fun r46 => br (bnot r46) (some 2) (some 0)))) (br (ilt 256 (ilen a0.2.2.2.2)) (some 7) (bnd (ref11_Refs.f k a0.2.2.2.2) fun r47 => br (bnot r47) (some 2) (some 0)))))))) (br (ieq a0.1 2) (br (ilt 0 (ilen a0.2.2.2.2)) (some 2) (br (ilt 256 (ilen a0.2.2.2.2)) (some 7) (bnd (ref11_Refs.f k a0.2.2.2.2) fun r48 => br (bnot r48) (some 2) (some 0)))) (br (ieq a0.1 3) (br (ilt 0 (ilen a0.2.2.2.2)) (some 2) (br (ilt 256 (ilen a0.2.2.2.2)) (some 7) (bnd (ref11_Refs.f k a0.2.2.2.2) fun r49 => br (bnot r49) (some 2) (some 0)))) (br (ilt 256 (ilen a0.2.2.2.2)) (some 7) (bnd (ref11_Refs.f k a0.2.2.2.2) fun r50 => br (bnot r50) (some 2) (some 0)))))))) (br (bnot (ieq a0.1 3)) (br (bnot (ieq a0.2.2.2.1 0)) (some 2) (br (ieq a0.1 3) (br (ieq a0.2.2.2.1 0) (some 2) (br (ilt 2147483647 a0.2.2.2.1) (some 2) (br (ilt a0.2.2.2.1 (-2147483647)) (some 2) (br (ieq a0.1 2) (br (ilt 0 (ilen a0.2.2.2.2)) (some 2) (br (ilt 256 (ilen a0.2.2.2.2)) (some 7) (bnd (ref11_Refs.f k a0.2.2.2.2) fun r51 => br (bnot r51) (some 2) (some 0)))) (br (ieq a0.1 3) (br (ilt 0 (ilen a0.2.2.2.2)) (some 2) (br (ilt 256 (ilen a0.2.2.2.2)) (some 7) (bnd (ref11_Refs.f k a0.2.2.2.2) fun r52 => br (bnot r52) (some 2) (some 0)))) (br (ilt 256 (ilen a0.2.2.2.2)) (some 7) (bnd (ref11_Refs.f k a0.2.2.2.2) fun r53 => br (bnot r53) (some 2) (some 0)))))))) (br (ieq a0.1 2) (br (ilt 0 (ilen a0.2.2.2.2)) (some 2) (br (ilt 256 (ilen a0.2.2.2.2)) (some 7) (bnd (ref11_Refs.f k a0.2.2.2.2) fun r54 => br (bnot r54) (some 2) (some 0)))) (br (ieq a0.1 3) (br (ilt 0 (ilen a0.2.2.2.2)) (some 2) (br (ilt 256 (ilen a0.2.2.2.2)) (some 7) (bnd (ref11_Refs.f k a0.2.2.2.2) fun r55 => br (bnot r55) (some 2) (some 0)))) (br (ilt 256 (ilen a0.2.2.2.2)) (some 7) (bnd (ref11_Refs.f k a0.2.2.2.2) fun r56 => br (bnot r56) (some 2) (some 0))))))) (br (ieq a0.1 3) (br (ieq a0.2.2.2.1 0) (some 2) (br (ilt 2147483647 a0.2.2.2.1) (some 2) (br (ilt a0.2.2.2.1 (-2147483647)) (some 2) (br (ieq a0.1 2) (br (ilt 0 (ilen a0.2.2.2.2)) (some 2) (br (ilt 256 (ilen a0.2.2.2.2)) (some 7) (bnd (ref11_Refs.f k a0.2.2.2.2) fun r57 => br (bnot r57) (some 2) (some 0)))) (br (ieq a0.1 3) (br (ilt 0 (ilen a0.2.2.2.2)) (some 2) (br (ilt 256 (ilen a0.2.2.2.2)) (some 7) (bnd (ref11_Refs.f k a0.2.2.2.2) fun r58 => br (bnot r58) (some 2) (some 0)))) (br (ilt 256 (ilen a0.2.2.2.2)) (some 7) (bnd (ref11_Refs.f k a0.2.2.2.2) fun r59 => br (bnot r59) (some 2) (some 0)))))))) (br (ieq a0.1 2) (br (ilt 0 (ilen a0.2.2.2.2)) (some 2) (br (ilt 256 (ilen a0.2.2.2.2)) (some 7) (bnd (ref11_Refs.f k a0.2.2.2.2) fun r60 => br (bnot r60) (some 2) (some 0)))) (br (ieq a0.1 3) (br (ilt 0 (ilen a0.2.2.2.2)) (some 2) (br (ilt 256 (ilen a0.2.2.2.2)) (some 7) (bnd (ref11_Refs.f k a0.2.2.2.2) fun r61 => br (bnot r61) (some 2) (some 0)))) (br (ilt 256 (ilen a0.2.2.2.2)) (some 7) (bnd (ref11_Refs.f k a0.2.2.2.2) fun r62 => br (bnot r62) (some 2) (some 0)))))))) (br (bnot (ieq a0.1 3)) (br (bnot (ieq a0.2.2.2.1 0)) (some 2) (br (ieq a0.1 3) (br (ieq a0.2.2.2.1 0) (some 2) (br (ilt 2147483647 a0.2.2.2.1) (some 2) (br (ilt a0.2.2.2.1 (-2147483647)) (some 2) (br (ieq a0.1 2) (br (ilt 0 (ilen a0.2.2.2.2)) (some 2) (br (ilt 256 (ilen a0.2.2.2.2)) (some 7) (bnd (ref11_Refs.f k a0.2.2.2.2) fun r63 => br (bnot r63) (some 2) (some 0)))) (br (ieq a0.1 3) (br (ilt 0 (ilen a0.2.2.2.2)) (some 2) (br (ilt 256 (ilen a0.2.2.2.2)) (some 7) (bnd (ref11_Refs.f k a0.2.2.2.2) fun r64 => br (bnot r64) (some 2) (some 0)))) (br (ilt 256 (ilen a0.2.2.2.2)) (some 7) (bnd (ref11_Refs.f k a0.2.2.2.2) fun r65 => br (bnot r65) (some 2) (some 0)))))))) (br (ieq a0.1 2) (br (ilt 0 (ilen a0.2.2.2.2)) (some 2) (br (ilt 256 (ilen a0.2.2.2.2)) (some 7) (bnd (ref11_Refs.f k a0.2.2.2.2) fun r66 => br (bnot r66) (some 2) (some 0)))) (br (ieq a0.1 3) (br (ilt 0 (ilen a0.2.2.2.2)) (some 2) (br (ilt 256 (ilen a0.2.2.2.2)) (some 7) (bnd (ref11_Refs.f k a0.2.2.2.2) fun r67 => br (bnot r67) (some 2) (some 0)))) (br (ilt 256 (ilen a0.2.2.2.2)) (some 7) (bnd (ref11_Refs.f k a0.2.2.2.2) fun r68 => br (bnot r68) (some 2) (some 0))))))) (br (ieq a0.1 3) (br (ieq a0.2.2.2.1 0) (some 2) (br (ilt 2147483647 a0.2.2.2.1) (some 2) (br (ilt a0.2.2.2.1 (-2147483647)) (some 2) (br (ieq a0.1 2) (br (ilt 0 (ilen a0.2.2.2.2)) (some 2) (br (ilt 256 (ilen a0.2.2.2.2)) (some 7) (bnd (ref11_Refs.f k a0.2.2.2.2) fun r69 => br (bnot r69) (some 2) (some 0)))) (br (ieq a0.1 3) (br (ilt 0 (ilen a0.2.2.2.2)) (some 2) (br (ilt 256 (ilen a0.2.2.2.2)) (some 7) (bnd (ref11_Refs.f k a0.2.2.2.2) fun r70 => br (bnot r70) (some 2) (some 0)))) (br (ilt 256 (ilen a0.2.2.2.2)) (some 7) (bnd (ref11_Refs.f k a0.2.2.2.2) fun r71 => br (bnot r71) (some 2) (some 0)))))))) (br (ieq a0.1 2) (br (ilt 0 (ilen a0.2.2.2.2)) (some 2) (br (ilt 256 (ilen a0.2.2.2.2)) (some 7) (bnd (ref11_Refs.f k a0.2.2.2.2) fun r72 => br (bnot r72) (some 2) (some 0)))) (br (ieq a0.1 3) (br (ilt 0 (ilen a0.2.2.2.2)) (some 2) (br (ilt 256 (ilen a0.2.2.2.2)) (some 7) (bnd (ref11_Refs.f k a0.2.2.2.2) fun r73 => br (bnot r73) (some 2) (some 0)))) (br (ilt 256 (ilen a0.2.2.2.2)) (some 7) (bnd (ref11_Refs.f k a0.2.2.2.2) fun r74 => br (bnot r74) (some 2) (some 0))))))))) (br (bnot (ieq a0.1 3)) (br (bnot (ieq a0.1 5)) (bnd (ref09_Right.f k a0.2.2.1) fun r75 => br (bnot r75) (some 2) (br (bnot (ieq a0.1 3)) (br (bnot (ieq a0.2.2.2.1 0)) (some 2) (br (ieq a0.1 3) (br (ieq a0.2.2.2.1 0) (some 2) (br (ilt 2147483647 a0.2.2.2.1) (some 2) (br (ilt a0.2.2.2.1 (-2147483647)) (some 2) (br (ieq a0.1 2) (br (ilt 0 (ilen a0.2.2.2.2)) (some 2) (br (ilt 256 (ilen a0.2.2.2.2)) (some 7) (bnd (ref11_Refs.f k a0.2.2.2.2) fun r76 => br (bnot r76) (some 2) (some 0)))) (br (ieq a0.1 3) (br (ilt 0 (ilen a0.2.2.2.2)) (some 2) (br (ilt 256 (ilen a0.2.2.2.2)) (some 7) (bnd (ref11_Refs.f k a0.2.2.2.2) fun r77 => br (bnot r77) (some 2) (some 0)))) (br (ilt 256 (ilen a0.2.2.2.2)) (some 7) (bnd (ref11_Refs.f k a0.2.2.2.2) fun r78 => br (bnot r78) (some 2) (some 0)))))))) (br (ieq a0.1 2) (br (ilt 0 (ilen a0.2.2.2.2)) (some 2) (br (ilt 256 (ilen a0.2.2.2.2)) (some 7) (bnd (ref11_Refs.f k a0.2.2.2.2) fun r79 => br (bnot r79) (some 2) (some 0)))) (br (ieq a0.1 3) (br (ilt 0 (ilen a0.2.2.2.2)) (some 2) (br (ilt 256 (ilen a0.2.2.2.2)) (some 7) (bnd (ref11_Refs.f k a0.2.2.2.2) fun r80 => br (bnot r80) (some 2) (some 0)))) (br (ilt 256 (ilen a0.2.2.2.2)) (some 7) (bnd (ref11_Refs.f k a0.2.2.2.2) fun r81 => br (bnot r81) (some 2) (some 0))))))) (br (ieq a0.1 3) (br (ieq a0.2.2.2.1 0) (some 2) (br (ilt 2147483647 a0.2.2.2.1) (some 2) (br (ilt a0.2.2.2.1 (-2147483647)) (some 2) (br (ieq a0.1 2) (br (ilt 0 (ilen a0.2.2.2.2)) (some 2) (br (ilt 256 (ilen a0.2.2.2.2)) (some 7) (bnd (ref11_Refs.f k a0.2.2.2.2) fun r82 => br (bnot r82) (some 2) (some 0)))) (br (ieq a0.1 3) (br (ilt 0 (ilen a0.2.2.2.2)) (some 2) (br (ilt 256 (ilen a0.2.2.2.2)) (some 7) (bnd (ref11_Refs.f k a0.2.2.2.2) fun r83 => br (bnot r83) (some 2) (some 0)))) (br (ilt 256 (ilen a0.2.2.2.2)) (some 7) (bnd (ref11_Refs.f k a0.2.2.2.2) fun r84 => br (bnot r84) (some 2) (some 0)))))))) (br (ieq a0.1 2) (br (ilt 0 (ilen a0.2.2.2.2)) (some 2) (br (ilt 256 (ilen a0.2.2.2.2)) (some 7) (bnd (ref11_Refs.f k a0.2.2.2.2) fun r85 => br (bnot r85) (some 2) (some 0)))) (br (ieq a0.1 3) (br (ilt 0 (ilen a0.2.2.2.2)) (some 2) (br (ilt 256 (ilen a0.2.2.2.2)) (some 7) (bnd (ref11_Refs.f k a0.2.2.2.2) fun r86 => br (bnot r86) (some 2) (some 0)))) (br (ilt 256 (ilen a0.2.2.2.2)) (some 7) (bnd (ref11_Refs.f k a0.2.2.2.2) fun r87 => br (bnot r87) (some 2) (some 0)))))))) (br (bnot (ieq a0.1 3)) (br (bnot (ieq a0.2.2.2.1 0)) (some 2) (br (ieq a0.1 3) (br (ieq a0.2.2.2.1 0) (some 2) (br (ilt 2147483647 a0.2.2.2.1) (some 2) (br (ilt a0.2.2.2.1 (-2147483647)) (some 2) (br (ieq a0.1 2) (br (ilt 0 (ilen a0.2.2.2.2)) (some 2) (br (ilt 256 (ilen a0.2.2.2.2)) (some 7) (bnd (ref11_Refs.f k a0.2.2.2.2) fun r88 => br (bnot r88) (some 2) (some 0)))) (br (ieq a0.1 3) (br (ilt 0 (ilen a0.2.2.2.2)) (some 2) (br (ilt 256 (ilen a0.2.2.2.2)) (some 7) (bnd (ref11_Refs.f k a0.2.2.2.2) fun r89 => br (bnot r89) (some 2) (some 0)))) (br (ilt 256 (ilen a0.2.2.2.2)) (some 7) (bnd (ref11_Refs.f k a0.2.2.2.2) fun r90 => br (bnot r90) (some 2) (some 0)))))))) (br (ieq a0.1 2) (br (ilt 0 (ilen a0.2.2.2.2)) (some 2) (br (ilt 256 (ilen a0.2.2.2.2)) (some 7) (bnd (ref11_Refs.f k a0.2.2.2.2) fun r91 => br (bnot r91) (some 2) (some 0)))) (br (ieq a0.1 3) (br (ilt 0 (ilen a0.2.2.2.2)) (some 2) (br (ilt 256 (ilen a0.2.2.2.2)) (some 7) (bnd (ref11_Refs.f k a0.2.2.2.2) fun r92 => br (bnot r92) (some 2) (some 0)))) (br (ilt 256 (ilen a0.2.2.2.2)) (some 7) (bnd (ref11_Refs.f k a0.2.2.2.2) fun r93 => br (bnot r93) (some 2) (some 0))))))) (br (ieq a0.1 3) (br (ieq a0.2.2.2.1 0) (some 2) (br (ilt 2147483647 a0.2.2.2.1) (some 2) (br (ilt a0.2.2.2.1 (-2147483647)) (some 2) (br (ieq a0.1 2) (br (ilt 0 (ilen a0.2.2.2.2)) (some 2) (br (ilt 256 (ilen a0.2.2.2.2)) (some 7) (bnd (ref11_Refs.f k a0.2.2.2.2) fun r94 => br (bnot r94) (some 2) (some 0)))) (br (ieq a0.1 3) (br (ilt 0 (ilen a0.2.2.2.2)) (some 2) (br (ilt 256 (ilen a0.2.2.2.2)) (some 7) (bnd (ref11_Refs.f k a0.2.2.2.2) fun r95 => br (bnot r95) (some 2) (some 0)))) (br (ilt 256 (ilen a0.2.2.2.2)) (some 7) (bnd (ref11_Refs.f k a0.2.2.2.2) fun r96 => br (bnot r96) (some 2) (some 0)))))))) (br (ieq a0.1 2) (br (ilt 0 (ilen a0.2.2.2.2)) (some 2) (br (ilt 256 (ilen a0.2.2.2.2)) (some 7) (bnd (ref11_Refs.f k a0.2.2.2.2) fun r97 => br (bnot r97) (some 2) (some 0)))) (br (ieq a0.1 3) (br (ilt 0 (ilen a0.2.2.2.2)) (some 2) (br (ilt 256 (ilen a0.2.2.2.2)) (some 7) (bnd (ref11_Refs.f k a0.2.2.2.2) fun r98 => br (bnot r98) (some 2) (some 0)))) (br (ilt 256 (ilen a0.2.2.2.2)) (some 7) (bnd (ref11_Refs.f k a0.2.2.2.2) fun r99 => br (bnot r99) (some 2) (some 0)))))))) (br (bnot (ieq a0.1 3)) (br (bnot (ieq a0.2.2.2.1 0)) (some 2) (br (ieq a0.1 3) (br (ieq a0.2.2.2.1 0) (some 2) (br (ilt 2147483647 a0.2.2.2.1) (some 2) (br (ilt a0.2.2.2.1 (-2147483647)) (some 2) (br (ieq a0.1 2) (br (ilt 0 (ilen a0.2.2.2.2)) (some 2) (br (ilt 256 (ilen a0.2.2.2.2)) (some 7) (bnd (ref11_Refs.f k a0.2.2.2.2) fun r100 => br (bnot r100) (some 2) (some 0)))) (br (ieq a0.1 3) (br (ilt 0 (ilen a0.2.2.2.2)) (some 2) (br (ilt 256 (ilen a0.2.2.2.2)) (some 7) (bnd (ref11_Refs.f k a0.2.2.2.2) fun r101 => br (bnot r101) (some 2) (some 0)))) (br (ilt 256 (ilen a0.2.2.2.2)) (some 7) (bnd (ref11_Refs.f k a0.2.2.2.2) fun r102 => br (bnot r102) (some 2) (some 0)))))))) (br (ieq a0.1 2) (br (ilt 0 (ilen a0.2.2.2.2)) (some 2) (br (ilt 256 (ilen a0.2.2.2.2)) (some 7) (bnd (ref11_Refs.f k a0.2.2.2.2) fun r103 => br (bnot r103) (some 2) (some 0)))) (br (ieq a0.1 3) (br (ilt 0 (ilen a0.2.2.2.2)) (some 2) (br (ilt 256 (ilen a0.2.2.2.2)) (some 7) (bnd (ref11_Refs.f k a0.2.2.2.2) fun r104 => br (bnot r104) (some 2) (some 0)))) (br (ilt 256 (ilen a0.2.2.2.2)) (some 7) (bnd (ref11_Refs.f k a0.2.2.2.2) fun r105 => br (bnot r105) (some 2) (some 0))))))) (br (ieq a0.1 3) (br (ieq a0.2.2.2.1 0) (some 2) (br (ilt 2147483647 a0.2.2.2.1) (some 2) (br (ilt a0.2.2.2.1 (-2147483647)) (some 2) (br (ieq a0.1 2) (br (ilt 0 (ilen a0.2.2.2.2)) (some 2) (br (ilt 256 (ilen a0.2.2.2.2)) (some 7) (bnd (ref11_Refs.f k a0.2.2.2.2) fun r106 => br (bnot r106) (some 2) (some 0)))) (br (ieq a0.1 3) (br (ilt 0 (ilen a0.2.2.2.2)) (some 2) (br (ilt 256 (ilen a0.2.2.2.2)) (some 7) (bnd (ref11_Refs.f k a0.2.2.2.2) fun r107 => br (bnot r107) (some 2) (some 0)))) (br (ilt 256 (ilen a0.2.2.2.2)) (some 7) (bnd (ref11_Refs.f k a0.2.2.2.2) fun r108 => br (bnot r108) (some 2) (some 0)))))))) (br (ieq a0.1 2) (br (ilt 0 (ilen a0.2.2.2.2)) (some 2) (br (ilt 256 (ilen a0.2.2.2.2)) (some 7) (bnd (ref11_Refs.f k a0.2.2.2.2) fun r109 => br (bnot r109) (some 2) (some 0)))) (br (ieq a0.1 3) (br (ilt 0 (ilen a0.2.2.2.2)) (some 2) (br (ilt 256 (ilen a0.2.2.2.2)) (some 7) (bnd (ref11_Refs.f k a0.2.2.2.2) fun r110 => br (bnot r110) (some 2) (some 0)))) (br (ilt 256 (ilen a0.2.2.2.2)) (some 7) (bnd (ref11_Refs.f k a0.2.2.2.2) fun r111 => br (bnot r111) (some 2) (some 0)))))))))))) := by kernel_rfl
noncomputable def ref11_Check.e (k : Nat) : Entry := Sg.entry ref11_Check.sg fun x => ref11_Check.f k x
theorem ref11_Check.ok (k : Nat) : CallOK Tryz.prog 21 (ref11_Check.e k) := fn_ok (c := ref11_Check.cx k) (code := ref11_Check.body) (TT.of tt_ok pp_ok mm_ok) (fns_ok ⟨(ref10_Check.ok k), (ref09_Right.ok k), (ref11_Refs.ok k), trivial⟩) mixed Tryz.func21 (by kernel_rfl) (by kernel_rfl) (by kernel_rfl) (by kernel_rfl) (by kernel_rfl) (by kernel_rfl) (fun x => by kernel_rfl)
noncomputable def ref11_Gone.body : Go.Code := Tryz.f22.body.getD .skip
noncomputable def ref11_Gone.rs : List Go.ResultVar := Tryz.f22.results.toList
def ref11_Gone.regs : List (Nat × RInfo) := [(0, ⟨[1], [1], [0], [], 0, [], [], [], [], []⟩), (1, ri [1,3] [1,3]), (2, ri [2] [])]
noncomputable def ref11_Gone.cx (k : Nat) : Cx := ⟨tt, pp, [], ref11_Gone.regs, k, mm⟩
@[reducible] def ref11_Gone.sg : Sg := ⟨[.dat tOp], [], .dat .bool, []⟩
noncomputable def ref11_Gone.f (k : Nat) (a0 : Ty.D tOp) : Option (Sg.Out ref11_Gone.sg) := Sg.fn ref11_Gone.sg (ref11_Gone.cx k) ref11_Gone.body ref11_Gone.rs a0
theorem ref11_Gone.f_eq (k : Nat) (a0 : Ty.D tOp) : ref11_Gone.f k a0 = br (ieq a0.1 0) (br (ieq (ilen a0.2.1) 0) (br (deq tValue a0.2.2.1 (0, (0, []))) (br (ieq a0.2.2.2.1 0) (some (ieq (ilen a0.2.2.2.2) 0)) (some false)) (some false)) (some false)) (some false) := by kernel_rfl
noncomputable def ref11_Gone.e (k : Nat) : Entry := Sg.entry ref11_Gone.sg fun x => ref11_Gone.f k x
theorem ref11_Gone.ok (k : Nat) : CallOK Tryz.prog 22 (ref11_Gone.e k) := fn_ok (c := ref11_Gone.cx k) (code := ref11_Gone.body) (TT.of tt_ok pp_ok mm_ok) (fns_ok trivial) mixed Tryz.func22 (by kernel_rfl) (by kernel_rfl) (by kernel_rfl) (by kernel_rfl) (by kernel_rfl) (by kernel_rfl) (fun x => by kernel_rfl)
noncomputable def ref12_Check.body : Go.Code := Tryz.f7.body.getD .skip
noncomputable def ref12_Check.rs : List Go.ResultVar := Tryz.f7.results.toList
def ref12_Check.regs : List (Nat × RInfo) := [(0, ⟨[1], [1], [0], [], 0, [], [], [], [], []⟩), (1, ri [1,28] [1]), (2, ri [2] [49]), (3, ri [1,32] [1]), (4, ri [2] [49]), (5, ri [1,36] [1]), (6, ri [2] [49]), (7, ri [1,3] [1]), (8, ⟨[1, 3, 41], [1], [], [], 0, [1, 3], [1], [], [], []⟩), (10, ri [1,3,4] [1,49]), (11, ri [1,3,4,64] [1,49]), (12, ri [2] [49]), (9, ri [1,3] [1]), (13, ri [2] [49])]
noncomputable def ref12_Check.cx (k : Nat) : Cx := ⟨tt, pp, [(20, (ref04_Right.e k)), (21, (ref11_Check.e k)), (22, (ref11_Gone.e k))], ref12_Check.regs, k, mm⟩
@[reducible] def ref12_Check.sg : Sg := ⟨[.dat tTxn], [], .dat (.int .i64), []⟩
noncomputable def ref12_Check.f (k : Nat) (a0 : Ty.D tTxn) : Option (Sg.Out ref12_Check.sg) := Sg.fn ref12_Check.sg (ref12_Check.cx k) ref12_Check.body ref12_Check.rs a0
noncomputable def ref12_Check.l8 (k : Nat) (n : Nat) (x3 : Ty.D (.int .i64)) (m1 : Ty.D tTxn) : Option (Sg.Out ref12_Check.sg) := loopAt (ref12_Check.cx k) ref12_Check.body [1, 1, 1, 1, 0, 1, 0] 8 [1, 3] [1] [] (Sg.K ref12_Check.sg (ref12_Check.cx k) ref12_Check.rs) n ⟨[(1, .ref 1 []), (3, .dat (.int .i64) x3)], [(1, .dat tTxn m1)]⟩
theorem ref12_Check.f_eq (k : Nat) (a0 : Ty.D tTxn) : ref12_Check.f k a0 = bnd (ref04_Right.f k a0.1) fun r0 => br (bnot r0) (some 2) (br (ilt a0.2.1 0) (some 2) (br (ilt 7 a0.2.1) (some 2) (br (ilt a0.2.2.1 1) (some 2) (br (ilt 1099511627776 a0.2.2.1) (some 2) (br (ieq (ilen a0.2.2.2.2) 0) (some 11) (br (ilt 16 (ilen a0.2.2.2.2)) (some 7) (ref12_Check.l8 k k 0 a0))))))) := by kernel_rfl
theorem ref12_Check.l8_eq (k : Nat) (n8 : Nat) (x3 : Ty.D (.int .i64)) (m1 : Ty.D tTxn) : ref12_Check.l8 k (n8 + 1) x3 m1 = br (ilt x3 (ilen m1.2.2.2.2)) (br (inL x3 m1.2.2.2.2) (bnd (ref11_Check.f k (rd tOp m1.2.2.2.2 (natOf x3))) fun r0 => br (bnot (ieq r0 0)) (br m1.2.2.2.1 (br (inL x3 m1.2.2.2.2) (bnd (ref11_Gone.f k (rd tOp m1.2.2.2.2 (natOf x3))) fun r1 => br (bnot r1) (some r0) (ref12_Check.l8 k n8 (iadd .i64 x3 1) m1)) none) (br (bnot false) (some r0) (ref12_Check.l8 k n8 (iadd .i64 x3 1) m1))) (ref12_Check.l8 k n8 (iadd .i64 x3 1) m1)) none) (some 0) := by kernel_rfl
noncomputable def ref12_Check.e (k : Nat) : Entry := Sg.entry ref12_Check.sg fun x => ref12_Check.f k x
theorem ref12_Check.ok (k : Nat) : CallOK Tryz.prog 7 (ref12_Check.e k) := fn_ok (c := ref12_Check.cx k) (code := ref12_Check.body) (TT.of tt_ok pp_ok mm_ok) (fns_ok ⟨(ref04_Right.ok k), (ref11_Check.ok k), (ref11_Gone.ok k), trivial⟩) mixed Tryz.func7 (by kernel_rfl) (by kernel_rfl) (by kernel_rfl) (by kernel_rfl) (by kernel_rfl) (by kernel_rfl) (fun x => by kernel_rfl)
noncomputable def ref05_Has.body : Go.Code := Tryz.f111.body.getD .skip
noncomputable def ref05_Has.rs : List Go.ResultVar := Tryz.f111.results.toList
def ref05_Has.regs : List (Nat × RInfo) := [(0, ri [2,3] [2,3]), (1, rq [4] [6] 11)]
noncomputable def ref05_Has.cx (k : Nat) : Cx := ⟨tt, pp, [(20, (ref04_Right.e k))], ref05_Has.regs, k, mm⟩
@[reducible] def ref05_Has.sg : Sg := ⟨[.dat tVec, .dat tDot], [], .dat .bool, []⟩
noncomputable def ref05_Has.f (k : Nat) (a0 : Ty.D tVec) (a1 : Ty.D tDot) : Option (Sg.Out ref05_Has.sg) := Sg.fn ref05_Has.sg (ref05_Has.cx k) ref05_Has.body ref05_Has.rs (a0, a1)
theorem ref05_Has.f_eq (k : Nat) (a0 : Ty.D tVec) (a1 : Ty.D tDot) : ref05_Has.f k a0 a1 = bnd (ref04_Right.f k a1) fun r0 => br r0 (br (inB a1.1 16) (some (ile a1.2 (rd (.int .i64) a0 (natOf a1.1)))) none) (some false) := by kernel_rfl
noncomputable def ref05_Has.e (k : Nat) : Entry := Sg.entry ref05_Has.sg fun x => ref05_Has.f k x.1 x.2
theorem ref05_Has.ok (k : Nat) : CallOK Tryz.prog 111 (ref05_Has.e k) := fn_ok (c := ref05_Has.cx k) (code := ref05_Has.body) (TT.of tt_ok pp_ok mm_ok) (fns_ok ⟨(ref04_Right.ok k), trivial⟩) mixed Tryz.func111 (by kernel_rfl) (by kernel_rfl) (by kernel_rfl) (by kernel_rfl) (by kernel_rfl) (by kernel_rfl) (fun x => by kernel_rfl)
noncomputable def ref06_Has.body : Go.Code := Tryz.f83.body.getD .skip
noncomputable def ref06_Has.rs : List Go.ResultVar := Tryz.f83.results.toList
def ref06_Has.regs : List (Nat × RInfo) := [(0, ⟨[2, 3], [2, 3], [0], [], 0, [], [], [], [], []⟩), (1, ri [2,3,9] [2,3,9]), (2, ri [4] []), (3, ri [2,3,5] [2,3]), (4, ⟨[2, 3, 5, 14], [2, 3], [], [], 0, [2, 3, 5], [2, 3], [], [], []⟩), (6, rq [2,3,5,23] [2,3] 7), (7, ri [4] []), (5, ri [2,3,5] [2,3]), (8, ri [4] [])]
noncomputable def ref06_Has.cx (k : Nat) : Cx := ⟨tt, pp, [(111, (ref05_Has.e k))], ref06_Has.regs, k, mm⟩
@[reducible] def ref06_Has.sg : Sg := ⟨[.dat tDots, .dat tDot], [], .dat .bool, []⟩
noncomputable def ref06_Has.f (k : Nat) (a0 : Ty.D tDots) (a1 : Ty.D tDot) : Option (Sg.Out ref06_Has.sg) := Sg.fn ref06_Has.sg (ref06_Has.cx k) ref06_Has.body ref06_Has.rs (a0, a1)
noncomputable def ref06_Has.l4 (k : Nat) (n : Nat) (x5 : Ty.D (.int .i64)) (m2 : Ty.D tDots) (m3 : Ty.D tDot) : Option (Sg.Out ref06_Has.sg) := loopAt (ref06_Has.cx k) ref06_Has.body [1, 1, 0, 1, 0] 4 [2, 3, 5] [2, 3] [] (Sg.K ref06_Has.sg (ref06_Has.cx k) ref06_Has.rs) n ⟨[(2, .ref 2 []), (3, .ref 3 []), (5, .dat (.int .i64) x5)], [(2, .dat tDots m2), (3, .dat tDot m3)]⟩
theorem ref06_Has.f_eq (k : Nat) (a0 : Ty.D tDots) (a1 : Ty.D tDot) : ref06_Has.f k a0 a1 = bnd (ref05_Has.f k a0.1 a1) fun r0 => br r0 (some true) (ref06_Has.l4 k k 0 a0 a1) := by kernel_rfl
theorem ref06_Has.l4_eq (k : Nat) (n4 : Nat) (x5 : Ty.D (.int .i64)) (m2 : Ty.D tDots) (m3 : Ty.D tDot) : ref06_Has.l4 k (n4 + 1) x5 m2 m3 = br (ilt x5 (ilen m2.2)) (br (inL x5 m2.2) (br (deq tDot (rd tDot m2.2 (natOf x5)) m3) (some true) (ref06_Has.l4 k n4 (iadd .i64 x5 1) m2 m3)) none) (some false) := by kernel_rfl
noncomputable def ref06_Has.e (k : Nat) : Entry := Sg.entry ref06_Has.sg fun x => ref06_Has.f k x.1 x.2
theorem ref06_Has.ok (k : Nat) : CallOK Tryz.prog 83 (ref06_Has.e k) := fn_ok (c := ref06_Has.cx k) (code := ref06_Has.body) (TT.of tt_ok pp_ok mm_ok) (fns_ok ⟨(ref05_Has.ok k), trivial⟩) mixed Tryz.func83 (by kernel_rfl) (by kernel_rfl) (by kernel_rfl) (by kernel_rfl) (by kernel_rfl) (by kernel_rfl) (fun x => by kernel_rfl)
noncomputable def ref06_filled.body : Go.Code := Tryz.f84.body.getD .skip
noncomputable def ref06_filled.rs : List Go.ResultVar := Tryz.f84.results.toList
def ref06_filled.regs : List (Nat × RInfo) := [(0, ⟨[1, 2], [1, 2], [0], [], 0, [], [], [], [], []⟩), (1, ⟨[1, 2, 3], [1, 2, 3], [4], [], 0, [], [], [], [], []⟩), (2, ri [1,2,3,4] [1,2,3]), (3, ⟨[1, 2, 3, 4, 13], [1, 2, 3], [], [], 0, [1, 2, 3, 4], [1, 2, 3], [], [], []⟩), (5, ri [1,2,3,4,5] [1,2,3,5]), (6, rq [1,2,3,4,5,29] [1,2,3,5] 9), (7, ri [1,2,3,4] [1,2,3]), (8, rq [1,2,3,4,5,43] [1,2,3,5] 8), (9, ⟨[1, 2, 3, 4], [1, 2, 3], [1, 4, 6], [], 0, [], [], [], [], []⟩), (4, ri [1,2,3,4] [1,2,3]), (10, ⟨[2], [2], [1], [], 0, [], [], [], [], []⟩)]
noncomputable def ref06_filled.cx (k : Nat) : Cx := ⟨tt, pp, [], ref06_filled.regs, k, mm⟩
@[reducible] def ref06_filled.sg : Sg := ⟨[.dat tDots], [], .dat tDots, []⟩
noncomputable def ref06_filled.f (k : Nat) (a0 : Ty.D tDots) : Option (Sg.Out ref06_filled.sg) := Sg.fn ref06_filled.sg (ref06_filled.cx k) ref06_filled.body ref06_filled.rs a0
noncomputable def ref06_filled.l3 (k : Nat) (n : Nat) (x4 : Ty.D (.int .i64)) (m1 : Ty.D tDots) (m2a : Ty.D tVec) (m2b : List (Ty.D tDot)) (m3a : Ty.D tVec) (m3b : List (Ty.D tDot)) : Option (Sg.Out ref06_filled.sg) := loopAt (ref06_filled.cx k) ref06_filled.body [1, 1, 0, 1, 0] 3 [1, 2, 3, 4] [1, 2, 3] [] (Sg.K ref06_filled.sg (ref06_filled.cx k) ref06_filled.rs) n ⟨[(1, .ref 1 []), (2, .ref 2 []), (3, .ref 3 []), (4, .dat (.int .i64) x4)], [(1, .dat tDots m1), (2, .pr (.dat tVec m2a) (.own tDot m2b)), (3, .pr (.dat tVec m3a) (.own tDot m3b))]⟩
theorem ref06_filled.f_eq (k : Nat) (a0 : Ty.D tDots) : ref06_filled.f k a0 = ref06_filled.l3 k k 0 a0 (zarr 16 0) [] a0.1 [] := by kernel_rfl
theorem ref06_filled.l3_eq (k : Nat) (n3 : Nat) (x4 : Ty.D (.int .i64)) (m1 : Ty.D tDots) (m2a : Ty.D tVec) (m2b : List (Ty.D tDot)) (m3a : Ty.D tVec) (m3b : List (Ty.D tDot)) : ref06_filled.l3 k (n3 + 1) x4 m1 m2a m2b m3a m3b = br (ilt x4 (ilen m1.2)) (br (inL x4 m1.2) (br (inB ((rd tDot m1.2 (natOf x4)).1) 16) (br (ieq ((rd tDot m1.2 (natOf x4)).2) (iadd .i64 (rd (.int .i64) m3a (natOf ((rd tDot m1.2 (natOf x4)).1))) 1)) (br (inB ((rd tDot m1.2 (natOf x4)).1) 16) (ref06_filled.l3 k n3 (iadd .i64 x4 1) m1 m2a m2b (upd m3a (natOf ((rd tDot m1.2 (natOf x4)).1)) ((rd tDot m1.2 (natOf x4)).2)) m3b) none) (br (inB ((rd tDot m1.2 (natOf x4)).1) 16) (br (ilt (rd (.int .i64) m3a (natOf ((rd tDot m1.2 (natOf x4)).1))) ((rd tDot m1.2 (natOf x4)).2)) (br (room m3b ((rd tDot m1.2 (natOf x4)) :: [])) (ref06_filled.l3 k n3 (iadd .i64 x4 1) m1 m2a m2b m3a (app m3b ((rd tDot m1.2 (natOf x4)) :: []))) none) (ref06_filled.l3 k n3 (iadd .i64 x4 1) m1 m2a m2b m3a m3b)) none)) none) none) (some (m3a, m3b)) := by kernel_rfl
noncomputable def ref06_filled.e (k : Nat) : Entry := Sg.entry ref06_filled.sg fun x => ref06_filled.f k x
theorem ref06_filled.ok (k : Nat) : CallOK Tryz.prog 84 (ref06_filled.e k) := fn_ok (c := ref06_filled.cx k) (code := ref06_filled.body) (TT.of tt_ok pp_ok mm_ok) (fns_ok trivial) mixed Tryz.func84 (by kernel_rfl) (by kernel_rfl) (by kernel_rfl) (by kernel_rfl) (by kernel_rfl) (by kernel_rfl) (fun x => by kernel_rfl)
noncomputable def ref06_Put.body : Go.Code := Tryz.f41.body.getD .skip
noncomputable def ref06_Put.rs : List Go.ResultVar := Tryz.f41.results.toList
def ref06_Put.regs : List (Nat × RInfo) := [(0, ⟨[2, 3, 4], [2, 3, 4], [0], [], 0, [], [], [], [], []⟩), (1, ri [2,3,4,15] [2,3,4,14]), (2, ⟨[4], [4], [1], [], 0, [], [], [], [], []⟩), (3, ri [2,3,4,5] [2,3,4]), (4, ri [2,3,4,5,6] [2,3,4]), (5, ri [2,3,4,5,6,7] [2,3,4]), (6, ⟨[2, 3, 4, 5, 6, 7, 21], [2, 3, 4], [], [], 0, [2, 3, 4, 5, 6, 7], [2, 3, 4], [], [], []⟩), (8, rq [2,3,4,5,6,7,35] [2,3,4] 12), (9, ⟨[2, 3, 4, 5, 7], [2, 3, 4], [0, 3, 4], [], 0, [], [], [], [], []⟩), (10, ri [2,3,4,5,6,7] [2,3,4]), (11, ⟨[2, 3, 4, 5, 6, 7], [2, 3, 4], [0, 7, 8], [], 0, [], [], [], [], []⟩), (7, ri [2,3,4,5,6,7] [2,3,4]), (12, ri [2,3,4,5,49] [2,3,4]), (13, ⟨[2, 4, 5], [2, 4], [0, 3, 4], [], 0, [], [], [], [], []⟩), (14, ⟨[4], [4], [5], [], 0, [], [], [], [], []⟩)]
noncomputable def ref06_Put.cx (k : Nat) : Cx := ⟨tt, pp, [(20, (ref04_Right.e k)), (83, (ref06_Has.e k)), (51, (ref04_Compare.e k)), (84, (ref06_filled.e k))], ref06_Put.regs, k, mm⟩
@[reducible] def ref06_Put.sg : Sg := ⟨[.dat tDots, .dat tDot], [], .dat tDots, []⟩
noncomputable def ref06_Put.f (k : Nat) (a0 : Ty.D tDots) (a1 : Ty.D tDot) : Option (Sg.Out ref06_Put.sg) := Sg.fn ref06_Put.sg (ref06_Put.cx k) ref06_Put.body ref06_Put.rs (a0, a1)
noncomputable def ref06_Put.l6 (k : Nat) (n : Nat) (x5 : List (Ty.D tDot)) (x6 : Ty.D .bool) (x7 : Ty.D (.int .i64)) (m2 : Ty.D tDots) (m3 : Ty.D tDot) (m4a : Ty.D tVec) (m4b : List (Ty.D tDot)) : Option (Sg.Out ref06_Put.sg) := loopAt (ref06_Put.cx k) ref06_Put.body [1, 1, 1, 1, 0, 1, 0] 6 [2, 3, 4, 5, 6, 7] [2, 3, 4] [] (Sg.K ref06_Put.sg (ref06_Put.cx k) ref06_Put.rs) n ⟨[(2, .ref 2 []), (3, .ref 3 []), (4, .ref 4 []), (5, .own tDot x5), (6, .dat .bool x6), (7, .dat (.int .i64) x7)], [(2, .dat tDots m2), (3, .dat tDot m3), (4, .pr (.dat tVec m4a) (.own tDot m4b))]⟩
theorem ref06_Put.f_eq (k : Nat) (a0 : Ty.D tDots) (a1 : Ty.D tDot) : ref06_Put.f k a0 a1 = bnd (ref04_Right.f k a1) fun r0 => br (bnot r0) (some a0) (bnd (ref06_Has.f k a0 a1) fun r1 => br r1 (some a0) (ref06_Put.l6 k k [] false 0 a0 a1 (zarr 16 0) [])) := by kernel_rfl
theorem ref06_Put.l6_eq (k : Nat) (n6 : Nat) (x5 : List (Ty.D tDot)) (x6 : Ty.D .bool) (x7 : Ty.D (.int .i64)) (m2 : Ty.D tDots) (m3 : Ty.D tDot) (m4a : Ty.D tVec) (m4b : List (Ty.D tDot)) : ref06_Put.l6 k (n6 + 1) x5 x6 x7 m2 m3 m4a m4b = br (ilt x7 (ilen m2.2)) (br (bnot x6) (br (inL x7 m2.2) (bnd (ref04_Compare.f k m3 (rd tDot m2.2 (natOf x7))) fun r0 => br (ilt r0 0) (br (room x5 (m3 :: [])) (br (inL x7 m2.2) (br (room (app x5 (m3 :: [])) ((rd tDot m2.2 (natOf x7)) :: [])) (ref06_Put.l6 k n6 (app (app x5 (m3 :: [])) ((rd tDot m2.2 (natOf x7)) :: [])) true (iadd .i64 x7 1) m2 m3 m4a m4b) none) none) none) (br (inL x7 m2.2) (br (room x5 ((rd tDot m2.2 (natOf x7)) :: [])) (ref06_Put.l6 k n6 (app x5 ((rd tDot m2.2 (natOf x7)) :: [])) x6 (iadd .i64 x7 1) m2 m3 m4a m4b) none) none)) none) (br (inL x7 m2.2) (br (room x5 ((rd tDot m2.2 (natOf x7)) :: [])) (ref06_Put.l6 k n6 (app x5 ((rd tDot m2.2 (natOf x7)) :: [])) x6 (iadd .i64 x7 1) m2 m3 m4a m4b) none) none)) (br (bnot x6) (br (room x5 (m3 :: [])) (bnd (ref06_filled.f k (m2.1, (app x5 (m3 :: [])))) fun r1 => some r1) none) (bnd (ref06_filled.f k (m2.1, x5)) fun r2 => some r2)) := by kernel_rfl
noncomputable def ref06_Put.e (k : Nat) : Entry := Sg.entry ref06_Put.sg fun x => ref06_Put.f k x.1 x.2
theorem ref06_Put.ok (k : Nat) : CallOK Tryz.prog 41 (ref06_Put.e k) := fn_ok (c := ref06_Put.cx k) (code := ref06_Put.body) (TT.of tt_ok pp_ok mm_ok) (fns_ok ⟨(ref04_Right.ok k), (ref06_Has.ok k), (ref04_Compare.ok k), (ref06_filled.ok k), trivial⟩) mixed Tryz.func41 (by kernel_rfl) (by kernel_rfl) (by kernel_rfl) (by kernel_rfl) (by kernel_rfl) (by kernel_rfl) (fun x => by kernel_rfl)
noncomputable def ref22_Known.body : Go.Code := Tryz.f45.body.getD .skip
noncomputable def ref22_Known.rs : List Go.ResultVar := Tryz.f45.results.toList
def ref22_Known.regs : List (Nat × RInfo) := [(0, ri [0,2] [2]), (1, ⟨[0, 2, 3], [2, 3], [2], [], 0, [], [], [], [], []⟩), (2, ri [0,2,3,4] [2,3]), (3, ⟨[0, 2, 3, 4, 9], [2, 3], [], [], 0, [0, 2, 10000003, 4], [2, 10000003], [], [], []⟩), (5, ⟨[0, 2, 3, 4], [2, 3], [7], [], 7, [], [], [], [[], [], [], [], [], [], [0, 5], [0, 5]], []⟩), (4, ri [0,2,3,4] [2,3]), (6, ⟨[2], [2], [1], [], 0, [], [], [], [], []⟩)]
noncomputable def ref22_Known.cx (k : Nat) : Cx := ⟨tt, pp, [(41, (ref06_Put.e k))], ref22_Known.regs, k, mm⟩
@[reducible] def ref22_Known.sg : Sg := ⟨[.dat (.slc tTxn)], [], .dat tDots, []⟩
noncomputable def ref22_Known.f (k : Nat) (a0 : Ty.D (.slc tTxn)) : Option (Sg.Out ref22_Known.sg) := Sg.fn ref22_Known.sg (ref22_Known.cx k) ref22_Known.body ref22_Known.rs a0
noncomputable def ref22_Known.l3 (k : Nat) (n : Nat) (x0 : Ty.D (.slc tTxn)) (x4 : Ty.D (.int .i64)) (m2a : Ty.D tVec) (m2b : List (Ty.D tDot)) (m3 : Ty.D tDots) : Option (Sg.Out ref22_Known.sg) := loopAt (ref22_Known.cx k) ref22_Known.body [1, 1, 0, 1, 0] 3 [0, 2, 10000003, 4] [2, 10000003] [] (Sg.K ref22_Known.sg (ref22_Known.cx k) ref22_Known.rs) n ⟨[(0, .dat (.slc tTxn) x0), (2, .ref 2 []), (3, .ref 3 []), (4, .dat (.int .i64) x4)], [(2, .pr (.dat tVec m2a) (.own tDot m2b)), (3, .dat tDots m3)]⟩
theorem ref22_Known.f_eq (k : Nat) (a0 : Ty.D (.slc tTxn)) : ref22_Known.f k a0 = ref22_Known.l3 k k a0 0 (zarr 16 0) [] ((zarr 16 0), []) := by kernel_rfl
theorem ref22_Known.l3_eq (k : Nat) (n3 : Nat) (x0 : Ty.D (.slc tTxn)) (x4 : Ty.D (.int .i64)) (m2a : Ty.D tVec) (m2b : List (Ty.D tDot)) (m3 : Ty.D tDots) : ref22_Known.l3 k (n3 + 1) x0 x4 m2a m2b m3 = br (ilt x4 (ilen x0)) (br (inL x4 x0) (bnd (ref06_Put.f k m3 ((rd tTxn x0 (natOf x4)).1)) fun r0 => ref22_Known.l3 k n3 x0 (iadd .i64 x4 1) m2a m2b r0) none) (some m3) := by kernel_rfl
noncomputable def ref22_Known.e (k : Nat) : Entry := Sg.entry ref22_Known.sg fun x => ref22_Known.f k x
theorem ref22_Known.ok (k : Nat) : CallOK Tryz.prog 45 (ref22_Known.e k) := fn_ok (c := ref22_Known.cx k) (code := ref22_Known.body) (TT.of tt_ok pp_ok mm_ok) (fns_ok ⟨(ref06_Put.ok k), trivial⟩) mixed Tryz.func45 (by kernel_rfl) (by kernel_rfl) (by kernel_rfl) (by kernel_rfl) (by kernel_rfl) (by kernel_rfl) (fun x => by kernel_rfl)
noncomputable def ref04_Same.body : Go.Code := Tryz.f35.body.getD .skip
noncomputable def ref04_Same.rs : List Go.ResultVar := Tryz.f35.results.toList
def ref04_Same.regs : List (Nat × RInfo) := [(0, ri [0,1] []), (1, ri [0,1,10] []), (2, ri [4] []), (3, ri [0,1,5] []), (4, ⟨[0, 1, 5, 14], [], [], [], 0, [0, 1, 5], [], [], [], []⟩), (6, rq [0,1,5,25] [] 9), (7, ri [4] []), (5, ri [0,1,5] []), (8, ri [4] [])]
noncomputable def ref04_Same.cx (k : Nat) : Cx := ⟨tt, pp, [], ref04_Same.regs, k, mm⟩
@[reducible] def ref04_Same.sg : Sg := ⟨[.dat (.slc tDot), .dat (.slc tDot)], [], .dat .bool, []⟩
noncomputable def ref04_Same.f (k : Nat) (a0 : Ty.D (.slc tDot)) (a1 : Ty.D (.slc tDot)) : Option (Sg.Out ref04_Same.sg) := Sg.fn ref04_Same.sg (ref04_Same.cx k) ref04_Same.body ref04_Same.rs (a0, a1)
noncomputable def ref04_Same.l4 (k : Nat) (n : Nat) (x0 : Ty.D (.slc tDot)) (x1 : Ty.D (.slc tDot)) (x5 : Ty.D (.int .i64)) : Option (Sg.Out ref04_Same.sg) := loopAt (ref04_Same.cx k) ref04_Same.body [1, 1, 0, 1, 0] 4 [0, 1, 5] [] [] (Sg.K ref04_Same.sg (ref04_Same.cx k) ref04_Same.rs) n ⟨[(0, .dat (.slc tDot) x0), (1, .dat (.slc tDot) x1), (5, .dat (.int .i64) x5)], []⟩
theorem ref04_Same.f_eq (k : Nat) (a0 : Ty.D (.slc tDot)) (a1 : Ty.D (.slc tDot)) : ref04_Same.f k a0 a1 = br (bnot (ieq (ilen a0) (ilen a1))) (some false) (ref04_Same.l4 k k a0 a1 0) := by kernel_rfl
theorem ref04_Same.l4_eq (k : Nat) (n4 : Nat) (x0 : Ty.D (.slc tDot)) (x1 : Ty.D (.slc tDot)) (x5 : Ty.D (.int .i64)) : ref04_Same.l4 k (n4 + 1) x0 x1 x5 = br (ilt x5 (ilen x0)) (br (inL x5 x0) (br (inL x5 x1) (br (bnot (deq tDot (rd tDot x0 (natOf x5)) (rd tDot x1 (natOf x5)))) (some false) (ref04_Same.l4 k n4 x0 x1 (iadd .i64 x5 1))) none) none) (some true) := by kernel_rfl
noncomputable def ref04_Same.e (k : Nat) : Entry := Sg.entry ref04_Same.sg fun x => ref04_Same.f k x.1 x.2
theorem ref04_Same.ok (k : Nat) : CallOK Tryz.prog 35 (ref04_Same.e k) := fn_ok (c := ref04_Same.cx k) (code := ref04_Same.body) (TT.of tt_ok pp_ok mm_ok) (fns_ok trivial) mixed Tryz.func35 (by kernel_rfl) (by kernel_rfl) (by kernel_rfl) (by kernel_rfl) (by kernel_rfl) (by kernel_rfl) (fun x => by kernel_rfl)
noncomputable def ref06_Same.body : Go.Code := Tryz.f38.body.getD .skip
noncomputable def ref06_Same.rs : List Go.ResultVar := Tryz.f38.results.toList
def ref06_Same.regs : List (Nat × RInfo) := [(0, ⟨[2, 3], [2, 3], [0, 1], [], 0, [], [], [], [], []⟩), (1, ri [4] [15])]
noncomputable def ref06_Same.cx (k : Nat) : Cx := ⟨tt, pp, [(35, (ref04_Same.e k))], ref06_Same.regs, k, mm⟩
@[reducible] def ref06_Same.sg : Sg := ⟨[.dat tDots, .dat tDots], [], .dat .bool, []⟩
noncomputable def ref06_Same.f (k : Nat) (a0 : Ty.D tDots) (a1 : Ty.D tDots) : Option (Sg.Out ref06_Same.sg) := Sg.fn ref06_Same.sg (ref06_Same.cx k) ref06_Same.body ref06_Same.rs (a0, a1)
theorem ref06_Same.f_eq (k : Nat) (a0 : Ty.D tDots) (a1 : Ty.D tDots) : ref06_Same.f k a0 a1 = br (deq tVec a0.1 a1.1) (bnd (ref04_Same.f k a0.2 a1.2) fun r0 => some r0) (some false) := by kernel_rfl
noncomputable def ref06_Same.e (k : Nat) : Entry := Sg.entry ref06_Same.sg fun x => ref06_Same.f k x.1 x.2
theorem ref06_Same.ok (k : Nat) : CallOK Tryz.prog 38 (ref06_Same.e k) := fn_ok (c := ref06_Same.cx k) (code := ref06_Same.body) (TT.of tt_ok pp_ok mm_ok) (fns_ok ⟨(ref04_Same.ok k), trivial⟩) mixed Tryz.func38 (by kernel_rfl) (by kernel_rfl) (by kernel_rfl) (by kernel_rfl) (by kernel_rfl) (by kernel_rfl) (fun x => by kernel_rfl)
noncomputable def ref22_Right.body : Go.Code := Tryz.f17.body.getD .skip
noncomputable def ref22_Right.rs : List Go.ResultVar := Tryz.f17.results.toList
def ref22_Right.regs : List (Nat × RInfo) := [(0, ⟨[1], [1], [0], [], 0, [], [], [], [], []⟩), (1, ri [1,27] [1]), (2, ri [2] [72,79]), (3, ri [1,3] [1]), (4, ⟨[1, 3, 32], [1], [], [], 0, [1, 3], [1], [], [], []⟩), (6, ri [1,3,41] [1]), (7, ri [2] [72,79]), (5, ri [1,3] [1]), (8, ri [1,4] [1]), (9, ⟨[1, 4, 43], [1], [], [], 0, [1, 4], [1], [], [], []⟩), (11, ri [1,4,51] [1]), (12, ri [2] [72,79]), (13, ri [1,4,5] [1]), (14, ⟨[1, 4, 5, 58], [1], [], [], 0, [1, 4, 5], [1], [], [], []⟩), (16, ri [1,4,5,69] [1]), (17, ri [2] [72,79]), (15, ri [1,4,5] [1]), (10, ri [1,4] [1]), (18, rq [2] [72,79] 11)]
noncomputable def ref22_Right.cx (k : Nat) : Cx := ⟨tt, pp, [(43, (ref12_Rises.e k)), (23, (ref08_Right.e k)), (44, (ref06_Right.e k)), (7, (ref12_Check.e k)), (20, (ref04_Right.e k)), (45, (ref22_Known.e k)), (38, (ref06_Same.e k))], ref22_Right.regs, k, mm⟩
@[reducible] def ref22_Right.sg : Sg := ⟨[.dat tState], [], .dat .bool, []⟩
noncomputable def ref22_Right.f (k : Nat) (a0 : Ty.D tState) : Option (Sg.Out ref22_Right.sg) := Sg.fn ref22_Right.sg (ref22_Right.cx k) ref22_Right.body ref22_Right.rs a0
noncomputable def ref22_Right.l4 (k : Nat) (n : Nat) (x3 : Ty.D (.int .i64)) (m1 : Ty.D tState) : Option (Sg.Out ref22_Right.sg) := loopAt (ref22_Right.cx k) ref22_Right.body [1, 1, 0, 1, 0] 4 [1, 3] [1] [] (Sg.K ref22_Right.sg (ref22_Right.cx k) ref22_Right.rs) n ⟨[(1, .ref 1 []), (3, .dat (.int .i64) x3)], [(1, .dat tState m1)]⟩
noncomputable def ref22_Right.l9 (k : Nat) (n : Nat) (x4 : Ty.D (.int .i64)) (m1 : Ty.D tState) : Option (Sg.Out ref22_Right.sg) := loopAt (ref22_Right.cx k) ref22_Right.body [1, 1, 1, 0, 1, 0] 9 [1, 4] [1] [] (Sg.K ref22_Right.sg (ref22_Right.cx k) ref22_Right.rs) n ⟨[(1, .ref 1 []), (4, .dat (.int .i64) x4)], [(1, .dat tState m1)]⟩
noncomputable def ref22_Right.l14 (k : Nat) (n9 : Nat) (n : Nat) (x4 : Ty.D (.int .i64)) (x5 : Ty.D (.int .i64)) (m1 : Ty.D tState) : Option (Sg.Out ref22_Right.sg) := loopAt (ref22_Right.cx k) ref22_Right.body [1, 1, 1, 0, 1, 0, 0, 1, 0, 0, 1, 1, 0] 14 [1, 4, 5] [1] [n9] (Sg.K ref22_Right.sg (ref22_Right.cx k) ref22_Right.rs) n ⟨[(1, .ref 1 []), (4, .dat (.int .i64) x4), (5, .dat (.int .i64) x5)], [(1, .dat tState m1)]⟩
theorem ref22_Right.f_eq (k : Nat) (a0 : Ty.D tState) : ref22_Right.f k a0 = br (ilt 1000 (ilen a0.1)) (some false) (bnd (ref12_Rises.f k a0.1) fun r0 => br (bnot r0) (some false) (bnd (ref08_Right.f k a0.2.1) fun r1 => br (bnot r1) (some false) (bnd (ref06_Right.f k a0.2.2.2.1) fun r2 => br (bnot r2) (some false) (ref22_Right.l4 k k 0 a0)))) := by kernel_rfl
theorem ref22_Right.l4_eq (k : Nat) (n4 : Nat) (x3 : Ty.D (.int .i64)) (m1 : Ty.D tState) : ref22_Right.l4 k (n4 + 1) x3 m1 = br (ilt x3 (ilen m1.1)) (br (inL x3 m1.1) (bnd (ref12_Check.f k (rd tTxn m1.1 (natOf x3))) fun r0 => br (bnot (ieq r0 0)) (some false) (ref22_Right.l4 k n4 (iadd .i64 x3 1) m1)) none) (ref22_Right.l9 k k 0 m1) := by kernel_rfl
theorem ref22_Right.l9_eq (k : Nat) (n9 : Nat) (x4 : Ty.D (.int .i64)) (m1 : Ty.D tState) : ref22_Right.l9 k (n9 + 1) x4 m1 = br (ilt x4 8) (br (inB x4 8) (br (ilt 1000 (ilen (rd (.slc tDot) m1.2.2.2.2 (natOf x4)))) (some false) (ref22_Right.l14 k n9 k x4 0 m1)) none) (bnd (ref06_Right.f k m1.2.2.1) fun r0 => br r0 (bnd (ref22_Known.f k m1.1) fun r1 => bnd (ref06_Same.f k m1.2.2.1 r1) fun r2 => some r2) (some false)) := by kernel_rfl
theorem ref22_Right.l14_eq (k : Nat) (n9 : Nat) (n14 : Nat) (x4 : Ty.D (.int .i64)) (x5 : Ty.D (.int .i64)) (m1 : Ty.D tState) : ref22_Right.l14 k n9 (n14 + 1) x4 x5 m1 = br (inB x4 8) (br (ilt x5 (ilen (rd (.slc tDot) m1.2.2.2.2 (natOf x4)))) (br (inB x4 8) (br (inL x5 (rd (.slc tDot) m1.2.2.2.2 (natOf x4))) (bnd (ref04_Right.f k (rd tDot (rd (.slc tDot) m1.2.2.2.2 (natOf x4)) (natOf x5))) fun r0 => br (bnot r0) (some false) (ref22_Right.l14 k n9 n14 x4 (iadd .i64 x5 1) m1)) none) none) (ref22_Right.l9 k n9 (iadd .i64 x4 1) m1)) none := by kernel_rfl
noncomputable def ref22_Right.e (k : Nat) : Entry := Sg.entry ref22_Right.sg fun x => ref22_Right.f k x
theorem ref22_Right.ok (k : Nat) : CallOK Tryz.prog 17 (ref22_Right.e k) := fn_ok (c := ref22_Right.cx k) (code := ref22_Right.body) (TT.of tt_ok pp_ok mm_ok) (fns_ok ⟨(ref12_Rises.ok k), (ref08_Right.ok k), (ref06_Right.ok k), (ref12_Check.ok k), (ref04_Right.ok k), (ref22_Known.ok k), (ref06_Same.ok k), trivial⟩) mixed Tryz.func17 (by kernel_rfl) (by kernel_rfl) (by kernel_rfl) (by kernel_rfl) (by kernel_rfl) (by kernel_rfl) (fun x => by kernel_rfl)
noncomputable def ref22_Good.body : Go.Code := Tryz.f5.body.getD .skip
noncomputable def ref22_Good.rs : List Go.ResultVar := Tryz.f5.results.toList
def ref22_Good.regs : List (Nat × RInfo) := [(0, ⟨[1], [1], [0], [], 0, [], [], [], [], []⟩), (1, ri [2] [4,7])]
noncomputable def ref22_Good.cx (k : Nat) : Cx := ⟨tt, pp, [(18, (ref22_Short.e k)), (17, (ref22_Right.e k))], ref22_Good.regs, k, mm⟩
@[reducible] def ref22_Good.sg : Sg := ⟨[.dat tState], [], .dat .bool, []⟩
noncomputable def ref22_Good.f (k : Nat) (a0 : Ty.D tState) : Option (Sg.Out ref22_Good.sg) := Sg.fn ref22_Good.sg (ref22_Good.cx k) ref22_Good.body ref22_Good.rs a0
theorem ref22_Good.f_eq (k : Nat) (a0 : Ty.D tState) : ref22_Good.f k a0 = bnd (ref22_Short.f k a0) fun r0 => br r0 (bnd (ref22_Right.f k a0) fun r1 => some r1) (some false) := by kernel_rfl
noncomputable def ref22_Good.e (k : Nat) : Entry := Sg.entry ref22_Good.sg fun x => ref22_Good.f k x
theorem ref22_Good.ok (k : Nat) : CallOK Tryz.prog 5 (ref22_Good.e k) := fn_ok (c := ref22_Good.cx k) (code := ref22_Good.body) (TT.of tt_ok pp_ok mm_ok) (fns_ok ⟨(ref22_Short.ok k), (ref22_Right.ok k), trivial⟩) mixed Tryz.func5 (by kernel_rfl) (by kernel_rfl) (by kernel_rfl) (by kernel_rfl) (by kernel_rfl) (by kernel_rfl) (fun x => by kernel_rfl)
noncomputable def ref08_Good.body : Go.Code := Tryz.f8.body.getD .skip
noncomputable def ref08_Good.rs : List Go.ResultVar := Tryz.f8.results.toList
def ref08_Good.regs : List (Nat × RInfo) := [(0, ri [0] []), (1, ri [2] [8])]
noncomputable def ref08_Good.cx (k : Nat) : Cx := ⟨tt, pp, [(23, (ref08_Right.e k))], ref08_Good.regs, k, mm⟩
@[reducible] def ref08_Good.sg : Sg := ⟨[.dat (.slc tUndo)], [], .dat .bool, []⟩
noncomputable def ref08_Good.f (k : Nat) (a0 : Ty.D (.slc tUndo)) : Option (Sg.Out ref08_Good.sg) := Sg.fn ref08_Good.sg (ref08_Good.cx k) ref08_Good.body ref08_Good.rs a0
theorem ref08_Good.f_eq (k : Nat) (a0 : Ty.D (.slc tUndo)) : ref08_Good.f k a0 = br (ile (ilen a0) 100) (bnd (ref08_Right.f k a0) fun r0 => some r0) (some false) := by kernel_rfl
noncomputable def ref08_Good.e (k : Nat) : Entry := Sg.entry ref08_Good.sg fun x => ref08_Good.f k x
theorem ref08_Good.ok (k : Nat) : CallOK Tryz.prog 8 (ref08_Good.e k) := fn_ok (c := ref08_Good.cx k) (code := ref08_Good.body) (TT.of tt_ok pp_ok mm_ok) (fns_ok ⟨(ref08_Right.ok k), trivial⟩) mixed Tryz.func8 (by kernel_rfl) (by kernel_rfl) (by kernel_rfl) (by kernel_rfl) (by kernel_rfl) (by kernel_rfl) (fun x => by kernel_rfl)
noncomputable def law22_one.body : Go.Code := Tryz.f24.body.getD .skip
noncomputable def law22_one.rs : List Go.ResultVar := Tryz.f24.results.toList
def law22_one.regs : List (Nat × RInfo) := [(0, ri [0,2] [2]), (1, ⟨[2], [2], [7], [], 0, [], [], [], [], []⟩)]
noncomputable def law22_one.cx (k : Nat) : Cx := ⟨tt, pp, [], law22_one.regs, k, mm⟩
@[reducible] def law22_one.sg : Sg := ⟨[.dat (.int .i64)], [], .dat tTxn, []⟩
noncomputable def law22_one.f (k : Nat) (a0 : Ty.D (.int .i64)) : Option (Sg.Out law22_one.sg) := Sg.fn law22_one.sg (law22_one.cx k) law22_one.body law22_one.rs a0
noncomputable def law22_one.e (k : Nat) : Entry := Sg.entry law22_one.sg fun x => law22_one.f k x
theorem law22_one.ok (k : Nat) : CallOK Tryz.prog 24 (law22_one.e k) := fn_ok (c := law22_one.cx k) (code := law22_one.body) (TT.of tt_ok pp_ok mm_ok) (fns_ok trivial) mixed Tryz.func24 (by kernel_rfl) (by kernel_rfl) (by kernel_rfl) (by kernel_rfl) (by kernel_rfl) (by kernel_rfl) (fun x => by kernel_rfl)
noncomputable def txn_Find_1.body : Go.Code := Tryz.f66.body.getD .skip
noncomputable def txn_Find_1.rs : List Go.ResultVar := Tryz.f66.results.toList
def txn_Find_1.regs : List (Nat × RInfo) := [(0, ⟨[2, 3], [2, 3], [0], [], 0, [], [], [], [], []⟩), (1, ri [4] [8])]
noncomputable def txn_Find_1.cx (k : Nat) : Cx := ⟨tt, pp, [(67, (dot_Compare.e k))], txn_Find_1.regs, k, mm⟩
@[reducible] def txn_Find_1.sg : Sg := ⟨[.dat tTxn, .dat tDot], [], .dat (.int .i64), []⟩
noncomputable def txn_Find_1.f (k : Nat) (a0 : Ty.D tTxn) (a1 : Ty.D tDot) : Option (Sg.Out txn_Find_1.sg) := Sg.fn txn_Find_1.sg (txn_Find_1.cx k) txn_Find_1.body txn_Find_1.rs (a0, a1)
theorem txn_Find_1.f_eq (k : Nat) (a0 : Ty.D tTxn) (a1 : Ty.D tDot) : txn_Find_1.f k a0 a1 = bnd (dot_Compare.f k a0.1 a1) fun r0 => some r0 := by kernel_rfl
noncomputable def txn_Find_1.e (k : Nat) : Entry := Sg.entry txn_Find_1.sg fun x => txn_Find_1.f k x.1 x.2
theorem txn_Find_1.ok (k : Nat) : CallOK Tryz.prog 66 (txn_Find_1.e k) := fn_ok (c := txn_Find_1.cx k) (code := txn_Find_1.body) (TT.of tt_ok pp_ok mm_ok) (fns_ok ⟨(dot_Compare.ok k), trivial⟩) mixed Tryz.func66 (by kernel_rfl) (by kernel_rfl) (by kernel_rfl) (by kernel_rfl) (by kernel_rfl) (by kernel_rfl) (fun x => by kernel_rfl)
noncomputable def slices_BinarySearchFunc_api_Txn_api_Txn_api_Dot_txn_Find_1.body : Go.Code := Tryz.f65.body.getD .skip
noncomputable def slices_BinarySearchFunc_api_Txn_api_Txn_api_Dot_txn_Find_1.rs : List Go.ResultVar := Tryz.f65.results.toList
def slices_BinarySearchFunc_api_Txn_api_Txn_api_Dot_txn_Find_1.regs : List (Nat × RInfo) := [(0, ri [0,2,4] [4]), (1, ri [0,2,4,8] [4]), (2, ri [0,2,4,8,9,10] [4]), (3, ⟨[0, 2, 4, 8, 9, 10, 17], [4], [], [], 0, [0, 2, 4, 8, 9, 10], [4], [], [], []⟩), (4, ri [0,2,4,8,9,10,11] [4]), (5, ⟨[0, 2, 4, 8, 9, 10, 11, 31], [4], [], [], 8, [], [], [], [[], [], [], [], [], [], [4, 5], [6, 4, 5]], []⟩), (6, ri [0,2,4,8,9,10] [4]), (7, ri [0,2,4,8,9,10] [4]), (8, ⟨[6, 7], [], [], [], 15, [], [], [], [[], [], [], [], [], [], [], [], [], [], [], [9, 10], [11, 9, 10], [11, 9, 10], [11, 9, 10], [11, 9, 10]], []⟩)]
noncomputable def slices_BinarySearchFunc_api_Txn_api_Txn_api_Dot_txn_Find_1.cx (k : Nat) : Cx := ⟨tt, pp, [(66, (txn_Find_1.e k))], slices_BinarySearchFunc_api_Txn_api_Txn_api_Dot_txn_Find_1.regs, k, mm⟩
@[reducible] def slices_BinarySearchFunc_api_Txn_api_Txn_api_Dot_txn_Find_1.sg : Sg := ⟨[.dat (.slc tTxn), .dat tDot, .fn 66 0], [], .t2 (.dat (.int .i64)) (.dat .bool), []⟩
noncomputable def slices_BinarySearchFunc_api_Txn_api_Txn_api_Dot_txn_Find_1.f (k : Nat) (a0 : Ty.D (.slc tTxn)) (a1 : Ty.D tDot) : Option (Sg.Out slices_BinarySearchFunc_api_Txn_api_Txn_api_Dot_txn_Find_1.sg) := Sg.fn slices_BinarySearchFunc_api_Txn_api_Txn_api_Dot_txn_Find_1.sg (slices_BinarySearchFunc_api_Txn_api_Txn_api_Dot_txn_Find_1.cx k) slices_BinarySearchFunc_api_Txn_api_Txn_api_Dot_txn_Find_1.body slices_BinarySearchFunc_api_Txn_api_Txn_api_Dot_txn_Find_1.rs (a0, a1)
noncomputable def slices_BinarySearchFunc_api_Txn_api_Txn_api_Dot_txn_Find_1.l3 (k : Nat) (n : Nat) (x0 : Ty.D (.slc tTxn)) (x8 : Ty.D (.int .i64)) (x9 : Ty.D (.int .i64)) (x10 : Ty.D (.int .i64)) (m4 : Ty.D tDot) : Option (Sg.Out slices_BinarySearchFunc_api_Txn_api_Txn_api_Dot_txn_Find_1.sg) := loopAt (slices_BinarySearchFunc_api_Txn_api_Txn_api_Dot_txn_Find_1.cx k) slices_BinarySearchFunc_api_Txn_api_Txn_api_Dot_txn_Find_1.body [1, 1, 1, 0, 0] 3 [0, 2, 4, 8, 9, 10] [4] [] (Sg.K slices_BinarySearchFunc_api_Txn_api_Txn_api_Dot_txn_Find_1.sg (slices_BinarySearchFunc_api_Txn_api_Txn_api_Dot_txn_Find_1.cx k) slices_BinarySearchFunc_api_Txn_api_Txn_api_Dot_txn_Find_1.rs) n ⟨[(0, .dat (.slc tTxn) x0), (2, .fn 66 []), (4, .ref 4 []), (8, .dat (.int .i64) x8), (9, .dat (.int .i64) x9), (10, .dat (.int .i64) x10)], [(4, .dat tDot m4)]⟩
theorem slices_BinarySearchFunc_api_Txn_api_Txn_api_Dot_txn_Find_1.f_eq (k : Nat) (a0 : Ty.D (.slc tTxn)) (a1 : Ty.D tDot) : slices_BinarySearchFunc_api_Txn_api_Txn_api_Dot_txn_Find_1.f k a0 a1 = slices_BinarySearchFunc_api_Txn_api_Txn_api_Dot_txn_Find_1.l3 k k a0 (ilen a0) 0 (ilen a0) a1 := by kernel_rfl
theorem slices_BinarySearchFunc_api_Txn_api_Txn_api_Dot_txn_Find_1.l3_eq (k : Nat) (n3 : Nat) (x0 : Ty.D (.slc tTxn)) (x8 : Ty.D (.int .i64)) (x9 : Ty.D (.int .i64)) (x10 : Ty.D (.int .i64)) (m4 : Ty.D tDot) : slices_BinarySearchFunc_api_Txn_api_Txn_api_Dot_txn_Find_1.l3 k (n3 + 1) x0 x8 x9 x10 m4 = br (ilt x9 x10) (br (inL (iwrap .i64 (ishr .u64 (iwrap .u64 (iadd .i64 x9 x10)) 1)) x0) (bnd (txn_Find_1.f k (rd tTxn x0 (natOf (iwrap .i64 (ishr .u64 (iwrap .u64 (iadd .i64 x9 x10)) 1)))) m4) fun r0 => br (ilt r0 0) (slices_BinarySearchFunc_api_Txn_api_Txn_api_Dot_txn_Find_1.l3 k n3 x0 x8 (iadd .i64 (iwrap .i64 (ishr .u64 (iwrap .u64 (iadd .i64 x9 x10)) 1)) 1) x10 m4) (slices_BinarySearchFunc_api_Txn_api_Txn_api_Dot_txn_Find_1.l3 k n3 x0 x8 x9 (iwrap .i64 (ishr .u64 (iwrap .u64 (iadd .i64 x9 x10)) 1)) m4)) none) (br (ilt x9 x8) (br (inL x9 x0) (bnd (txn_Find_1.f k (rd tTxn x0 (natOf x9)) m4) fun r1 => some (x9, (ieq r1 0))) none) (some (x9, false))) := by kernel_rfl
noncomputable def slices_BinarySearchFunc_api_Txn_api_Txn_api_Dot_txn_Find_1.e (k : Nat) : Entry := Sg.entry slices_BinarySearchFunc_api_Txn_api_Txn_api_Dot_txn_Find_1.sg fun x => slices_BinarySearchFunc_api_Txn_api_Txn_api_Dot_txn_Find_1.f k x.1 x.2
theorem slices_BinarySearchFunc_api_Txn_api_Txn_api_Dot_txn_Find_1.ok (k : Nat) : CallOK Tryz.prog 65 (slices_BinarySearchFunc_api_Txn_api_Txn_api_Dot_txn_Find_1.e k) := fn_ok (c := slices_BinarySearchFunc_api_Txn_api_Txn_api_Dot_txn_Find_1.cx k) (code := slices_BinarySearchFunc_api_Txn_api_Txn_api_Dot_txn_Find_1.body) (TT.of tt_ok pp_ok mm_ok) (fns_ok ⟨(txn_Find_1.ok k), trivial⟩) mixed Tryz.func65 (by kernel_rfl) (by kernel_rfl) (by kernel_rfl) (by kernel_rfl) (by kernel_rfl) (by kernel_rfl) (fun x => by kernel_rfl)
noncomputable def txn_Find.body : Go.Code := Tryz.f29.body.getD .skip
noncomputable def txn_Find.rs : List Go.ResultVar := Tryz.f29.results.toList
def txn_Find.regs : List (Nat × RInfo) := [(0, ri [0,3] [3]), (1, ri [5,6] [10]), (2, ri [5,14] [10]), (3, ri [4] [10]), (4, ri [4] [10])]
noncomputable def txn_Find.cx (k : Nat) : Cx := ⟨tt, pp, [(65, (slices_BinarySearchFunc_api_Txn_api_Txn_api_Dot_txn_Find_1.e k)), (66, (txn_Find_1.e k))], txn_Find.regs, k, mm⟩
@[reducible] def txn_Find.sg : Sg := ⟨[.dat (.slc tTxn), .dat tDot], [], .dat (.int .i64), []⟩
noncomputable def txn_Find.f (k : Nat) (a0 : Ty.D (.slc tTxn)) (a1 : Ty.D tDot) : Option (Sg.Out txn_Find.sg) := Sg.fn txn_Find.sg (txn_Find.cx k) txn_Find.body txn_Find.rs (a0, a1)
theorem txn_Find.f_eq (k : Nat) (a0 : Ty.D (.slc tTxn)) (a1 : Ty.D tDot) : txn_Find.f k a0 a1 = bnd (slices_BinarySearchFunc_api_Txn_api_Txn_api_Dot_txn_Find_1.f k a0 a1) fun r0 => br (bnot r0.2) (some (-1)) (some r0.1) := by kernel_rfl
noncomputable def txn_Find.e (k : Nat) : Entry := Sg.entry txn_Find.sg fun x => txn_Find.f k x.1 x.2
theorem txn_Find.ok (k : Nat) : CallOK Tryz.prog 29 (txn_Find.e k) := fn_ok (c := txn_Find.cx k) (code := txn_Find.body) (TT.of tt_ok pp_ok mm_ok) (fns_ok ⟨(slices_BinarySearchFunc_api_Txn_api_Txn_api_Dot_txn_Find_1.ok k), (txn_Find_1.ok k), trivial⟩) mixed Tryz.func29 (by kernel_rfl) (by kernel_rfl) (by kernel_rfl) (by kernel_rfl) (by kernel_rfl) (by kernel_rfl) (fun x => by kernel_rfl)
noncomputable def txn_Put_1.body : Go.Code := Tryz.f68.body.getD .skip
noncomputable def txn_Put_1.rs : List Go.ResultVar := Tryz.f68.results.toList
def txn_Put_1.regs : List (Nat × RInfo) := [(0, ⟨[2, 3], [2, 3], [0], [], 0, [], [], [], [], []⟩), (1, ri [4] [8])]
noncomputable def txn_Put_1.cx (k : Nat) : Cx := ⟨tt, pp, [(67, (dot_Compare.e k))], txn_Put_1.regs, k, mm⟩
@[reducible] def txn_Put_1.sg : Sg := ⟨[.dat tTxn, .dat tDot], [], .dat (.int .i64), []⟩
noncomputable def txn_Put_1.f (k : Nat) (a0 : Ty.D tTxn) (a1 : Ty.D tDot) : Option (Sg.Out txn_Put_1.sg) := Sg.fn txn_Put_1.sg (txn_Put_1.cx k) txn_Put_1.body txn_Put_1.rs (a0, a1)
theorem txn_Put_1.f_eq (k : Nat) (a0 : Ty.D tTxn) (a1 : Ty.D tDot) : txn_Put_1.f k a0 a1 = bnd (dot_Compare.f k a0.1 a1) fun r0 => some r0 := by kernel_rfl
noncomputable def txn_Put_1.e (k : Nat) : Entry := Sg.entry txn_Put_1.sg fun x => txn_Put_1.f k x.1 x.2
theorem txn_Put_1.ok (k : Nat) : CallOK Tryz.prog 68 (txn_Put_1.e k) := fn_ok (c := txn_Put_1.cx k) (code := txn_Put_1.body) (TT.of tt_ok pp_ok mm_ok) (fns_ok ⟨(dot_Compare.ok k), trivial⟩) mixed Tryz.func68 (by kernel_rfl) (by kernel_rfl) (by kernel_rfl) (by kernel_rfl) (by kernel_rfl) (by kernel_rfl) (fun x => by kernel_rfl)
noncomputable def slices_BinarySearchFunc_api_Txn_api_Txn_api_Dot_txn_Put_1.body : Go.Code := Tryz.f65.body.getD .skip
noncomputable def slices_BinarySearchFunc_api_Txn_api_Txn_api_Dot_txn_Put_1.rs : List Go.ResultVar := Tryz.f65.results.toList
def slices_BinarySearchFunc_api_Txn_api_Txn_api_Dot_txn_Put_1.regs : List (Nat × RInfo) := [(0, ri [0,2,4] [4]), (1, ri [0,2,4,8] [4]), (2, ri [0,2,4,8,9,10] [4]), (3, ⟨[0, 2, 4, 8, 9, 10, 17], [4], [], [], 0, [0, 2, 4, 8, 9, 10], [4], [], [], []⟩), (4, ri [0,2,4,8,9,10,11] [4]), (5, ⟨[0, 2, 4, 8, 9, 10, 11, 31], [4], [], [], 8, [], [], [], [[], [], [], [], [], [], [4, 5], [6, 4, 5]], []⟩), (6, ri [0,2,4,8,9,10] [4]), (7, ri [0,2,4,8,9,10] [4]), (8, ⟨[6, 7], [], [], [], 15, [], [], [], [[], [], [], [], [], [], [], [], [], [], [], [9, 10], [11, 9, 10], [11, 9, 10], [11, 9, 10], [11, 9, 10]], []⟩)]
noncomputable def slices_BinarySearchFunc_api_Txn_api_Txn_api_Dot_txn_Put_1.cx (k : Nat) : Cx := ⟨tt, pp, [(68, (txn_Put_1.e k))], slices_BinarySearchFunc_api_Txn_api_Txn_api_Dot_txn_Put_1.regs, k, mm⟩
@[reducible] def slices_BinarySearchFunc_api_Txn_api_Txn_api_Dot_txn_Put_1.sg : Sg := ⟨[.dat (.slc tTxn), .dat tDot, .fn 68 0], [], .t2 (.dat (.int .i64)) (.dat .bool), []⟩
noncomputable def slices_BinarySearchFunc_api_Txn_api_Txn_api_Dot_txn_Put_1.f (k : Nat) (a0 : Ty.D (.slc tTxn)) (a1 : Ty.D tDot) : Option (Sg.Out slices_BinarySearchFunc_api_Txn_api_Txn_api_Dot_txn_Put_1.sg) := Sg.fn slices_BinarySearchFunc_api_Txn_api_Txn_api_Dot_txn_Put_1.sg (slices_BinarySearchFunc_api_Txn_api_Txn_api_Dot_txn_Put_1.cx k) slices_BinarySearchFunc_api_Txn_api_Txn_api_Dot_txn_Put_1.body slices_BinarySearchFunc_api_Txn_api_Txn_api_Dot_txn_Put_1.rs (a0, a1)
noncomputable def slices_BinarySearchFunc_api_Txn_api_Txn_api_Dot_txn_Put_1.l3 (k : Nat) (n : Nat) (x0 : Ty.D (.slc tTxn)) (x8 : Ty.D (.int .i64)) (x9 : Ty.D (.int .i64)) (x10 : Ty.D (.int .i64)) (m4 : Ty.D tDot) : Option (Sg.Out slices_BinarySearchFunc_api_Txn_api_Txn_api_Dot_txn_Put_1.sg) := loopAt (slices_BinarySearchFunc_api_Txn_api_Txn_api_Dot_txn_Put_1.cx k) slices_BinarySearchFunc_api_Txn_api_Txn_api_Dot_txn_Put_1.body [1, 1, 1, 0, 0] 3 [0, 2, 4, 8, 9, 10] [4] [] (Sg.K slices_BinarySearchFunc_api_Txn_api_Txn_api_Dot_txn_Put_1.sg (slices_BinarySearchFunc_api_Txn_api_Txn_api_Dot_txn_Put_1.cx k) slices_BinarySearchFunc_api_Txn_api_Txn_api_Dot_txn_Put_1.rs) n ⟨[(0, .dat (.slc tTxn) x0), (2, .fn 68 []), (4, .ref 4 []), (8, .dat (.int .i64) x8), (9, .dat (.int .i64) x9), (10, .dat (.int .i64) x10)], [(4, .dat tDot m4)]⟩
theorem slices_BinarySearchFunc_api_Txn_api_Txn_api_Dot_txn_Put_1.f_eq (k : Nat) (a0 : Ty.D (.slc tTxn)) (a1 : Ty.D tDot) : slices_BinarySearchFunc_api_Txn_api_Txn_api_Dot_txn_Put_1.f k a0 a1 = slices_BinarySearchFunc_api_Txn_api_Txn_api_Dot_txn_Put_1.l3 k k a0 (ilen a0) 0 (ilen a0) a1 := by kernel_rfl
theorem slices_BinarySearchFunc_api_Txn_api_Txn_api_Dot_txn_Put_1.l3_eq (k : Nat) (n3 : Nat) (x0 : Ty.D (.slc tTxn)) (x8 : Ty.D (.int .i64)) (x9 : Ty.D (.int .i64)) (x10 : Ty.D (.int .i64)) (m4 : Ty.D tDot) : slices_BinarySearchFunc_api_Txn_api_Txn_api_Dot_txn_Put_1.l3 k (n3 + 1) x0 x8 x9 x10 m4 = br (ilt x9 x10) (br (inL (iwrap .i64 (ishr .u64 (iwrap .u64 (iadd .i64 x9 x10)) 1)) x0) (bnd (txn_Put_1.f k (rd tTxn x0 (natOf (iwrap .i64 (ishr .u64 (iwrap .u64 (iadd .i64 x9 x10)) 1)))) m4) fun r0 => br (ilt r0 0) (slices_BinarySearchFunc_api_Txn_api_Txn_api_Dot_txn_Put_1.l3 k n3 x0 x8 (iadd .i64 (iwrap .i64 (ishr .u64 (iwrap .u64 (iadd .i64 x9 x10)) 1)) 1) x10 m4) (slices_BinarySearchFunc_api_Txn_api_Txn_api_Dot_txn_Put_1.l3 k n3 x0 x8 x9 (iwrap .i64 (ishr .u64 (iwrap .u64 (iadd .i64 x9 x10)) 1)) m4)) none) (br (ilt x9 x8) (br (inL x9 x0) (bnd (txn_Put_1.f k (rd tTxn x0 (natOf x9)) m4) fun r1 => some (x9, (ieq r1 0))) none) (some (x9, false))) := by kernel_rfl
noncomputable def slices_BinarySearchFunc_api_Txn_api_Txn_api_Dot_txn_Put_1.e (k : Nat) : Entry := Sg.entry slices_BinarySearchFunc_api_Txn_api_Txn_api_Dot_txn_Put_1.sg fun x => slices_BinarySearchFunc_api_Txn_api_Txn_api_Dot_txn_Put_1.f k x.1 x.2
theorem slices_BinarySearchFunc_api_Txn_api_Txn_api_Dot_txn_Put_1.ok (k : Nat) : CallOK Tryz.prog 65 (slices_BinarySearchFunc_api_Txn_api_Txn_api_Dot_txn_Put_1.e k) := fn_ok (c := slices_BinarySearchFunc_api_Txn_api_Txn_api_Dot_txn_Put_1.cx k) (code := slices_BinarySearchFunc_api_Txn_api_Txn_api_Dot_txn_Put_1.body) (TT.of tt_ok pp_ok mm_ok) (fns_ok ⟨(txn_Put_1.ok k), trivial⟩) mixed Tryz.func65 (by kernel_rfl) (by kernel_rfl) (by kernel_rfl) (by kernel_rfl) (by kernel_rfl) (by kernel_rfl) (fun x => by kernel_rfl)
noncomputable def txn_Put.body : Go.Code := Tryz.f30.body.getD .skip
noncomputable def txn_Put.rs : List Go.ResultVar := Tryz.f30.results.toList
def txn_Put.regs : List (Nat × RInfo) := [(0, ⟨[0, 3], [3], [0], [], 0, [], [], [1], [], []⟩), (1, ⟨[0, 3, 5, 6], [3, 11], [], [], 0, [], [], [0, 3], [], []⟩), (2, ⟨[0, 3, 5, 14], [3, 11], [], [], 0, [], [], [6], [], []⟩), (3, ⟨[4], [21], [0, 1], [], 0, [], [], [], [], []⟩), (4, ⟨[4], [21], [5, 6], [], 6, [], [], [0, 5, 3], [], []⟩)]
noncomputable def txn_Put.cx (k : Nat) : Cx := ⟨tt, pp, [(65, (Entry.alt slices_BinarySearchFunc_api_Txn_api_Txn_api_Dot_txn_Find_1.sg (slices_BinarySearchFunc_api_Txn_api_Txn_api_Dot_txn_Find_1.e k) (slices_BinarySearchFunc_api_Txn_api_Txn_api_Dot_txn_Put_1.e k))), (68, (txn_Put_1.e k)), (70, (cloneE tTxn)), (69, (insE tTxn))], txn_Put.regs, k, mm⟩
@[reducible] def txn_Put.sg : Sg := ⟨[.dat (.slc tTxn), .dat tTxn], [], .dat (.slc tTxn), []⟩
noncomputable def txn_Put.f (k : Nat) (a0 : Ty.D (.slc tTxn)) (a1 : Ty.D tTxn) : Option (Sg.Out txn_Put.sg) := Sg.fn txn_Put.sg (txn_Put.cx k) txn_Put.body txn_Put.rs (a0, a1)
theorem txn_Put.f_eq (k : Nat) (a0 : Ty.D (.slc tTxn)) (a1 : Ty.D tTxn) : txn_Put.f k a0 a1 = bnd (slices_BinarySearchFunc_api_Txn_api_Txn_api_Dot_txn_Put_1.f k a0 a1.1) fun r0 => br r0.2 (some a0) (br (room ([] : List Int) a0) (br (inS 0 r0.1 (ilen a0)) (br (room a0 (a1 :: [])) (some (insAt a0 r0.1 (a1 :: []))) none) none) none) := by kernel_rfl
noncomputable def txn_Put.e (k : Nat) : Entry := Sg.entry txn_Put.sg fun x => txn_Put.f k x.1 x.2
theorem txn_Put.ok (k : Nat) : CallOK Tryz.prog 30 (txn_Put.e k) := fn_ok (c := txn_Put.cx k) (code := txn_Put.body) (TT.of tt_ok pp_ok mm_ok) (fns_ok ⟨(alt_ok (slices_BinarySearchFunc_api_Txn_api_Txn_api_Dot_txn_Find_1.ok k) (slices_BinarySearchFunc_api_Txn_api_Txn_api_Dot_txn_Put_1.ok k)), (txn_Put_1.ok k), cloneTxn_ok, insTxn_ok, trivial⟩) mixed Tryz.func30 (by kernel_rfl) (by kernel_rfl) (by kernel_rfl) (by kernel_rfl) (by kernel_rfl) (by kernel_rfl) (fun x => by kernel_rfl)
noncomputable def vec_Has.body : Go.Code := Tryz.f102.body.getD .skip
noncomputable def vec_Has.rs : List Go.ResultVar := Tryz.f102.results.toList
def vec_Has.regs : List (Nat × RInfo) := [(0, ri [2,3] [2,3]), (1, rq [4] [6] 11)]
noncomputable def vec_Has.cx (k : Nat) : Cx := ⟨tt, pp, [(61, (dot_Right.e k))], vec_Has.regs, k, mm⟩
@[reducible] def vec_Has.sg : Sg := ⟨[.dat tVec, .dat tDot], [], .dat .bool, []⟩
noncomputable def vec_Has.f (k : Nat) (a0 : Ty.D tVec) (a1 : Ty.D tDot) : Option (Sg.Out vec_Has.sg) := Sg.fn vec_Has.sg (vec_Has.cx k) vec_Has.body vec_Has.rs (a0, a1)
theorem vec_Has.f_eq (k : Nat) (a0 : Ty.D tVec) (a1 : Ty.D tDot) : vec_Has.f k a0 a1 = bnd (dot_Right.f k a1) fun r0 => br r0 (br (inB a1.1 16) (some (ile a1.2 (rd (.int .i64) a0 (natOf a1.1)))) none) (some false) := by kernel_rfl
noncomputable def vec_Has.e (k : Nat) : Entry := Sg.entry vec_Has.sg fun x => vec_Has.f k x.1 x.2
theorem vec_Has.ok (k : Nat) : CallOK Tryz.prog 102 (vec_Has.e k) := fn_ok (c := vec_Has.cx k) (code := vec_Has.body) (TT.of tt_ok pp_ok mm_ok) (fns_ok ⟨(dot_Right.ok k), trivial⟩) mixed Tryz.func102 (by kernel_rfl) (by kernel_rfl) (by kernel_rfl) (by kernel_rfl) (by kernel_rfl) (by kernel_rfl) (fun x => by kernel_rfl)
noncomputable def slices_BinarySearchFunc_api_Dot_api_Dot_api_Dot_dot_Compare.body : Go.Code := Tryz.f72.body.getD .skip
noncomputable def slices_BinarySearchFunc_api_Dot_api_Dot_api_Dot_dot_Compare.rs : List Go.ResultVar := Tryz.f72.results.toList
def slices_BinarySearchFunc_api_Dot_api_Dot_api_Dot_dot_Compare.regs : List (Nat × RInfo) := [(0, ri [0,2,4] [4]), (1, ri [0,2,4,8] [4]), (2, ri [0,2,4,8,9,10] [4]), (3, ⟨[0, 2, 4, 8, 9, 10, 17], [4], [], [], 0, [0, 2, 4, 8, 9, 10], [4], [], [], []⟩), (4, ri [0,2,4,8,9,10,11] [4]), (5, ⟨[0, 2, 4, 8, 9, 10, 11, 31], [4], [], [], 8, [], [], [], [[], [], [], [], [], [], [4, 5], [6, 4, 5]], []⟩), (6, ri [0,2,4,8,9,10] [4]), (7, ri [0,2,4,8,9,10] [4]), (8, ⟨[6, 7], [], [], [], 15, [], [], [], [[], [], [], [], [], [], [], [], [], [], [], [9, 10], [11, 9, 10], [11, 9, 10], [11, 9, 10], [11, 9, 10]], []⟩)]
noncomputable def slices_BinarySearchFunc_api_Dot_api_Dot_api_Dot_dot_Compare.cx (k : Nat) : Cx := ⟨tt, pp, [(67, (dot_Compare.e k))], slices_BinarySearchFunc_api_Dot_api_Dot_api_Dot_dot_Compare.regs, k, mm⟩
@[reducible] def slices_BinarySearchFunc_api_Dot_api_Dot_api_Dot_dot_Compare.sg : Sg := ⟨[.dat (.slc tDot), .dat tDot, .fn 67 0], [], .t2 (.dat (.int .i64)) (.dat .bool), []⟩
noncomputable def slices_BinarySearchFunc_api_Dot_api_Dot_api_Dot_dot_Compare.f (k : Nat) (a0 : Ty.D (.slc tDot)) (a1 : Ty.D tDot) : Option (Sg.Out slices_BinarySearchFunc_api_Dot_api_Dot_api_Dot_dot_Compare.sg) := Sg.fn slices_BinarySearchFunc_api_Dot_api_Dot_api_Dot_dot_Compare.sg (slices_BinarySearchFunc_api_Dot_api_Dot_api_Dot_dot_Compare.cx k) slices_BinarySearchFunc_api_Dot_api_Dot_api_Dot_dot_Compare.body slices_BinarySearchFunc_api_Dot_api_Dot_api_Dot_dot_Compare.rs (a0, a1)
noncomputable def slices_BinarySearchFunc_api_Dot_api_Dot_api_Dot_dot_Compare.l3 (k : Nat) (n : Nat) (x0 : Ty.D (.slc tDot)) (x8 : Ty.D (.int .i64)) (x9 : Ty.D (.int .i64)) (x10 : Ty.D (.int .i64)) (m4 : Ty.D tDot) : Option (Sg.Out slices_BinarySearchFunc_api_Dot_api_Dot_api_Dot_dot_Compare.sg) := loopAt (slices_BinarySearchFunc_api_Dot_api_Dot_api_Dot_dot_Compare.cx k) slices_BinarySearchFunc_api_Dot_api_Dot_api_Dot_dot_Compare.body [1, 1, 1, 0, 0] 3 [0, 2, 4, 8, 9, 10] [4] [] (Sg.K slices_BinarySearchFunc_api_Dot_api_Dot_api_Dot_dot_Compare.sg (slices_BinarySearchFunc_api_Dot_api_Dot_api_Dot_dot_Compare.cx k) slices_BinarySearchFunc_api_Dot_api_Dot_api_Dot_dot_Compare.rs) n ⟨[(0, .dat (.slc tDot) x0), (2, .fn 67 []), (4, .ref 4 []), (8, .dat (.int .i64) x8), (9, .dat (.int .i64) x9), (10, .dat (.int .i64) x10)], [(4, .dat tDot m4)]⟩
theorem slices_BinarySearchFunc_api_Dot_api_Dot_api_Dot_dot_Compare.f_eq (k : Nat) (a0 : Ty.D (.slc tDot)) (a1 : Ty.D tDot) : slices_BinarySearchFunc_api_Dot_api_Dot_api_Dot_dot_Compare.f k a0 a1 = slices_BinarySearchFunc_api_Dot_api_Dot_api_Dot_dot_Compare.l3 k k a0 (ilen a0) 0 (ilen a0) a1 := by kernel_rfl
theorem slices_BinarySearchFunc_api_Dot_api_Dot_api_Dot_dot_Compare.l3_eq (k : Nat) (n3 : Nat) (x0 : Ty.D (.slc tDot)) (x8 : Ty.D (.int .i64)) (x9 : Ty.D (.int .i64)) (x10 : Ty.D (.int .i64)) (m4 : Ty.D tDot) : slices_BinarySearchFunc_api_Dot_api_Dot_api_Dot_dot_Compare.l3 k (n3 + 1) x0 x8 x9 x10 m4 = br (ilt x9 x10) (br (inL (iwrap .i64 (ishr .u64 (iwrap .u64 (iadd .i64 x9 x10)) 1)) x0) (bnd (dot_Compare.f k (rd tDot x0 (natOf (iwrap .i64 (ishr .u64 (iwrap .u64 (iadd .i64 x9 x10)) 1)))) m4) fun r0 => br (ilt r0 0) (slices_BinarySearchFunc_api_Dot_api_Dot_api_Dot_dot_Compare.l3 k n3 x0 x8 (iadd .i64 (iwrap .i64 (ishr .u64 (iwrap .u64 (iadd .i64 x9 x10)) 1)) 1) x10 m4) (slices_BinarySearchFunc_api_Dot_api_Dot_api_Dot_dot_Compare.l3 k n3 x0 x8 x9 (iwrap .i64 (ishr .u64 (iwrap .u64 (iadd .i64 x9 x10)) 1)) m4)) none) (br (ilt x9 x8) (br (inL x9 x0) (bnd (dot_Compare.f k (rd tDot x0 (natOf x9)) m4) fun r1 => some (x9, (ieq r1 0))) none) (some (x9, false))) := by kernel_rfl
noncomputable def slices_BinarySearchFunc_api_Dot_api_Dot_api_Dot_dot_Compare.e (k : Nat) : Entry := Sg.entry slices_BinarySearchFunc_api_Dot_api_Dot_api_Dot_dot_Compare.sg fun x => slices_BinarySearchFunc_api_Dot_api_Dot_api_Dot_dot_Compare.f k x.1 x.2
theorem slices_BinarySearchFunc_api_Dot_api_Dot_api_Dot_dot_Compare.ok (k : Nat) : CallOK Tryz.prog 72 (slices_BinarySearchFunc_api_Dot_api_Dot_api_Dot_dot_Compare.e k) := fn_ok (c := slices_BinarySearchFunc_api_Dot_api_Dot_api_Dot_dot_Compare.cx k) (code := slices_BinarySearchFunc_api_Dot_api_Dot_api_Dot_dot_Compare.body) (TT.of tt_ok pp_ok mm_ok) (fns_ok ⟨(dot_Compare.ok k), trivial⟩) mixed Tryz.func72 (by kernel_rfl) (by kernel_rfl) (by kernel_rfl) (by kernel_rfl) (by kernel_rfl) (by kernel_rfl) (fun x => by kernel_rfl)
noncomputable def dots_Has.body : Go.Code := Tryz.f71.body.getD .skip
noncomputable def dots_Has.rs : List Go.ResultVar := Tryz.f71.results.toList
def dots_Has.regs : List (Nat × RInfo) := [(0, ⟨[2, 3], [2, 3], [0], [], 0, [], [], [], [], []⟩), (1, ri [2,3,10] [2,3,10]), (2, ri [4] [15]), (3, ri [6] [15]), (4, ri [4] [15])]
noncomputable def dots_Has.cx (k : Nat) : Cx := ⟨tt, pp, [(102, (vec_Has.e k)), (72, (slices_BinarySearchFunc_api_Dot_api_Dot_api_Dot_dot_Compare.e k)), (67, (dot_Compare.e k))], dots_Has.regs, k, mm⟩
@[reducible] def dots_Has.sg : Sg := ⟨[.dat tDots, .dat tDot], [], .dat .bool, []⟩
noncomputable def dots_Has.f (k : Nat) (a0 : Ty.D tDots) (a1 : Ty.D tDot) : Option (Sg.Out dots_Has.sg) := Sg.fn dots_Has.sg (dots_Has.cx k) dots_Has.body dots_Has.rs (a0, a1)
theorem dots_Has.f_eq (k : Nat) (a0 : Ty.D tDots) (a1 : Ty.D tDot) : dots_Has.f k a0 a1 = bnd (vec_Has.f k a0.1 a1) fun r0 => br r0 (some true) (bnd (slices_BinarySearchFunc_api_Dot_api_Dot_api_Dot_dot_Compare.f k a0.2 a1) fun r1 => some r1.2) := by kernel_rfl
noncomputable def dots_Has.e (k : Nat) : Entry := Sg.entry dots_Has.sg fun x => dots_Has.f k x.1 x.2
theorem dots_Has.ok (k : Nat) : CallOK Tryz.prog 71 (dots_Has.e k) := fn_ok (c := dots_Has.cx k) (code := dots_Has.body) (TT.of tt_ok pp_ok mm_ok) (fns_ok ⟨(vec_Has.ok k), (slices_BinarySearchFunc_api_Dot_api_Dot_api_Dot_dot_Compare.ok k), (dot_Compare.ok k), trivial⟩) mixed Tryz.func71 (by kernel_rfl) (by kernel_rfl) (by kernel_rfl) (by kernel_rfl) (by kernel_rfl) (by kernel_rfl) (fun x => by kernel_rfl)
noncomputable def dots_made.body : Go.Code := Tryz.f73.body.getD .skip
noncomputable def dots_made.rs : List Go.ResultVar := Tryz.f73.results.toList
def dots_made.regs : List (Nat × RInfo) := [(0, ri [1,2,4] [2,4]), (1, ⟨[1, 4, 5], [4, 5], [3], [], 0, [], [], [], [], []⟩), (2, ri [4,5,10,11,12] [4,5]), (3, ⟨[4, 5, 10, 11, 12, 13], [4, 5], [], [], 0, [4, 5, 10, 11, 12], [4, 5], [], [], []⟩), (4, ri [4,5,7,10,11,12] [4,5,7]), (5, rq [4,5,7,10,11,12,16] [4,5,7] 9), (6, rq [4,5,7,10,11,12,25] [4,5,7] 10), (7, ri [4,5,10,11,12] [4,5]), (8, rq [4,5,7,10,11,12,41] [4,5,7] 17), (9, ⟨[4, 5, 10, 11, 12], [4, 5], [1, 4, 6], [], 0, [], [], [], [], []⟩), (10, ri [4,5,10,11,12] [4,5]), (11, ⟨[4], [4], [1], [], 0, [], [], [], [], []⟩)]
noncomputable def dots_made.cx (k : Nat) : Cx := ⟨tt, pp, [], dots_made.regs, k, mm⟩
@[reducible] def dots_made.sg : Sg := ⟨[.dat tVec, .dat (.slc tDot)], [], .dat tDots, []⟩
noncomputable def dots_made.f (k : Nat) (a0 : Ty.D tVec) (a1 : Ty.D (.slc tDot)) : Option (Sg.Out dots_made.sg) := Sg.fn dots_made.sg (dots_made.cx k) dots_made.body dots_made.rs (a0, a1)
noncomputable def dots_made.l3 (k : Nat) (n : Nat) (x10 : Ty.D (.slc tDot)) (x11 : Ty.D (.int .i64)) (x12 : Ty.D (.int .i64)) (m4a : Ty.D tVec) (m4b : List (Ty.D tDot)) (m5a : Ty.D tVec) (m5b : List (Ty.D tDot)) : Option (Sg.Out dots_made.sg) := loopAt (dots_made.cx k) dots_made.body [1, 1, 0, 1, 0] 3 [4, 5, 10, 11, 12] [4, 5] [] (Sg.K dots_made.sg (dots_made.cx k) dots_made.rs) n ⟨[(4, .ref 4 []), (5, .ref 5 []), (10, .dat (.slc tDot) x10), (11, .dat (.int .i64) x11), (12, .dat (.int .i64) x12)], [(4, .pr (.dat tVec m4a) (.own tDot m4b)), (5, .pr (.dat tVec m5a) (.own tDot m5b))]⟩
theorem dots_made.f_eq (k : Nat) (a0 : Ty.D tVec) (a1 : Ty.D (.slc tDot)) : dots_made.f k a0 a1 = dots_made.l3 k k a1 (ilen a1) 0 (zarr 16 0) [] a0 [] := by kernel_rfl
theorem dots_made.l3_eq (k : Nat) (n3 : Nat) (x10 : Ty.D (.slc tDot)) (x11 : Ty.D (.int .i64)) (x12 : Ty.D (.int .i64)) (m4a : Ty.D tVec) (m4b : List (Ty.D tDot)) (m5a : Ty.D tVec) (m5b : List (Ty.D tDot)) : dots_made.l3 k (n3 + 1) x10 x11 x12 m4a m4b m5a m5b = br (ilt x12 x11) (br (inL x12 x10) (br (inB ((rd tDot x10 (natOf x12)).1) 16) (br (ile ((rd tDot x10 (natOf x12)).2) (rd (.int .i64) m5a (natOf ((rd tDot x10 (natOf x12)).1)))) (dots_made.l3 k n3 x10 x11 (iadd .i64 x12 1) m4a m4b m5a m5b) (br (inB ((rd tDot x10 (natOf x12)).1) 16) (br (ieq ((rd tDot x10 (natOf x12)).2) (iadd .i64 (rd (.int .i64) m5a (natOf ((rd tDot x10 (natOf x12)).1))) 1)) (br (inB ((rd tDot x10 (natOf x12)).1) 16) (dots_made.l3 k n3 x10 x11 (iadd .i64 x12 1) m4a m4b (upd m5a (natOf ((rd tDot x10 (natOf x12)).1)) ((rd tDot x10 (natOf x12)).2)) m5b) none) (br (ieq (ilen m5b) 0) (br (room m5b ((rd tDot x10 (natOf x12)) :: [])) (dots_made.l3 k n3 x10 x11 (iadd .i64 x12 1) m4a m4b m5a (app m5b ((rd tDot x10 (natOf x12)) :: []))) none) (br (inL (isub .i64 (ilen m5b) 1) m5b) (br (bnot (deq tDot (rd tDot m5b (natOf (isub .i64 (ilen m5b) 1))) (rd tDot x10 (natOf x12)))) (br (room m5b ((rd tDot x10 (natOf x12)) :: [])) (dots_made.l3 k n3 x10 x11 (iadd .i64 x12 1) m4a m4b m5a (app m5b ((rd tDot x10 (natOf x12)) :: []))) none) (dots_made.l3 k n3 x10 x11 (iadd .i64 x12 1) m4a m4b m5a m5b)) none))) none)) none) none) (some (m5a, m5b)) := by kernel_rfl
noncomputable def dots_made.e (k : Nat) : Entry := Sg.entry dots_made.sg fun x => dots_made.f k x.1 x.2
theorem dots_made.ok (k : Nat) : CallOK Tryz.prog 73 (dots_made.e k) := fn_ok (c := dots_made.cx k) (code := dots_made.body) (TT.of tt_ok pp_ok mm_ok) (fns_ok trivial) mixed Tryz.func73 (by kernel_rfl) (by kernel_rfl) (by kernel_rfl) (by kernel_rfl) (by kernel_rfl) (by kernel_rfl) (fun x => by kernel_rfl)
noncomputable def dots_Put.body : Go.Code := Tryz.f31.body.getD .skip
noncomputable def dots_Put.rs : List Go.ResultVar := Tryz.f31.results.toList
def dots_Put.regs : List (Nat × RInfo) := [(0, ⟨[2, 3, 4], [2, 3, 4], [0], [], 0, [], [], [0, 1], [], []⟩), (1, ⟨[2, 3, 4, 14], [2, 3, 4, 13], [], [], 0, [], [], [3, 2], [], []⟩), (2, ⟨[4], [4], [1], [], 0, [], [], [2, 4], [], []⟩), (3, ⟨[2, 3, 4, 5], [2, 3, 4, 20], [], [], 0, [], [], [2, 3], [], []⟩), (4, ⟨[4], [4], [8, 10], [], 10, [], [], [2, 5, 3, 4], [[], [], [], [], [3], [], [], [6], [3, 6], [1, 3, 6], [1, 3, 6]], []⟩)]
noncomputable def dots_Put.cx (k : Nat) : Cx := ⟨tt, pp, [(61, (dot_Right.e k)), (71, (dots_Has.e k)), (72, (slices_BinarySearchFunc_api_Dot_api_Dot_api_Dot_dot_Compare.e k)), (67, (dot_Compare.e k)), (75, (cloneE tDot)), (74, (insE tDot)), (73, (dots_made.e k))], dots_Put.regs, k, mm⟩
@[reducible] def dots_Put.sg : Sg := ⟨[.dat tDots, .dat tDot], [], .dat tDots, []⟩
noncomputable def dots_Put.f (k : Nat) (a0 : Ty.D tDots) (a1 : Ty.D tDot) : Option (Sg.Out dots_Put.sg) := Sg.fn dots_Put.sg (dots_Put.cx k) dots_Put.body dots_Put.rs (a0, a1)
theorem dots_Put.f_eq (k : Nat) (a0 : Ty.D tDots) (a1 : Ty.D tDot) : dots_Put.f k a0 a1 = bnd (dot_Right.f k a1) fun r0 => br (bnot r0) (some a0) (bnd (dots_Has.f k a0 a1) fun r1 => br r1 (some a0) (bnd (slices_BinarySearchFunc_api_Dot_api_Dot_api_Dot_dot_Compare.f k a0.2 a1) fun r2 => br (room ([] : List Int) a0.2) (br (inS 0 r2.1 (ilen a0.2)) (br (room a0.2 (a1 :: [])) (bnd (dots_made.f k a0.1 (insAt a0.2 r2.1 (a1 :: []))) fun r3 => some r3) none) none) none)) := by kernel_rfl
noncomputable def dots_Put.e (k : Nat) : Entry := Sg.entry dots_Put.sg fun x => dots_Put.f k x.1 x.2
theorem dots_Put.ok (k : Nat) : CallOK Tryz.prog 31 (dots_Put.e k) := fn_ok (c := dots_Put.cx k) (code := dots_Put.body) (TT.of tt_ok pp_ok mm_ok) (fns_ok ⟨(dot_Right.ok k), (dots_Has.ok k), (slices_BinarySearchFunc_api_Dot_api_Dot_api_Dot_dot_Compare.ok k), (dot_Compare.ok k), cloneDot_ok, insDot_ok, (dots_made.ok k), trivial⟩) mixed Tryz.func31 (by kernel_rfl) (by kernel_rfl) (by kernel_rfl) (by kernel_rfl) (by kernel_rfl) (by kernel_rfl) (fun x => by kernel_rfl)
noncomputable def state_Put.body : Go.Code := Tryz.f10.body.getD .skip
noncomputable def state_Put.rs : List Go.ResultVar := Tryz.f10.results.toList
def state_Put.regs : List (Nat × RInfo) := [(0, ⟨[2, 3, 4], [2, 3, 4], [0, 1], [], 0, [], [], [], [], []⟩), (1, ri [2,3,4,10] [2,3,4]), (2, ⟨[4], [4], [1], [], 0, [], [], [], [], []⟩), (3, ⟨[2, 3, 4], [2, 3, 4], [5], [], 0, [], [], [], [], []⟩), (4, ⟨[2, 4], [2, 4], [6], [], 0, [], [], [], [], []⟩), (5, ⟨[4], [4], [1], [], 0, [], [], [], [], []⟩)]
noncomputable def state_Put.cx (k : Nat) : Cx := ⟨tt, pp, [(29, (txn_Find.e k)), (30, (txn_Put.e k)), (31, (dots_Put.e k))], state_Put.regs, k, mm⟩
@[reducible] def state_Put.sg : Sg := ⟨[.dat tState, .dat tTxn], [], .dat tState, []⟩
noncomputable def state_Put.f (k : Nat) (a0 : Ty.D tState) (a1 : Ty.D tTxn) : Option (Sg.Out state_Put.sg) := Sg.fn state_Put.sg (state_Put.cx k) state_Put.body state_Put.rs (a0, a1)
theorem state_Put.f_eq (k : Nat) (a0 : Ty.D tState) (a1 : Ty.D tTxn) : state_Put.f k a0 a1 = bnd (txn_Find.f k a0.1 a1.1) fun r0 => br (ile 0 r0) (some a0) (bnd (txn_Put.f k a0.1 a1) fun r1 => bnd (dots_Put.f k a0.2.2.1 a1.1) fun r2 => some (r1, (a0.2.1, (r2, a0.2.2.2)))) := by kernel_rfl
noncomputable def state_Put.e (k : Nat) : Entry := Sg.entry state_Put.sg fun x => state_Put.f k x.1 x.2
theorem state_Put.ok (k : Nat) : CallOK Tryz.prog 10 (state_Put.e k) := fn_ok (c := state_Put.cx k) (code := state_Put.body) (TT.of tt_ok pp_ok mm_ok) (fns_ok ⟨(txn_Find.ok k), (txn_Put.ok k), (dots_Put.ok k), trivial⟩) mixed Tryz.func10 (by kernel_rfl) (by kernel_rfl) (by kernel_rfl) (by kernel_rfl) (by kernel_rfl) (by kernel_rfl) (fun x => by kernel_rfl)
noncomputable def txn_Rises.body : Go.Code := Tryz.f52.body.getD .skip
noncomputable def txn_Rises.rs : List Go.ResultVar := Tryz.f52.results.toList
def txn_Rises.regs : List (Nat × RInfo) := [(0, ri [0] []), (1, ri [0,5,6,7] []), (2, ⟨[0, 5, 6, 7, 8], [], [], [], 0, [0, 5, 6, 7], [], [], [], []⟩), (3, ⟨[0, 3, 4, 5, 6, 7], [4], [5], [], 0, [], [], [], [], []⟩), (4, rq [0,5,6,7,25] [] 14), (5, ri [2] []), (6, ri [0,5,6,7] []), (7, ri [2] [])]
noncomputable def txn_Rises.cx (k : Nat) : Cx := ⟨tt, pp, [(67, (dot_Compare.e k))], txn_Rises.regs, k, mm⟩
@[reducible] def txn_Rises.sg : Sg := ⟨[.dat (.slc tTxn)], [], .dat .bool, []⟩
noncomputable def txn_Rises.f (k : Nat) (a0 : Ty.D (.slc tTxn)) : Option (Sg.Out txn_Rises.sg) := Sg.fn txn_Rises.sg (txn_Rises.cx k) txn_Rises.body txn_Rises.rs a0
noncomputable def txn_Rises.e (k : Nat) : Entry := Sg.entry txn_Rises.sg fun x => txn_Rises.f k x
theorem txn_Rises.ok (k : Nat) : CallOK Tryz.prog 52 (txn_Rises.e k) := fn_ok (c := txn_Rises.cx k) (code := txn_Rises.body) (TT.of tt_ok pp_ok mm_ok) (fns_ok ⟨(dot_Compare.ok k), trivial⟩) mixed Tryz.func52 (by kernel_rfl) (by kernel_rfl) (by kernel_rfl) (by kernel_rfl) (by kernel_rfl) (by kernel_rfl) (fun x => by kernel_rfl)
noncomputable def tally_compare.body : Go.Code := Tryz.f76.body.getD .skip
noncomputable def tally_compare.rs : List Go.ResultVar := Tryz.f76.results.toList
def tally_compare.regs : List (Nat × RInfo) := [(0, ri [2,3] [2,3]), (1, ri [4] [9])]
noncomputable def tally_compare.cx (k : Nat) : Cx := ⟨tt, pp, [(67, (dot_Compare.e k))], tally_compare.regs, k, mm⟩
@[reducible] def tally_compare.sg : Sg := ⟨[.dat tUndo, .dat tUndo], [], .dat (.int .i64), []⟩
noncomputable def tally_compare.f (k : Nat) (a0 : Ty.D tUndo) (a1 : Ty.D tUndo) : Option (Sg.Out tally_compare.sg) := Sg.fn tally_compare.sg (tally_compare.cx k) tally_compare.body tally_compare.rs (a0, a1)
theorem tally_compare.f_eq (k : Nat) (a0 : Ty.D tUndo) (a1 : Ty.D tUndo) : tally_compare.f k a0 a1 = bnd (dot_Compare.f k a0.1 a1.1) fun r0 => some r0 := by kernel_rfl
noncomputable def tally_compare.e (k : Nat) : Entry := Sg.entry tally_compare.sg fun x => tally_compare.f k x.1 x.2
theorem tally_compare.ok (k : Nat) : CallOK Tryz.prog 76 (tally_compare.e k) := fn_ok (c := tally_compare.cx k) (code := tally_compare.body) (TT.of tt_ok pp_ok mm_ok) (fns_ok ⟨(dot_Compare.ok k), trivial⟩) mixed Tryz.func76 (by kernel_rfl) (by kernel_rfl) (by kernel_rfl) (by kernel_rfl) (by kernel_rfl) (by kernel_rfl) (fun x => by kernel_rfl)
noncomputable def tally_Right.body : Go.Code := Tryz.f53.body.getD .skip
noncomputable def tally_Right.rs : List Go.ResultVar := Tryz.f53.results.toList
def tally_Right.regs : List (Nat × RInfo) := [(0, ri [0] []), (1, ri [0,5,6,7] []), (2, ⟨[0, 5, 6, 7, 8], [], [], [], 0, [0, 5, 6, 7], [], [], [], []⟩), (3, ri [0,3,4,5,6,7] [4]), (4, rq [0,5,6,7,39] [] 28), (5, ri [2] []), (6, ri [0,5,6,7] []), (7, ri [2] [])]
noncomputable def tally_Right.cx (k : Nat) : Cx := ⟨tt, pp, [(61, (dot_Right.e k)), (76, (tally_compare.e k))], tally_Right.regs, k, mm⟩
@[reducible] def tally_Right.sg : Sg := ⟨[.dat (.slc tUndo)], [], .dat .bool, []⟩
noncomputable def tally_Right.f (k : Nat) (a0 : Ty.D (.slc tUndo)) : Option (Sg.Out tally_Right.sg) := Sg.fn tally_Right.sg (tally_Right.cx k) tally_Right.body tally_Right.rs a0
noncomputable def tally_Right.e (k : Nat) : Entry := Sg.entry tally_Right.sg fun x => tally_Right.f k x
theorem tally_Right.ok (k : Nat) : CallOK Tryz.prog 53 (tally_Right.e k) := fn_ok (c := tally_Right.cx k) (code := tally_Right.body) (TT.of tt_ok pp_ok mm_ok) (fns_ok ⟨(dot_Right.ok k), (tally_compare.ok k), trivial⟩) mixed Tryz.func53 (by kernel_rfl) (by kernel_rfl) (by kernel_rfl) (by kernel_rfl) (by kernel_rfl) (by kernel_rfl) (fun x => by kernel_rfl)
noncomputable def state_names.body : Go.Code := Tryz.f55.body.getD .skip
noncomputable def state_names.rs : List Go.ResultVar := Tryz.f55.results.toList
def state_names.regs : List (Nat × RInfo) := [(0, ri [0] []), (1, ri [0,3] []), (2, ri [3,6,7,8] []), (3, ⟨[3, 6, 7, 8, 9], [], [], [], 0, [3, 6, 7, 8], [], [], [], []⟩), (4, ⟨[3, 5, 6, 7, 8], [5], [3], [], 0, [], [], [], [], []⟩), (5, ⟨[3, 6, 7, 8], [], [0, 4, 5], [], 0, [], [], [], [], []⟩), (6, ri [3,6,7,8] []), (7, ⟨[2], [], [0, 1], [], 0, [], [], [], [], []⟩)]
noncomputable def state_names.cx (k : Nat) : Cx := ⟨tt, pp, [], state_names.regs, k, mm⟩
@[reducible] def state_names.sg : Sg := ⟨[.dat (.slc tTxn)], [], .own tDot, []⟩
noncomputable def state_names.f (k : Nat) (a0 : Ty.D (.slc tTxn)) : Option (Sg.Out state_names.sg) := Sg.fn state_names.sg (state_names.cx k) state_names.body state_names.rs a0
noncomputable def state_names.e (k : Nat) : Entry := Sg.entry state_names.sg fun x => state_names.f k x
theorem state_names.ok (k : Nat) : CallOK Tryz.prog 55 (state_names.e k) := fn_ok (c := state_names.cx k) (code := state_names.body) (TT.of tt_ok pp_ok mm_ok) (fns_ok trivial) mixed Tryz.func55 (by kernel_rfl) (by kernel_rfl) (by kernel_rfl) (by kernel_rfl) (by kernel_rfl) (by kernel_rfl) (fun x => by kernel_rfl)
noncomputable def dots_Of.body : Go.Code := Tryz.f34.body.getD .skip
noncomputable def dots_Of.rs : List Go.ResultVar := Tryz.f34.results.toList
def dots_Of.regs : List (Nat × RInfo) := [(0, ri [0,2] [2,5]), (1, ⟨[0, 2], [2, 5], [2, 3], [], 0, [], [], [], [], []⟩), (2, ⟨[0, 2], [2, 5], [0, 1], [0], 0, [], [], [], [], []⟩), (3, ⟨[2], [2], [3], [], 0, [], [], [0, 2], [], []⟩)]
noncomputable def dots_Of.cx (k : Nat) : Cx := ⟨tt, pp, [(75, (cloneE tDot)), (80, (delE tDot 81 dotKeep)), (78, (sortE tDot 67 dotLt)), (67, (dot_Compare.e k)), (73, (dots_made.e k))], dots_Of.regs, k, mm⟩
@[reducible] def dots_Of.sg : Sg := ⟨[.dat (.slc tDot)], [], .dat tDots, []⟩
noncomputable def dots_Of.f (k : Nat) (a0 : Ty.D (.slc tDot)) : Option (Sg.Out dots_Of.sg) := Sg.fn dots_Of.sg (dots_Of.cx k) dots_Of.body dots_Of.rs a0
theorem dots_Of.f_eq (k : Nat) (a0 : Ty.D (.slc tDot)) : dots_Of.f k a0 = br (room ([] : List Int) a0) (br (room ([] : List Int) a0) (br (room ([] : List Int) (kept dotKeep a0)) (bnd (dots_made.f k (zarr 16 0) (isort dotLt (kept dotKeep a0))) fun r0 => some r0) none) none) none := by kernel_rfl
noncomputable def dots_Of.e (k : Nat) : Entry := Sg.entry dots_Of.sg fun x => dots_Of.f k x
theorem dots_Of.ok (k : Nat) : CallOK Tryz.prog 34 (dots_Of.e k) := fn_ok (c := dots_Of.cx k) (code := dots_Of.body) (TT.of tt_ok pp_ok mm_ok) (fns_ok ⟨cloneDot_ok, delDot_ok, sortDot_ok, (dot_Compare.ok k), (dots_made.ok k), trivial⟩) mixed Tryz.func34 (by kernel_rfl) (by kernel_rfl) (by kernel_rfl) (by kernel_rfl) (by kernel_rfl) (by kernel_rfl) (fun x => by kernel_rfl)
noncomputable def slices_Equal_api_Dot_api_Dot.body : Go.Code := Tryz.f91.body.getD .skip
noncomputable def slices_Equal_api_Dot_api_Dot.rs : List Go.ResultVar := Tryz.f91.results.toList
def slices_Equal_api_Dot_api_Dot.regs : List (Nat × RInfo) := [(0, ri [0,1] []), (1, ri [0,1,10] []), (2, ri [4] []), (3, ri [0,1,12,13] []), (4, ⟨[0, 1, 12, 13, 14], [], [], [], 0, [0, 1, 12, 13], [], [], [], []⟩), (5, ri [0,1,5,12,13] []), (6, rq [0,1,12,13,24] [] 9), (7, ri [4] []), (8, ri [0,1,12,13] []), (9, ri [4] [])]
noncomputable def slices_Equal_api_Dot_api_Dot.cx (k : Nat) : Cx := ⟨tt, pp, [], slices_Equal_api_Dot_api_Dot.regs, k, mm⟩
@[reducible] def slices_Equal_api_Dot_api_Dot.sg : Sg := ⟨[.dat (.slc tDot), .dat (.slc tDot)], [], .dat .bool, []⟩
noncomputable def slices_Equal_api_Dot_api_Dot.f (k : Nat) (a0 : Ty.D (.slc tDot)) (a1 : Ty.D (.slc tDot)) : Option (Sg.Out slices_Equal_api_Dot_api_Dot.sg) := Sg.fn slices_Equal_api_Dot_api_Dot.sg (slices_Equal_api_Dot_api_Dot.cx k) slices_Equal_api_Dot_api_Dot.body slices_Equal_api_Dot_api_Dot.rs (a0, a1)
noncomputable def slices_Equal_api_Dot_api_Dot.e (k : Nat) : Entry := Sg.entry slices_Equal_api_Dot_api_Dot.sg fun x => slices_Equal_api_Dot_api_Dot.f k x.1 x.2
theorem slices_Equal_api_Dot_api_Dot.ok (k : Nat) : CallOK Tryz.prog 91 (slices_Equal_api_Dot_api_Dot.e k) := fn_ok (c := slices_Equal_api_Dot_api_Dot.cx k) (code := slices_Equal_api_Dot_api_Dot.body) (TT.of tt_ok pp_ok mm_ok) (fns_ok trivial) mixed Tryz.func91 (by kernel_rfl) (by kernel_rfl) (by kernel_rfl) (by kernel_rfl) (by kernel_rfl) (by kernel_rfl) (fun x => by kernel_rfl)
noncomputable def dots_Same.body : Go.Code := Tryz.f54.body.getD .skip
noncomputable def dots_Same.rs : List Go.ResultVar := Tryz.f54.results.toList
def dots_Same.regs : List (Nat × RInfo) := [(0, ⟨[2, 3], [2, 3], [0, 1], [], 0, [], [], [], [], []⟩), (1, ri [4] [15])]
noncomputable def dots_Same.cx (k : Nat) : Cx := ⟨tt, pp, [(91, (slices_Equal_api_Dot_api_Dot.e k))], dots_Same.regs, k, mm⟩
@[reducible] def dots_Same.sg : Sg := ⟨[.dat tDots, .dat tDots], [], .dat .bool, []⟩
noncomputable def dots_Same.f (k : Nat) (a0 : Ty.D tDots) (a1 : Ty.D tDots) : Option (Sg.Out dots_Same.sg) := Sg.fn dots_Same.sg (dots_Same.cx k) dots_Same.body dots_Same.rs (a0, a1)
noncomputable def dots_Same.e (k : Nat) : Entry := Sg.entry dots_Same.sg fun x => dots_Same.f k x.1 x.2
theorem dots_Same.ok (k : Nat) : CallOK Tryz.prog 54 (dots_Same.e k) := fn_ok (c := dots_Same.cx k) (code := dots_Same.body) (TT.of tt_ok pp_ok mm_ok) (fns_ok ⟨(slices_Equal_api_Dot_api_Dot.ok k), trivial⟩) mixed Tryz.func54 (by kernel_rfl) (by kernel_rfl) (by kernel_rfl) (by kernel_rfl) (by kernel_rfl) (by kernel_rfl) (fun x => by kernel_rfl)
noncomputable def op_Gone.body : Go.Code := Tryz.f63.body.getD .skip
noncomputable def op_Gone.rs : List Go.ResultVar := Tryz.f63.results.toList
def op_Gone.regs : List (Nat × RInfo) := [(0, ⟨[1], [1], [0], [], 0, [], [], [], [], []⟩), (1, ri [2] [])]
noncomputable def op_Gone.cx (k : Nat) : Cx := ⟨tt, pp, [], op_Gone.regs, k, mm⟩
@[reducible] def op_Gone.sg : Sg := ⟨[.dat tOp], [], .dat .bool, []⟩
noncomputable def op_Gone.f (k : Nat) (a0 : Ty.D tOp) : Option (Sg.Out op_Gone.sg) := Sg.fn op_Gone.sg (op_Gone.cx k) op_Gone.body op_Gone.rs a0
noncomputable def op_Gone.e (k : Nat) : Entry := Sg.entry op_Gone.sg fun x => op_Gone.f k x
theorem op_Gone.ok (k : Nat) : CallOK Tryz.prog 63 (op_Gone.e k) := fn_ok (c := op_Gone.cx k) (code := op_Gone.body) (TT.of tt_ok pp_ok mm_ok) (fns_ok trivial) mixed Tryz.func63 (by kernel_rfl) (by kernel_rfl) (by kernel_rfl) (by kernel_rfl) (by kernel_rfl) (by kernel_rfl) (fun x => by kernel_rfl)
end Go.Proofs.YthghlnmihipeoaaGreatDoor
end
section
/- The program's functions, as plain equations. -/
namespace Go.Proofs.YthghlnmihipeoaaGreatDoor
open Pal
set_option maxRecDepth 100000
noncomputable def path_Check_1.body : Go.Code := Tryz.f135.body.getD .skip
noncomputable def path_Check_1.rs : List Go.ResultVar := Tryz.f135.results.toList
def path_Check_1.regs : List (Nat × RInfo) := [(0, ri [0] []), (1, ri [2] [])]
noncomputable def path_Check_1.cx (k : Nat) : Cx := ⟨tt, pp, [(136, nameE)], path_Check_1.regs, k, mm⟩
@[reducible] def path_Check_1.sg : Sg := ⟨[.dat .str], [], .dat .bool, []⟩
noncomputable def path_Check_1.f (k : Nat) (a0 : Ty.D .str) : Option (Sg.Out path_Check_1.sg) := Sg.fn path_Check_1.sg (path_Check_1.cx k) path_Check_1.body path_Check_1.rs a0
noncomputable def path_Check_1.e (k : Nat) : Entry := Sg.entry path_Check_1.sg fun x => path_Check_1.f k x
theorem path_Check_1.ok (k : Nat) : CallOK Tryz.prog 135 (path_Check_1.e k) := fn_ok (c := path_Check_1.cx k) (code := path_Check_1.body) (TT.of tt_ok pp_ok mm_ok) (fns_ok ⟨name_ok, trivial⟩) mixed Tryz.func135 (by kernel_rfl) (by kernel_rfl) (by kernel_rfl) (by kernel_rfl) (by kernel_rfl) (by kernel_rfl) (fun x => by kernel_rfl)
noncomputable def slices_IndexFunc_string_string_path_Check_1.body : Go.Code := Tryz.f147.body.getD .skip
noncomputable def slices_IndexFunc_string_string_path_Check_1.rs : List Go.ResultVar := Tryz.f147.results.toList
def slices_IndexFunc_string_string_path_Check_1.regs : List (Nat × RInfo) := [(0, ri [0,1] []), (1, ri [0,1,7,8] []), (2, ⟨[0, 1, 7, 8, 9], [], [], [], 0, [0, 1, 7, 8], [], [], [], []⟩), (3, ri [0,1,5,7,8] []), (4, ri [0,1,5,7,8,16] [16]), (5, ri [4] []), (6, ri [0,1,7,8] []), (7, ri [4] [])]
noncomputable def slices_IndexFunc_string_string_path_Check_1.cx (k : Nat) : Cx := ⟨tt, pp, [(135, (path_Check_1.e k))], slices_IndexFunc_string_string_path_Check_1.regs, k, mm⟩
@[reducible] def slices_IndexFunc_string_string_path_Check_1.sg : Sg := ⟨[.dat (.slc .str), .fn 135 0], [], .dat (.int .i64), []⟩
noncomputable def slices_IndexFunc_string_string_path_Check_1.f (k : Nat) (a0 : Ty.D (.slc .str)) : Option (Sg.Out slices_IndexFunc_string_string_path_Check_1.sg) := Sg.fn slices_IndexFunc_string_string_path_Check_1.sg (slices_IndexFunc_string_string_path_Check_1.cx k) slices_IndexFunc_string_string_path_Check_1.body slices_IndexFunc_string_string_path_Check_1.rs a0
noncomputable def slices_IndexFunc_string_string_path_Check_1.e (k : Nat) : Entry := Sg.entry slices_IndexFunc_string_string_path_Check_1.sg fun x => slices_IndexFunc_string_string_path_Check_1.f k x
theorem slices_IndexFunc_string_string_path_Check_1.ok (k : Nat) : CallOK Tryz.prog 147 (slices_IndexFunc_string_string_path_Check_1.e k) := fn_ok (c := slices_IndexFunc_string_string_path_Check_1.cx k) (code := slices_IndexFunc_string_string_path_Check_1.body) (TT.of tt_ok pp_ok mm_ok) (fns_ok ⟨(path_Check_1.ok k), trivial⟩) mixed Tryz.func147 (by kernel_rfl) (by kernel_rfl) (by kernel_rfl) (by kernel_rfl) (by kernel_rfl) (by kernel_rfl) (fun x => by kernel_rfl)
noncomputable def slices_ContainsFunc_string_string_path_Check_1.body : Go.Code := Tryz.f134.body.getD .skip
noncomputable def slices_ContainsFunc_string_string_path_Check_1.rs : List Go.ResultVar := Tryz.f134.results.toList
def slices_ContainsFunc_string_string_path_Check_1.regs : List (Nat × RInfo) := [(0, ri [0,1] []), (1, ri [4] [])]
noncomputable def slices_ContainsFunc_string_string_path_Check_1.cx (k : Nat) : Cx := ⟨tt, pp, [(147, (slices_IndexFunc_string_string_path_Check_1.e k)), (135, (path_Check_1.e k))], slices_ContainsFunc_string_string_path_Check_1.regs, k, mm⟩
@[reducible] def slices_ContainsFunc_string_string_path_Check_1.sg : Sg := ⟨[.dat (.slc .str), .fn 135 0], [], .dat .bool, []⟩
noncomputable def slices_ContainsFunc_string_string_path_Check_1.f (k : Nat) (a0 : Ty.D (.slc .str)) : Option (Sg.Out slices_ContainsFunc_string_string_path_Check_1.sg) := Sg.fn slices_ContainsFunc_string_string_path_Check_1.sg (slices_ContainsFunc_string_string_path_Check_1.cx k) slices_ContainsFunc_string_string_path_Check_1.body slices_ContainsFunc_string_string_path_Check_1.rs a0
noncomputable def slices_ContainsFunc_string_string_path_Check_1.e (k : Nat) : Entry := Sg.entry slices_ContainsFunc_string_string_path_Check_1.sg fun x => slices_ContainsFunc_string_string_path_Check_1.f k x
theorem slices_ContainsFunc_string_string_path_Check_1.ok (k : Nat) : CallOK Tryz.prog 134 (slices_ContainsFunc_string_string_path_Check_1.e k) := fn_ok (c := slices_ContainsFunc_string_string_path_Check_1.cx k) (code := slices_ContainsFunc_string_string_path_Check_1.body) (TT.of tt_ok pp_ok mm_ok) (fns_ok ⟨(slices_IndexFunc_string_string_path_Check_1.ok k), (path_Check_1.ok k), trivial⟩) mixed Tryz.func134 (by kernel_rfl) (by kernel_rfl) (by kernel_rfl) (by kernel_rfl) (by kernel_rfl) (by kernel_rfl) (fun x => by kernel_rfl)
noncomputable def path_Check.body : Go.Code := Tryz.f115.body.getD .skip
noncomputable def path_Check.rs : List Go.ResultVar := Tryz.f115.results.toList
def path_Check.regs : List (Nat × RInfo) := [(0, ri [0] []), (1, ri [0,3] []), (2, ri [2] []), (3, ri [0,7] []), (4, ri [2] []), (5, ri [11] [13]), (6, ri [2] []), (7, ri [2] [])]
noncomputable def path_Check.cx (k : Nat) : Cx := ⟨tt, pp, [(134, (slices_ContainsFunc_string_string_path_Check_1.e k)), (135, (path_Check_1.e k))], path_Check.regs, k, mm⟩
@[reducible] def path_Check.sg : Sg := ⟨[.dat (.slc .str)], [], .dat (.int .i64), []⟩
noncomputable def path_Check.f (k : Nat) (a0 : Ty.D (.slc .str)) : Option (Sg.Out path_Check.sg) := Sg.fn path_Check.sg (path_Check.cx k) path_Check.body path_Check.rs a0
noncomputable def path_Check.e (k : Nat) : Entry := Sg.entry path_Check.sg fun x => path_Check.f k x
theorem path_Check.ok (k : Nat) : CallOK Tryz.prog 115 (path_Check.e k) := fn_ok (c := path_Check.cx k) (code := path_Check.body) (TT.of tt_ok pp_ok mm_ok) (fns_ok ⟨(slices_ContainsFunc_string_string_path_Check_1.ok k), (path_Check_1.ok k), trivial⟩) mixed Tryz.func115 (by kernel_rfl) (by kernel_rfl) (by kernel_rfl) (by kernel_rfl) (by kernel_rfl) (by kernel_rfl) (fun x => by kernel_rfl)
noncomputable def op_valued.body : Go.Code := Tryz.f116.body.getD .skip
noncomputable def op_valued.rs : List Go.ResultVar := Tryz.f116.results.toList
def op_valued.regs : List (Nat × RInfo) := [(0, ⟨[1], [1], [0], [], 0, [], [], [], [], []⟩), (1, ri [1,10] [1]), (2, ri [2] [17]), (3, ri [2] [17])]
noncomputable def op_valued.cx (k : Nat) : Cx := ⟨tt, pp, [(137, valE)], op_valued.regs, k, mm⟩
@[reducible] def op_valued.sg : Sg := ⟨[.dat tOp], [], .dat .bool, []⟩
noncomputable def op_valued.f (k : Nat) (a0 : Ty.D tOp) : Option (Sg.Out op_valued.sg) := Sg.fn op_valued.sg (op_valued.cx k) op_valued.body op_valued.rs a0
noncomputable def op_valued.e (k : Nat) : Entry := Sg.entry op_valued.sg fun x => op_valued.f k x
theorem op_valued.ok (k : Nat) : CallOK Tryz.prog 116 (op_valued.e k) := fn_ok (c := op_valued.cx k) (code := op_valued.body) (TT.of tt_ok pp_ok mm_ok) (fns_ok ⟨val_ok, trivial⟩) mixed Tryz.func116 (by kernel_rfl) (by kernel_rfl) (by kernel_rfl) (by kernel_rfl) (by kernel_rfl) (by kernel_rfl) (fun x => by kernel_rfl)
noncomputable def op_amount.body : Go.Code := Tryz.f117.body.getD .skip
noncomputable def op_amount.rs : List Go.ResultVar := Tryz.f117.results.toList
def op_amount.regs : List (Nat × RInfo) := [(0, ⟨[1], [1], [0], [], 0, [], [], [], [], []⟩), (1, ri [1,5] [1]), (2, ri [2] []), (3, ri [2] [])]
noncomputable def op_amount.cx (k : Nat) : Cx := ⟨tt, pp, [], op_amount.regs, k, mm⟩
@[reducible] def op_amount.sg : Sg := ⟨[.dat tOp], [], .dat .bool, []⟩
noncomputable def op_amount.f (k : Nat) (a0 : Ty.D tOp) : Option (Sg.Out op_amount.sg) := Sg.fn op_amount.sg (op_amount.cx k) op_amount.body op_amount.rs a0
noncomputable def op_amount.e (k : Nat) : Entry := Sg.entry op_amount.sg fun x => op_amount.f k x
theorem op_amount.ok (k : Nat) : CallOK Tryz.prog 117 (op_amount.e k) := fn_ok (c := op_amount.cx k) (code := op_amount.body) (TT.of tt_ok pp_ok mm_ok) (fns_ok trivial) mixed Tryz.func117 (by kernel_rfl) (by kernel_rfl) (by kernel_rfl) (by kernel_rfl) (by kernel_rfl) (by kernel_rfl) (fun x => by kernel_rfl)
noncomputable def dot_Refs.body : Go.Code := Tryz.f138.body.getD .skip
noncomputable def dot_Refs.rs : List Go.ResultVar := Tryz.f138.results.toList
def dot_Refs.regs : List (Nat × RInfo) := [(0, ri [2,3] [2,3]), (1, rq [4] [16] 12)]
noncomputable def dot_Refs.cx (k : Nat) : Cx := ⟨tt, pp, [(67, (dot_Compare.e k)), (99, (cmp_Compare_int.e k)), (98, (cmp_Or_int.e k))], dot_Refs.regs, k, mm⟩
@[reducible] def dot_Refs.sg : Sg := ⟨[.dat tUndo, .dat tUndo], [], .dat (.int .i64), []⟩
noncomputable def dot_Refs.f (k : Nat) (a0 : Ty.D tUndo) (a1 : Ty.D tUndo) : Option (Sg.Out dot_Refs.sg) := Sg.fn dot_Refs.sg (dot_Refs.cx k) dot_Refs.body dot_Refs.rs (a0, a1)
noncomputable def dot_Refs.e (k : Nat) : Entry := Sg.entry dot_Refs.sg fun x => dot_Refs.f k x.1 x.2
theorem dot_Refs.ok (k : Nat) : CallOK Tryz.prog 138 (dot_Refs.e k) := fn_ok (c := dot_Refs.cx k) (code := dot_Refs.body) (TT.of tt_ok pp_ok mm_ok) (fns_ok ⟨(dot_Compare.ok k), (cmp_Compare_int.ok k), (cmp_Or_int.ok k), trivial⟩) mixed Tryz.func138 (by kernel_rfl) (by kernel_rfl) (by kernel_rfl) (by kernel_rfl) (by kernel_rfl) (by kernel_rfl) (fun x => by kernel_rfl)
noncomputable def op_Refs.body : Go.Code := Tryz.f118.body.getD .skip
noncomputable def op_Refs.rs : List Go.ResultVar := Tryz.f118.results.toList
def op_Refs.regs : List (Nat × RInfo) := [(0, ri [0] []), (1, ri [0,5,6,7] []), (2, ⟨[0, 5, 6, 7, 8], [], [], [], 0, [0, 5, 6, 7], [], [], [], []⟩), (3, ri [0,3,4,5,6,7] [4]), (4, rq [0,5,6,7,39] [] 28), (5, ri [2] []), (6, ri [0,5,6,7] []), (7, ri [2] [])]
noncomputable def op_Refs.cx (k : Nat) : Cx := ⟨tt, pp, [(61, (dot_Right.e k)), (138, (dot_Refs.e k))], op_Refs.regs, k, mm⟩
@[reducible] def op_Refs.sg : Sg := ⟨[.dat (.slc tUndo)], [], .dat .bool, []⟩
noncomputable def op_Refs.f (k : Nat) (a0 : Ty.D (.slc tUndo)) : Option (Sg.Out op_Refs.sg) := Sg.fn op_Refs.sg (op_Refs.cx k) op_Refs.body op_Refs.rs a0
noncomputable def op_Refs.e (k : Nat) : Entry := Sg.entry op_Refs.sg fun x => op_Refs.f k x
theorem op_Refs.ok (k : Nat) : CallOK Tryz.prog 118 (op_Refs.e k) := fn_ok (c := op_Refs.cx k) (code := op_Refs.body) (TT.of tt_ok pp_ok mm_ok) (fns_ok ⟨(dot_Right.ok k), (dot_Refs.ok k), trivial⟩) mixed Tryz.func118 (by kernel_rfl) (by kernel_rfl) (by kernel_rfl) (by kernel_rfl) (by kernel_rfl) (by kernel_rfl) (fun x => by kernel_rfl)
noncomputable def op_Check.body : Go.Code := Tryz.f93.body.getD .skip
noncomputable def op_Check.rs : List Go.ResultVar := Tryz.f93.results.toList
def op_Check.regs : List (Nat × RInfo) := [(0, ⟨[1], [1], [0], [], 0, [], [], [], [], []⟩), (1, ri [1,12] [1]), (2, ri [2] [15]), (3, ri [1,3] [1,15]), (4, ri [1,3,17] [1,15]), (5, ri [2] [15]), (6, ri [1,4] [1]), (7, ri [1,4,32] [1]), (8, ri [1,4,32] [1]), (9, ri [1,32] [1]), (10, ri [2] [15]), (11, ri [1,47] [1]), (12, ri [2] [15]), (13, ri [52] []), (14, ri [2] [15]), (15, ri [2] [15])]
noncomputable def op_Check.cx (k : Nat) : Cx := ⟨tt, pp, [(115, (path_Check.e k)), (116, (op_valued.e k)), (117, (op_amount.e k)), (118, (op_Refs.e k))], op_Check.regs, k, mm⟩
@[reducible] def op_Check.sg : Sg := ⟨[.dat tOp], [], .dat (.int .i64), []⟩
noncomputable def op_Check.f (k : Nat) (a0 : Ty.D tOp) : Option (Sg.Out op_Check.sg) := Sg.fn op_Check.sg (op_Check.cx k) op_Check.body op_Check.rs a0
noncomputable def op_Check.e (k : Nat) : Entry := Sg.entry op_Check.sg fun x => op_Check.f k x
theorem op_Check.ok (k : Nat) : CallOK Tryz.prog 93 (op_Check.e k) := fn_ok (c := op_Check.cx k) (code := op_Check.body) (TT.of tt_ok pp_ok mm_ok) (fns_ok ⟨(path_Check.ok k), (op_valued.ok k), (op_amount.ok k), (op_Refs.ok k), trivial⟩) mixed Tryz.func93 (by kernel_rfl) (by kernel_rfl) (by kernel_rfl) (by kernel_rfl) (by kernel_rfl) (by kernel_rfl) (fun x => by kernel_rfl)
noncomputable def txn_Check.body : Go.Code := Tryz.f58.body.getD .skip
noncomputable def txn_Check.rs : List Go.ResultVar := Tryz.f58.results.toList
def txn_Check.regs : List (Nat × RInfo) := [(0, ⟨[1], [1], [0], [], 0, [], [], [], [], []⟩), (1, ri [1,6] [1]), (2, ri [1,6] [1]), (3, ri [1,6] [1]), (4, ri [2] [51]), (5, ri [1,27] [1]), (6, ri [2] [51]), (7, ri [1,32] [1]), (8, ri [2] [51]), (9, ri [1,38,39,40] [1]), (10, ⟨[1, 38, 39, 40, 41], [1], [], [], 0, [1, 38, 39, 40], [1], [], [], []⟩), (11, ⟨[1, 4, 38, 39, 40], [1, 4], [3], [], 0, [], [], [], [], []⟩), (12, ri [1,4,38,39,40,49] [1,4,48]), (13, ri [1,5,38,39,40] [1,51]), (14, ri [1,5,38,39,40,53] [1,51]), (15, ri [2] [51]), (16, ri [1,38,39,40] [1]), (17, ri [2] [51])]
noncomputable def txn_Check.cx (k : Nat) : Cx := ⟨tt, pp, [(61, (dot_Right.e k)), (63, (op_Gone.e k)), (93, (op_Check.e k))], txn_Check.regs, k, mm⟩
@[reducible] def txn_Check.sg : Sg := ⟨[.dat tTxn], [], .dat (.int .i64), []⟩
noncomputable def txn_Check.f (k : Nat) (a0 : Ty.D tTxn) : Option (Sg.Out txn_Check.sg) := Sg.fn txn_Check.sg (txn_Check.cx k) txn_Check.body txn_Check.rs a0
noncomputable def txn_Check.e (k : Nat) : Entry := Sg.entry txn_Check.sg fun x => txn_Check.f k x
theorem txn_Check.ok (k : Nat) : CallOK Tryz.prog 58 (txn_Check.e k) := fn_ok (c := txn_Check.cx k) (code := txn_Check.body) (TT.of tt_ok pp_ok mm_ok) (fns_ok ⟨(dot_Right.ok k), (op_Gone.ok k), (op_Check.ok k), trivial⟩) mixed Tryz.func58 (by kernel_rfl) (by kernel_rfl) (by kernel_rfl) (by kernel_rfl) (by kernel_rfl) (by kernel_rfl) (fun x => by kernel_rfl)
noncomputable def state_Right_1.body : Go.Code := Tryz.f57.body.getD .skip
noncomputable def state_Right_1.rs : List Go.ResultVar := Tryz.f57.results.toList
def state_Right_1.regs : List (Nat × RInfo) := [(0, ⟨[1], [1], [0], [], 0, [], [], [], [], []⟩), (1, ri [2] [])]
noncomputable def state_Right_1.cx (k : Nat) : Cx := ⟨tt, pp, [(58, (txn_Check.e k))], state_Right_1.regs, k, mm⟩
@[reducible] def state_Right_1.sg : Sg := ⟨[.dat tTxn], [], .dat .bool, []⟩
noncomputable def state_Right_1.f (k : Nat) (a0 : Ty.D tTxn) : Option (Sg.Out state_Right_1.sg) := Sg.fn state_Right_1.sg (state_Right_1.cx k) state_Right_1.body state_Right_1.rs a0
noncomputable def state_Right_1.e (k : Nat) : Entry := Sg.entry state_Right_1.sg fun x => state_Right_1.f k x
theorem state_Right_1.ok (k : Nat) : CallOK Tryz.prog 57 (state_Right_1.e k) := fn_ok (c := state_Right_1.cx k) (code := state_Right_1.body) (TT.of tt_ok pp_ok mm_ok) (fns_ok ⟨(txn_Check.ok k), trivial⟩) mixed Tryz.func57 (by kernel_rfl) (by kernel_rfl) (by kernel_rfl) (by kernel_rfl) (by kernel_rfl) (by kernel_rfl) (fun x => by kernel_rfl)
noncomputable def slices_IndexFunc_api_Txn_api_Txn_state_Right_1.body : Go.Code := Tryz.f92.body.getD .skip
noncomputable def slices_IndexFunc_api_Txn_api_Txn_state_Right_1.rs : List Go.ResultVar := Tryz.f92.results.toList
def slices_IndexFunc_api_Txn_api_Txn_state_Right_1.regs : List (Nat × RInfo) := [(0, ri [0,1] []), (1, ri [0,1,7,8] []), (2, ⟨[0, 1, 7, 8, 9], [], [], [], 0, [0, 1, 7, 8], [], [], [], []⟩), (3, ri [0,1,5,7,8] []), (4, ri [0,1,5,7,8,16] [16]), (5, ri [4] []), (6, ri [0,1,7,8] []), (7, ri [4] [])]
noncomputable def slices_IndexFunc_api_Txn_api_Txn_state_Right_1.cx (k : Nat) : Cx := ⟨tt, pp, [(57, (state_Right_1.e k))], slices_IndexFunc_api_Txn_api_Txn_state_Right_1.regs, k, mm⟩
@[reducible] def slices_IndexFunc_api_Txn_api_Txn_state_Right_1.sg : Sg := ⟨[.dat (.slc tTxn), .fn 57 0], [], .dat (.int .i64), []⟩
noncomputable def slices_IndexFunc_api_Txn_api_Txn_state_Right_1.f (k : Nat) (a0 : Ty.D (.slc tTxn)) : Option (Sg.Out slices_IndexFunc_api_Txn_api_Txn_state_Right_1.sg) := Sg.fn slices_IndexFunc_api_Txn_api_Txn_state_Right_1.sg (slices_IndexFunc_api_Txn_api_Txn_state_Right_1.cx k) slices_IndexFunc_api_Txn_api_Txn_state_Right_1.body slices_IndexFunc_api_Txn_api_Txn_state_Right_1.rs a0
noncomputable def slices_IndexFunc_api_Txn_api_Txn_state_Right_1.e (k : Nat) : Entry := Sg.entry slices_IndexFunc_api_Txn_api_Txn_state_Right_1.sg fun x => slices_IndexFunc_api_Txn_api_Txn_state_Right_1.f k x
theorem slices_IndexFunc_api_Txn_api_Txn_state_Right_1.ok (k : Nat) : CallOK Tryz.prog 92 (slices_IndexFunc_api_Txn_api_Txn_state_Right_1.e k) := fn_ok (c := slices_IndexFunc_api_Txn_api_Txn_state_Right_1.cx k) (code := slices_IndexFunc_api_Txn_api_Txn_state_Right_1.body) (TT.of tt_ok pp_ok mm_ok) (fns_ok ⟨(state_Right_1.ok k), trivial⟩) mixed Tryz.func92 (by kernel_rfl) (by kernel_rfl) (by kernel_rfl) (by kernel_rfl) (by kernel_rfl) (by kernel_rfl) (fun x => by kernel_rfl)
noncomputable def slices_ContainsFunc_api_Txn_api_Txn_state_Right_1.body : Go.Code := Tryz.f56.body.getD .skip
noncomputable def slices_ContainsFunc_api_Txn_api_Txn_state_Right_1.rs : List Go.ResultVar := Tryz.f56.results.toList
def slices_ContainsFunc_api_Txn_api_Txn_state_Right_1.regs : List (Nat × RInfo) := [(0, ri [0,1] []), (1, ri [4] [])]
noncomputable def slices_ContainsFunc_api_Txn_api_Txn_state_Right_1.cx (k : Nat) : Cx := ⟨tt, pp, [(92, (slices_IndexFunc_api_Txn_api_Txn_state_Right_1.e k)), (57, (state_Right_1.e k))], slices_ContainsFunc_api_Txn_api_Txn_state_Right_1.regs, k, mm⟩
@[reducible] def slices_ContainsFunc_api_Txn_api_Txn_state_Right_1.sg : Sg := ⟨[.dat (.slc tTxn), .fn 57 0], [], .dat .bool, []⟩
noncomputable def slices_ContainsFunc_api_Txn_api_Txn_state_Right_1.f (k : Nat) (a0 : Ty.D (.slc tTxn)) : Option (Sg.Out slices_ContainsFunc_api_Txn_api_Txn_state_Right_1.sg) := Sg.fn slices_ContainsFunc_api_Txn_api_Txn_state_Right_1.sg (slices_ContainsFunc_api_Txn_api_Txn_state_Right_1.cx k) slices_ContainsFunc_api_Txn_api_Txn_state_Right_1.body slices_ContainsFunc_api_Txn_api_Txn_state_Right_1.rs a0
noncomputable def slices_ContainsFunc_api_Txn_api_Txn_state_Right_1.e (k : Nat) : Entry := Sg.entry slices_ContainsFunc_api_Txn_api_Txn_state_Right_1.sg fun x => slices_ContainsFunc_api_Txn_api_Txn_state_Right_1.f k x
theorem slices_ContainsFunc_api_Txn_api_Txn_state_Right_1.ok (k : Nat) : CallOK Tryz.prog 56 (slices_ContainsFunc_api_Txn_api_Txn_state_Right_1.e k) := fn_ok (c := slices_ContainsFunc_api_Txn_api_Txn_state_Right_1.cx k) (code := slices_ContainsFunc_api_Txn_api_Txn_state_Right_1.body) (TT.of tt_ok pp_ok mm_ok) (fns_ok ⟨(slices_IndexFunc_api_Txn_api_Txn_state_Right_1.ok k), (state_Right_1.ok k), trivial⟩) mixed Tryz.func56 (by kernel_rfl) (by kernel_rfl) (by kernel_rfl) (by kernel_rfl) (by kernel_rfl) (by kernel_rfl) (fun x => by kernel_rfl)
noncomputable def state_Right_2.body : Go.Code := Tryz.f60.body.getD .skip
noncomputable def state_Right_2.rs : List Go.ResultVar := Tryz.f60.results.toList
def state_Right_2.regs : List (Nat × RInfo) := [(0, ri [1] [1]), (1, ri [2] [])]
noncomputable def state_Right_2.cx (k : Nat) : Cx := ⟨tt, pp, [(61, (dot_Right.e k))], state_Right_2.regs, k, mm⟩
@[reducible] def state_Right_2.sg : Sg := ⟨[.dat tDot], [], .dat .bool, []⟩
noncomputable def state_Right_2.f (k : Nat) (a0 : Ty.D tDot) : Option (Sg.Out state_Right_2.sg) := Sg.fn state_Right_2.sg (state_Right_2.cx k) state_Right_2.body state_Right_2.rs a0
noncomputable def state_Right_2.e (k : Nat) : Entry := Sg.entry state_Right_2.sg fun x => state_Right_2.f k x
theorem state_Right_2.ok (k : Nat) : CallOK Tryz.prog 60 (state_Right_2.e k) := fn_ok (c := state_Right_2.cx k) (code := state_Right_2.body) (TT.of tt_ok pp_ok mm_ok) (fns_ok ⟨(dot_Right.ok k), trivial⟩) mixed Tryz.func60 (by kernel_rfl) (by kernel_rfl) (by kernel_rfl) (by kernel_rfl) (by kernel_rfl) (by kernel_rfl) (fun x => by kernel_rfl)
noncomputable def slices_IndexFunc_api_Dot_api_Dot_state_Right_2.body : Go.Code := Tryz.f94.body.getD .skip
noncomputable def slices_IndexFunc_api_Dot_api_Dot_state_Right_2.rs : List Go.ResultVar := Tryz.f94.results.toList
def slices_IndexFunc_api_Dot_api_Dot_state_Right_2.regs : List (Nat × RInfo) := [(0, ri [0,1] []), (1, ri [0,1,7,8] []), (2, ⟨[0, 1, 7, 8, 9], [], [], [], 0, [0, 1, 7, 8], [], [], [], []⟩), (3, ri [0,1,5,7,8] []), (4, ri [0,1,5,7,8,16] [16]), (5, ri [4] []), (6, ri [0,1,7,8] []), (7, ri [4] [])]
noncomputable def slices_IndexFunc_api_Dot_api_Dot_state_Right_2.cx (k : Nat) : Cx := ⟨tt, pp, [(60, (state_Right_2.e k))], slices_IndexFunc_api_Dot_api_Dot_state_Right_2.regs, k, mm⟩
@[reducible] def slices_IndexFunc_api_Dot_api_Dot_state_Right_2.sg : Sg := ⟨[.dat (.slc tDot), .fn 60 0], [], .dat (.int .i64), []⟩
noncomputable def slices_IndexFunc_api_Dot_api_Dot_state_Right_2.f (k : Nat) (a0 : Ty.D (.slc tDot)) : Option (Sg.Out slices_IndexFunc_api_Dot_api_Dot_state_Right_2.sg) := Sg.fn slices_IndexFunc_api_Dot_api_Dot_state_Right_2.sg (slices_IndexFunc_api_Dot_api_Dot_state_Right_2.cx k) slices_IndexFunc_api_Dot_api_Dot_state_Right_2.body slices_IndexFunc_api_Dot_api_Dot_state_Right_2.rs a0
noncomputable def slices_IndexFunc_api_Dot_api_Dot_state_Right_2.e (k : Nat) : Entry := Sg.entry slices_IndexFunc_api_Dot_api_Dot_state_Right_2.sg fun x => slices_IndexFunc_api_Dot_api_Dot_state_Right_2.f k x
theorem slices_IndexFunc_api_Dot_api_Dot_state_Right_2.ok (k : Nat) : CallOK Tryz.prog 94 (slices_IndexFunc_api_Dot_api_Dot_state_Right_2.e k) := fn_ok (c := slices_IndexFunc_api_Dot_api_Dot_state_Right_2.cx k) (code := slices_IndexFunc_api_Dot_api_Dot_state_Right_2.body) (TT.of tt_ok pp_ok mm_ok) (fns_ok ⟨(state_Right_2.ok k), trivial⟩) mixed Tryz.func94 (by kernel_rfl) (by kernel_rfl) (by kernel_rfl) (by kernel_rfl) (by kernel_rfl) (by kernel_rfl) (fun x => by kernel_rfl)
noncomputable def slices_ContainsFunc_api_Dot_api_Dot_state_Right_2.body : Go.Code := Tryz.f59.body.getD .skip
noncomputable def slices_ContainsFunc_api_Dot_api_Dot_state_Right_2.rs : List Go.ResultVar := Tryz.f59.results.toList
def slices_ContainsFunc_api_Dot_api_Dot_state_Right_2.regs : List (Nat × RInfo) := [(0, ri [0,1] []), (1, ri [4] [])]
noncomputable def slices_ContainsFunc_api_Dot_api_Dot_state_Right_2.cx (k : Nat) : Cx := ⟨tt, pp, [(94, (slices_IndexFunc_api_Dot_api_Dot_state_Right_2.e k)), (60, (state_Right_2.e k))], slices_ContainsFunc_api_Dot_api_Dot_state_Right_2.regs, k, mm⟩
@[reducible] def slices_ContainsFunc_api_Dot_api_Dot_state_Right_2.sg : Sg := ⟨[.dat (.slc tDot), .fn 60 0], [], .dat .bool, []⟩
noncomputable def slices_ContainsFunc_api_Dot_api_Dot_state_Right_2.f (k : Nat) (a0 : Ty.D (.slc tDot)) : Option (Sg.Out slices_ContainsFunc_api_Dot_api_Dot_state_Right_2.sg) := Sg.fn slices_ContainsFunc_api_Dot_api_Dot_state_Right_2.sg (slices_ContainsFunc_api_Dot_api_Dot_state_Right_2.cx k) slices_ContainsFunc_api_Dot_api_Dot_state_Right_2.body slices_ContainsFunc_api_Dot_api_Dot_state_Right_2.rs a0
noncomputable def slices_ContainsFunc_api_Dot_api_Dot_state_Right_2.e (k : Nat) : Entry := Sg.entry slices_ContainsFunc_api_Dot_api_Dot_state_Right_2.sg fun x => slices_ContainsFunc_api_Dot_api_Dot_state_Right_2.f k x
theorem slices_ContainsFunc_api_Dot_api_Dot_state_Right_2.ok (k : Nat) : CallOK Tryz.prog 59 (slices_ContainsFunc_api_Dot_api_Dot_state_Right_2.e k) := fn_ok (c := slices_ContainsFunc_api_Dot_api_Dot_state_Right_2.cx k) (code := slices_ContainsFunc_api_Dot_api_Dot_state_Right_2.body) (TT.of tt_ok pp_ok mm_ok) (fns_ok ⟨(slices_IndexFunc_api_Dot_api_Dot_state_Right_2.ok k), (state_Right_2.ok k), trivial⟩) mixed Tryz.func59 (by kernel_rfl) (by kernel_rfl) (by kernel_rfl) (by kernel_rfl) (by kernel_rfl) (by kernel_rfl) (fun x => by kernel_rfl)
noncomputable def vec_Right.body : Go.Code := Tryz.f95.body.getD .skip
noncomputable def vec_Right.rs : List Go.ResultVar := Tryz.f95.results.toList
def vec_Right.regs : List (Nat × RInfo) := [(0, ri [1] [1]), (1, ri [5,6] []), (2, ⟨[5, 6, 7], [], [], [], 0, [5, 6], [], [], [], []⟩), (3, ri [4,5,6] []), (4, ri [5,6,14] []), (5, ri [2] []), (6, ri [5,6] []), (7, ri [2] [])]
noncomputable def vec_Right.cx (k : Nat) : Cx := ⟨tt, pp, [], vec_Right.regs, k, mm⟩
@[reducible] def vec_Right.sg : Sg := ⟨[.dat tVec], [], .dat .bool, []⟩
noncomputable def vec_Right.f (k : Nat) (a0 : Ty.D tVec) : Option (Sg.Out vec_Right.sg) := Sg.fn vec_Right.sg (vec_Right.cx k) vec_Right.body vec_Right.rs a0
noncomputable def vec_Right.e (k : Nat) : Entry := Sg.entry vec_Right.sg fun x => vec_Right.f k x
theorem vec_Right.ok (k : Nat) : CallOK Tryz.prog 95 (vec_Right.e k) := fn_ok (c := vec_Right.cx k) (code := vec_Right.body) (TT.of tt_ok pp_ok mm_ok) (fns_ok trivial) mixed Tryz.func95 (by kernel_rfl) (by kernel_rfl) (by kernel_rfl) (by kernel_rfl) (by kernel_rfl) (by kernel_rfl) (fun x => by kernel_rfl)
noncomputable def dots_Right.body : Go.Code := Tryz.f62.body.getD .skip
noncomputable def dots_Right.rs : List Go.ResultVar := Tryz.f62.results.toList
def dots_Right.regs : List (Nat × RInfo) := [(0, ⟨[1], [1], [0], [], 0, [], [], [], [], []⟩), (1, ri [1,14] [1]), (2, ri [2] []), (3, ri [1,16,17,18] [1]), (4, ⟨[1, 16, 17, 18, 19], [1], [], [], 0, [1, 16, 17, 18], [1], [], [], []⟩), (5, ri [1,3,4,16,17,18] [1,4]), (6, rq [1,16,17,18,51] [1] 29), (7, ri [2] []), (8, ri [1,16,17,18] [1]), (9, ri [2] [])]
noncomputable def dots_Right.cx (k : Nat) : Cx := ⟨tt, pp, [(95, (vec_Right.e k)), (61, (dot_Right.e k)), (67, (dot_Compare.e k))], dots_Right.regs, k, mm⟩
@[reducible] def dots_Right.sg : Sg := ⟨[.dat tDots], [], .dat .bool, []⟩
noncomputable def dots_Right.f (k : Nat) (a0 : Ty.D tDots) : Option (Sg.Out dots_Right.sg) := Sg.fn dots_Right.sg (dots_Right.cx k) dots_Right.body dots_Right.rs a0
noncomputable def dots_Right.e (k : Nat) : Entry := Sg.entry dots_Right.sg fun x => dots_Right.f k x
theorem dots_Right.ok (k : Nat) : CallOK Tryz.prog 62 (dots_Right.e k) := fn_ok (c := dots_Right.cx k) (code := dots_Right.body) (TT.of tt_ok pp_ok mm_ok) (fns_ok ⟨(vec_Right.ok k), (dot_Right.ok k), (dot_Compare.ok k), trivial⟩) mixed Tryz.func62 (by kernel_rfl) (by kernel_rfl) (by kernel_rfl) (by kernel_rfl) (by kernel_rfl) (by kernel_rfl) (fun x => by kernel_rfl)
noncomputable def state_Right.body : Go.Code := Tryz.f25.body.getD .skip
noncomputable def state_Right.rs : List Go.ResultVar := Tryz.f25.results.toList
def state_Right.regs : List (Nat × RInfo) := [(0, ⟨[1], [1], [0], [], 0, [], [], [], [], []⟩), (1, rq [1,30] [1] 26), (2, ri [2] [49,53]), (3, ri [1,33] [1,33]), (4, ri [2] [49,53]), (5, ri [1,35,36] [1]), (6, ⟨[1, 35, 36, 37], [1], [], [], 0, [1, 35, 36], [1], [], [], []⟩), (7, ⟨[1, 4, 35, 36], [1], [1], [], 0, [], [], [], [], []⟩), (8, ri [1,35,36,45] [1,44]), (9, ri [2] [49,53]), (10, ri [1,35,36] [1]), (11, ri [2] [49,53])]
noncomputable def state_Right.cx (k : Nat) : Cx := ⟨tt, pp, [(52, (txn_Rises.e k)), (53, (tally_Right.e k)), (55, (state_names.e k)), (34, (dots_Of.e k)), (54, (dots_Same.e k)), (56, (slices_ContainsFunc_api_Txn_api_Txn_state_Right_1.e k)), (57, (state_Right_1.e k)), (59, (slices_ContainsFunc_api_Dot_api_Dot_state_Right_2.e k)), (60, (state_Right_2.e k)), (62, (dots_Right.e k))], state_Right.regs, k, mm⟩
@[reducible] def state_Right.sg : Sg := ⟨[.dat tState], [], .dat .bool, []⟩
noncomputable def state_Right.f (k : Nat) (a0 : Ty.D tState) : Option (Sg.Out state_Right.sg) := Sg.fn state_Right.sg (state_Right.cx k) state_Right.body state_Right.rs a0
noncomputable def state_Right.e (k : Nat) : Entry := Sg.entry state_Right.sg fun x => state_Right.f k x
theorem state_Right.ok (k : Nat) : CallOK Tryz.prog 25 (state_Right.e k) := fn_ok (c := state_Right.cx k) (code := state_Right.body) (TT.of tt_ok pp_ok mm_ok) (fns_ok ⟨(txn_Rises.ok k), (tally_Right.ok k), (state_names.ok k), (dots_Of.ok k), (dots_Same.ok k), (slices_ContainsFunc_api_Txn_api_Txn_state_Right_1.ok k), (state_Right_1.ok k), (slices_ContainsFunc_api_Dot_api_Dot_state_Right_2.ok k), (state_Right_2.ok k), (dots_Right.ok k), trivial⟩) mixed Tryz.func25 (by kernel_rfl) (by kernel_rfl) (by kernel_rfl) (by kernel_rfl) (by kernel_rfl) (by kernel_rfl) (fun x => by kernel_rfl)
noncomputable def state_Time.body : Go.Code := Tryz.f26.body.getD .skip
noncomputable def state_Time.rs : List Go.ResultVar := Tryz.f26.results.toList
def state_Time.regs : List (Nat × RInfo) := [(0, ⟨[1], [1], [0], [], 0, [], [], [], [], []⟩), (1, ri [1,3] [1]), (2, ri [3,7,8,9] []), (3, ⟨[3, 7, 8, 9, 10], [], [], [], 0, [3, 7, 8, 9], [], [], [], []⟩), (4, ⟨[3, 5, 7, 8, 9], [5], [3], [], 0, [], [], [], [], []⟩), (5, ri [3,7,8,9] []), (6, ri [3,7,8,9] []), (7, ri [2] [])]
noncomputable def state_Time.cx (k : Nat) : Cx := ⟨tt, pp, [], state_Time.regs, k, mm⟩
@[reducible] def state_Time.sg : Sg := ⟨[.dat tState], [], .dat (.int .i64), []⟩
noncomputable def state_Time.f (k : Nat) (a0 : Ty.D tState) : Option (Sg.Out state_Time.sg) := Sg.fn state_Time.sg (state_Time.cx k) state_Time.body state_Time.rs a0
noncomputable def state_Time.e (k : Nat) : Entry := Sg.entry state_Time.sg fun x => state_Time.f k x
theorem state_Time.ok (k : Nat) : CallOK Tryz.prog 26 (state_Time.e k) := fn_ok (c := state_Time.cx k) (code := state_Time.body) (TT.of tt_ok pp_ok mm_ok) (fns_ok trivial) mixed Tryz.func26 (by kernel_rfl) (by kernel_rfl) (by kernel_rfl) (by kernel_rfl) (by kernel_rfl) (by kernel_rfl) (fun x => by kernel_rfl)
noncomputable def state_Cells.body : Go.Code := Tryz.f27.body.getD .skip
noncomputable def state_Cells.rs : List Go.ResultVar := Tryz.f27.results.toList
def state_Cells.regs : List (Nat × RInfo) := [(0, ⟨[1], [1], [0], [], 0, [], [], [], [], []⟩), (1, ri [1,3] [1]), (2, ri [3,9,10,11] []), (3, ⟨[3, 9, 10, 11, 12], [], [], [], 0, [3, 9, 10, 11], [], [], [], []⟩), (4, ⟨[3, 5, 9, 10, 11], [5], [3], [], 0, [], [], [], [], []⟩), (5, ri [3,9,10,11,16,17,18] []), (6, ⟨[3, 9, 10, 11, 16, 17, 18, 19], [], [], [], 0, [3, 9, 10, 11, 16, 17, 18], [], [], [], []⟩), (7, ⟨[3, 7, 9, 10, 11, 16, 17, 18], [7], [3], [], 0, [], [], [], [], []⟩), (8, ri [3,9,10,11,16,17,18,24] []), (9, ri [3,9,10,11,16,17,18] []), (10, ri [3,9,10,11,16,17,18] []), (11, ri [3,9,10,11] []), (12, ri [2] [])]
noncomputable def state_Cells.cx (k : Nat) : Cx := ⟨tt, pp, [(63, (op_Gone.e k))], state_Cells.regs, k, mm⟩
@[reducible] def state_Cells.sg : Sg := ⟨[.dat tState], [], .dat (.int .i64), []⟩
noncomputable def state_Cells.f (k : Nat) (a0 : Ty.D tState) : Option (Sg.Out state_Cells.sg) := Sg.fn state_Cells.sg (state_Cells.cx k) state_Cells.body state_Cells.rs a0
noncomputable def state_Cells.e (k : Nat) : Entry := Sg.entry state_Cells.sg fun x => state_Cells.f k x
theorem state_Cells.ok (k : Nat) : CallOK Tryz.prog 27 (state_Cells.e k) := fn_ok (c := state_Cells.cx k) (code := state_Cells.body) (TT.of tt_ok pp_ok mm_ok) (fns_ok ⟨(op_Gone.ok k), trivial⟩) mixed Tryz.func27 (by kernel_rfl) (by kernel_rfl) (by kernel_rfl) (by kernel_rfl) (by kernel_rfl) (by kernel_rfl) (fun x => by kernel_rfl)
noncomputable def slices_BinarySearchFunc_api_Undo_api_Undo_api_Undo_tally_compare.body : Go.Code := Tryz.f150.body.getD .skip
noncomputable def slices_BinarySearchFunc_api_Undo_api_Undo_api_Undo_tally_compare.rs : List Go.ResultVar := Tryz.f150.results.toList
def slices_BinarySearchFunc_api_Undo_api_Undo_api_Undo_tally_compare.regs : List (Nat × RInfo) := [(0, ri [0,2,4] [4]), (1, ri [0,2,4,8] [4]), (2, ri [0,2,4,8,9,10] [4]), (3, ⟨[0, 2, 4, 8, 9, 10, 17], [4], [], [], 0, [0, 2, 4, 8, 9, 10], [4], [], [], []⟩), (4, ri [0,2,4,8,9,10,11] [4]), (5, ⟨[0, 2, 4, 8, 9, 10, 11, 31], [4], [], [], 8, [], [], [], [[], [], [], [], [], [], [4, 5], [6, 4, 5]], []⟩), (6, ri [0,2,4,8,9,10] [4]), (7, ri [0,2,4,8,9,10] [4]), (8, ⟨[6, 7], [], [], [], 15, [], [], [], [[], [], [], [], [], [], [], [], [], [], [], [9, 10], [11, 9, 10], [11, 9, 10], [11, 9, 10], [11, 9, 10]], []⟩)]
noncomputable def slices_BinarySearchFunc_api_Undo_api_Undo_api_Undo_tally_compare.cx (k : Nat) : Cx := ⟨tt, pp, [(76, (tally_compare.e k))], slices_BinarySearchFunc_api_Undo_api_Undo_api_Undo_tally_compare.regs, k, mm⟩
@[reducible] def slices_BinarySearchFunc_api_Undo_api_Undo_api_Undo_tally_compare.sg : Sg := ⟨[.dat (.slc tUndo), .dat tUndo, .fn 76 0], [], .t2 (.dat (.int .i64)) (.dat .bool), []⟩
noncomputable def slices_BinarySearchFunc_api_Undo_api_Undo_api_Undo_tally_compare.f (k : Nat) (a0 : Ty.D (.slc tUndo)) (a1 : Ty.D tUndo) : Option (Sg.Out slices_BinarySearchFunc_api_Undo_api_Undo_api_Undo_tally_compare.sg) := Sg.fn slices_BinarySearchFunc_api_Undo_api_Undo_api_Undo_tally_compare.sg (slices_BinarySearchFunc_api_Undo_api_Undo_api_Undo_tally_compare.cx k) slices_BinarySearchFunc_api_Undo_api_Undo_api_Undo_tally_compare.body slices_BinarySearchFunc_api_Undo_api_Undo_api_Undo_tally_compare.rs (a0, a1)
noncomputable def slices_BinarySearchFunc_api_Undo_api_Undo_api_Undo_tally_compare.e (k : Nat) : Entry := Sg.entry slices_BinarySearchFunc_api_Undo_api_Undo_api_Undo_tally_compare.sg fun x => slices_BinarySearchFunc_api_Undo_api_Undo_api_Undo_tally_compare.f k x.1 x.2
theorem slices_BinarySearchFunc_api_Undo_api_Undo_api_Undo_tally_compare.ok (k : Nat) : CallOK Tryz.prog 150 (slices_BinarySearchFunc_api_Undo_api_Undo_api_Undo_tally_compare.e k) := fn_ok (c := slices_BinarySearchFunc_api_Undo_api_Undo_api_Undo_tally_compare.cx k) (code := slices_BinarySearchFunc_api_Undo_api_Undo_api_Undo_tally_compare.body) (TT.of tt_ok pp_ok mm_ok) (fns_ok ⟨(tally_compare.ok k), trivial⟩) mixed Tryz.func150 (by kernel_rfl) (by kernel_rfl) (by kernel_rfl) (by kernel_rfl) (by kernel_rfl) (by kernel_rfl) (fun x => by kernel_rfl)
noncomputable def tally_at.body : Go.Code := Tryz.f139.body.getD .skip
noncomputable def tally_at.rs : List Go.ResultVar := Tryz.f139.results.toList
def tally_at.regs : List (Nat × RInfo) := [(0, ri [0,3] [3]), (1, ri [4,5] [9])]
noncomputable def tally_at.cx (k : Nat) : Cx := ⟨tt, pp, [(150, (slices_BinarySearchFunc_api_Undo_api_Undo_api_Undo_tally_compare.e k)), (76, (tally_compare.e k))], tally_at.regs, k, mm⟩
@[reducible] def tally_at.sg : Sg := ⟨[.dat (.slc tUndo), .dat tDot], [], .t2 (.dat (.int .i64)) (.dat .bool), []⟩
noncomputable def tally_at.f (k : Nat) (a0 : Ty.D (.slc tUndo)) (a1 : Ty.D tDot) : Option (Sg.Out tally_at.sg) := Sg.fn tally_at.sg (tally_at.cx k) tally_at.body tally_at.rs (a0, a1)
noncomputable def tally_at.e (k : Nat) : Entry := Sg.entry tally_at.sg fun x => tally_at.f k x.1 x.2
theorem tally_at.ok (k : Nat) : CallOK Tryz.prog 139 (tally_at.e k) := fn_ok (c := tally_at.cx k) (code := tally_at.body) (TT.of tt_ok pp_ok mm_ok) (fns_ok ⟨(slices_BinarySearchFunc_api_Undo_api_Undo_api_Undo_tally_compare.ok k), (tally_compare.ok k), trivial⟩) mixed Tryz.func139 (by kernel_rfl) (by kernel_rfl) (by kernel_rfl) (by kernel_rfl) (by kernel_rfl) (by kernel_rfl) (fun x => by kernel_rfl)
noncomputable def tally_Get.body : Go.Code := Tryz.f119.body.getD .skip
noncomputable def tally_Get.rs : List Go.ResultVar := Tryz.f119.results.toList
def tally_Get.regs : List (Nat × RInfo) := [(0, ri [0,3] [3]), (1, ri [0,5,6] [10]), (2, ri [0,5,13] [10]), (3, ri [4] []), (4, ri [4] [])]
noncomputable def tally_Get.cx (k : Nat) : Cx := ⟨tt, pp, [(139, (tally_at.e k))], tally_Get.regs, k, mm⟩
@[reducible] def tally_Get.sg : Sg := ⟨[.dat (.slc tUndo), .dat tDot], [], .dat (.int .i64), []⟩
noncomputable def tally_Get.f (k : Nat) (a0 : Ty.D (.slc tUndo)) (a1 : Ty.D tDot) : Option (Sg.Out tally_Get.sg) := Sg.fn tally_Get.sg (tally_Get.cx k) tally_Get.body tally_Get.rs (a0, a1)
noncomputable def tally_Get.e (k : Nat) : Entry := Sg.entry tally_Get.sg fun x => tally_Get.f k x.1 x.2
theorem tally_Get.ok (k : Nat) : CallOK Tryz.prog 119 (tally_Get.e k) := fn_ok (c := tally_Get.cx k) (code := tally_Get.body) (TT.of tt_ok pp_ok mm_ok) (fns_ok ⟨(tally_at.ok k), trivial⟩) mixed Tryz.func119 (by kernel_rfl) (by kernel_rfl) (by kernel_rfl) (by kernel_rfl) (by kernel_rfl) (by kernel_rfl) (fun x => by kernel_rfl)
noncomputable def tally_Seen.body : Go.Code := Tryz.f97.body.getD .skip
noncomputable def tally_Seen.rs : List Go.ResultVar := Tryz.f97.results.toList
def tally_Seen.regs : List (Nat × RInfo) := [(0, ri [0,3] [3]), (1, ri [4] [])]
noncomputable def tally_Seen.cx (k : Nat) : Cx := ⟨tt, pp, [(119, (tally_Get.e k))], tally_Seen.regs, k, mm⟩
@[reducible] def tally_Seen.sg : Sg := ⟨[.dat (.slc tUndo), .dat tDot], [], .dat .bool, []⟩
noncomputable def tally_Seen.f (k : Nat) (a0 : Ty.D (.slc tUndo)) (a1 : Ty.D tDot) : Option (Sg.Out tally_Seen.sg) := Sg.fn tally_Seen.sg (tally_Seen.cx k) tally_Seen.body tally_Seen.rs (a0, a1)
noncomputable def tally_Seen.e (k : Nat) : Entry := Sg.entry tally_Seen.sg fun x => tally_Seen.f k x.1 x.2
theorem tally_Seen.ok (k : Nat) : CallOK Tryz.prog 97 (tally_Seen.e k) := fn_ok (c := tally_Seen.cx k) (code := tally_Seen.body) (TT.of tt_ok pp_ok mm_ok) (fns_ok ⟨(tally_Get.ok k), trivial⟩) mixed Tryz.func97 (by kernel_rfl) (by kernel_rfl) (by kernel_rfl) (by kernel_rfl) (by kernel_rfl) (by kernel_rfl) (fun x => by kernel_rfl)
noncomputable def live_covered.body : Go.Code := Tryz.f96.body.getD .skip
noncomputable def live_covered.rs : List Go.ResultVar := Tryz.f96.results.toList
def live_covered.regs : List (Nat × RInfo) := [(0, ri [0,1] []), (1, ri [0,1,5] [12]), (2, ri [1,5,13,14,15] [12]), (3, ⟨[1, 5, 13, 14, 15, 16], [12], [], [], 0, [1, 5, 13, 14, 15], [12], [], [], []⟩), (4, ⟨[1, 5, 7, 13, 14, 15], [7, 12], [3], [], 0, [], [], [], [], []⟩), (5, ri [1,5,7,13,14,15,23] [7,12]), (6, ri [1,5,13,14,15,25,26,27] [12]), (7, ⟨[1, 5, 13, 14, 15, 25, 26, 27, 28], [12], [], [], 0, [1, 5, 13, 14, 15, 25, 26, 27], [12], [], [], []⟩), (8, ⟨[1, 5, 9, 13, 14, 15, 25, 26, 27], [9, 12], [3], [], 0, [], [], [], [], []⟩), (9, ri [1,5,13,14,15,25,26,27,32,33,34] [12]), (10, ⟨[1, 5, 13, 14, 15, 25, 26, 27, 32, 33, 34, 35], [12], [], [], 0, [1, 5, 13, 14, 15, 25, 26, 27, 32, 33, 34], [12], [], [], []⟩), (11, ri [1,5,11,13,14,15,25,26,27,32,33,34] [11,12]), (12, ri [1,5,13,14,15,25,26,27,32,33,34] [12]), (13, ri [1,5,13,14,15,25,26,27,32,33,34] [12]), (14, ri [1,5,13,14,15,25,26,27] [12]), (15, ri [1,5,13,14,15] [12]), (16, ri [4] [12])]
noncomputable def live_covered.cx (k : Nat) : Cx := ⟨tt, pp, [(97, (tally_Seen.e k))], live_covered.regs, k, mm⟩
@[reducible] def live_covered.sg : Sg := ⟨[.dat (.slc tTxn), .dat (.slc tUndo)], [], .newm, [(.map tUndo .bool)]⟩
noncomputable def live_covered.f (k : Nat) (a0 : Ty.D (.slc tTxn)) (a1 : Ty.D (.slc tUndo)) : Option (Sg.Out live_covered.sg) := Sg.fn live_covered.sg (live_covered.cx k) live_covered.body live_covered.rs (a0, a1)
noncomputable def live_covered.e (k : Nat) : Entry := Sg.entry live_covered.sg fun x => live_covered.f k x.1 x.2
theorem live_covered.ok (k : Nat) : CallOK Tryz.prog 96 (live_covered.e k) := fn_ok (c := live_covered.cx k) (code := live_covered.body) (TT.of tt_ok pp_ok mm_ok) (fns_ok ⟨(tally_Seen.ok k), trivial⟩) mixed Tryz.func96 (by kernel_rfl) (by kernel_rfl) (by kernel_rfl) (by kernel_rfl) (by kernel_rfl) (by kernel_rfl) (fun x => by kernel_rfl)
noncomputable def live_All.body : Go.Code := Tryz.f64.body.getD .skip
noncomputable def live_All.rs : List Go.ResultVar := Tryz.f64.results.toList
def live_All.regs : List (Nat × RInfo) := [(0, ri [0,1] []), (1, ri [0,1,5] [14]), (2, ri [0,1,5,6] [14]), (3, ri [1,5,6,15,16,17] [14]), (4, ⟨[1, 5, 6, 15, 16, 17, 18], [14], [], [], 0, [1, 5, 6, 15, 16, 17], [14], [], [], []⟩), (5, ⟨[1, 5, 6, 8, 15, 16, 17], [8, 14], [3], [], 0, [], [], [], [], []⟩), (6, ri [1,5,6,8,15,16,17,25] [8,14]), (7, ri [1,5,6,8,15,16,17,27,28,29] [8,14]), (8, ⟨[1, 5, 6, 8, 15, 16, 17, 27, 28, 29, 30], [8, 14], [], [], 0, [1, 5, 6, 8, 15, 16, 17, 27, 28, 29], [8, 14], [], [], []⟩), (9, ⟨[1, 5, 6, 8, 9, 10, 15, 16, 17, 27, 28, 29], [8, 10, 14], [5], [], 0, [], [], [], [], []⟩), (10, ri [1,5,6,8,10,11,15,16,17,27,28,29] [8,10,11,14]), (11, ri [1,5,6,8,10,11,15,16,17,27,28,29,56] [8,10,11,14]), (12, ⟨[1, 5, 6, 8, 15, 16, 17, 27, 28, 29], [8, 14], [0, 7, 8], [], 0, [], [], [], [], []⟩), (13, ri [1,5,6,8,15,16,17,27,28,29] [8,14]), (14, ri [1,5,6,15,16,17] [14]), (15, ⟨[4], [], [0, 1], [], 0, [], [], [], [], []⟩)]
noncomputable def live_All.cx (k : Nat) : Cx := ⟨tt, pp, [(96, (live_covered.e k)), (97, (tally_Seen.e k))], live_All.regs, k, mm⟩
@[reducible] def live_All.sg : Sg := ⟨[.dat (.slc tTxn), .dat (.slc tUndo)], [], .own tItem, []⟩
noncomputable def live_All.f (k : Nat) (a0 : Ty.D (.slc tTxn)) (a1 : Ty.D (.slc tUndo)) : Option (Sg.Out live_All.sg) := Sg.fn live_All.sg (live_All.cx k) live_All.body live_All.rs (a0, a1)
noncomputable def live_All.e (k : Nat) : Entry := Sg.entry live_All.sg fun x => live_All.f k x.1 x.2
theorem live_All.ok (k : Nat) : CallOK Tryz.prog 64 (live_All.e k) := fn_ok (c := live_All.cx k) (code := live_All.body) (TT.of tt_ok pp_ok mm_ok) (fns_ok ⟨(live_covered.ok k), (tally_Seen.ok k), trivial⟩) mixed Tryz.func64 (by kernel_rfl) (by kernel_rfl) (by kernel_rfl) (by kernel_rfl) (by kernel_rfl) (by kernel_rfl) (fun x => by kernel_rfl)
noncomputable def state_Items.body : Go.Code := Tryz.f28.body.getD .skip
noncomputable def state_Items.rs : List Go.ResultVar := Tryz.f28.results.toList
def state_Items.regs : List (Nat × RInfo) := [(0, ⟨[1], [1], [0], [], 0, [], [], [], [], []⟩), (1, ⟨[2], [7], [5], [], 0, [], [], [], [], []⟩)]
noncomputable def state_Items.cx (k : Nat) : Cx := ⟨tt, pp, [(64, (live_All.e k))], state_Items.regs, k, mm⟩
@[reducible] def state_Items.sg : Sg := ⟨[.dat tState], [], .own tItem, []⟩
noncomputable def state_Items.f (k : Nat) (a0 : Ty.D tState) : Option (Sg.Out state_Items.sg) := Sg.fn state_Items.sg (state_Items.cx k) state_Items.body state_Items.rs a0
noncomputable def state_Items.e (k : Nat) : Entry := Sg.entry state_Items.sg fun x => state_Items.f k x
theorem state_Items.ok (k : Nat) : CallOK Tryz.prog 28 (state_Items.e k) := fn_ok (c := state_Items.cx k) (code := state_Items.body) (TT.of tt_ok pp_ok mm_ok) (fns_ok ⟨(live_All.ok k), trivial⟩) mixed Tryz.func28 (by kernel_rfl) (by kernel_rfl) (by kernel_rfl) (by kernel_rfl) (by kernel_rfl) (by kernel_rfl) (fun x => by kernel_rfl)
noncomputable def law22_awake.body : Go.Code := Tryz.f9.body.getD .skip
noncomputable def law22_awake.rs : List Go.ResultVar := Tryz.f9.results.toList
def law22_awake.regs : List (Nat × RInfo) := [(0, ri [] []), (1, ⟨[1], [1], [4], [], 0, [], [], [], [], []⟩), (2, ri [0] [6,14])]
noncomputable def law22_awake.cx (k : Nat) : Cx := ⟨tt, pp, [(24, (law22_one.e k)), (10, (state_Put.e k)), (25, (state_Right.e k)), (26, (state_Time.e k)), (27, (state_Cells.e k)), (28, (state_Items.e k))], law22_awake.regs, k, mm⟩
@[reducible] def law22_awake.sg : Sg := ⟨[], [], .dat .bool, []⟩
noncomputable def law22_awake.f (k : Nat) : Option (Sg.Out law22_awake.sg) := Sg.fn law22_awake.sg (law22_awake.cx k) law22_awake.body law22_awake.rs ()
noncomputable def law22_awake.e (k : Nat) : Entry := Sg.entry law22_awake.sg fun x => law22_awake.f k
theorem law22_awake.ok (k : Nat) : CallOK Tryz.prog 9 (law22_awake.e k) := fn_ok (c := law22_awake.cx k) (code := law22_awake.body) (TT.of tt_ok pp_ok mm_ok) (fns_ok ⟨(law22_one.ok k), (state_Put.ok k), (state_Right.ok k), (state_Time.ok k), (state_Cells.ok k), (state_Items.ok k), trivial⟩) mixed Tryz.func9 (by kernel_rfl) (by kernel_rfl) (by kernel_rfl) (by kernel_rfl) (by kernel_rfl) (by kernel_rfl) (fun x => by kernel_rfl)
noncomputable def tally_Join.body : Go.Code := Tryz.f32.body.getD .skip
noncomputable def tally_Join.rs : List Go.ResultVar := Tryz.f32.results.toList
def tally_Join.regs : List (Nat × RInfo) := [(0, ri [0,1] []), (1, ri [0,1,5] []), (2, ⟨[0, 1, 5, 14], [], [], [], 0, [0, 1, 5], [], [], [], []⟩), (3, ri [0,1,5,6] [29]), (4, ri [0,1,5,6,15] [29]), (5, ri [0,1,5,6] [29]), (6, ri [0,1,5,6,19] [29]), (7, rq [0,1,5,6] [29] 7), (10, ri [0,1,5,6,51] [29]), (11, ⟨[0, 1, 5], [], [0, 5, 8, 9], [], 9, [], [], [], [], []⟩), (12, ri [0,1,5,62] []), (13, ⟨[0, 1, 5], [], [0, 5, 8, 9], [], 9, [], [], [], [], []⟩), (8, ⟨[0, 1, 5], [], [0, 16, 17], [], 17, [], [], [], [], []⟩), (9, ⟨[0, 1, 5], [], [4, 5], [], 5, [], [], [], [], []⟩), (14, ⟨[4], [], [0, 1], [], 0, [], [], [], [], []⟩)]
noncomputable def tally_Join.cx (k : Nat) : Cx := ⟨tt, pp, [(76, (tally_compare.e k))], tally_Join.regs, k, mm⟩
@[reducible] def tally_Join.sg : Sg := ⟨[.dat (.slc tUndo), .dat (.slc tUndo)], [], .own tUndo, []⟩
noncomputable def tally_Join.f (k : Nat) (a0 : Ty.D (.slc tUndo)) (a1 : Ty.D (.slc tUndo)) : Option (Sg.Out tally_Join.sg) := Sg.fn tally_Join.sg (tally_Join.cx k) tally_Join.body tally_Join.rs (a0, a1)
noncomputable def tally_Join.l2 (k : Nat) (n : Nat) (x0 : Ty.D (.slc tUndo)) (x1 : Ty.D (.slc tUndo)) (x5 : List (Ty.D tUndo)) : Option (Sg.Out tally_Join.sg) := loopAt (tally_Join.cx k) tally_Join.body [1, 1, 0, 0] 2 [0, 1, 5] [] [] (Sg.K tally_Join.sg (tally_Join.cx k) tally_Join.rs) n ⟨[(0, .dat (.slc tUndo) x0), (1, .dat (.slc tUndo) x1), (5, .own tUndo x5)], []⟩
theorem tally_Join.f_eq (k : Nat) (a0 : Ty.D (.slc tUndo)) (a1 : Ty.D (.slc tUndo)) : tally_Join.f k a0 a1 = tally_Join.l2 k k a0 a1 [] := by kernel_rfl
theorem tally_Join.l2_eq (k : Nat) (n2 : Nat) (x0 : Ty.D (.slc tUndo)) (x1 : Ty.D (.slc tUndo)) (x5 : List (Ty.D tUndo)) : tally_Join.l2 k (n2 + 1) x0 x1 x5 = br (ilt 0 (ilen x0)) (br (ieq (ilen x0) 0) (br (inL 0 x1) (br (room x5 ((rd tUndo x1 (natOf 0)) :: [])) (br (inS 1 (ilen x1) (ilen x1)) (tally_Join.l2 k n2 x0 (piece x1 1 (ilen x1)) (app x5 ((rd tUndo x1 (natOf 0)) :: []))) none) none) none) (br (ilt 0 (ilen x1)) (br (inL 0 x0) (br (inL 0 x1) (bnd (tally_compare.f k (rd tUndo x0 (natOf 0)) (rd tUndo x1 (natOf 0))) fun r0 => br (ilt r0 0) (br (inL 0 x0) (br (room x5 ((rd tUndo x0 (natOf 0)) :: [])) (br (inS 1 (ilen x0) (ilen x0)) (tally_Join.l2 k n2 (piece x0 1 (ilen x0)) x1 (app x5 ((rd tUndo x0 (natOf 0)) :: []))) none) none) none) (br (ilt 0 r0) (br (inL 0 x1) (br (room x5 ((rd tUndo x1 (natOf 0)) :: [])) (br (inS 1 (ilen x1) (ilen x1)) (tally_Join.l2 k n2 x0 (piece x1 1 (ilen x1)) (app x5 ((rd tUndo x1 (natOf 0)) :: []))) none) none) none) (br (inL 0 x0) (br (inL 0 x0) (br (inL 0 x1) (br (room x5 (((rd tUndo x0 (natOf 0)).1, (imax ((rd tUndo x0 (natOf 0)).2) ((rd tUndo x1 (natOf 0)).2))) :: [])) (br (inS 1 (ilen x0) (ilen x0)) (br (inS 1 (ilen x1) (ilen x1)) (tally_Join.l2 k n2 (piece x0 1 (ilen x0)) (piece x1 1 (ilen x1)) (app x5 (((rd tUndo x0 (natOf 0)).1, (imax ((rd tUndo x0 (natOf 0)).2) ((rd tUndo x1 (natOf 0)).2))) :: []))) none) none) none) none) none) none))) none) none) (br (inL 0 x0) (br (room x5 ((rd tUndo x0 (natOf 0)) :: [])) (br (inS 1 (ilen x0) (ilen x0)) (tally_Join.l2 k n2 (piece x0 1 (ilen x0)) x1 (app x5 ((rd tUndo x0 (natOf 0)) :: []))) none) none) none))) (br (ilt 0 (ilen x1)) (br (ieq (ilen x0) 0) (br (inL 0 x1) (br (room x5 ((rd tUndo x1 (natOf 0)) :: [])) (br (inS 1 (ilen x1) (ilen x1)) (tally_Join.l2 k n2 x0 (piece x1 1 (ilen x1)) (app x5 ((rd tUndo x1 (natOf 0)) :: []))) none) none) none) (br (ilt 0 (ilen x1)) (br (inL 0 x0) (br (inL 0 x1) (bnd (tally_compare.f k (rd tUndo x0 (natOf 0)) (rd tUndo x1 (natOf 0))) fun r1 => br (ilt r1 0) (br (inL 0 x0) (br (room x5 ((rd tUndo x0 (natOf 0)) :: [])) (br (inS 1 (ilen x0) (ilen x0)) (tally_Join.l2 k n2 (piece x0 1 (ilen x0)) x1 (app x5 ((rd tUndo x0 (natOf 0)) :: []))) none) none) none) (br (ilt 0 r1) (br (inL 0 x1) (br (room x5 ((rd tUndo x1 (natOf 0)) :: [])) (br (inS 1 (ilen x1) (ilen x1)) (tally_Join.l2 k n2 x0 (piece x1 1 (ilen x1)) (app x5 ((rd tUndo x1 (natOf 0)) :: []))) none) none) none) (br (inL 0 x0) (br (inL 0 x0) (br (inL 0 x1) (br (room x5 (((rd tUndo x0 (natOf 0)).1, (imax ((rd tUndo x0 (natOf 0)).2) ((rd tUndo x1 (natOf 0)).2))) :: [])) (br (inS 1 (ilen x0) (ilen x0)) (br (inS 1 (ilen x1) (ilen x1)) (tally_Join.l2 k n2 (piece x0 1 (ilen x0)) (piece x1 1 (ilen x1)) (app x5 (((rd tUndo x0 (natOf 0)).1, (imax ((rd tUndo x0 (natOf 0)).2) ((rd tUndo x1 (natOf 0)).2))) :: []))) none) none) none) none) none) none))) none) none) (br (inL 0 x0) (br (room x5 ((rd tUndo x0 (natOf 0)) :: [])) (br (inS 1 (ilen x0) (ilen x0)) (tally_Join.l2 k n2 (piece x0 1 (ilen x0)) x1 (app x5 ((rd tUndo x0 (natOf 0)) :: []))) none) none) none))) (some x5)) := by kernel_rfl
noncomputable def tally_Join.e (k : Nat) : Entry := Sg.entry tally_Join.sg fun x => tally_Join.f k x.1 x.2
theorem tally_Join.ok (k : Nat) : CallOK Tryz.prog 32 (tally_Join.e k) := fn_ok (c := tally_Join.cx k) (code := tally_Join.body) (TT.of tt_ok pp_ok mm_ok) (fns_ok ⟨(tally_compare.ok k), trivial⟩) mixed Tryz.func32 (by kernel_rfl) (by kernel_rfl) (by kernel_rfl) (by kernel_rfl) (by kernel_rfl) (by kernel_rfl) (fun x => by kernel_rfl)
noncomputable def state_Raise.body : Go.Code := Tryz.f11.body.getD .skip
noncomputable def state_Raise.rs : List Go.ResultVar := Tryz.f11.results.toList
def state_Raise.regs : List (Nat × RInfo) := [(0, ⟨[1, 2, 4], [2, 4], [0], [], 0, [], [], [], [], []⟩), (1, ⟨[2, 4], [2, 4], [5], [], 0, [], [], [], [], []⟩), (2, ⟨[4], [4], [1], [], 0, [], [], [], [], []⟩)]
noncomputable def state_Raise.cx (k : Nat) : Cx := ⟨tt, pp, [(32, (tally_Join.e k))], state_Raise.regs, k, mm⟩
@[reducible] def state_Raise.sg : Sg := ⟨[.dat tState, .dat (.slc tUndo)], [], .dat tState, []⟩
noncomputable def state_Raise.f (k : Nat) (a0 : Ty.D tState) (a1 : Ty.D (.slc tUndo)) : Option (Sg.Out state_Raise.sg) := Sg.fn state_Raise.sg (state_Raise.cx k) state_Raise.body state_Raise.rs (a0, a1)
theorem state_Raise.f_eq (k : Nat) (a0 : Ty.D tState) (a1 : Ty.D (.slc tUndo)) : state_Raise.f k a0 a1 = bnd (tally_Join.f k a0.2.1 a1) fun r0 => some (a0.1, (r0, a0.2.2)) := by kernel_rfl
noncomputable def state_Raise.e (k : Nat) : Entry := Sg.entry state_Raise.sg fun x => state_Raise.f k x.1 x.2
theorem state_Raise.ok (k : Nat) : CallOK Tryz.prog 11 (state_Raise.e k) := fn_ok (c := state_Raise.cx k) (code := state_Raise.body) (TT.of tt_ok pp_ok mm_ok) (fns_ok ⟨(tally_Join.ok k), trivial⟩) mixed Tryz.func11 (by kernel_rfl) (by kernel_rfl) (by kernel_rfl) (by kernel_rfl) (by kernel_rfl) (by kernel_rfl) (fun x => by kernel_rfl)
noncomputable def slices_Concat_api_Dot_api_Dot.body : Go.Code := Tryz.f77.body.getD .skip
noncomputable def slices_Concat_api_Dot_api_Dot.rs : List Go.ResultVar := Tryz.f77.results.toList
def slices_Concat_api_Dot_api_Dot.regs : List (Nat × RInfo) := [(0, ri [0] []), (1, ri [0,3] []), (2, ri [0,3,9,10,11] []), (3, ⟨[0, 3, 9, 10, 11, 12], [], [], [], 0, [0, 3, 9, 10, 11], [], [], [], []⟩), (4, ⟨[0, 3, 5, 9, 10, 11], [], [2], [], 0, [], [], [], [], []⟩), (5, ri [0,3,9,10,11] []), (6, ri [0,3,9,10,11,20] []), (7, ri [0,3,9,10,11] []), (8, ri [0,3,9,10,11] []), (9, ⟨[0, 6], [24], [2], [], 0, [], [], [], [], []⟩), (10, ri [6,25,26,27] [24]), (11, ⟨[6, 25, 26, 27, 28], [24], [], [], 0, [6, 25, 26, 27], [24], [], [], []⟩), (12, ⟨[6, 8, 25, 26, 27], [24], [2], [], 0, [], [], [], [], []⟩), (13, ⟨[6, 25, 26, 27], [24], [0, 2, 3], [], 0, [], [], [], [], []⟩), (14, ri [6,25,26,27] [24]), (15, ⟨[2], [24], [0, 1], [], 0, [], [], [], [], []⟩)]
noncomputable def slices_Concat_api_Dot_api_Dot.cx (k : Nat) : Cx := ⟨tt, pp, [(105, (growE tDot))], slices_Concat_api_Dot_api_Dot.regs, k, mm⟩
@[reducible] def slices_Concat_api_Dot_api_Dot.sg : Sg := ⟨[.dat (.slc (.slc tDot))], [], .raw tDot, []⟩
noncomputable def slices_Concat_api_Dot_api_Dot.f (k : Nat) (a0 : Ty.D (.slc (.slc tDot))) : Option (Sg.Out slices_Concat_api_Dot_api_Dot.sg) := Sg.fn slices_Concat_api_Dot_api_Dot.sg (slices_Concat_api_Dot_api_Dot.cx k) slices_Concat_api_Dot_api_Dot.body slices_Concat_api_Dot_api_Dot.rs a0
noncomputable def slices_Concat_api_Dot_api_Dot.l3 (k : Nat) (n : Nat) (x0 : Ty.D (.slc (.slc tDot))) (x3 : Ty.D (.int .i64)) (x9 : Ty.D (.slc (.slc tDot))) (x10 : Ty.D (.int .i64)) (x11 : Ty.D (.int .i64)) : Option (Sg.Out slices_Concat_api_Dot_api_Dot.sg) := loopAt (slices_Concat_api_Dot_api_Dot.cx k) slices_Concat_api_Dot_api_Dot.body [1, 1, 0, 1, 0] 3 [0, 3, 9, 10, 11] [] [] (Sg.K slices_Concat_api_Dot_api_Dot.sg (slices_Concat_api_Dot_api_Dot.cx k) slices_Concat_api_Dot_api_Dot.rs) n ⟨[(0, .dat (.slc (.slc tDot)) x0), (3, .dat (.int .i64) x3), (9, .dat (.slc (.slc tDot)) x9), (10, .dat (.int .i64) x10), (11, .dat (.int .i64) x11)], []⟩
noncomputable def slices_Concat_api_Dot_api_Dot.l11 (k : Nat) (n : Nat) (x6 : List (Ty.D tDot)) (x25 : Ty.D (.slc (.slc tDot))) (x26 : Ty.D (.int .i64)) (x27 : Ty.D (.int .i64)) : Option (Sg.Out slices_Concat_api_Dot_api_Dot.sg) := loopAt (slices_Concat_api_Dot_api_Dot.cx k) slices_Concat_api_Dot_api_Dot.body [1, 1, 1, 1, 0, 1, 0] 11 [6, 25, 26, 27] [24] [] (Sg.K slices_Concat_api_Dot_api_Dot.sg (slices_Concat_api_Dot_api_Dot.cx k) slices_Concat_api_Dot_api_Dot.rs) n ⟨[(6, .own tDot x6), (25, .dat (.slc (.slc tDot)) x25), (26, .dat (.int .i64) x26), (27, .dat (.int .i64) x27)], []⟩
theorem slices_Concat_api_Dot_api_Dot.f_eq (k : Nat) (a0 : Ty.D (.slc (.slc tDot))) : slices_Concat_api_Dot_api_Dot.f k a0 = slices_Concat_api_Dot_api_Dot.l3 k k a0 0 a0 (ilen a0) 0 := by kernel_rfl
theorem slices_Concat_api_Dot_api_Dot.l3_eq (k : Nat) (n3 : Nat) (x0 : Ty.D (.slc (.slc tDot))) (x3 : Ty.D (.int .i64)) (x9 : Ty.D (.slc (.slc tDot))) (x10 : Ty.D (.int .i64)) (x11 : Ty.D (.int .i64)) : slices_Concat_api_Dot_api_Dot.l3 k (n3 + 1) x0 x3 x9 x10 x11 = br (ilt x11 x10) (br (inL x11 x9) (br (ilt (iadd .i64 x3 (ilen (rd (.slc tDot) x9 (natOf x11)))) 0) none (slices_Concat_api_Dot_api_Dot.l3 k n3 x0 (iadd .i64 x3 (ilen (rd (.slc tDot) x9 (natOf x11)))) x9 x10 (iadd .i64 x11 1))) none) (br (ilt x3 0) none (br (ilt 4294967296 x3) none (br (room ([] : List Int) ([] : List Int)) (slices_Concat_api_Dot_api_Dot.l11 k k [] x0 (ilen x0) 0) none))) := by kernel_rfl
theorem slices_Concat_api_Dot_api_Dot.l11_eq (k : Nat) (n11 : Nat) (x6 : List (Ty.D tDot)) (x25 : Ty.D (.slc (.slc tDot))) (x26 : Ty.D (.int .i64)) (x27 : Ty.D (.int .i64)) : slices_Concat_api_Dot_api_Dot.l11 k (n11 + 1) x6 x25 x26 x27 = br (ilt x27 x26) (br (inL x27 x25) (br (room x6 (rd (.slc tDot) x25 (natOf x27))) (slices_Concat_api_Dot_api_Dot.l11 k n11 (app x6 (rd (.slc tDot) x25 (natOf x27))) x25 x26 (iadd .i64 x27 1)) none) none) (some x6) := by kernel_rfl
noncomputable def slices_Concat_api_Dot_api_Dot.e (k : Nat) : Entry := Sg.entry slices_Concat_api_Dot_api_Dot.sg fun x => slices_Concat_api_Dot_api_Dot.f k x
theorem slices_Concat_api_Dot_api_Dot.ok (k : Nat) : CallOK Tryz.prog 77 (slices_Concat_api_Dot_api_Dot.e k) := fn_ok (c := slices_Concat_api_Dot_api_Dot.cx k) (code := slices_Concat_api_Dot_api_Dot.body) (TT.of tt_ok pp_ok mm_ok) (fns_ok ⟨growDot_ok, trivial⟩) mixed Tryz.func77 (by kernel_rfl) (by kernel_rfl) (by kernel_rfl) (by kernel_rfl) (by kernel_rfl) (by kernel_rfl) (fun x => by kernel_rfl)
noncomputable def vec_Join_1.body : Go.Code := Tryz.f109.body.getD .skip
noncomputable def vec_Join_1.rs : List Go.ResultVar := Tryz.f109.results.toList
def vec_Join_1.regs : List (Nat × RInfo) := [(0, ri [0,1] []), (1, ri [4] [])]
noncomputable def vec_Join_1.cx (k : Nat) : Cx := ⟨tt, pp, [], vec_Join_1.regs, k, mm⟩
@[reducible] def vec_Join_1.sg : Sg := ⟨[.dat (.int .i64), .dat (.int .i64)], [], .dat (.int .i64), []⟩
noncomputable def vec_Join_1.f (k : Nat) (a0 : Ty.D (.int .i64)) (a1 : Ty.D (.int .i64)) : Option (Sg.Out vec_Join_1.sg) := Sg.fn vec_Join_1.sg (vec_Join_1.cx k) vec_Join_1.body vec_Join_1.rs (a0, a1)
theorem vec_Join_1.f_eq (k : Nat) (a0 : Ty.D (.int .i64)) (a1 : Ty.D (.int .i64)) : vec_Join_1.f k a0 a1 = some (imax a0 a1) := by kernel_rfl
noncomputable def vec_Join_1.e (k : Nat) : Entry := Sg.entry vec_Join_1.sg fun x => vec_Join_1.f k x.1 x.2
theorem vec_Join_1.ok (k : Nat) : CallOK Tryz.prog 109 (vec_Join_1.e k) := fn_ok (c := vec_Join_1.cx k) (code := vec_Join_1.body) (TT.of tt_ok pp_ok mm_ok) (fns_ok trivial) mixed Tryz.func109 (by kernel_rfl) (by kernel_rfl) (by kernel_rfl) (by kernel_rfl) (by kernel_rfl) (by kernel_rfl) (fun x => by kernel_rfl)
noncomputable def vec_both_vec_Join_1.body : Go.Code := Tryz.f108.body.getD .skip
noncomputable def vec_both_vec_Join_1.rs : List Go.ResultVar := Tryz.f108.results.toList
def vec_both_vec_Join_1.regs : List (Nat × RInfo) := [(0, ri [2,3,4,6] [3,4,6]), (1, ri [2,3,4,6,8] [3,4,6]), (2, ⟨[2, 3, 4, 6, 8, 9], [3, 4, 6], [], [], 0, [2, 3, 4, 6, 8], [3, 4, 6], [], [], []⟩), (3, ri [2,3,4,6,7,8] [3,4,6]), (4, ⟨[2, 3, 4, 6, 8], [3, 4, 6], [], [], 9, [], [], [], [[], [], [], [], [], [], [], [], [4, 7], [4, 7, 8], [4, 7, 8]], []⟩), (5, ri [2,3,4,6,8] [3,4,6]), (6, ri [6] [6])]
noncomputable def vec_both_vec_Join_1.cx (k : Nat) : Cx := ⟨tt, pp, [(109, (vec_Join_1.e k))], vec_both_vec_Join_1.regs, k, mm⟩
@[reducible] def vec_both_vec_Join_1.sg : Sg := ⟨[.dat tVec, .dat tVec, .fn 109 0], [], .dat tVec, []⟩
noncomputable def vec_both_vec_Join_1.f (k : Nat) (a0 : Ty.D tVec) (a1 : Ty.D tVec) : Option (Sg.Out vec_both_vec_Join_1.sg) := Sg.fn vec_both_vec_Join_1.sg (vec_both_vec_Join_1.cx k) vec_both_vec_Join_1.body vec_both_vec_Join_1.rs (a0, a1)
noncomputable def vec_both_vec_Join_1.l2 (k : Nat) (n : Nat) (x8 : Ty.D (.int .i64)) (m3 : Ty.D tVec) (m4 : Ty.D tVec) (m6 : Ty.D tVec) : Option (Sg.Out vec_both_vec_Join_1.sg) := loopAt (vec_both_vec_Join_1.cx k) vec_both_vec_Join_1.body [1, 0, 1, 0] 2 [2, 3, 4, 6, 8] [3, 4, 6] [] (Sg.K vec_both_vec_Join_1.sg (vec_both_vec_Join_1.cx k) vec_both_vec_Join_1.rs) n ⟨[(2, .fn 109 []), (3, .ref 3 []), (4, .ref 4 []), (6, .ref 6 []), (8, .dat (.int .i64) x8)], [(3, .dat tVec m3), (4, .dat tVec m4), (6, .dat tVec m6)]⟩
theorem vec_both_vec_Join_1.f_eq (k : Nat) (a0 : Ty.D tVec) (a1 : Ty.D tVec) : vec_both_vec_Join_1.f k a0 a1 = vec_both_vec_Join_1.l2 k k 0 a0 a1 (zarr 16 0) := by kernel_rfl
theorem vec_both_vec_Join_1.l2_eq (k : Nat) (n2 : Nat) (x8 : Ty.D (.int .i64)) (m3 : Ty.D tVec) (m4 : Ty.D tVec) (m6 : Ty.D tVec) : vec_both_vec_Join_1.l2 k (n2 + 1) x8 m3 m4 m6 = br (ilt x8 16) (br (inB x8 16) (br (inB x8 16) (bnd (vec_Join_1.f k (rd (.int .i64) m3 (natOf x8)) (rd (.int .i64) m4 (natOf x8))) fun r0 => br (inB x8 16) (vec_both_vec_Join_1.l2 k n2 (iadd .i64 x8 1) (upd m3 (natOf x8) r0) m4 m6) none) none) none) (some m3) := by kernel_rfl
noncomputable def vec_both_vec_Join_1.e (k : Nat) : Entry := Sg.entry vec_both_vec_Join_1.sg fun x => vec_both_vec_Join_1.f k x.1 x.2
theorem vec_both_vec_Join_1.ok (k : Nat) : CallOK Tryz.prog 108 (vec_both_vec_Join_1.e k) := fn_ok (c := vec_both_vec_Join_1.cx k) (code := vec_both_vec_Join_1.body) (TT.of tt_ok pp_ok mm_ok) (fns_ok ⟨(vec_Join_1.ok k), trivial⟩) mixed Tryz.func108 (by kernel_rfl) (by kernel_rfl) (by kernel_rfl) (by kernel_rfl) (by kernel_rfl) (by kernel_rfl) (fun x => by kernel_rfl)
noncomputable def vec_Join.body : Go.Code := Tryz.f79.body.getD .skip
noncomputable def vec_Join.rs : List Go.ResultVar := Tryz.f79.results.toList
def vec_Join.regs : List (Nat × RInfo) := [(0, ri [2,3,4] [2,3,4]), (1, ri [4] [4])]
noncomputable def vec_Join.cx (k : Nat) : Cx := ⟨tt, pp, [(108, (vec_both_vec_Join_1.e k)), (109, (vec_Join_1.e k))], vec_Join.regs, k, mm⟩
@[reducible] def vec_Join.sg : Sg := ⟨[.dat tVec, .dat tVec], [], .dat tVec, []⟩
noncomputable def vec_Join.f (k : Nat) (a0 : Ty.D tVec) (a1 : Ty.D tVec) : Option (Sg.Out vec_Join.sg) := Sg.fn vec_Join.sg (vec_Join.cx k) vec_Join.body vec_Join.rs (a0, a1)
theorem vec_Join.f_eq (k : Nat) (a0 : Ty.D tVec) (a1 : Ty.D tVec) : vec_Join.f k a0 a1 = bnd (vec_both_vec_Join_1.f k a0 a1) fun r0 => some r0 := by kernel_rfl
noncomputable def vec_Join.e (k : Nat) : Entry := Sg.entry vec_Join.sg fun x => vec_Join.f k x.1 x.2
theorem vec_Join.ok (k : Nat) : CallOK Tryz.prog 79 (vec_Join.e k) := fn_ok (c := vec_Join.cx k) (code := vec_Join.body) (TT.of tt_ok pp_ok mm_ok) (fns_ok ⟨(vec_both_vec_Join_1.ok k), (vec_Join_1.ok k), trivial⟩) mixed Tryz.func79 (by kernel_rfl) (by kernel_rfl) (by kernel_rfl) (by kernel_rfl) (by kernel_rfl) (by kernel_rfl) (fun x => by kernel_rfl)
noncomputable def dots_Union.body : Go.Code := Tryz.f33.body.getD .skip
noncomputable def dots_Union.rs : List Go.ResultVar := Tryz.f33.results.toList
def dots_Union.regs : List (Nat × RInfo) := [(0, ⟨[2, 3, 4], [2, 3, 4], [0, 1], [], 0, [], [], [0, 1], [], []⟩), (1, ⟨[2, 3, 4, 5], [2, 3, 4, 11], [6], [], 0, [], [], [2, 3], [], []⟩), (2, ⟨[2, 3, 4, 5], [2, 3, 4, 11], [0, 1], [0], 0, [], [], [], [], []⟩), (3, ⟨[4], [4], [7], [], 0, [], [], [2, 3, 5, 4], [], []⟩)]
noncomputable def dots_Union.cx (k : Nat) : Cx := ⟨tt, pp, [(77, (slices_Concat_api_Dot_api_Dot.e k)), (78, (sortE tDot 67 dotLt)), (67, (dot_Compare.e k)), (79, (vec_Join.e k)), (73, (dots_made.e k))], dots_Union.regs, k, mm⟩
@[reducible] def dots_Union.sg : Sg := ⟨[.dat tDots, .dat tDots], [], .dat tDots, []⟩
noncomputable def dots_Union.f (k : Nat) (a0 : Ty.D tDots) (a1 : Ty.D tDots) : Option (Sg.Out dots_Union.sg) := Sg.fn dots_Union.sg (dots_Union.cx k) dots_Union.body dots_Union.rs (a0, a1)
theorem dots_Union.f_eq (k : Nat) (a0 : Ty.D tDots) (a1 : Ty.D tDots) : dots_Union.f k a0 a1 = bnd (slices_Concat_api_Dot_api_Dot.f k (a0.2 :: (a1.2 :: []))) fun r0 => br (room ([] : List Int) r0) (bnd (vec_Join.f k a0.1 a1.1) fun r1 => bnd (dots_made.f k r1 (isort dotLt r0)) fun r2 => some r2) none := by kernel_rfl
noncomputable def dots_Union.e (k : Nat) : Entry := Sg.entry dots_Union.sg fun x => dots_Union.f k x.1 x.2
theorem dots_Union.ok (k : Nat) : CallOK Tryz.prog 33 (dots_Union.e k) := fn_ok (c := dots_Union.cx k) (code := dots_Union.body) (TT.of tt_ok pp_ok mm_ok) (fns_ok ⟨(slices_Concat_api_Dot_api_Dot.ok k), sortDot_ok, (dot_Compare.ok k), (vec_Join.ok k), (dots_made.ok k), trivial⟩) mixed Tryz.func33 (by kernel_rfl) (by kernel_rfl) (by kernel_rfl) (by kernel_rfl) (by kernel_rfl) (by kernel_rfl) (fun x => by kernel_rfl)
noncomputable def state_Seal.body : Go.Code := Tryz.f12.body.getD .skip
noncomputable def state_Seal.rs : List Go.ResultVar := Tryz.f12.results.toList
def state_Seal.regs : List (Nat × RInfo) := [(0, ⟨[1, 2, 4], [2, 4], [0], [], 0, [], [], [], [], []⟩), (1, ⟨[2, 4], [2, 4], [6], [], 5, [], [], [], [[], [], [], [], [1], [1], [1]], []⟩), (2, ⟨[4], [4], [1], [], 0, [], [], [], [], []⟩)]
noncomputable def state_Seal.cx (k : Nat) : Cx := ⟨tt, pp, [(34, (dots_Of.e k)), (33, (dots_Union.e k))], state_Seal.regs, k, mm⟩
@[reducible] def state_Seal.sg : Sg := ⟨[.dat tState, .dat (.slc tDot)], [], .dat tState, []⟩
noncomputable def state_Seal.f (k : Nat) (a0 : Ty.D tState) (a1 : Ty.D (.slc tDot)) : Option (Sg.Out state_Seal.sg) := Sg.fn state_Seal.sg (state_Seal.cx k) state_Seal.body state_Seal.rs (a0, a1)
theorem state_Seal.f_eq (k : Nat) (a0 : Ty.D tState) (a1 : Ty.D (.slc tDot)) : state_Seal.f k a0 a1 = bnd (dots_Of.f k a1) fun r0 => bnd (dots_Union.f k a0.2.2.2.1 r0) fun r1 => some (a0.1, (a0.2.1, (a0.2.2.1, (r1, a0.2.2.2.2)))) := by kernel_rfl
noncomputable def state_Seal.e (k : Nat) : Entry := Sg.entry state_Seal.sg fun x => state_Seal.f k x.1 x.2
theorem state_Seal.ok (k : Nat) : CallOK Tryz.prog 12 (state_Seal.e k) := fn_ok (c := state_Seal.cx k) (code := state_Seal.body) (TT.of tt_ok pp_ok mm_ok) (fns_ok ⟨(dots_Of.ok k), (dots_Union.ok k), trivial⟩) mixed Tryz.func12 (by kernel_rfl) (by kernel_rfl) (by kernel_rfl) (by kernel_rfl) (by kernel_rfl) (by kernel_rfl) (fun x => by kernel_rfl)
@[reducible] def ref12_Find.sg : Sg := ⟨[.dat (.slc tTxn), .dat tDot], [], .dat (.int .i64), []⟩
@[reducible] def ref12_Put.sg : Sg := ⟨[.dat (.slc tTxn), .dat tTxn], [], .dat (.slc tTxn), []⟩
@[reducible] def ref22_Put.sg : Sg := ⟨[.dat tState, .dat tTxn], [], .dat tState, []⟩
noncomputable def ref03_Same.body : Go.Code := Tryz.f133.body.getD .skip
noncomputable def ref03_Same.rs : List Go.ResultVar := Tryz.f133.results.toList
def ref03_Same.regs : List (Nat × RInfo) := [(0, ri [0,1] []), (1, ri [0,1,10] []), (2, ri [4] []), (3, ri [0,1,5] []), (4, ⟨[0, 1, 5, 14], [], [], [], 0, [0, 1, 5], [], [], [], []⟩), (6, rq [0,1,5,25] [] 9), (7, ri [4] []), (5, ri [0,1,5] []), (8, ri [4] [])]
noncomputable def ref03_Same.cx (k : Nat) : Cx := ⟨tt, pp, [], ref03_Same.regs, k, mm⟩
@[reducible] def ref03_Same.sg : Sg := ⟨[.dat (.slc .str), .dat (.slc .str)], [], .dat .bool, []⟩
noncomputable def ref03_Same.f (k : Nat) (a0 : Ty.D (.slc .str)) (a1 : Ty.D (.slc .str)) : Option (Sg.Out ref03_Same.sg) := Sg.fn ref03_Same.sg (ref03_Same.cx k) ref03_Same.body ref03_Same.rs (a0, a1)
noncomputable def ref03_Same.l4 (k : Nat) (n : Nat) (x0 : Ty.D (.slc .str)) (x1 : Ty.D (.slc .str)) (x5 : Ty.D (.int .i64)) : Option (Sg.Out ref03_Same.sg) := loopAt (ref03_Same.cx k) ref03_Same.body [1, 1, 0, 1, 0] 4 [0, 1, 5] [] [] (Sg.K ref03_Same.sg (ref03_Same.cx k) ref03_Same.rs) n ⟨[(0, .dat (.slc .str) x0), (1, .dat (.slc .str) x1), (5, .dat (.int .i64) x5)], []⟩
theorem ref03_Same.f_eq (k : Nat) (a0 : Ty.D (.slc .str)) (a1 : Ty.D (.slc .str)) : ref03_Same.f k a0 a1 = br (bnot (ieq (ilen a0) (ilen a1))) (some false) (ref03_Same.l4 k k a0 a1 0) := by kernel_rfl
theorem ref03_Same.l4_eq (k : Nat) (n4 : Nat) (x0 : Ty.D (.slc .str)) (x1 : Ty.D (.slc .str)) (x5 : Ty.D (.int .i64)) : ref03_Same.l4 k (n4 + 1) x0 x1 x5 = br (ilt x5 (ilen x0)) (br (inL x5 x0) (br (inL x5 x1) (br (bnot (seq (rd .str x0 (natOf x5)) (rd .str x1 (natOf x5)))) (some false) (ref03_Same.l4 k n4 x0 x1 (iadd .i64 x5 1))) none) none) (some true) := by kernel_rfl
noncomputable def ref03_Same.e (k : Nat) : Entry := Sg.entry ref03_Same.sg fun x => ref03_Same.f k x.1 x.2
theorem ref03_Same.ok (k : Nat) : CallOK Tryz.prog 133 (ref03_Same.e k) := fn_ok (c := ref03_Same.cx k) (code := ref03_Same.body) (TT.of tt_ok pp_ok mm_ok) (fns_ok trivial) mixed Tryz.func133 (by kernel_rfl) (by kernel_rfl) (by kernel_rfl) (by kernel_rfl) (by kernel_rfl) (by kernel_rfl) (fun x => by kernel_rfl)
noncomputable def ref11_Same.body : Go.Code := Tryz.f110.body.getD .skip
noncomputable def ref11_Same.rs : List Go.ResultVar := Tryz.f110.results.toList
def ref11_Same.regs : List (Nat × RInfo) := [(0, ⟨[2, 3], [2, 3], [0, 1], [], 0, [], [], [], [], []⟩), (1, ri [2,3,41] [2,3]), (2, ri [4] []), (3, ri [2,3,5] [2,3]), (4, ⟨[2, 3, 5, 46], [2, 3], [], [], 0, [2, 3, 5], [2, 3], [], [], []⟩), (6, rq [2,3,5,59] [2,3] 11), (7, ri [4] []), (5, ri [2,3,5] [2,3]), (8, ri [4] [])]
noncomputable def ref11_Same.cx (k : Nat) : Cx := ⟨tt, pp, [(133, (ref03_Same.e k))], ref11_Same.regs, k, mm⟩
@[reducible] def ref11_Same.sg : Sg := ⟨[.dat tOp, .dat tOp], [], .dat .bool, []⟩
noncomputable def ref11_Same.f (k : Nat) (a0 : Ty.D tOp) (a1 : Ty.D tOp) : Option (Sg.Out ref11_Same.sg) := Sg.fn ref11_Same.sg (ref11_Same.cx k) ref11_Same.body ref11_Same.rs (a0, a1)
noncomputable def ref11_Same.l4 (k : Nat) (n : Nat) (x5 : Ty.D (.int .i64)) (m2 : Ty.D tOp) (m3 : Ty.D tOp) : Option (Sg.Out ref11_Same.sg) := loopAt (ref11_Same.cx k) ref11_Same.body [1, 1, 0, 1, 0] 4 [2, 3, 5] [2, 3] [] (Sg.K ref11_Same.sg (ref11_Same.cx k) ref11_Same.rs) n ⟨[(2, .ref 2 []), (3, .ref 3 []), (5, .dat (.int .i64) x5)], [(2, .dat tOp m2), (3, .dat tOp m3)]⟩
theorem ref11_Same.f_eq (k : Nat) (a0 : Ty.D tOp) (a1 : Ty.D tOp) : ref11_Same.f k a0 a1 = br (bnot (ieq a0.1 a1.1)) (some false) (br (bnot (deq tValue a0.2.2.1 a1.2.2.1)) (some false) (br (bnot (ieq a0.2.2.2.1 a1.2.2.2.1)) (some false) (bnd (ref03_Same.f k a0.2.1 a1.2.1) fun r0 => br (bnot r0) (some false) (br (bnot (ieq (ilen a0.2.2.2.2) (ilen a1.2.2.2.2))) (some false) (ref11_Same.l4 k k 0 a0 a1))))) := by kernel_rfl
theorem ref11_Same.l4_eq (k : Nat) (n4 : Nat) (x5 : Ty.D (.int .i64)) (m2 : Ty.D tOp) (m3 : Ty.D tOp) : ref11_Same.l4 k (n4 + 1) x5 m2 m3 = br (ilt x5 (ilen m2.2.2.2.2)) (br (inL x5 m2.2.2.2.2) (br (inL x5 m3.2.2.2.2) (br (bnot (deq tUndo (rd tUndo m2.2.2.2.2 (natOf x5)) (rd tUndo m3.2.2.2.2 (natOf x5)))) (some false) (ref11_Same.l4 k n4 (iadd .i64 x5 1) m2 m3)) none) none) (some true) := by kernel_rfl
noncomputable def ref11_Same.e (k : Nat) : Entry := Sg.entry ref11_Same.sg fun x => ref11_Same.f k x.1 x.2
theorem ref11_Same.ok (k : Nat) : CallOK Tryz.prog 110 (ref11_Same.e k) := fn_ok (c := ref11_Same.cx k) (code := ref11_Same.body) (TT.of tt_ok pp_ok mm_ok) (fns_ok ⟨(ref03_Same.ok k), trivial⟩) mixed Tryz.func110 (by kernel_rfl) (by kernel_rfl) (by kernel_rfl) (by kernel_rfl) (by kernel_rfl) (by kernel_rfl) (fun x => by kernel_rfl)
noncomputable def ref12_Same.body : Go.Code := Tryz.f82.body.getD .skip
noncomputable def ref12_Same.rs : List Go.ResultVar := Tryz.f82.results.toList
def ref12_Same.regs : List (Nat × RInfo) := [(0, ⟨[2, 3], [2, 3], [0, 1], [], 0, [], [], [], [], []⟩), (1, ri [2,3,40] [2,3]), (2, ri [4] []), (3, ri [2,3,5] [2,3]), (4, ⟨[2, 3, 5, 45], [2, 3], [], [], 0, [2, 3, 5], [2, 3], [], [], []⟩), (6, rq [2,3,5,59] [2,3] 12), (7, ri [4] []), (5, ri [2,3,5] [2,3]), (8, ri [4] [])]
noncomputable def ref12_Same.cx (k : Nat) : Cx := ⟨tt, pp, [(110, (ref11_Same.e k))], ref12_Same.regs, k, mm⟩
@[reducible] def ref12_Same.sg : Sg := ⟨[.dat tTxn, .dat tTxn], [], .dat .bool, []⟩
noncomputable def ref12_Same.f (k : Nat) (a0 : Ty.D tTxn) (a1 : Ty.D tTxn) : Option (Sg.Out ref12_Same.sg) := Sg.fn ref12_Same.sg (ref12_Same.cx k) ref12_Same.body ref12_Same.rs (a0, a1)
noncomputable def ref12_Same.l4 (k : Nat) (n : Nat) (x5 : Ty.D (.int .i64)) (m2 : Ty.D tTxn) (m3 : Ty.D tTxn) : Option (Sg.Out ref12_Same.sg) := loopAt (ref12_Same.cx k) ref12_Same.body [1, 1, 0, 1, 0] 4 [2, 3, 5] [2, 3] [] (Sg.K ref12_Same.sg (ref12_Same.cx k) ref12_Same.rs) n ⟨[(2, .ref 2 []), (3, .ref 3 []), (5, .dat (.int .i64) x5)], [(2, .dat tTxn m2), (3, .dat tTxn m3)]⟩
theorem ref12_Same.f_eq (k : Nat) (a0 : Ty.D tTxn) (a1 : Ty.D tTxn) : ref12_Same.f k a0 a1 = br (bnot (deq tDot a0.1 a1.1)) (some false) (br (bnot (ieq a0.2.1 a1.2.1)) (some false) (br (bnot (ieq a0.2.2.1 a1.2.2.1)) (some false) (br (bnot (deq .bool a0.2.2.2.1 a1.2.2.2.1)) (some false) (br (bnot (ieq (ilen a0.2.2.2.2) (ilen a1.2.2.2.2))) (some false) (ref12_Same.l4 k k 0 a0 a1))))) := by kernel_rfl
theorem ref12_Same.l4_eq (k : Nat) (n4 : Nat) (x5 : Ty.D (.int .i64)) (m2 : Ty.D tTxn) (m3 : Ty.D tTxn) : ref12_Same.l4 k (n4 + 1) x5 m2 m3 = br (ilt x5 (ilen m2.2.2.2.2)) (br (inL x5 m2.2.2.2.2) (br (inL x5 m3.2.2.2.2) (bnd (ref11_Same.f k (rd tOp m2.2.2.2.2 (natOf x5)) (rd tOp m3.2.2.2.2 (natOf x5))) fun r0 => br (bnot r0) (some false) (ref12_Same.l4 k n4 (iadd .i64 x5 1) m2 m3)) none) none) (some true) := by kernel_rfl
noncomputable def ref12_Same.e (k : Nat) : Entry := Sg.entry ref12_Same.sg fun x => ref12_Same.f k x.1 x.2
theorem ref12_Same.ok (k : Nat) : CallOK Tryz.prog 82 (ref12_Same.e k) := fn_ok (c := ref12_Same.cx k) (code := ref12_Same.body) (TT.of tt_ok pp_ok mm_ok) (fns_ok ⟨(ref11_Same.ok k), trivial⟩) mixed Tryz.func82 (by kernel_rfl) (by kernel_rfl) (by kernel_rfl) (by kernel_rfl) (by kernel_rfl) (by kernel_rfl) (fun x => by kernel_rfl)
noncomputable def ref12_All.body : Go.Code := Tryz.f36.body.getD .skip
noncomputable def ref12_All.rs : List Go.ResultVar := Tryz.f36.results.toList
def ref12_All.regs : List (Nat × RInfo) := [(0, ri [0,1] []), (1, ri [0,1,10] []), (2, ri [4] []), (3, ri [0,1,5] []), (4, ⟨[0, 1, 5, 14], [], [], [], 0, [0, 1, 5], [], [], [], []⟩), (6, rq [0,1,5,26] [] 10), (7, ri [4] []), (5, ri [0,1,5] []), (8, ri [4] [])]
noncomputable def ref12_All.cx (k : Nat) : Cx := ⟨tt, pp, [(82, (ref12_Same.e k))], ref12_All.regs, k, mm⟩
@[reducible] def ref12_All.sg : Sg := ⟨[.dat (.slc tTxn), .dat (.slc tTxn)], [], .dat .bool, []⟩
noncomputable def ref12_All.f (k : Nat) (a0 : Ty.D (.slc tTxn)) (a1 : Ty.D (.slc tTxn)) : Option (Sg.Out ref12_All.sg) := Sg.fn ref12_All.sg (ref12_All.cx k) ref12_All.body ref12_All.rs (a0, a1)
noncomputable def ref12_All.l4 (k : Nat) (n : Nat) (x0 : Ty.D (.slc tTxn)) (x1 : Ty.D (.slc tTxn)) (x5 : Ty.D (.int .i64)) : Option (Sg.Out ref12_All.sg) := loopAt (ref12_All.cx k) ref12_All.body [1, 1, 0, 1, 0] 4 [0, 1, 5] [] [] (Sg.K ref12_All.sg (ref12_All.cx k) ref12_All.rs) n ⟨[(0, .dat (.slc tTxn) x0), (1, .dat (.slc tTxn) x1), (5, .dat (.int .i64) x5)], []⟩
theorem ref12_All.f_eq (k : Nat) (a0 : Ty.D (.slc tTxn)) (a1 : Ty.D (.slc tTxn)) : ref12_All.f k a0 a1 = br (bnot (ieq (ilen a0) (ilen a1))) (some false) (ref12_All.l4 k k a0 a1 0) := by kernel_rfl
theorem ref12_All.l4_eq (k : Nat) (n4 : Nat) (x0 : Ty.D (.slc tTxn)) (x1 : Ty.D (.slc tTxn)) (x5 : Ty.D (.int .i64)) : ref12_All.l4 k (n4 + 1) x0 x1 x5 = br (ilt x5 (ilen x0)) (br (inL x5 x0) (br (inL x5 x1) (bnd (ref12_Same.f k (rd tTxn x0 (natOf x5)) (rd tTxn x1 (natOf x5))) fun r0 => br (bnot r0) (some false) (ref12_All.l4 k n4 x0 x1 (iadd .i64 x5 1))) none) none) (some true) := by kernel_rfl
noncomputable def ref12_All.e (k : Nat) : Entry := Sg.entry ref12_All.sg fun x => ref12_All.f k x.1 x.2
theorem ref12_All.ok (k : Nat) : CallOK Tryz.prog 36 (ref12_All.e k) := fn_ok (c := ref12_All.cx k) (code := ref12_All.body) (TT.of tt_ok pp_ok mm_ok) (fns_ok ⟨(ref12_Same.ok k), trivial⟩) mixed Tryz.func36 (by kernel_rfl) (by kernel_rfl) (by kernel_rfl) (by kernel_rfl) (by kernel_rfl) (by kernel_rfl) (fun x => by kernel_rfl)
noncomputable def ref08_Same.body : Go.Code := Tryz.f37.body.getD .skip
noncomputable def ref08_Same.rs : List Go.ResultVar := Tryz.f37.results.toList
def ref08_Same.regs : List (Nat × RInfo) := [(0, ri [0,1] []), (1, ri [0,1,10] []), (2, ri [4] []), (3, ri [0,1,5] []), (4, ⟨[0, 1, 5, 14], [], [], [], 0, [0, 1, 5], [], [], [], []⟩), (6, rq [0,1,5,25] [] 9), (7, ri [4] []), (5, ri [0,1,5] []), (8, ri [4] [])]
noncomputable def ref08_Same.cx (k : Nat) : Cx := ⟨tt, pp, [], ref08_Same.regs, k, mm⟩
@[reducible] def ref08_Same.sg : Sg := ⟨[.dat (.slc tUndo), .dat (.slc tUndo)], [], .dat .bool, []⟩
noncomputable def ref08_Same.f (k : Nat) (a0 : Ty.D (.slc tUndo)) (a1 : Ty.D (.slc tUndo)) : Option (Sg.Out ref08_Same.sg) := Sg.fn ref08_Same.sg (ref08_Same.cx k) ref08_Same.body ref08_Same.rs (a0, a1)
noncomputable def ref08_Same.l4 (k : Nat) (n : Nat) (x0 : Ty.D (.slc tUndo)) (x1 : Ty.D (.slc tUndo)) (x5 : Ty.D (.int .i64)) : Option (Sg.Out ref08_Same.sg) := loopAt (ref08_Same.cx k) ref08_Same.body [1, 1, 0, 1, 0] 4 [0, 1, 5] [] [] (Sg.K ref08_Same.sg (ref08_Same.cx k) ref08_Same.rs) n ⟨[(0, .dat (.slc tUndo) x0), (1, .dat (.slc tUndo) x1), (5, .dat (.int .i64) x5)], []⟩
theorem ref08_Same.f_eq (k : Nat) (a0 : Ty.D (.slc tUndo)) (a1 : Ty.D (.slc tUndo)) : ref08_Same.f k a0 a1 = br (bnot (ieq (ilen a0) (ilen a1))) (some false) (ref08_Same.l4 k k a0 a1 0) := by kernel_rfl
theorem ref08_Same.l4_eq (k : Nat) (n4 : Nat) (x0 : Ty.D (.slc tUndo)) (x1 : Ty.D (.slc tUndo)) (x5 : Ty.D (.int .i64)) : ref08_Same.l4 k (n4 + 1) x0 x1 x5 = br (ilt x5 (ilen x0)) (br (inL x5 x0) (br (inL x5 x1) (br (bnot (deq tUndo (rd tUndo x0 (natOf x5)) (rd tUndo x1 (natOf x5)))) (some false) (ref08_Same.l4 k n4 x0 x1 (iadd .i64 x5 1))) none) none) (some true) := by kernel_rfl
noncomputable def ref08_Same.e (k : Nat) : Entry := Sg.entry ref08_Same.sg fun x => ref08_Same.f k x.1 x.2
theorem ref08_Same.ok (k : Nat) : CallOK Tryz.prog 37 (ref08_Same.e k) := fn_ok (c := ref08_Same.cx k) (code := ref08_Same.body) (TT.of tt_ok pp_ok mm_ok) (fns_ok trivial) mixed Tryz.func37 (by kernel_rfl) (by kernel_rfl) (by kernel_rfl) (by kernel_rfl) (by kernel_rfl) (by kernel_rfl) (fun x => by kernel_rfl)
noncomputable def ref22_Same.body : Go.Code := Tryz.f13.body.getD .skip
noncomputable def ref22_Same.rs : List Go.ResultVar := Tryz.f13.results.toList
def ref22_Same.regs : List (Nat × RInfo) := [(0, ⟨[2, 3], [2, 3], [0, 1], [], 0, [], [], [], [], []⟩), (1, ri [2,3,5] [2,3]), (2, ⟨[2, 3, 5, 7], [2, 3], [], [], 0, [2, 3, 5], [2, 3], [], [], []⟩), (4, rq [2,3,5,19] [2,3] 10), (5, ri [4] [24,30,37,44]), (3, ri [2,3,5] [2,3]), (6, ri [4] [24,30,37,44])]
noncomputable def ref22_Same.cx (k : Nat) : Cx := ⟨tt, pp, [(35, (ref04_Same.e k)), (36, (ref12_All.e k)), (37, (ref08_Same.e k)), (38, (ref06_Same.e k))], ref22_Same.regs, k, mm⟩
@[reducible] def ref22_Same.sg : Sg := ⟨[.dat tState, .dat tState], [], .dat .bool, []⟩
noncomputable def ref22_Same.f (k : Nat) (a0 : Ty.D tState) (a1 : Ty.D tState) : Option (Sg.Out ref22_Same.sg) := Sg.fn ref22_Same.sg (ref22_Same.cx k) ref22_Same.body ref22_Same.rs (a0, a1)
noncomputable def ref22_Same.l2 (k : Nat) (n : Nat) (x5 : Ty.D (.int .i64)) (m2 : Ty.D tState) (m3 : Ty.D tState) : Option (Sg.Out ref22_Same.sg) := loopAt (ref22_Same.cx k) ref22_Same.body [1, 0, 1, 0] 2 [2, 3, 5] [2, 3] [] (Sg.K ref22_Same.sg (ref22_Same.cx k) ref22_Same.rs) n ⟨[(2, .ref 2 []), (3, .ref 3 []), (5, .dat (.int .i64) x5)], [(2, .dat tState m2), (3, .dat tState m3)]⟩
theorem ref22_Same.f_eq (k : Nat) (a0 : Ty.D tState) (a1 : Ty.D tState) : ref22_Same.f k a0 a1 = ref22_Same.l2 k k 0 a0 a1 := by kernel_rfl
theorem ref22_Same.l2_eq (k : Nat) (n2 : Nat) (x5 : Ty.D (.int .i64)) (m2 : Ty.D tState) (m3 : Ty.D tState) : ref22_Same.l2 k (n2 + 1) x5 m2 m3 = br (ilt x5 8) (br (inB x5 8) (br (inB x5 8) (bnd (ref04_Same.f k (rd (.slc tDot) m2.2.2.2.2 (natOf x5)) (rd (.slc tDot) m3.2.2.2.2 (natOf x5))) fun r0 => br (bnot r0) (some false) (ref22_Same.l2 k n2 (iadd .i64 x5 1) m2 m3)) none) none) (bnd (ref12_All.f k m2.1 m3.1) fun r1 => br r1 (bnd (ref08_Same.f k m2.2.1 m3.2.1) fun r2 => br r2 (bnd (ref06_Same.f k m2.2.2.1 m3.2.2.1) fun r3 => br r3 (bnd (ref06_Same.f k m2.2.2.2.1 m3.2.2.2.1) fun r4 => some r4) (some false)) (some false)) (some false)) := by kernel_rfl
noncomputable def ref22_Same.e (k : Nat) : Entry := Sg.entry ref22_Same.sg fun x => ref22_Same.f k x.1 x.2
theorem ref22_Same.ok (k : Nat) : CallOK Tryz.prog 13 (ref22_Same.e k) := fn_ok (c := ref22_Same.cx k) (code := ref22_Same.body) (TT.of tt_ok pp_ok mm_ok) (fns_ok ⟨(ref04_Same.ok k), (ref12_All.ok k), (ref08_Same.ok k), (ref06_Same.ok k), trivial⟩) mixed Tryz.func13 (by kernel_rfl) (by kernel_rfl) (by kernel_rfl) (by kernel_rfl) (by kernel_rfl) (by kernel_rfl) (fun x => by kernel_rfl)
@[reducible] def ref08_Get.sg : Sg := ⟨[.dat (.slc tUndo), .dat tDot], [], .dat (.int .i64), []⟩
@[reducible] def ref08_Put.sg : Sg := ⟨[.dat (.slc tUndo), .dat tUndo], [], .dat (.slc tUndo), []⟩
@[reducible] def ref08_Join.sg : Sg := ⟨[.dat (.slc tUndo), .dat (.slc tUndo)], [], .dat (.slc tUndo), []⟩
@[reducible] def ref22_Raise.sg : Sg := ⟨[.dat tState, .dat (.slc tUndo)], [], .dat tState, []⟩
@[reducible] def ref22_Seal.sg : Sg := ⟨[.dat tState, .dat (.slc tDot)], [], .dat tState, []⟩
@[reducible] def law22_StateGrows.sg : Sg := ⟨[.dat tState, .dat tTxn, .dat (.slc tUndo), .dat (.slc tDot)], [], .dat .bool, []⟩
noncomputable def law22_StateOrder.body : Go.Code := Tryz.f4.body.getD .skip
noncomputable def law22_StateOrder.rs : List Go.ResultVar := Tryz.f4.results.toList
def law22_StateOrder.regs : List (Nat × RInfo) := [(0, ⟨[3, 4, 5, 6, 7, 8, 9], [7, 8, 9], [0, 1, 2], [], 0, [], [], [], [], []⟩), (1, ri [3,4,5,6,7,8,9,66] [7,8,9]), (2, ri [14] [67,96,98]), (3, ⟨[3, 4, 5, 6, 7, 8, 9, 15], [7, 8, 9, 15], [14], [], 14, [], [], [], [[], [], [0], [], [0], [], [0, 5], [], [0, 5], [], [0, 5], [], [0, 5, 11], [], [13, 0, 5, 11]], []⟩), (4, ⟨[15, 16], [15, 16], [14], [], 14, [], [], [], [[], [], [0, 1], [], [0, 1], [], [0, 1], [], [0, 1, 7], [], [0, 1, 7], [], [0, 1, 7], [], [13, 0, 1, 7]], []⟩), (5, ri [14] [67,96,98])]
noncomputable def law22_StateOrder.cx (k : Nat) : Cx := ⟨tt, pp, [(5, (ref22_Good.e k)), (6, (ref12_Short.e k)), (7, (ref12_Check.e k)), (8, (ref08_Good.e k)), (9, (law22_awake.e k)), (12, (state_Seal.e k)), (11, (state_Raise.e k)), (10, (state_Put.e k)), (13, (ref22_Same.e k))], law22_StateOrder.regs, k, mm⟩
@[reducible] def law22_StateOrder.sg : Sg := ⟨[.dat tState, .dat tTxn, .dat tTxn, .dat (.slc tUndo), .dat (.slc tUndo), .dat (.slc tDot), .dat (.slc tDot)], [], .dat .bool, []⟩
noncomputable def law22_StateOrder.f (k : Nat) (a0 : Ty.D tState) (a1 : Ty.D tTxn) (a2 : Ty.D tTxn) (a3 : Ty.D (.slc tUndo)) (a4 : Ty.D (.slc tUndo)) (a5 : Ty.D (.slc tDot)) (a6 : Ty.D (.slc tDot)) : Option (Sg.Out law22_StateOrder.sg) := Sg.fn law22_StateOrder.sg (law22_StateOrder.cx k) law22_StateOrder.body law22_StateOrder.rs (a0, a1, a2, a3, a4, a5, a6)
theorem law22_StateOrder.f_eq (k : Nat) (a0 : Ty.D tState) (a1 : Ty.D tTxn) (a2 : Ty.D tTxn) (a3 : Ty.D (.slc tUndo)) (a4 : Ty.D (.slc tUndo)) (a5 : Ty.D (.slc tDot)) (a6 : Ty.D (.slc tDot)) : law22_StateOrder.f k a0 a1 a2 a3 a4 a5 a6 = bnd (ref22_Good.f k a0) fun r0 => br (bnot r0) (bnd (law22_awake.f k) fun r1 => some r1) (bnd (ref12_Short.f k a1) fun r2 => br (bnot r2) (bnd (law22_awake.f k) fun r3 => some r3) (bnd (ref12_Short.f k a2) fun r4 => br (bnot r4) (bnd (law22_awake.f k) fun r5 => some r5) (bnd (ref12_Check.f k a1) fun r6 => br (bnot (ieq r6 0)) (bnd (law22_awake.f k) fun r7 => some r7) (bnd (ref12_Check.f k a2) fun r8 => br (bnot (ieq r8 0)) (bnd (law22_awake.f k) fun r9 => some r9) (br (deq tDot a1.1 a2.1) (bnd (law22_awake.f k) fun r10 => some r10) (bnd (ref08_Good.f k a3) fun r11 => br (bnot r11) (bnd (law22_awake.f k) fun r12 => some r12) (bnd (ref08_Good.f k a4) fun r13 => br (bnot r13) (bnd (law22_awake.f k) fun r14 => some r14) (br (ilt 40 (ilen a5)) (bnd (law22_awake.f k) fun r15 => some r15) (br (ilt 40 (ilen a6)) (bnd (law22_awake.f k) fun r16 => some r16) (bnd (state_Seal.f k a0 a5) fun r17 => bnd (state_Raise.f k r17 a3) fun r18 => bnd (state_Put.f k r18 a1) fun r19 => bnd (state_Seal.f k r19 a6) fun r20 => bnd (state_Raise.f k r20 a4) fun r21 => bnd (state_Put.f k r21 a2) fun r22 => bnd (state_Put.f k a0 a2) fun r23 => bnd (state_Raise.f k r23 a4) fun r24 => bnd (state_Seal.f k r24 a6) fun r25 => bnd (state_Put.f k r25 a1) fun r26 => bnd (state_Raise.f k r26 a3) fun r27 => bnd (state_Seal.f k r27 a5) fun r28 => bnd (ref22_Same.f k r22 r28) fun r29 => br r29 (bnd (law22_awake.f k) fun r30 => some r30) (some false))))))))))) := by kernel_rfl
noncomputable def law22_StateOrder.e (k : Nat) : Entry := Sg.entry law22_StateOrder.sg fun x => law22_StateOrder.f k x.1 x.2.1 x.2.2.1 x.2.2.2.1 x.2.2.2.2.1 x.2.2.2.2.2.1 x.2.2.2.2.2.2
theorem law22_StateOrder.ok (k : Nat) : CallOK Tryz.prog 4 (law22_StateOrder.e k) := fn_ok (c := law22_StateOrder.cx k) (code := law22_StateOrder.body) (TT.of tt_ok pp_ok mm_ok) (fns_ok ⟨(ref22_Good.ok k), (ref12_Short.ok k), (ref12_Check.ok k), (ref08_Good.ok k), (law22_awake.ok k), (state_Seal.ok k), (state_Raise.ok k), (state_Put.ok k), (ref22_Same.ok k), trivial⟩) mixed Tryz.func4 (by kernel_rfl) (by kernel_rfl) (by kernel_rfl) (by kernel_rfl) (by kernel_rfl) (by kernel_rfl) (fun x => by kernel_rfl)
end Go.Proofs.YthghlnmihipeoaaGreatDoor
end
section
/- Sets of dots: one way to stand. -/
namespace Go.Proofs.YthghlnmihipeoaaGreatDoor
open Pal
abbrev Vec := List Int
abbrev DSet := Vec × List Dot
def vat (v : Vec) (r : Int) : Int := rd (.int .i64) v (natOf r)
theorem rightD_iff (d : Dot) : rightD d = true ↔ 0 ≤ d.1 ∧ d.1 < 16 ∧ 1 ≤ d.2 ∧ d.2 ≤ 1048576 := by unfold rightD; rw [decide_eq_true_iff]
theorem vat_get {v : Vec} {i : Nat} (h : i < v.length) : vat v (i : Int) = v[i] := by unfold vat; rw [natOf_nat]; exact rd_at' (e := .int .i64) h
theorem vat_upd {v : Vec} {r : Int} {x : Int} (h0 : 0 ≤ r) (h1 : r < v.length) (q : Int) (hq : 0 ≤ q) : vat (upd v (natOf r) x) q = if q = r then x else vat v q := by
  obtain ⟨a, rfl⟩ := Int.eq_ofNat_of_zero_le h0
  obtain ⟨b, rfl⟩ := Int.eq_ofNat_of_zero_le hq
  have ha : a < v.length := by omega
  show ((v.set a x).getD b (0 : Int)) = if ((b : Int) = (a : Int)) then x else v.getD b (0 : Int)
  rw [List.getD_eq_getElem?_getD, List.getD_eq_getElem?_getD, List.getElem?_set]
  by_cases h : a = b
  · subst h; rw [if_pos rfl, if_pos ha, if_pos rfl]; rfl
  · rw [if_neg h, if_neg (by omega)]
structure VOk (v : Vec) : Prop where
  len : v.length = 16
  lo : ∀ r, 0 ≤ r → r < 16 → 0 ≤ vat v r
  hi : ∀ r, 0 ≤ r → r < 16 → vat v r ≤ 1048576
structure Can (s : DSet) : Prop where
  vok : VOk s.1
  rt : ∀ d ∈ s.2, rightD d = true
  gap : ∀ d ∈ s.2, vat s.1 d.1 + 1 < d.2
  srt : s.2.Pairwise (fun a b => dotLt a b = true)
def Mem (s : DSet) (d : Dot) : Prop := rightD d = true ∧ (d.2 ≤ vat s.1 d.1 ∨ d ∈ s.2)
theorem vec_ext {v u : Vec} (h1 : v.length = 16) (h2 : u.length = 16) (h : ∀ r, 0 ≤ r → r < 16 → vat v r = vat u r) : v = u := by
  apply List.ext_getElem (by omega)
  intro i a b
  have := h (i : Int) (by omega) (by omega)
  rwa [vat_get a, vat_get b] at this
theorem dotLt_asym {a b : Dot} (h : dotLt a b = true) : dotLt b a = false := by
  rw [← Bool.not_eq_true, dotLt_iff]; rw [dotLt_iff] at h; omega
theorem srt_nodup {l : List Dot} (h : l.Pairwise (fun a b => dotLt a b = true)) : l.Nodup :=
  h.imp fun {a b} hab e => by subst e; rw [dotLt_swo.irrefl] at hab; cases hab
theorem srt_unique {l m : List Dot} (h1 : l.Pairwise (fun a b => dotLt a b = true)) (h2 : m.Pairwise (fun a b => dotLt a b = true)) (h : ∀ d, d ∈ l ↔ d ∈ m) : l = m :=
  sorted_unique dotLt_tot ((List.perm_ext_iff_of_nodup (srt_nodup h1) (srt_nodup h2)).2 h) (h1.imp dotLt_asym) (h2.imp dotLt_asym)
theorem can_le {s t : DSet} (hs : Can s) (ht : Can t) (h : ∀ d, Mem s d → Mem t d) (r : Int) (h0 : 0 ≤ r) (h1 : r < 16) : vat s.1 r ≤ vat t.1 r := by
  rcases (by omega : vat t.1 r < vat s.1 r ∨ vat s.1 r ≤ vat t.1 r) with hlt | hge
  · exfalso
    have a := ht.vok.lo r h0 h1
    have b := hs.vok.hi r h0 h1
    have hr : rightD (r, vat t.1 r + 1) = true := (rightD_iff _).2 ⟨h0, h1, by show 1 ≤ vat t.1 r + 1; omega, by show vat t.1 r + 1 ≤ 1048576; omega⟩
    have hm := h (r, vat t.1 r + 1) ⟨hr, .inl (by show vat t.1 r + 1 ≤ vat s.1 r; omega)⟩
    rcases hm.2 with c | c
    · have : vat t.1 r + 1 ≤ vat t.1 r := c; omega
    · have : vat t.1 r + 1 < vat t.1 r + 1 := ht.gap _ c; omega
  · exact hge
theorem can_unique {s t : DSet} (hs : Can s) (ht : Can t) (h : ∀ d, Mem s d ↔ Mem t d) : s = t := by
  have hv : ∀ r, 0 ≤ r → r < 16 → vat s.1 r = vat t.1 r := fun r h0 h1 => Int.le_antisymm (can_le hs ht (fun d => (h d).1) r h0 h1) (can_le ht hs (fun d => (h d).2) r h0 h1)
  apply Prod.ext
  · exact vec_ext hs.vok.len ht.vok.len hv
  · refine srt_unique hs.srt ht.srt fun d => ⟨fun hd => ?_, fun hd => ?_⟩
    · have hr := hs.rt d hd
      obtain ⟨a, b, _, _⟩ := (rightD_iff d).1 hr
      rcases ((h d).1 ⟨hr, .inr hd⟩).2 with c | c
      · have := hs.gap d hd; rw [hv d.1 a b] at this; omega
      · exact c
    · have hr := ht.rt d hd
      obtain ⟨a, b, _, _⟩ := (rightD_iff d).1 hr
      rcases ((h d).2 ⟨hr, .inr hd⟩).2 with c | c
      · have := ht.gap d hd; rw [← hv d.1 a b] at this; omega
      · exact c
def put1 (s : DSet) (d : Dot) : DSet :=
  if d.2 ≤ vat s.1 d.1 then s else if d.2 = vat s.1 d.1 + 1 then (upd s.1 (natOf d.1) d.2, s.2) else if s.2.getLast? = some d then s else (s.1, s.2 ++ [d])
theorem put1_can {s : DSet} {d : Dot} (hs : Can s) (hd : rightD d = true) (hb : ∀ e ∈ s.2, dotLt d e = false) : Can (put1 s d) ∧ (∀ x, Mem (put1 s d) x ↔ Mem s x ∨ x = d) ∧ (∀ e ∈ (put1 s d).2, e ∈ s.2 ∨ e = d) := by
  obtain ⟨a, b, c1, c2⟩ := (rightD_iff d).1 hd
  have hlen := hs.vok.len
  unfold put1
  by_cases h1 : d.2 ≤ vat s.1 d.1
  · rw [if_pos h1]
    exact ⟨hs, fun x => ⟨.inl, fun h => h.elim id fun e => by subst e; exact ⟨hd, .inl h1⟩⟩, fun e he => .inl he⟩
  · rw [if_neg h1]
    by_cases h2 : d.2 = vat s.1 d.1 + 1
    · rw [if_pos h2]
      have hne : ∀ e ∈ s.2, e.1 ≠ d.1 := fun e he hee => by
        have g := hs.gap e he
        have := hb e he
        rw [← Bool.not_eq_true, dotLt_iff] at this
        rw [hee] at g
        omega
      have hv : ∀ q, 0 ≤ q → q < 16 → vat (upd s.1 (natOf d.1) d.2) q = if q = d.1 then d.2 else vat s.1 q := fun q h0 _ => vat_upd a (by omega) q h0
      refine ⟨⟨⟨by simp [upd, hlen], fun r h0 h1 => ?_, fun r h0 h1 => ?_⟩, hs.rt, fun e he => ?_, hs.srt⟩, fun x => ⟨fun ⟨hr, h⟩ => ?_, fun h => ?_⟩, fun e he => .inl he⟩
      · rw [hv r h0 h1]; split
        · omega
        · exact hs.vok.lo r h0 h1
      · rw [hv r h0 h1]; split
        · omega
        · exact hs.vok.hi r h0 h1
      · obtain ⟨q0, q1, _, _⟩ := (rightD_iff e).1 (hs.rt e he)
        show vat (upd s.1 (natOf d.1) d.2) e.1 + 1 < e.2
        rw [hv e.1 q0 q1, if_neg (hne e he)]; exact hs.gap e he
      · obtain ⟨q0, q1, _, _⟩ := (rightD_iff x).1 hr
        rcases h with h | h
        · have h : x.2 ≤ vat (upd s.1 (natOf d.1) d.2) x.1 := h
          rw [hv x.1 q0 q1] at h
          split at h
          · rename_i hx
            by_cases he : x.2 = d.2
            · exact .inr (Prod.ext hx he)
            · exact .inl ⟨hr, .inl (by rw [hx]; omega)⟩
          · exact .inl ⟨hr, .inl h⟩
        · exact .inl ⟨hr, .inr h⟩
      · rcases h with ⟨hr, h⟩ | rfl
        · obtain ⟨q0, q1, _, _⟩ := (rightD_iff x).1 hr
          rcases h with h | h
          · refine ⟨hr, .inl ?_⟩
            show x.2 ≤ vat (upd s.1 (natOf d.1) d.2) x.1
            rw [hv x.1 q0 q1]; split
            · rename_i hx; rw [hx] at h; omega
            · exact h
          · exact ⟨hr, .inr h⟩
        · refine ⟨hd, .inl ?_⟩
          show x.2 ≤ vat (upd s.1 (natOf x.1) x.2) x.1
          rw [hv x.1 a b, if_pos rfl]; exact Int.le_refl _
    · rw [if_neg h2]
      by_cases h3 : s.2.getLast? = some d
      · rw [if_pos h3]
        have hmem : d ∈ s.2 := List.mem_of_getLast? h3
        exact ⟨hs, fun x => ⟨.inl, fun h => h.elim id fun e => by subst e; exact ⟨hd, .inr hmem⟩⟩, fun e he => .inl he⟩
      · rw [if_neg h3]
        have hlt : ∀ e ∈ s.2, dotLt e d = true := by
          intro e he
          cases hh : dotLt e d with
          | true => rfl
          | false =>
            exfalso
            have heq := dotLt_tot e d hh (hb e he)
            subst heq
            obtain ⟨p, q, hpq⟩ := List.append_of_mem he
            cases q with
            | nil => rw [hpq] at h3; simp at h3
            | cons z zs =>
              have hsr := hs.srt
              rw [hpq] at hsr
              have h5 := (List.pairwise_append.1 hsr).2.1
              have h6 := (List.pairwise_cons.1 h5).1 z (by simp)
              have h7 := hb z (by rw [hpq]; simp)
              rw [h6] at h7; cases h7
        refine ⟨⟨hs.vok, fun e he => ?_, fun e he => ?_, ?_⟩, fun x => ⟨fun ⟨hr, h⟩ => ?_, fun h => ?_⟩, fun e he => ?_⟩
        · rcases List.mem_append.1 he with he | he
          · exact hs.rt e he
          · rw [List.mem_singleton.1 he]; exact hd
        · rcases List.mem_append.1 he with he | he
          · exact hs.gap e he
          · rw [List.mem_singleton.1 he]; show vat s.1 d.1 + 1 < d.2; omega
        · exact List.pairwise_append.2 ⟨hs.srt, List.pairwise_singleton _ _, fun e he f hf => by rw [List.mem_singleton.1 hf]; exact hlt e he⟩
        · rcases h with h | h
          · exact .inl ⟨hr, .inl h⟩
          · rcases List.mem_append.1 h with h | h
            · exact .inl ⟨hr, .inr h⟩
            · exact .inr (List.mem_singleton.1 h)
        · rcases h with ⟨hr, h⟩ | rfl
          · exact ⟨hr, h.imp id fun h => List.mem_append.2 (.inl h)⟩
          · exact ⟨hd, .inr (List.mem_append.2 (.inr (by simp)))⟩
        · rcases List.mem_append.1 he with he | he
          · exact .inl he
          · exact .inr (List.mem_singleton.1 he)
def mk (v : Vec) (l : List Dot) : DSet := l.foldl put1 (v, [])
theorem mk_can {v : Vec} (hv : VOk v) : ∀ (l : List Dot), (∀ d ∈ l, rightD d = true) → l.Pairwise (fun a b => dotLt b a = false) →
    Can (mk v l) ∧ (∀ x, Mem (mk v l) x ↔ rightD x = true ∧ (x.2 ≤ vat v x.1 ∨ x ∈ l)) ∧ (mk v l).2.length ≤ l.length ∧ ∀ e ∈ (mk v l).2, e ∈ l := by
  have key : ∀ (l p : List Dot) (s : DSet), (∀ d ∈ p ++ l, rightD d = true) → (p ++ l).Pairwise (fun a b => dotLt b a = false) → Can s → (∀ x, Mem s x ↔ rightD x = true ∧ (x.2 ≤ vat v x.1 ∨ x ∈ p)) → s.2.length ≤ p.length → (∀ e ∈ s.2, e ∈ p) →
      Can (l.foldl put1 s) ∧ (∀ x, Mem (l.foldl put1 s) x ↔ rightD x = true ∧ (x.2 ≤ vat v x.1 ∨ x ∈ p ++ l)) ∧ (l.foldl put1 s).2.length ≤ (p ++ l).length ∧ ∀ e ∈ (l.foldl put1 s).2, e ∈ p ++ l := by
    intro l
    induction l with
    | nil => intro p s _ _ hc hm hl he; rw [List.append_nil]; exact ⟨hc, hm, hl, he⟩
    | cons d l ih =>
      intro p s hr hp hc hm hl he
      have hd : rightD d = true := hr d (by simp)
      have hbb : ∀ e ∈ s.2, dotLt d e = false := fun e hee => (List.pairwise_append.1 hp).2.2 e (he e hee) d (by simp)
      obtain ⟨c1, c2, c3⟩ := put1_can hc hd hbb
      have := ih (p ++ [d]) (put1 s d) (by simpa using hr) (by simpa using hp) c1 (fun x => by
          rw [c2, hm]
          constructor
          · rintro (⟨h1, h2⟩ | rfl)
            · exact ⟨h1, h2.imp id fun h => List.mem_append.2 (.inl h)⟩
            · exact ⟨hd, .inr (by simp)⟩
          · rintro ⟨h1, h2 | h2⟩
            · exact .inl ⟨h1, .inl h2⟩
            · rcases List.mem_append.1 h2 with h3 | h3
              · exact .inl ⟨h1, .inr h3⟩
              · exact .inr (List.mem_singleton.1 h3)) (by
          unfold put1; simp only [List.length_append, List.length_singleton]
          split
          · omega
          · split
            · show s.2.length ≤ _; omega
            · split
              · omega
              · simp; omega) (fun e hee => by
          rcases c3 e hee with h | h
          · exact List.mem_append.2 (.inl (he e h))
          · exact List.mem_append.2 (.inr (by simp [h])))
      rw [List.append_assoc] at this; exact this
  intro l hr hs
  have h0 : Can (v, []) := ⟨hv, fun d hd => by simp at hd, fun d hd => by simp at hd, List.Pairwise.nil⟩
  have := key l [] (v, []) (by simpa using hr) (by simpa using hs) h0 (fun x => by simp [Mem]) (Nat.le_refl _) (fun e he => he)
  exact this
end Go.Proofs.YthghlnmihipeoaaGreatDoor
end
section
/- What the functions of the layer of dots compute. -/
namespace Go.Proofs.YthghlnmihipeoaaGreatDoor
open Pal
theorem iadd_s {a b : Int} (h1 : -1000000000000 ≤ a) (h2 : a ≤ 1000000000000) (h3 : -1000000000000 ≤ b) (h4 : b ≤ 1000000000000) : iadd .i64 a b = a + b := by
  have e1 : ((2 : Int) ^ 63) = 9223372036854775808 := by decide
  show IntKind.wrap .i64 (a + b) = _
  rw [wrap_i64 (by rw [e1]; omega) (by rw [e1]; omega)]
theorem isub_s {a b : Int} (h1 : -1000000000000 ≤ a) (h2 : a ≤ 1000000000000) (h3 : -1000000000000 ≤ b) (h4 : b ≤ 1000000000000) : isub .i64 a b = a - b := by
  have e1 : ((2 : Int) ^ 63) = 9223372036854775808 := by decide
  show IntKind.wrap .i64 (a - b) = _
  rw [wrap_i64 (by rw [e1]; omega) (by rw [e1]; omega)]
theorem inB16 {r : Int} (h0 : 0 ≤ r) (h1 : r < 16) : inB r 16 = true := by simp [inB, h0]; omega
theorem room1 {α : Type} {xs : List α} {x : α} (h : xs.length < 4000000) : room xs (x :: []) = true := by simp [room]; omega
theorem ile_dec (a b : Int) : ile a b = decide (a ≤ b) := rfl
theorem ilt_dec (a b : Int) : ilt a b = decide (a < b) := rfl
theorem deqD (a b : Dot) : deq tDot a b = decide (a = b) := deq_dec (τ := tDot) rfl a b
theorem last_rd {M : List Dot} {m : Nat} (hl : M.length = m + 1) (hb : m < 4000000) : rd tDot M (natOf (isub .i64 (ilen M) 1)) = M[m] := by
  rw [isub_s (by unfold ilen; omega) (by unfold ilen; omega) (by omega) (by omega), show ilen M - 1 = (m : Int) by unfold ilen; omega, natOf_nat]
  exact rd_at' (e := tDot) (by omega)
theorem last_in {M : List Dot} {m : Nat} (hl : M.length = m + 1) (hb : m < 4000000) : inL (isub .i64 (ilen M) 1) M = true := by
  rw [isub_s (by unfold ilen; omega) (by unfold ilen; omega) (by omega) (by omega), show ilen M - 1 = (m : Int) by unfold ilen; omega, inL_nat]
  simp; omega
theorem getLast_is {M : List Dot} {m : Nat} (hl : M.length = m + 1) : M.getLast? = some M[m] := by
  rw [List.getLast?_eq_getElem?]; exact List.getElem?_eq_some_iff.2 ⟨by omega, by simp [hl]⟩
theorem take_next {l : List Dot} {i : Nat} (hi : i < l.length) : l.take (i + 1) = l.take i ++ [l[i]] := by rw [List.take_add_one, List.getElem?_eq_getElem hi]; rfl
theorem made_l (k : Nat) (l : List Dot) (hl : l.length < 1000000) (hr : ∀ d ∈ l, rightD d = true) (hs : l.Pairwise (fun a b => dotLt b a = false)) (v : Vec) (hv : VOk v) (za : Vec) (zb : List Dot) : ∀ (n i : Nat), i ≤ l.length → l.length < n + i →
    dots_made.l3 k n l (ilen l) (i : Int) za zb (mk v (l.take i)).1 (mk v (l.take i)).2 = some (mk v l)
  | 0, i, h, h' => by omega
  | n + 1, i, h, h' => by
    rw [dots_made.l3_eq, ilt_nat, inL_nat, natOf_nat]
    by_cases hi : i < l.length
    · have hstep : mk v (l.take (i + 1)) = put1 (mk v (l.take i)) l[i] := by rw [take_next hi]; unfold mk; rw [List.foldl_append]; rfl
      obtain ⟨hc, hm, hml, _⟩ := mk_can hv (l.take i) (fun d hd => hr d (List.mem_of_mem_take hd)) (hs.sublist (List.take_sublist i l))
      have ih := made_l k l hl hr hs v hv za zb n (i + 1) (by omega) (by omega)
      rw [hstep] at ih
      have hmk : mk v (l.take i) = mk v (l.take i) := rfl
      generalize mk v (l.take i) = s at hc hm hml ih hstep ⊢
      obtain ⟨V, M⟩ := s
      obtain ⟨r0, r1, r2, r3⟩ := (rightD_iff l[i]).1 (hr _ (List.getElem_mem hi))
      rw [rd_at' (e := tDot) hi, iadd_nat (by omega)]
      obtain ⟨d, hd⟩ : ∃ d : Dot, d = l[i] := ⟨_, rfl⟩
      rw [← hd] at r0 r1 r2 r3 ih ⊢
      have hvv : rd (.int .i64) V (natOf d.1) = vat V d.1 := rfl
      have v0 := hc.vok.lo d.1 r0 r1
      have v1 := hc.vok.hi d.1 r0 r1
      have v0' : 0 ≤ vat V d.1 := v0
      have v1' : vat V d.1 ≤ 1048576 := v1
      have hML : M.length ≤ i := by have : M.length ≤ (l.take i).length := hml; rw [List.length_take] at this; omega
      simp only [hi, decide_true, br_true, inB16 r0 r1, hvv, ile_dec]
      rw [iadd_s (by omega) (by omega) (by omega) (by omega), ieq_dec, ieq_dec]
      unfold put1 at ih
      by_cases h1 : d.2 ≤ vat V d.1
      · simp only [h1, decide_true, br_true, if_true] at ih ⊢; exact ih
      · by_cases h2 : d.2 = vat V d.1 + 1
        · rw [if_neg h1, if_pos h2] at ih
          rw [decide_eq_false h1, decide_eq_true h2]; exact ih
        · simp only [h1, h2, decide_false, br_false, if_false] at ih ⊢
          rw [room1 (by omega)]
          cases hM : M.length with
          | zero =>
            have hM0 : M = [] := List.eq_nil_of_length_eq_zero hM
            subst hM0
            simp only [List.getLast?_nil, reduceCtorEq, if_false] at ih
            have : decide (ilen ([] : List Dot) = 0) = true := rfl
            rw [this]; simp only [br_true]; exact ih
          | succ m =>
            have h4 : ¬ (ilen M = 0) := by unfold ilen; omega
            rw [last_in hM (by omega), last_rd hM (by omega), deqD, bnot_dec]
            simp only [h4, decide_false, br_true, br_false]
            rw [getLast_is hM] at ih
            by_cases h5 : M[m] = d
            · simp only [h5, if_true, decide_true, decide_false, not_true, br_false] at ih ⊢; exact ih
            · have h6 : ¬ (some M[m] = some d) := fun e => h5 (Option.some.inj e)
              simp only [h5, h6, if_false, not_false_eq_true, decide_true, br_true] at ih ⊢; exact ih
    · have : i = l.length := by omega
      subst this
      simp only [List.take_length, Nat.lt_irrefl, decide_false, br_false]
theorem made_is (k : Nat) (l : List Dot) (hl : l.length < k) (hk : k < 1000000) (hr : ∀ d ∈ l, rightD d = true) (hs : l.Pairwise (fun a b => dotLt b a = false)) (v : Vec) (hv : VOk v) : dots_made.f k v l = some (mk v l) := by
  rw [dots_made.f_eq]
  exact made_l k l (by omega) hr hs v hv (zarr 16 0) [] k 0 (by omega) (by omega)
theorem vok0 : VOk (zarr 16 0) := ⟨rfl, fun r h0 h1 => by
    obtain ⟨a, rfl⟩ := Int.eq_ofNat_of_zero_le h0
    have : a < 16 := by omega
    have e : vat (zarr 16 0) (a : Int) = 0 := by rw [vat_get (by show a < 16; omega)]; exact List.getElem_replicate ..
    rw [e]; exact Int.le_refl _, fun r h0 h1 => by
    obtain ⟨a, rfl⟩ := Int.eq_ofNat_of_zero_le h0
    have e : vat (zarr 16 0) (a : Int) = 0 := by rw [vat_get (by show a < 16; omega)]; exact List.getElem_replicate ..
    rw [e]; decide⟩
theorem vat0 (r : Int) (h0 : 0 ≤ r) (h1 : r < 16) : vat (zarr 16 0) r = 0 := by
  obtain ⟨a, rfl⟩ := Int.eq_ofNat_of_zero_le h0
  rw [vat_get (by show a < 16; omega)]; exact List.getElem_replicate ..
def ofD (l : List Dot) : DSet := mk (zarr 16 0) (isort dotLt (kept rightD l))
theorem kept_mem {l : List Dot} {d : Dot} : d ∈ isort dotLt (kept rightD l) ↔ d ∈ l ∧ rightD d = true := by
  rw [(isort_perm dotLt _).mem_iff]; unfold kept; rw [List.mem_filter]
theorem ofD_can (l : List Dot) : Can (ofD l) ∧ (∀ x, Mem (ofD l) x ↔ rightD x = true ∧ x ∈ l) ∧ (ofD l).2.length ≤ l.length := by
  obtain ⟨h1, h2, h3, _⟩ := mk_can vok0 (isort dotLt (kept rightD l)) (fun d hd => (kept_mem.1 hd).2) (isort_sorted dotLt_swo _)
  refine ⟨h1, fun x => ?_, ?_⟩
  · rw [show Mem (ofD l) x ↔ _ from h2 x, kept_mem]
    constructor
    · rintro ⟨a, b | b⟩
      · obtain ⟨q0, q1, q2, _⟩ := (rightD_iff x).1 a
        rw [vat0 x.1 q0 q1] at b; omega
      · exact ⟨a, b.1⟩
    · rintro ⟨a, b⟩; exact ⟨a, .inr ⟨b, a⟩⟩
  · refine Nat.le_trans h3 ?_
    rw [(isort_perm dotLt _).length_eq]; exact List.length_filter_le _ _
theorem of_is (k : Nat) (l : List Dot) (hl : l.length < k) (hk : k < 1000000) : dots_Of.f k l = some (ofD l) := by
  have h1 : room ([] : List Int) l = true := by simp [room]; omega
  have h2 : (kept rightD l).length ≤ l.length := List.length_filter_le _ _
  have h3 : room ([] : List Int) (kept dotKeep l) = true := by simp [room]; have : (kept dotKeep l).length ≤ l.length := h2; omega
  rw [dots_Of.f_eq, h1, h3]
  simp only [br_true]
  rw [made_is k _ (by rw [(isort_perm dotLt _).length_eq]; exact Nat.lt_of_le_of_lt h2 hl) hk (fun d hd => (kept_mem.1 hd).2) (isort_sorted dotLt_swo _) _ vok0]
  rfl
theorem rright_is (k : Nat) (d : Dot) : ref04_Right.f k d = some (rightD d) := by
  rw [ref04_Right.f_eq]
  have : ile d.1 15 = ilt d.1 16 := by unfold ile ilt; congr 1; exact propext ⟨fun h => by omega, fun h => by omega⟩
  rw [this]
  have := right_is k d
  rw [dot_Right.f_eq] at this
  exact this
def memB (s : DSet) (d : Dot) : Bool := rightD d && (decide (d.2 ≤ vat s.1 d.1) || decide (d ∈ s.2))
theorem memB_iff (s : DSet) (d : Dot) : memB s d = true ↔ Mem s d := by simp [memB, Mem]
theorem vhas_is (k : Nat) (v : Vec) (d : Dot) : vec_Has.f k v d = some (rightD d && decide (d.2 ≤ vat v d.1)) := by
  rw [vec_Has.f_eq, right_is]
  simp only [bnd]
  cases h : rightD d with
  | false => rfl
  | true =>
    obtain ⟨a, b, _, _⟩ := (rightD_iff d).1 h
    rw [inB16 a b]; rfl
theorem rvhas_is (k : Nat) (v : Vec) (d : Dot) : ref05_Has.f k v d = some (rightD d && decide (d.2 ≤ vat v d.1)) := by
  rw [ref05_Has.f_eq, rright_is]
  simp only [bnd]
  cases h : rightD d with
  | false => rfl
  | true =>
    obtain ⟨a, b, _, _⟩ := (rightD_iff d).1 h
    rw [inB16 a b]; rfl
theorem any_step {α : Type} {xs : List α} {i : Nat} (h : i < xs.length) (p : α → Bool) : (xs.drop i).any p = (p xs[i] || (xs.drop (i + 1)).any p) := by
  rw [List.drop_eq_getElem_cons h, List.any_cons]
theorem rhas_l (k : Nat) (s : DSet) (d : Dot) (hl : s.2.length < 1000000) : ∀ (n i : Nat), i ≤ s.2.length → s.2.length < n + i → ref06_Has.l4 k n (i : Int) s d = some ((s.2.drop i).any fun e => decide (e = d))
  | 0, i, h, h' => by omega
  | n + 1, i, h, h' => by
    rw [ref06_Has.l4_eq, ilt_nat, inL_nat, natOf_nat]
    by_cases hi : i < s.2.length
    · rw [any_step hi, rd_at' (e := tDot) hi, deqD, iadd_nat (by omega), rhas_l k s d hl n (i + 1) (by omega) (by omega)]
      by_cases he : s.2[i] = d <;> simp [hi, he, br_true, br_false]
    · rw [List.drop_of_length_le (by omega)]; simp [hi, br_false]
theorem any_mem (l : List Dot) (d : Dot) : (l.any fun e => decide (e = d)) = decide (d ∈ l) := by
  rw [Bool.eq_iff_iff]; simp
theorem rhas_is (k : Nat) (s : DSet) (d : Dot) (hl : s.2.length < k) (hk : k < 1000000) (hr : ∀ e ∈ s.2, rightD e = true) : ref06_Has.f k s d = some (memB s d) := by
  rw [ref06_Has.f_eq, rvhas_is]
  simp only [bnd]
  have := rhas_l k s d (by omega) k 0 (by omega) (by omega)
  rw [List.drop_zero, any_mem] at this
  rw [show ref06_Has.l4 k k 0 s d = _ from this]
  unfold memB
  cases h : rightD d with
  | false =>
    have : d ∉ s.2 := fun hd => by rw [hr d hd] at h; cases h
    simp [this, br_false]
  | true =>
    by_cases h2 : d.2 ≤ vat s.1 d.1 <;> simp [h2, br_true, br_false]
end Go.Proofs.YthghlnmihipeoaaGreatDoor
end
section
/- What the functions of the layer of dots compute, on. -/
namespace Go.Proofs.YthghlnmihipeoaaGreatDoor
open Pal
theorem wrap_u64 {n : Int} (h1 : 0 ≤ n) (h2 : n < 2 ^ 63) : IntKind.wrap .u64 n = n := by
  have e1 : ((2 : Int) ^ 63) = 9223372036854775808 := by decide
  rw [e1] at h2
  simp only [IntKind.wrap, IntKind.signed, IntKind.bits]
  simp
  omega
theorem mid_is {i j : Nat} (h : i + j < 1000000000) : iwrap .i64 (ishr .u64 (iwrap .u64 (iadd .i64 (i : Int) (j : Int))) 1) = (((i + j) / 2 : Nat) : Int) := by
  have e1 : ((2 : Int) ^ 63) = 9223372036854775808 := by decide
  rw [iadd_s (by omega) (by omega) (by omega) (by omega)]
  unfold iwrap ishr
  rw [wrap_u64 (by omega) (by rw [e1]; omega)]
  have e2 : (2 : Int) ^ (min (1 : Int).toNat (IntKind.bits .u64)) = 2 := by decide
  rw [e2, show (i : Int) + (j : Int) = ((i + j : Nat) : Int) by omega]
  have e3 : Int.fdiv ((i + j : Nat) : Int) 2 = (((i + j) / 2 : Nat) : Int) := by
    rw [Int.fdiv_eq_ediv_of_nonneg _ (by decide)]; rfl
  rw [e3, wrap_i64 (by rw [e1]; omega) (by rw [e1]; omega)]
def Found (l : List Dot) (d : Dot) (p : Nat) (b : Bool) : Prop :=
  p ≤ l.length ∧ (∀ j (h : j < l.length), j < p → dotLt l[j] d = true) ∧ (∀ j (h : j < l.length), p ≤ j → dotLt l[j] d = false) ∧ b = decide (d ∈ l)
theorem srt_get {l : List Dot} (hs : l.Pairwise (fun a b => dotLt a b = true)) {i j : Nat} (hi : i < l.length) (hj : j < l.length) (h : i < j) : dotLt l[i] l[j] = true := List.pairwise_iff_getElem.1 hs i j hi hj h
theorem cmp_lt0 (a b : Dot) : ilt (cmpD a b) 0 = dotLt a b := rfl
theorem cmp_eq0 (a b : Dot) : ieq (cmpD a b) 0 = decide (a = b) := by
  rw [ieq_dec]; congr 1
  unfold cmpD
  apply propext
  by_cases h : a.1 = b.1
  · rw [if_pos ((cmpI_eq _ _).2 h), cmpI_eq]; exact ⟨fun h2 => Prod.ext h h2, fun e => by rw [e]⟩
  · rw [if_neg (fun e => h ((cmpI_eq _ _).1 e)), cmpI_eq]; exact ⟨fun e => absurd e h, fun e => by rw [e]⟩
theorem bs_l (k : Nat) (l : List Dot) (d : Dot) (hl : l.length < 1000000) (hs : l.Pairwise (fun a b => dotLt a b = true)) : ∀ (n i j : Nat), i ≤ j → j ≤ l.length → j < n + i → (∀ t (h : t < l.length), t < i → dotLt l[t] d = true) → (∀ t (h : t < l.length), j ≤ t → dotLt l[t] d = false) →
    ∃ p b, Found l d p b ∧ slices_BinarySearchFunc_api_Dot_api_Dot_api_Dot_dot_Compare.l3 (k + 3) n l (ilen l) (i : Int) (j : Int) d = some ((p : Int), b)
  | 0, i, j, h, _, h', _, _ => by omega
  | n + 1, i, j, hij, hj, hn, h1, h2 => by
    rw [slices_BinarySearchFunc_api_Dot_api_Dot_api_Dot_dot_Compare.l3_eq, ilt_nn, mid_is (by omega)]
    by_cases hlt : i < j
    · have hm : (i + j) / 2 < l.length := by omega
      rw [inL_nat, natOf_nat, rd_at' (e := tDot) hm, cmpD_is]
      simp only [hlt, hm, decide_true, br_true, br_false, bnd, cmp_lt0]
      have hi' : i ≤ (i + j) / 2 := by omega
      have hj' : (i + j) / 2 < j := by omega
      generalize (i + j) / 2 = m at hm hi' hj' ⊢
      cases hc : dotLt l[m] d with
      | true =>
        rw [iadd_nat (by omega)]
        simp only [br_true]
        exact bs_l k l d hl hs n (m + 1) j (by omega) hj (by omega) (fun t ht htm => by
          rcases Nat.lt_or_ge t m with h | h
          · exact dotLt_swo.trans _ _ _ (srt_get hs ht hm h) hc
          · have : t = m := by omega
            subst this; exact hc) h2
      | false =>
        simp only [br_false]
        exact bs_l k l d hl hs n i m hi' (by omega) (by omega) h1 (fun t ht htm => by
          rcases Nat.lt_or_ge m t with h | h
          · cases hh : dotLt l[t] d with
            | false => rfl
            | true => exfalso; have := dotLt_swo.trans _ _ _ (srt_get hs hm ht h) hh; rw [hc] at this; cases this
          · have : t = m := by omega
            subst this; exact hc)
    · have : i = j := by omega
      subst this
      have hge : ∀ t (h : t < l.length), l[t] = d → i ≤ t := fun t h e => by
        rcases Nat.lt_or_ge t i with hh | hh
        · have := h1 t h hh; rw [e, dotLt_swo.irrefl] at this; cases this
        · exact hh
      simp only [Nat.lt_irrefl, decide_false, br_false, ilt_nat, inL_nat, natOf_nat]
      by_cases hil : i < l.length
      · rw [rd_at' (e := tDot) hil, cmpD_is]
        simp only [hil, decide_true, br_true, bnd, cmp_eq0]
        refine ⟨i, _, ⟨hj, h1, h2, ?_⟩, rfl⟩
        congr 1
        apply propext
        constructor
        · intro e; rw [← e]; exact List.getElem_mem hil
        · intro e
          obtain ⟨t, ht, he⟩ := List.getElem_of_mem e
          have h3 := hge t ht he
          rcases Nat.lt_or_ge i t with hh | hh
          · have h4 := srt_get hs hil ht hh
            rw [he] at h4
            have := h2 i hil (Nat.le_refl _)
            rw [h4] at this; cases this
          · have : t = i := by omega
            subst this; exact he
      · simp only [hil, decide_false, br_false]
        refine ⟨i, _, ⟨hj, h1, h2, ?_⟩, rfl⟩
        symm; rw [decide_eq_false_iff_not]
        intro e
        obtain ⟨t, ht, he⟩ := List.getElem_of_mem e
        have := hge t ht he; omega
theorem bs_is (k : Nat) (l : List Dot) (d : Dot) (h3 : 3 ≤ k) (hl : l.length < k) (hk : k < 1000000) (hs : l.Pairwise (fun a b => dotLt a b = true)) : ∃ p b, Found l d p b ∧ slices_BinarySearchFunc_api_Dot_api_Dot_api_Dot_dot_Compare.f k l d = some ((p : Int), b) := by
  obtain ⟨q, rfl⟩ : ∃ q, k = q + 3 := ⟨k - 3, by omega⟩
  rw [slices_BinarySearchFunc_api_Dot_api_Dot_api_Dot_dot_Compare.f_eq]
  exact bs_l q l d (by omega) hs (q + 3) 0 l.length (by omega) (Nat.le_refl _) (by omega) (fun t _ h => by omega) (fun t h h' => by omega)
theorem has_is (k : Nat) (s : DSet) (d : Dot) (h3 : 3 ≤ k) (hl : s.2.length < k) (hk : k < 1000000) (hs : Can s) : dots_Has.f k s d = some (memB s d) := by
  rw [dots_Has.f_eq, vhas_is]
  simp only [bnd]
  obtain ⟨p, b, hf, he⟩ := bs_is k s.2 d h3 hl hk hs.srt
  rw [he, hf.2.2.2]
  unfold memB
  cases h : rightD d with
  | false =>
    have : d ∉ s.2 := fun hd => by rw [hs.rt d hd] at h; cases h
    simp [this, br_false]
  | true =>
    by_cases h2 : d.2 ≤ vat s.1 d.1 <;> simp [h2, br_true, br_false]
def insR (d : Dot) : List Dot → List Dot
  | [] => [d]
  | y :: r => if dotLt d y then d :: y :: r else y :: insR d r
theorem insR_perm (d : Dot) : ∀ l, (insR d l).Perm (d :: l)
  | [] => List.Perm.refl _
  | y :: r => by
    unfold insR
    split
    · exact List.Perm.refl _
    · exact ((insR_perm d r).cons y).trans (List.Perm.swap d y r)
theorem insR_srt {d : Dot} : ∀ {l : List Dot}, l.Pairwise (fun a b => dotLt a b = true) → d ∉ l → (insR d l).Pairwise (fun a b => dotLt a b = true)
  | [], _, _ => List.pairwise_singleton _ _
  | y :: r, h, hd => by
    have h' := List.pairwise_cons.1 h
    unfold insR
    split
    · rename_i hy
      refine List.pairwise_cons.2 ⟨fun z hz => ?_, h⟩
      rcases List.mem_cons.1 hz with rfl | hz
      · exact hy
      · exact dotLt_swo.trans _ _ _ hy (h'.1 z hz)
    · rename_i hy
      have hyd : dotLt y d = true := by
        cases hh : dotLt y d with
        | true => rfl
        | false => exact absurd (by rw [dotLt_tot y d hh (by simpa using hy)]; exact List.mem_cons_self) hd
      refine List.pairwise_cons.2 ⟨fun z hz => ?_, insR_srt h'.2 (fun hh => hd (List.mem_cons_of_mem _ hh))⟩
      rcases List.mem_cons.1 ((insR_perm d r).mem_iff.1 hz) with rfl | hz
      · exact hyd
      · exact h'.1 z hz
theorem insAt_is {l : List Dot} {d : Dot} {p : Nat} {b : Bool} (hf : Found l d p b) (hd : d ∉ l) (hs : l.Pairwise (fun a b => dotLt a b = true)) : insAt l (p : Int) (d :: []) = insR d l := by
  have hlt : ∀ t (h : t < l.length), p ≤ t → dotLt d l[t] = true := fun t h hp => by
    cases hh : dotLt d l[t] with
    | true => rfl
    | false => exact absurd (by rw [dotLt_tot d l[t] hh (hf.2.2.1 t h hp)]; exact List.getElem_mem h) hd
  have e : insAt l (p : Int) (d :: []) = l.take p ++ d :: l.drop p := rfl
  refine srt_unique ?_ (insR_srt hs hd) fun x => ?_
  · rw [e]
    refine List.pairwise_append.2 ⟨hs.sublist (List.take_sublist _ _), List.pairwise_cons.2 ⟨fun z hz => ?_, hs.sublist (List.drop_sublist _ _)⟩, fun x hx y hy => ?_⟩
    · obtain ⟨t, ht, rfl⟩ := List.getElem_of_mem hz
      rw [List.getElem_drop]
      exact hlt _ (by rw [List.length_drop] at ht; omega) (by omega)
    · obtain ⟨t, ht, rfl⟩ := List.getElem_of_mem hx
      rw [List.getElem_take]
      have ht2 : t < p ∧ t < l.length := by rw [List.length_take] at ht; omega
      have h1 := hf.2.1 t ht2.2 ht2.1
      rcases List.mem_cons.1 hy with rfl | hy
      · exact h1
      · obtain ⟨u, hu, rfl⟩ := List.getElem_of_mem hy
        rw [List.getElem_drop]
        exact srt_get hs ht2.2 (by rw [List.length_drop] at hu; omega) (by omega)
  · rw [e, (insR_perm d l).mem_iff, List.mem_append, List.mem_cons, List.mem_cons]
    have : x ∈ l ↔ x ∈ l.take p ∨ x ∈ l.drop p := by rw [← List.mem_append, List.take_append_drop]
    rw [this]
    exact ⟨fun h => h.elim (fun h => .inr (.inl h)) (fun h => h.elim .inl (fun h => .inr (.inr h))), fun h => h.elim (fun h => .inr (.inl h)) (fun h => h.elim .inl (fun h => .inr (.inr h)))⟩
def putD (s : DSet) (d : Dot) : DSet := if memB s d = true ∨ rightD d = false then s else mk s.1 (insR d s.2)
theorem insR_weak {d : Dot} {l : List Dot} (hs : l.Pairwise (fun a b => dotLt a b = true)) (hd : d ∉ l) : (insR d l).Pairwise (fun a b => dotLt b a = false) := (insR_srt hs hd).imp dotLt_asym
theorem putD_can {s : DSet} (hs : Can s) (d : Dot) : Can (putD s d) ∧ (∀ x, Mem (putD s d) x ↔ Mem s x ∨ (rightD d = true ∧ x = d)) ∧ (putD s d).2.length ≤ s.2.length + 1 := by
  unfold putD
  by_cases h : memB s d = true ∨ rightD d = false
  · rw [if_pos h]
    refine ⟨hs, fun x => ⟨.inl, fun hh => hh.elim id fun ⟨h1, h2⟩ => ?_⟩, by omega⟩
    subst h2
    rcases h with h | h
    · exact (memB_iff s x).1 h
    · rw [h] at h1; cases h1
  · rw [if_neg h]
    have h1 : ¬ Mem s d := fun hm => h (.inl ((memB_iff s d).2 hm))
    have h2 : rightD d = true := by cases hh : rightD d with
      | true => rfl
      | false => exact absurd (.inr hh) h
    have hn : d ∉ s.2 := fun hd => h1 ⟨h2, .inr hd⟩
    obtain ⟨q1, q2, q3, _⟩ := mk_can hs.vok (insR d s.2) (fun e he => by
      rcases List.mem_cons.1 ((insR_perm d s.2).mem_iff.1 he) with rfl | he
      · exact h2
      · exact hs.rt e he) (insR_weak hs.srt hn)
    refine ⟨q1, fun x => ?_, by rw [(insR_perm d s.2).length_eq] at q3; simpa using q3⟩
    rw [q2, (insR_perm d s.2).mem_iff, List.mem_cons]
    constructor
    · rintro ⟨a, b | b | b⟩
      · exact .inl ⟨a, .inl b⟩
      · exact .inr ⟨h2, b⟩
      · exact .inl ⟨a, .inr b⟩
    · rintro (⟨a, b⟩ | ⟨a, b⟩)
      · exact ⟨a, b.imp id .inr⟩
      · exact ⟨by rw [b]; exact a, .inr (.inl b)⟩
theorem put_is (k : Nat) (s : DSet) (d : Dot) (h3 : 3 ≤ k) (hl : s.2.length + 1 < k) (hk : k < 1000000) (hs : Can s) : dots_Put.f k s d = some (putD s d) := by
  rw [dots_Put.f_eq, right_is, has_is k s d h3 (by omega) hk hs]
  simp only [bnd]
  unfold putD
  cases h : rightD d with
  | false => simp [bnot, br_true]
  | true =>
    cases hm : memB s d with
    | true => simp [bnot, br_true, br_false]
    | false =>
      have hn : d ∉ s.2 := fun hd => by
        have := (memB_iff s d).2 ⟨h, .inr hd⟩
        rw [hm] at this; cases this
      obtain ⟨p, b, hf, he⟩ := bs_is k s.2 d h3 (by omega) hk hs.srt
      rw [he]
      dsimp only
      have e1 : room ([] : List Int) s.2 = true := by simp [room]; omega
      have e2 : inS 0 (p : Int) (ilen s.2) = true := by have := hf.1; simp [inS, ilen]; omega
      have hb0 : bnot true = false := rfl
      rw [e1, e2, room1 (by omega), insAt_is hf hn hs.srt, hb0]
      simp only [br_true, br_false]
      rw [made_is k _ (by rw [(insR_perm d s.2).length_eq]; simpa using hl) hk (fun e he => by
        rcases List.mem_cons.1 ((insR_perm d s.2).mem_iff.1 he) with rfl | he
        · exact h
        · exact hs.rt e he) (insR_weak hs.srt hn) _ hs.vok]
      simp
end Go.Proofs.YthghlnmihipeoaaGreatDoor
end
section
/- What the document's functions of the layer of dots compute. -/
namespace Go.Proofs.YthghlnmihipeoaaGreatDoor
open Pal
theorem filled_l (k : Nat) (s : DSet) (hl : s.2.length < 1000000) (hr : ∀ d ∈ s.2, rightD d = true) (hs : s.2.Pairwise (fun a b => dotLt a b = true)) (hv : VOk s.1) (za : Vec) (zb : List Dot) : ∀ (n i : Nat), i ≤ s.2.length → s.2.length < n + i →
    ref06_filled.l3 k n (i : Int) s za zb (mk s.1 (s.2.take i)).1 (mk s.1 (s.2.take i)).2 = some (mk s.1 s.2)
  | 0, i, h, h' => by omega
  | n + 1, i, h, h' => by
    rw [ref06_filled.l3_eq, ilt_nat, inL_nat, natOf_nat]
    by_cases hi : i < s.2.length
    · have hstep : mk s.1 (s.2.take (i + 1)) = put1 (mk s.1 (s.2.take i)) s.2[i] := by rw [take_next hi]; unfold mk; rw [List.foldl_append]; rfl
      have hws : s.2.Pairwise (fun a b => dotLt b a = false) := hs.imp dotLt_asym
      obtain ⟨hc, hm, hml, hin⟩ := mk_can hv (s.2.take i) (fun d hd => hr d (List.mem_of_mem_take hd)) (hws.sublist (List.take_sublist i s.2))
      have ih := filled_l k s hl hr hs hv za zb n (i + 1) (by omega) (by omega)
      rw [hstep] at ih
      have hnl : (mk s.1 (s.2.take i)).2.getLast? ≠ some s.2[i] := fun e => by
        have h1 := hin _ (List.mem_of_getLast? e)
        obtain ⟨t, ht, he⟩ := List.getElem_of_mem h1
        have ht2 : t < i := by rw [List.length_take] at ht; omega
        rw [List.getElem_take] at he
        have := srt_get hs (by omega) hi ht2
        rw [he, dotLt_swo.irrefl] at this; cases this
      generalize mk s.1 (s.2.take i) = t at hc hm hml ih hstep hin hnl ⊢
      obtain ⟨V, M⟩ := t
      obtain ⟨r0, r1, r2, r3⟩ := (rightD_iff s.2[i]).1 (hr _ (List.getElem_mem hi))
      rw [rd_at' (e := tDot) hi, iadd_nat (by omega)]
      obtain ⟨d, hd⟩ : ∃ d : Dot, d = s.2[i] := ⟨_, rfl⟩
      rw [← hd] at r0 r1 r2 r3 ih hnl ⊢
      have hvv : rd (.int .i64) V (natOf d.1) = vat V d.1 := rfl
      have v0 : 0 ≤ vat V d.1 := hc.vok.lo d.1 r0 r1
      have v1 : vat V d.1 ≤ 1048576 := hc.vok.hi d.1 r0 r1
      have hML : M.length ≤ i := by have : M.length ≤ (s.2.take i).length := hml; rw [List.length_take] at this; omega
      simp only [hi, decide_true, br_true, inB16 r0 r1, hvv, ilt_dec]
      rw [iadd_s (by omega) (by omega) (by omega) (by omega), ieq_dec]
      unfold put1 at ih
      by_cases h1 : d.2 ≤ vat V d.1
      · rw [if_pos h1] at ih
        rw [decide_eq_false (show ¬ d.2 = vat V d.1 + 1 by omega), decide_eq_false (show ¬ vat V d.1 < d.2 by omega)]
        exact ih
      · rw [if_neg h1] at ih
        by_cases h2 : d.2 = vat V d.1 + 1
        · rw [if_pos h2] at ih
          rw [decide_eq_true h2]; exact ih
        · rw [if_neg h2, if_neg hnl] at ih
          rw [decide_eq_false h2, decide_eq_true (show vat V d.1 < d.2 by omega), room1 (by omega)]
          exact ih
    · have : i = s.2.length := by omega
      subst this
      simp only [List.take_length, Nat.lt_irrefl, decide_false, br_false]
theorem filled_is (k : Nat) (s : DSet) (hl : s.2.length < k) (hk : k < 1000000) (hr : ∀ d ∈ s.2, rightD d = true) (hs : s.2.Pairwise (fun a b => dotLt a b = true)) (hv : VOk s.1) : ref06_filled.f k s = some (mk s.1 s.2) := by
  rw [ref06_filled.f_eq]
  exact filled_l k s (by omega) hr hs hv (zarr 16 0) [] k 0 (by omega) (by omega)
theorem rcmp_is (k : Nat) (a b : Dot) : ref04_Compare.f k a b = some (cmpD a b) := by
  rw [ref04_Compare.f_eq, ref04_ints.f_eq, ref04_ints.f_eq, ieq_dec, bnot_dec]
  have hI : ∀ x y : Int, br (ilt x y) (some (-1)) (br (ilt y x) (some 1) (some 0)) = some (cmpI x y) := fun x y => by
    unfold cmpI
    by_cases h1 : x < y
    · simp [ilt, h1, br_true]
    · by_cases h2 : y < x <;> simp [ilt, h1, h2, br_true, br_false]
  have hI' : ∀ x y : Int, bnd (br (ilt x y) (some (-1)) (br (ilt y x) (some 1) (some 0))) (fun r => some r) = some (cmpI x y) := fun x y => by rw [hI]; rfl
  rw [hI', hI']
  unfold cmpD
  by_cases h : a.1 = b.1
  · rw [if_pos ((cmpI_eq _ _).2 h)]; simp [h, br_false]
  · rw [if_neg (fun e => h ((cmpI_eq _ _).1 e))]; simp [h, br_true]
theorem rput_l (k : Nat) (s : DSet) (d : Dot) (hl : s.2.length < 1000000) (za : Vec) (zb : List Dot) : ∀ (n i : Nat) (x : List Dot) (b : Bool), i ≤ s.2.length → s.2.length < n + i → x.length ≤ i + b.toNat →
    ref06_Put.l6 k n x b (i : Int) s d za zb = bnd (ref06_filled.f k (s.1, x ++ if b then s.2.drop i else insR d (s.2.drop i))) fun r => some r
  | 0, i, _, _, h, h', _ => by omega
  | n + 1, i, x, b, h, h', hx => by
    rw [ref06_Put.l6_eq, ilt_nat, inL_nat, natOf_nat]
    by_cases hi : i < s.2.length
    · rw [List.drop_eq_getElem_cons hi, rd_at' (e := tDot) hi, iadd_nat (by omega), rcmp_is]
      have hbn : b.toNat ≤ 1 := by cases b <;> decide
      have hrm : ∀ y : Dot, room x (y :: []) = true := fun y => room1 (by omega)
      have hrm2 : ∀ y z : Dot, room (app x (y :: [])) (z :: []) = true := fun y z => room1 (by simp [app]; omega)
      simp only [hi, decide_true, br_true, bnd_some, cmp_lt0, hrm, hrm2]
      cases b with
      | true =>
        have hb : bnot true = false := rfl
        rw [hb]
        simp only [br_false]
        rw [rput_l k s d hl za zb n (i + 1) _ true (by omega) (by omega) (by simp [app] at hx ⊢; omega)]
        simp [app]
      | false =>
        have hb : bnot false = true := rfl
        rw [hb]
        simp only [br_true, Bool.false_eq_true, if_false]
        unfold insR
        cases hc : dotLt d s.2[i] with
        | true =>
          simp only [br_true, if_true]
          rw [rput_l k s d hl za zb n (i + 1) _ true (by omega) (by omega) (by simp [app] at hx ⊢; omega)]
          simp [app]
        | false =>
          simp only [br_false, Bool.false_eq_true, if_false]
          rw [rput_l k s d hl za zb n (i + 1) _ false (by omega) (by omega) (by simp [app] at hx ⊢; omega)]
          simp [app]
    · rw [List.drop_of_length_le (by omega)]
      simp only [hi, decide_false, br_false]
      cases b with
      | true => have hb : bnot true = false := rfl
                rw [hb]; simp [br_false]
      | false => have hb : bnot false = true := rfl
                 have hx' : x.length ≤ i := hx
                 rw [hb, room1 (by omega)]; simp [br_true, insR, app]
theorem rput_is (k : Nat) (s : DSet) (d : Dot) (hl : s.2.length + 1 < k) (hk : k < 1000000) (hs : Can s) : ref06_Put.f k s d = some (putD s d) := by
  rw [ref06_Put.f_eq, rright_is, rhas_is k s d (by omega) hk hs.rt]
  simp only [bnd_some]
  unfold putD
  cases h : rightD d with
  | false => simp [bnot, br_true]
  | true =>
    cases hm : memB s d with
    | true => simp [bnot, br_true, br_false]
    | false =>
      have hn : d ∉ s.2 := fun hd => by
        have := (memB_iff s d).2 ⟨h, .inr hd⟩
        rw [hm] at this; cases this
      have hb0 : bnot true = false := rfl
      rw [hb0]
      simp only [br_false]
      have := rput_l k s d (by omega) (zarr 16 0) [] k 0 [] false (by omega) (by omega) (by simp)
      rw [show ref06_Put.l6 k k [] false 0 s d (zarr 16 0) [] = _ from this]
      simp only [List.drop_zero, List.nil_append, Bool.false_eq_true, if_false]
      rw [filled_is k (s.1, insR d s.2) (by show (insR d s.2).length < k; rw [(insR_perm d s.2).length_eq]; simpa using hl) hk (fun e he => by
        rcases List.mem_cons.1 ((insR_perm d s.2).mem_iff.1 he) with rfl | he
        · exact h
        · exact hs.rt e he) (insR_srt hs.srt hn) hs.vok]
      simp [bnd]
end Go.Proofs.YthghlnmihipeoaaGreatDoor
end
section
/- The same, and right, among sets of dots. -/
namespace Go.Proofs.YthghlnmihipeoaaGreatDoor
open Pal
theorem reqD_l (k : Nat) (xs ys : List Dot) (hl : xs.length = ys.length) (hb : xs.length < 1000000) : ∀ (n i : Nat), i ≤ xs.length → xs.length < n + i →
    ref04_Same.l4 k n xs ys (i : Int) = some (zall (fun x y => decide (x = y)) (xs.drop i) (ys.drop i))
  | 0, i, h, h' => by omega
  | n + 1, i, h, h' => by
    rw [ref04_Same.l4_eq, ilt_nat, inL_nat, inL_nat, natOf_nat]
    by_cases hi : i < xs.length
    · have hi' : i < ys.length := by omega
      rw [zall_step hi hi', rd_at' (e := tDot) hi, rd_at' (e := tDot) hi', deqD, bnot_dec, iadd_nat (by omega)]
      simp only [hi, hi', decide_true, br_true]
      by_cases he : xs[i] = ys[i]
      · simp only [he, not_true, decide_true, decide_false, br_false, Bool.true_and]
        exact reqD_l k xs ys hl hb n (i + 1) (by omega) (by omega)
      · simp only [he, not_false_eq_true, decide_false, decide_true, br_true, Bool.false_and]
    · rw [zall_end (by omega)]
      simp only [hi, decide_false, br_false]
theorem reqD (k : Nat) (xs ys : List Dot) (hb : xs.length < k) (hk : k < 1000000) : ref04_Same.f k xs ys = some (decide (xs = ys)) := by
  rw [ref04_Same.f_eq, ieq_len, bnot_dec]
  by_cases hl : xs.length = ys.length
  · simp only [hl, not_true, decide_false, br_false]
    have := reqD_l k xs ys hl (by omega) k 0 (by omega) (by omega)
    simp only [List.drop_zero, zall_eq xs ys hl] at this
    exact this
  · have : xs ≠ ys := fun e => hl (by rw [e])
    simp only [hl, this, not_false_eq_true, decide_true, decide_false, br_true]
theorem deqV (a b : Vec) : deq tVec a b = decide (a = b) := by
  have h := deq_iff tVec rfl a b
  by_cases he : a = b
  · rw [decide_eq_true he]; exact h.2 he
  · rw [decide_eq_false he, ← Bool.not_eq_true, h]; exact he
theorem rsame_is (k : Nat) (s t : DSet) (hb : s.2.length < k) (hk : k < 1000000) : ref06_Same.f k s t = some (decide (s = t)) := by
  rw [ref06_Same.f_eq, deqV, reqD k _ _ hb hk]
  obtain ⟨a, b⟩ := s
  obtain ⟨c, d⟩ := t
  by_cases h1 : a = c <;> by_cases h2 : b = d <;> simp [h1, h2, br_true, br_false, bnd]
def vin (v : Vec) (r : Int) : Prop := 0 ≤ vat v r ∧ vat v r ≤ 1048576
theorem rvr_l (k : Nat) (v : Vec) : ∀ (n i : Nat), i ≤ 16 → 16 < n + i → ∃ b, ref05_Right.l2 k n (i : Int) v = some b ∧ (b = true ↔ ∀ r : Nat, i ≤ r → r < 16 → vin v r)
  | 0, i, h, h' => by omega
  | n + 1, i, h, h' => by
    rw [ref05_Right.l2_eq, natOf_nat]
    have e1 : ilt (i : Int) 16 = decide (i < 16) := ilt_nn i 16
    rw [e1, inB_nat]
    by_cases hi : i < 16
    · have hv : rd (.int .i64) v i = vat v (i : Int) := rfl
      rw [hv, iadd_nat (by omega), ilt_dec, ilt_dec]
      simp only [hi, decide_true, br_true]
      by_cases h1 : vat v (i : Int) < 0
      · simp only [h1, decide_true, br_true]
        exact ⟨false, rfl, ⟨fun h => (by cases h), fun h => by have := (h i (Nat.le_refl _) hi).1; omega⟩⟩
      · simp only [h1, decide_false, br_false]
        by_cases h2 : 1048576 < vat v (i : Int)
        · simp only [h2, decide_true, br_true]
          exact ⟨false, rfl, ⟨fun h => (by cases h), fun h => by have := (h i (Nat.le_refl _) hi).2; omega⟩⟩
        · simp only [h2, decide_false, br_false]
          obtain ⟨b, hb, hbi⟩ := rvr_l k v n (i + 1) (by omega) (by omega)
          refine ⟨b, hb, hbi.trans ⟨fun h r hr hr2 => ?_, fun h r hr hr2 => h r (by omega) hr2⟩⟩
          by_cases he : r = i
          · subst he; exact ⟨by omega, by omega⟩
          · exact h r (by omega) hr2
    · simp only [hi, decide_false, br_false]
      exact ⟨true, rfl, ⟨fun _ r hr hr2 => by omega, fun _ => rfl⟩⟩
theorem vok_iff {v : Vec} (hl : v.length = 16) : VOk v ↔ ∀ r : Nat, 0 ≤ r → r < 16 → vin v r := by
  constructor
  · intro h r _ hr; exact ⟨h.lo r (by omega) (by omega), h.hi r (by omega) (by omega)⟩
  · intro h
    refine ⟨hl, fun r h0 h1 => ?_, fun r h0 h1 => ?_⟩
    · obtain ⟨a, rfl⟩ := Int.eq_ofNat_of_zero_le h0; exact (h a (by omega) (by omega)).1
    · obtain ⟨a, rfl⟩ := Int.eq_ofNat_of_zero_le h0; exact (h a (by omega) (by omega)).2
theorem rvr_is (k : Nat) (v : Vec) (hl : v.length = 16) (hk : 17 < k) : ∃ b, ref05_Right.f k v = some b ∧ (b = true ↔ VOk v) := by
  rw [ref05_Right.f_eq, vok_iff hl]
  exact rvr_l k v k 0 (by omega) (by omega)
def okAt (s : DSet) (j : Nat) (h : j < s.2.length) : Prop := rightD s.2[j] = true ∧ vat s.1 s.2[j].1 + 1 < s.2[j].2 ∧ (∀ h0 : 0 < j, dotLt (s.2[j - 1]'(by omega)) s.2[j] = true)
theorem can_iff {s : DSet} (hv : VOk s.1) : Can s ↔ ∀ j (h : j < s.2.length), 0 ≤ j → okAt s j h := by
  constructor
  · intro hs j h _
    exact ⟨hs.rt _ (List.getElem_mem h), hs.gap _ (List.getElem_mem h), fun h0 => srt_get hs.srt (by omega) h (by omega)⟩
  · intro h
    refine ⟨hv, fun d hd => ?_, fun d hd => ?_, ?_⟩
    · obtain ⟨j, hj, rfl⟩ := List.getElem_of_mem hd; exact (h j hj (Nat.zero_le _)).1
    · obtain ⟨j, hj, rfl⟩ := List.getElem_of_mem hd; exact (h j hj (Nat.zero_le _)).2.1
    · have key : ∀ t i (hi : i < s.2.length) (hj : i + 1 + t < s.2.length), dotLt s.2[i] s.2[i + 1 + t] = true := by
        intro t
        induction t with
        | zero => intro i hi hj; exact (h (i + 1) hj (Nat.zero_le _)).2.2 (by omega)
        | succ t ih =>
          intro i hi hj
          have h1 := ih i hi (by omega)
          have h2 := (h (i + 1 + (t + 1)) hj (Nat.zero_le _)).2.2 (by omega)
          exact dotLt_swo.trans _ _ _ h1 h2
      rw [List.pairwise_iff_getElem]
      intro i j hi hj hij
      have := key (j - i - 1) i hi (by omega)
      have e : i + 1 + (j - i - 1) = j := by omega
      simp only [e] at this; exact this
theorem cmp_m1 (a b : Dot) : bnot (ieq (cmpD a b) (-1)) = !dotLt a b := by
  have h1 : ∀ x y : Int, cmpI x y = -1 ∨ cmpI x y = 0 ∨ cmpI x y = 1 := fun x y => by unfold cmpI; split <;> (try split) <;> simp
  have h : cmpD a b = -1 ∨ cmpD a b = 0 ∨ cmpD a b = 1 := by unfold cmpD; split <;> exact h1 _ _
  show bnot (ieq (cmpD a b) (-1)) = !decide (cmpD a b < 0)
  rcases h with h | h | h <;> rw [h] <;> rfl
theorem rr_l (k : Nat) (s : DSet) (hl : s.2.length < 1000000) (hv : VOk s.1) : ∀ (n i : Nat), i ≤ s.2.length → s.2.length < n + i → ∃ b, ref06_Right.l4 k n (i : Int) s = some b ∧ (b = true ↔ ∀ j (h : j < s.2.length), i ≤ j → okAt s j h)
  | 0, i, h, h' => by omega
  | n + 1, i, h, h' => by
    rw [ref06_Right.l4_eq, ilt_nat, inL_nat, natOf_nat]
    by_cases hi : i < s.2.length
    · rw [rd_at' (e := tDot) hi, rright_is, iadd_nat (by omega)]
      simp only [hi, decide_true, br_true, bnd_some]
      cases hr : rightD s.2[i] with
      | false =>
        have e : bnot false = true := rfl
        rw [e]
        exact ⟨false, rfl, ⟨fun h => (by cases h), fun h => by rw [(h i hi (Nat.le_refl _)).1] at hr; cases hr⟩⟩
      | true =>
        have e : bnot true = false := rfl
        obtain ⟨r0, r1, r2, r3⟩ := (rightD_iff s.2[i]).1 hr
        have hvv : rd (.int .i64) s.1 (natOf s.2[i].1) = vat s.1 s.2[i].1 := rfl
        rw [e, inB16 r0 r1, hvv, isub_s (by omega) (by omega) (by omega) (by omega), ile_dec]
        simp only [br_true, br_false]
        by_cases hg : s.2[i].2 - 1 ≤ vat s.1 s.2[i].1
        · simp only [hg, decide_true, br_true]
          exact ⟨false, rfl, ⟨fun h => (by cases h), fun h => by have := (h i hi (Nat.le_refl _)).2.1; omega⟩⟩
        · simp only [hg, decide_false, br_false]
          obtain ⟨b, hb, hbi⟩ := rr_l k s hl hv n (i + 1) (by omega) (by omega)
          have step : (∀ h0 : 0 < i, dotLt (s.2[i - 1]'(by omega)) s.2[i] = true) → (b = true ↔ ∀ j (h : j < s.2.length), i ≤ j → okAt s j h) := fun hlt => hbi.trans ⟨fun h j hj hij => by
            by_cases he : j = i
            · subst he; exact ⟨hr, by omega, hlt⟩
            · exact h j hj (by omega), fun h j hj hij => h j hj (by omega)⟩
          by_cases h0 : 0 < i
          · have e2 : ilt 0 (i : Int) = true := by simp [ilt]; omega
            have e3 : isub .i64 (i : Int) 1 = ((i - 1 : Nat) : Int) := by rw [isub_s (by omega) (by omega) (by omega) (by omega)]; omega
            have hi1 : i - 1 < s.2.length := by omega
            rw [e2, e3, inL_nat, natOf_nat, rd_at' (e := tDot) hi1, rcmp_is]
            simp only [hi1, decide_true, br_true, bnd_some, cmp_m1]
            cases hc : dotLt s.2[i - 1] s.2[i] with
            | true => exact ⟨b, hb, step fun _ => hc⟩
            | false => exact ⟨false, rfl, ⟨fun h => (by cases h), fun h => by have := (h i hi (Nat.le_refl _)).2.2 h0; rw [hc] at this; cases this⟩⟩
          · have e2 : ilt 0 (i : Int) = false := by simp [ilt]; omega
            rw [e2]
            exact ⟨b, hb, step fun h => absurd h h0⟩
    · simp only [hi, decide_false, br_false]
      exact ⟨true, rfl, ⟨fun _ j hj hij => by omega, fun _ => rfl⟩⟩
theorem rr_is (k : Nat) (s : DSet) (hl : s.1.length = 16) (hk : 5000 < k) (hk2 : k < 1000000) : ∃ b, ref06_Right.f k s = some b ∧ (b = true ↔ Can s ∧ s.2.length ≤ 4096) := by
  obtain ⟨b, hb, hbi⟩ := rvr_is k s.1 hl (by omega)
  rw [ref06_Right.f_eq, hb]
  simp only [bnd_some]
  cases b with
  | false => exact ⟨false, rfl, ⟨fun h => (by cases h), fun h => hbi.2 h.1.vok⟩⟩
  | true =>
    have hv := hbi.1 rfl
    have e : bnot true = false := rfl
    have e2 : ilt 4096 (ilen s.2) = decide (4096 < s.2.length) := ilt_nat 4096 s.2
    rw [e, e2]
    simp only [br_false]
    by_cases h : 4096 < s.2.length
    · simp only [h, decide_true, br_true]
      exact ⟨false, rfl, ⟨fun h => (by cases h), fun h => by omega⟩⟩
    · simp only [h, decide_false, br_false]
      obtain ⟨b, hb, hbi⟩ := rr_l k s (by omega) hv k 0 (by omega) (by omega)
      exact ⟨b, hb, hbi.trans ⟨fun h2 => ⟨(can_iff hv).2 h2, by omega⟩, fun h2 => (can_iff hv).1 h2.1⟩⟩
end Go.Proofs.YthghlnmihipeoaaGreatDoor
end
section
/- Whether a set is right, how many dots there are, and the next one's number. -/
namespace Go.Proofs.YthghlnmihipeoaaGreatDoor
open Pal
end Go.Proofs.YthghlnmihipeoaaGreatDoor
end
