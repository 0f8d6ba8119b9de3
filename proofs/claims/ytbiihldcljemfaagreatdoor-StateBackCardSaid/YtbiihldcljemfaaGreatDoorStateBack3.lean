/- The functions that the statement reaches, and what they come to. Part 3. -/
import Derived.Lib.DecodeN
import Derived.Test.YtbiihldcljemfaaGreatDoorFw1
import Derived.Test.YtbiihldcljemfaaGreatDoorFw2
import Derived.Test.YtbiihldcljemfaaGreatDoorFw3
import Derived.Test.YtbiihldcljemfaaGreatDoorStateBack1
import Derived.Test.YtbiihldcljemfaaGreatDoorStateBack2
set_option linter.unusedVariables false
set_option linter.unusedSimpArgs false
set_option linter.unusedSectionVars false
section
/- The program's functions, as plain equations. -/
namespace Go.Proofs.YtbiihldcljemfaaGreatDoor
open Pal
set_option maxRecDepth 100000
noncomputable def vec_Has.body : Go.Code := Tryz.f153.body.getD .skip
noncomputable def vec_Has.rs : List Go.ResultVar := Tryz.f153.results.toList
def vec_Has.regs : List (Nat × RInfo) := [(0, ri [2,3] [2,3]), (1, rq [4] [6] 11)]
noncomputable def vec_Has.cx (k : Nat) : Cx := ⟨tt, pp, [(57, (dot_Right.e k))], vec_Has.regs, k, mm⟩
@[reducible] def vec_Has.sg : Sg := ⟨[.dat tVec, .dat tDot], [], .dat .bool, []⟩
noncomputable def vec_Has.f (k : Nat) (a0 : Ty.D tVec) (a1 : Ty.D tDot) : Option (Sg.Out vec_Has.sg) := Sg.fn vec_Has.sg (vec_Has.cx k) vec_Has.body vec_Has.rs (a0, a1)
noncomputable def vec_Has.e (k : Nat) : Entry := Sg.entry vec_Has.sg fun x => vec_Has.f k x.1 x.2
theorem vec_Has.ok (k : Nat) : CallOK Tryz.prog 153 (vec_Has.e k) := fn_ok (c := vec_Has.cx k) (code := vec_Has.body) (TT.of tt_ok pp_ok mm_ok) (fns_ok ⟨(dot_Right.ok k), trivial⟩) mixed Tryz.func153 (by kernel_rfl) (by kernel_rfl) (by kernel_rfl) (by kernel_rfl) (by kernel_rfl) (by kernel_rfl) (fun x => by kernel_rfl)
noncomputable def slices_BinarySearchFunc_api_Dot_api_Dot_api_Dot_dot_Compare.body : Go.Code := Tryz.f115.body.getD .skip
noncomputable def slices_BinarySearchFunc_api_Dot_api_Dot_api_Dot_dot_Compare.rs : List Go.ResultVar := Tryz.f115.results.toList
def slices_BinarySearchFunc_api_Dot_api_Dot_api_Dot_dot_Compare.regs : List (Nat × RInfo) := [(0, ri [0,2,4] [4]), (1, ri [0,2,4,8] [4]), (2, ri [0,2,4,8,9,10] [4]), (3, ⟨[0, 2, 4, 8, 9, 10, 17], [4], [], [], 0, [0, 2, 4, 8, 9, 10], [4], [], [], []⟩), (4, ri [0,2,4,8,9,10,11] [4]), (5, ⟨[0, 2, 4, 8, 9, 10, 11, 31], [4], [], [], 8, [], [], [], [[], [], [], [], [], [], [4, 5], [6, 4, 5]], []⟩), (6, ri [0,2,4,8,9,10] [4]), (7, ri [0,2,4,8,9,10] [4]), (8, ⟨[6, 7], [], [], [], 15, [], [], [], [[], [], [], [], [], [], [], [], [], [], [], [9, 10], [11, 9, 10], [11, 9, 10], [11, 9, 10], [11, 9, 10]], []⟩)]
noncomputable def slices_BinarySearchFunc_api_Dot_api_Dot_api_Dot_dot_Compare.cx (k : Nat) : Cx := ⟨tt, pp, [(59, (dot_Compare.e k))], slices_BinarySearchFunc_api_Dot_api_Dot_api_Dot_dot_Compare.regs, k, mm⟩
@[reducible] def slices_BinarySearchFunc_api_Dot_api_Dot_api_Dot_dot_Compare.sg : Sg := ⟨[.dat (.slc tDot), .dat tDot, .fn 59 0], [], .t2 (.dat (.int .i64)) (.dat .bool), []⟩
noncomputable def slices_BinarySearchFunc_api_Dot_api_Dot_api_Dot_dot_Compare.f (k : Nat) (a0 : Ty.D (.slc tDot)) (a1 : Ty.D tDot) : Option (Sg.Out slices_BinarySearchFunc_api_Dot_api_Dot_api_Dot_dot_Compare.sg) := Sg.fn slices_BinarySearchFunc_api_Dot_api_Dot_api_Dot_dot_Compare.sg (slices_BinarySearchFunc_api_Dot_api_Dot_api_Dot_dot_Compare.cx k) slices_BinarySearchFunc_api_Dot_api_Dot_api_Dot_dot_Compare.body slices_BinarySearchFunc_api_Dot_api_Dot_api_Dot_dot_Compare.rs (a0, a1)
noncomputable def slices_BinarySearchFunc_api_Dot_api_Dot_api_Dot_dot_Compare.e (k : Nat) : Entry := Sg.entry slices_BinarySearchFunc_api_Dot_api_Dot_api_Dot_dot_Compare.sg fun x => slices_BinarySearchFunc_api_Dot_api_Dot_api_Dot_dot_Compare.f k x.1 x.2
theorem slices_BinarySearchFunc_api_Dot_api_Dot_api_Dot_dot_Compare.ok (k : Nat) : CallOK Tryz.prog 115 (slices_BinarySearchFunc_api_Dot_api_Dot_api_Dot_dot_Compare.e k) := fn_ok (c := slices_BinarySearchFunc_api_Dot_api_Dot_api_Dot_dot_Compare.cx k) (code := slices_BinarySearchFunc_api_Dot_api_Dot_api_Dot_dot_Compare.body) (TT.of tt_ok pp_ok mm_ok) (fns_ok ⟨(dot_Compare.ok k), trivial⟩) mixed Tryz.func115 (by kernel_rfl) (by kernel_rfl) (by kernel_rfl) (by kernel_rfl) (by kernel_rfl) (by kernel_rfl) (fun x => by kernel_rfl)
noncomputable def dots_Has.body : Go.Code := Tryz.f114.body.getD .skip
noncomputable def dots_Has.rs : List Go.ResultVar := Tryz.f114.results.toList
def dots_Has.regs : List (Nat × RInfo) := [(0, ⟨[2, 3], [2, 3], [0], [], 0, [], [], [], [], []⟩), (1, ri [2,3,10] [2,3,10]), (2, ri [4] [15]), (3, ri [6] [15]), (4, ri [4] [15])]
noncomputable def dots_Has.cx (k : Nat) : Cx := ⟨tt, pp, [(153, (vec_Has.e k)), (115, (slices_BinarySearchFunc_api_Dot_api_Dot_api_Dot_dot_Compare.e k)), (59, (dot_Compare.e k))], dots_Has.regs, k, mm⟩
@[reducible] def dots_Has.sg : Sg := ⟨[.dat tDots, .dat tDot], [], .dat .bool, []⟩
noncomputable def dots_Has.f (k : Nat) (a0 : Ty.D tDots) (a1 : Ty.D tDot) : Option (Sg.Out dots_Has.sg) := Sg.fn dots_Has.sg (dots_Has.cx k) dots_Has.body dots_Has.rs (a0, a1)
noncomputable def dots_Has.e (k : Nat) : Entry := Sg.entry dots_Has.sg fun x => dots_Has.f k x.1 x.2
theorem dots_Has.ok (k : Nat) : CallOK Tryz.prog 114 (dots_Has.e k) := fn_ok (c := dots_Has.cx k) (code := dots_Has.body) (TT.of tt_ok pp_ok mm_ok) (fns_ok ⟨(vec_Has.ok k), (slices_BinarySearchFunc_api_Dot_api_Dot_api_Dot_dot_Compare.ok k), (dot_Compare.ok k), trivial⟩) mixed Tryz.func114 (by kernel_rfl) (by kernel_rfl) (by kernel_rfl) (by kernel_rfl) (by kernel_rfl) (by kernel_rfl) (fun x => by kernel_rfl)
noncomputable def dots_Put.body : Go.Code := Tryz.f80.body.getD .skip
noncomputable def dots_Put.rs : List Go.ResultVar := Tryz.f80.results.toList
def dots_Put.regs : List (Nat × RInfo) := [(0, ⟨[2, 3, 4], [2, 3, 4], [0], [], 0, [], [], [0, 1], [], []⟩), (1, ⟨[2, 3, 4, 14], [2, 3, 4, 13], [], [], 0, [], [], [3, 2], [], []⟩), (2, ⟨[4], [4], [1], [], 0, [], [], [2, 4], [], []⟩), (3, ⟨[2, 3, 4, 5], [2, 3, 4, 20], [], [], 0, [], [], [2, 3], [], []⟩), (4, ⟨[4], [4], [8, 10], [], 10, [], [], [2, 5, 3, 4], [[], [], [], [], [3], [], [], [6], [3, 6], [1, 3, 6], [1, 3, 6]], []⟩)]
noncomputable def dots_Put.cx (k : Nat) : Cx := ⟨tt, pp, [(57, (dot_Right.e k)), (114, (dots_Has.e k)), (115, (slices_BinarySearchFunc_api_Dot_api_Dot_api_Dot_dot_Compare.e k)), (59, (dot_Compare.e k)), (55, (cloneE tDot)), (116, (insE tDot)), (60, (dots_made.e k))], dots_Put.regs, k, mm⟩
@[reducible] def dots_Put.sg : Sg := ⟨[.dat tDots, .dat tDot], [], .dat tDots, []⟩
noncomputable def dots_Put.f (k : Nat) (a0 : Ty.D tDots) (a1 : Ty.D tDot) : Option (Sg.Out dots_Put.sg) := Sg.fn dots_Put.sg (dots_Put.cx k) dots_Put.body dots_Put.rs (a0, a1)
noncomputable def dots_Put.e (k : Nat) : Entry := Sg.entry dots_Put.sg fun x => dots_Put.f k x.1 x.2
theorem dots_Put.ok (k : Nat) : CallOK Tryz.prog 80 (dots_Put.e k) := fn_ok (c := dots_Put.cx k) (code := dots_Put.body) (TT.of tt_ok pp_ok mm_ok) (fns_ok ⟨(dot_Right.ok k), (dots_Has.ok k), (slices_BinarySearchFunc_api_Dot_api_Dot_api_Dot_dot_Compare.ok k), (dot_Compare.ok k), cloneDot_ok, insDot_ok, (dots_made.ok k), trivial⟩) mixed Tryz.func80 (by kernel_rfl) (by kernel_rfl) (by kernel_rfl) (by kernel_rfl) (by kernel_rfl) (by kernel_rfl) (fun x => by kernel_rfl)
noncomputable def state_Put.body : Go.Code := Tryz.f35.body.getD .skip
noncomputable def state_Put.rs : List Go.ResultVar := Tryz.f35.results.toList
def state_Put.regs : List (Nat × RInfo) := [(0, ⟨[2, 3, 4], [2, 3, 4], [0, 1], [], 0, [], [], [], [], []⟩), (1, ri [2,3,4,10] [2,3,4]), (2, ⟨[4], [4], [1], [], 0, [], [], [], [], []⟩), (3, ⟨[2, 3, 4], [2, 3, 4], [5], [], 0, [], [], [], [], []⟩), (4, ⟨[2, 4], [2, 4], [6], [], 0, [], [], [], [], []⟩), (5, ⟨[4], [4], [1], [], 0, [], [], [], [], []⟩)]
noncomputable def state_Put.cx (k : Nat) : Cx := ⟨tt, pp, [(78, (txn_Find.e k)), (79, (txn_Put.e k)), (80, (dots_Put.e k))], state_Put.regs, k, mm⟩
@[reducible] def state_Put.sg : Sg := ⟨[.dat tState, .dat tTxn], [], .dat tState, []⟩
noncomputable def state_Put.f (k : Nat) (a0 : Ty.D tState) (a1 : Ty.D tTxn) : Option (Sg.Out state_Put.sg) := Sg.fn state_Put.sg (state_Put.cx k) state_Put.body state_Put.rs (a0, a1)
noncomputable def state_Put.e (k : Nat) : Entry := Sg.entry state_Put.sg fun x => state_Put.f k x.1 x.2
theorem state_Put.ok (k : Nat) : CallOK Tryz.prog 35 (state_Put.e k) := fn_ok (c := state_Put.cx k) (code := state_Put.body) (TT.of tt_ok pp_ok mm_ok) (fns_ok ⟨(txn_Find.ok k), (txn_Put.ok k), (dots_Put.ok k), trivial⟩) mixed Tryz.func35 (by kernel_rfl) (by kernel_rfl) (by kernel_rfl) (by kernel_rfl) (by kernel_rfl) (by kernel_rfl) (fun x => by kernel_rfl)
noncomputable def state_Time.body : Go.Code := Tryz.f37.body.getD .skip
noncomputable def state_Time.rs : List Go.ResultVar := Tryz.f37.results.toList
def state_Time.regs : List (Nat × RInfo) := [(0, ⟨[1], [1], [0], [], 0, [], [], [], [], []⟩), (1, ri [1,3] [1]), (2, ri [3,7,8,9] []), (3, ⟨[3, 7, 8, 9, 10], [], [], [], 0, [3, 7, 8, 9], [], [], [], []⟩), (4, ⟨[3, 5, 7, 8, 9], [5], [3], [], 0, [], [], [], [], []⟩), (5, ri [3,7,8,9] []), (6, ri [3,7,8,9] []), (7, ri [2] [])]
noncomputable def state_Time.cx (k : Nat) : Cx := ⟨tt, pp, [], state_Time.regs, k, mm⟩
@[reducible] def state_Time.sg : Sg := ⟨[.dat tState], [], .dat (.int .i64), []⟩
noncomputable def state_Time.f (k : Nat) (a0 : Ty.D tState) : Option (Sg.Out state_Time.sg) := Sg.fn state_Time.sg (state_Time.cx k) state_Time.body state_Time.rs a0
noncomputable def state_Time.e (k : Nat) : Entry := Sg.entry state_Time.sg fun x => state_Time.f k x
theorem state_Time.ok (k : Nat) : CallOK Tryz.prog 37 (state_Time.e k) := fn_ok (c := state_Time.cx k) (code := state_Time.body) (TT.of tt_ok pp_ok mm_ok) (fns_ok trivial) mixed Tryz.func37 (by kernel_rfl) (by kernel_rfl) (by kernel_rfl) (by kernel_rfl) (by kernel_rfl) (by kernel_rfl) (fun x => by kernel_rfl)
noncomputable def state_Cells.body : Go.Code := Tryz.f38.body.getD .skip
noncomputable def state_Cells.rs : List Go.ResultVar := Tryz.f38.results.toList
def state_Cells.regs : List (Nat × RInfo) := [(0, ⟨[1], [1], [0], [], 0, [], [], [], [], []⟩), (1, ri [1,3] [1]), (2, ri [3,9,10,11] []), (3, ⟨[3, 9, 10, 11, 12], [], [], [], 0, [3, 9, 10, 11], [], [], [], []⟩), (4, ⟨[3, 5, 9, 10, 11], [5], [3], [], 0, [], [], [], [], []⟩), (5, ri [3,9,10,11,16,17,18] []), (6, ⟨[3, 9, 10, 11, 16, 17, 18, 19], [], [], [], 0, [3, 9, 10, 11, 16, 17, 18], [], [], [], []⟩), (7, ⟨[3, 7, 9, 10, 11, 16, 17, 18], [7], [3], [], 0, [], [], [], [], []⟩), (8, ri [3,9,10,11,16,17,18,24] []), (9, ri [3,9,10,11,16,17,18] []), (10, ri [3,9,10,11,16,17,18] []), (11, ri [3,9,10,11] []), (12, ri [2] [])]
noncomputable def state_Cells.cx (k : Nat) : Cx := ⟨tt, pp, [(81, (op_Gone.e k))], state_Cells.regs, k, mm⟩
@[reducible] def state_Cells.sg : Sg := ⟨[.dat tState], [], .dat (.int .i64), []⟩
noncomputable def state_Cells.f (k : Nat) (a0 : Ty.D tState) : Option (Sg.Out state_Cells.sg) := Sg.fn state_Cells.sg (state_Cells.cx k) state_Cells.body state_Cells.rs a0
noncomputable def state_Cells.e (k : Nat) : Entry := Sg.entry state_Cells.sg fun x => state_Cells.f k x
theorem state_Cells.ok (k : Nat) : CallOK Tryz.prog 38 (state_Cells.e k) := fn_ok (c := state_Cells.cx k) (code := state_Cells.body) (TT.of tt_ok pp_ok mm_ok) (fns_ok ⟨(op_Gone.ok k), trivial⟩) mixed Tryz.func38 (by kernel_rfl) (by kernel_rfl) (by kernel_rfl) (by kernel_rfl) (by kernel_rfl) (by kernel_rfl) (fun x => by kernel_rfl)
noncomputable def slices_BinarySearchFunc_api_Undo_api_Undo_api_Undo_tally_compare.body : Go.Code := Tryz.f190.body.getD .skip
noncomputable def slices_BinarySearchFunc_api_Undo_api_Undo_api_Undo_tally_compare.rs : List Go.ResultVar := Tryz.f190.results.toList
def slices_BinarySearchFunc_api_Undo_api_Undo_api_Undo_tally_compare.regs : List (Nat × RInfo) := [(0, ri [0,2,4] [4]), (1, ri [0,2,4,8] [4]), (2, ri [0,2,4,8,9,10] [4]), (3, ⟨[0, 2, 4, 8, 9, 10, 17], [4], [], [], 0, [0, 2, 4, 8, 9, 10], [4], [], [], []⟩), (4, ri [0,2,4,8,9,10,11] [4]), (5, ⟨[0, 2, 4, 8, 9, 10, 11, 31], [4], [], [], 8, [], [], [], [[], [], [], [], [], [], [4, 5], [6, 4, 5]], []⟩), (6, ri [0,2,4,8,9,10] [4]), (7, ri [0,2,4,8,9,10] [4]), (8, ⟨[6, 7], [], [], [], 15, [], [], [], [[], [], [], [], [], [], [], [], [], [], [], [9, 10], [11, 9, 10], [11, 9, 10], [11, 9, 10], [11, 9, 10]], []⟩)]
noncomputable def slices_BinarySearchFunc_api_Undo_api_Undo_api_Undo_tally_compare.cx (k : Nat) : Cx := ⟨tt, pp, [(90, (tally_compare.e k))], slices_BinarySearchFunc_api_Undo_api_Undo_api_Undo_tally_compare.regs, k, mm⟩
@[reducible] def slices_BinarySearchFunc_api_Undo_api_Undo_api_Undo_tally_compare.sg : Sg := ⟨[.dat (.slc tUndo), .dat tUndo, .fn 90 0], [], .t2 (.dat (.int .i64)) (.dat .bool), []⟩
noncomputable def slices_BinarySearchFunc_api_Undo_api_Undo_api_Undo_tally_compare.f (k : Nat) (a0 : Ty.D (.slc tUndo)) (a1 : Ty.D tUndo) : Option (Sg.Out slices_BinarySearchFunc_api_Undo_api_Undo_api_Undo_tally_compare.sg) := Sg.fn slices_BinarySearchFunc_api_Undo_api_Undo_api_Undo_tally_compare.sg (slices_BinarySearchFunc_api_Undo_api_Undo_api_Undo_tally_compare.cx k) slices_BinarySearchFunc_api_Undo_api_Undo_api_Undo_tally_compare.body slices_BinarySearchFunc_api_Undo_api_Undo_api_Undo_tally_compare.rs (a0, a1)
noncomputable def slices_BinarySearchFunc_api_Undo_api_Undo_api_Undo_tally_compare.e (k : Nat) : Entry := Sg.entry slices_BinarySearchFunc_api_Undo_api_Undo_api_Undo_tally_compare.sg fun x => slices_BinarySearchFunc_api_Undo_api_Undo_api_Undo_tally_compare.f k x.1 x.2
theorem slices_BinarySearchFunc_api_Undo_api_Undo_api_Undo_tally_compare.ok (k : Nat) : CallOK Tryz.prog 190 (slices_BinarySearchFunc_api_Undo_api_Undo_api_Undo_tally_compare.e k) := fn_ok (c := slices_BinarySearchFunc_api_Undo_api_Undo_api_Undo_tally_compare.cx k) (code := slices_BinarySearchFunc_api_Undo_api_Undo_api_Undo_tally_compare.body) (TT.of tt_ok pp_ok mm_ok) (fns_ok ⟨(tally_compare.ok k), trivial⟩) mixed Tryz.func190 (by kernel_rfl) (by kernel_rfl) (by kernel_rfl) (by kernel_rfl) (by kernel_rfl) (by kernel_rfl) (fun x => by kernel_rfl)
noncomputable def tally_at.body : Go.Code := Tryz.f179.body.getD .skip
noncomputable def tally_at.rs : List Go.ResultVar := Tryz.f179.results.toList
def tally_at.regs : List (Nat × RInfo) := [(0, ri [0,3] [3]), (1, ri [4,5] [9])]
noncomputable def tally_at.cx (k : Nat) : Cx := ⟨tt, pp, [(190, (slices_BinarySearchFunc_api_Undo_api_Undo_api_Undo_tally_compare.e k)), (90, (tally_compare.e k))], tally_at.regs, k, mm⟩
@[reducible] def tally_at.sg : Sg := ⟨[.dat (.slc tUndo), .dat tDot], [], .t2 (.dat (.int .i64)) (.dat .bool), []⟩
noncomputable def tally_at.f (k : Nat) (a0 : Ty.D (.slc tUndo)) (a1 : Ty.D tDot) : Option (Sg.Out tally_at.sg) := Sg.fn tally_at.sg (tally_at.cx k) tally_at.body tally_at.rs (a0, a1)
noncomputable def tally_at.e (k : Nat) : Entry := Sg.entry tally_at.sg fun x => tally_at.f k x.1 x.2
theorem tally_at.ok (k : Nat) : CallOK Tryz.prog 179 (tally_at.e k) := fn_ok (c := tally_at.cx k) (code := tally_at.body) (TT.of tt_ok pp_ok mm_ok) (fns_ok ⟨(slices_BinarySearchFunc_api_Undo_api_Undo_api_Undo_tally_compare.ok k), (tally_compare.ok k), trivial⟩) mixed Tryz.func179 (by kernel_rfl) (by kernel_rfl) (by kernel_rfl) (by kernel_rfl) (by kernel_rfl) (by kernel_rfl) (fun x => by kernel_rfl)
noncomputable def tally_Get.body : Go.Code := Tryz.f156.body.getD .skip
noncomputable def tally_Get.rs : List Go.ResultVar := Tryz.f156.results.toList
def tally_Get.regs : List (Nat × RInfo) := [(0, ri [0,3] [3]), (1, ri [0,5,6] [10]), (2, ri [0,5,13] [10]), (3, ri [4] []), (4, ri [4] [])]
noncomputable def tally_Get.cx (k : Nat) : Cx := ⟨tt, pp, [(179, (tally_at.e k))], tally_Get.regs, k, mm⟩
@[reducible] def tally_Get.sg : Sg := ⟨[.dat (.slc tUndo), .dat tDot], [], .dat (.int .i64), []⟩
noncomputable def tally_Get.f (k : Nat) (a0 : Ty.D (.slc tUndo)) (a1 : Ty.D tDot) : Option (Sg.Out tally_Get.sg) := Sg.fn tally_Get.sg (tally_Get.cx k) tally_Get.body tally_Get.rs (a0, a1)
noncomputable def tally_Get.e (k : Nat) : Entry := Sg.entry tally_Get.sg fun x => tally_Get.f k x.1 x.2
theorem tally_Get.ok (k : Nat) : CallOK Tryz.prog 156 (tally_Get.e k) := fn_ok (c := tally_Get.cx k) (code := tally_Get.body) (TT.of tt_ok pp_ok mm_ok) (fns_ok ⟨(tally_at.ok k), trivial⟩) mixed Tryz.func156 (by kernel_rfl) (by kernel_rfl) (by kernel_rfl) (by kernel_rfl) (by kernel_rfl) (by kernel_rfl) (fun x => by kernel_rfl)
noncomputable def tally_Seen.body : Go.Code := Tryz.f118.body.getD .skip
noncomputable def tally_Seen.rs : List Go.ResultVar := Tryz.f118.results.toList
def tally_Seen.regs : List (Nat × RInfo) := [(0, ri [0,3] [3]), (1, ri [4] [])]
noncomputable def tally_Seen.cx (k : Nat) : Cx := ⟨tt, pp, [(156, (tally_Get.e k))], tally_Seen.regs, k, mm⟩
@[reducible] def tally_Seen.sg : Sg := ⟨[.dat (.slc tUndo), .dat tDot], [], .dat .bool, []⟩
noncomputable def tally_Seen.f (k : Nat) (a0 : Ty.D (.slc tUndo)) (a1 : Ty.D tDot) : Option (Sg.Out tally_Seen.sg) := Sg.fn tally_Seen.sg (tally_Seen.cx k) tally_Seen.body tally_Seen.rs (a0, a1)
noncomputable def tally_Seen.e (k : Nat) : Entry := Sg.entry tally_Seen.sg fun x => tally_Seen.f k x.1 x.2
theorem tally_Seen.ok (k : Nat) : CallOK Tryz.prog 118 (tally_Seen.e k) := fn_ok (c := tally_Seen.cx k) (code := tally_Seen.body) (TT.of tt_ok pp_ok mm_ok) (fns_ok ⟨(tally_Get.ok k), trivial⟩) mixed Tryz.func118 (by kernel_rfl) (by kernel_rfl) (by kernel_rfl) (by kernel_rfl) (by kernel_rfl) (by kernel_rfl) (fun x => by kernel_rfl)
noncomputable def live_covered.body : Go.Code := Tryz.f117.body.getD .skip
noncomputable def live_covered.rs : List Go.ResultVar := Tryz.f117.results.toList
def live_covered.regs : List (Nat × RInfo) := [(0, ri [0,1] []), (1, ri [0,1,5] [12]), (2, ri [1,5,13,14,15] [12]), (3, ⟨[1, 5, 13, 14, 15, 16], [12], [], [], 0, [1, 5, 13, 14, 15], [12], [], [], []⟩), (4, ⟨[1, 5, 7, 13, 14, 15], [7, 12], [3], [], 0, [], [], [], [], []⟩), (5, ri [1,5,7,13,14,15,23] [7,12]), (6, ri [1,5,13,14,15,25,26,27] [12]), (7, ⟨[1, 5, 13, 14, 15, 25, 26, 27, 28], [12], [], [], 0, [1, 5, 13, 14, 15, 25, 26, 27], [12], [], [], []⟩), (8, ⟨[1, 5, 9, 13, 14, 15, 25, 26, 27], [9, 12], [3], [], 0, [], [], [], [], []⟩), (9, ri [1,5,13,14,15,25,26,27,32,33,34] [12]), (10, ⟨[1, 5, 13, 14, 15, 25, 26, 27, 32, 33, 34, 35], [12], [], [], 0, [1, 5, 13, 14, 15, 25, 26, 27, 32, 33, 34], [12], [], [], []⟩), (11, ri [1,5,11,13,14,15,25,26,27,32,33,34] [11,12]), (12, ri [1,5,13,14,15,25,26,27,32,33,34] [12]), (13, ri [1,5,13,14,15,25,26,27,32,33,34] [12]), (14, ri [1,5,13,14,15,25,26,27] [12]), (15, ri [1,5,13,14,15] [12]), (16, ri [4] [12])]
noncomputable def live_covered.cx (k : Nat) : Cx := ⟨tt, pp, [(118, (tally_Seen.e k))], live_covered.regs, k, mm⟩
@[reducible] def live_covered.sg : Sg := ⟨[.dat (.slc tTxn), .dat (.slc tUndo)], [], .newm, [(.map tUndo .bool)]⟩
noncomputable def live_covered.f (k : Nat) (a0 : Ty.D (.slc tTxn)) (a1 : Ty.D (.slc tUndo)) : Option (Sg.Out live_covered.sg) := Sg.fn live_covered.sg (live_covered.cx k) live_covered.body live_covered.rs (a0, a1)
noncomputable def live_covered.e (k : Nat) : Entry := Sg.entry live_covered.sg fun x => live_covered.f k x.1 x.2
theorem live_covered.ok (k : Nat) : CallOK Tryz.prog 117 (live_covered.e k) := fn_ok (c := live_covered.cx k) (code := live_covered.body) (TT.of tt_ok pp_ok mm_ok) (fns_ok ⟨(tally_Seen.ok k), trivial⟩) mixed Tryz.func117 (by kernel_rfl) (by kernel_rfl) (by kernel_rfl) (by kernel_rfl) (by kernel_rfl) (by kernel_rfl) (fun x => by kernel_rfl)
noncomputable def live_All.body : Go.Code := Tryz.f82.body.getD .skip
noncomputable def live_All.rs : List Go.ResultVar := Tryz.f82.results.toList
def live_All.regs : List (Nat × RInfo) := [(0, ri [0,1] []), (1, ri [0,1,5] [14]), (2, ri [0,1,5,6] [14]), (3, ri [1,5,6,15,16,17] [14]), (4, ⟨[1, 5, 6, 15, 16, 17, 18], [14], [], [], 0, [1, 5, 6, 15, 16, 17], [14], [], [], []⟩), (5, ⟨[1, 5, 6, 8, 15, 16, 17], [8, 14], [3], [], 0, [], [], [], [], []⟩), (6, ri [1,5,6,8,15,16,17,25] [8,14]), (7, ri [1,5,6,8,15,16,17,27,28,29] [8,14]), (8, ⟨[1, 5, 6, 8, 15, 16, 17, 27, 28, 29, 30], [8, 14], [], [], 0, [1, 5, 6, 8, 15, 16, 17, 27, 28, 29], [8, 14], [], [], []⟩), (9, ⟨[1, 5, 6, 8, 9, 10, 15, 16, 17, 27, 28, 29], [8, 10, 14], [5], [], 0, [], [], [], [], []⟩), (10, ri [1,5,6,8,10,11,15,16,17,27,28,29] [8,10,11,14]), (11, ri [1,5,6,8,10,11,15,16,17,27,28,29,56] [8,10,11,14]), (12, ⟨[1, 5, 6, 8, 15, 16, 17, 27, 28, 29], [8, 14], [0, 7, 8], [], 0, [], [], [], [], []⟩), (13, ri [1,5,6,8,15,16,17,27,28,29] [8,14]), (14, ri [1,5,6,15,16,17] [14]), (15, ⟨[4], [], [0, 1], [], 0, [], [], [], [], []⟩)]
noncomputable def live_All.cx (k : Nat) : Cx := ⟨tt, pp, [(117, (live_covered.e k)), (118, (tally_Seen.e k))], live_All.regs, k, mm⟩
@[reducible] def live_All.sg : Sg := ⟨[.dat (.slc tTxn), .dat (.slc tUndo)], [], .own tItem, []⟩
noncomputable def live_All.f (k : Nat) (a0 : Ty.D (.slc tTxn)) (a1 : Ty.D (.slc tUndo)) : Option (Sg.Out live_All.sg) := Sg.fn live_All.sg (live_All.cx k) live_All.body live_All.rs (a0, a1)
noncomputable def live_All.e (k : Nat) : Entry := Sg.entry live_All.sg fun x => live_All.f k x.1 x.2
theorem live_All.ok (k : Nat) : CallOK Tryz.prog 82 (live_All.e k) := fn_ok (c := live_All.cx k) (code := live_All.body) (TT.of tt_ok pp_ok mm_ok) (fns_ok ⟨(live_covered.ok k), (tally_Seen.ok k), trivial⟩) mixed Tryz.func82 (by kernel_rfl) (by kernel_rfl) (by kernel_rfl) (by kernel_rfl) (by kernel_rfl) (by kernel_rfl) (fun x => by kernel_rfl)
noncomputable def state_Items.body : Go.Code := Tryz.f39.body.getD .skip
noncomputable def state_Items.rs : List Go.ResultVar := Tryz.f39.results.toList
def state_Items.regs : List (Nat × RInfo) := [(0, ⟨[1], [1], [0], [], 0, [], [], [], [], []⟩), (1, ⟨[2], [7], [5], [], 0, [], [], [], [], []⟩)]
noncomputable def state_Items.cx (k : Nat) : Cx := ⟨tt, pp, [(82, (live_All.e k))], state_Items.regs, k, mm⟩
@[reducible] def state_Items.sg : Sg := ⟨[.dat tState], [], .own tItem, []⟩
noncomputable def state_Items.f (k : Nat) (a0 : Ty.D tState) : Option (Sg.Out state_Items.sg) := Sg.fn state_Items.sg (state_Items.cx k) state_Items.body state_Items.rs a0
noncomputable def state_Items.e (k : Nat) : Entry := Sg.entry state_Items.sg fun x => state_Items.f k x
theorem state_Items.ok (k : Nat) : CallOK Tryz.prog 39 (state_Items.e k) := fn_ok (c := state_Items.cx k) (code := state_Items.body) (TT.of tt_ok pp_ok mm_ok) (fns_ok ⟨(live_All.ok k), trivial⟩) mixed Tryz.func39 (by kernel_rfl) (by kernel_rfl) (by kernel_rfl) (by kernel_rfl) (by kernel_rfl) (by kernel_rfl) (fun x => by kernel_rfl)
noncomputable def law22_awake.body : Go.Code := Tryz.f12.body.getD .skip
noncomputable def law22_awake.rs : List Go.ResultVar := Tryz.f12.results.toList
def law22_awake.regs : List (Nat × RInfo) := [(0, ri [] []), (1, ⟨[1], [1], [4], [], 0, [], [], [], [], []⟩), (2, ri [0] [6,14])]
noncomputable def law22_awake.cx (k : Nat) : Cx := ⟨tt, pp, [(36, (law22_one.e k)), (35, (state_Put.e k)), (26, (state_Right.e k)), (37, (state_Time.e k)), (38, (state_Cells.e k)), (39, (state_Items.e k))], law22_awake.regs, k, mm⟩
@[reducible] def law22_awake.sg : Sg := ⟨[], [], .dat .bool, []⟩
noncomputable def law22_awake.f (k : Nat) : Option (Sg.Out law22_awake.sg) := Sg.fn law22_awake.sg (law22_awake.cx k) law22_awake.body law22_awake.rs ()
noncomputable def law22_awake.e (k : Nat) : Entry := Sg.entry law22_awake.sg fun x => law22_awake.f k
theorem law22_awake.ok (k : Nat) : CallOK Tryz.prog 12 (law22_awake.e k) := fn_ok (c := law22_awake.cx k) (code := law22_awake.body) (TT.of tt_ok pp_ok mm_ok) (fns_ok ⟨(law22_one.ok k), (state_Put.ok k), (state_Right.ok k), (state_Time.ok k), (state_Cells.ok k), (state_Items.ok k), trivial⟩) mixed Tryz.func12 (by kernel_rfl) (by kernel_rfl) (by kernel_rfl) (by kernel_rfl) (by kernel_rfl) (by kernel_rfl) (fun x => by kernel_rfl)
@[reducible] def law22_StateReads.sg : Sg := ⟨[.dat .str], [], .dat .bool, []⟩
noncomputable def ref10_Short.body : Go.Code := Tryz.f157.body.getD .skip
noncomputable def ref10_Short.rs : List Go.ResultVar := Tryz.f157.results.toList
def ref10_Short.regs : List (Nat × RInfo) := [(0, ri [0] []), (1, ri [0,6] []), (2, ri [2] []), (3, ri [0,3] []), (4, ⟨[0, 3, 10], [], [], [], 0, [0, 3], [], [], [], []⟩), (6, ri [0,3,18] []), (7, ri [2] []), (5, ri [0,3] []), (8, ri [2] [])]
noncomputable def ref10_Short.cx (k : Nat) : Cx := ⟨tt, pp, [], ref10_Short.regs, k, mm⟩
@[reducible] def ref10_Short.sg : Sg := ⟨[.dat (.slc .str)], [], .dat .bool, []⟩
noncomputable def ref10_Short.f (k : Nat) (a0 : Ty.D (.slc .str)) : Option (Sg.Out ref10_Short.sg) := Sg.fn ref10_Short.sg (ref10_Short.cx k) ref10_Short.body ref10_Short.rs a0
noncomputable def ref10_Short.l4 (k : Nat) (n : Nat) (x0 : Ty.D (.slc .str)) (x3 : Ty.D (.int .i64)) : Option (Sg.Out ref10_Short.sg) := loopAt (ref10_Short.cx k) ref10_Short.body [1, 1, 0, 1, 0] 4 [0, 3] [] [] (Sg.K ref10_Short.sg (ref10_Short.cx k) ref10_Short.rs) n ⟨[(0, .dat (.slc .str) x0), (3, .dat (.int .i64) x3)], []⟩
theorem ref10_Short.f_eq (k : Nat) (a0 : Ty.D (.slc .str)) : ref10_Short.f k a0 = br (ilt 12 (ilen a0)) (some false) (ref10_Short.l4 k k a0 0) := by kernel_rfl
theorem ref10_Short.l4_eq (k : Nat) (n4 : Nat) (x0 : Ty.D (.slc .str)) (x3 : Ty.D (.int .i64)) : ref10_Short.l4 k (n4 + 1) x0 x3 = br (ilt x3 (ilen x0)) (br (inL x3 x0) (br (ilt 120 (ilen (rd .str x0 (natOf x3)))) (some false) (ref10_Short.l4 k n4 x0 (iadd .i64 x3 1))) none) (some true) := by kernel_rfl
noncomputable def ref10_Short.e (k : Nat) : Entry := Sg.entry ref10_Short.sg fun x => ref10_Short.f k x
theorem ref10_Short.ok (k : Nat) : CallOK Tryz.prog 157 (ref10_Short.e k) := fn_ok (c := ref10_Short.cx k) (code := ref10_Short.body) (TT.of tt_ok pp_ok mm_ok) (fns_ok trivial) mixed Tryz.func157 (by kernel_rfl) (by kernel_rfl) (by kernel_rfl) (by kernel_rfl) (by kernel_rfl) (by kernel_rfl) (fun x => by kernel_rfl)
noncomputable def ref11_Short.body : Go.Code := Tryz.f119.body.getD .skip
noncomputable def ref11_Short.rs : List Go.ResultVar := Tryz.f119.results.toList
def ref11_Short.regs : List (Nat × RInfo) := [(0, ⟨[1], [1], [0], [], 0, [], [], [], [], []⟩), (1, ri [2] [5])]
noncomputable def ref11_Short.cx (k : Nat) : Cx := ⟨tt, pp, [(157, (ref10_Short.e k))], ref11_Short.regs, k, mm⟩
@[reducible] def ref11_Short.sg : Sg := ⟨[.dat tOp], [], .dat .bool, []⟩
noncomputable def ref11_Short.f (k : Nat) (a0 : Ty.D tOp) : Option (Sg.Out ref11_Short.sg) := Sg.fn ref11_Short.sg (ref11_Short.cx k) ref11_Short.body ref11_Short.rs a0
theorem ref11_Short.f_eq (k : Nat) (a0 : Ty.D tOp) : ref11_Short.f k a0 = bnd (ref10_Short.f k a0.2.1) fun r0 => br r0 (br (ile (ilen a0.2.2.1.2.2) 200) (some (ile (ilen a0.2.2.2.2) 300)) (some false)) (some false) := by kernel_rfl
noncomputable def ref11_Short.e (k : Nat) : Entry := Sg.entry ref11_Short.sg fun x => ref11_Short.f k x
theorem ref11_Short.ok (k : Nat) : CallOK Tryz.prog 119 (ref11_Short.e k) := fn_ok (c := ref11_Short.cx k) (code := ref11_Short.body) (TT.of tt_ok pp_ok mm_ok) (fns_ok ⟨(ref10_Short.ok k), trivial⟩) mixed Tryz.func119 (by kernel_rfl) (by kernel_rfl) (by kernel_rfl) (by kernel_rfl) (by kernel_rfl) (by kernel_rfl) (fun x => by kernel_rfl)
noncomputable def ref12_Short.body : Go.Code := Tryz.f83.body.getD .skip
noncomputable def ref12_Short.rs : List Go.ResultVar := Tryz.f83.results.toList
def ref12_Short.regs : List (Nat × RInfo) := [(0, ⟨[1], [1], [0], [], 0, [], [], [], [], []⟩), (1, ri [1,7] [1]), (2, ri [2] []), (3, ri [1,3] [1]), (4, ⟨[1, 3, 12], [1], [], [], 0, [1, 3], [1], [], [], []⟩), (6, ri [1,3,21] [1]), (7, ri [2] []), (5, ri [1,3] [1]), (8, ri [2] [])]
noncomputable def ref12_Short.cx (k : Nat) : Cx := ⟨tt, pp, [(119, (ref11_Short.e k))], ref12_Short.regs, k, mm⟩
@[reducible] def ref12_Short.sg : Sg := ⟨[.dat tTxn], [], .dat .bool, []⟩
noncomputable def ref12_Short.f (k : Nat) (a0 : Ty.D tTxn) : Option (Sg.Out ref12_Short.sg) := Sg.fn ref12_Short.sg (ref12_Short.cx k) ref12_Short.body ref12_Short.rs a0
noncomputable def ref12_Short.l4 (k : Nat) (n : Nat) (x3 : Ty.D (.int .i64)) (m1 : Ty.D tTxn) : Option (Sg.Out ref12_Short.sg) := loopAt (ref12_Short.cx k) ref12_Short.body [1, 1, 0, 1, 0] 4 [1, 3] [1] [] (Sg.K ref12_Short.sg (ref12_Short.cx k) ref12_Short.rs) n ⟨[(1, .ref 1 []), (3, .dat (.int .i64) x3)], [(1, .dat tTxn m1)]⟩
theorem ref12_Short.f_eq (k : Nat) (a0 : Ty.D tTxn) : ref12_Short.f k a0 = br (ilt 20 (ilen a0.2.2.2.2)) (some false) (ref12_Short.l4 k k 0 a0) := by kernel_rfl
theorem ref12_Short.l4_eq (k : Nat) (n4 : Nat) (x3 : Ty.D (.int .i64)) (m1 : Ty.D tTxn) : ref12_Short.l4 k (n4 + 1) x3 m1 = br (ilt x3 (ilen m1.2.2.2.2)) (br (inL x3 m1.2.2.2.2) (bnd (ref11_Short.f k (rd tOp m1.2.2.2.2 (natOf x3))) fun r0 => br (bnot r0) (some false) (ref12_Short.l4 k n4 (iadd .i64 x3 1) m1)) none) (some true) := by kernel_rfl
noncomputable def ref12_Short.e (k : Nat) : Entry := Sg.entry ref12_Short.sg fun x => ref12_Short.f k x
theorem ref12_Short.ok (k : Nat) : CallOK Tryz.prog 83 (ref12_Short.e k) := fn_ok (c := ref12_Short.cx k) (code := ref12_Short.body) (TT.of tt_ok pp_ok mm_ok) (fns_ok ⟨(ref11_Short.ok k), trivial⟩) mixed Tryz.func83 (by kernel_rfl) (by kernel_rfl) (by kernel_rfl) (by kernel_rfl) (by kernel_rfl) (by kernel_rfl) (fun x => by kernel_rfl)
noncomputable def ref22_Short.body : Go.Code := Tryz.f40.body.getD .skip
noncomputable def ref22_Short.rs : List Go.ResultVar := Tryz.f40.results.toList
def ref22_Short.regs : List (Nat × RInfo) := [(0, ⟨[1], [1], [0], [], 0, [], [], [], [], []⟩), (1, ri [1,28] [1]), (2, ri [2] []), (3, ri [1,3] [1]), (4, ⟨[1, 3, 33], [1], [], [], 0, [1, 3], [1], [], [], []⟩), (6, ri [1,3,42] [1]), (7, ri [2] []), (5, ri [1,3] [1]), (8, ri [1,4] [1]), (9, ⟨[1, 4, 44], [1], [], [], 0, [1, 4], [1], [], [], []⟩), (11, ri [1,4,52] [1]), (12, ri [2] []), (10, ri [1,4] [1]), (13, ri [2] [])]
noncomputable def ref22_Short.cx (k : Nat) : Cx := ⟨tt, pp, [(83, (ref12_Short.e k))], ref22_Short.regs, k, mm⟩
@[reducible] def ref22_Short.sg : Sg := ⟨[.dat tState], [], .dat .bool, []⟩
noncomputable def ref22_Short.f (k : Nat) (a0 : Ty.D tState) : Option (Sg.Out ref22_Short.sg) := Sg.fn ref22_Short.sg (ref22_Short.cx k) ref22_Short.body ref22_Short.rs a0
noncomputable def ref22_Short.l4 (k : Nat) (n : Nat) (x3 : Ty.D (.int .i64)) (m1 : Ty.D tState) : Option (Sg.Out ref22_Short.sg) := loopAt (ref22_Short.cx k) ref22_Short.body [1, 1, 0, 1, 0] 4 [1, 3] [1] [] (Sg.K ref22_Short.sg (ref22_Short.cx k) ref22_Short.rs) n ⟨[(1, .ref 1 []), (3, .dat (.int .i64) x3)], [(1, .dat tState m1)]⟩
noncomputable def ref22_Short.l9 (k : Nat) (n : Nat) (x4 : Ty.D (.int .i64)) (m1 : Ty.D tState) : Option (Sg.Out ref22_Short.sg) := loopAt (ref22_Short.cx k) ref22_Short.body [1, 1, 1, 0, 1, 0] 9 [1, 4] [1] [] (Sg.K ref22_Short.sg (ref22_Short.cx k) ref22_Short.rs) n ⟨[(1, .ref 1 []), (4, .dat (.int .i64) x4)], [(1, .dat tState m1)]⟩
theorem ref22_Short.f_eq (k : Nat) (a0 : Ty.D tState) : ref22_Short.f k a0 = br (ilt 20 (ilen a0.1)) (some false) (br (ilt 100 (ilen a0.2.1)) (some false) (br (ilt 100 (ilen a0.2.2.1.2)) (some false) (br (ilt 100 (ilen a0.2.2.2.1.2)) (some false) (ref22_Short.l4 k k 0 a0)))) := by kernel_rfl
theorem ref22_Short.l4_eq (k : Nat) (n4 : Nat) (x3 : Ty.D (.int .i64)) (m1 : Ty.D tState) : ref22_Short.l4 k (n4 + 1) x3 m1 = br (ilt x3 (ilen m1.1)) (br (inL x3 m1.1) (bnd (ref12_Short.f k (rd tTxn m1.1 (natOf x3))) fun r0 => br (bnot r0) (some false) (ref22_Short.l4 k n4 (iadd .i64 x3 1) m1)) none) (ref22_Short.l9 k k 0 m1) := by kernel_rfl
theorem ref22_Short.l9_eq (k : Nat) (n9 : Nat) (x4 : Ty.D (.int .i64)) (m1 : Ty.D tState) : ref22_Short.l9 k (n9 + 1) x4 m1 = br (ilt x4 8) (br (inB x4 8) (br (ilt 40 (ilen (rd (.slc tDot) m1.2.2.2.2 (natOf x4)))) (some false) (ref22_Short.l9 k n9 (iadd .i64 x4 1) m1)) none) (some true) := by kernel_rfl
noncomputable def ref22_Short.e (k : Nat) : Entry := Sg.entry ref22_Short.sg fun x => ref22_Short.f k x
theorem ref22_Short.ok (k : Nat) : CallOK Tryz.prog 40 (ref22_Short.e k) := fn_ok (c := ref22_Short.cx k) (code := ref22_Short.body) (TT.of tt_ok pp_ok mm_ok) (fns_ok ⟨(ref12_Short.ok k), trivial⟩) mixed Tryz.func40 (by kernel_rfl) (by kernel_rfl) (by kernel_rfl) (by kernel_rfl) (by kernel_rfl) (by kernel_rfl) (fun x => by kernel_rfl)
noncomputable def ref22_Good.body : Go.Code := Tryz.f13.body.getD .skip
noncomputable def ref22_Good.rs : List Go.ResultVar := Tryz.f13.results.toList
def ref22_Good.regs : List (Nat × RInfo) := [(0, ⟨[1], [1], [0], [], 0, [], [], [], [], []⟩), (1, ri [2] [4,7])]
noncomputable def ref22_Good.cx (k : Nat) : Cx := ⟨tt, pp, [(40, (ref22_Short.e k)), (33, (ref22_Right.e k))], ref22_Good.regs, k, mm⟩
@[reducible] def ref22_Good.sg : Sg := ⟨[.dat tState], [], .dat .bool, []⟩
noncomputable def ref22_Good.f (k : Nat) (a0 : Ty.D tState) : Option (Sg.Out ref22_Good.sg) := Sg.fn ref22_Good.sg (ref22_Good.cx k) ref22_Good.body ref22_Good.rs a0
theorem ref22_Good.f_eq (k : Nat) (a0 : Ty.D tState) : ref22_Good.f k a0 = bnd (ref22_Short.f k a0) fun r0 => br r0 (bnd (ref22_Right.f k a0) fun r1 => some r1) (some false) := by kernel_rfl
noncomputable def ref22_Good.e (k : Nat) : Entry := Sg.entry ref22_Good.sg fun x => ref22_Good.f k x
theorem ref22_Good.ok (k : Nat) : CallOK Tryz.prog 13 (ref22_Good.e k) := fn_ok (c := ref22_Good.cx k) (code := ref22_Good.body) (TT.of tt_ok pp_ok mm_ok) (fns_ok ⟨(ref22_Short.ok k), (ref22_Right.ok k), trivial⟩) mixed Tryz.func13 (by kernel_rfl) (by kernel_rfl) (by kernel_rfl) (by kernel_rfl) (by kernel_rfl) (by kernel_rfl) (fun x => by kernel_rfl)
noncomputable def dot_Code.body : Go.Code := Tryz.f86.body.getD .skip
noncomputable def dot_Code.rs : List Go.ResultVar := Tryz.f86.results.toList
def dot_Code.regs : List (Nat × RInfo) := [(0, ri [1] [1]), (1, rq [2] [] 7)]
noncomputable def dot_Code.cx (k : Nat) : Cx := ⟨tt, pp, [(84, packIntE)], dot_Code.regs, k, mm⟩
@[reducible] def dot_Code.sg : Sg := ⟨[.dat tDot], [], .dat .str, []⟩
noncomputable def dot_Code.f (k : Nat) (a0 : Ty.D tDot) : Option (Sg.Out dot_Code.sg) := Sg.fn dot_Code.sg (dot_Code.cx k) dot_Code.body dot_Code.rs a0
theorem dot_Code.f_eq (k : Nat) (a0 : Ty.D tDot) : dot_Code.f k a0 = bnd (packI a0.1) fun r0 => bnd (packI a0.2) fun r1 => br (roomS r0 r1) (some (app r0 r1)) none := by kernel_rfl
noncomputable def dot_Code.e (k : Nat) : Entry := Sg.entry dot_Code.sg fun x => dot_Code.f k x
theorem dot_Code.ok (k : Nat) : CallOK Tryz.prog 86 (dot_Code.e k) := fn_ok (c := dot_Code.cx k) (code := dot_Code.body) (TT.of tt_ok pp_ok mm_ok) (fns_ok ⟨packint_ok, trivial⟩) mixed Tryz.func86 (by kernel_rfl) (by kernel_rfl) (by kernel_rfl) (by kernel_rfl) (by kernel_rfl) (by kernel_rfl) (fun x => by kernel_rfl)
noncomputable def pack_Text.body : Go.Code := Tryz.f181.body.getD .skip
noncomputable def pack_Text.rs : List Go.ResultVar := Tryz.f181.results.toList
def pack_Text.regs : List (Nat × RInfo) := [(0, ri [0] []), (1, ri [2] [])]
noncomputable def pack_Text.cx (k : Nat) : Cx := ⟨tt, pp, [(84, packIntE)], pack_Text.regs, k, mm⟩
@[reducible] def pack_Text.sg : Sg := ⟨[.dat .str], [], .dat .str, []⟩
noncomputable def pack_Text.f (k : Nat) (a0 : Ty.D .str) : Option (Sg.Out pack_Text.sg) := Sg.fn pack_Text.sg (pack_Text.cx k) pack_Text.body pack_Text.rs a0
theorem pack_Text.f_eq (k : Nat) (a0 : Ty.D .str) : pack_Text.f k a0 = bnd (packI (ilen a0)) fun r0 => br (roomS r0 a0) (some (app r0 a0)) none := by kernel_rfl
noncomputable def pack_Text.e (k : Nat) : Entry := Sg.entry pack_Text.sg fun x => pack_Text.f k x
theorem pack_Text.ok (k : Nat) : CallOK Tryz.prog 181 (pack_Text.e k) := fn_ok (c := pack_Text.cx k) (code := pack_Text.body) (TT.of tt_ok pp_ok mm_ok) (fns_ok ⟨packint_ok, trivial⟩) mixed Tryz.func181 (by kernel_rfl) (by kernel_rfl) (by kernel_rfl) (by kernel_rfl) (by kernel_rfl) (by kernel_rfl) (fun x => by kernel_rfl)
noncomputable def path_Code.body : Go.Code := Tryz.f159.body.getD .skip
noncomputable def path_Code.rs : List Go.ResultVar := Tryz.f159.results.toList
def path_Code.regs : List (Nat × RInfo) := [(0, ri [0] []), (1, ri [0,3] [8]), (2, ri [3,9,10,11] [8]), (3, ⟨[3, 9, 10, 11, 12], [8], [], [], 0, [3, 9, 10, 11], [8], [], [], []⟩), (4, ri [3,5,9,10,11] [8]), (5, ri [3,9,10,11] [8]), (6, ri [3,9,10,11] [8]), (7, ri [2] [8])]
noncomputable def path_Code.cx (k : Nat) : Cx := ⟨tt, pp, [(84, packIntE), (181, (pack_Text.e k))], path_Code.regs, k, mm⟩
@[reducible] def path_Code.sg : Sg := ⟨[.dat (.slc .str)], [], .dat .str, []⟩
noncomputable def path_Code.f (k : Nat) (a0 : Ty.D (.slc .str)) : Option (Sg.Out path_Code.sg) := Sg.fn path_Code.sg (path_Code.cx k) path_Code.body path_Code.rs a0
noncomputable def path_Code.l3 (k : Nat) (n : Nat) (x3 : Ty.D .str) (x9 : Ty.D (.slc .str)) (x10 : Ty.D (.int .i64)) (x11 : Ty.D (.int .i64)) : Option (Sg.Out path_Code.sg) := loopAt (path_Code.cx k) path_Code.body [1, 1, 0, 1, 0] 3 [3, 9, 10, 11] [8] [] (Sg.K path_Code.sg (path_Code.cx k) path_Code.rs) n ⟨[(3, .dat .str x3), (9, .dat (.slc .str) x9), (10, .dat (.int .i64) x10), (11, .dat (.int .i64) x11)], []⟩
theorem path_Code.f_eq (k : Nat) (a0 : Ty.D (.slc .str)) : path_Code.f k a0 = bnd (packI (ilen a0)) fun r0 => path_Code.l3 k k r0 a0 (ilen a0) 0 := by kernel_rfl
theorem path_Code.l3_eq (k : Nat) (n3 : Nat) (x3 : Ty.D .str) (x9 : Ty.D (.slc .str)) (x10 : Ty.D (.int .i64)) (x11 : Ty.D (.int .i64)) : path_Code.l3 k (n3 + 1) x3 x9 x10 x11 = br (ilt x11 x10) (br (inL x11 x9) (bnd (pack_Text.f k (rd .str x9 (natOf x11))) fun r0 => br (roomS x3 r0) (path_Code.l3 k n3 (app x3 r0) x9 x10 (iadd .i64 x11 1)) none) none) (some x3) := by kernel_rfl
noncomputable def path_Code.e (k : Nat) : Entry := Sg.entry path_Code.sg fun x => path_Code.f k x
theorem path_Code.ok (k : Nat) : CallOK Tryz.prog 159 (path_Code.e k) := fn_ok (c := path_Code.cx k) (code := path_Code.body) (TT.of tt_ok pp_ok mm_ok) (fns_ok ⟨packint_ok, (pack_Text.ok k), trivial⟩) mixed Tryz.func159 (by kernel_rfl) (by kernel_rfl) (by kernel_rfl) (by kernel_rfl) (by kernel_rfl) (by kernel_rfl) (fun x => by kernel_rfl)
noncomputable def value_Fold.body : Go.Code := Tryz.f160.body.getD .skip
noncomputable def value_Fold.rs : List Go.ResultVar := Tryz.f160.results.toList
def value_Fold.regs : List (Nat × RInfo) := [(0, ri [0] []), (1, ri [0,4] []), (2, ri [2] []), (3, ri [2] [])]
noncomputable def value_Fold.cx (k : Nat) : Cx := ⟨tt, pp, [], value_Fold.regs, k, mm⟩
@[reducible] def value_Fold.sg : Sg := ⟨[.dat (.int .i64)], [], .dat (.int .i64), []⟩
noncomputable def value_Fold.f (k : Nat) (a0 : Ty.D (.int .i64)) : Option (Sg.Out value_Fold.sg) := Sg.fn value_Fold.sg (value_Fold.cx k) value_Fold.body value_Fold.rs a0
theorem value_Fold.f_eq (k : Nat) (a0 : Ty.D (.int .i64)) : value_Fold.f k a0 = br (ilt a0 0) (some (isub .i64 (imul .i64 (-2) a0) 1)) (some (imul .i64 2 a0)) := by kernel_rfl
noncomputable def value_Fold.e (k : Nat) : Entry := Sg.entry value_Fold.sg fun x => value_Fold.f k x
theorem value_Fold.ok (k : Nat) : CallOK Tryz.prog 160 (value_Fold.e k) := fn_ok (c := value_Fold.cx k) (code := value_Fold.body) (TT.of tt_ok pp_ok mm_ok) (fns_ok trivial) mixed Tryz.func160 (by kernel_rfl) (by kernel_rfl) (by kernel_rfl) (by kernel_rfl) (by kernel_rfl) (by kernel_rfl) (fun x => by kernel_rfl)
noncomputable def value_Code.body : Go.Code := Tryz.f161.body.getD .skip
noncomputable def value_Code.rs : List Go.ResultVar := Tryz.f161.results.toList
def value_Code.regs : List (Nat × RInfo) := [(0, ri [1] [1]), (1, ri [1,5] [1]), (2, rq [2] [] 7), (3, rq [2] [] 8)]
noncomputable def value_Code.cx (k : Nat) : Cx := ⟨tt, pp, [(84, packIntE), (181, (pack_Text.e k)), (160, (value_Fold.e k))], value_Code.regs, k, mm⟩
@[reducible] def value_Code.sg : Sg := ⟨[.dat tValue], [], .dat .str, []⟩
noncomputable def value_Code.f (k : Nat) (a0 : Ty.D tValue) : Option (Sg.Out value_Code.sg) := Sg.fn value_Code.sg (value_Code.cx k) value_Code.body value_Code.rs a0
theorem value_Code.f_eq (k : Nat) (a0 : Ty.D tValue) : value_Code.f k a0 = br (ieq a0.1 2) (bnd (packI a0.1) fun r0 => bnd (pack_Text.f k a0.2.2) fun r1 => br (roomS r0 r1) (some (app r0 r1)) none) (bnd (packI a0.1) fun r2 => bnd (value_Fold.f k a0.2.1) fun r3 => bnd (packI r3) fun r4 => br (roomS r2 r4) (some (app r2 r4)) none) := by kernel_rfl
noncomputable def value_Code.e (k : Nat) : Entry := Sg.entry value_Code.sg fun x => value_Code.f k x
theorem value_Code.ok (k : Nat) : CallOK Tryz.prog 161 (value_Code.e k) := fn_ok (c := value_Code.cx k) (code := value_Code.body) (TT.of tt_ok pp_ok mm_ok) (fns_ok ⟨packint_ok, (pack_Text.ok k), (value_Fold.ok k), trivial⟩) mixed Tryz.func161 (by kernel_rfl) (by kernel_rfl) (by kernel_rfl) (by kernel_rfl) (by kernel_rfl) (by kernel_rfl) (fun x => by kernel_rfl)
noncomputable def op_Code.body : Go.Code := Tryz.f122.body.getD .skip
noncomputable def op_Code.rs : List Go.ResultVar := Tryz.f122.results.toList
def op_Code.regs : List (Nat × RInfo) := [(0, ⟨[1], [1], [0], [], 0, [], [], [], [], []⟩), (1, ri [1,3] [1,8]), (2, ri [1,3,10] [1,8,10]), (3, ri [2] [8]), (4, ri [1,3] [1,8]), (5, ri [1,3,18] [1,8]), (6, ri [1,3,18,19] [1,8]), (7, ri [2] [8]), (8, ri [1,3,18,27] [1,8]), (9, ri [1,3,18,27] [1,8]), (10, ri [1,3,27] [1,8]), (11, ri [1,3] [1,8]), (12, ri [1,3,38] [1,8]), (13, ri [2] [8]), (14, ri [1,3] [1,8]), (15, ri [3,47,48,49] [8]), (16, ⟨[3, 47, 48, 49, 50], [8], [], [], 0, [3, 47, 48, 49], [8], [], [], []⟩), (17, ri [3,5,47,48,49] [5,8]), (18, rq [3,47,48,49] [8] 9), (19, ri [3,47,48,49] [8]), (20, ri [2] [8])]
noncomputable def op_Code.cx (k : Nat) : Cx := ⟨tt, pp, [(84, packIntE), (81, (op_Gone.e k)), (159, (path_Code.e k)), (160, (value_Fold.e k)), (161, (value_Code.e k)), (86, (dot_Code.e k))], op_Code.regs, k, mm⟩
@[reducible] def op_Code.sg : Sg := ⟨[.dat tOp], [], .dat .str, []⟩
noncomputable def op_Code.f (k : Nat) (a0 : Ty.D tOp) : Option (Sg.Out op_Code.sg) := Sg.fn op_Code.sg (op_Code.cx k) op_Code.body op_Code.rs a0
noncomputable def op_Code.l16 (k : Nat) (n : Nat) (x3 : Ty.D .str) (x47 : Ty.D (.slc tUndo)) (x48 : Ty.D (.int .i64)) (x49 : Ty.D (.int .i64)) : Option (Sg.Out op_Code.sg) := loopAt (op_Code.cx k) op_Code.body [1, 1, 1, 1, 1, 1, 1, 0, 1, 0] 16 [3, 47, 48, 49] [8] [] (Sg.K op_Code.sg (op_Code.cx k) op_Code.rs) n ⟨[(3, .dat .str x3), (47, .dat (.slc tUndo) x47), (48, .dat (.int .i64) x48), (49, .dat (.int .i64) x49)], []⟩
theorem op_Code.f_eq (k : Nat) (a0 : Ty.D tOp) : op_Code.f k a0 = bnd (packI a0.1) fun r0 => bnd (op_Gone.f k a0) fun r1 => br r1 (some r0) (bnd (path_Code.f k a0.2.1) fun r2 => br (roomS r0 r2) (br (ieq a0.1 3) (bnd (value_Fold.f k a0.2.2.2.1) fun r3 => bnd (packI r3) fun r4 => br (roomS (app r0 r2) r4) (some (app (app r0 r2) r4)) none) (br (ieq a0.1 1) (br (ieq a0.1 1) (bnd (value_Code.f k a0.2.2.1) fun r5 => br (roomS (app r0 r2) r5) (br (ieq a0.1 2) (some (app (app r0 r2) r5)) (bnd (packI (ilen a0.2.2.2.2)) fun r6 => br (roomS (app (app r0 r2) r5) r6) (op_Code.l16 k k (app (app (app r0 r2) r5) r6) a0.2.2.2.2 (ilen a0.2.2.2.2) 0) none)) none) (br (ieq a0.1 2) (some (app r0 r2)) (bnd (packI (ilen a0.2.2.2.2)) fun r7 => br (roomS (app r0 r2) r7) (op_Code.l16 k k (app (app r0 r2) r7) a0.2.2.2.2 (ilen a0.2.2.2.2) 0) none))) (br (ieq a0.1 2) (br (ieq a0.1 2) (bnd (value_Code.f k a0.2.2.1) fun r8 => br (roomS (app r0 r2) r8) (br (ieq a0.1 2) (some (app (app r0 r2) r8)) (bnd (packI (ilen a0.2.2.2.2)) fun r9 => br (roomS (app (app r0 r2) r8) r9) (op_Code.l16 k k (app (app (app r0 r2) r8) r9) a0.2.2.2.2 (ilen a0.2.2.2.2) 0) none)) none) (br (ieq a0.1 2) (some (app r0 r2)) (bnd (packI (ilen a0.2.2.2.2)) fun r10 => br (roomS (app r0 r2) r10) (op_Code.l16 k k (app (app r0 r2) r10) a0.2.2.2.2 (ilen a0.2.2.2.2) 0) none))) (br (ieq a0.1 4) (bnd (value_Code.f k a0.2.2.1) fun r11 => br (roomS (app r0 r2) r11) (br (ieq a0.1 2) (some (app (app r0 r2) r11)) (bnd (packI (ilen a0.2.2.2.2)) fun r12 => br (roomS (app (app r0 r2) r11) r12) (op_Code.l16 k k (app (app (app r0 r2) r11) r12) a0.2.2.2.2 (ilen a0.2.2.2.2) 0) none)) none) (br (ieq a0.1 2) (some (app r0 r2)) (bnd (packI (ilen a0.2.2.2.2)) fun r13 => br (roomS (app r0 r2) r13) (op_Code.l16 k k (app (app r0 r2) r13) a0.2.2.2.2 (ilen a0.2.2.2.2) 0) none)))))) none) := by kernel_rfl
theorem op_Code.l16_eq (k : Nat) (n16 : Nat) (x3 : Ty.D .str) (x47 : Ty.D (.slc tUndo)) (x48 : Ty.D (.int .i64)) (x49 : Ty.D (.int .i64)) : op_Code.l16 k (n16 + 1) x3 x47 x48 x49 = br (ilt x49 x48) (br (inL x49 x47) (bnd (dot_Code.f k ((rd tUndo x47 (natOf x49)).1)) fun r0 => bnd (packI ((rd tUndo x47 (natOf x49)).2)) fun r1 => br (roomS r0 r1) (br (roomS x3 (app r0 r1)) (op_Code.l16 k n16 (app x3 (app r0 r1)) x47 x48 (iadd .i64 x49 1)) none) none) none) (some x3) := by kernel_rfl
noncomputable def op_Code.e (k : Nat) : Entry := Sg.entry op_Code.sg fun x => op_Code.f k x
theorem op_Code.ok (k : Nat) : CallOK Tryz.prog 122 (op_Code.e k) := fn_ok (c := op_Code.cx k) (code := op_Code.body) (TT.of tt_ok pp_ok mm_ok) (fns_ok ⟨packint_ok, (op_Gone.ok k), (path_Code.ok k), (value_Fold.ok k), (value_Code.ok k), (dot_Code.ok k), trivial⟩) mixed Tryz.func122 (by kernel_rfl) (by kernel_rfl) (by kernel_rfl) (by kernel_rfl) (by kernel_rfl) (by kernel_rfl) (fun x => by kernel_rfl)
noncomputable def txn_Code.body : Go.Code := Tryz.f85.body.getD .skip
noncomputable def txn_Code.rs : List Go.ResultVar := Tryz.f85.results.toList
def txn_Code.regs : List (Nat × RInfo) := [(0, ⟨[1], [1], [0], [], 0, [], [], [], [], []⟩), (1, ri [1,3] [1]), (2, ri [1,3,8] [1]), (3, ri [1,3] [1]), (4, rq [1,4] [1] 19), (5, ri [4,29,30,31] []), (6, ⟨[4, 29, 30, 31, 32], [], [], [], 0, [4, 29, 30, 31], [], [], [], []⟩), (7, ⟨[4, 6, 29, 30, 31], [6], [3], [], 0, [], [], [], [], []⟩), (8, ri [4,29,30,31] []), (9, ri [4,29,30,31] []), (10, ri [2] [])]
noncomputable def txn_Code.cx (k : Nat) : Cx := ⟨tt, pp, [(86, (dot_Code.e k)), (84, packIntE), (122, (op_Code.e k))], txn_Code.regs, k, mm⟩
@[reducible] def txn_Code.sg : Sg := ⟨[.dat tTxn], [], .dat .str, []⟩
noncomputable def txn_Code.f (k : Nat) (a0 : Ty.D tTxn) : Option (Sg.Out txn_Code.sg) := Sg.fn txn_Code.sg (txn_Code.cx k) txn_Code.body txn_Code.rs a0
noncomputable def txn_Code.l6 (k : Nat) (n : Nat) (x4 : Ty.D .str) (x29 : Ty.D (.slc tOp)) (x30 : Ty.D (.int .i64)) (x31 : Ty.D (.int .i64)) : Option (Sg.Out txn_Code.sg) := loopAt (txn_Code.cx k) txn_Code.body [1, 1, 1, 1, 0, 1, 0] 6 [4, 29, 30, 31] [] [] (Sg.K txn_Code.sg (txn_Code.cx k) txn_Code.rs) n ⟨[(4, .dat .str x4), (29, .dat (.slc tOp) x29), (30, .dat (.int .i64) x30), (31, .dat (.int .i64) x31)], []⟩
theorem txn_Code.f_eq (k : Nat) (a0 : Ty.D tTxn) : txn_Code.f k a0 = br a0.2.2.2.1 (bnd (dot_Code.f k a0.1) fun r0 => bnd (packI a0.2.1) fun r1 => br (roomS r0 r1) (bnd (packI a0.2.2.1) fun r2 => br (roomS (app r0 r1) r2) (bnd (packI 1) fun r3 => br (roomS (app (app r0 r1) r2) r3) (bnd (packI (ilen a0.2.2.2.2)) fun r4 => br (roomS (app (app (app r0 r1) r2) r3) r4) (txn_Code.l6 k k (app (app (app (app r0 r1) r2) r3) r4) a0.2.2.2.2 (ilen a0.2.2.2.2) 0) none) none) none) none) (bnd (dot_Code.f k a0.1) fun r5 => bnd (packI a0.2.1) fun r6 => br (roomS r5 r6) (bnd (packI a0.2.2.1) fun r7 => br (roomS (app r5 r6) r7) (bnd (packI 0) fun r8 => br (roomS (app (app r5 r6) r7) r8) (bnd (packI (ilen a0.2.2.2.2)) fun r9 => br (roomS (app (app (app r5 r6) r7) r8) r9) (txn_Code.l6 k k (app (app (app (app r5 r6) r7) r8) r9) a0.2.2.2.2 (ilen a0.2.2.2.2) 0) none) none) none) none) := by kernel_rfl
theorem txn_Code.l6_eq (k : Nat) (n6 : Nat) (x4 : Ty.D .str) (x29 : Ty.D (.slc tOp)) (x30 : Ty.D (.int .i64)) (x31 : Ty.D (.int .i64)) : txn_Code.l6 k (n6 + 1) x4 x29 x30 x31 = br (ilt x31 x30) (br (inL x31 x29) (bnd (op_Code.f k (rd tOp x29 (natOf x31))) fun r0 => br (roomS x4 r0) (txn_Code.l6 k n6 (app x4 r0) x29 x30 (iadd .i64 x31 1)) none) none) (some x4) := by kernel_rfl
noncomputable def txn_Code.e (k : Nat) : Entry := Sg.entry txn_Code.sg fun x => txn_Code.f k x
theorem txn_Code.ok (k : Nat) : CallOK Tryz.prog 85 (txn_Code.e k) := fn_ok (c := txn_Code.cx k) (code := txn_Code.body) (TT.of tt_ok pp_ok mm_ok) (fns_ok ⟨(dot_Code.ok k), packint_ok, (op_Code.ok k), trivial⟩) mixed Tryz.func85 (by kernel_rfl) (by kernel_rfl) (by kernel_rfl) (by kernel_rfl) (by kernel_rfl) (by kernel_rfl) (fun x => by kernel_rfl)
noncomputable def txn_List.body : Go.Code := Tryz.f41.body.getD .skip
noncomputable def txn_List.rs : List Go.ResultVar := Tryz.f41.results.toList
def txn_List.regs : List (Nat × RInfo) := [(0, ri [0] []), (1, ri [0,3] [8]), (2, ri [3,9,10,11] [8]), (3, ⟨[3, 9, 10, 11, 12], [8], [], [], 0, [3, 9, 10, 11], [8], [], [], []⟩), (4, ⟨[3, 5, 9, 10, 11], [5, 8], [3], [], 0, [], [], [], [], []⟩), (5, ri [3,9,10,11] [8]), (6, ri [3,9,10,11] [8]), (7, ri [2] [8])]
noncomputable def txn_List.cx (k : Nat) : Cx := ⟨tt, pp, [(84, packIntE), (85, (txn_Code.e k))], txn_List.regs, k, mm⟩
@[reducible] def txn_List.sg : Sg := ⟨[.dat (.slc tTxn)], [], .dat .str, []⟩
noncomputable def txn_List.f (k : Nat) (a0 : Ty.D (.slc tTxn)) : Option (Sg.Out txn_List.sg) := Sg.fn txn_List.sg (txn_List.cx k) txn_List.body txn_List.rs a0
noncomputable def txn_List.l3 (k : Nat) (n : Nat) (x3 : Ty.D .str) (x9 : Ty.D (.slc tTxn)) (x10 : Ty.D (.int .i64)) (x11 : Ty.D (.int .i64)) : Option (Sg.Out txn_List.sg) := loopAt (txn_List.cx k) txn_List.body [1, 1, 0, 1, 0] 3 [3, 9, 10, 11] [8] [] (Sg.K txn_List.sg (txn_List.cx k) txn_List.rs) n ⟨[(3, .dat .str x3), (9, .dat (.slc tTxn) x9), (10, .dat (.int .i64) x10), (11, .dat (.int .i64) x11)], []⟩
theorem txn_List.f_eq (k : Nat) (a0 : Ty.D (.slc tTxn)) : txn_List.f k a0 = bnd (packI (ilen a0)) fun r0 => txn_List.l3 k k r0 a0 (ilen a0) 0 := by kernel_rfl
theorem txn_List.l3_eq (k : Nat) (n3 : Nat) (x3 : Ty.D .str) (x9 : Ty.D (.slc tTxn)) (x10 : Ty.D (.int .i64)) (x11 : Ty.D (.int .i64)) : txn_List.l3 k (n3 + 1) x3 x9 x10 x11 = br (ilt x11 x10) (br (inL x11 x9) (bnd (txn_Code.f k (rd tTxn x9 (natOf x11))) fun r0 => br (roomS x3 r0) (txn_List.l3 k n3 (app x3 r0) x9 x10 (iadd .i64 x11 1)) none) none) (some x3) := by kernel_rfl
noncomputable def txn_List.e (k : Nat) : Entry := Sg.entry txn_List.sg fun x => txn_List.f k x
theorem txn_List.ok (k : Nat) : CallOK Tryz.prog 41 (txn_List.e k) := fn_ok (c := txn_List.cx k) (code := txn_List.body) (TT.of tt_ok pp_ok mm_ok) (fns_ok ⟨packint_ok, (txn_Code.ok k), trivial⟩) mixed Tryz.func41 (by kernel_rfl) (by kernel_rfl) (by kernel_rfl) (by kernel_rfl) (by kernel_rfl) (by kernel_rfl) (fun x => by kernel_rfl)
noncomputable def tally_Code.body : Go.Code := Tryz.f42.body.getD .skip
noncomputable def tally_Code.rs : List Go.ResultVar := Tryz.f42.results.toList
def tally_Code.regs : List (Nat × RInfo) := [(0, ri [0] []), (1, ri [0,3] [8]), (2, ri [3,9,10,11] [8]), (3, ⟨[3, 9, 10, 11, 12], [8], [], [], 0, [3, 9, 10, 11], [8], [], [], []⟩), (4, ri [3,5,9,10,11] [5,8]), (5, rq [3,9,10,11] [8] 9), (6, ri [3,9,10,11] [8]), (7, ri [2] [8])]
noncomputable def tally_Code.cx (k : Nat) : Cx := ⟨tt, pp, [(84, packIntE), (86, (dot_Code.e k))], tally_Code.regs, k, mm⟩
@[reducible] def tally_Code.sg : Sg := ⟨[.dat (.slc tUndo)], [], .dat .str, []⟩
noncomputable def tally_Code.f (k : Nat) (a0 : Ty.D (.slc tUndo)) : Option (Sg.Out tally_Code.sg) := Sg.fn tally_Code.sg (tally_Code.cx k) tally_Code.body tally_Code.rs a0
noncomputable def tally_Code.l3 (k : Nat) (n : Nat) (x3 : Ty.D .str) (x9 : Ty.D (.slc tUndo)) (x10 : Ty.D (.int .i64)) (x11 : Ty.D (.int .i64)) : Option (Sg.Out tally_Code.sg) := loopAt (tally_Code.cx k) tally_Code.body [1, 1, 0, 1, 0] 3 [3, 9, 10, 11] [8] [] (Sg.K tally_Code.sg (tally_Code.cx k) tally_Code.rs) n ⟨[(3, .dat .str x3), (9, .dat (.slc tUndo) x9), (10, .dat (.int .i64) x10), (11, .dat (.int .i64) x11)], []⟩
theorem tally_Code.f_eq (k : Nat) (a0 : Ty.D (.slc tUndo)) : tally_Code.f k a0 = bnd (packI (ilen a0)) fun r0 => tally_Code.l3 k k r0 a0 (ilen a0) 0 := by kernel_rfl
theorem tally_Code.l3_eq (k : Nat) (n3 : Nat) (x3 : Ty.D .str) (x9 : Ty.D (.slc tUndo)) (x10 : Ty.D (.int .i64)) (x11 : Ty.D (.int .i64)) : tally_Code.l3 k (n3 + 1) x3 x9 x10 x11 = br (ilt x11 x10) (br (inL x11 x9) (bnd (dot_Code.f k ((rd tUndo x9 (natOf x11)).1)) fun r0 => bnd (packI ((rd tUndo x9 (natOf x11)).2)) fun r1 => br (roomS r0 r1) (br (roomS x3 (app r0 r1)) (tally_Code.l3 k n3 (app x3 (app r0 r1)) x9 x10 (iadd .i64 x11 1)) none) none) none) (some x3) := by kernel_rfl
noncomputable def tally_Code.e (k : Nat) : Entry := Sg.entry tally_Code.sg fun x => tally_Code.f k x
theorem tally_Code.ok (k : Nat) : CallOK Tryz.prog 42 (tally_Code.e k) := fn_ok (c := tally_Code.cx k) (code := tally_Code.body) (TT.of tt_ok pp_ok mm_ok) (fns_ok ⟨packint_ok, (dot_Code.ok k), trivial⟩) mixed Tryz.func42 (by kernel_rfl) (by kernel_rfl) (by kernel_rfl) (by kernel_rfl) (by kernel_rfl) (by kernel_rfl) (fun x => by kernel_rfl)
noncomputable def vec_Code.body : Go.Code := Tryz.f87.body.getD .skip
noncomputable def vec_Code.rs : List Go.ResultVar := Tryz.f87.results.toList
def vec_Code.regs : List (Nat × RInfo) := [(0, ri [1] [1]), (1, ri [1,3] [1]), (2, ri [3,6,7] []), (3, ⟨[3, 6, 7, 8], [], [], [], 0, [3, 6, 7], [], [], [], []⟩), (4, ri [3,5,6,7] []), (5, ri [3,6,7] []), (6, ri [3,6,7] []), (7, ri [2] [])]
noncomputable def vec_Code.cx (k : Nat) : Cx := ⟨tt, pp, [(84, packIntE)], vec_Code.regs, k, mm⟩
@[reducible] def vec_Code.sg : Sg := ⟨[.dat tVec], [], .dat .str, []⟩
noncomputable def vec_Code.f (k : Nat) (a0 : Ty.D tVec) : Option (Sg.Out vec_Code.sg) := Sg.fn vec_Code.sg (vec_Code.cx k) vec_Code.body vec_Code.rs a0
noncomputable def vec_Code.l3 (k : Nat) (n : Nat) (x3 : Ty.D .str) (x6 : Ty.D tVec) (x7 : Ty.D (.int .i64)) : Option (Sg.Out vec_Code.sg) := loopAt (vec_Code.cx k) vec_Code.body [1, 1, 0, 1, 0] 3 [3, 6, 7] [] [] (Sg.K vec_Code.sg (vec_Code.cx k) vec_Code.rs) n ⟨[(3, .dat .str x3), (6, .dat tVec x6), (7, .dat (.int .i64) x7)], []⟩
theorem vec_Code.f_eq (k : Nat) (a0 : Ty.D tVec) : vec_Code.f k a0 = vec_Code.l3 k k [] a0 0 := by kernel_rfl
theorem vec_Code.l3_eq (k : Nat) (n3 : Nat) (x3 : Ty.D .str) (x6 : Ty.D tVec) (x7 : Ty.D (.int .i64)) : vec_Code.l3 k (n3 + 1) x3 x6 x7 = br (ilt x7 16) (br (inB x7 16) (bnd (packI (rd (.int .i64) x6 (natOf x7))) fun r0 => br (roomS x3 r0) (vec_Code.l3 k n3 (app x3 r0) x6 (iadd .i64 x7 1)) none) none) (some x3) := by kernel_rfl
noncomputable def vec_Code.e (k : Nat) : Entry := Sg.entry vec_Code.sg fun x => vec_Code.f k x
theorem vec_Code.ok (k : Nat) : CallOK Tryz.prog 87 (vec_Code.e k) := fn_ok (c := vec_Code.cx k) (code := vec_Code.body) (TT.of tt_ok pp_ok mm_ok) (fns_ok ⟨packint_ok, trivial⟩) mixed Tryz.func87 (by kernel_rfl) (by kernel_rfl) (by kernel_rfl) (by kernel_rfl) (by kernel_rfl) (by kernel_rfl) (fun x => by kernel_rfl)
noncomputable def dots_List.body : Go.Code := Tryz.f44.body.getD .skip
noncomputable def dots_List.rs : List Go.ResultVar := Tryz.f44.results.toList
def dots_List.regs : List (Nat × RInfo) := [(0, ri [0] []), (1, ri [0,3] [8]), (2, ri [3,9,10,11] [8]), (3, ⟨[3, 9, 10, 11, 12], [8], [], [], 0, [3, 9, 10, 11], [8], [], [], []⟩), (4, ri [3,5,9,10,11] [5,8]), (5, ri [3,9,10,11] [8]), (6, ri [3,9,10,11] [8]), (7, ri [2] [8])]
noncomputable def dots_List.cx (k : Nat) : Cx := ⟨tt, pp, [(84, packIntE), (86, (dot_Code.e k))], dots_List.regs, k, mm⟩
@[reducible] def dots_List.sg : Sg := ⟨[.dat (.slc tDot)], [], .dat .str, []⟩
noncomputable def dots_List.f (k : Nat) (a0 : Ty.D (.slc tDot)) : Option (Sg.Out dots_List.sg) := Sg.fn dots_List.sg (dots_List.cx k) dots_List.body dots_List.rs a0
noncomputable def dots_List.l3 (k : Nat) (n : Nat) (x3 : Ty.D .str) (x9 : Ty.D (.slc tDot)) (x10 : Ty.D (.int .i64)) (x11 : Ty.D (.int .i64)) : Option (Sg.Out dots_List.sg) := loopAt (dots_List.cx k) dots_List.body [1, 1, 0, 1, 0] 3 [3, 9, 10, 11] [8] [] (Sg.K dots_List.sg (dots_List.cx k) dots_List.rs) n ⟨[(3, .dat .str x3), (9, .dat (.slc tDot) x9), (10, .dat (.int .i64) x10), (11, .dat (.int .i64) x11)], []⟩
theorem dots_List.f_eq (k : Nat) (a0 : Ty.D (.slc tDot)) : dots_List.f k a0 = bnd (packI (ilen a0)) fun r0 => dots_List.l3 k k r0 a0 (ilen a0) 0 := by kernel_rfl
theorem dots_List.l3_eq (k : Nat) (n3 : Nat) (x3 : Ty.D .str) (x9 : Ty.D (.slc tDot)) (x10 : Ty.D (.int .i64)) (x11 : Ty.D (.int .i64)) : dots_List.l3 k (n3 + 1) x3 x9 x10 x11 = br (ilt x11 x10) (br (inL x11 x9) (bnd (dot_Code.f k (rd tDot x9 (natOf x11))) fun r0 => br (roomS x3 r0) (dots_List.l3 k n3 (app x3 r0) x9 x10 (iadd .i64 x11 1)) none) none) (some x3) := by kernel_rfl
noncomputable def dots_List.e (k : Nat) : Entry := Sg.entry dots_List.sg fun x => dots_List.f k x
theorem dots_List.ok (k : Nat) : CallOK Tryz.prog 44 (dots_List.e k) := fn_ok (c := dots_List.cx k) (code := dots_List.body) (TT.of tt_ok pp_ok mm_ok) (fns_ok ⟨packint_ok, (dot_Code.ok k), trivial⟩) mixed Tryz.func44 (by kernel_rfl) (by kernel_rfl) (by kernel_rfl) (by kernel_rfl) (by kernel_rfl) (by kernel_rfl) (fun x => by kernel_rfl)
noncomputable def dots_Code.body : Go.Code := Tryz.f43.body.getD .skip
noncomputable def dots_Code.rs : List Go.ResultVar := Tryz.f43.results.toList
def dots_Code.regs : List (Nat × RInfo) := [(0, ⟨[1], [1], [0], [], 0, [], [], [], [], []⟩), (1, rq [2] [] 7)]
noncomputable def dots_Code.cx (k : Nat) : Cx := ⟨tt, pp, [(87, (vec_Code.e k)), (44, (dots_List.e k))], dots_Code.regs, k, mm⟩
@[reducible] def dots_Code.sg : Sg := ⟨[.dat tDots], [], .dat .str, []⟩
noncomputable def dots_Code.f (k : Nat) (a0 : Ty.D tDots) : Option (Sg.Out dots_Code.sg) := Sg.fn dots_Code.sg (dots_Code.cx k) dots_Code.body dots_Code.rs a0
theorem dots_Code.f_eq (k : Nat) (a0 : Ty.D tDots) : dots_Code.f k a0 = bnd (vec_Code.f k a0.1) fun r0 => bnd (dots_List.f k a0.2) fun r1 => br (roomS r0 r1) (some (app r0 r1)) none := by kernel_rfl
noncomputable def dots_Code.e (k : Nat) : Entry := Sg.entry dots_Code.sg fun x => dots_Code.f k x
theorem dots_Code.ok (k : Nat) : CallOK Tryz.prog 43 (dots_Code.e k) := fn_ok (c := dots_Code.cx k) (code := dots_Code.body) (TT.of tt_ok pp_ok mm_ok) (fns_ok ⟨(vec_Code.ok k), (dots_List.ok k), trivial⟩) mixed Tryz.func43 (by kernel_rfl) (by kernel_rfl) (by kernel_rfl) (by kernel_rfl) (by kernel_rfl) (by kernel_rfl) (fun x => by kernel_rfl)
noncomputable def state_Code.body : Go.Code := Tryz.f14.body.getD .skip
noncomputable def state_Code.rs : List Go.ResultVar := Tryz.f14.results.toList
def state_Code.regs : List (Nat × RInfo) := [(0, ⟨[1], [1], [0], [], 0, [], [], [], [], []⟩), (1, rq [1,3] [1] 11), (2, ri [3,18,19] []), (3, ⟨[3, 18, 19, 20], [], [], [], 0, [3, 18, 19], [], [], [], []⟩), (4, ⟨[3, 5, 18, 19], [], [1], [], 0, [], [], [], [], []⟩), (5, ri [3,18,19] []), (6, ri [3,18,19] []), (7, ri [2] [])]
noncomputable def state_Code.cx (k : Nat) : Cx := ⟨tt, pp, [(41, (txn_List.e k)), (42, (tally_Code.e k)), (43, (dots_Code.e k)), (44, (dots_List.e k))], state_Code.regs, k, mm⟩
@[reducible] def state_Code.sg : Sg := ⟨[.dat tState], [], .dat .str, []⟩
noncomputable def state_Code.f (k : Nat) (a0 : Ty.D tState) : Option (Sg.Out state_Code.sg) := Sg.fn state_Code.sg (state_Code.cx k) state_Code.body state_Code.rs a0
noncomputable def state_Code.l3 (k : Nat) (n : Nat) (x3 : Ty.D .str) (x18 : Ty.D (.arr 8 (.slc tDot))) (x19 : Ty.D (.int .i64)) : Option (Sg.Out state_Code.sg) := loopAt (state_Code.cx k) state_Code.body [1, 1, 0, 1, 0] 3 [3, 18, 19] [] [] (Sg.K state_Code.sg (state_Code.cx k) state_Code.rs) n ⟨[(3, .dat .str x3), (18, .dat (.arr 8 (.slc tDot)) x18), (19, .dat (.int .i64) x19)], []⟩
theorem state_Code.f_eq (k : Nat) (a0 : Ty.D tState) : state_Code.f k a0 = bnd (txn_List.f k a0.1) fun r0 => bnd (tally_Code.f k a0.2.1) fun r1 => br (roomS r0 r1) (bnd (dots_Code.f k a0.2.2.2.1) fun r2 => br (roomS (app r0 r1) r2) (state_Code.l3 k k (app (app r0 r1) r2) a0.2.2.2.2 0) none) none := by kernel_rfl
theorem state_Code.l3_eq (k : Nat) (n3 : Nat) (x3 : Ty.D .str) (x18 : Ty.D (.arr 8 (.slc tDot))) (x19 : Ty.D (.int .i64)) : state_Code.l3 k (n3 + 1) x3 x18 x19 = br (ilt x19 8) (br (inB x19 8) (bnd (dots_List.f k (rd (.slc tDot) x18 (natOf x19))) fun r0 => br (roomS x3 r0) (state_Code.l3 k n3 (app x3 r0) x18 (iadd .i64 x19 1)) none) none) (some x3) := by kernel_rfl
noncomputable def state_Code.e (k : Nat) : Entry := Sg.entry state_Code.sg fun x => state_Code.f k x
theorem state_Code.ok (k : Nat) : CallOK Tryz.prog 14 (state_Code.e k) := fn_ok (c := state_Code.cx k) (code := state_Code.body) (TT.of tt_ok pp_ok mm_ok) (fns_ok ⟨(txn_List.ok k), (tally_Code.ok k), (dots_Code.ok k), (dots_List.ok k), trivial⟩) mixed Tryz.func14 (by kernel_rfl) (by kernel_rfl) (by kernel_rfl) (by kernel_rfl) (by kernel_rfl) (by kernel_rfl) (fun x => by kernel_rfl)
noncomputable def pack_Reader_End.body : Go.Code := Tryz.f15.body.getD .skip
noncomputable def pack_Reader_End.rs : List Go.ResultVar := Tryz.f15.results.toList
def pack_Reader_End.regs : List (Nat × RInfo) := [(0, ri [0] [1000000]), (1, ri [0,5] [1000000]), (2, ri [0] [1000000]), (3, ri [2] [9,1000000])]
noncomputable def pack_Reader_End.cx (k : Nat) : Cx := ⟨tt, pp, [(10, (pack_Reader_Left.e k)), (27, (pack_Reader_Fail.e k)), (9, (pack_Reader_Fault.e k))], pack_Reader_End.regs, k, mm⟩
@[reducible] def pack_Reader_End.sg : Sg := ⟨[.ref], [tpackReader], .dat (.int .i64), [tpackReader]⟩
noncomputable def pack_Reader_End.f (k : Nat) (o0 : Ty.D tpackReader) : Option (Sg.Out pack_Reader_End.sg) := Sg.fn pack_Reader_End.sg (pack_Reader_End.cx k) pack_Reader_End.body pack_Reader_End.rs o0
theorem pack_Reader_End.f_eq (k : Nat) (o0 : Ty.D tpackReader) : pack_Reader_End.f k o0 = bnd (pack_Reader_Left.f k o0) fun r0 => br (ilt 0 r0.1) (bnd (pack_Reader_Fail.f k 3 r0.2) fun r1 => bnd (pack_Reader_Fault.f k r1.2) fun r2 => some (r2.1, r2.2)) (bnd (pack_Reader_Fault.f k r0.2) fun r3 => some (r3.1, r3.2)) := by kernel_rfl
noncomputable def pack_Reader_End.e (k : Nat) : Entry := Sg.entry pack_Reader_End.sg fun x => pack_Reader_End.f k x
theorem pack_Reader_End.ok (k : Nat) : CallOK Tryz.prog 15 (pack_Reader_End.e k) := fn_ok (c := pack_Reader_End.cx k) (code := pack_Reader_End.body) (TT.of tt_ok pp_ok mm_ok) (fns_ok ⟨(pack_Reader_Left.ok k), (pack_Reader_Fail.ok k), (pack_Reader_Fault.ok k), trivial⟩) mixed Tryz.func15 (by kernel_rfl) (by kernel_rfl) (by kernel_rfl) (by kernel_rfl) (by kernel_rfl) (by kernel_rfl) (fun x => by kernel_rfl)
noncomputable def law22_StateBack.body : Go.Code := Tryz.f4.body.getD .skip
noncomputable def law22_StateBack.rs : List Go.ResultVar := Tryz.f4.results.toList
def law22_StateBack.regs : List (Nat × RInfo) := [(0, ⟨[1], [1], [0], [], 0, [], [], [], [], []⟩), (1, ri [1,6] [1]), (2, ri [2] [7,14,21]), (3, ri [1,3] [1,10]), (4, ⟨[2], [7, 14, 21], [], [], 12, [], [], [], [[], [], [], [1, 2], [1, 2], [1, 2], [1, 2], [6, 1, 2], [1, 2, 6], [1, 2, 6], [1, 2, 6], [1, 2, 6], [1, 2, 6]], []⟩)]
noncomputable def law22_StateBack.cx (k : Nat) : Cx := ⟨tt, pp, [(13, (ref22_Good.e k)), (12, (law22_awake.e k)), (14, (state_Code.e k)), (5, (pack_Open.e k)), (7, (state_Read.e k)), (6, (ref22_Same.e k)), (15, (pack_Reader_End.e k))], law22_StateBack.regs, k, mm⟩
@[reducible] def law22_StateBack.sg : Sg := ⟨[.dat tState], [], .dat .bool, []⟩
noncomputable def law22_StateBack.f (k : Nat) (a0 : Ty.D tState) : Option (Sg.Out law22_StateBack.sg) := Sg.fn law22_StateBack.sg (law22_StateBack.cx k) law22_StateBack.body law22_StateBack.rs a0
theorem law22_StateBack.f_eq (k : Nat) (a0 : Ty.D tState) : law22_StateBack.f k a0 = bnd (ref22_Good.f k a0) fun r0 => br (bnot r0) (bnd (law22_awake.f k) fun r1 => some r1) (bnd (state_Code.f k a0) fun r2 => bnd (pack_Open.f k r2) fun r3 => bnd (state_Read.f k r3.2) fun r4 => bnd (ref22_Same.f k r4.1 a0) fun r5 => br r5 (bnd (pack_Reader_End.f k r4.2) fun r6 => br (ieq r6.1 0) (bnd (law22_awake.f k) fun r7 => some r7) (some false)) (some false)) := by kernel_rfl
noncomputable def law22_StateBack.e (k : Nat) : Entry := Sg.entry law22_StateBack.sg fun x => law22_StateBack.f k x
theorem law22_StateBack.ok (k : Nat) : CallOK Tryz.prog 4 (law22_StateBack.e k) := fn_ok (c := law22_StateBack.cx k) (code := law22_StateBack.body) (TT.of tt_ok pp_ok mm_ok) (fns_ok ⟨(ref22_Good.ok k), (law22_awake.ok k), (state_Code.ok k), (pack_Open.ok k), (state_Read.ok k), (ref22_Same.ok k), (pack_Reader_End.ok k), trivial⟩) mixed Tryz.func4 (by kernel_rfl) (by kernel_rfl) (by kernel_rfl) (by kernel_rfl) (by kernel_rfl) (by kernel_rfl) (fun x => by kernel_rfl)
end Go.Proofs.YtbiihldcljemfaaGreatDoor
end
section
/- Sets of dots: one way to stand. -/
namespace Go.Proofs.YtbiihldcljemfaaGreatDoor
open Pal
abbrev Vec := List Int
abbrev DSet := Vec × List Dot
def vat (v : Vec) (r : Int) : Int := rd (.int .i64) v (natOf r)
theorem rightD_iff (d : Dot) : rightD d = true ↔ 0 ≤ d.1 ∧ d.1 < 16 ∧ 1 ≤ d.2 ∧ d.2 ≤ 1048576 := by unfold rightD; rw [decide_eq_true_iff]
theorem vat_get {v : Vec} {i : Nat} (h : i < v.length) : vat v (i : Int) = v[i] := by unfold vat; rw [natOf_nat]; exact rd_at' (e := .int .i64) h
theorem vat_upd {v : Vec} {r : Int} {x : Int} (h0 : 0 ≤ r) (h1 : r < v.length) (q : Int) (hq : 0 ≤ q) : vat (upd v (natOf r) x) q = if q = r then x else vat v q := by
  obtain ⟨a, rfl⟩ := Int.eq_ofNat_of_zero_le h0
  obtain ⟨b, rfl⟩ := Int.eq_ofNat_of_zero_le hq
  have ha : a < v.length := by omega
  show ((v.set a x).getD b (0 : Int)) = if ((b : Int) = (a : Int)) then x else v.getD b (0 : Int)
  rw [List.getD_eq_getElem?_getD, List.getD_eq_getElem?_getD, List.getElem?_set]
  by_cases h : a = b
  · subst h; rw [if_pos rfl, if_pos ha, if_pos rfl]; rfl
  · rw [if_neg h, if_neg (by omega)]
structure VOk (v : Vec) : Prop where
  len : v.length = 16
  lo : ∀ r, 0 ≤ r → r < 16 → 0 ≤ vat v r
  hi : ∀ r, 0 ≤ r → r < 16 → vat v r ≤ 1048576
structure Can (s : DSet) : Prop where
  vok : VOk s.1
  rt : ∀ d ∈ s.2, rightD d = true
  gap : ∀ d ∈ s.2, vat s.1 d.1 + 1 < d.2
  srt : s.2.Pairwise (fun a b => dotLt a b = true)
def Mem (s : DSet) (d : Dot) : Prop := rightD d = true ∧ (d.2 ≤ vat s.1 d.1 ∨ d ∈ s.2)
theorem vec_ext {v u : Vec} (h1 : v.length = 16) (h2 : u.length = 16) (h : ∀ r, 0 ≤ r → r < 16 → vat v r = vat u r) : v = u := by
  apply List.ext_getElem (by omega)
  intro i a b
  have := h (i : Int) (by omega) (by omega)
  rwa [vat_get a, vat_get b] at this
theorem dotLt_asym {a b : Dot} (h : dotLt a b = true) : dotLt b a = false := by
  rw [← Bool.not_eq_true, dotLt_iff]; rw [dotLt_iff] at h; omega
theorem srt_nodup {l : List Dot} (h : l.Pairwise (fun a b => dotLt a b = true)) : l.Nodup :=
  h.imp fun {a b} hab e => by subst e; rw [dotLt_swo.irrefl] at hab; cases hab
theorem srt_unique {l m : List Dot} (h1 : l.Pairwise (fun a b => dotLt a b = true)) (h2 : m.Pairwise (fun a b => dotLt a b = true)) (h : ∀ d, d ∈ l ↔ d ∈ m) : l = m :=
  sorted_unique dotLt_tot ((List.perm_ext_iff_of_nodup (srt_nodup h1) (srt_nodup h2)).2 h) (h1.imp dotLt_asym) (h2.imp dotLt_asym)
theorem can_le {s t : DSet} (hs : Can s) (ht : Can t) (h : ∀ d, Mem s d → Mem t d) (r : Int) (h0 : 0 ≤ r) (h1 : r < 16) : vat s.1 r ≤ vat t.1 r := by
  rcases (by omega : vat t.1 r < vat s.1 r ∨ vat s.1 r ≤ vat t.1 r) with hlt | hge
  · exfalso
    have a := ht.vok.lo r h0 h1
    have b := hs.vok.hi r h0 h1
    have hr : rightD (r, vat t.1 r + 1) = true := (rightD_iff _).2 ⟨h0, h1, by show 1 ≤ vat t.1 r + 1; omega, by show vat t.1 r + 1 ≤ 1048576; omega⟩
    have hm := h (r, vat t.1 r + 1) ⟨hr, .inl (by show vat t.1 r + 1 ≤ vat s.1 r; omega)⟩
    rcases hm.2 with c | c
    · have : vat t.1 r + 1 ≤ vat t.1 r := c; omega
    · have : vat t.1 r + 1 < vat t.1 r + 1 := ht.gap _ c; omega
  · exact hge
theorem can_unique {s t : DSet} (hs : Can s) (ht : Can t) (h : ∀ d, Mem s d ↔ Mem t d) : s = t := by
  have hv : ∀ r, 0 ≤ r → r < 16 → vat s.1 r = vat t.1 r := fun r h0 h1 => Int.le_antisymm (can_le hs ht (fun d => (h d).1) r h0 h1) (can_le ht hs (fun d => (h d).2) r h0 h1)
  apply Prod.ext
  · exact vec_ext hs.vok.len ht.vok.len hv
  · refine srt_unique hs.srt ht.srt fun d => ⟨fun hd => ?_, fun hd => ?_⟩
    · have hr := hs.rt d hd
      obtain ⟨a, b, _, _⟩ := (rightD_iff d).1 hr
      rcases ((h d).1 ⟨hr, .inr hd⟩).2 with c | c
      · have := hs.gap d hd; rw [hv d.1 a b] at this; omega
      · exact c
    · have hr := ht.rt d hd
      obtain ⟨a, b, _, _⟩ := (rightD_iff d).1 hr
      rcases ((h d).2 ⟨hr, .inr hd⟩).2 with c | c
      · have := ht.gap d hd; rw [← hv d.1 a b] at this; omega
      · exact c
def put1 (s : DSet) (d : Dot) : DSet :=
  if d.2 ≤ vat s.1 d.1 then s else if d.2 = vat s.1 d.1 + 1 then (upd s.1 (natOf d.1) d.2, s.2) else if s.2.getLast? = some d then s else (s.1, s.2 ++ [d])
theorem put1_can {s : DSet} {d : Dot} (hs : Can s) (hd : rightD d = true) (hb : ∀ e ∈ s.2, dotLt d e = false) : Can (put1 s d) ∧ (∀ x, Mem (put1 s d) x ↔ Mem s x ∨ x = d) ∧ (∀ e ∈ (put1 s d).2, e ∈ s.2 ∨ e = d) := by
  obtain ⟨a, b, c1, c2⟩ := (rightD_iff d).1 hd
  have hlen := hs.vok.len
  unfold put1
  by_cases h1 : d.2 ≤ vat s.1 d.1
  · rw [if_pos h1]
    exact ⟨hs, fun x => ⟨.inl, fun h => h.elim id fun e => by subst e; exact ⟨hd, .inl h1⟩⟩, fun e he => .inl he⟩
  · rw [if_neg h1]
    by_cases h2 : d.2 = vat s.1 d.1 + 1
    · rw [if_pos h2]
      have hne : ∀ e ∈ s.2, e.1 ≠ d.1 := fun e he hee => by
        have g := hs.gap e he
        have := hb e he
        rw [← Bool.not_eq_true, dotLt_iff] at this
        rw [hee] at g
        omega
      have hv : ∀ q, 0 ≤ q → q < 16 → vat (upd s.1 (natOf d.1) d.2) q = if q = d.1 then d.2 else vat s.1 q := fun q h0 _ => vat_upd a (by omega) q h0
      refine ⟨⟨⟨by simp [upd, hlen], fun r h0 h1 => ?_, fun r h0 h1 => ?_⟩, hs.rt, fun e he => ?_, hs.srt⟩, fun x => ⟨fun ⟨hr, h⟩ => ?_, fun h => ?_⟩, fun e he => .inl he⟩
      · rw [hv r h0 h1]; split
        · omega
        · exact hs.vok.lo r h0 h1
      · rw [hv r h0 h1]; split
        · omega
        · exact hs.vok.hi r h0 h1
      · obtain ⟨q0, q1, _, _⟩ := (rightD_iff e).1 (hs.rt e he)
        show vat (upd s.1 (natOf d.1) d.2) e.1 + 1 < e.2
        rw [hv e.1 q0 q1, if_neg (hne e he)]; exact hs.gap e he
      · obtain ⟨q0, q1, _, _⟩ := (rightD_iff x).1 hr
        rcases h with h | h
        · have h : x.2 ≤ vat (upd s.1 (natOf d.1) d.2) x.1 := h
          rw [hv x.1 q0 q1] at h
          split at h
          · rename_i hx
            by_cases he : x.2 = d.2
            · exact .inr (Prod.ext hx he)
            · exact .inl ⟨hr, .inl (by rw [hx]; omega)⟩
          · exact .inl ⟨hr, .inl h⟩
        · exact .inl ⟨hr, .inr h⟩
      · rcases h with ⟨hr, h⟩ | rfl
        · obtain ⟨q0, q1, _, _⟩ := (rightD_iff x).1 hr
          rcases h with h | h
          · refine ⟨hr, .inl ?_⟩
            show x.2 ≤ vat (upd s.1 (natOf d.1) d.2) x.1
            rw [hv x.1 q0 q1]; split
            · rename_i hx; rw [hx] at h; omega
            · exact h
          · exact ⟨hr, .inr h⟩
        · refine ⟨hd, .inl ?_⟩
          show x.2 ≤ vat (upd s.1 (natOf x.1) x.2) x.1
          rw [hv x.1 a b, if_pos rfl]; exact Int.le_refl _
    · rw [if_neg h2]
      by_cases h3 : s.2.getLast? = some d
      · rw [if_pos h3]
        have hmem : d ∈ s.2 := List.mem_of_getLast? h3
        exact ⟨hs, fun x => ⟨.inl, fun h => h.elim id fun e => by subst e; exact ⟨hd, .inr hmem⟩⟩, fun e he => .inl he⟩
      · rw [if_neg h3]
        have hlt : ∀ e ∈ s.2, dotLt e d = true := by
          intro e he
          cases hh : dotLt e d with
          | true => rfl
          | false =>
            exfalso
            have heq := dotLt_tot e d hh (hb e he)
            subst heq
            obtain ⟨p, q, hpq⟩ := List.append_of_mem he
            cases q with
            | nil => rw [hpq] at h3; simp at h3
            | cons z zs =>
              have hsr := hs.srt
              rw [hpq] at hsr
              have h5 := (List.pairwise_append.1 hsr).2.1
              have h6 := (List.pairwise_cons.1 h5).1 z (by simp)
              have h7 := hb z (by rw [hpq]; simp)
              rw [h6] at h7; cases h7
        refine ⟨⟨hs.vok, fun e he => ?_, fun e he => ?_, ?_⟩, fun x => ⟨fun ⟨hr, h⟩ => ?_, fun h => ?_⟩, fun e he => ?_⟩
        · rcases List.mem_append.1 he with he | he
          · exact hs.rt e he
          · rw [List.mem_singleton.1 he]; exact hd
        · rcases List.mem_append.1 he with he | he
          · exact hs.gap e he
          · rw [List.mem_singleton.1 he]; show vat s.1 d.1 + 1 < d.2; omega
        · exact List.pairwise_append.2 ⟨hs.srt, List.pairwise_singleton _ _, fun e he f hf => by rw [List.mem_singleton.1 hf]; exact hlt e he⟩
        · rcases h with h | h
          · exact .inl ⟨hr, .inl h⟩
          · rcases List.mem_append.1 h with h | h
            · exact .inl ⟨hr, .inr h⟩
            · exact .inr (List.mem_singleton.1 h)
        · rcases h with ⟨hr, h⟩ | rfl
          · exact ⟨hr, h.imp id fun h => List.mem_append.2 (.inl h)⟩
          · exact ⟨hd, .inr (List.mem_append.2 (.inr (by simp)))⟩
        · rcases List.mem_append.1 he with he | he
          · exact .inl he
          · exact .inr (List.mem_singleton.1 he)
def mk (v : Vec) (l : List Dot) : DSet := l.foldl put1 (v, [])
theorem mk_can {v : Vec} (hv : VOk v) : ∀ (l : List Dot), (∀ d ∈ l, rightD d = true) → l.Pairwise (fun a b => dotLt b a = false) →
    Can (mk v l) ∧ (∀ x, Mem (mk v l) x ↔ rightD x = true ∧ (x.2 ≤ vat v x.1 ∨ x ∈ l)) ∧ (mk v l).2.length ≤ l.length ∧ ∀ e ∈ (mk v l).2, e ∈ l := by
  have key : ∀ (l p : List Dot) (s : DSet), (∀ d ∈ p ++ l, rightD d = true) → (p ++ l).Pairwise (fun a b => dotLt b a = false) → Can s → (∀ x, Mem s x ↔ rightD x = true ∧ (x.2 ≤ vat v x.1 ∨ x ∈ p)) → s.2.length ≤ p.length → (∀ e ∈ s.2, e ∈ p) →
      Can (l.foldl put1 s) ∧ (∀ x, Mem (l.foldl put1 s) x ↔ rightD x = true ∧ (x.2 ≤ vat v x.1 ∨ x ∈ p ++ l)) ∧ (l.foldl put1 s).2.length ≤ (p ++ l).length ∧ ∀ e ∈ (l.foldl put1 s).2, e ∈ p ++ l := by
    intro l
    induction l with
    | nil => intro p s _ _ hc hm hl he; rw [List.append_nil]; exact ⟨hc, hm, hl, he⟩
    | cons d l ih =>
      intro p s hr hp hc hm hl he
      have hd : rightD d = true := hr d (by simp)
      have hbb : ∀ e ∈ s.2, dotLt d e = false := fun e hee => (List.pairwise_append.1 hp).2.2 e (he e hee) d (by simp)
      obtain ⟨c1, c2, c3⟩ := put1_can hc hd hbb
      have := ih (p ++ [d]) (put1 s d) (by simpa using hr) (by simpa using hp) c1 (fun x => by
          rw [c2, hm]
          constructor
          · rintro (⟨h1, h2⟩ | rfl)
            · exact ⟨h1, h2.imp id fun h => List.mem_append.2 (.inl h)⟩
            · exact ⟨hd, .inr (by simp)⟩
          · rintro ⟨h1, h2 | h2⟩
            · exact .inl ⟨h1, .inl h2⟩
            · rcases List.mem_append.1 h2 with h3 | h3
              · exact .inl ⟨h1, .inr h3⟩
              · exact .inr (List.mem_singleton.1 h3)) (by
          unfold put1; simp only [List.length_append, List.length_singleton]
          split
          · omega
          · split
            · show s.2.length ≤ _; omega
            · split
              · omega
              · simp; omega) (fun e hee => by
          rcases c3 e hee with h | h
          · exact List.mem_append.2 (.inl (he e h))
          · exact List.mem_append.2 (.inr (by simp [h])))
      rw [List.append_assoc] at this; exact this
  intro l hr hs
  have h0 : Can (v, []) := ⟨hv, fun d hd => by simp at hd, fun d hd => by simp at hd, List.Pairwise.nil⟩
  have := key l [] (v, []) (by simpa using hr) (by simpa using hs) h0 (fun x => by simp [Mem]) (Nat.le_refl _) (fun e he => he)
  exact this
end Go.Proofs.YtbiihldcljemfaaGreatDoor
end
section
/- What the functions of the layer of dots compute. -/
namespace Go.Proofs.YtbiihldcljemfaaGreatDoor
open Pal
theorem iadd_s {a b : Int} (h1 : -1000000000000 ≤ a) (h2 : a ≤ 1000000000000) (h3 : -1000000000000 ≤ b) (h4 : b ≤ 1000000000000) : iadd .i64 a b = a + b := by
  have e1 : ((2 : Int) ^ 63) = 9223372036854775808 := by decide
  show IntKind.wrap .i64 (a + b) = _
  rw [wrap_i64 (by rw [e1]; omega) (by rw [e1]; omega)]
theorem isub_s {a b : Int} (h1 : -1000000000000 ≤ a) (h2 : a ≤ 1000000000000) (h3 : -1000000000000 ≤ b) (h4 : b ≤ 1000000000000) : isub .i64 a b = a - b := by
  have e1 : ((2 : Int) ^ 63) = 9223372036854775808 := by decide
  show IntKind.wrap .i64 (a - b) = _
  rw [wrap_i64 (by rw [e1]; omega) (by rw [e1]; omega)]
theorem inB16 {r : Int} (h0 : 0 ≤ r) (h1 : r < 16) : inB r 16 = true := by simp [inB, h0]; omega
theorem room1 {α : Type} {xs : List α} {x : α} (h : xs.length < 4000000) : room xs (x :: []) = true := by simp [room]; omega
theorem ile_dec (a b : Int) : ile a b = decide (a ≤ b) := rfl
theorem ilt_dec (a b : Int) : ilt a b = decide (a < b) := rfl
theorem deqD (a b : Dot) : deq tDot a b = decide (a = b) := deq_dec (τ := tDot) rfl a b
theorem last_rd {M : List Dot} {m : Nat} (hl : M.length = m + 1) (hb : m < 4000000) : rd tDot M (natOf (isub .i64 (ilen M) 1)) = M[m] := by
  rw [isub_s (by unfold ilen; omega) (by unfold ilen; omega) (by omega) (by omega), show ilen M - 1 = (m : Int) by unfold ilen; omega, natOf_nat]
  exact rd_at' (e := tDot) (by omega)
theorem last_in {M : List Dot} {m : Nat} (hl : M.length = m + 1) (hb : m < 4000000) : inL (isub .i64 (ilen M) 1) M = true := by
  rw [isub_s (by unfold ilen; omega) (by unfold ilen; omega) (by omega) (by omega), show ilen M - 1 = (m : Int) by unfold ilen; omega, inL_nat]
  simp; omega
theorem getLast_is {M : List Dot} {m : Nat} (hl : M.length = m + 1) : M.getLast? = some M[m] := by
  rw [List.getLast?_eq_getElem?]; exact List.getElem?_eq_some_iff.2 ⟨by omega, by simp [hl]⟩
theorem take_next {l : List Dot} {i : Nat} (hi : i < l.length) : l.take (i + 1) = l.take i ++ [l[i]] := by rw [List.take_add_one, List.getElem?_eq_getElem hi]; rfl
theorem made_l (k : Nat) (l : List Dot) (hl : l.length < 1000000) (hr : ∀ d ∈ l, rightD d = true) (hs : l.Pairwise (fun a b => dotLt b a = false)) (v : Vec) (hv : VOk v) (za : Vec) (zb : List Dot) : ∀ (n i : Nat), i ≤ l.length → l.length < n + i →
    dots_made.l3 k n l (ilen l) (i : Int) za zb (mk v (l.take i)).1 (mk v (l.take i)).2 = some (mk v l)
  | 0, i, h, h' => by omega
  | n + 1, i, h, h' => by
    rw [dots_made.l3_eq, ilt_nat, inL_nat, natOf_nat]
    by_cases hi : i < l.length
    · have hstep : mk v (l.take (i + 1)) = put1 (mk v (l.take i)) l[i] := by rw [take_next hi]; unfold mk; rw [List.foldl_append]; rfl
      obtain ⟨hc, hm, hml, _⟩ := mk_can hv (l.take i) (fun d hd => hr d (List.mem_of_mem_take hd)) (hs.sublist (List.take_sublist i l))
      have ih := made_l k l hl hr hs v hv za zb n (i + 1) (by omega) (by omega)
      rw [hstep] at ih
      have hmk : mk v (l.take i) = mk v (l.take i) := rfl
      generalize mk v (l.take i) = s at hc hm hml ih hstep ⊢
      obtain ⟨V, M⟩ := s
      obtain ⟨r0, r1, r2, r3⟩ := (rightD_iff l[i]).1 (hr _ (List.getElem_mem hi))
      rw [rd_at' (e := tDot) hi, iadd_nat (by omega)]
      obtain ⟨d, hd⟩ : ∃ d : Dot, d = l[i] := ⟨_, rfl⟩
      rw [← hd] at r0 r1 r2 r3 ih ⊢
      have hvv : rd (.int .i64) V (natOf d.1) = vat V d.1 := rfl
      have v0 := hc.vok.lo d.1 r0 r1
      have v1 := hc.vok.hi d.1 r0 r1
      have v0' : 0 ≤ vat V d.1 := v0
      have v1' : vat V d.1 ≤ 1048576 := v1
      have hML : M.length ≤ i := by have : M.length ≤ (l.take i).length := hml; rw [List.length_take] at this; omega
      simp only [hi, decide_true, br_true, inB16 r0 r1, hvv, ile_dec]
      rw [iadd_s (by omega) (by omega) (by omega) (by omega), ieq_dec, ieq_dec]
      unfold put1 at ih
      by_cases h1 : d.2 ≤ vat V d.1
      · simp only [h1, decide_true, br_true, if_true] at ih ⊢; exact ih
      · by_cases h2 : d.2 = vat V d.1 + 1
        · rw [if_neg h1, if_pos h2] at ih
          rw [decide_eq_false h1, decide_eq_true h2]; exact ih
        · simp only [h1, h2, decide_false, br_false, if_false] at ih ⊢
          rw [room1 (by omega)]
          cases hM : M.length with
          | zero =>
            have hM0 : M = [] := List.eq_nil_of_length_eq_zero hM
            subst hM0
            simp only [List.getLast?_nil, reduceCtorEq, if_false] at ih
            have : decide (ilen ([] : List Dot) = 0) = true := rfl
            rw [this]; simp only [br_true]; exact ih
          | succ m =>
            have h4 : ¬ (ilen M = 0) := by unfold ilen; omega
            rw [last_in hM (by omega), last_rd hM (by omega), deqD, bnot_dec]
            simp only [h4, decide_false, br_true, br_false]
            rw [getLast_is hM] at ih
            by_cases h5 : M[m] = d
            · simp only [h5, if_true, decide_true, decide_false, not_true, br_false] at ih ⊢; exact ih
            · have h6 : ¬ (some M[m] = some d) := fun e => h5 (Option.some.inj e)
              simp only [h5, h6, if_false, not_false_eq_true, decide_true, br_true] at ih ⊢; exact ih
    · have : i = l.length := by omega
      subst this
      simp only [List.take_length, Nat.lt_irrefl, decide_false, br_false]
theorem made_is (k : Nat) (l : List Dot) (hl : l.length < k) (hk : k < 1000000) (hr : ∀ d ∈ l, rightD d = true) (hs : l.Pairwise (fun a b => dotLt b a = false)) (v : Vec) (hv : VOk v) : dots_made.f k v l = some (mk v l) := by
  rw [dots_made.f_eq]
  exact made_l k l (by omega) hr hs v hv (zarr 16 0) [] k 0 (by omega) (by omega)
theorem vok0 : VOk (zarr 16 0) := ⟨rfl, fun r h0 h1 => by
    obtain ⟨a, rfl⟩ := Int.eq_ofNat_of_zero_le h0
    have : a < 16 := by omega
    have e : vat (zarr 16 0) (a : Int) = 0 := by rw [vat_get (by show a < 16; omega)]; exact List.getElem_replicate ..
    rw [e]; exact Int.le_refl _, fun r h0 h1 => by
    obtain ⟨a, rfl⟩ := Int.eq_ofNat_of_zero_le h0
    have e : vat (zarr 16 0) (a : Int) = 0 := by rw [vat_get (by show a < 16; omega)]; exact List.getElem_replicate ..
    rw [e]; decide⟩
theorem vat0 (r : Int) (h0 : 0 ≤ r) (h1 : r < 16) : vat (zarr 16 0) r = 0 := by
  obtain ⟨a, rfl⟩ := Int.eq_ofNat_of_zero_le h0
  rw [vat_get (by show a < 16; omega)]; exact List.getElem_replicate ..
def ofD (l : List Dot) : DSet := mk (zarr 16 0) (isort dotLt (kept rightD l))
theorem kept_mem {l : List Dot} {d : Dot} : d ∈ isort dotLt (kept rightD l) ↔ d ∈ l ∧ rightD d = true := by
  rw [(isort_perm dotLt _).mem_iff]; unfold kept; rw [List.mem_filter]
theorem ofD_can (l : List Dot) : Can (ofD l) ∧ (∀ x, Mem (ofD l) x ↔ rightD x = true ∧ x ∈ l) ∧ (ofD l).2.length ≤ l.length := by
  obtain ⟨h1, h2, h3, _⟩ := mk_can vok0 (isort dotLt (kept rightD l)) (fun d hd => (kept_mem.1 hd).2) (isort_sorted dotLt_swo _)
  refine ⟨h1, fun x => ?_, ?_⟩
  · rw [show Mem (ofD l) x ↔ _ from h2 x, kept_mem]
    constructor
    · rintro ⟨a, b | b⟩
      · obtain ⟨q0, q1, q2, _⟩ := (rightD_iff x).1 a
        rw [vat0 x.1 q0 q1] at b; omega
      · exact ⟨a, b.1⟩
    · rintro ⟨a, b⟩; exact ⟨a, .inr ⟨b, a⟩⟩
  · refine Nat.le_trans h3 ?_
    rw [(isort_perm dotLt _).length_eq]; exact List.length_filter_le _ _
theorem of_is (k : Nat) (l : List Dot) (hl : l.length < k) (hk : k < 1000000) : dots_Of.f k l = some (ofD l) := by
  have h1 : room ([] : List Int) l = true := by simp [room]; omega
  have h2 : (kept rightD l).length ≤ l.length := List.length_filter_le _ _
  have h3 : room ([] : List Int) (kept dotKeep l) = true := by simp [room]; have : (kept dotKeep l).length ≤ l.length := h2; omega
  rw [dots_Of.f_eq, h1, h3]
  simp only [br_true]
  rw [made_is k _ (by rw [(isort_perm dotLt _).length_eq]; exact Nat.lt_of_le_of_lt h2 hl) hk (fun d hd => (kept_mem.1 hd).2) (isort_sorted dotLt_swo _) _ vok0]
  rfl
theorem rright_is (k : Nat) (d : Dot) : ref04_Right.f k d = some (rightD d) := by
  rw [ref04_Right.f_eq]
  have : ile d.1 15 = ilt d.1 16 := by unfold ile ilt; congr 1; exact propext ⟨fun h => by omega, fun h => by omega⟩
  rw [this]
  have := right_is k d
  rw [dot_Right.f_eq] at this
  exact this
def memB (s : DSet) (d : Dot) : Bool := rightD d && (decide (d.2 ≤ vat s.1 d.1) || decide (d ∈ s.2))
theorem memB_iff (s : DSet) (d : Dot) : memB s d = true ↔ Mem s d := by simp [memB, Mem]
theorem rvhas_is (k : Nat) (v : Vec) (d : Dot) : ref05_Has.f k v d = some (rightD d && decide (d.2 ≤ vat v d.1)) := by
  rw [ref05_Has.f_eq, rright_is]
  simp only [bnd]
  cases h : rightD d with
  | false => rfl
  | true =>
    obtain ⟨a, b, _, _⟩ := (rightD_iff d).1 h
    rw [inB16 a b]; rfl
theorem any_step {α : Type} {xs : List α} {i : Nat} (h : i < xs.length) (p : α → Bool) : (xs.drop i).any p = (p xs[i] || (xs.drop (i + 1)).any p) := by
  rw [List.drop_eq_getElem_cons h, List.any_cons]
theorem rhas_l (k : Nat) (s : DSet) (d : Dot) (hl : s.2.length < 1000000) : ∀ (n i : Nat), i ≤ s.2.length → s.2.length < n + i → ref06_Has.l4 k n (i : Int) s d = some ((s.2.drop i).any fun e => decide (e = d))
  | 0, i, h, h' => by omega
  | n + 1, i, h, h' => by
    rw [ref06_Has.l4_eq, ilt_nat, inL_nat, natOf_nat]
    by_cases hi : i < s.2.length
    · rw [any_step hi, rd_at' (e := tDot) hi, deqD, iadd_nat (by omega), rhas_l k s d hl n (i + 1) (by omega) (by omega)]
      by_cases he : s.2[i] = d <;> simp [hi, he, br_true, br_false]
    · rw [List.drop_of_length_le (by omega)]; simp [hi, br_false]
theorem any_mem (l : List Dot) (d : Dot) : (l.any fun e => decide (e = d)) = decide (d ∈ l) := by
  rw [Bool.eq_iff_iff]; simp
theorem rhas_is (k : Nat) (s : DSet) (d : Dot) (hl : s.2.length < k) (hk : k < 1000000) (hr : ∀ e ∈ s.2, rightD e = true) : ref06_Has.f k s d = some (memB s d) := by
  rw [ref06_Has.f_eq, rvhas_is]
  simp only [bnd]
  have := rhas_l k s d (by omega) k 0 (by omega) (by omega)
  rw [List.drop_zero, any_mem] at this
  rw [show ref06_Has.l4 k k 0 s d = _ from this]
  unfold memB
  cases h : rightD d with
  | false =>
    have : d ∉ s.2 := fun hd => by rw [hr d hd] at h; cases h
    simp [this, br_false]
  | true =>
    by_cases h2 : d.2 ≤ vat s.1 d.1 <;> simp [h2, br_true, br_false]
end Go.Proofs.YtbiihldcljemfaaGreatDoor
end
section
/- What the functions of the layer of dots compute, on. -/
namespace Go.Proofs.YtbiihldcljemfaaGreatDoor
open Pal
theorem srt_get {l : List Dot} (hs : l.Pairwise (fun a b => dotLt a b = true)) {i j : Nat} (hi : i < l.length) (hj : j < l.length) (h : i < j) : dotLt l[i] l[j] = true := List.pairwise_iff_getElem.1 hs i j hi hj h
theorem cmp_lt0 (a b : Dot) : ilt (cmpD a b) 0 = dotLt a b := rfl
def insR (d : Dot) : List Dot → List Dot
  | [] => [d]
  | y :: r => if dotLt d y then d :: y :: r else y :: insR d r
theorem insR_perm (d : Dot) : ∀ l, (insR d l).Perm (d :: l)
  | [] => List.Perm.refl _
  | y :: r => by
    unfold insR
    split
    · exact List.Perm.refl _
    · exact ((insR_perm d r).cons y).trans (List.Perm.swap d y r)
theorem insR_srt {d : Dot} : ∀ {l : List Dot}, l.Pairwise (fun a b => dotLt a b = true) → d ∉ l → (insR d l).Pairwise (fun a b => dotLt a b = true)
  | [], _, _ => List.pairwise_singleton _ _
  | y :: r, h, hd => by
    have h' := List.pairwise_cons.1 h
    unfold insR
    split
    · rename_i hy
      refine List.pairwise_cons.2 ⟨fun z hz => ?_, h⟩
      rcases List.mem_cons.1 hz with rfl | hz
      · exact hy
      · exact dotLt_swo.trans _ _ _ hy (h'.1 z hz)
    · rename_i hy
      have hyd : dotLt y d = true := by
        cases hh : dotLt y d with
        | true => rfl
        | false => exact absurd (by rw [dotLt_tot y d hh (by simpa using hy)]; exact List.mem_cons_self) hd
      refine List.pairwise_cons.2 ⟨fun z hz => ?_, insR_srt h'.2 (fun hh => hd (List.mem_cons_of_mem _ hh))⟩
      rcases List.mem_cons.1 ((insR_perm d r).mem_iff.1 hz) with rfl | hz
      · exact hyd
      · exact h'.1 z hz
def putD (s : DSet) (d : Dot) : DSet := if memB s d = true ∨ rightD d = false then s else mk s.1 (insR d s.2)
theorem insR_weak {d : Dot} {l : List Dot} (hs : l.Pairwise (fun a b => dotLt a b = true)) (hd : d ∉ l) : (insR d l).Pairwise (fun a b => dotLt b a = false) := (insR_srt hs hd).imp dotLt_asym
theorem putD_can {s : DSet} (hs : Can s) (d : Dot) : Can (putD s d) ∧ (∀ x, Mem (putD s d) x ↔ Mem s x ∨ (rightD d = true ∧ x = d)) ∧ (putD s d).2.length ≤ s.2.length + 1 := by
  unfold putD
  by_cases h : memB s d = true ∨ rightD d = false
  · rw [if_pos h]
    refine ⟨hs, fun x => ⟨.inl, fun hh => hh.elim id fun ⟨h1, h2⟩ => ?_⟩, by omega⟩
    subst h2
    rcases h with h | h
    · exact (memB_iff s x).1 h
    · rw [h] at h1; cases h1
  · rw [if_neg h]
    have h1 : ¬ Mem s d := fun hm => h (.inl ((memB_iff s d).2 hm))
    have h2 : rightD d = true := by cases hh : rightD d with
      | true => rfl
      | false => exact absurd (.inr hh) h
    have hn : d ∉ s.2 := fun hd => h1 ⟨h2, .inr hd⟩
    obtain ⟨q1, q2, q3, _⟩ := mk_can hs.vok (insR d s.2) (fun e he => by
      rcases List.mem_cons.1 ((insR_perm d s.2).mem_iff.1 he) with rfl | he
      · exact h2
      · exact hs.rt e he) (insR_weak hs.srt hn)
    refine ⟨q1, fun x => ?_, by rw [(insR_perm d s.2).length_eq] at q3; simpa using q3⟩
    rw [q2, (insR_perm d s.2).mem_iff, List.mem_cons]
    constructor
    · rintro ⟨a, b | b | b⟩
      · exact .inl ⟨a, .inl b⟩
      · exact .inr ⟨h2, b⟩
      · exact .inl ⟨a, .inr b⟩
    · rintro (⟨a, b⟩ | ⟨a, b⟩)
      · exact ⟨a, b.imp id .inr⟩
      · exact ⟨by rw [b]; exact a, .inr (.inl b)⟩
end Go.Proofs.YtbiihldcljemfaaGreatDoor
end
section
/- What the document's functions of the layer of dots compute. -/
namespace Go.Proofs.YtbiihldcljemfaaGreatDoor
open Pal
theorem filled_l (k : Nat) (s : DSet) (hl : s.2.length < 1000000) (hr : ∀ d ∈ s.2, rightD d = true) (hs : s.2.Pairwise (fun a b => dotLt a b = true)) (hv : VOk s.1) (za : Vec) (zb : List Dot) : ∀ (n i : Nat), i ≤ s.2.length → s.2.length < n + i →
    ref06_filled.l3 k n (i : Int) s za zb (mk s.1 (s.2.take i)).1 (mk s.1 (s.2.take i)).2 = some (mk s.1 s.2)
  | 0, i, h, h' => by omega
  | n + 1, i, h, h' => by
    rw [ref06_filled.l3_eq, ilt_nat, inL_nat, natOf_nat]
    by_cases hi : i < s.2.length
    · have hstep : mk s.1 (s.2.take (i + 1)) = put1 (mk s.1 (s.2.take i)) s.2[i] := by rw [take_next hi]; unfold mk; rw [List.foldl_append]; rfl
      have hws : s.2.Pairwise (fun a b => dotLt b a = false) := hs.imp dotLt_asym
      obtain ⟨hc, hm, hml, hin⟩ := mk_can hv (s.2.take i) (fun d hd => hr d (List.mem_of_mem_take hd)) (hws.sublist (List.take_sublist i s.2))
      have ih := filled_l k s hl hr hs hv za zb n (i + 1) (by omega) (by omega)
      rw [hstep] at ih
      have hnl : (mk s.1 (s.2.take i)).2.getLast? ≠ some s.2[i] := fun e => by
        have h1 := hin _ (List.mem_of_getLast? e)
        obtain ⟨t, ht, he⟩ := List.getElem_of_mem h1
        have ht2 : t < i := by rw [List.length_take] at ht; omega
        rw [List.getElem_take] at he
        have := srt_get hs (by omega) hi ht2
        rw [he, dotLt_swo.irrefl] at this; cases this
      generalize mk s.1 (s.2.take i) = t at hc hm hml ih hstep hin hnl ⊢
      obtain ⟨V, M⟩ := t
      obtain ⟨r0, r1, r2, r3⟩ := (rightD_iff s.2[i]).1 (hr _ (List.getElem_mem hi))
      rw [rd_at' (e := tDot) hi, iadd_nat (by omega)]
      obtain ⟨d, hd⟩ : ∃ d : Dot, d = s.2[i] := ⟨_, rfl⟩
      rw [← hd] at r0 r1 r2 r3 ih hnl ⊢
      have hvv : rd (.int .i64) V (natOf d.1) = vat V d.1 := rfl
      have v0 : 0 ≤ vat V d.1 := hc.vok.lo d.1 r0 r1
      have v1 : vat V d.1 ≤ 1048576 := hc.vok.hi d.1 r0 r1
      have hML : M.length ≤ i := by have : M.length ≤ (s.2.take i).length := hml; rw [List.length_take] at this; omega
      simp only [hi, decide_true, br_true, inB16 r0 r1, hvv, ilt_dec]
      rw [iadd_s (by omega) (by omega) (by omega) (by omega), ieq_dec]
      unfold put1 at ih
      by_cases h1 : d.2 ≤ vat V d.1
      · rw [if_pos h1] at ih
        rw [decide_eq_false (show ¬ d.2 = vat V d.1 + 1 by omega), decide_eq_false (show ¬ vat V d.1 < d.2 by omega)]
        exact ih
      · rw [if_neg h1] at ih
        by_cases h2 : d.2 = vat V d.1 + 1
        · rw [if_pos h2] at ih
          rw [decide_eq_true h2]; exact ih
        · rw [if_neg h2, if_neg hnl] at ih
          rw [decide_eq_false h2, decide_eq_true (show vat V d.1 < d.2 by omega), room1 (by omega)]
          exact ih
    · have : i = s.2.length := by omega
      subst this
      simp only [List.take_length, Nat.lt_irrefl, decide_false, br_false]
theorem filled_is (k : Nat) (s : DSet) (hl : s.2.length < k) (hk : k < 1000000) (hr : ∀ d ∈ s.2, rightD d = true) (hs : s.2.Pairwise (fun a b => dotLt a b = true)) (hv : VOk s.1) : ref06_filled.f k s = some (mk s.1 s.2) := by
  rw [ref06_filled.f_eq]
  exact filled_l k s (by omega) hr hs hv (zarr 16 0) [] k 0 (by omega) (by omega)
theorem rcmp_is (k : Nat) (a b : Dot) : ref04_Compare.f k a b = some (cmpD a b) := by
  rw [ref04_Compare.f_eq, ref04_ints.f_eq, ref04_ints.f_eq, ieq_dec, bnot_dec]
  have hI : ∀ x y : Int, br (ilt x y) (some (-1)) (br (ilt y x) (some 1) (some 0)) = some (cmpI x y) := fun x y => by
    unfold cmpI
    by_cases h1 : x < y
    · simp [ilt, h1, br_true]
    · by_cases h2 : y < x <;> simp [ilt, h1, h2, br_true, br_false]
  have hI' : ∀ x y : Int, bnd (br (ilt x y) (some (-1)) (br (ilt y x) (some 1) (some 0))) (fun r => some r) = some (cmpI x y) := fun x y => by rw [hI]; rfl
  rw [hI', hI']
  unfold cmpD
  by_cases h : a.1 = b.1
  · rw [if_pos ((cmpI_eq _ _).2 h)]; simp [h, br_false]
  · rw [if_neg (fun e => h ((cmpI_eq _ _).1 e))]; simp [h, br_true]
theorem rput_l (k : Nat) (s : DSet) (d : Dot) (hl : s.2.length < 1000000) (za : Vec) (zb : List Dot) : ∀ (n i : Nat) (x : List Dot) (b : Bool), i ≤ s.2.length → s.2.length < n + i → x.length ≤ i + b.toNat →
    ref06_Put.l6 k n x b (i : Int) s d za zb = bnd (ref06_filled.f k (s.1, x ++ if b then s.2.drop i else insR d (s.2.drop i))) fun r => some r
  | 0, i, _, _, h, h', _ => by omega
  | n + 1, i, x, b, h, h', hx => by
    rw [ref06_Put.l6_eq, ilt_nat, inL_nat, natOf_nat]
    by_cases hi : i < s.2.length
    · rw [List.drop_eq_getElem_cons hi, rd_at' (e := tDot) hi, iadd_nat (by omega), rcmp_is]
      have hbn : b.toNat ≤ 1 := by cases b <;> decide
      have hrm : ∀ y : Dot, room x (y :: []) = true := fun y => room1 (by omega)
      have hrm2 : ∀ y z : Dot, room (app x (y :: [])) (z :: []) = true := fun y z => room1 (by simp [app]; omega)
      simp only [hi, decide_true, br_true, bnd_some, cmp_lt0, hrm, hrm2]
      cases b with
      | true =>
        have hb : bnot true = false := rfl
        rw [hb]
        simp only [br_false]
        rw [rput_l k s d hl za zb n (i + 1) _ true (by omega) (by omega) (by simp [app] at hx ⊢; omega)]
        simp [app]
      | false =>
        have hb : bnot false = true := rfl
        rw [hb]
        simp only [br_true, Bool.false_eq_true, if_false]
        unfold insR
        cases hc : dotLt d s.2[i] with
        | true =>
          simp only [br_true, if_true]
          rw [rput_l k s d hl za zb n (i + 1) _ true (by omega) (by omega) (by simp [app] at hx ⊢; omega)]
          simp [app]
        | false =>
          simp only [br_false, Bool.false_eq_true, if_false]
          rw [rput_l k s d hl za zb n (i + 1) _ false (by omega) (by omega) (by simp [app] at hx ⊢; omega)]
          simp [app]
    · rw [List.drop_of_length_le (by omega)]
      simp only [hi, decide_false, br_false]
      cases b with
      | true => have hb : bnot true = false := rfl
                rw [hb]; simp [br_false]
      | false => have hb : bnot false = true := rfl
                 have hx' : x.length ≤ i := hx
                 rw [hb, room1 (by omega)]; simp [br_true, insR, app]
theorem rput_is (k : Nat) (s : DSet) (d : Dot) (hl : s.2.length + 1 < k) (hk : k < 1000000) (hs : Can s) : ref06_Put.f k s d = some (putD s d) := by
  rw [ref06_Put.f_eq, rright_is, rhas_is k s d (by omega) hk hs.rt]
  simp only [bnd_some]
  unfold putD
  cases h : rightD d with
  | false => simp [bnot, br_true]
  | true =>
    cases hm : memB s d with
    | true => simp [bnot, br_true, br_false]
    | false =>
      have hn : d ∉ s.2 := fun hd => by
        have := (memB_iff s d).2 ⟨h, .inr hd⟩
        rw [hm] at this; cases this
      have hb0 : bnot true = false := rfl
      rw [hb0]
      simp only [br_false]
      have := rput_l k s d (by omega) (zarr 16 0) [] k 0 [] false (by omega) (by omega) (by simp)
      rw [show ref06_Put.l6 k k [] false 0 s d (zarr 16 0) [] = _ from this]
      simp only [List.drop_zero, List.nil_append, Bool.false_eq_true, if_false]
      rw [filled_is k (s.1, insR d s.2) (by show (insR d s.2).length < k; rw [(insR_perm d s.2).length_eq]; simpa using hl) hk (fun e he => by
        rcases List.mem_cons.1 ((insR_perm d s.2).mem_iff.1 he) with rfl | he
        · exact h
        · exact hs.rt e he) (insR_srt hs.srt hn) hs.vok]
      simp [bnd]
end Go.Proofs.YtbiihldcljemfaaGreatDoor
end
section
/- The same, and right, among sets of dots. -/
namespace Go.Proofs.YtbiihldcljemfaaGreatDoor
open Pal
theorem eqD_l (k : Nat) (xs ys : List Dot) (hl : xs.length = ys.length) (hb : xs.length < 1000000) : ∀ (n i : Nat), i ≤ xs.length → xs.length < n + i →
    slices_Equal_api_Dot_api_Dot.l4 k n xs ys (ilen xs) (i : Int) = some (zall (fun x y => decide (x = y)) (xs.drop i) (ys.drop i))
  | 0, i, h, h' => by omega
  | n + 1, i, h, h' => by
    rw [slices_Equal_api_Dot_api_Dot.l4_eq, ilt_nat, inL_nat, inL_nat, natOf_nat]
    by_cases hi : i < xs.length
    · have hi' : i < ys.length := by omega
      rw [zall_step hi hi', rd_at' (e := tDot) hi, rd_at' (e := tDot) hi', deqD, bnot_dec, iadd_nat (by omega)]
      simp only [hi, hi', decide_true, br_true]
      by_cases he : xs[i] = ys[i]
      · simp only [he, not_true, decide_true, decide_false, br_false, Bool.true_and]
        exact eqD_l k xs ys hl hb n (i + 1) (by omega) (by omega)
      · simp only [he, not_false_eq_true, decide_false, decide_true, br_true, Bool.false_and]
    · rw [zall_end (by omega)]
      simp only [hi, decide_false, br_false]
theorem eqD (k : Nat) (xs ys : List Dot) (hb : xs.length < k) (hk : k < 1000000) : slices_Equal_api_Dot_api_Dot.f k xs ys = some (decide (xs = ys)) := by
  rw [slices_Equal_api_Dot_api_Dot.f_eq, ieq_len, bnot_dec]
  by_cases hl : xs.length = ys.length
  · simp only [hl, not_true, decide_false, br_false]
    have := eqD_l k xs ys hl (by omega) k 0 (by omega) (by omega)
    simp only [List.drop_zero, zall_eq xs ys hl] at this
    exact this
  · have : xs ≠ ys := fun e => hl (by rw [e])
    simp only [hl, this, not_false_eq_true, decide_true, decide_false, br_true]
theorem reqD_l (k : Nat) (xs ys : List Dot) (hl : xs.length = ys.length) (hb : xs.length < 1000000) : ∀ (n i : Nat), i ≤ xs.length → xs.length < n + i →
    ref04_Same.l4 k n xs ys (i : Int) = some (zall (fun x y => decide (x = y)) (xs.drop i) (ys.drop i))
  | 0, i, h, h' => by omega
  | n + 1, i, h, h' => by
    rw [ref04_Same.l4_eq, ilt_nat, inL_nat, inL_nat, natOf_nat]
    by_cases hi : i < xs.length
    · have hi' : i < ys.length := by omega
      rw [zall_step hi hi', rd_at' (e := tDot) hi, rd_at' (e := tDot) hi', deqD, bnot_dec, iadd_nat (by omega)]
      simp only [hi, hi', decide_true, br_true]
      by_cases he : xs[i] = ys[i]
      · simp only [he, not_true, decide_true, decide_false, br_false, Bool.true_and]
        exact reqD_l k xs ys hl hb n (i + 1) (by omega) (by omega)
      · simp only [he, not_false_eq_true, decide_false, decide_true, br_true, Bool.false_and]
    · rw [zall_end (by omega)]
      simp only [hi, decide_false, br_false]
theorem reqD (k : Nat) (xs ys : List Dot) (hb : xs.length < k) (hk : k < 1000000) : ref04_Same.f k xs ys = some (decide (xs = ys)) := by
  rw [ref04_Same.f_eq, ieq_len, bnot_dec]
  by_cases hl : xs.length = ys.length
  · simp only [hl, not_true, decide_false, br_false]
    have := reqD_l k xs ys hl (by omega) k 0 (by omega) (by omega)
    simp only [List.drop_zero, zall_eq xs ys hl] at this
    exact this
  · have : xs ≠ ys := fun e => hl (by rw [e])
    simp only [hl, this, not_false_eq_true, decide_true, decide_false, br_true]
theorem deqV (a b : Vec) : deq tVec a b = decide (a = b) := by
  have h := deq_iff tVec rfl a b
  by_cases he : a = b
  · rw [decide_eq_true he]; exact h.2 he
  · rw [decide_eq_false he, ← Bool.not_eq_true, h]; exact he
theorem same_is (k : Nat) (s t : DSet) (hb : s.2.length < k) (hk : k < 1000000) : dots_Same.f k s t = some (decide (s = t)) := by
  rw [dots_Same.f_eq, deqV, eqD k _ _ hb hk]
  obtain ⟨a, b⟩ := s
  obtain ⟨c, d⟩ := t
  by_cases h1 : a = c <;> by_cases h2 : b = d <;> simp [h1, h2, br_true, br_false, bnd]
theorem rsame_is (k : Nat) (s t : DSet) (hb : s.2.length < k) (hk : k < 1000000) : ref06_Same.f k s t = some (decide (s = t)) := by
  rw [ref06_Same.f_eq, deqV, reqD k _ _ hb hk]
  obtain ⟨a, b⟩ := s
  obtain ⟨c, d⟩ := t
  by_cases h1 : a = c <;> by_cases h2 : b = d <;> simp [h1, h2, br_true, br_false, bnd]
def vin (v : Vec) (r : Int) : Prop := 0 ≤ vat v r ∧ vat v r ≤ 1048576
theorem rvr_l (k : Nat) (v : Vec) : ∀ (n i : Nat), i ≤ 16 → 16 < n + i → ∃ b, ref05_Right.l2 k n (i : Int) v = some b ∧ (b = true ↔ ∀ r : Nat, i ≤ r → r < 16 → vin v r)
  | 0, i, h, h' => by omega
  | n + 1, i, h, h' => by
    rw [ref05_Right.l2_eq, natOf_nat]
    have e1 : ilt (i : Int) 16 = decide (i < 16) := ilt_nn i 16
    rw [e1, inB_nat]
    by_cases hi : i < 16
    · have hv : rd (.int .i64) v i = vat v (i : Int) := rfl
      rw [hv, iadd_nat (by omega), ilt_dec, ilt_dec]
      simp only [hi, decide_true, br_true]
      by_cases h1 : vat v (i : Int) < 0
      · simp only [h1, decide_true, br_true]
        exact ⟨false, rfl, ⟨fun h => (by cases h), fun h => by have := (h i (Nat.le_refl _) hi).1; omega⟩⟩
      · simp only [h1, decide_false, br_false]
        by_cases h2 : 1048576 < vat v (i : Int)
        · simp only [h2, decide_true, br_true]
          exact ⟨false, rfl, ⟨fun h => (by cases h), fun h => by have := (h i (Nat.le_refl _) hi).2; omega⟩⟩
        · simp only [h2, decide_false, br_false]
          obtain ⟨b, hb, hbi⟩ := rvr_l k v n (i + 1) (by omega) (by omega)
          refine ⟨b, hb, hbi.trans ⟨fun h r hr hr2 => ?_, fun h r hr hr2 => h r (by omega) hr2⟩⟩
          by_cases he : r = i
          · subst he; exact ⟨by omega, by omega⟩
          · exact h r (by omega) hr2
    · simp only [hi, decide_false, br_false]
      exact ⟨true, rfl, ⟨fun _ r hr hr2 => by omega, fun _ => rfl⟩⟩
theorem vok_iff {v : Vec} (hl : v.length = 16) : VOk v ↔ ∀ r : Nat, 0 ≤ r → r < 16 → vin v r := by
  constructor
  · intro h r _ hr; exact ⟨h.lo r (by omega) (by omega), h.hi r (by omega) (by omega)⟩
  · intro h
    refine ⟨hl, fun r h0 h1 => ?_, fun r h0 h1 => ?_⟩
    · obtain ⟨a, rfl⟩ := Int.eq_ofNat_of_zero_le h0; exact (h a (by omega) (by omega)).1
    · obtain ⟨a, rfl⟩ := Int.eq_ofNat_of_zero_le h0; exact (h a (by omega) (by omega)).2
theorem rvr_is (k : Nat) (v : Vec) (hl : v.length = 16) (hk : 17 < k) : ∃ b, ref05_Right.f k v = some b ∧ (b = true ↔ VOk v) := by
  rw [ref05_Right.f_eq, vok_iff hl]
  exact rvr_l k v k 0 (by omega) (by omega)
theorem vr_l (k : Nat) (v : Vec) : ∀ (n i : Nat), i ≤ 16 → 16 < n + i → ∃ b, vec_Right.l2 k n v (i : Int) = some b ∧ (b = true ↔ ∀ r : Nat, i ≤ r → r < 16 → vin v r)
  | 0, i, h, h' => by omega
  | n + 1, i, h, h' => by
    rw [vec_Right.l2_eq, natOf_nat]
    have e1 : ilt (i : Int) 16 = decide (i < 16) := ilt_nn i 16
    rw [e1, inB_nat]
    by_cases hi : i < 16
    · have hv : rd (.int .i64) v i = vat v (i : Int) := rfl
      rw [hv, iadd_nat (by omega), ilt_dec, ilt_dec]
      simp only [hi, decide_true, br_true]
      by_cases h1 : vat v (i : Int) < 0
      · simp only [h1, decide_true, br_true]
        exact ⟨false, rfl, ⟨fun h => (by cases h), fun h => by have := (h i (Nat.le_refl _) hi).1; omega⟩⟩
      · simp only [h1, decide_false, br_false]
        by_cases h2 : 1048576 < vat v (i : Int)
        · simp only [h2, decide_true, br_true]
          exact ⟨false, rfl, ⟨fun h => (by cases h), fun h => by have := (h i (Nat.le_refl _) hi).2; omega⟩⟩
        · simp only [h2, decide_false, br_false]
          obtain ⟨b, hb, hbi⟩ := vr_l k v n (i + 1) (by omega) (by omega)
          refine ⟨b, hb, hbi.trans ⟨fun h r hr hr2 => ?_, fun h r hr hr2 => h r (by omega) hr2⟩⟩
          by_cases he : r = i
          · subst he; exact ⟨by omega, by omega⟩
          · exact h r (by omega) hr2
    · simp only [hi, decide_false, br_false]
      exact ⟨true, rfl, ⟨fun _ r hr hr2 => by omega, fun _ => rfl⟩⟩
theorem vr_is (k : Nat) (v : Vec) (hl : v.length = 16) (hk : 17 < k) : ∃ b, vec_Right.f k v = some b ∧ (b = true ↔ VOk v) := by
  rw [vec_Right.f_eq, vok_iff hl]
  exact vr_l k v k 0 (by omega) (by omega)
def okAt (s : DSet) (j : Nat) (h : j < s.2.length) : Prop := rightD s.2[j] = true ∧ vat s.1 s.2[j].1 + 1 < s.2[j].2 ∧ (∀ h0 : 0 < j, dotLt (s.2[j - 1]'(by omega)) s.2[j] = true)
theorem can_iff {s : DSet} (hv : VOk s.1) : Can s ↔ ∀ j (h : j < s.2.length), 0 ≤ j → okAt s j h := by
  constructor
  · intro hs j h _
    exact ⟨hs.rt _ (List.getElem_mem h), hs.gap _ (List.getElem_mem h), fun h0 => srt_get hs.srt (by omega) h (by omega)⟩
  · intro h
    refine ⟨hv, fun d hd => ?_, fun d hd => ?_, ?_⟩
    · obtain ⟨j, hj, rfl⟩ := List.getElem_of_mem hd; exact (h j hj (Nat.zero_le _)).1
    · obtain ⟨j, hj, rfl⟩ := List.getElem_of_mem hd; exact (h j hj (Nat.zero_le _)).2.1
    · have key : ∀ t i (hi : i < s.2.length) (hj : i + 1 + t < s.2.length), dotLt s.2[i] s.2[i + 1 + t] = true := by
        intro t
        induction t with
        | zero => intro i hi hj; exact (h (i + 1) hj (Nat.zero_le _)).2.2 (by omega)
        | succ t ih =>
          intro i hi hj
          have h1 := ih i hi (by omega)
          have h2 := (h (i + 1 + (t + 1)) hj (Nat.zero_le _)).2.2 (by omega)
          exact dotLt_swo.trans _ _ _ h1 h2
      rw [List.pairwise_iff_getElem]
      intro i j hi hj hij
      have := key (j - i - 1) i hi (by omega)
      have e : i + 1 + (j - i - 1) = j := by omega
      simp only [e] at this; exact this
theorem cmp_m1 (a b : Dot) : bnot (ieq (cmpD a b) (-1)) = !dotLt a b := by
  have h1 : ∀ x y : Int, cmpI x y = -1 ∨ cmpI x y = 0 ∨ cmpI x y = 1 := fun x y => by unfold cmpI; split <;> (try split) <;> simp
  have h : cmpD a b = -1 ∨ cmpD a b = 0 ∨ cmpD a b = 1 := by unfold cmpD; split <;> exact h1 _ _
  show bnot (ieq (cmpD a b) (-1)) = !decide (cmpD a b < 0)
  rcases h with h | h | h <;> rw [h] <;> rfl
theorem rr_l (k : Nat) (s : DSet) (hl : s.2.length < 1000000) (hv : VOk s.1) : ∀ (n i : Nat), i ≤ s.2.length → s.2.length < n + i → ∃ b, ref06_Right.l4 k n (i : Int) s = some b ∧ (b = true ↔ ∀ j (h : j < s.2.length), i ≤ j → okAt s j h)
  | 0, i, h, h' => by omega
  | n + 1, i, h, h' => by
    rw [ref06_Right.l4_eq, ilt_nat, inL_nat, natOf_nat]
    by_cases hi : i < s.2.length
    · rw [rd_at' (e := tDot) hi, rright_is, iadd_nat (by omega)]
      simp only [hi, decide_true, br_true, bnd_some]
      cases hr : rightD s.2[i] with
      | false =>
        have e : bnot false = true := rfl
        rw [e]
        exact ⟨false, rfl, ⟨fun h => (by cases h), fun h => by rw [(h i hi (Nat.le_refl _)).1] at hr; cases hr⟩⟩
      | true =>
        have e : bnot true = false := rfl
        obtain ⟨r0, r1, r2, r3⟩ := (rightD_iff s.2[i]).1 hr
        have hvv : rd (.int .i64) s.1 (natOf s.2[i].1) = vat s.1 s.2[i].1 := rfl
        rw [e, inB16 r0 r1, hvv, isub_s (by omega) (by omega) (by omega) (by omega), ile_dec]
        simp only [br_true, br_false]
        by_cases hg : s.2[i].2 - 1 ≤ vat s.1 s.2[i].1
        · simp only [hg, decide_true, br_true]
          exact ⟨false, rfl, ⟨fun h => (by cases h), fun h => by have := (h i hi (Nat.le_refl _)).2.1; omega⟩⟩
        · simp only [hg, decide_false, br_false]
          obtain ⟨b, hb, hbi⟩ := rr_l k s hl hv n (i + 1) (by omega) (by omega)
          have step : (∀ h0 : 0 < i, dotLt (s.2[i - 1]'(by omega)) s.2[i] = true) → (b = true ↔ ∀ j (h : j < s.2.length), i ≤ j → okAt s j h) := fun hlt => hbi.trans ⟨fun h j hj hij => by
            by_cases he : j = i
            · subst he; exact ⟨hr, by omega, hlt⟩
            · exact h j hj (by omega), fun h j hj hij => h j hj (by omega)⟩
          by_cases h0 : 0 < i
          · have e2 : ilt 0 (i : Int) = true := by simp [ilt]; omega
            have e3 : isub .i64 (i : Int) 1 = ((i - 1 : Nat) : Int) := by rw [isub_s (by omega) (by omega) (by omega) (by omega)]; omega
            have hi1 : i - 1 < s.2.length := by omega
            rw [e2, e3, inL_nat, natOf_nat, rd_at' (e := tDot) hi1, rcmp_is]
            simp only [hi1, decide_true, br_true, bnd_some, cmp_m1]
            cases hc : dotLt s.2[i - 1] s.2[i] with
            | true => exact ⟨b, hb, step fun _ => hc⟩
            | false => exact ⟨false, rfl, ⟨fun h => (by cases h), fun h => by have := (h i hi (Nat.le_refl _)).2.2 h0; rw [hc] at this; cases this⟩⟩
          · have e2 : ilt 0 (i : Int) = false := by simp [ilt]; omega
            rw [e2]
            exact ⟨b, hb, step fun h => absurd h h0⟩
    · simp only [hi, decide_false, br_false]
      exact ⟨true, rfl, ⟨fun _ j hj hij => by omega, fun _ => rfl⟩⟩
theorem rr_is (k : Nat) (s : DSet) (hl : s.1.length = 16) (hk : 5000 < k) (hk2 : k < 1000000) : ∃ b, ref06_Right.f k s = some b ∧ (b = true ↔ Can s ∧ s.2.length ≤ 4096) := by
  obtain ⟨b, hb, hbi⟩ := rvr_is k s.1 hl (by omega)
  rw [ref06_Right.f_eq, hb]
  simp only [bnd_some]
  cases b with
  | false => exact ⟨false, rfl, ⟨fun h => (by cases h), fun h => hbi.2 h.1.vok⟩⟩
  | true =>
    have hv := hbi.1 rfl
    have e : bnot true = false := rfl
    have e2 : ilt 4096 (ilen s.2) = decide (4096 < s.2.length) := ilt_nat 4096 s.2
    rw [e, e2]
    simp only [br_false]
    by_cases h : 4096 < s.2.length
    · simp only [h, decide_true, br_true]
      exact ⟨false, rfl, ⟨fun h => (by cases h), fun h => by omega⟩⟩
    · simp only [h, decide_false, br_false]
      obtain ⟨b, hb, hbi⟩ := rr_l k s (by omega) hv k 0 (by omega) (by omega)
      exact ⟨b, hb, hbi.trans ⟨fun h2 => ⟨(can_iff hv).2 h2, by omega⟩, fun h2 => (can_iff hv).1 h2.1⟩⟩
end Go.Proofs.YtbiihldcljemfaaGreatDoor
end
section
/- Whether a set is right, how many dots there are, and the next one's number. -/
namespace Go.Proofs.YtbiihldcljemfaaGreatDoor
open Pal
theorem dr_l (k : Nat) (s : DSet) (hl : s.2.length < 1000000) (hv : VOk s.1) : ∀ (n i : Nat), i ≤ s.2.length → s.2.length < n + i → ∃ b, dots_Right.l4 (k + 3) n s.2 (ilen s.2) (i : Int) s = some b ∧ (b = true ↔ ∀ j (h : j < s.2.length), i ≤ j → okAt s j h)
  | 0, i, h, h' => by omega
  | n + 1, i, h, h' => by
    rw [dots_Right.l4_eq, ilt_nat, inL_nat, natOf_nat]
    by_cases hi : i < s.2.length
    · rw [rd_at' (e := tDot) hi, right_is, iadd_nat (by omega)]
      simp only [hi, decide_true, br_true, bnd_some]
      cases hr : rightD s.2[i] with
      | false =>
        have e : bnot false = true := rfl
        rw [e]
        exact ⟨false, rfl, ⟨fun h => (by cases h), fun h => by rw [(h i hi (Nat.le_refl _)).1] at hr; cases hr⟩⟩
      | true =>
        have e : bnot true = false := rfl
        obtain ⟨r0, r1, r2, r3⟩ := (rightD_iff s.2[i]).1 hr
        have hvv : rd (.int .i64) s.1 (natOf s.2[i].1) = vat s.1 s.2[i].1 := rfl
        have v0 := hv.lo s.2[i].1 r0 r1
        have v1 := hv.hi s.2[i].1 r0 r1
        rw [e, inB16 r0 r1, hvv, iadd_s (by omega) (by omega) (by omega) (by omega), ile_dec]
        simp only [br_true, br_false]
        by_cases hg : s.2[i].2 ≤ vat s.1 s.2[i].1 + 1
        · simp only [hg, decide_true, br_true]
          exact ⟨false, rfl, ⟨fun h => (by cases h), fun h => by have := (h i hi (Nat.le_refl _)).2.1; omega⟩⟩
        · simp only [hg, decide_false, br_false]
          obtain ⟨b, hb, hbi⟩ := dr_l k s hl hv n (i + 1) (by omega) (by omega)
          have step : (∀ h0 : 0 < i, dotLt (s.2[i - 1]'(by omega)) s.2[i] = true) → (b = true ↔ ∀ j (h : j < s.2.length), i ≤ j → okAt s j h) := fun hlt => hbi.trans ⟨fun h j hj hij => by
            by_cases he : j = i
            · subst he; exact ⟨hr, by omega, hlt⟩
            · exact h j hj (by omega), fun h j hj hij => h j hj (by omega)⟩
          by_cases h0 : 0 < i
          · have e2 : ilt 0 (i : Int) = true := by simp [ilt]; omega
            have e3 : isub .i64 (i : Int) 1 = ((i - 1 : Nat) : Int) := by rw [isub_s (by omega) (by omega) (by omega) (by omega)]; omega
            have hi1 : i - 1 < s.2.length := by omega
            have e4 : ∀ a b : Dot, ile 0 (cmpD a b) = !dotLt a b := fun a b => by
              show decide (0 ≤ cmpD a b) = !decide (cmpD a b < 0)
              by_cases h : cmpD a b < 0
              · rw [decide_eq_true h, decide_eq_false (by omega)]; rfl
              · rw [decide_eq_false h, decide_eq_true (by omega)]; rfl
            rw [e2, e3, inL_nat, natOf_nat, rd_at' (e := tDot) hi1, cmpD_is]
            simp only [hi1, decide_true, br_true, bnd_some, e4]
            cases hc : dotLt s.2[i - 1] s.2[i] with
            | true => exact ⟨b, hb, step fun _ => hc⟩
            | false => exact ⟨false, rfl, ⟨fun h => (by cases h), fun h => by have := (h i hi (Nat.le_refl _)).2.2 h0; rw [hc] at this; cases this⟩⟩
          · have e2 : ilt 0 (i : Int) = false := by simp [ilt]; omega
            rw [e2]
            exact ⟨b, hb, step fun h => absurd h h0⟩
    · simp only [hi, decide_false, br_false]
      exact ⟨true, rfl, ⟨fun _ j hj hij => by omega, fun _ => rfl⟩⟩
theorem dr_is (k : Nat) (s : DSet) (hl : s.1.length = 16) (hk : 5000 < k) (hk2 : k < 1000000) : ∃ b, dots_Right.f k s = some b ∧ (b = true ↔ Can s ∧ s.2.length ≤ 4096) := by
  obtain ⟨b, hb, hbi⟩ := vr_is k s.1 hl (by omega)
  rw [dots_Right.f_eq, hb]
  simp only [bnd_some]
  cases b with
  | false => exact ⟨false, rfl, ⟨fun h => (by cases h), fun h => hbi.2 h.1.vok⟩⟩
  | true =>
    have hv := hbi.1 rfl
    have e : bnot true = false := rfl
    have e2 : ilt 4096 (ilen s.2) = decide (4096 < s.2.length) := ilt_nat 4096 s.2
    rw [e, e2]
    simp only [br_false]
    by_cases h : 4096 < s.2.length
    · simp only [h, decide_true, br_true]
      exact ⟨false, rfl, ⟨fun h => (by cases h), fun h => by omega⟩⟩
    · simp only [h, decide_false, br_false]
      obtain ⟨q, rfl⟩ : ∃ q, k = q + 3 := ⟨k - 3, by omega⟩
      obtain ⟨b, hb, hbi⟩ := dr_l q s (by omega) hv (q + 3) 0 (by omega) (by omega)
      exact ⟨b, hb, hbi.trans ⟨fun h2 => ⟨(can_iff hv).2 h2, by omega⟩, fun h2 => (can_iff hv).1 h2.1⟩⟩
end Go.Proofs.YtbiihldcljemfaaGreatDoor
end
section
/- Unions, and what is within what. -/
namespace Go.Proofs.YtbiihldcljemfaaGreatDoor
open Pal
theorem puts_can : ∀ (l : List Dot) (s : DSet), Can s → (∀ d ∈ l, rightD d = true) → Can (l.foldl putD s) ∧ (∀ x, Mem (l.foldl putD s) x ↔ Mem s x ∨ x ∈ l) ∧ (l.foldl putD s).2.length ≤ s.2.length + l.length
  | [], s, hs, _ => ⟨hs, fun x => by simp, Nat.le_refl _⟩
  | d :: l, s, hs, hr => by
    obtain ⟨a, b, c⟩ := putD_can hs d
    obtain ⟨p, q, r⟩ := puts_can l (putD s d) a (fun e he => hr e (List.mem_cons_of_mem _ he))
    refine ⟨p, fun x => ?_, by simp only [List.length_cons]; show ((d :: l).foldl putD s).2.length ≤ _; simp only [List.foldl_cons]; omega⟩
    show Mem (l.foldl putD (putD s d)) x ↔ _
    rw [q, b, List.mem_cons]
    have hd := hr d (by simp)
    constructor
    · rintro ((h | ⟨_, h⟩) | h)
      · exact .inl h
      · exact .inr (.inl h)
      · exact .inr (.inr h)
    · rintro (h | h | h)
      · exact .inl (.inl h)
      · exact .inl (.inr ⟨hd, h⟩)
      · exact .inr h
end Go.Proofs.YtbiihldcljemfaaGreatDoor
end
section
/- That runs answer; binary search. -/
namespace Go.Proofs.YtbiihldcljemfaaGreatDoor.Pal
open Go
def Tot {α : Type} (x : Option α) : Prop := ∃ r, x = some r
theorem some_tot {α : Type} (a : α) : Tot (some a) := ⟨a, rfl⟩
theorem br_tot {α : Type} {b : Bool} {x y : Option α} (h1 : Tot x) (h2 : Tot y) : Tot (br b x y) := by cases b <;> assumption
theorem bnd_tot {α β : Type} {x : Option α} {f : α → Option β} (h1 : Tot x) (h2 : ∀ r, x = some r → Tot (f r)) : Tot (bnd x f) := by
  obtain ⟨r, rfl⟩ := h1
  exact h2 r rfl
theorem bnd_tot' {α β : Type} {x : Option α} {f : α → Option β} (h1 : Tot x) (h2 : ∀ r, Tot (f r)) : Tot (bnd x f) := bnd_tot h1 fun r _ => h2 r
theorem loop_tot {ρ : Type} (N : Nat) (L : Nat → Nat → Option ρ) (hs : ∀ n i, i < N → Tot (L n (i + 1)) → Tot (L (n + 1) i)) (he : ∀ n, Tot (L (n + 1) N)) : ∀ n i, i ≤ N → N < n + i → Tot (L n i)
  | 0, i, h, h' => by omega
  | n + 1, i, h, h' => by
    by_cases hi : i < N
    · exact hs n i hi (loop_tot N L hs he n (i + 1) (by omega) (by omega))
    · have : i = N := by omega
      subst this; exact he n
end Go.Proofs.YtbiihldcljemfaaGreatDoor.Pal
end
section
/- The document's checks of names, paths, values, operations and transactions answer, of short ones. -/
namespace Go.Proofs.YtbiihldcljemfaaGreatDoor
open Pal
abbrev Str := List UInt8
abbrev Val := Int × (Int × Str)
abbrev Op := Int × (List Str × (Val × (Int × List (Dot × Int))))
abbrev Txn := Dot × (Int × (Int × (Bool × List Op)))
noncomputable instance decOp : DecidableEq Op := fun a b => Classical.propDecidable (a = b)
noncomputable instance decTxn : DecidableEq Txn := fun a b => Classical.propDecidable (a = b)
theorem ilt_lenR {α : Type} (c : Nat) (xs : List α) : ilt (c : Int) (ilen xs) = decide (c < xs.length) := by unfold ilt ilen; exact decide_eq_decide.2 ⟨fun h => by omega, fun h => by omega⟩
theorem ile_len {α : Type} (c : Nat) (xs : List α) : ile (ilen xs) (c : Int) = decide (xs.length ≤ c) := by unfold ile ilen; exact decide_eq_decide.2 ⟨fun h => by omega, fun h => by omega⟩
theorem rchar_is (k : Nat) (s : Str) (hk : 10 < k) (hs : s.length < 4000000) : ∃ (c n : Int), ref03_Char.f k s = some (c, n) ∧ 0 ≤ n ∧ n ≤ (s.length : Int) := by
  rw [ref03_Char.f_eq]
  have e0 : ieq (ilen s) 0 = decide (s.length = 0) := ieq0 s
  rw [e0]
  by_cases h0 : s.length = 0
  · rw [decide_eq_true h0]; exact ⟨0, 0, rfl, by decide, by omega⟩
  rw [decide_eq_false h0]
  have e1 : inL 0 s = true := by
    have := inL_nat 0 s
    rw [show inL 0 s = decide (0 < s.length) from this]; exact decide_eq_true (by omega)
  have l2 : ∀ c : Nat, ilt (ilen s) (c : Int) = decide (s.length < c) := fun c => by unfold ilt ilen; exact decide_eq_decide.2 ⟨fun h => by omega, fun h => by omega⟩
  have key : ∀ (N : Nat) (m x : Int), 1 ≤ N → N ≤ s.length → N ≤ 4 → ∃ (c n : Int), ref03_Char.l17 k k s x (N : Int) m 1 = some (c, n) ∧ 0 ≤ n ∧ n ≤ (s.length : Int) := by
    intro N m x hN1 hN hN4
    have : ∀ n i (x : Int), 1 ≤ i → N < n + i → i ≤ N → ∃ (c q : Int), ref03_Char.l17 k n s x (N : Int) m (i : Int) = some (c, q) ∧ 0 ≤ q ∧ q ≤ (s.length : Int) := by
      intro n
      induction n with
      | zero =>
        intro i x h1 h2 h3
        omega
      | succ n ih =>
        intro i x h1 h2 h3
        rw [ref03_Char.l17_eq, ilt_nn]
        by_cases hi : i < N
        · have e2 : inL (i : Int) s = true := by rw [inL_nat]; exact decide_eq_true (by omega)
          have e3 : iadd .i64 (i : Int) 1 = ((i + 1 : Nat) : Int) := iadd_nat (by omega)
          rw [decide_eq_true hi, e2, e3]
          simp only [br_true]
          have z : ∃ (c q : Int), (some ((0 : Int), (0 : Int))) = some (c, q) ∧ 0 ≤ q ∧ q ≤ (s.length : Int) := ⟨0, 0, rfl, by decide, by omega⟩
          have y := ih (i + 1) (isub .i64 (iadd .i64 (imul .i64 64 x) (iwrap .i64 (byteAt s (i : Int)))) 128) (by omega) (by omega) (by omega)
          cases ilt (byteAt s (i : Int)) 128 with
          | true => exact z
          | false =>
            cases ilt 191 (byteAt s (i : Int)) with
            | true => exact z
            | false => exact y
        · rw [decide_eq_false hi]
          simp only [br_false]
          have z : ∃ (c q : Int), (some ((0 : Int), (0 : Int))) = some (c, q) ∧ 0 ≤ q ∧ q ≤ (s.length : Int) := ⟨0, 0, rfl, by decide, by omega⟩
          have y : ∃ (c q : Int), (some (x, (N : Int))) = some (c, q) ∧ 0 ≤ q ∧ q ≤ (s.length : Int) := ⟨x, N, rfl, by omega, by omega⟩
          cases ilt x m with
          | true => exact z
          | false =>
            cases ilt 1114111 x with
            | true => exact z
            | false =>
              cases ile 55296 x with
              | false => exact y
              | true => cases ile x 57343 with
                | true => exact z
                | false => exact y
    exact this k 1 x (by omega) (by omega) (by omega)
  have z : ∃ (c q : Int), (some ((0 : Int), (0 : Int))) = some (c, q) ∧ 0 ≤ q ∧ q ≤ (s.length : Int) := ⟨0, 0, rfl, by decide, by omega⟩
  have kk : ∀ (N : Nat) (m x : Int), 1 ≤ N → N ≤ 4 → ∃ (c n : Int), br (ilt (ilen s) (N : Int)) (some ((0 : Int), (0 : Int))) (ref03_Char.l17 k k s x (N : Int) m 1) = some (c, n) ∧ 0 ≤ n ∧ n ≤ (s.length : Int) := by
    intro N m x hN1 hN
    rw [l2]
    by_cases h : s.length < N
    · rw [decide_eq_true h]; exact z
    · rw [decide_eq_false h]; exact key N m x hN1 (by omega) hN
  have k2 := fun m x => kk 2 m x (by decide) (by decide)
  have k3 := fun m x => kk 3 m x (by decide) (by decide)
  have k4 := fun m x => kk 4 m x (by decide) (by decide)
  rw [e1]
  simp only [br_true, br_false]
  generalize iwrap .i64 (byteAt s 0) = b
  cases ilt b 128 with
  | true => exact ⟨b, 1, rfl, by decide, by omega⟩
  | false =>
    cases ile 194 b <;> cases ilt b 224 <;> cases ile 224 b <;> cases ilt b 240 <;> cases ile 240 b <;> cases ilt b 245 <;> simp only [br_true, br_false] <;> first | exact z | exact k2 _ _ | exact k3 _ _ | exact k4 _ _
theorem rrunes_is (k : Nat) (s : Str) (hk : 10 < k) (hs : s.length < k) (hk2 : k < 1000000) : ∃ (l : List Int) (b : Bool), ref03_Runes.f k s = some (l, b) ∧ l.length ≤ s.length := by
  rw [ref03_Runes.f_eq]
  have : ∀ n i (l : List Int), i ≤ s.length → s.length < n + i → l.length ≤ i → ∃ (l' : List Int) (b : Bool), ref03_Runes.l3 k n s l (i : Int) = some (l', b) ∧ l'.length ≤ s.length := by
    intro n
    induction n with
    | zero => intro i l h1 h2; omega
    | succ n ih =>
      intro i l h1 h2 hl
      rw [ref03_Runes.l3_eq, ilt_nat]
      by_cases hi : i < s.length
      · have hin : inS (i : Int) (ilen s) (ilen s) = true := by
          have h1 : (i : Int) ≤ (s.length : Int) := by omega
          show (decide ((0 : Int) ≤ (i : Int)) && decide ((i : Int) ≤ (s.length : Int)) && decide ((s.length : Int) ≤ (s.length : Int))) = true
          rw [decide_eq_true h1, decide_eq_true (show (0 : Int) ≤ (i : Int) by omega), decide_eq_true (Int.le_refl _)]; rfl
        have hp : (piece s (i : Int) (ilen s)).length = s.length - i := by
          unfold piece ilen
          rw [Int.toNat_natCast, Int.toNat_natCast, List.take_length, List.length_drop]
        obtain ⟨c, q, hc, q0, q1⟩ := rchar_is k (piece s (i : Int) (ilen s)) hk (by omega)
        rw [decide_eq_true hi, hin, hc]
        simp only [br_true, bnd_some, ieq_dec]
        rw [hp] at q1
        by_cases hq : q = 0
        · rw [decide_eq_true hq]; exact ⟨[], false, rfl, by simp⟩
        · rw [decide_eq_false hq]
          simp only [br_false]
          have hr : room l (c :: []) = true := room_le (by simp only [List.length_cons, List.length_nil]; omega)
          obtain ⟨Q, rfl⟩ : ∃ Q : Nat, q = (Q : Int) := ⟨q.toNat, by omega⟩
          have e3 : iadd .i64 (i : Int) (Q : Int) = ((i + Q : Nat) : Int) := by rw [iadd_s (by omega) (by omega) (by omega) (by omega)]; omega
          rw [hr, e3]
          simp only [br_true]
          exact ih (i + Q) _ (by omega) (by omega) (by simp only [app, List.length_append, List.length_cons, List.length_nil]; omega)
      · rw [decide_eq_false hi]
        exact ⟨l, true, rfl, by omega⟩
  exact this k 0 [] (by omega) (by omega) (by simp)
theorem rmay_tot (k : Nat) (c : Int) : Tot (ref03_may.f k c) := by
  rw [ref03_may.f_eq]
  repeat' first | exact some_tot _ | apply br_tot
theorem rname_tot (k : Nat) (s : Str) (hk : 10 < k) (hs : s.length < k) (hk2 : k < 1000000) : Tot (ref03_Right.f k s) := by
  obtain ⟨l, b, h, hl⟩ := rrunes_is k s hk hs hk2
  rw [ref03_Right.f_eq, h]
  simp only [bnd_some]
  refine loop_tot l.length (fun n i => ref03_Right.l3 k n l b (i : Int)) (fun n i hi ih => ?_) (fun n => ?_) k 0 (by omega) (by omega)
  · have e3 : iadd .i64 (i : Int) 1 = ((i + 1 : Nat) : Int) := iadd_nat (by omega)
    simp only [ref03_Right.l3_eq, ilt_nat, inL_nat, hi, decide_true, br_true, e3]
    exact bnd_tot' (rmay_tot k _) fun r => br_tot (some_tot _) ih
  · simp only [ref03_Right.l3_eq, ilt_nat, Nat.lt_irrefl, decide_false, br_false]
    repeat' first | exact some_tot _ | apply br_tot
def ShortP (p : List Str) : Prop := p.length ≤ 12 ∧ ∀ s ∈ p, List.length s ≤ 120
theorem rpath_tot (k : Nat) (p : List Str) (hp : ShortP p) (hk : 1000 < k) (hk2 : k < 1000000) : Tot (ref10_Check.f k p) := by
  rw [ref10_Check.f_eq]
  refine br_tot (some_tot _) (br_tot (some_tot _) ?_)
  have := hp.1
  refine loop_tot p.length (fun n i => ref10_Check.l6 k n p (i : Int)) (fun n i hi ih => ?_) (fun n => ?_) k 0 (by omega) (by omega)
  · have e3 : iadd .i64 (i : Int) 1 = ((i + 1 : Nat) : Int) := iadd_nat (by omega)
    simp only [ref10_Check.l6_eq, ilt_nat, inL_nat, natOf_nat, hi, decide_true, br_true, e3, rd_at' (e := .str) hi]
    have := hp.2 p[i] (List.getElem_mem hi)
    exact bnd_tot' (rname_tot k _ (by omega) (by omega) hk2) fun r => br_tot (some_tot _) ih
  · simp only [ref10_Check.l6_eq, ilt_nat, Nat.lt_irrefl, decide_false, br_false]
    exact some_tot _
theorem rval_tot (k : Nat) (v : Val) (hv : v.2.2.length ≤ 200) (hk : 1000 < k) (hk2 : k < 1000000) : Tot (ref09_Right.f k v) := by
  rw [ref09_Right.f_eq]
  obtain ⟨l, b, h, hl⟩ := rrunes_is k v.2.2 (by omega) (by omega) hk2
  rw [h]
  simp only [bnd_some]
  repeat' first | exact some_tot _ | apply br_tot
theorem rrefs_tot (k : Nat) (l : List (Dot × Int)) (hl : l.length ≤ 300) (hk : 1000 < k) (hk2 : k < 1000000) : Tot (ref11_Refs.f k l) := by
  rw [ref11_Refs.f_eq]
  refine loop_tot l.length (fun n i => ref11_Refs.l2 k n l (i : Int)) (fun n i hi ih => ?_) (fun n => ?_) k 0 (by omega) (by omega)
  · have e3 : iadd .i64 (i : Int) 1 = ((i + 1 : Nat) : Int) := iadd_nat (by omega)
    have e4 : ilt 0 (i : Int) = decide (0 < i) := ilt_nn 0 i
    simp only [ref11_Refs.l2_eq, ilt_nat, inL_nat, hi, decide_true, br_true, e3, rright_is, bnd_some, e4]
    refine br_tot (some_tot _) (br_tot (some_tot _) (br_tot (some_tot _) ?_))
    by_cases h0 : 0 < i
    · have hi1 : i - 1 < l.length := by omega
      have e5 : isub .i64 (i : Int) 1 = ((i - 1 : Nat) : Int) := by rw [isub_s (by omega) (by omega) (by omega) (by omega)]; omega
      simp only [h0, decide_true, br_true, e5, inL_nat, hi1, ref04_Refs.f_eq, rcmp_is, bnd_some]
      refine bnd_tot' (br_tot (some_tot _) (bnd_tot' ?_ fun r => some_tot _)) fun r => br_tot (some_tot _) ih
      rw [ref04_ints.f_eq]
      repeat' first | exact some_tot _ | apply br_tot
    · simp only [h0, decide_false, br_false]; exact ih
  · simp only [ref11_Refs.l2_eq, ilt_nat, Nat.lt_irrefl, decide_false, br_false]
    exact some_tot _
structure ShortO (o : Op) : Prop where
  path : ShortP o.2.1
  val : o.2.2.1.2.2.length ≤ 200
  seen : o.2.2.2.2.length ≤ 300
theorem rgone_tot (k : Nat) (o : Op) : Tot (ref11_Gone.f k o) := by
  rw [ref11_Gone.f_eq]
  repeat' first | exact some_tot _ | apply br_tot
theorem rop_tot (k : Nat) (o : Op) (ho : ShortO o) (hk : 1000 < k) (hk2 : k < 1000000) : Tot (ref11_Check.f k o) := by
  rw [ref11_Check.f_eq]
  obtain ⟨r1, h1⟩ := rpath_tot k _ ho.path hk hk2
  obtain ⟨r2, h2⟩ := rval_tot k _ ho.val hk hk2
  obtain ⟨r3, h3⟩ := rrefs_tot k _ ho.seen hk hk2
  rw [h1, h2, h3]
  simp only [bnd_some]
  repeat' first | exact some_tot _ | apply br_tot
structure ShortT (t : Txn) : Prop where
  len : t.2.2.2.2.length ≤ 20
  ops : ∀ o ∈ t.2.2.2.2, ShortO o
theorem rpathshort_is (k : Nat) (p : List Str) (hk : 1000 < k) (hk2 : k < 1000000) : ∃ b, ref10_Short.f k p = some b ∧ (b = true → ShortP p) := by
  rw [ref10_Short.f_eq, show ilt 12 (ilen p) = decide (12 < p.length) from ilt_lenR 12 p]
  by_cases h : 12 < p.length
  · rw [decide_eq_true h]; exact ⟨false, rfl, fun h => by cases h⟩
  · rw [decide_eq_false h]
    simp only [br_false]
    obtain ⟨b, hb, hbi⟩ := loop_all' p.length (fun n i => ref10_Short.l4 k n p (i : Int)) (fun j => ∀ s, p[j]? = some s → List.length s ≤ 120) (fun n i hi => by
      have e3 : iadd .i64 (i : Int) 1 = ((i + 1 : Nat) : Int) := iadd_nat (by omega)
      have e4 : ilt 120 (ilen p[i]) = decide (120 < List.length p[i]) := ilt_lenR 120 p[i]
      simp only [ref10_Short.l4_eq, ilt_nat, inL_nat, natOf_nat, hi, decide_true, br_true, e3, rd_at' (e := .str) hi, e4, br_dec, List.getElem?_eq_getElem hi]
      by_cases hl : 120 < List.length p[i]
      · exact .inr ⟨fun hh => by have := hh _ rfl; omega, if_pos hl⟩
      · exact .inl ⟨fun s hs => by injection hs with hs; subst hs; omega, if_neg hl⟩) (fun n => by simp only [ref10_Short.l4_eq, ilt_nat, Nat.lt_irrefl, decide_false, br_false]) k 0 (by omega) (by omega)
    refine ⟨b, hb, fun hh => ⟨by omega, fun s hs => ?_⟩⟩
    obtain ⟨j, hj, rfl⟩ := List.mem_iff_getElem.1 hs
    exact hbi.1 hh j (by omega) hj _ (List.getElem?_eq_getElem hj)
theorem ropshort_is (k : Nat) (o : Op) (hk : 1000 < k) (hk2 : k < 1000000) : ∃ b, ref11_Short.f k o = some b ∧ (b = true → ShortO o) := by
  obtain ⟨b, hb, hbi⟩ := rpathshort_is k o.2.1 hk hk2
  rw [ref11_Short.f_eq, hb]
  simp only [bnd_some]
  rw [show ile (ilen o.2.2.1.2.2) 200 = decide (o.2.2.1.2.2.length ≤ 200) from ile_len 200 _, show ile (ilen o.2.2.2.2) 300 = decide (o.2.2.2.2.length ≤ 300) from ile_len 300 _]
  cases b with
  | false => exact ⟨false, rfl, fun h => by cases h⟩
  | true =>
    simp only [br_true, br_dec]
    by_cases h : o.2.2.1.2.2.length ≤ 200
    · rw [if_pos h]; exact ⟨_, rfl, fun hh => ⟨hbi rfl, h, of_decide_eq_true hh⟩⟩
    · rw [if_neg h]; exact ⟨false, rfl, fun h => by cases h⟩
def shortAt (k : Nat) (t : Txn) (j : Nat) : Prop := ∀ o, t.2.2.2.2[j]? = some o → ∃ b, ref11_Short.f k o = some b ∧ b = true
theorem rtxnshort_is (k : Nat) (t : Txn) (hk : 1000 < k) (hk2 : k < 1000000) : ∃ b, ref12_Short.f k t = some b ∧ (b = true → ShortT t) := by
  rw [ref12_Short.f_eq, show ilt 20 (ilen t.2.2.2.2) = decide (20 < t.2.2.2.2.length) from ilt_lenR 20 _]
  by_cases h : 20 < t.2.2.2.2.length
  · rw [decide_eq_true h]; exact ⟨false, rfl, fun h => by cases h⟩
  · rw [decide_eq_false h]
    simp only [br_false]
    obtain ⟨b, hb, hbi⟩ := loop_all' t.2.2.2.2.length (fun n i => br (decide True) (ref12_Short.l4 k n (i : Int) t) none) (shortAt k t) (fun n i hi => by
      have e3 : iadd .i64 (i : Int) 1 = ((i + 1 : Nat) : Int) := iadd_nat (by omega)
      obtain ⟨b, hb, _⟩ := ropshort_is k t.2.2.2.2[i] hk hk2
      simp only [decide_true, br_true, ref12_Short.l4_eq, ilt_nat, inL_nat, natOf_nat, hi, e3, rd_at' (e := tOp) hi, hb, bnd_some]
      cases b with
      | false => exact .inr ⟨fun hh => (by obtain ⟨c, h1, h2⟩ := hh _ (List.getElem?_eq_getElem hi); rw [hb] at h1; injection h1 with h1; subst h1; cases h2), rfl⟩
      | true => exact .inl ⟨fun s hs => (by rw [List.getElem?_eq_getElem hi] at hs; injection hs with hs; subst hs; exact ⟨true, hb, rfl⟩), rfl⟩) (fun n => by simp only [decide_true, br_true, ref12_Short.l4_eq, ilt_nat, Nat.lt_irrefl, decide_false, br_false]) k 0 (by omega) (by omega)
    refine ⟨b, hb, fun hh => ⟨by omega, fun o ho => ?_⟩⟩
    obtain ⟨j, hj, rfl⟩ := List.mem_iff_getElem.1 ho
    obtain ⟨c, h1, h2⟩ := hbi.1 hh j (by omega) hj _ (List.getElem?_eq_getElem hj)
    obtain ⟨d, h3, h4⟩ := ropshort_is k _ hk hk2
    rw [h3] at h1; injection h1 with h1; subst h1
    exact h4 h2
theorem rtxn_is (k : Nat) (t : Txn) (ht : ShortT t) (hk : 1000 < k) (hk2 : k < 1000000) : ∃ e : Int, ref12_Check.f k t = some e ∧ (e = 0 → rightD t.1 = true) := by
  rw [ref12_Check.f_eq, rright_is]
  simp only [bnd_some]
  cases hd : rightD t.1 with
  | false => exact ⟨2, rfl, fun h => by cases h⟩
  | true =>
    have : Tot (ref12_Check.l8 k k 0 t) := by
      have := ht.len
      refine loop_tot t.2.2.2.2.length (fun n i => ref12_Check.l8 k n (i : Int) t) (fun n i hi ih => ?_) (fun n => ?_) k 0 (by omega) (by omega)
      · have e3 : iadd .i64 (i : Int) 1 = ((i + 1 : Nat) : Int) := iadd_nat (by omega)
        obtain ⟨e, he⟩ := rop_tot k t.2.2.2.2[i] (ht.ops _ (List.getElem_mem hi)) hk hk2
        obtain ⟨g, hg⟩ := rgone_tot k t.2.2.2.2[i]
        simp only [ref12_Check.l8_eq, ilt_nat, inL_nat, natOf_nat, hi, decide_true, br_true, e3, rd_at' (e := tOp) hi, he, hg, bnd_some]
        exact br_tot (br_tot (br_tot (some_tot _) ih) (br_tot (some_tot _) ih)) ih
      · simp only [ref12_Check.l8_eq, ilt_nat, Nat.lt_irrefl, decide_false, br_false]
        exact some_tot _
    have bt : bnot true = false := rfl
    rw [bt]
    simp only [br_false]
    have all : Tot (br (ilt t.2.1 0) (some (2 : Int)) (br (ilt 7 t.2.1) (some 2) (br (ilt t.2.2.1 1) (some 2) (br (ilt 1099511627776 t.2.2.1) (some 2) (br (ieq (ilen t.2.2.2.2) 0) (some 11) (br (ilt 16 (ilen t.2.2.2.2)) (some 7) (ref12_Check.l8 k k 0 t))))))) := by
      repeat' first | exact some_tot _ | exact this | apply br_tot
    obtain ⟨e, he⟩ := all
    exact ⟨e, he, fun _ => trivial⟩
end Go.Proofs.YtbiihldcljemfaaGreatDoor
end
section
/- The document's characters are the machine's. -/
set_option linter.unusedVariables false
set_option linter.unusedSimpArgs false
namespace Go.Proofs.YtbiihldcljemfaaGreatDoor
open Pal
def finN (x m w : Nat) : Nat × Nat := if x < m ∨ 1114111 < x ∨ (55296 ≤ x ∧ x ≤ 57343) then (0, 0) else (x, w)
def refN (n b0 b1 b2 b3 : Nat) : Nat × Nat :=
  if b0 < 128 then (b0, 1)
  else if 194 ≤ b0 ∧ b0 < 224 then (if n < 2 then (0, 0) else if b1 < 128 ∨ 191 < b1 then (0, 0) else finN (64 * (b0 - 192) + b1 - 128) 128 2)
  else if 224 ≤ b0 ∧ b0 < 240 then (if n < 3 then (0, 0) else if b1 < 128 ∨ 191 < b1 then (0, 0) else if b2 < 128 ∨ 191 < b2 then (0, 0) else finN (64 * (64 * (b0 - 224) + b1 - 128) + b2 - 128) 2048 3)
  else if 240 ≤ b0 ∧ b0 < 245 then (if n < 4 then (0, 0) else if b1 < 128 ∨ 191 < b1 then (0, 0) else if b2 < 128 ∨ 191 < b2 then (0, 0) else if b3 < 128 ∨ 191 < b3 then (0, 0) else finN (64 * (64 * (64 * (b0 - 240) + b1 - 128) + b2 - 128) + b3 - 128) 65536 4)
  else (0, 0)
def charN (n b0 b1 b2 b3 : Nat) : Nat × Nat := if (Go.Lib.decodeN n b0 b1 b2 b3).1 = 65533 ∧ (Go.Lib.decodeN n b0 b1 b2 b3).2 ≤ 1 then (0, 0) else Go.Lib.decodeN n b0 b1 b2 b3
theorem charN_bad {n b0 b1 b2 b3 : Nat} (e : Go.Lib.decodeN n b0 b1 b2 b3 = (65533, 1)) : charN n b0 b1 b2 b3 = (0, 0) := by
  unfold charN; rw [e]; exact if_pos ⟨rfl, Nat.le_refl _⟩
theorem charN_ok {n b0 b1 b2 b3 c w : Nat} (e : Go.Lib.decodeN n b0 b1 b2 b3 = (c, w)) (h : ¬ (c = 65533 ∧ w ≤ 1)) : charN n b0 b1 b2 b3 = (c, w) := by
  unfold charN; rw [e]; exact if_neg h
theorem decN2 {n b0 b1 b2 b3 : Nat} (h : 194 ≤ b0 ∧ b0 < 224) : Go.Lib.decodeN n b0 b1 b2 b3 = if 1 < n ∧ b1 / 64 = 2 then (b0 % 32 * 64 + b1 % 64, 2) else (65533, 1) := by
  unfold Go.Lib.decodeN
  rw [if_neg (show ¬ b0 < 128 by omega)]
  by_cases g : 1 < n ∧ b1 / 64 = 2
  · rw [if_pos (show b0 / 32 = 6 ∧ (1 < n ∧ b1 / 64 = 2) from ⟨by omega, g⟩), if_pos g, if_pos (show b0 % 32 * 64 + b1 % 64 ≥ 128 by omega)]
  · rw [if_neg (show ¬ (b0 / 32 = 6 ∧ (1 < n ∧ b1 / 64 = 2)) from fun h => g h.2), if_neg g, if_neg (fun hh => by omega), if_neg (fun hh => by omega)]
def val3 (b0 b1 b2 : Nat) : Nat := b0 % 16 * 4096 + b1 % 64 * 64 + b2 % 64
def val4 (b0 b1 b2 b3 : Nat) : Nat := b0 % 8 * 262144 + b1 % 64 * 4096 + b2 % 64 * 64 + b3 % 64
theorem decN3 {n b0 b1 b2 b3 : Nat} (h : 224 ≤ b0 ∧ b0 < 240) : Go.Lib.decodeN n b0 b1 b2 b3 = if (1 < n ∧ b1 / 64 = 2) ∧ (2 < n ∧ b2 / 64 = 2) then (if val3 b0 b1 b2 ≥ 2048 ∧ (val3 b0 b1 b2 < 55296 ∨ (57344 ≤ val3 b0 b1 b2 ∧ val3 b0 b1 b2 ≤ 1114111)) then (val3 b0 b1 b2, 3) else (65533, 1)) else (65533, 1) := by
  unfold Go.Lib.decodeN
  rw [if_neg (show ¬ b0 < 128 by omega), if_neg (show ¬ (b0 / 32 = 6 ∧ (1 < n ∧ b1 / 64 = 2)) from fun hh => by omega)]
  by_cases g : (1 < n ∧ b1 / 64 = 2) ∧ (2 < n ∧ b2 / 64 = 2)
  · rw [if_pos (show b0 / 16 = 14 ∧ (1 < n ∧ b1 / 64 = 2) ∧ (2 < n ∧ b2 / 64 = 2) from ⟨by omega, g⟩), if_pos g]; rfl
  · rw [if_neg (show ¬ (b0 / 16 = 14 ∧ (1 < n ∧ b1 / 64 = 2) ∧ (2 < n ∧ b2 / 64 = 2)) from fun h => g h.2), if_neg g, if_neg (fun hh => by omega)]
theorem decN4 {n b0 b1 b2 b3 : Nat} (h : 240 ≤ b0 ∧ b0 < 248) : Go.Lib.decodeN n b0 b1 b2 b3 = if (1 < n ∧ b1 / 64 = 2) ∧ (2 < n ∧ b2 / 64 = 2) ∧ (3 < n ∧ b3 / 64 = 2) then (if val4 b0 b1 b2 b3 ≥ 65536 ∧ (val4 b0 b1 b2 b3 < 55296 ∨ (57344 ≤ val4 b0 b1 b2 b3 ∧ val4 b0 b1 b2 b3 ≤ 1114111)) then (val4 b0 b1 b2 b3, 4) else (65533, 1)) else (65533, 1) := by
  unfold Go.Lib.decodeN
  rw [if_neg (show ¬ b0 < 128 by omega), if_neg (show ¬ (b0 / 32 = 6 ∧ (1 < n ∧ b1 / 64 = 2)) from fun hh => by omega), if_neg (show ¬ (b0 / 16 = 14 ∧ (1 < n ∧ b1 / 64 = 2) ∧ (2 < n ∧ b2 / 64 = 2)) from fun hh => by omega)]
  by_cases g : (1 < n ∧ b1 / 64 = 2) ∧ (2 < n ∧ b2 / 64 = 2) ∧ (3 < n ∧ b3 / 64 = 2)
  · rw [if_pos (show b0 / 8 = 30 ∧ (1 < n ∧ b1 / 64 = 2) ∧ (2 < n ∧ b2 / 64 = 2) ∧ (3 < n ∧ b3 / 64 = 2) from ⟨by omega, g⟩), if_pos g]; rfl
  · rw [if_neg (show ¬ (b0 / 8 = 30 ∧ (1 < n ∧ b1 / 64 = 2) ∧ (2 < n ∧ b2 / 64 = 2) ∧ (3 < n ∧ b3 / 64 = 2)) from fun h => g h.2), if_neg g]
theorem decN0 {n b0 b1 b2 b3 : Nat} (h : (128 ≤ b0 ∧ b0 < 194) ∨ 248 ≤ b0) (hb : b0 < 256) : Go.Lib.decodeN n b0 b1 b2 b3 = (65533, 1) := by
  unfold Go.Lib.decodeN
  rw [if_neg (show ¬ b0 < 128 by omega)]
  by_cases g : b0 / 32 = 6 ∧ (1 < n ∧ b1 / 64 = 2)
  · rw [if_pos g, if_neg (show ¬ b0 % 32 * 64 + b1 % 64 ≥ 128 by omega)]
  · rw [if_neg g, if_neg (show ¬ (b0 / 16 = 14 ∧ (1 < n ∧ b1 / 64 = 2) ∧ (2 < n ∧ b2 / 64 = 2)) from fun hh => by omega), if_neg (show ¬ (b0 / 8 = 30 ∧ (1 < n ∧ b1 / 64 = 2) ∧ (2 < n ∧ b2 / 64 = 2) ∧ (3 < n ∧ b3 / 64 = 2)) from fun hh => by omega)]
theorem finN_no {x m w : Nat} (h : ¬ (x ≥ m ∧ (x < 55296 ∨ (57344 ≤ x ∧ x ≤ 1114111)))) : finN x m w = (0, 0) := if_pos (by omega)
theorem finN_ok {x m w : Nat} (h : x ≥ m ∧ (x < 55296 ∨ (57344 ≤ x ∧ x ≤ 1114111))) : finN x m w = (x, w) := if_neg (by omega)
theorem refN_eq (n b0 b1 b2 b3 : Nat) (hn : 1 ≤ n) (h0 : b0 < 256) (h1 : b1 < 256) (h2 : b2 < 256) (h3 : b3 < 256) : refN n b0 b1 b2 b3 = charN n b0 b1 b2 b3 := by
  unfold refN
  by_cases c0 : b0 < 128
  · have e : Go.Lib.decodeN n b0 b1 b2 b3 = (b0, 1) := by unfold Go.Lib.decodeN; rw [if_pos c0]
    rw [if_pos c0, charN_ok e (fun h => by omega)]
  rw [if_neg c0]
  by_cases c1 : 194 ≤ b0 ∧ b0 < 224
  · rw [if_pos c1]
    have e := decN2 (n := n) (b1 := b1) (b2 := b2) (b3 := b3) c1
    by_cases g : 1 < n ∧ b1 / 64 = 2
    · rw [if_pos g] at e
      rw [charN_ok e (fun h => by omega), if_neg (show ¬ n < 2 by omega), if_neg (show ¬ (b1 < 128 ∨ 191 < b1) by omega), show 64 * (b0 - 192) + b1 - 128 = b0 % 32 * 64 + b1 % 64 by omega]
      exact finN_ok (by omega)
    · rw [if_neg g] at e
      rw [charN_bad e]
      by_cases g1 : n < 2
      · rw [if_pos g1]
      · rw [if_neg g1, if_pos (show b1 < 128 ∨ 191 < b1 by omega)]
  rw [if_neg c1]
  by_cases c2 : 224 ≤ b0 ∧ b0 < 240
  · rw [if_pos c2]
    have e := decN3 (n := n) (b1 := b1) (b2 := b2) (b3 := b3) c2
    by_cases g : (1 < n ∧ b1 / 64 = 2) ∧ (2 < n ∧ b2 / 64 = 2)
    · rw [if_pos g] at e
      rw [if_neg (show ¬ n < 3 by omega), if_neg (show ¬ (b1 < 128 ∨ 191 < b1) by omega), if_neg (show ¬ (b2 < 128 ∨ 191 < b2) by omega), show 64 * (64 * (b0 - 224) + b1 - 128) + b2 - 128 = val3 b0 b1 b2 by unfold val3; omega]
      by_cases q : val3 b0 b1 b2 ≥ 2048 ∧ (val3 b0 b1 b2 < 55296 ∨ (57344 ≤ val3 b0 b1 b2 ∧ val3 b0 b1 b2 ≤ 1114111))
      · rw [if_pos q] at e
        rw [charN_ok e (fun h => by omega), finN_ok q]
      · rw [if_neg q] at e
        rw [charN_bad e, finN_no q]
    · rw [if_neg g] at e
      rw [charN_bad e]
      by_cases g1 : n < 3
      · rw [if_pos g1]
      · rw [if_neg g1]
        by_cases g2 : b1 < 128 ∨ 191 < b1
        · rw [if_pos g2]
        · rw [if_neg g2, if_pos (show b2 < 128 ∨ 191 < b2 by omega)]
  rw [if_neg c2]
  by_cases c3 : 240 ≤ b0 ∧ b0 < 245
  · rw [if_pos c3]
    have e := decN4 (n := n) (b1 := b1) (b2 := b2) (b3 := b3) (show 240 ≤ b0 ∧ b0 < 248 by omega)
    by_cases g : (1 < n ∧ b1 / 64 = 2) ∧ (2 < n ∧ b2 / 64 = 2) ∧ (3 < n ∧ b3 / 64 = 2)
    · rw [if_pos g] at e
      rw [if_neg (show ¬ n < 4 by omega), if_neg (show ¬ (b1 < 128 ∨ 191 < b1) by omega), if_neg (show ¬ (b2 < 128 ∨ 191 < b2) by omega), if_neg (show ¬ (b3 < 128 ∨ 191 < b3) by omega), show 64 * (64 * (64 * (b0 - 240) + b1 - 128) + b2 - 128) + b3 - 128 = val4 b0 b1 b2 b3 by unfold val4; omega]
      by_cases q : val4 b0 b1 b2 b3 ≥ 65536 ∧ (val4 b0 b1 b2 b3 < 55296 ∨ (57344 ≤ val4 b0 b1 b2 b3 ∧ val4 b0 b1 b2 b3 ≤ 1114111))
      · rw [if_pos q] at e
        rw [charN_ok e (fun h => by omega), finN_ok q]
      · rw [if_neg q] at e
        rw [charN_bad e, finN_no q]
    · rw [if_neg g] at e
      rw [charN_bad e]
      by_cases g1 : n < 4
      · rw [if_pos g1]
      · rw [if_neg g1]
        by_cases g2 : b1 < 128 ∨ 191 < b1
        · rw [if_pos g2]
        · rw [if_neg g2]
          by_cases g3 : b2 < 128 ∨ 191 < b2
          · rw [if_pos g3]
          · rw [if_neg g3, if_pos (show b3 < 128 ∨ 191 < b3 by omega)]
  · rw [if_neg c3]
    by_cases c4 : 245 ≤ b0 ∧ b0 < 248
    · have e := decN4 (n := n) (b1 := b1) (b2 := b2) (b3 := b3) (show 240 ≤ b0 ∧ b0 < 248 by omega)
      have hv : ¬ (val4 b0 b1 b2 b3 ≥ 65536 ∧ (val4 b0 b1 b2 b3 < 55296 ∨ (57344 ≤ val4 b0 b1 b2 b3 ∧ val4 b0 b1 b2 b3 ≤ 1114111))) := by unfold val4; omega
      rw [if_neg hv, ite_self] at e
      rw [charN_bad e]
    · rw [charN_bad (decN0 (by omega) h0)]
def byt (t : Str) (i : Nat) : Nat := (List.getD t i 0).toNat
theorem byt_lt (t : Str) (i : Nat) : byt t i < 256 := UInt8.toNat_lt _
theorem byt_at (t : Str) (i : Nat) : byteAt t (i : Int) = (byt t i : Int) := rfl
theorem l17_end (k n N x m : Nat) (t : Str) : ref03_Char.l17 k (n + 1) t (x : Int) (N : Int) (m : Int) (N : Int) = some (((finN x m N).1 : Int), ((finN x m N).2 : Int)) := by
  rw [ref03_Char.l17_eq, ilt_nn, decide_eq_false (Nat.lt_irrefl _), br_false, ilt_nn]
  unfold finN
  by_cases h1 : x < m
  · rw [decide_eq_true h1, br_true, if_pos (.inl h1)]; rfl
  · rw [decide_eq_false h1, br_false, show ilt (1114111 : Int) (x : Int) = decide (1114111 < x) from ilt_nn 1114111 x]
    by_cases h2 : 1114111 < x
    · rw [decide_eq_true h2, br_true, if_pos (.inr (.inl h2))]; rfl
    · rw [decide_eq_false h2, br_false, show ile (55296 : Int) (x : Int) = decide (55296 ≤ x) from decide_eq_decide.2 ⟨fun h => by omega, fun h => by omega⟩]
      by_cases h3 : 55296 ≤ x
      · rw [decide_eq_true h3, br_true, show ile (x : Int) (57343 : Int) = decide (x ≤ 57343) from decide_eq_decide.2 ⟨fun h => by omega, fun h => by omega⟩]
        by_cases h4 : x ≤ 57343
        · rw [decide_eq_true h4, br_true, if_pos (.inr (.inr ⟨h3, h4⟩))]; rfl
        · rw [decide_eq_false h4, br_false, if_neg (by omega)]
      · rw [decide_eq_false h3, br_false, if_neg (by omega)]
theorem l17_step (k n N x m i : Nat) (t : Str) (hi : i < N) (hN : N ≤ t.length) (hx : x < 1000000) (hi4 : i < 100) :
    ref03_Char.l17 k (n + 1) t (x : Int) (N : Int) (m : Int) (i : Int) = if byt t i < 128 ∨ 191 < byt t i then some (0, 0) else ref03_Char.l17 k n t ((64 * x + byt t i - 128 : Nat) : Int) (N : Int) (m : Int) ((i + 1 : Nat) : Int) := by
  have hb := byt_lt t i
  rw [ref03_Char.l17_eq, ilt_nn, decide_eq_true hi, br_true, inL_nat, decide_eq_true (show i < t.length by omega), br_true, byt_at, show ilt ((byt t i : Nat) : Int) 128 = decide (byt t i < 128) from ilt_nn _ 128,
    show ilt (191 : Int) ((byt t i : Nat) : Int) = decide (191 < byt t i) from ilt_nn 191 _]
  by_cases h1 : byt t i < 128
  · rw [decide_eq_true h1, br_true, if_pos (.inl h1)]
  · rw [decide_eq_false h1, br_false, br_true]
    by_cases h2 : 191 < byt t i
    · rw [decide_eq_true h2, br_true, if_pos (.inr h2)]
    · have e1 : iwrap .i64 ((byt t i : Nat) : Int) = ((byt t i : Nat) : Int) := by
        show IntKind.wrap .i64 _ = _
        rw [IntKind.wrap_i64]; omega
      have e2 : imul .i64 64 (x : Int) = ((64 * x : Nat) : Int) := by
        show IntKind.wrap .i64 (64 * (x : Int)) = _
        rw [IntKind.wrap_i64]; omega
      have e3 : iadd .i64 ((64 * x : Nat) : Int) ((byt t i : Nat) : Int) = ((64 * x + byt t i : Nat) : Int) := by
        show IntKind.wrap .i64 (((64 * x : Nat) : Int) + ((byt t i : Nat) : Int)) = _
        rw [IntKind.wrap_i64]; omega
      have e4 : isub .i64 ((64 * x + byt t i : Nat) : Int) 128 = ((64 * x + byt t i - 128 : Nat) : Int) := by
        show IntKind.wrap .i64 (((64 * x + byt t i : Nat) : Int) - 128) = _
        rw [IntKind.wrap_i64]; omega
      rw [decide_eq_false h2, br_false, br_true, e1, e2, e3, e4, iadd_nat (show i < 4611686018427387904 by omega), if_neg (by omega)]
theorem rchar_eq (k : Nat) (t : Str) (hk : 10 < k) (h0 : t ≠ []) : ref03_Char.f k t = some (((refN t.length (byt t 0) (byt t 1) (byt t 2) (byt t 3)).1 : Int), ((refN t.length (byt t 0) (byt t 1) (byt t 2) (byt t 3)).2 : Int)) := by
  have hl : 0 < t.length := List.length_pos_iff.2 h0
  obtain ⟨q, rfl⟩ : ∃ q, k = q + 5 := ⟨k - 5, by omega⟩
  have hb := byt_lt t 0; have hb1 := byt_lt t 1; have hb2 := byt_lt t 2; have hb3 := byt_lt t 3
  have e0 : ieq (ilen t) 0 = decide (t.length = 0) := ieq0 t
  have e1 : inL 0 t = true := by
    rw [show inL 0 t = decide (0 < t.length) from inL_nat 0 t]; exact decide_eq_true hl
  have l2 : ∀ c : Nat, ilt (ilen t) (c : Int) = decide (t.length < c) := fun c => by unfold ilt ilen; exact decide_eq_decide.2 ⟨fun h => by omega, fun h => by omega⟩
  have eb : iwrap .i64 (byteAt t 0) = ((byt t 0 : Nat) : Int) := by
    show IntKind.wrap .i64 ((byt t 0 : Nat) : Int) = _
    rw [IntKind.wrap_i64]; omega
  have m2 : ∀ x : Nat, x < 100 → 2 ≤ t.length → ref03_Char.l17 (q + 5) (q + 5) t (x : Int) 2 128 1 = some (((if byt t 1 < 128 ∨ 191 < byt t 1 then (0, 0) else finN (64 * x + byt t 1 - 128) 128 2 : Nat × Nat).1 : Int), ((if byt t 1 < 128 ∨ 191 < byt t 1 then (0, 0) else finN (64 * x + byt t 1 - 128) 128 2 : Nat × Nat).2 : Int)) := fun x hx h2 => by
    have s1 := l17_step (q + 5) (q + 4) 2 x 128 1 t (by omega) h2 (by omega) (by omega)
    have s2 := l17_end (q + 5) (q + 3) 2 (64 * x + byt t 1 - 128) 128 t
    refine s1.trans ?_
    by_cases h : byt t 1 < 128 ∨ 191 < byt t 1
    · rw [if_pos h, if_pos h]; rfl
    · rw [if_neg h, if_neg h]; exact s2
  have m3 : ∀ x : Nat, x < 100 → 3 ≤ t.length → ref03_Char.l17 (q + 5) (q + 5) t (x : Int) 3 2048 1 = some (((if byt t 1 < 128 ∨ 191 < byt t 1 then (0, 0) else if byt t 2 < 128 ∨ 191 < byt t 2 then (0, 0) else finN (64 * (64 * x + byt t 1 - 128) + byt t 2 - 128) 2048 3 : Nat × Nat).1 : Int), ((if byt t 1 < 128 ∨ 191 < byt t 1 then (0, 0) else if byt t 2 < 128 ∨ 191 < byt t 2 then (0, 0) else finN (64 * (64 * x + byt t 1 - 128) + byt t 2 - 128) 2048 3 : Nat × Nat).2 : Int)) := fun x hx h2 => by
    have s1 := l17_step (q + 5) (q + 4) 3 x 2048 1 t (by omega) h2 (by omega) (by omega)
    have s2 := l17_step (q + 5) (q + 3) 3 (64 * x + byt t 1 - 128) 2048 2 t (by omega) h2 (by omega) (by omega)
    have s3 := l17_end (q + 5) (q + 2) 3 (64 * (64 * x + byt t 1 - 128) + byt t 2 - 128) 2048 t
    refine s1.trans ?_
    by_cases h : byt t 1 < 128 ∨ 191 < byt t 1
    · rw [if_pos h, if_pos h]; rfl
    · rw [if_neg h, if_neg h]
      refine s2.trans ?_
      by_cases h' : byt t 2 < 128 ∨ 191 < byt t 2
      · rw [if_pos h', if_pos h']; rfl
      · rw [if_neg h', if_neg h']; exact s3
  have m4 : ∀ x : Nat, x < 100 → 4 ≤ t.length → ref03_Char.l17 (q + 5) (q + 5) t (x : Int) 4 65536 1 = some (((if byt t 1 < 128 ∨ 191 < byt t 1 then (0, 0) else if byt t 2 < 128 ∨ 191 < byt t 2 then (0, 0) else if byt t 3 < 128 ∨ 191 < byt t 3 then (0, 0) else finN (64 * (64 * (64 * x + byt t 1 - 128) + byt t 2 - 128) + byt t 3 - 128) 65536 4 : Nat × Nat).1 : Int), ((if byt t 1 < 128 ∨ 191 < byt t 1 then (0, 0) else if byt t 2 < 128 ∨ 191 < byt t 2 then (0, 0) else if byt t 3 < 128 ∨ 191 < byt t 3 then (0, 0) else finN (64 * (64 * (64 * x + byt t 1 - 128) + byt t 2 - 128) + byt t 3 - 128) 65536 4 : Nat × Nat).2 : Int)) := fun x hx h2 => by
    have s1 := l17_step (q + 5) (q + 4) 4 x 65536 1 t (by omega) h2 (by omega) (by omega)
    have s2 := l17_step (q + 5) (q + 3) 4 (64 * x + byt t 1 - 128) 65536 2 t (by omega) h2 (by omega) (by omega)
    have s3 := l17_step (q + 5) (q + 2) 4 (64 * (64 * x + byt t 1 - 128) + byt t 2 - 128) 65536 3 t (by omega) h2 (by omega) (by omega)
    have s4 := l17_end (q + 5) (q + 1) 4 (64 * (64 * (64 * x + byt t 1 - 128) + byt t 2 - 128) + byt t 3 - 128) 65536 t
    refine s1.trans ?_
    by_cases h : byt t 1 < 128 ∨ 191 < byt t 1
    · rw [if_pos h, if_pos h]; rfl
    · rw [if_neg h, if_neg h]
      refine s2.trans ?_
      by_cases h' : byt t 2 < 128 ∨ 191 < byt t 2
      · rw [if_pos h', if_pos h']; rfl
      · rw [if_neg h', if_neg h']
        refine s3.trans ?_
        by_cases h'' : byt t 3 < 128 ∨ 191 < byt t 3
        · rw [if_pos h'', if_pos h'']; rfl
        · rw [if_neg h'', if_neg h'']; exact s4
  have bl : ∀ c : Nat, ilt ((byt t 0 : Nat) : Int) (c : Int) = decide (byt t 0 < c) := fun c => ilt_nn _ c
  have bg : ∀ c : Nat, ile (c : Int) ((byt t 0 : Nat) : Int) = decide (c ≤ byt t 0) := fun c => decide_eq_decide.2 ⟨fun h => by omega, fun h => by omega⟩
  have su : ∀ c : Nat, c ≤ byt t 0 → isub .i64 ((byt t 0 : Nat) : Int) (c : Int) = ((byt t 0 - c : Nat) : Int) := fun c hc => by
    show IntKind.wrap .i64 (((byt t 0 : Nat) : Int) - (c : Int)) = _
    rw [IntKind.wrap_i64]; omega
  rw [ref03_Char.f_eq, e0, decide_eq_false (by omega), br_false, e1, br_true, eb, show ilt ((byt t 0 : Nat) : Int) 128 = _ from bl 128]
  unfold refN
  by_cases c0 : byt t 0 < 128
  · rw [decide_eq_true c0, br_true, if_pos c0]; rfl
  rw [decide_eq_false c0, br_false, if_neg c0, show ile (194 : Int) ((byt t 0 : Nat) : Int) = _ from bg 194, show ilt ((byt t 0 : Nat) : Int) 224 = _ from bl 224, show ile (224 : Int) ((byt t 0 : Nat) : Int) = _ from bg 224,
    show ilt ((byt t 0 : Nat) : Int) 240 = _ from bl 240, show ile (240 : Int) ((byt t 0 : Nat) : Int) = _ from bg 240, show ilt ((byt t 0 : Nat) : Int) 245 = _ from bl 245,
    show ilt (ilen t) 2 = _ from l2 2, show ilt (ilen t) 3 = _ from l2 3, show ilt (ilen t) 4 = _ from l2 4]
  by_cases c1 : 194 ≤ byt t 0 ∧ byt t 0 < 224
  · rw [decide_eq_true c1.1, br_true, decide_eq_true c1.2, br_true, if_pos c1]
    by_cases g : t.length < 2
    · rw [decide_eq_true g, br_true, if_pos g]; rfl
    · rw [decide_eq_false g, br_false, if_neg g, show isub .i64 ((byt t 0 : Nat) : Int) 192 = _ from su 192 (by omega)]
      exact m2 _ (by omega) (by omega)
  rw [if_neg c1]
  by_cases c2 : 224 ≤ byt t 0 ∧ byt t 0 < 240
  · rw [decide_eq_true (show 194 ≤ byt t 0 by omega), br_true, decide_eq_false (show ¬ byt t 0 < 224 by omega), br_false, decide_eq_true c2.1, br_true, decide_eq_true c2.2, br_true, if_pos c2]
    by_cases g : t.length < 3
    · rw [decide_eq_true g, br_true, if_pos g]; rfl
    · rw [decide_eq_false g, br_false, if_neg g, show isub .i64 ((byt t 0 : Nat) : Int) 224 = _ from su 224 (by omega)]
      exact m3 _ (by omega) (by omega)
  rw [if_neg c2]
  by_cases c3 : 240 ≤ byt t 0 ∧ byt t 0 < 245
  · rw [decide_eq_true (show 194 ≤ byt t 0 by omega), br_true, decide_eq_false (show ¬ byt t 0 < 224 by omega), br_false, decide_eq_true (show 224 ≤ byt t 0 by omega), br_true, decide_eq_false (show ¬ byt t 0 < 240 by omega), br_false, decide_eq_true c3.1, br_true, decide_eq_true c3.2, br_true, if_pos c3]
    by_cases g : t.length < 4
    · rw [decide_eq_true g, br_true, if_pos g]; rfl
    · rw [decide_eq_false g, br_false, if_neg g, show isub .i64 ((byt t 0 : Nat) : Int) 240 = _ from su 240 (by omega)]
      exact m4 _ (by omega) (by omega)
  rw [if_neg c3]
  by_cases d1 : 194 ≤ byt t 0
  · have d2 : ¬ byt t 0 < 224 := by omega
    have d3 : 224 ≤ byt t 0 := by omega
    have d4 : ¬ byt t 0 < 240 := by omega
    have d5 : 240 ≤ byt t 0 := by omega
    have d6 : ¬ byt t 0 < 245 := by omega
    rw [decide_eq_true d1, br_true, decide_eq_false d2, br_false, decide_eq_true d3, br_true, decide_eq_false d4, br_false, decide_eq_true d5, br_true, decide_eq_false d6, br_false]; rfl
  · have d3 : ¬ 224 ≤ byt t 0 := by omega
    have d5 : ¬ 240 ≤ byt t 0 := by omega
    rw [decide_eq_false d1, br_false, decide_eq_false d3, br_false, decide_eq_false d5, br_false]; rfl
end Go.Proofs.YtbiihldcljemfaaGreatDoor
end
section
/- Names and values: the program's tests are the document's. -/
set_option linter.unusedVariables false
set_option linter.unusedSimpArgs false
namespace Go.Proofs.YtbiihldcljemfaaGreatDoor
open Pal
theorem bget (s : Str) (j : Nat) : ((⟨s.toArray⟩ : ByteArray).get! j).toNat = byt s j := by
  unfold byt
  show (s.toArray.getD j default).toNat = _
  rw [Array.getD_eq_getD_getElem?, List.getElem?_toArray, ← List.getD_eq_getElem?_getD]; rfl
theorem byt_drop (s : Str) (i j : Nat) : byt (s.drop i) j = byt s (i + j) := by
  unfold byt
  rw [List.getD_eq_getElem?_getD, List.getD_eq_getElem?_getD, List.getElem?_drop]
theorem piece_drop (s : Str) (i : Nat) : piece s (i : Int) (ilen s) = s.drop i := by
  unfold piece ilen
  rw [Int.toNat_natCast, Int.toNat_natCast, List.take_length]
theorem rchar_at (k : Nat) (s : Str) (i : Nat) (hi : i < s.length) (hk : 10 < k) :
    ref03_Char.f k (piece s (i : Int) (ilen s)) = some (if badAt ⟨s.toArray⟩ i = true then (0, 0) else (((Go.Utf8.decode ⟨s.toArray⟩ i).1 : Int), ((Go.Utf8.decode ⟨s.toArray⟩ i).2 : Int))) := by
  have hne : s.drop i ≠ [] := fun h => by have := congrArg List.length h; rw [List.length_drop, List.length_nil] at this; omega
  have hd : Go.Utf8.decode ⟨s.toArray⟩ i = Go.Lib.decodeN (s.length - i) (byt s i) (byt s (i + 1)) (byt s (i + 2)) (byt s (i + 3)) := by
    rw [Go.Lib.decode_at, bget, bget, bget, bget]; rfl
  rw [piece_drop, rchar_eq k _ hk hne, refN_eq _ _ _ _ _ (by rw [List.length_drop]; omega) (byt_lt _ _) (byt_lt _ _) (byt_lt _ _) (byt_lt _ _), List.length_drop, byt_drop, byt_drop, byt_drop, byt_drop, Nat.add_zero]
  unfold charN badAt
  rw [← hd]
  by_cases h : (Go.Utf8.decode ⟨s.toArray⟩ i).1 = 65533 ∧ (Go.Utf8.decode ⟨s.toArray⟩ i).2 ≤ 1
  · rw [if_pos h, if_pos (by rw [decide_eq_true h.1, decide_eq_true h.2]; rfl)]; rfl
  · rw [if_neg h, if_neg (fun hh => h (by simpa using hh))]
theorem rrunes_l (k : Nat) (s : Str) (hk : 10 < k) (hs : s.length < 1000000) : ∀ (f n i : Nat) (x : List Int), s.length ≤ f + i → s.length < n + i → i ≤ s.length → x.length ≤ i →
    ref03_Runes.l3 k n s x (i : Int) = some (match runesX ⟨s.toArray⟩ f i with | some l => (x ++ l, true) | none => ([], false))
  | f, 0, i, x, _, h, _, _ => by omega
  | 0, n + 1, i, x, h0, h, hi, hx => by
    have e : i = s.length := by omega
    subst e
    rw [ref03_Runes.l3_eq, ilt_nat, decide_eq_false (Nat.lt_irrefl _), br_false]
    show some (x, true) = some (x ++ [], true)
    rw [List.append_nil]
  | f + 1, n + 1, i, x, h0, h, hi, hx => by
    have hsz : (⟨s.toArray⟩ : ByteArray).size = s.length := by simp [ByteArray.size]
    rw [ref03_Runes.l3_eq, ilt_nat]
    by_cases hl : i < s.length
    · have hin : inS (i : Int) (ilen s) (ilen s) = true := by
        have h1 : (i : Int) ≤ (s.length : Int) := by omega
        show (decide ((0 : Int) ≤ (i : Int)) && decide ((i : Int) ≤ (s.length : Int)) && decide ((s.length : Int) ≤ (s.length : Int))) = true
        rw [decide_eq_true h1, decide_eq_true (show (0 : Int) ≤ (i : Int) by omega), decide_eq_true (Int.le_refl _)]; rfl
      have hw := rwidth_pos ⟨s.toArray⟩ i (by rw [hsz]; exact hl)
      obtain ⟨c, q, hc, q0, q1⟩ := rchar_is k (piece s (i : Int) (ilen s)) hk (by rw [piece_drop, List.length_drop]; omega)
      rw [piece_drop, List.length_drop] at q1
      have hr := rchar_at k s i hl hk
      rw [runesX, if_pos (by rw [hsz]; exact hl), decide_eq_true hl, br_true, hin, br_true, hr, bnd_some]
      by_cases hb : badAt ⟨s.toArray⟩ i = true
      · rw [if_pos hb, if_pos hb]; rfl
      · rw [if_neg hb, if_neg hb]
        rw [hr, if_neg hb] at hc
        injection hc with hc
        have hq : ((Go.Utf8.decode ⟨s.toArray⟩ i).2 : Int) = q := congrArg Prod.snd hc
        have e0 : ieq ((Go.Utf8.decode ⟨s.toArray⟩ i).2 : Int) 0 = false := by rw [ieq_dec]; exact decide_eq_false (by omega)
        have e3 : iadd .i64 (i : Int) ((Go.Utf8.decode ⟨s.toArray⟩ i).2 : Int) = ((i + (Go.Utf8.decode ⟨s.toArray⟩ i).2 : Nat) : Int) := by rw [iadd_s (by omega) (by omega) (by omega) (by omega)]; omega
        rw [show ieq ((((Go.Utf8.decode ⟨s.toArray⟩ i).1 : Int), ((Go.Utf8.decode ⟨s.toArray⟩ i).2 : Int)) : Int × Int).2 0 = false from e0, br_false, room1 (show x.length < 4000000 by omega), br_true]
        show ref03_Runes.l3 k n s _ (iadd .i64 (i : Int) ((Go.Utf8.decode ⟨s.toArray⟩ i).2 : Int)) = _
        rw [e3, rrunes_l k s hk hs f n _ _ (by omega) (by omega) (by omega) (by simp only [app, List.length_append, List.length_cons, List.length_nil]; omega)]
        cases runesX ⟨s.toArray⟩ f (i + (Go.Utf8.decode ⟨s.toArray⟩ i).2) with
        | none => rfl
        | some l => simp [app]
    · have e : i = s.length := by omega
      subst e
      rw [decide_eq_false hl, br_false, runesX, if_neg (by rw [hsz]; omega)]
      show some (x, true) = some (x ++ [], true)
      rw [List.append_nil]
theorem runes_is (k : Nat) (s : Str) (hk : 10 < k) (hs : s.length < k) (hk2 : k < 1000000) : ref03_Runes.f k s = runesB s := by
  have h := rrunes_l k s hk (by omega) s.length k 0 [] (by omega) (by omega) (by omega) (by simp)
  have hz : Nat.ble s.length 1099511627776 = true := Nat.ble_eq_true_of_le (by omega)
  rw [ref03_Runes.f_eq]
  refine h.trans ?_
  unfold runesB
  rw [hz, cond_true]; rfl
theorem may_is (k : Nat) (c : Int) : name_may.f k c = some (mayB c) := by
  rw [name_may.f_eq, show ilt c 32 = decide (c < 32) from rfl]
  unfold mayB
  by_cases h1 : c < 32
  · rw [decide_eq_true h1, br_true, br_true]; rfl
  · rw [decide_eq_false h1, br_false, show ile 127 c = decide (127 ≤ c) from rfl, show ilt c 160 = decide (c < 160) from rfl, ieq_dec, bnot_dec]
    by_cases h2 : 127 ≤ c
    · rw [decide_eq_true h2, br_true]
      by_cases h3 : c < 160
      · rw [decide_eq_true h3, br_true]; rfl
      · rw [decide_eq_false h3, br_false]; simp
    · rw [decide_eq_false h2, br_false]; simp
theorem rmay_is (k : Nat) (c : Int) : ref03_may.f k c = some (mayB c) := by
  rw [ref03_may.f_eq, show ile 32 c = decide (32 ≤ c) from rfl, show ilt c 127 = decide (c < 127) from rfl, show ilt 159 c = decide (159 < c) from rfl, ieq_dec, bnot_dec]
  unfold mayB
  by_cases h1 : 32 ≤ c
  · rw [decide_eq_true h1, br_true, decide_eq_false (show ¬ c < 32 by omega)]
    by_cases h2 : c < 127
    · rw [decide_eq_true h2, br_true, decide_eq_false (show ¬ 127 ≤ c by omega)]; simp
    · rw [decide_eq_false h2, br_false, decide_eq_true (show 127 ≤ c by omega)]
      by_cases h3 : 159 < c
      · rw [decide_eq_true h3, br_true, decide_eq_false (show ¬ c < 160 by omega)]; simp
      · rw [decide_eq_false h3, br_false, decide_eq_true (show c < 160 by omega)]; rfl
  · rw [decide_eq_false h1, br_false, decide_eq_true (show c < 32 by omega)]; rfl
theorem all_step {α : Type} {xs : List α} {i : Nat} (h : i < xs.length) (p : α → Bool) : (xs.drop i).all p = (p xs[i] && (xs.drop (i + 1)).all p) := by
  rw [List.drop_eq_getElem_cons h, List.all_cons]
theorem name_l (k : Nat) (l : List Int) (hl : l.length < 1000000) : ∀ (n i : Nat), i ≤ l.length → l.length < n + i → name_Right.l5 k n l (ilen l) (i : Int) = some ((l.drop i).all mayB)
  | 0, i, _, h => by omega
  | n + 1, i, h, h' => by
    rw [name_Right.l5_eq, ilt_nat, inL_nat, natOf_nat]
    by_cases hi : i < l.length
    · rw [decide_eq_true hi, br_true, br_true, rd_at' (e := .int .i32) hi, may_is, bnd_some, iadd_nat (by omega), all_step hi, name_l k l hl n (i + 1) (by omega) (by omega)]
      cases mayB l[i] <;> rfl
    · rw [decide_eq_false hi, br_false, List.drop_eq_nil_of_le (by omega)]; rfl
theorem rname_l (k : Nat) (l : List Int) (b : Bool) (hl : l.length < 1000000) : ∀ (n i : Nat), i ≤ l.length → l.length < n + i → ref03_Right.l3 k n l b (i : Int) = some ((l.drop i).all mayB && (b && (decide (1 ≤ l.length) && decide (l.length ≤ 24))))
  | 0, i, _, h => by omega
  | n + 1, i, h, h' => by
    rw [ref03_Right.l3_eq, ilt_nat, inL_nat, natOf_nat]
    by_cases hi : i < l.length
    · rw [decide_eq_true hi, br_true, br_true, rd_at' (e := .int .i64) hi, rmay_is, bnd_some, iadd_nat (by omega), all_step hi, rname_l k l b hl n (i + 1) (by omega) (by omega)]
      cases mayB l[i] <;> rfl
    · have e1 : ile 1 (ilen l) = decide (1 ≤ l.length) := decide_eq_decide.2 ⟨fun h => by unfold ilen at h; omega, fun h => by unfold ilen; omega⟩
      have e2 : ile (ilen l) 24 = decide (l.length ≤ 24) := ile_len 24 l
      rw [decide_eq_false hi, br_false, List.drop_eq_nil_of_le (by omega), e1, e2]
      cases b <;> cases decide (1 ≤ l.length) <;> rfl
theorem runesB_len {s : Str} {r : List Int × Bool} (h : runesB s = some r) : r.1.length ≤ s.length ∧ (r.2 = false → r.1 = []) := by
  unfold runesB at h
  cases hz : Nat.ble s.length 1099511627776 with
  | false => rw [hz] at h; cases h
  | true =>
    rw [hz, cond_true] at h
    injection h with h
    subst h
    have key : ∀ (f i : Nat) (l : List Int), runesX ⟨s.toArray⟩ f i = some l → l.length ≤ f := by
      intro f
      induction f with
      | zero => intro i l h; injection h with h; subst h; simp
      | succ f ih =>
        intro i l h
        rw [runesX] at h
        by_cases hp : i < (⟨s.toArray⟩ : ByteArray).size
        · rw [if_pos hp] at h
          by_cases hb : badAt ⟨s.toArray⟩ i = true
          · rw [if_pos hb] at h; cases h
          · rw [if_neg hb] at h
            cases hr : runesX ⟨s.toArray⟩ f (i + (Go.Utf8.decode ⟨s.toArray⟩ i).2) with
            | none => rw [hr] at h; cases h
            | some l' =>
              rw [hr] at h
              have h : some (((Go.Utf8.decode ⟨s.toArray⟩ i).1 : Int) :: l') = some l := h
              injection h with h; subst h
              have := ih _ _ hr
              simp only [List.length_cons]; omega
        · rw [if_neg hp] at h; injection h with h; subst h; simp
    cases hr : runesX ⟨s.toArray⟩ s.length 0 with
    | none => exact ⟨by simp, fun _ => rfl⟩
    | some l => exact ⟨key _ _ _ hr, fun h => by cases h⟩
theorem name_is (k : Nat) (s : Str) (hk : 10 < k) (hs : s.length < k) (hk2 : k < 1000000) : ∃ b, name_Right.f k s = some b ∧ ref03_Right.f k s = some b := by
  have hz : Nat.ble s.length 1099511627776 = true := Nat.ble_eq_true_of_le (by omega)
  obtain ⟨r, hr⟩ : ∃ r, runesB s = some r := ⟨_, by unfold runesB; rw [hz, cond_true]⟩
  obtain ⟨l1, l2⟩ := runesB_len hr
  rw [ref03_Right.f_eq, runes_is k s hk hs hk2, hr, bnd_some, name_Right.f_eq, hr, bnd_some]
  have g2 := rname_l k r.1 r.2 (by omega) k 0 (by omega) (by omega)
  have g1 := name_l k r.1 (by omega) k 0 (by omega) (by omega)
  rw [List.drop_zero] at g1 g2
  refine ⟨_, ?_, g2⟩
  cases h2 : r.2 with
  | false => rw [l2 h2]; rfl
  | true =>
    have bt : bnot true = false := rfl
    have e0 : ieq (ilen r.1) 0 = decide (r.1.length = 0) := ieq0 r.1
    rw [bt, br_false, e0, show ilt 24 (ilen r.1) = decide (24 < r.1.length) from ilt_lenR 24 r.1]
    by_cases c1 : r.1.length = 0
    · rw [decide_eq_true c1, br_true, decide_eq_false (show ¬ 1 ≤ r.1.length by omega)]; simp
    · rw [decide_eq_false c1, br_false, decide_eq_true (show 1 ≤ r.1.length by omega)]
      by_cases c2 : 24 < r.1.length
      · rw [decide_eq_true c2, br_true, decide_eq_false (show ¬ r.1.length ≤ 24 by omega)]; simp
      · rw [decide_eq_false c2, br_false, decide_eq_true (show r.1.length ≤ 24 by omega)]
        refine g1.trans ?_
        simp
theorem val_is (k : Nat) (v : Val) (hk : 10 < k) (hs : v.2.2.length < k) (hk2 : k < 1000000) : ∃ b, value_Right.f k v = some b ∧ ref09_Right.f k v = some b := by
  have hz : Nat.ble v.2.2.length 1099511627776 = true := Nat.ble_eq_true_of_le (by omega)
  obtain ⟨r, hr⟩ : ∃ r, runesB v.2.2 = some r := ⟨_, by unfold runesB; rw [hz, cond_true]⟩
  rw [value_Right.f_eq, ref09_Right.f_eq, runes_is k v.2.2 hk hs hk2, hr]
  simp only [bnd_some]
  cases ieq v.1 1 with
  | true =>
    simp only [br_true]
    cases seq v.2.2 [] <;> cases ile (-2147483647) v.2.1 <;> exact ⟨_, rfl, rfl⟩
  | false =>
    simp only [br_false]
    cases ieq v.1 2 with
    | true =>
      simp only [br_true]
      cases r.2 <;> cases ieq v.2.1 0 <;> exact ⟨_, rfl, rfl⟩
    | false =>
      simp only [br_false]
      cases ieq v.1 3 with
      | false => exact ⟨_, rfl, rfl⟩
      | true =>
        simp only [br_true]
        cases seq v.2.2 [] with
        | false => exact ⟨_, rfl, rfl⟩
        | true =>
          simp only [br_true]
          rw [ieq_dec, show ile 0 v.2.1 = decide (0 ≤ v.2.1) from rfl, show ile v.2.1 1 = decide (v.2.1 ≤ 1) from rfl, ieq_dec]
          by_cases h0 : v.2.1 = 0
          · rw [decide_eq_true h0, br_true, decide_eq_true (show 0 ≤ v.2.1 by omega), br_true, decide_eq_true (show v.2.1 ≤ 1 by omega)]; exact ⟨_, rfl, rfl⟩
          · rw [decide_eq_false h0, br_false]
            by_cases h1 : v.2.1 = 1
            · rw [decide_eq_true h1, decide_eq_true (show 0 ≤ v.2.1 by omega), br_true, decide_eq_true (show v.2.1 ≤ 1 by omega)]; exact ⟨_, rfl, rfl⟩
            · rw [decide_eq_false h1]
              by_cases h2 : 0 ≤ v.2.1
              · rw [decide_eq_true h2, br_true, decide_eq_false (show ¬ v.2.1 ≤ 1 by omega)]; exact ⟨_, rfl, rfl⟩
              · rw [decide_eq_false h2, br_false]; exact ⟨_, rfl, rfl⟩
end Go.Proofs.YtbiihldcljemfaaGreatDoor
end
section
/- Paths, operations, transactions: the program's tests are the document's. -/
set_option linter.unusedVariables false
set_option linter.unusedSimpArgs false
namespace Go.Proofs.YtbiihldcljemfaaGreatDoor
open Pal
theorem path_l (k : Nat) (p : List Str) (hp : ∀ s ∈ p, List.length s < k) (hk : 10 < k) (hk2 : k < 1000000) (hl : p.length < 1000000) : ∀ (n i : Nat), i ≤ p.length → p.length < n + i →
    ∃ r : Int, slices_IndexFunc_string_string_path_Check_1.l2 k n p (ilen p) (i : Int) = some r ∧ ref10_Check.l6 k n p (i : Int) = some (if 0 ≤ r then 8 else 0)
  | 0, i, _, h => by omega
  | n + 1, i, h, h' => by
    rw [slices_IndexFunc_string_string_path_Check_1.l2_eq, ref10_Check.l6_eq, ilt_nat, inL_nat, natOf_nat]
    by_cases hi : i < p.length
    · obtain ⟨b, g1, g2⟩ := name_is k p[i] hk (hp _ (List.getElem_mem hi)) hk2
      rw [decide_eq_true hi, br_true, br_true, br_true, br_true, rd_at' (e := .str) hi, path_Check_1.f_eq, g1, g2, bnd_some, bnd_some, bnd_some, iadd_nat (by omega)]
      cases b with
      | false => exact ⟨(i : Int), rfl, by rw [if_pos (by omega)]; rfl⟩
      | true => exact path_l k p hp hk hk2 hl n (i + 1) (by omega) (by omega)
    · rw [decide_eq_false hi, br_false, br_false]; exact ⟨-1, rfl, rfl⟩
theorem path_is (k : Nat) (p : List Str) (hp : ∀ s ∈ p, List.length s < k) (hk : 10 < k) (hk2 : k < 1000000) (hl : p.length < k) : ∃ e : Int, path_Check.f k p = some e ∧ ref10_Check.f k p = some e := by
  rw [path_Check.f_eq, ref10_Check.f_eq, slices_ContainsFunc_string_string_path_Check_1.f_eq, slices_IndexFunc_string_string_path_Check_1.f_eq]
  cases ieq (ilen p) 0 with
  | true => exact ⟨8, rfl, rfl⟩
  | false =>
    cases ilt 8 (ilen p) with
    | true => exact ⟨9, rfl, rfl⟩
    | false =>
      obtain ⟨r, g1, g2⟩ := path_l k p hp hk hk2 (by omega) k 0 (by omega) (by omega)
      rw [show ((0 : Nat) : Int) = 0 from rfl] at g1 g2
      rw [br_false, br_false, br_false, br_false, g1, g2, bnd_some, bnd_some, show ile 0 r = decide (0 ≤ r) from rfl]
      by_cases h : 0 ≤ r
      · rw [decide_eq_true h, br_true, if_pos h]; exact ⟨8, rfl, rfl⟩
      · rw [decide_eq_false h, br_false, if_neg h]; exact ⟨0, rfl, rfl⟩
def cmpR (a b : Dot × Int) : Int := if cmpD a.1 b.1 = 0 then cmpI a.2 b.2 else cmpD a.1 b.1
theorem cmpI_three (a b : Int) : cmpI a b = -1 ∨ cmpI a b = 0 ∨ cmpI a b = 1 := by unfold cmpI; split <;> (try split) <;> simp
theorem cmpR_three (a b : Dot × Int) : cmpR a b = -1 ∨ cmpR a b = 0 ∨ cmpR a b = 1 := by
  unfold cmpR cmpD
  have h1 := cmpI_three a.1.1 b.1.1; have h2 := cmpI_three a.1.2 b.1.2; have h3 := cmpI_three a.2 b.2
  split <;> (try split) <;> assumption
theorem ref_is (k : Nat) (a b : Dot × Int) (h3 : 3 ≤ k) : dot_Refs.f k a b = some (cmpR a b) := by
  obtain ⟨q, rfl⟩ : ∃ q, k = q + 3 := ⟨k - 3, by omega⟩
  rw [dot_Refs.f_eq, cmpD_is, cmpI_is, bnd_some, bnd_some, or2, bnd_some]; rfl
theorem ints_is (k : Nat) (a b : Int) : ref04_ints.f k a b = some (cmpI a b) := by
  rw [ref04_ints.f_eq]
  unfold cmpI
  by_cases h1 : a < b
  · simp [ilt, h1, br_true]
  · by_cases h2 : b < a <;> simp [ilt, h1, h2, br_true, br_false]
theorem rref_is (k : Nat) (a b : Dot × Int) : ref04_Refs.f k a b = some (cmpR a b) := by
  rw [ref04_Refs.f_eq, rcmp_is, bnd_some, bnd_some, ints_is, bnd_some, ieq_dec, bnot_dec]
  unfold cmpR
  by_cases h : cmpD a.1 b.1 = 0
  · rw [decide_eq_false (by simp [h]), br_false, if_pos h]
  · rw [decide_eq_true h, br_true, if_neg h]
theorem refs_l (k : Nat) (l : List (Dot × Int)) (h3 : 3 ≤ k) (hl : l.length < 1000000) : ∀ (n i : Nat), i ≤ l.length → l.length < n + i → ∃ b, op_Refs.l2 k n l l (ilen l) (i : Int) = some b ∧ ref11_Refs.l2 k n l (i : Int) = some b
  | 0, i, _, h => by omega
  | n + 1, i, h, h' => by
    rw [op_Refs.l2_eq, ref11_Refs.l2_eq, ilt_nat, inL_nat, natOf_nat]
    by_cases hi : i < l.length
    · have ih := refs_l k l h3 hl n (i + 1) (by omega) (by omega)
      rw [decide_eq_true hi, rd_at' (e := tUndo) hi, right_is, rright_is, iadd_nat (by omega)]
      simp only [br_true, bnd_some]
      cases rightD l[i].1 with
      | false => exact ⟨false, rfl, rfl⟩
      | true =>
        have bt : bnot true = false := rfl
        simp only [bt, br_false]
        cases ilt l[i].2 0 with
        | true => exact ⟨false, rfl, rfl⟩
        | false =>
          simp only [br_false]
          rw [show ile 16 l[i].2 = decide (16 ≤ l[i].2) from rfl, show ilt 15 l[i].2 = decide (16 ≤ l[i].2) from decide_eq_decide.2 ⟨fun h => by omega, fun h => by omega⟩]
          by_cases h16 : 16 ≤ l[i].2
          · rw [decide_eq_true h16]; exact ⟨false, rfl, rfl⟩
          · rw [decide_eq_false h16]
            simp only [br_false]
            rw [show ilt 0 (i : Int) = decide (0 < i) from ilt_nn 0 i]
            by_cases hp : 0 < i
            · have hi1 : i - 1 < l.length := by omega
              have e3 : isub .i64 (i : Int) 1 = ((i - 1 : Nat) : Int) := by rw [isub_s (by omega) (by omega) (by omega) (by omega)]; omega
              rw [decide_eq_true hp, br_true, br_true, e3, inL_nat, natOf_nat, rd_at' (e := tUndo) hi1, decide_eq_true hi1, br_true, br_true, ref_is k _ _ h3, rref_is, bnd_some, bnd_some, ieq_dec, bnot_dec,
                show ile 0 (cmpR l[i - 1] l[i]) = decide (0 ≤ cmpR l[i - 1] l[i]) from rfl]
              rcases cmpR_three l[i - 1] l[i] with e | e | e
              · rw [e, decide_eq_false (by decide), decide_eq_false (by decide), br_false, br_false]; exact ih
              · rw [e]; exact ⟨false, rfl, rfl⟩
              · rw [e]; exact ⟨false, rfl, rfl⟩
            · rw [decide_eq_false hp, br_false, br_false]; exact ih
    · rw [decide_eq_false hi, br_false, br_false]; exact ⟨true, rfl, rfl⟩
theorem refs_is (k : Nat) (l : List (Dot × Int)) (h3 : 3 ≤ k) (hl : l.length < k) (hk : k < 1000000) : ∃ b, op_Refs.f k l = some b ∧ ref11_Refs.f k l = some b := by
  rw [op_Refs.f_eq, ref11_Refs.f_eq]
  exact refs_l k l h3 (by omega) k 0 (by omega) (by omega)
theorem ile_bnot (a b : Int) : ile a b = bnot (ilt b a) := by
  show decide (a ≤ b) = !decide (b < a)
  by_cases h : a ≤ b
  · rw [decide_eq_true h, decide_eq_false (by omega)]; rfl
  · rw [decide_eq_false h, decide_eq_true (by omega)]; rfl
theorem gone_both (k : Nat) (o : Op) : op_Gone.f k o = ref11_Gone.f k o := by rw [op_Gone.f_eq, ref11_Gone.f_eq]
set_option maxHeartbeats 4000000 in
theorem op_is (k : Nat) (o : Op) (hp : ∀ s ∈ o.2.1, List.length s < k) (hpl : o.2.1.length < k) (hv : o.2.2.1.2.2.length < k) (hs : o.2.2.2.2.length < k) (hk : 10 < k) (hk2 : k < 1000000) : ∃ e : Int, op_Check.f k o = some e ∧ ref11_Check.f k o = some e := by
  obtain ⟨e1, p1, p2⟩ := path_is k o.2.1 hp hk hk2 hpl
  obtain ⟨b1, v1, v2⟩ := val_is k o.2.2.1 hk hv hk2
  obtain ⟨b2, r1, r2⟩ := refs_is k o.2.2.2.2 (by omega) hs hk2
  rw [op_Check.f_eq, ref11_Check.f_eq, op_valued.f_eq, op_amount.f_eq, p1, p2, v1, v2, r1, r2]
  obtain ⟨K, P, V, A, S⟩ := o
  simp only at *
  have bt : bnot true = false := rfl
  have bf : bnot false = true := rfl
  by_cases h1 : K < 1
  · rw [show ilt K 1 = true from decide_eq_true h1]; exact ⟨18, rfl, rfl⟩
  by_cases h5 : 5 < K
  · rw [show ilt K 1 = false from decide_eq_false h1, show ilt 5 K = true from decide_eq_true h5]; exact ⟨18, rfl, rfl⟩
  have hK : K = 1 ∨ K = 2 ∨ K = 3 ∨ K = 4 ∨ K = 5 := by omega
  rw [show ilt K 1 = false from decide_eq_false h1, show ilt 5 K = false from decide_eq_false h5]
  clear h1 h5 p1 p2 v1 v2 r1 r2 hp hpl hv hs
  have i1 : ile A 2147483647 = bnot (ilt 2147483647 A) := ile_bnot _ _
  have i2 : ile (-2147483647) A = bnot (ilt A (-2147483647)) := ile_bnot _ _
  rw [i1, i2]
  rcases hK with rfl | rfl | rfl | rfl | rfl
  · simp only [show ieq (1 : Int) 1 = true from rfl, show ieq (1 : Int) 2 = false from rfl, show ieq (1 : Int) 3 = false from rfl, show ieq (1 : Int) 4 = false from rfl, show ieq (1 : Int) 5 = false from rfl, br_true, br_false, bt, bf, bnd_some]
    cases ieq e1 0 <;> cases b1 <;> cases ieq A 0 <;> cases ilt 256 (ilen S) <;> cases b2 <;> exact ⟨_, rfl, rfl⟩
  · simp only [show ieq (2 : Int) 1 = false from rfl, show ieq (2 : Int) 2 = true from rfl, show ieq (2 : Int) 3 = false from rfl, show ieq (2 : Int) 4 = false from rfl, show ieq (2 : Int) 5 = false from rfl, br_true, br_false, bt, bf, bnd_some]
    cases ieq e1 0 <;> cases b1 <;> cases ieq A 0 <;> cases ilt 0 (ilen S) <;> cases ilt 256 (ilen S) <;> cases b2 <;> exact ⟨_, rfl, rfl⟩
  · simp only [show ieq (3 : Int) 1 = false from rfl, show ieq (3 : Int) 2 = false from rfl, show ieq (3 : Int) 3 = true from rfl, show ieq (3 : Int) 4 = false from rfl, show ieq (3 : Int) 5 = false from rfl, br_true, br_false, bt, bf, bnd_some]
    cases ieq e1 0 <;> cases deq tValue V (0, (0, [])) <;> cases ieq A 0 <;> cases ilt 2147483647 A <;> cases ilt A (-2147483647) <;> cases ilt 0 (ilen S) <;> cases ilt 256 (ilen S) <;> cases b2 <;> exact ⟨_, rfl, rfl⟩
  · simp only [show ieq (4 : Int) 1 = false from rfl, show ieq (4 : Int) 2 = false from rfl, show ieq (4 : Int) 3 = false from rfl, show ieq (4 : Int) 4 = true from rfl, show ieq (4 : Int) 5 = false from rfl, br_true, br_false, bt, bf, bnd_some]
    cases ieq e1 0 <;> cases b1 <;> cases ieq A 0 <;> cases ilt 256 (ilen S) <;> cases b2 <;> exact ⟨_, rfl, rfl⟩
  · simp only [show ieq (5 : Int) 1 = false from rfl, show ieq (5 : Int) 2 = false from rfl, show ieq (5 : Int) 3 = false from rfl, show ieq (5 : Int) 4 = false from rfl, show ieq (5 : Int) 5 = true from rfl, br_true, br_false, bt, bf, bnd_some]
    cases ieq e1 0 <;> cases deq tValue V (0, (0, [])) <;> cases ieq A 0 <;> cases ilt 256 (ilen S) <;> cases b2 <;> exact ⟨_, rfl, rfl⟩
end Go.Proofs.YtbiihldcljemfaaGreatDoor
end
section
/- Transactions: the program's test is the document's. -/
set_option linter.unusedVariables false
set_option linter.unusedSimpArgs false
namespace Go.Proofs.YtbiihldcljemfaaGreatDoor
open Pal
theorem gone_tot (k : Nat) (o : Op) : ∃ g, op_Gone.f k o = some g ∧ ref11_Gone.f k o = some g := by
  rw [← gone_both, op_Gone.f_eq]
  cases ieq o.1 0 with
  | false => exact ⟨_, rfl, rfl⟩
  | true =>
    cases ieq (ilen o.2.1) 0 with
    | false => exact ⟨_, rfl, rfl⟩
    | true =>
      cases deq tValue o.2.2.1 (0, (0, [])) with
      | false => exact ⟨_, rfl, rfl⟩
      | true => cases ieq o.2.2.2.1 0 <;> exact ⟨_, rfl, rfl⟩
structure SizO (k : Nat) (o : Op) : Prop where
  path : ∀ s ∈ o.2.1, List.length s < k
  names : o.2.1.length < k
  val : o.2.2.1.2.2.length < k
  seen : o.2.2.2.2.length < k
theorem txn_l (k : Nat) (t : Txn) (ho : ∀ o ∈ t.2.2.2.2, SizO k o) (hl : t.2.2.2.2.length < 1000000) (hk : 10 < k) (hk2 : k < 1000000) : ∀ (n i : Nat), i ≤ t.2.2.2.2.length → t.2.2.2.2.length < n + i →
    ∃ e : Int, txn_Check.l10 k n t.2.2.2.2 (ilen t.2.2.2.2) (i : Int) t = some e ∧ ref12_Check.l8 k n (i : Int) t = some e
  | 0, i, _, h => by omega
  | n + 1, i, h, h' => by
    rw [txn_Check.l10_eq, ref12_Check.l8_eq, ilt_nat, inL_nat, natOf_nat]
    by_cases hi : i < t.2.2.2.2.length
    · have ih := txn_l k t ho hl hk hk2 n (i + 1) (by omega) (by omega)
      have so := ho _ (List.getElem_mem hi)
      obtain ⟨e, p1, p2⟩ := op_is k t.2.2.2.2[i] so.path so.names so.val so.seen hk hk2
      obtain ⟨g, q1, q2⟩ := gone_tot k t.2.2.2.2[i]
      rw [decide_eq_true hi, rd_at' (e := tOp) hi, p1, p2, q1, q2, iadd_nat (by omega)]
      simp only [br_true, bnd_some]
      have bt : bnot true = false := rfl
      have bf : bnot false = true := rfl
      cases t.2.2.2.1 with
      | true =>
        simp only [br_true]
        cases g with
        | true =>
          simp only [br_true, bt, br_false]
          cases ieq e 0 <;> exact ih
        | false =>
          simp only [br_false, bf, br_true]
          cases ieq e 0 with
          | true => exact ih
          | false => exact ⟨e, rfl, rfl⟩
      | false =>
        simp only [br_false, bf, br_true]
        cases ieq e 0 with
        | true => exact ih
        | false => exact ⟨e, rfl, rfl⟩
    · rw [decide_eq_false hi, br_false, br_false]; exact ⟨0, rfl, rfl⟩
theorem txn_is (k : Nat) (t : Txn) (ho : ∀ o ∈ t.2.2.2.2, SizO k o) (hl : t.2.2.2.2.length < k) (hk : 10 < k) (hk2 : k < 1000000) : ∃ e : Int, txn_Check.f k t = some e ∧ ref12_Check.f k t = some e := by
  obtain ⟨e, g1, g2⟩ := txn_l k t ho (by omega) hk hk2 k 0 (by omega) (by omega)
  rw [show ((0 : Nat) : Int) = 0 from rfl] at g1 g2
  have bt : bnot true = false := rfl
  have bf : bnot false = true := rfl
  rw [txn_Check.f_eq, ref12_Check.f_eq, right_is, rright_is, g1, g2, show ilt 7 t.2.1 = ile 8 t.2.1 from decide_eq_decide.2 ⟨fun h => by omega, fun h => by omega⟩]
  simp only [bnd_some]
  cases rightD t.1 with
  | false => exact ⟨2, rfl, rfl⟩
  | true =>
    simp only [bt, br_false]
    cases ilt t.2.1 0 <;> cases ile 8 t.2.1 <;> cases ilt t.2.2.1 1 <;> cases ilt 1099511627776 t.2.2.1 <;> cases ieq (ilen t.2.2.2.2) 0 <;> cases ilt 16 (ilen t.2.2.2.2) <;> exact ⟨_, rfl, rfl⟩
end Go.Proofs.YtbiihldcljemfaaGreatDoor
end
section
/- Readers: the program's and the document's read the same. -/
namespace Go.Proofs.YtbiihldcljemfaaGreatDoor
open Pal
abbrev Rdr := List UInt8 × Int
theorem fine_is (k : Nat) (o : Rdr) : pack_Reader_fine.f k o = some (decide (o.2 = 0), o) := by rw [pack_Reader_fine.f_eq, ieq_dec]
theorem fail_is (k : Nat) (e : Int) (o : Rdr) : pack_Reader_Fail.f k e o = some ((), if o.2 = 0 then (o.1, e) else o) := by
  rw [pack_Reader_Fail.f_eq, fine_is]
  simp only [bnd_some, br_dec]
  split <;> rfl
theorem wrap64 {n : Int} (h1 : -9000000000000000000 ≤ n) (h2 : n ≤ 9000000000000000000) : IntKind.wrap .i64 n = n := by
  have e1 : ((2 : Int) ^ 63) = 9223372036854775808 := by decide
  exact wrap_i64 (by rw [e1]; omega) (by rw [e1]; omega)
theorem iand127 {c : Nat} (h : c < 9000000000000000000) : iand .i64 (c : Int) 127 = ((c % 128 : Nat) : Int) := by
  show IntKind.wrap .i64 (((BitVec.ofInt 64 (c : Int) &&& BitVec.ofInt 64 127).toNat : Nat) : Int) = _
  have e : (BitVec.ofInt 64 (c : Int) &&& BitVec.ofInt 64 127).toNat = c % 128 := by
    have e1 : BitVec.ofInt 64 (c : Int) = BitVec.ofNat 64 c := by simp
    have e2 : BitVec.ofInt 64 127 = BitVec.ofNat 64 127 := by decide
    rw [e1, e2, BitVec.toNat_and, BitVec.toNat_ofNat, BitVec.toNat_ofNat, Nat.mod_eq_of_lt (show c < 2 ^ 64 by omega), show 127 % 2 ^ 64 = 2 ^ 7 - 1 by decide, Nat.and_two_pow_sub_one_eq_mod]
  rw [e, wrap64 (by omega) (by omega)]
theorem ior_add {a b m : Nat} (ha : a < 2 ^ m) (hb : 2 ^ m * b + a < 9000000000000000000) : ior .i64 (a : Int) ((2 ^ m * b : Nat) : Int) = ((2 ^ m * b + a : Nat) : Int) := by
  show IntKind.wrap .i64 (((BitVec.ofInt 64 (a : Int) ||| BitVec.ofInt 64 ((2 ^ m * b : Nat) : Int)).toNat : Nat) : Int) = _
  have e : (BitVec.ofInt 64 (a : Int) ||| BitVec.ofInt 64 ((2 ^ m * b : Nat) : Int)).toNat = 2 ^ m * b + a := by
    have e1 : ∀ c : Nat, BitVec.ofInt 64 (c : Int) = BitVec.ofNat 64 c := fun c => by simp
    rw [e1, e1, BitVec.toNat_or, BitVec.toNat_ofNat, BitVec.toNat_ofNat, Nat.mod_eq_of_lt (show a < 2 ^ 64 by omega), Nat.mod_eq_of_lt (show 2 ^ m * b < 2 ^ 64 by omega), Nat.or_comm, Nat.two_pow_add_eq_or_of_lt ha]
  rw [e, wrap64 (by omega) (by omega)]
theorem pow_mono {i : Nat} (h : i ≤ 8) : 2 ^ (7 * i) ≤ 72057594037927936 := by
  have : 2 ^ (7 * i) ≤ 2 ^ 56 := Nat.pow_le_pow_right (by decide) (by omega)
  exact this
theorem pow_mono7 {i : Nat} (h : i < 8) : 2 ^ (7 * i) ≤ 562949953421312 := by
  have : 2 ^ (7 * i) ≤ 2 ^ 49 := Nat.pow_le_pow_right (by decide) (by omega)
  exact this
theorem num_step {i c n : Nat} (hi : i < 8) (hc : c < 256) (hn : n < 2 ^ (7 * i)) :
    ior .i64 (n : Int) (ishl .i64 (iand .i64 (c : Int) 127) (imul .i64 7 (i : Int))) = ((2 ^ (7 * i) * (c % 128) + n : Nat) : Int) ∧ 2 ^ (7 * i) * (c % 128) + n < 2 ^ (7 * (i + 1)) := by
  have hp := pow_mono7 hi
  have hp1 := pow_mono (show i + 1 ≤ 8 by omega)
  have e7 : 2 ^ (7 * (i + 1)) = 2 ^ (7 * i) * 128 := by rw [show 7 * (i + 1) = 7 * i + 7 by omega, Nat.pow_add]
  have hm : c % 128 ≤ 127 := by omega
  have hmul : 2 ^ (7 * i) * (c % 128) ≤ 2 ^ (7 * i) * 127 := Nat.mul_le_mul_left _ hm
  have hlt : 2 ^ (7 * i) * (c % 128) + n < 2 ^ (7 * (i + 1)) := by rw [e7]; omega
  refine ⟨?_, hlt⟩
  have e1 : imul .i64 7 (i : Int) = ((7 * i : Nat) : Int) := by
    show IntKind.wrap .i64 (7 * (i : Int)) = _
    rw [wrap64 (by omega) (by omega)]; omega
  have e2 : ishl .i64 ((c % 128 : Nat) : Int) ((7 * i : Nat) : Int) = ((2 ^ (7 * i) * (c % 128) : Nat) : Int) := by
    show IntKind.wrap .i64 (((c % 128 : Nat) : Int) * 2 ^ (min ((7 * i : Nat) : Int).toNat 64)) = _
    have : min ((7 * i : Nat) : Int).toNat 64 = 7 * i := by omega
    rw [this]
    have e3 : ((c % 128 : Nat) : Int) * 2 ^ (7 * i) = ((2 ^ (7 * i) * (c % 128) : Nat) : Int) := by
      rw [Int.natCast_mul, Int.natCast_pow, Int.mul_comm]; rfl
    rw [e3, wrap64 (by omega) (by omega)]
  rw [iand127 (by omega), e1, e2, ior_add hn (by omega)]
theorem fault_is (k : Nat) (r : Rdr) : pack_Reader_Fault.f k r = some (r.2, r) := pack_Reader_Fault.f_eq k r
end Go.Proofs.YtbiihldcljemfaaGreatDoor
end
section
/- Dots, vectors, rows of dots and sets: the program and the document read the same. -/
namespace Go.Proofs.YtbiihldcljemfaaGreatDoor
open Pal
theorem upd_len {v : Vec} {i : Nat} {x : Int} : (upd v i x).length = v.length := by simp [upd]
end Go.Proofs.YtbiihldcljemfaaGreatDoor
end
section
/- Texts, values, paths: the program and the document read the same. -/
set_option linter.unusedVariables false
set_option linter.unusedSimpArgs false
namespace Go.Proofs.YtbiihldcljemfaaGreatDoor
open Pal
theorem inS_nn {a b c : Nat} (h1 : a ≤ b) (h2 : b ≤ c) : inS (a : Int) (b : Int) (c : Int) = true := by
  show (decide ((0 : Int) ≤ (a : Int)) && decide ((a : Int) ≤ (b : Int)) && decide ((b : Int) ≤ (c : Int))) = true
  rw [decide_eq_true (show (0 : Int) ≤ (a : Int) by omega), decide_eq_true (show (a : Int) ≤ (b : Int) by omega), decide_eq_true (show (b : Int) ≤ (c : Int) by omega)]; rfl
def unf (n : Nat) : Int := if n % 2 = 0 then ((n / 2 : Nat) : Int) else -(((n + 1) / 2 : Nat) : Int)
theorem irem2 (n : Nat) : irem (n : Int) 2 = ((n % 2 : Nat) : Int) := by
  rfl
theorem tdiv2 (q : Nat) : (q : Int).tdiv 2 = ((q / 2 : Nat) : Int) := rfl
theorem unfold_is (k n : Nat) (hn : n < 72057594037927936) : value_Unfold.f k (n : Int) = some (unf n) ∧ ref09_Unfold.f k (n : Int) = some (unf n) := by
  rw [value_Unfold.f_eq, ref09_Unfold.f_eq, irem2]
  unfold unf
  by_cases h : n % 2 = 0
  · have q : iquo .i64 (n : Int) 2 = ((n / 2 : Nat) : Int) := by
      show IntKind.wrap .i64 ((n : Int).tdiv 2) = _
      rw [tdiv2, wrap64 (by omega) (by omega)]
    rw [h, if_pos rfl, q]; exact ⟨rfl, rfl⟩
  · have h1 : n % 2 = 1 := by omega
    have a1 : iadd .i64 (n : Int) 1 = ((n + 1 : Nat) : Int) := iadd_nat (by omega)
    have a2 : isub .i64 0 ((n + 1 : Nat) : Int) = -((n + 1 : Nat) : Int) := by
      show IntKind.wrap .i64 (0 - ((n + 1 : Nat) : Int)) = _
      rw [wrap64 (by omega) (by omega)]; omega
    have a3 : iquo .i64 (-((n + 1 : Nat) : Int)) 2 = -(((n + 1) / 2 : Nat) : Int) := by
      show IntKind.wrap .i64 ((-((n + 1 : Nat) : Int)).tdiv 2) = _
      rw [Int.neg_tdiv, tdiv2, wrap64 (by omega) (by omega)]
    have a4 : iquo .i64 (n : Int) 2 = ((n / 2 : Nat) : Int) := by
      show IntKind.wrap .i64 ((n : Int).tdiv 2) = _
      rw [tdiv2, wrap64 (by omega) (by omega)]
    have a5 : isub .i64 0 ((n / 2 : Nat) : Int) = -((n / 2 : Nat) : Int) := by
      show IntKind.wrap .i64 (0 - ((n / 2 : Nat) : Int)) = _
      rw [wrap64 (by omega) (by omega)]; omega
    have a6 : isub .i64 (-((n / 2 : Nat) : Int)) 1 = -(((n + 1) / 2 : Nat) : Int) := by
      show IntKind.wrap .i64 (-((n / 2 : Nat) : Int) - 1) = _
      rw [wrap64 (by omega) (by omega)]; omega
    rw [h1, if_neg (by decide), a1, a2, a3, a4, a5, a6]; exact ⟨rfl, rfl⟩
end Go.Proofs.YtbiihldcljemfaaGreatDoor
end
section
/- Counts: rows of dots with numbers, in order; joined, put, looked up. Plain facts. -/
namespace Go.Proofs.YtbiihldcljemfaaGreatDoor
open Pal
abbrev Undo := Dot × Int
def rightU (u : Undo) : Bool := rightD u.1 && decide (1 ≤ u.2 ∧ u.2 ≤ 64)
theorem rightU_iff (u : Undo) : rightU u = true ↔ rightD u.1 = true ∧ 1 ≤ u.2 ∧ u.2 ≤ 64 := by simp [rightU]
structure CanU (l : List Undo) : Prop where
  rt : ∀ u ∈ l, rightU u = true
  srt : l.Pairwise (fun a b => dotLt a.1 b.1 = true)
theorem CanU.nil : CanU [] := ⟨fun u hu => by simp at hu, List.Pairwise.nil⟩
theorem CanU.cons {u : Undo} {l : List Undo} (h : CanU l) (h1 : rightU u = true) (h2 : ∀ v ∈ l, dotLt u.1 v.1 = true) : CanU (u :: l) :=
  ⟨fun v hv => by rcases List.mem_cons.1 hv with rfl | hv; exact h1; exact h.rt v hv, List.pairwise_cons.2 ⟨h2, h.srt⟩⟩
theorem dotLt_trans {a b c : Dot} (h1 : dotLt a b = true) (h2 : dotLt b c = true) : dotLt a c = true := dotLt_swo.trans _ _ _ h1 h2
end Go.Proofs.YtbiihldcljemfaaGreatDoor
end
section
/- Transactions in order, and states: plain facts. -/
namespace Go.Proofs.YtbiihldcljemfaaGreatDoor
open Pal
abbrev Sta := List Txn × (List (Dot × Int) × (DSet × (DSet × List (List Dot))))
abbrev Dlt := List Txn × (List (Dot × Int) × List Dot)
structure CanT (l : List Txn) : Prop where
  rt : ∀ t ∈ l, rightD t.1 = true
  srt : l.Pairwise (fun a b => dotLt a.1 b.1 = true)
theorem CanT.nil : CanT [] := ⟨fun u hu => by simp at hu, List.Pairwise.nil⟩
theorem CanT.cons {u : Txn} {l : List Txn} (h : CanT l) (h1 : rightD u.1 = true) (h2 : ∀ v ∈ l, dotLt u.1 v.1 = true) : CanT (u :: l) :=
  ⟨fun v hv => by rcases List.mem_cons.1 hv with rfl | hv; exact h1; exact h.rt v hv, List.pairwise_cons.2 ⟨h2, h.srt⟩⟩
structure CanS (s : Sta) : Prop where
  tx : CanT s.1
  un : CanU s.2.1
  kn : Can s.2.2.1
  se : Can s.2.2.2.1
  know : ∀ x, Mem s.2.2.1 x ↔ ∃ t ∈ s.1, t.1 = x
structure LenS (n : Nat) (s : Sta) : Prop where
  tx : s.1.length ≤ n
  un : s.2.1.length ≤ n
  kn : s.2.2.1.2.length ≤ n
  se : s.2.2.2.1.2.length ≤ n
  re : ∀ l ∈ s.2.2.2.2, l.length ≤ n
theorem LenS.mono {n m : Nat} {s : Sta} (h : LenS n s) (hnm : n ≤ m) : LenS m s :=
  ⟨Nat.le_trans h.tx hnm, Nat.le_trans h.un hnm, Nat.le_trans h.kn hnm, Nat.le_trans h.se hnm, fun l hl => Nat.le_trans (h.re l hl) hnm⟩
structure CanDl (d : Dlt) : Prop where
  tx : CanT d.1
  un : CanU d.2.1
  se : ∀ x ∈ d.2.2, rightD x = true
structure LenD (n : Nat) (d : Dlt) : Prop where
  tx : d.1.length ≤ n
  un : d.2.1.length ≤ n
  se : d.2.2.length ≤ n
end Go.Proofs.YtbiihldcljemfaaGreatDoor
end
section
/- What the program's tally, and the document's, come to. -/
namespace Go.Proofs.YtbiihldcljemfaaGreatDoor
open Pal
theorem rone_is (k : Nat) (u : Undo) : ref08_one.f k u = some (rightU u) := by
  rw [ref08_one.f_eq, rright_is]
  simp only [bnd_some]
  unfold rightU
  cases rightD u.1 with
  | false => rfl
  | true =>
    simp only [br_true, ile_dec, br_dec, Bool.true_and]
    by_cases h : 1 ≤ u.2
    · rw [if_pos h]; simp [h]
    · rw [if_neg h]; simp [h]
theorem deqU (a b : Undo) : deq tUndo a b = decide (a = b) := deq_dec (τ := tUndo) rfl a b
theorem canU_iff {l : List Undo} : CanU l ↔ ∀ j (h : j < l.length), rightU l[j] = true ∧ ∀ h0 : 0 < j, dotLt (l[j - 1]'(by omega)).1 l[j].1 = true := by
  constructor
  · intro h j hj
    exact ⟨h.rt _ (List.getElem_mem hj), fun h0 => List.pairwise_iff_getElem.1 h.srt (j - 1) j (by omega) hj (by omega)⟩
  · intro h
    refine ⟨fun u hu => ?_, List.pairwise_iff_getElem.2 fun i j hi hj hij => ?_⟩
    · obtain ⟨j, hj, rfl⟩ := List.mem_iff_getElem.1 hu
      exact (h j hj).1
    · have key : ∀ d j (hj : j < l.length) (hd : d + 1 ≤ j), dotLt (l[j - (d + 1)]'(by omega)).1 l[j].1 = true := by
        intro d
        induction d with
        | zero => intro j hj hd; exact (h j hj).2 (by omega)
        | succ d ih =>
          intro j hj hd
          have h1 := ih j hj (by omega)
          have h2 := (h (j - (d + 1)) (by omega)).2 (by omega)
          have e : j - (d + 1) - 1 = j - (d + 1 + 1) := by omega
          simp only [e] at h2
          exact dotLt_trans h2 h1
      have := key (j - i - 1) j hj (by omega)
      have e : j - (j - i - 1 + 1) = i := by omega
      simpa only [e] using this
def okU (l : List Undo) (j : Nat) : Prop := ∀ h : j < l.length, rightU l[j] = true ∧ ∀ h0 : 0 < j, dotLt (l[j - 1]'(by omega)).1 l[j].1 = true
theorem rrightU_is (k : Nat) (l : List Undo) (hl : l.length < k) (hk : k < 1000000) : ∃ b, ref08_Right.f k l = some b ∧ (b = true ↔ CanU l) := by
  obtain ⟨b, hb, hbi⟩ := loop_all' l.length (fun n i => ref08_Right.l2 k n l (i : Int)) (okU l) (fun n i hi => by
    simp only [ref08_Right.l2_eq, ilt_nat, inL_nat, natOf_nat, hi, decide_true, br_true, rd_at' (e := tUndo) hi, rone_is, bnd_some]
    cases hu : rightU l[i] with
    | false => exact .inr ⟨fun h => (by have := (h hi).1; rw [hu] at this; cases this), rfl⟩
    | true =>
      have e1 : bnot true = false := rfl
      have e2 : ilt 0 (i : Int) = decide (0 < i) := ilt_nn 0 i
      rw [e1, e2, iadd_nat (by omega)]
      simp only [br_false]
      by_cases h0 : 0 < i
      · have hi1 : i - 1 < l.length := by omega
        have e3 : isub .i64 (i : Int) 1 = ((i - 1 : Nat) : Int) := by rw [isub_s (by omega) (by omega) (by omega) (by omega)]; omega
        rw [e3, inL_nat, natOf_nat, rd_at' (e := tUndo) hi1, rcmp_is]
        simp only [h0, hi1, decide_true, br_true, bnd_some, cmp_m1]
        cases hd : dotLt l[i - 1].1 l[i].1 with
        | true => exact .inl ⟨fun _ => ⟨hu, fun _ => hd⟩, rfl⟩
        | false => exact .inr ⟨fun h => (by have := (h hi).2 h0; rw [hd] at this; cases this), rfl⟩
      · simp only [h0, decide_false, br_false]
        exact .inl ⟨fun _ => ⟨hu, fun h => absurd h h0⟩, trivial⟩) (fun n => by
    simp only [ref08_Right.l2_eq, ilt_nat, Nat.lt_irrefl, decide_false, br_false]) k 0 (by omega) (by omega)
  rw [ref08_Right.f_eq]
  refine ⟨b, hb, hbi.trans ?_⟩
  rw [canU_iff]
  exact ⟨fun h j hj => h j (by omega) hj hj, fun h j _ _ hj => h j hj⟩
theorem tcmp_is (k : Nat) (u v : Undo) (h3 : 3 ≤ k) : tally_compare.f k u v = some (cmpD u.1 v.1) := by
  obtain ⟨q, rfl⟩ : ∃ q, k = q + 3 := ⟨k - 3, by omega⟩
  rw [tally_compare.f_eq, cmpD_is]; rfl
theorem rsameU_is (k : Nat) (a b : List Undo) (hl : a.length < k) (hk : k < 1000000) : ref08_Same.f k a b = some (decide (a = b)) := by
  rw [ref08_Same.f_eq, ieq_len, bnot_dec]
  by_cases h : a.length = b.length
  · simp only [h, not_true, decide_false, br_false]
    exact loop_same a b h (fun n i => ref08_Same.l4 k n a b (i : Int)) (fun n i hi hi' => by
      simp only [ref08_Same.l4_eq, ilt_nat, inL_nat, natOf_nat, hi, hi', decide_true, br_true, rd_at' (e := tUndo) hi, rd_at' (e := tUndo) hi', deqU, bnot_dec, br_dec, iadd_nat (show i < 4611686018427387904 by omega)]
      by_cases e : a[i] = b[i] <;> simp [e]) (fun n => by simp only [ref08_Same.l4_eq, ilt_nat, Nat.lt_irrefl, decide_false, br_false]) k (by omega)
  · have : a ≠ b := fun e => h (by rw [e])
    simp only [h, this, not_false_eq_true, decide_true, decide_false, br_true]
end Go.Proofs.YtbiihldcljemfaaGreatDoor
end
section
/- States: what the program's functions, and the document's, come to. -/
namespace Go.Proofs.YtbiihldcljemfaaGreatDoor
open Pal
theorem deqVal (a b : Val) : deq tValue a b = decide (a = b) := deq_dec (τ := tValue) rfl a b
theorem rsameStr_is (k : Nat) (a b : List Str) (hl : a.length < k) (hk : k < 1000000) : ref03_Same.f k a b = some (decide (a = b)) := by
  rw [ref03_Same.f_eq, ieq_len, bnot_dec]
  by_cases h : a.length = b.length
  · simp only [h, not_true, decide_false, br_false]
    exact loop_same a b h (fun n i => ref03_Same.l4 k n a b (i : Int)) (fun n i hi hi' => by
      simp only [ref03_Same.l4_eq, ilt_nat, inL_nat, natOf_nat, hi, hi', decide_true, br_true, rd_at' (e := .str) hi, rd_at' (e := .str) hi', seq_dec, bnot_dec, br_dec, iadd_nat (show i < 4611686018427387904 by omega)]
      by_cases e : a[i] = b[i] <;> simp [e]) (fun n => by simp only [ref03_Same.l4_eq, ilt_nat, Nat.lt_irrefl, decide_false, br_false]) k (by omega)
  · have : a ≠ b := fun e => h (by rw [e])
    simp only [h, this, not_false_eq_true, decide_true, decide_false, br_true]
theorem op_eq (a b : Op) : a = b ↔ a.1 = b.1 ∧ a.2.2.1 = b.2.2.1 ∧ a.2.2.2.1 = b.2.2.2.1 ∧ a.2.1 = b.2.1 ∧ a.2.2.2.2 = b.2.2.2.2 := by
  obtain ⟨a1, a2, a3, a4, a5⟩ := a; obtain ⟨b1, b2, b3, b4, b5⟩ := b
  simp only [Prod.mk.injEq]
  exact ⟨fun ⟨h1, h2, h3, h4, h5⟩ => ⟨h1, h3, h4, h2, h5⟩, fun ⟨h1, h3, h4, h2, h5⟩ => ⟨h1, h2, h3, h4, h5⟩⟩
structure LenO (n : Nat) (o : Op) : Prop where
  path : o.2.1.length < n
  seen : o.2.2.2.2.length < n
theorem rsameOp_is (k : Nat) (a b : Op) (hl : LenO k a) (hk : k < 1000000) : ref11_Same.f k a b = some (decide (a = b)) := by
  have := hl.seen
  rw [ref11_Same.f_eq, rsameStr_is k a.2.1 b.2.1 hl.path hk]
  simp only [ieq_dec, deqVal, bnot_dec, bnd_some, br_dec, ilen, Int.natCast_inj]
  rw [show decide (a = b) = decide (a.1 = b.1 ∧ a.2.2.1 = b.2.2.1 ∧ a.2.2.2.1 = b.2.2.2.1 ∧ a.2.1 = b.2.1 ∧ a.2.2.2.2 = b.2.2.2.2) from decide_eq_decide.2 (op_eq a b)]
  by_cases h1 : a.1 = b.1
  · by_cases h2 : a.2.2.1 = b.2.2.1
    · by_cases h3 : a.2.2.2.1 = b.2.2.2.1
      · by_cases h4 : a.2.1 = b.2.1
        · by_cases h5 : a.2.2.2.2.length = b.2.2.2.2.length
          · simp only [h1, h2, h3, h4, h5, not_true, if_false, true_and]
            exact loop_same a.2.2.2.2 b.2.2.2.2 h5 (fun n i => ref11_Same.l4 k n (i : Int) a b) (fun n i hi hi' => by
              simp only [ref11_Same.l4_eq, ilt_nat, inL_nat, natOf_nat, hi, hi', decide_true, br_true, rd_at' (e := tUndo) hi, rd_at' (e := tUndo) hi', deqU, bnot_dec, br_dec, iadd_nat (show i < 4611686018427387904 by omega)]
              by_cases e : a.2.2.2.2[i] = b.2.2.2.2[i] <;> simp [e]) (fun n => by simp only [ref11_Same.l4_eq, ilt_nat, Nat.lt_irrefl, decide_false, br_false]) k (by omega)
          · have : a.2.2.2.2 ≠ b.2.2.2.2 := fun e => h5 (by rw [e])
            simp [h1, h2, h3, h4, h5, this]
        · simp [h1, h2, h3, h4]
      · simp [h1, h2, h3]
    · simp [h1, h2]
  · simp [h1]
theorem deqDot (a b : Dot) : deq tDot a b = decide (a = b) := deqD a b
theorem deqBool (a b : Bool) : deq .bool a b = decide (a = b) := by cases a <;> cases b <;> rfl
theorem txn_eq (a b : Txn) : a = b ↔ a.1 = b.1 ∧ a.2.1 = b.2.1 ∧ a.2.2.1 = b.2.2.1 ∧ a.2.2.2.1 = b.2.2.2.1 ∧ a.2.2.2.2 = b.2.2.2.2 := by
  obtain ⟨a1, a2, a3, a4, a5⟩ := a; obtain ⟨b1, b2, b3, b4, b5⟩ := b
  simp only [Prod.mk.injEq]
structure LenT (n : Nat) (t : Txn) : Prop where
  ops : t.2.2.2.2.length < n
  each : ∀ o ∈ t.2.2.2.2, LenO n o
theorem rsameTxn_is (k : Nat) (a b : Txn) (hl : LenT k a) (hk : k < 1000000) : ref12_Same.f k a b = some (decide (a = b)) := by
  have := hl.ops
  rw [ref12_Same.f_eq]
  simp only [ieq_dec, deqDot, deqBool, bnot_dec, bnd_some, br_dec, ilen, Int.natCast_inj]
  rw [show decide (a = b) = decide (a.1 = b.1 ∧ a.2.1 = b.2.1 ∧ a.2.2.1 = b.2.2.1 ∧ a.2.2.2.1 = b.2.2.2.1 ∧ a.2.2.2.2 = b.2.2.2.2) from decide_eq_decide.2 (txn_eq a b)]
  by_cases h1 : a.1 = b.1
  · by_cases h2 : a.2.1 = b.2.1
    · by_cases h3 : a.2.2.1 = b.2.2.1
      · by_cases h4 : a.2.2.2.1 = b.2.2.2.1
        · by_cases h5 : a.2.2.2.2.length = b.2.2.2.2.length
          · simp only [h1, h2, h3, h4, h5, not_true, if_false, true_and]
            exact loop_same a.2.2.2.2 b.2.2.2.2 h5 (fun n i => ref12_Same.l4 k n (i : Int) a b) (fun n i hi hi' => by
              simp only [ref12_Same.l4_eq, ilt_nat, inL_nat, natOf_nat, hi, hi', decide_true, br_true, rd_at' (e := tOp) hi, rd_at' (e := tOp) hi', rsameOp_is k _ _ (hl.each _ (List.getElem_mem hi)) hk, bnd_some, bnot_dec, br_dec, iadd_nat (show i < 4611686018427387904 by omega)]
              by_cases e : a.2.2.2.2[i] = b.2.2.2.2[i] <;> simp [e]) (fun n => by simp only [ref12_Same.l4_eq, ilt_nat, Nat.lt_irrefl, decide_false, br_false]) k (by omega)
          · have : a.2.2.2.2 ≠ b.2.2.2.2 := fun e => h5 (by rw [e])
            simp [h1, h2, h3, h4, h5, this]
        · simp [h1, h2, h3, h4]
      · simp [h1, h2, h3]
    · simp [h1, h2]
  · simp [h1]
theorem rallTxn_is (k : Nat) (a b : List Txn) (hl : a.length < k) (he : ∀ t ∈ a, LenT k t) (hk : k < 1000000) : ref12_All.f k a b = some (decide (a = b)) := by
  rw [ref12_All.f_eq, ieq_len, bnot_dec]
  by_cases h : a.length = b.length
  · simp only [h, not_true, decide_false, br_false]
    exact loop_same a b h (fun n i => ref12_All.l4 k n a b (i : Int)) (fun n i hi hi' => by
      simp only [ref12_All.l4_eq, ilt_nat, inL_nat, natOf_nat, hi, hi', decide_true, br_true, rd_at' (e := tTxn) hi, rd_at' (e := tTxn) hi', rsameTxn_is k _ _ (he _ (List.getElem_mem hi)) hk, bnd_some, bnot_dec, br_dec, iadd_nat (show i < 4611686018427387904 by omega)]
      by_cases e : a[i] = b[i] <;> simp [e]) (fun n => by simp only [ref12_All.l4_eq, ilt_nat, Nat.lt_irrefl, decide_false, br_false]) k (by omega)
  · have : a ≠ b := fun e => h (by rw [e])
    simp only [h, this, not_false_eq_true, decide_true, decide_false, br_true]
theorem sta_ext (s u : Sta) (hs : s.2.2.2.2.length = 8) (hu : u.2.2.2.2.length = 8) : s = u ↔ (∀ i, 0 ≤ i → i < 8 → s.2.2.2.2[i]? = u.2.2.2.2[i]?) ∧ s.1 = u.1 ∧ s.2.1 = u.2.1 ∧ s.2.2.1 = u.2.2.1 ∧ s.2.2.2.1 = u.2.2.2.1 := by
  obtain ⟨a1, a2, a3, a4, a5⟩ := s; obtain ⟨b1, b2, b3, b4, b5⟩ := u
  simp only at hs hu ⊢
  constructor
  · intro h; injection h with h1 h; injection h with h2 h; injection h with h3 h; injection h with h4 h5
    exact ⟨fun i _ _ => by rw [h5], h1, h2, h3, h4⟩
  · rintro ⟨h5, h1, h2, h3, h4⟩
    have : a5 = b5 := List.ext_getElem? fun i => by
      by_cases hi : i < 8
      · exact h5 i (by omega) hi
      · rw [List.getElem?_eq_none (by omega), List.getElem?_eq_none (by omega)]
    rw [h1, h2, h3, h4, this]
theorem rsameS_is (k : Nat) (s u : Sta) {n : Nat} (ls : LenS n s) (he : ∀ t ∈ s.1, LenT k t) (hs : s.2.2.2.2.length = 8) (hu : u.2.2.2.2.length = 8) (hn : n < k) (h17 : 17 < k) (hk : k < 1000000) : ∃ b, ref22_Same.f k s u = some b ∧ (b = true ↔ s = u) := by
  have := ls.tx; have := ls.un; have := ls.kn; have := ls.se
  rw [ref22_Same.f_eq]
  obtain ⟨b, hb, hbi⟩ := loop_all 8 (fun n i => ref22_Same.l2 k n (i : Int) s u) (fun i => s.2.2.2.2[i]? = u.2.2.2.2[i]?) (fun n' i hi => by
    have e1 : ilt (i : Int) 8 = decide (i < 8) := ilt_nn i 8
    have e2 : inB (i : Int) 8 = decide (i < 8) := inB_nat i 8
    have hi1 : i < s.2.2.2.2.length := by omega
    have hi2 : i < u.2.2.2.2.length := by omega
    have hlen := ls.re _ (List.getElem_mem hi1)
    have e3 : iadd .i64 (i : Int) 1 = ((i + 1 : Nat) : Int) := iadd_nat (by omega)
    simp only [ref22_Same.l2_eq, e1, e2, hi, decide_true, br_true, natOf_nat, rd_at' (e := .slc tDot) hi1, rd_at' (e := .slc tDot) hi2, reqD k _ _ (show (s.2.2.2.2[i]).length < k by omega) hk, bnd_some, bnot_dec, br_dec, e3]
    by_cases h : s.2.2.2.2[i] = u.2.2.2.2[i]
    · exact .inl ⟨by rw [List.getElem?_eq_getElem hi1, List.getElem?_eq_getElem hi2, h], if_neg (by simpa using h)⟩
    · exact .inr ⟨fun hh => by rw [List.getElem?_eq_getElem hi1, List.getElem?_eq_getElem hi2] at hh; exact h (Option.some.inj hh), if_pos h⟩)
    (some (decide (s.1 = u.1 ∧ s.2.1 = u.2.1 ∧ s.2.2.1 = u.2.2.1 ∧ s.2.2.2.1 = u.2.2.2.1))) (s.1 = u.1 ∧ s.2.1 = u.2.1 ∧ s.2.2.1 = u.2.2.1 ∧ s.2.2.2.1 = u.2.2.2.1) ⟨_, rfl, by simp⟩ (fun n' => by
    have e1 : ilt ((8 : Nat) : Int) 8 = false := rfl
    simp only [ref22_Same.l2_eq, e1, br_false, rallTxn_is k s.1 u.1 (by omega) he hk, rsameU_is k s.2.1 u.2.1 (by omega) hk, rsame_is k s.2.2.1 u.2.2.1 (by omega) hk, rsame_is k s.2.2.2.1 u.2.2.2.1 (by omega) hk, bnd_some, br_dec]
    by_cases h1 : s.1 = u.1 <;> by_cases h2 : s.2.1 = u.2.1 <;> by_cases h3 : s.2.2.1 = u.2.2.1 <;> simp [h1, h2, h3]) k 0 (by omega) (by omega)
  exact ⟨b, hb, hbi.trans (sta_ext s u hs hu).symm⟩
end Go.Proofs.YtbiihldcljemfaaGreatDoor
end
section
/- Which states and deltas the document calls good: what is known of them. -/
namespace Go.Proofs.YtbiihldcljemfaaGreatDoor
open Pal
def risAt (l : List Txn) (j : Nat) : Prop := ∀ h : j + 1 < l.length, dotLt (l[j]'(by omega)).1 l[j + 1].1 = true
theorem ris_iff {l : List Txn} : l.Pairwise (fun a b => dotLt a.1 b.1 = true) ↔ ∀ j, 0 ≤ j → j < l.length - 1 → risAt l j := by
  constructor
  · intro h j h1 h2 hj
    exact List.pairwise_iff_getElem.1 h j (j + 1) (by omega) hj (by omega)
  · intro h
    refine List.pairwise_iff_getElem.2 fun i j hi hj hij => ?_
    have key : ∀ d i (hd : i + d + 1 < l.length), dotLt (l[i]'(by omega)).1 l[i + d + 1].1 = true := by
      intro d
      induction d with
      | zero => intro i hd; exact h i (by omega) (by omega) hd
      | succ d ih =>
        intro i hd
        exact dotLt_trans (ih i (by omega)) (h (i + d + 1) (by omega) (by omega) (by omega))
    have := key (j - i - 1) i (by omega)
    have e : i + (j - i - 1) + 1 = j := by omega
    simpa only [e] using this
theorem rrises_is (k : Nat) (l : List Txn) (hl : l.length < k) (hk : k < 1000000) : ∃ b, ref12_Rises.f k l = some b ∧ (b = true ↔ l.Pairwise (fun a b => dotLt a.1 b.1 = true)) := by
  rw [ref12_Rises.f_eq]
  obtain ⟨b, hb, hbi⟩ := loop_all' (l.length - 1) (fun n i => ref12_Rises.l2 k n l ((i + 1 : Nat) : Int)) (risAt l) (fun n i hi => by
    have hi0 : i < l.length := by omega
    have hi1 : i + 1 < l.length := by omega
    have e3 : isub .i64 ((i + 1 : Nat) : Int) 1 = (i : Int) := by rw [isub_s (by omega) (by omega) (by omega) (by omega)]; omega
    have e4 : iadd .i64 ((i + 1 : Nat) : Int) 1 = ((i + 1 + 1 : Nat) : Int) := iadd_nat (by omega)
    simp only [ref12_Rises.l2_eq, ilt_nat, e3, inL_nat, natOf_nat, hi0, hi1, decide_true, br_true, rd_at' (e := tTxn) hi0, rd_at' (e := tTxn) hi1, rcmp_is, bnd_some, cmp_m1, e4]
    cases hd : dotLt l[i].1 l[i + 1].1 with
    | true => exact .inl ⟨fun _ => hd, rfl⟩
    | false => exact .inr ⟨fun h => (by have := h hi1; rw [hd] at this; cases this), rfl⟩) (fun n => by
    simp only [ref12_Rises.l2_eq, ilt_nat, show ¬ l.length - 1 + 1 < l.length by omega, decide_false, br_false]) k 0 (by omega) (by omega)
  exact ⟨b, hb, hbi.trans ris_iff.symm⟩
def emptyD : DSet := (zarr 16 0, [])
theorem empty_can : Can emptyD := (ofD_can []).1
theorem empty_mem (x : Dot) : ¬ Mem emptyD x := fun h => by
  have := ((ofD_can []).2.1 x).1 h
  simp at this
def dotsOf (l : List Txn) : List Dot := l.map (·.1)
theorem known_isG (k : Nat) (l : List Txn) (hl : l.length + 1 < k) (hk : k < 1000000) : ref22_Known.f k l = some ((dotsOf l).foldl putD emptyD) := by
  rw [ref22_Known.f_eq]
  have key : ∀ n i (s : DSet), i ≤ l.length → l.length < n + i → Can s → s.2.length ≤ i → ref22_Known.l3 k n l (i : Int) (zarr 16 0) [] s = some ((dotsOf (l.drop i)).foldl putD s) := by
    intro n
    induction n with
    | zero => intro i s h h'; omega
    | succ n ih =>
      intro i s h h' hs hsl
      rw [ref22_Known.l3_eq, ilt_nat, inL_nat, natOf_nat]
      by_cases hi : i < l.length
      · have e3 : iadd .i64 (i : Int) 1 = ((i + 1 : Nat) : Int) := iadd_nat (by omega)
        rw [rd_at' (e := tTxn) hi, rput_is k s l[i].1 (by omega) hk hs, e3, List.drop_eq_getElem_cons hi]
        simp only [hi, decide_true, br_true, bnd_some, dotsOf, List.map_cons, List.foldl_cons]
        obtain ⟨a, _, c⟩ := putD_can hs l[i].1
        exact ih (i + 1) _ (by omega) (by omega) a (by omega)
      · rw [List.drop_of_length_le (by omega)]
        simp only [hi, decide_false, br_false, dotsOf, List.map_nil, List.foldl_nil]
  exact key k 0 emptyD (by omega) (by omega) empty_can (by simp [emptyD])
theorem known_is (k : Nat) (l : List Txn) (hl : l.length + 1 < k) (hk : k < 1000000) (hr : ∀ t ∈ l, rightD t.1 = true) : ref22_Known.f k l = some ((dotsOf l).foldl putD emptyD) := known_isG k l hl hk
theorem known_mem {l : List Txn} (hr : ∀ t ∈ l, rightD t.1 = true) : Can ((dotsOf l).foldl putD emptyD) ∧ (∀ x, Mem ((dotsOf l).foldl putD emptyD) x ↔ ∃ t ∈ l, t.1 = x) ∧ ((dotsOf l).foldl putD emptyD).2.length ≤ l.length := by
  obtain ⟨p, q, r⟩ := puts_can (dotsOf l) emptyD empty_can (fun d hd => by
    obtain ⟨t, ht, rfl⟩ := List.mem_map.1 hd; exact hr t ht)
  refine ⟨p, fun x => ?_, ?_⟩
  · rw [q]
    constructor
    · rintro (h | h)
      · exact absurd h (empty_mem x)
      · obtain ⟨t, ht, rfl⟩ := List.mem_map.1 h; exact ⟨t, ht, rfl⟩
    · rintro ⟨t, ht, rfl⟩; exact .inr (List.mem_map.2 ⟨t, ht, rfl⟩)
  · have : (dotsOf l).length = l.length := by simp [dotsOf]
    have e0 : emptyD.2.length = 0 := rfl
    omega
structure RightS (k : Nat) (s : Sta) : Prop where
  many : s.1.length ≤ 1000
  ris : s.1.Pairwise (fun a b => dotLt a.1 b.1 = true)
  un : CanU s.2.1
  se : Can s.2.2.2.1 ∧ s.2.2.2.1.2.length ≤ 4096
  chk : ∀ t ∈ s.1, ref12_Check.f k t = some 0
  redo : ∀ l ∈ s.2.2.2.2, l.length ≤ 1000 ∧ ∀ d ∈ l, rightD d = true
  kn : Can s.2.2.1 ∧ s.2.2.1.2.length ≤ 4096
  know : s.2.2.1 = (dotsOf s.1).foldl putD emptyD
def chkAt (k : Nat) (l : List Txn) (j : Nat) : Prop := ∀ h : j < l.length, ref12_Check.f k l[j] = some 0
def redoAt (r : List (List Dot)) (j : Nat) : Prop := ∀ h : j < r.length, r[j].length ≤ 1000 ∧ ∀ d ∈ r[j], rightD d = true
def rdAt (l : List Dot) (j : Nat) : Prop := ∀ h : j < l.length, rightD l[j] = true
theorem rdAt_all {l : List Dot} : (∀ j, 0 ≤ j → j < l.length → rdAt l j) ↔ ∀ d ∈ l, rightD d = true := by
  constructor
  · intro h d hd
    obtain ⟨j, hj, rfl⟩ := List.mem_iff_getElem.1 hd
    exact h j (by omega) hj hj
  · intro h j _ hj _; exact h _ (List.getElem_mem hj)
theorem rrightS_isG (k : Nat) (s : Sta) (hv1 : s.2.2.1.1.length = 16) (hv2 : s.2.2.2.1.1.length = 16) (hr8 : s.2.2.2.2.length = 8) (hsh : ∀ t ∈ s.1, ∃ e : Int, ref12_Check.f k t = some e ∧ (e = 0 → rightD t.1 = true)) (hrl : ∀ l ∈ s.2.2.2.2, l.length < k) (hul : s.2.1.length < k) (hk : 5000 < k) (hk2 : k < 1000000) :
    ∃ b, ref22_Right.f k s = some b ∧ (b = true ↔ RightS k s) := by
  rw [ref22_Right.f_eq, show ilt 1000 (ilen s.1) = decide (1000 < s.1.length) from ilt_lenR 1000 s.1]
  by_cases hm : 1000 < s.1.length
  · rw [decide_eq_true hm]; exact ⟨false, rfl, ⟨fun h => (by cases h), fun h => by have := h.many; omega⟩⟩
  rw [decide_eq_false hm]
  obtain ⟨b1, g1, i1⟩ := rrises_is k s.1 (by omega) hk2
  obtain ⟨b2, g2, i2⟩ := rrightU_is k s.2.1 hul hk2
  obtain ⟨b3, g3, i3⟩ := rr_is k s.2.2.2.1 hv2 hk hk2
  obtain ⟨b4, g4, i4⟩ := rr_is k s.2.2.1 hv1 hk hk2
  rw [g1]
  simp only [br_false, bnd_some]
  cases b1 with
  | false => exact ⟨false, rfl, ⟨fun h => (by cases h), fun h => i1.2 h.ris⟩⟩
  | true =>
  have bt : bnot true = false := rfl
  have bf : bnot false = true := rfl
  rw [bt, g2]
  simp only [br_false, bnd_some]
  cases b2 with
  | false => exact ⟨false, rfl, ⟨fun h => (by cases h), fun h => i2.2 h.un⟩⟩
  | true =>
  rw [bt, g3]
  simp only [br_false, bnd_some]
  cases b3 with
  | false => exact ⟨false, rfl, ⟨fun h => (by cases h), fun h => i3.2 h.se⟩⟩
  | true =>
  rw [bt]
  simp only [br_false]
  have tail : (∀ t ∈ s.1, rightD t.1 = true) → ∃ b, (bnd (ref06_Right.f k s.2.2.1) fun r0 => br r0 (bnd (ref22_Known.f k s.1) fun r1 => bnd (ref06_Same.f k s.2.2.1 r1) fun r2 => some r2) (some false)) = some b ∧ (b = true ↔ (Can s.2.2.1 ∧ s.2.2.1.2.length ≤ 4096) ∧ s.2.2.1 = (dotsOf s.1).foldl putD emptyD) := by
    intro hrt
    rw [g4]
    simp only [bnd_some]
    cases b4 with
    | false => exact ⟨false, rfl, ⟨fun h => (by cases h), fun h => i4.2 h.1⟩⟩
    | true =>
      have h4 := i4.1 rfl
      simp only [br_true]
      rw [known_is k s.1 (by omega) hk2 hrt]
      simp only [bnd_some]
      rw [rsame_is k _ _ (by omega) hk2]
      exact ⟨_, rfl, by rw [decide_eq_true_iff]; exact ⟨fun h => ⟨h4, h⟩, fun h => h.2⟩⟩
  have rows : (∀ t ∈ s.1, rightD t.1 = true) → ∃ b, ref22_Right.l9 k k 0 s = some b ∧ (b = true ↔ (∀ j, 0 ≤ j → j < 8 → redoAt s.2.2.2.2 j) ∧ ((Can s.2.2.1 ∧ s.2.2.1.2.length ≤ 4096) ∧ s.2.2.1 = (dotsOf s.1).foldl putD emptyD)) := by
    intro hrt
    refine loop_all 8 (fun n i => ref22_Right.l9 k n (i : Int) s) (redoAt s.2.2.2.2) (fun n i hi => ?_) _ _ (tail hrt) (fun n => ?_) k 0 (by omega) (by omega)
    · have e1 : ilt (i : Int) 8 = decide (i < 8) := ilt_nn i 8
      have e2 : inB (i : Int) 8 = decide (i < 8) := inB_nat i 8
      have hi1 : i < s.2.2.2.2.length := by omega
      have hll := hrl _ (List.getElem_mem hi1)
      have e4 : ilt 1000 (ilen s.2.2.2.2[i]) = decide (1000 < s.2.2.2.2[i].length) := ilt_lenR 1000 s.2.2.2.2[i]
      simp only [ref22_Right.l9_eq, e1, e2, hi, decide_true, br_true, natOf_nat, rd_at' (e := .slc tDot) hi1, e4]
      by_cases hl : 1000 < s.2.2.2.2[i].length
      · rw [decide_eq_true hl]
        exact .inr ⟨fun h => by have := (h hi1).1; omega, rfl⟩
      · rw [decide_eq_false hl]
        simp only [br_false]
        have inner : ∀ q j, j ≤ s.2.2.2.2[i].length → s.2.2.2.2[i].length < q + j → ((∀ p, j ≤ p → p < s.2.2.2.2[i].length → rdAt s.2.2.2.2[i] p) ∧ ref22_Right.l14 k n q (i : Int) (j : Int) s = ref22_Right.l9 k n ((i + 1 : Nat) : Int) s) ∨ (¬ (∀ p, j ≤ p → p < s.2.2.2.2[i].length → rdAt s.2.2.2.2[i] p) ∧ ref22_Right.l14 k n q (i : Int) (j : Int) s = some false) := by
          intro q
          induction q with
          | zero => intro j h1 h2; omega
          | succ q ih =>
            intro j h1 h2
            have e3 : iadd .i64 (j : Int) 1 = ((j + 1 : Nat) : Int) := iadd_nat (by omega)
            have e5 : iadd .i64 (i : Int) 1 = ((i + 1 : Nat) : Int) := iadd_nat (by omega)
            by_cases hj : j < s.2.2.2.2[i].length
            · simp only [ref22_Right.l14_eq, e2, hi, decide_true, br_true, natOf_nat, rd_at' (e := .slc tDot) hi1, ilt_nat, inL_nat, hj, rd_at' (e := tDot) hj, rright_is, bnd_some, e3]
              cases hd : rightD s.2.2.2.2[i][j] with
              | false => exact .inr ⟨fun h => (by have := h j (Nat.le_refl _) hj hj; rw [hd] at this; cases this), rfl⟩
              | true =>
                rcases ih (j + 1) (by omega) (by omega) with ⟨h3, h4⟩ | ⟨h3, h4⟩
                · refine .inl ⟨fun p hp1 hp2 => ?_, h4⟩
                  by_cases e : p = j
                  · subst e; exact fun _ => hd
                  · exact h3 p (by omega) hp2
                · exact .inr ⟨fun h => h3 fun p hp1 hp2 => h p (by omega) hp2, h4⟩
            · refine .inl ⟨fun p hp1 hp2 => by omega, ?_⟩
              simp only [ref22_Right.l14_eq, e2, hi, decide_true, br_true, natOf_nat, rd_at' (e := .slc tDot) hi1, ilt_nat, hj, decide_false, br_false, e5]
        rcases inner k 0 (by omega) (by omega) with ⟨h3, h4⟩ | ⟨h3, h4⟩
        · exact .inl ⟨fun _ => ⟨by omega, rdAt_all.1 h3⟩, h4⟩
        · exact .inr ⟨fun h => h3 (rdAt_all.2 (h hi1).2), h4⟩
    · have e1 : ilt ((8 : Nat) : Int) 8 = false := rfl
      simp only [ref22_Right.l9_eq, e1, br_false]
  have hdot : (∀ j, 0 ≤ j → j < s.1.length → chkAt k s.1 j) → ∀ t ∈ s.1, rightD t.1 = true := by
    intro h t ht
    obtain ⟨j, hj, rfl⟩ := List.mem_iff_getElem.1 ht
    obtain ⟨e, he, hei⟩ := hsh _ ht
    rw [h j (by omega) hj hj] at he
    injection he with he
    exact hei he.symm
  have txs : ∃ b, ref22_Right.l4 k k 0 s = some b ∧ (b = true ↔ (∀ j, 0 ≤ j → j < s.1.length → chkAt k s.1 j) ∧ ((∀ j, 0 ≤ j → j < 8 → redoAt s.2.2.2.2 j) ∧ ((Can s.2.2.1 ∧ s.2.2.1.2.length ≤ 4096) ∧ s.2.2.1 = (dotsOf s.1).foldl putD emptyD))) := by
    by_cases hall : ∀ j, 0 ≤ j → j < s.1.length → chkAt k s.1 j
    · refine loop_all s.1.length (fun n i => ref22_Right.l4 k n (i : Int) s) (chkAt k s.1) (fun n i hi => ?_) _ _ (rows (hdot hall)) (fun n => ?_) k 0 (by omega) (by omega)
      · have e3 : iadd .i64 (i : Int) 1 = ((i + 1 : Nat) : Int) := iadd_nat (by omega)
        have hc := hall i (by omega) hi hi
        have ez : ieq (0 : Int) 0 = true := rfl
        simp only [ref22_Right.l4_eq, ilt_nat, inL_nat, natOf_nat, hi, decide_true, br_true, rd_at' (e := tTxn) hi, hc, bnd_some, e3, ez, bt, br_false]
        exact .inl ⟨hall i (by omega) hi, trivial⟩
      · simp only [ref22_Right.l4_eq, ilt_nat, Nat.lt_irrefl, decide_false, br_false]
    · -- it falls at the first that is wrong
      have fall : ∀ n i, i ≤ s.1.length → s.1.length < n + i → (¬ ∀ j, i ≤ j → j < s.1.length → chkAt k s.1 j) → ref22_Right.l4 k n (i : Int) s = some false := by
        intro n
        induction n with
        | zero => intro i h1 h2; omega
        | succ n ih =>
          intro i h1 h2 hne
          have hi : i < s.1.length := Nat.lt_of_not_le fun hle => hne fun j hj1 hj2 => by omega
          have e3 : iadd .i64 (i : Int) 1 = ((i + 1 : Nat) : Int) := iadd_nat (by omega)
          obtain ⟨e, he, _⟩ := hsh _ (List.getElem_mem hi)
          rw [ref22_Right.l4_eq, ilt_nat, inL_nat, natOf_nat, rd_at' (e := tTxn) hi, he, e3]
          simp only [hi, decide_true, br_true, bnd_some, ieq_dec, bnot_dec, br_dec]
          by_cases hz : e = 0
          · rw [if_neg (by simpa using hz)]
            refine ih (i + 1) (by omega) (by omega) fun hh => hne fun j hj1 hj2 => ?_
            by_cases ej : j = i
            · subst ej; exact fun _ => by rw [he, hz]
            · exact hh j (by omega) hj2
          · rw [if_pos hz]
      exact ⟨false, fall k 0 (by omega) (by omega) hall, ⟨fun h => (by cases h), fun h => absurd h.1 hall⟩⟩
  obtain ⟨b, hb, hbi⟩ := txs
  refine ⟨b, hb, hbi.trans ⟨fun ⟨h1, h2, h3, h4⟩ => ?_, fun h => ⟨fun j _ hj _ => h.chk _ (List.getElem_mem hj), fun j _ hj hj8 => h.redo _ (List.getElem_mem hj8), h.kn, h.know⟩⟩⟩
  refine ⟨by omega, i1.1 rfl, i2.1 rfl, i3.1 rfl, fun t ht => ?_, fun l hl => ?_, h3, h4⟩
  · obtain ⟨j, hj, rfl⟩ := List.mem_iff_getElem.1 ht
    exact h1 j (by omega) hj hj
  · obtain ⟨j, hj, rfl⟩ := List.mem_iff_getElem.1 hl
    exact h2 j (by omega) (by omega) hj
theorem rrightS_is (k : Nat) (s : Sta) (hv1 : s.2.2.1.1.length = 16) (hv2 : s.2.2.2.1.1.length = 16) (hr8 : s.2.2.2.2.length = 8) (hsh : ∀ t ∈ s.1, ShortT t) (hrl : ∀ l ∈ s.2.2.2.2, l.length < k) (hul : s.2.1.length < k) (hk : 5000 < k) (hk2 : k < 1000000) :
    ∃ b, ref22_Right.f k s = some b ∧ (b = true ↔ RightS k s) :=
  rrightS_isG k s hv1 hv2 hr8 (fun t ht => rtxn_is k t (hsh t ht) (by omega) hk2) hrl hul hk hk2
theorem RightS.can {k : Nat} {s : Sta} (h : RightS k s) (hsh : ∀ t ∈ s.1, ShortT t) (hk : 1000 < k) (hk2 : k < 1000000) : CanS s := by
  have hrt : ∀ t ∈ s.1, rightD t.1 = true := fun t ht => by
    obtain ⟨e, he, hei⟩ := rtxn_is k t (hsh t ht) hk hk2
    rw [h.chk t ht] at he; injection he with he; exact hei he.symm
  exact ⟨⟨hrt, h.ris⟩, h.un, h.kn.1, h.se.1, fun x => by rw [h.know]; exact (known_mem hrt).2.1 x⟩
structure ShortS (s : Sta) : Prop where
  tx : s.1.length ≤ 20
  un : s.2.1.length ≤ 100
  kn : s.2.2.1.2.length ≤ 100
  se : s.2.2.2.1.2.length ≤ 100
  each : ∀ t ∈ s.1, ShortT t
  redo : ∀ l ∈ s.2.2.2.2, l.length ≤ 40
theorem ShortS.len {s : Sta} (h : ShortS s) : LenS 100 s := ⟨Nat.le_trans h.tx (by decide), h.un, h.kn, h.se, fun l hl => Nat.le_trans (h.redo l hl) (by decide)⟩
def shtAt (k : Nat) (l : List Txn) (j : Nat) : Prop := ∀ h : j < l.length, ref12_Short.f k l[j] = some true
def s40At (r : List (List Dot)) (j : Nat) : Prop := ∀ h : j < r.length, r[j].length ≤ 40
theorem shtAt_all {k : Nat} {l : List Txn} (hk : 1000 < k) (hk2 : k < 1000000) (h : ∀ j, 0 ≤ j → j < l.length → shtAt k l j) : ∀ t ∈ l, ShortT t := by
  intro t ht
  obtain ⟨j, hj, rfl⟩ := List.mem_iff_getElem.1 ht
  obtain ⟨b, hb, hbi⟩ := rtxnshort_is k l[j] hk hk2
  rw [h j (by omega) hj hj] at hb
  injection hb with hb; exact hbi hb.symm
theorem sht_step (k : Nat) (t : Txn) (hk : 1000 < k) (hk2 : k < 1000000) : ∃ b, ref12_Short.f k t = some b := by
  obtain ⟨b, hb, _⟩ := rtxnshort_is k t hk hk2
  exact ⟨b, hb⟩
theorem rshortS_is (k : Nat) (s : Sta) (hr8 : s.2.2.2.2.length = 8) (hk : 1000 < k) (hk2 : k < 1000000) : ∃ b, ref22_Short.f k s = some b ∧ (b = true → ShortS s) := by
  rw [ref22_Short.f_eq, show ilt 20 (ilen s.1) = decide (20 < s.1.length) from ilt_lenR 20 _, show ilt 100 (ilen s.2.1) = decide (100 < s.2.1.length) from ilt_lenR 100 _, show ilt 100 (ilen s.2.2.1.2) = decide (100 < s.2.2.1.2.length) from ilt_lenR 100 _, show ilt 100 (ilen s.2.2.2.1.2) = decide (100 < s.2.2.2.1.2.length) from ilt_lenR 100 _]
  simp only [br_dec]
  by_cases h1 : 20 < s.1.length
  · rw [if_pos h1]; exact ⟨false, rfl, fun h => by cases h⟩
  by_cases h2 : 100 < s.2.1.length
  · rw [if_neg h1, if_pos h2]; exact ⟨false, rfl, fun h => by cases h⟩
  by_cases h3 : 100 < s.2.2.1.2.length
  · rw [if_neg h1, if_neg h2, if_pos h3]; exact ⟨false, rfl, fun h => by cases h⟩
  by_cases h4 : 100 < s.2.2.2.1.2.length
  · rw [if_neg h1, if_neg h2, if_neg h3, if_pos h4]; exact ⟨false, rfl, fun h => by cases h⟩
  rw [if_neg h1, if_neg h2, if_neg h3, if_neg h4]
  have rows : ∃ b, ref22_Short.l9 k k 0 s = some b ∧ (b = true ↔ ∀ j, 0 ≤ j → j < 8 → s40At s.2.2.2.2 j) := by
    refine loop_all' 8 (fun n i => ref22_Short.l9 k n (i : Int) s) (s40At s.2.2.2.2) (fun n i hi => ?_) (fun n => ?_) k 0 (by omega) (by omega)
    · have e1 : ilt (i : Int) 8 = decide (i < 8) := ilt_nn i 8
      have e2 : inB (i : Int) 8 = decide (i < 8) := inB_nat i 8
      have hi1 : i < s.2.2.2.2.length := by omega
      have e3 : iadd .i64 (i : Int) 1 = ((i + 1 : Nat) : Int) := iadd_nat (by omega)
      have e4 : ilt 40 (ilen s.2.2.2.2[i]) = decide (40 < s.2.2.2.2[i].length) := ilt_lenR 40 s.2.2.2.2[i]
      simp only [ref22_Short.l9_eq, e1, e2, hi, decide_true, br_true, natOf_nat, rd_at' (e := .slc tDot) hi1, e4, e3, br_dec]
      by_cases hl : 40 < s.2.2.2.2[i].length
      · exact .inr ⟨fun h => by have := h hi1; omega, if_pos hl⟩
      · exact .inl ⟨fun _ => by omega, if_neg hl⟩
    · have e1 : ilt ((8 : Nat) : Int) 8 = false := rfl
      simp only [ref22_Short.l9_eq, e1, br_false]
  obtain ⟨b, hb, hbi⟩ := loop_all s.1.length (fun n i => ref22_Short.l4 k n (i : Int) s) (shtAt k s.1) (fun n i hi => by
    have e3 : iadd .i64 (i : Int) 1 = ((i + 1 : Nat) : Int) := iadd_nat (by omega)
    obtain ⟨c, hc⟩ := sht_step k s.1[i] hk hk2
    simp only [ref22_Short.l4_eq, ilt_nat, inL_nat, natOf_nat, hi, decide_true, br_true, rd_at' (e := tTxn) hi, hc, bnd_some, e3]
    cases c with
    | false => exact .inr ⟨fun h => (by have := h hi; rw [hc] at this; cases this), rfl⟩
    | true => exact .inl ⟨fun _ => hc, rfl⟩) _ _ rows (fun n => by simp only [ref22_Short.l4_eq, ilt_nat, Nat.lt_irrefl, decide_false, br_false]) k 0 (by omega) (by omega)
  refine ⟨b, hb, fun h => ?_⟩
  obtain ⟨q1, q2⟩ := hbi.1 h
  refine ⟨by omega, by omega, by omega, by omega, shtAt_all hk hk2 q1, fun l hl => ?_⟩
  obtain ⟨j, hj, rfl⟩ := List.mem_iff_getElem.1 hl
  exact q2 j (by omega) (by omega) hj
theorem goodS_is (k : Nat) (s : Ty.D tState) (fs : Fits tState s) (hk : 5000 < k) (hk2 : k < 1000000) : ∃ b, ref22_Good.f k s = some b ∧ (b = true → CanS s ∧ ShortS s ∧ RightS k s) := by
  have f1 : s.2.2.1.1.length = 16 := fs.2.2.1.1.1
  have f2 : s.2.2.2.1.1.length = 16 := fs.2.2.2.1.1.1
  have f3 : s.2.2.2.2.length = 8 := fs.2.2.2.2.1
  obtain ⟨b, hb, hbi⟩ := rshortS_is k s f3 (by omega) hk2
  rw [ref22_Good.f_eq, hb]
  simp only [bnd_some]
  cases b with
  | false => exact ⟨false, rfl, fun h => by cases h⟩
  | true =>
    have sh := hbi rfl
    have := sh.un
    obtain ⟨c, hc, hci⟩ := rrightS_is k s f1 f2 f3 sh.each (fun l hl => by have := sh.redo l hl; omega) (by omega) hk hk2
    simp only [br_true, hc, bnd_some]
    exact ⟨c, rfl, fun h => ⟨(hci.1 h).can sh.each (by omega) hk2, sh, hci.1 h⟩⟩
theorem ShortT.lenT {t : Txn} (h : ShortT t) {k : Nat} (hk : 1000 < k) : LenT k t := ⟨by have := h.len; omega, fun o ho => ⟨by have := (h.ops o ho).path.1; omega, by have := (h.ops o ho).seen; omega⟩⟩
structure ShortD (d : Dlt) : Prop where
  tx : d.1.length ≤ 20
  un : d.2.1.length ≤ 100
  se : d.2.2.length ≤ 100
  each : ∀ t ∈ d.1, ShortT t
theorem ShortD.len {d : Dlt} (h : ShortD d) : LenD 100 d := ⟨Nat.le_trans h.tx (by decide), h.un, h.se⟩
structure RightDl (k : Nat) (d : Dlt) : Prop where
  many : d.1.length ≤ 1000
  ris : d.1.Pairwise (fun a b => dotLt a.1 b.1 = true)
  un : CanU d.2.1
  chk : ∀ t ∈ d.1, ref12_Check.f k t = some 0
  se : ∀ x ∈ d.2.2, rightD x = true
theorem RightDl.can {k : Nat} {d : Dlt} (h : RightDl k d) (hsh : ∀ t ∈ d.1, ShortT t) (hk : 1000 < k) (hk2 : k < 1000000) : CanDl d :=
  ⟨⟨fun t ht => by
    obtain ⟨e, he, hei⟩ := rtxn_is k t (hsh t ht) hk hk2
    rw [h.chk t ht] at he; injection he with he; exact hei he.symm, h.ris⟩, h.un, h.se⟩
end Go.Proofs.YtbiihldcljemfaaGreatDoor
end
section
/- States with more of each: they may be, and the order does not matter. -/
set_option linter.unusedVariables false
set_option linter.unusedSimpArgs false
namespace Go.Proofs.YtbiihldcljemfaaGreatDoor
open Pal
theorem puts_memG : ∀ (l : List Dot) (s : DSet), Can s → Can (l.foldl putD s) ∧ (∀ x, Mem (l.foldl putD s) x ↔ Mem s x ∨ (rightD x = true ∧ x ∈ l)) ∧ (l.foldl putD s).2.length ≤ s.2.length + l.length
  | [], s, h => ⟨h, fun x => by simp, by simp⟩
  | d :: l, s, h => by
    obtain ⟨a, b, c⟩ := putD_can h d
    obtain ⟨p, q, r⟩ := puts_memG l _ a
    refine ⟨p, fun x => ?_, by simp only [List.foldl_cons, List.length_cons]; omega⟩
    show Mem (l.foldl putD (putD s d)) x ↔ _
    rw [q, b]
    constructor
    · rintro ((h1 | ⟨h1, rfl⟩) | ⟨h1, h2⟩)
      · exact .inl h1
      · exact .inr ⟨h1, by simp⟩
      · exact .inr ⟨h1, List.mem_cons_of_mem _ h2⟩
    · rintro (h1 | ⟨h1, h2⟩)
      · exact .inl (.inl h1)
      · rcases List.mem_cons.1 h2 with rfl | h2
        · exact .inl (.inr ⟨h1, rfl⟩)
        · exact .inr ⟨h1, h2⟩
end Go.Proofs.YtbiihldcljemfaaGreatDoor
end
section
/- What is known: joined, the same, within. -/
namespace Go.Proofs.YtbiihldcljemfaaGreatDoor
open Pal
end Go.Proofs.YtbiihldcljemfaaGreatDoor
end
section
/- Counts that may be: the program's test. -/
set_option linter.unusedVariables false
set_option linter.unusedSimpArgs false
namespace Go.Proofs.YtbiihldcljemfaaGreatDoor
open Pal
theorem trightU2_is (k : Nat) (l : List Undo) (h3 : 3 ≤ k) (hl : l.length < k) (hk : k < 1000000) : ∃ b, tally_Right.f k l = some b ∧ (b = true ↔ CanU l) := by
  obtain ⟨b, hb, hbi⟩ := loop_all' l.length (fun n i => tally_Right.l2 k n l l (ilen l) (i : Int)) (okU l) (fun n i hi => by
    have e4 : iadd .i64 (i : Int) 1 = ((i + 1 : Nat) : Int) := iadd_nat (by omega)
    simp only [tally_Right.l2_eq, ilt_nat, inL_nat, natOf_nat, hi, decide_true, br_true, rd_at' (e := tUndo) hi, right_is, bnd_some, e4]
    have key : ∀ hr : rightU l[i] = false, ¬ okU l i := fun hr h => by have := (h hi).1; rw [hr] at this; cases this
    have bt : bnot true = false := rfl
    have bf : bnot false = true := rfl
    cases hd : rightD l[i].1 with
    | false => exact .inr ⟨key (by unfold rightU; rw [hd]; rfl), by rw [bf]; rfl⟩
    | true =>
      rw [bt]
      simp only [br_false, ilt_dec, br_dec]
      by_cases h1 : l[i].2 < 1
      · exact .inr ⟨key (by unfold rightU; rw [hd, decide_eq_false (by omega)]; rfl), if_pos h1⟩
      · rw [if_neg h1]
        by_cases h2 : 64 < l[i].2
        · exact .inr ⟨key (by unfold rightU; rw [hd, decide_eq_false (by omega)]; rfl), if_pos h2⟩
        · rw [if_neg h2]
          have hu : rightU l[i] = true := by unfold rightU; rw [hd, decide_eq_true (by omega)]; rfl
          by_cases h0 : 0 < i
          · have hi1 : i - 1 < l.length := by omega
            have e3 : isub .i64 (i : Int) 1 = ((i - 1 : Nat) : Int) := by rw [isub_s (by omega) (by omega) (by omega) (by omega)]; omega
            have e5 : (0 : Int) < (i : Int) := by omega
            rw [if_pos e5, e3, inL_nat, natOf_nat, rd_at' (e := tUndo) hi1, tcmp_is k _ _ h3]
            simp only [hi1, decide_true, br_true, bnd_some, ile_dec, br_dec]
            have hcc : cmpD l[i - 1].1 l[i].1 < 0 ↔ dotLt l[i - 1].1 l[i].1 = true := by rw [← cmp_lt0]; exact decide_eq_true_iff.symm
            by_cases hc : 0 ≤ cmpD l[i - 1].1 l[i].1
            · exact .inr ⟨fun h => by have := hcc.2 ((h hi).2 h0); omega, if_pos hc⟩
            · exact .inl ⟨fun _ => ⟨hu, fun _ => hcc.1 (by omega)⟩, if_neg hc⟩
          · have e5 : ¬ (0 : Int) < (i : Int) := by omega
            exact .inl ⟨fun _ => ⟨hu, fun h => absurd h h0⟩, if_neg e5⟩) (fun n => by
    simp only [tally_Right.l2_eq, ilt_nat, Nat.lt_irrefl, decide_false, br_false]) k 0 (by omega) (by omega)
  rw [tally_Right.f_eq]
  refine ⟨b, hb, hbi.trans ?_⟩
  rw [canU_iff]
  exact ⟨fun h j hj => h j (by omega) hj hj, fun h j _ _ hj => h j hj⟩
end Go.Proofs.YtbiihldcljemfaaGreatDoor
end
section
/- Whether a state may be: the program's word is the document's. -/
set_option linter.unusedVariables false
set_option linter.unusedSimpArgs false
namespace Go.Proofs.YtbiihldcljemfaaGreatDoor
open Pal
def risB (l : List Txn) (j : Nat) : Prop := ∀ h : j < l.length, ∀ h0 : 0 < j, dotLt (l[j - 1]'(by omega)).1 l[j].1 = true
theorem risB_iff {l : List Txn} : l.Pairwise (fun a b => dotLt a.1 b.1 = true) ↔ ∀ j, 0 ≤ j → j < l.length → risB l j := by
  rw [ris_iff]
  constructor
  · intro h j _ hj hj' h0
    have := h (j - 1) (by omega) (by omega) (by omega)
    have e : j - 1 + 1 = j := by omega
    simpa only [e] using this
  · intro h j _ hj hj'
    have := h (j + 1) (by omega) (by omega) hj' (by omega)
    simpa using this
theorem trises_is (k : Nat) (l : List Txn) (h3 : 3 ≤ k) (hl : l.length < k) (hk : k < 1000000) : ∃ b, txn_Rises.f k l = some b ∧ (b = true ↔ l.Pairwise (fun a b => dotLt a.1 b.1 = true)) := by
  rw [txn_Rises.f_eq]
  obtain ⟨b, hb, hbi⟩ := loop_all' l.length (fun n i => txn_Rises.l2 k n l l (ilen l) (i : Int)) (risB l) (fun n i hi => by
    have e4 : iadd .i64 (i : Int) 1 = ((i + 1 : Nat) : Int) := iadd_nat (by omega)
    simp only [txn_Rises.l2_eq, ilt_nat, inL_nat, natOf_nat, hi, decide_true, br_true, rd_at' (e := tTxn) hi, e4]
    rw [show ilt 0 (i : Int) = decide (0 < i) from ilt_nn 0 i]
    by_cases h0 : 0 < i
    · have hi1 : i - 1 < l.length := by omega
      have e3 : isub .i64 (i : Int) 1 = ((i - 1 : Nat) : Int) := by rw [isub_s (by omega) (by omega) (by omega) (by omega)]; omega
      obtain ⟨q, rfl⟩ : ∃ q, k = q + 3 := ⟨k - 3, by omega⟩
      rw [decide_eq_true h0, br_true, e3, inL_nat, natOf_nat, rd_at' (e := tTxn) hi1, decide_eq_true hi1, br_true, cmpD_is, bnd_some, show ile 0 (cmpD l[i - 1].1 l[i].1) = decide (0 ≤ cmpD l[i - 1].1 l[i].1) from rfl]
      have hcc : cmpD l[i - 1].1 l[i].1 < 0 ↔ dotLt l[i - 1].1 l[i].1 = true := by rw [← cmp_lt0]; exact decide_eq_true_iff.symm
      by_cases hc : 0 ≤ cmpD l[i - 1].1 l[i].1
      · exact .inr ⟨fun h => by have := hcc.2 (h hi h0); omega, by rw [decide_eq_true hc, br_true]⟩
      · exact .inl ⟨fun _ _ => hcc.1 (by omega), by rw [decide_eq_false hc, br_false]⟩
    · exact .inl ⟨fun _ h => absurd h h0, by rw [decide_eq_false h0, br_false]⟩) (fun n => by
    simp only [txn_Rises.l2_eq, ilt_nat, Nat.lt_irrefl, decide_false, br_false]) k 0 (by omega) (by omega)
  exact ⟨b, hb, hbi.trans risB_iff.symm⟩
theorem names_l (k : Nat) (l : List Txn) (hl : l.length < 1000000) : ∀ (n i : Nat) (x : List Dot), i ≤ l.length → l.length < n + i → x.length = i → state_names.l3 k n x l (ilen l) (i : Int) = some (x ++ dotsOf (l.drop i))
  | 0, i, _, h, h', _ => by omega
  | n + 1, i, x, h, h', hx => by
    rw [state_names.l3_eq, ilt_nat, inL_nat, natOf_nat]
    by_cases hi : i < l.length
    · rw [decide_eq_true hi, br_true, br_true, rd_at' (e := tTxn) hi, room1 (by omega), br_true, iadd_nat (by omega), names_l k l hl n (i + 1) _ (by omega) (by omega) (by simp [app, hx])]
      unfold app dotsOf
      rw [List.drop_eq_getElem_cons hi, List.map_cons, List.append_assoc]; rfl
    · rw [decide_eq_false hi, br_false, List.drop_eq_nil_of_le (by omega)]; simp [dotsOf]
theorem names_is (k : Nat) (l : List Txn) (hl : l.length < k) (hk : k < 1000000) : state_names.f k l = some (dotsOf l) := by
  rw [state_names.f_eq]
  have h := names_l k l (by omega) k 0 [] (by omega) (by omega) rfl
  rw [show ((0 : Nat) : Int) = 0 from rfl, List.drop_zero, List.nil_append] at h
  exact h
theorem chks_l (k : Nat) (l : List Txn) (ho : ∀ t ∈ l, t.2.2.2.2.length < k ∧ ∀ o ∈ t.2.2.2.2, SizO k o) (hl : l.length < 1000000) (hk : 10 < k) (hk2 : k < 1000000) : ∀ (n i : Nat), i ≤ l.length → l.length < n + i →
    ∃ r : Int, slices_IndexFunc_api_Txn_api_Txn_state_Right_1.l2 k n l (ilen l) (i : Int) = some r ∧ (0 ≤ r ↔ ¬ ∀ t ∈ l.drop i, ref12_Check.f k t = some 0)
  | 0, i, _, h => by omega
  | n + 1, i, h, h' => by
    rw [slices_IndexFunc_api_Txn_api_Txn_state_Right_1.l2_eq, ilt_nat, inL_nat, natOf_nat]
    by_cases hi : i < l.length
    · obtain ⟨o1, o2⟩ := ho _ (List.getElem_mem hi)
      obtain ⟨e, g1, g2⟩ := txn_is k l[i] o2 o1 hk hk2
      rw [decide_eq_true hi, br_true, br_true, rd_at' (e := tTxn) hi, state_Right_1.f_eq, g1, bnd_some, bnd_some, iadd_nat (by omega), ieq_dec, bnot_dec, List.drop_eq_getElem_cons hi]
      by_cases h0 : e = 0
      · subst h0
        rw [decide_eq_false (by simp), br_false]
        obtain ⟨r, q1, q2⟩ := chks_l k l ho hl hk hk2 n (i + 1) (by omega) (by omega)
        refine ⟨r, q1, q2.trans (not_congr ⟨fun h t ht => ?_, fun h t ht => h t (List.mem_cons_of_mem _ ht)⟩)⟩
        rcases List.mem_cons.1 ht with rfl | ht
        · exact g2
        · exact h t ht
      · rw [decide_eq_true h0, br_true]
        refine ⟨(i : Int), rfl, ⟨fun _ h => h0 ?_, fun _ => by omega⟩⟩
        have := h l[i] List.mem_cons_self
        rw [g2] at this; injection this
    · rw [decide_eq_false hi, br_false, List.drop_eq_nil_of_le (by omega)]
      exact ⟨-1, rfl, ⟨fun h => by omega, fun h => absurd (fun t ht => by simp at ht) h⟩⟩
theorem rds_l (k : Nat) (l : List Dot) (hl : l.length < 1000000) : ∀ (n i : Nat), i ≤ l.length → l.length < n + i →
    ∃ r : Int, slices_IndexFunc_api_Dot_api_Dot_state_Right_2.l2 k n l (ilen l) (i : Int) = some r ∧ (0 ≤ r ↔ ¬ ∀ d ∈ l.drop i, rightD d = true)
  | 0, i, _, h => by omega
  | n + 1, i, h, h' => by
    rw [slices_IndexFunc_api_Dot_api_Dot_state_Right_2.l2_eq, ilt_nat, inL_nat, natOf_nat]
    by_cases hi : i < l.length
    · rw [decide_eq_true hi, br_true, br_true, rd_at' (e := tDot) hi, state_Right_2.f_eq, right_is, bnd_some, bnd_some, iadd_nat (by omega), List.drop_eq_getElem_cons hi]
      cases hr : rightD l[i] with
      | true =>
        obtain ⟨r, q1, q2⟩ := rds_l k l hl n (i + 1) (by omega) (by omega)
        refine ⟨r, q1, q2.trans (not_congr ⟨fun h t ht => ?_, fun h t ht => h t (List.mem_cons_of_mem _ ht)⟩)⟩
        rcases List.mem_cons.1 ht with rfl | ht
        · exact hr
        · exact h t ht
      | false =>
        refine ⟨(i : Int), rfl, ⟨fun _ h => ?_, fun _ => by omega⟩⟩
        have := h l[i] List.mem_cons_self
        rw [hr] at this; cases this
    · rw [decide_eq_false hi, br_false, List.drop_eq_nil_of_le (by omega)]
      exact ⟨-1, rfl, ⟨fun h => by omega, fun h => absurd (fun t ht => by simp at ht) h⟩⟩
theorem known_ofD (l : List Dot) : l.foldl putD emptyD = ofD l := by
  obtain ⟨p, q, _⟩ := puts_memG l emptyD empty_can
  refine can_unique p (ofD_can l).1 fun x => ?_
  rw [q, (ofD_can l).2.1]
  constructor
  · rintro (h | h)
    · exact absurd h (empty_mem x)
    · exact h
  · exact .inr
def redoOK (l : List Dot) : Prop := l.length ≤ 1000 ∧ ∀ d ∈ l, rightD d = true
theorem right_l6 (k : Nat) (s : Sta) (h8 : s.2.2.2.2.length = 8) (hl : ∀ l ∈ s.2.2.2.2, l.length < k) (b1 b2 : Bool) (g1 : dots_Right.f k s.2.2.1 = some b1) (g2 : dots_Right.f k s.2.2.2.1 = some b2) (hk2 : k < 1000000) : ∀ (n i : Nat), i ≤ 8 → 8 < n + i →
    ∃ b, state_Right.l6 k n s.2.2.2.2 (i : Int) s = some b ∧ (b = true ↔ (∀ l ∈ s.2.2.2.2.drop i, redoOK l) ∧ b1 = true ∧ b2 = true)
  | 0, i, _, h => by omega
  | n + 1, i, h, h' => by
    rw [state_Right.l6_eq, show ilt (i : Int) 8 = decide (i < 8) from ilt_nn i 8, inB_nat, natOf_nat]
    by_cases hi : i < 8
    · have hi' : i < s.2.2.2.2.length := by omega
      have hm := List.getElem_mem hi'
      rw [decide_eq_true hi, br_true, br_true, rd_at' (e := .slc tDot) hi', show ilt 1000 (ilen s.2.2.2.2[i]) = decide (1000 < s.2.2.2.2[i].length) from ilt_lenR 1000 _, List.drop_eq_getElem_cons hi', iadd_nat (by omega)]
      by_cases hb : 1000 < s.2.2.2.2[i].length
      · rw [decide_eq_true hb, br_true]
        exact ⟨false, rfl, ⟨fun h => (by cases h), fun h => by have := (h.1 _ (List.mem_cons_self)).1; omega⟩⟩
      · obtain ⟨r, q1, q2⟩ := rds_l k s.2.2.2.2[i] (by have := hl _ hm; omega) k 0 (by omega) (by have := hl _ hm; omega)
        rw [show ((0 : Nat) : Int) = 0 from rfl] at q1
        rw [List.drop_zero] at q2
        rw [decide_eq_false hb, br_false, slices_ContainsFunc_api_Dot_api_Dot_state_Right_2.f_eq, slices_IndexFunc_api_Dot_api_Dot_state_Right_2.f_eq, q1, bnd_some, bnd_some, show ile 0 r = decide (0 ≤ r) from rfl]
        by_cases hr : 0 ≤ r
        · rw [decide_eq_true hr, br_true]
          exact ⟨false, rfl, ⟨fun h => (by cases h), fun h => absurd (h.1 _ (List.mem_cons_self)).2 (q2.1 hr)⟩⟩
        · rw [decide_eq_false hr, br_false]
          obtain ⟨b, z1, z2⟩ := right_l6 k s h8 hl b1 b2 g1 g2 hk2 n (i + 1) (by omega) (by omega)
          have hall : ∀ d ∈ s.2.2.2.2[i], rightD d = true := Classical.byContradiction fun h => hr (q2.2 h)
          refine ⟨b, z1, z2.trans ⟨fun h => ⟨fun l hl => ?_, h.2⟩, fun h => ⟨fun l hl => h.1 l (List.mem_cons_of_mem _ hl), h.2⟩⟩⟩
          rcases List.mem_cons.1 hl with rfl | hl
          · exact ⟨by omega, hall⟩
          · exact h.1 l hl
    · rw [decide_eq_false hi, br_false, g1, g2, bnd_some, bnd_some, List.drop_eq_nil_of_le (by omega)]
      cases b1 <;> cases b2 <;> exact ⟨_, rfl, by simp⟩
theorem state_is (k : Nat) (s : Sta) (hv1 : s.2.2.1.1.length = 16) (hv2 : s.2.2.2.1.1.length = 16) (h8 : s.2.2.2.2.length = 8) (ho : ∀ t ∈ s.1, t.2.2.2.2.length < k ∧ ∀ o ∈ t.2.2.2.2, SizO k o) (hrl : ∀ l ∈ s.2.2.2.2, l.length < k) (hul : s.2.1.length < k) (hkl : s.2.2.1.2.length < k) (hk : 5000 < k) (hk2 : k < 1000000) :
    ∃ b, state_Right.f k s = some b ∧ (b = true ↔ RightS k s) := by
  rw [state_Right.f_eq, show ilt 1000 (ilen s.1) = decide (1000 < s.1.length) from ilt_lenR 1000 s.1]
  by_cases hm : 1000 < s.1.length
  · rw [decide_eq_true hm]; exact ⟨false, rfl, ⟨fun h => (by cases h), fun h => by have := h.many; omega⟩⟩
  rw [decide_eq_false hm, br_false]
  obtain ⟨b1, g1, i1⟩ := trises_is k s.1 (by omega) (by omega) hk2
  obtain ⟨b2, g2, i2⟩ := trightU2_is k s.2.1 (by omega) hul hk2
  obtain ⟨r, g3, i3⟩ := chks_l k s.1 ho (by omega) (by omega) hk2 k 0 (by omega) (by omega)
  obtain ⟨b4, g4, i4⟩ := dr_is k s.2.2.1 hv1 hk hk2
  obtain ⟨b5, g5, i5⟩ := dr_is k s.2.2.2.1 hv2 hk hk2
  obtain ⟨b6, g6, i6⟩ := right_l6 k s h8 hrl b4 b5 g4 g5 hk2 k 0 (by omega) (by omega)
  rw [show ((0 : Nat) : Int) = 0 from rfl] at g3 g6
  rw [List.drop_zero] at i3 i6
  have bt : bnot true = false := rfl
  have bf : bnot false = true := rfl
  rw [g1, bnd_some]
  cases b1 with
  | false => rw [bf, br_true]; exact ⟨false, rfl, ⟨fun h => (by cases h), fun h => i1.2 h.ris⟩⟩
  | true =>
  rw [bt, br_false, g2, bnd_some]
  cases b2 with
  | false => rw [bf, br_true]; exact ⟨false, rfl, ⟨fun h => (by cases h), fun h => i2.2 h.un⟩⟩
  | true =>
  rw [bt, br_false, names_is k s.1 (by omega) hk2, bnd_some, of_is k _ (by unfold dotsOf; rw [List.length_map]; omega) hk2, bnd_some, same_is k _ _ hkl hk2, bnd_some, ← known_ofD]
  by_cases hkn : s.2.2.1 = (dotsOf s.1).foldl putD emptyD
  case neg => rw [decide_eq_false hkn, bf, br_true]; exact ⟨false, rfl, ⟨fun h => (by cases h), fun h => absurd h.know hkn⟩⟩
  rw [decide_eq_true hkn, bt, br_false, slices_ContainsFunc_api_Txn_api_Txn_state_Right_1.f_eq, slices_IndexFunc_api_Txn_api_Txn_state_Right_1.f_eq, g3, bnd_some, bnd_some, show ile 0 r = decide (0 ≤ r) from rfl]
  by_cases hr : 0 ≤ r
  · rw [decide_eq_true hr, br_true]; exact ⟨false, rfl, ⟨fun h => (by cases h), fun h => absurd h.chk (i3.1 hr)⟩⟩
  · have hc : ∀ t ∈ s.1, ref12_Check.f k t = some 0 := Classical.byContradiction fun h => hr (i3.2 h)
    rw [decide_eq_false hr, br_false]
    refine ⟨b6, g6, i6.trans ⟨fun h => ⟨by omega, i1.1 rfl, i2.1 rfl, i5.1 h.2.2, hc, h.1, i4.1 h.2.1, hkn⟩, fun h => ⟨h.redo, i4.2 h.kn, i5.2 h.se⟩⟩⟩
end Go.Proofs.YtbiihldcljemfaaGreatDoor
end
section
/- What is told as bytes is read again: numbers. -/
namespace Go.Proofs.YtbiihldcljemfaaGreatDoor
open Pal
theorem bk_byte {s r : List UInt8} {i : Nat} {b : UInt8} (h : s.drop i = b :: r) : i < s.length ∧ byteAt s (i : Int) = ((b.toNat : Nat) : Int) ∧ s.drop (i + 1) = r := by
  have hl : i < s.length := by
    rcases Nat.lt_or_ge i s.length with h1 | h1
    · exact h1
    · rw [List.drop_eq_nil_of_le h1] at h; cases h
  rw [List.drop_eq_getElem_cons hl] at h
  injection h with h1 h2
  refine ⟨hl, ?_, h2⟩
  unfold byteAt
  rw [Int.toNat_natCast, List.getD_eq_getElem?_getD, List.getElem?_eq_getElem hl, h1]; rfl
theorem back_l (k : Nat) (s t : List UInt8) (hS : s.length < 4000000) : ∀ (j i v n m : Nat), i + j = 8 → j + 1 ≤ m → n < 2 ^ (7 * j) → (0 < i → 0 < n) → v < 2 ^ (7 * i) → s.drop i = packB n ++ t →
    pack_Reader_Int.l3 k m (v : Int) (i : Int) (s, 0) = some (((2 ^ (7 * i) * n + v : Nat) : Int), (t, 0))
  | 0, i, v, n, m, hj, _, hn, hp, _, _ => by
    have h0 : n < 1 := hn
    have := hp (by omega); omega
  | j + 1, i, v, n, 0, hj, hm, _, _, _, _ => by omega
  | j + 1, i, v, n, m + 1, hj, hm, hn, hp, hv, hd => by
    have hi8 : i < 8 := by omega
    have e1 : ieq (i : Int) 8 = false := by rw [ieq_dec]; exact decide_eq_false (by omega)
    have e7 : ilt (imul .i64 7 (i : Int)) 0 = false := by
      show decide (IntKind.wrap .i64 (7 * (i : Int)) < 0) = false
      rw [wrap64 (by omega) (by omega)]; exact decide_eq_false (by omega)
    have e12 : iadd .i64 (i : Int) 1 = ((i + 1 : Nat) : Int) := iadd_nat (by omega)
    obtain ⟨c, b, r, hb, hc, hcb, hc256⟩ : ∃ (c : Nat) (b : UInt8) (r : List UInt8), packB n ++ t = b :: r ∧ b.toNat = c ∧ (if n < 128 then c = n ∧ r = t else c = n % 128 + 128 ∧ r = packB (n / 128) ++ t) ∧ c < 256 := by
      by_cases h : n < 128
      · refine ⟨n, UInt8.ofNat n, t, by rw [packB_lo h]; rfl, ?_, by rw [if_pos h]; exact ⟨rfl, rfl⟩, by omega⟩
        rw [UInt8.toNat_ofNat']; omega
      · refine ⟨n % 128 + 128, UInt8.ofNat (n % 128 + 128), packB (n / 128) ++ t, by rw [packB_hi h]; rfl, ?_, by rw [if_neg h]; exact ⟨rfl, rfl⟩, by omega⟩
        rw [UInt8.toNat_ofNat']; omega
    rw [hb] at hd
    obtain ⟨hl, hby, hdr⟩ := bk_byte hd
    rw [hc] at hby
    have e4 : ile (ilen s) (i : Int) = false := by unfold ile ilen; exact decide_eq_false (by omega)
    have e6 : inL (i : Int) s = true := by rw [inL_nat]; exact decide_eq_true hl
    have hw : iwrap .i64 (c : Int) = (c : Int) := wrap64 (by omega) (by omega)
    obtain ⟨g1, g2⟩ := num_step (c := c) hi8 hc256 hv
    have e8 : ile 128 (c : Int) = decide (128 ≤ c) := by unfold ile; exact decide_eq_decide.2 ⟨fun h => by omega, fun h => by omega⟩
    have e10 : ieq (c : Int) 0 = decide (c = 0) := by rw [ieq_dec]; exact decide_eq_decide.2 ⟨fun h => by omega, fun h => by omega⟩
    have e11 : ilt 0 (i : Int) = decide (0 < i) := ilt_nn 0 i
    rw [pack_Reader_Int.l3_eq, fine_is]
    simp only [bnd_some, decide_true, br_true, e1, br_false, e4, e6, e7, hby, hw, e8, e10, e11, g1, e12]
    by_cases h : n < 128
    · rw [if_pos h] at hcb
      obtain ⟨hcn, hr⟩ := hcb
      have hcm : c % 128 = n := by omega
      have hc2 : ¬ 128 ≤ c := by omega
      rw [decide_eq_false hc2, br_false, hcm]
      have hin : inS ((i + 1 : Nat) : Int) (ilen s) (ilen s) = true := by
        have q1 : ((i + 1 : Nat) : Int) ≤ (s.length : Int) := by omega
        show (decide ((0 : Int) ≤ ((i + 1 : Nat) : Int)) && decide (((i + 1 : Nat) : Int) ≤ (s.length : Int)) && decide ((s.length : Int) ≤ (s.length : Int))) = true
        rw [decide_eq_true q1, decide_eq_true (show (0 : Int) ≤ ((i + 1 : Nat) : Int) by omega), decide_eq_true (Int.le_refl _)]; rfl
      have hpc : piece s ((i + 1 : Nat) : Int) (ilen s) = t := by
        unfold piece ilen
        rw [Int.toNat_natCast, Int.toNat_natCast, List.take_length, hdr, hr]
      rw [hin, hpc, br_true]
      by_cases hc0 : c = 0
      · have h0 : ¬ 0 < i := fun h => by have := hp h; omega
        rw [decide_eq_true hc0, decide_eq_false h0]; rfl
      · rw [decide_eq_false hc0]; rfl
    · rw [if_neg h] at hcb
      obtain ⟨hcn, hr⟩ := hcb
      have hcm : c % 128 = n % 128 := by omega
      have hc2 : 128 ≤ c := by omega
      rw [decide_eq_true hc2, br_true, hcm]
      rw [hcm] at g2
      have e2 : 2 ^ (7 * (j + 1)) = 2 ^ (7 * j) * 128 := by rw [show 7 * (j + 1) = 7 * j + 7 by omega, Nat.pow_add]
      have e3 : 2 ^ (7 * (i + 1)) = 2 ^ (7 * i) * 128 := by rw [show 7 * (i + 1) = 7 * i + 7 by omega, Nat.pow_add]
      rw [back_l k s t hS j (i + 1) _ (n / 128) m (by omega) (by omega) (by rw [e2] at hn; omega) (fun _ => by omega) g2 (by rw [hdr, hr])]
      have e5 : 2 ^ (7 * (i + 1)) * (n / 128) + (2 ^ (7 * i) * (n % 128) + v) = 2 ^ (7 * i) * n + v := by
        have e9 : 2 ^ (7 * i) * n = 2 ^ (7 * i) * (128 * (n / 128) + n % 128) := by rw [Nat.div_add_mod]
        rw [e3, e9, Nat.mul_add, Nat.mul_assoc]; omega
      rw [e5]
theorem back_int (k n : Nat) (t : List UInt8) (hk : 12 < k) (hn : n < 72057594037927936) (hS : (packB n ++ t).length < 4000000) : pack_Reader_Int.f k (packB n ++ t, 0) = some ((n : Int), (t, 0)) := by
  rw [pack_Reader_Int.f_eq]
  have := back_l k (packB n ++ t) t hS 8 0 0 n k (by omega) (by omega) (by show n < 2 ^ 56; exact hn) (fun h => by omega) (by decide) rfl
  simpa using this
end Go.Proofs.YtbiihldcljemfaaGreatDoor
end
section
/- What is told as bytes is read again: dots, vectors, rows of dots and sets. -/
namespace Go.Proofs.YtbiihldcljemfaaGreatDoor
open Pal
def codeD (d : Dot) : List UInt8 := packB d.1.toNat ++ packB d.2.toNat
def codeV (v : Vec) : List UInt8 := List.flatMap (fun n : Int => packB n.toNat) v
def codeL (l : List Dot) : List UInt8 := packB l.length ++ l.flatMap codeD
def codeS (s : DSet) : List UInt8 := codeV s.1 ++ codeL s.2
theorem rightD_rng {d : Dot} (h : rightD d = true) : 0 ≤ d.1 ∧ d.1 < 16 ∧ 1 ≤ d.2 ∧ d.2 ≤ 1048576 := of_decide_eq_true h
theorem back_dot (k : Nat) (d : Dot) (t : List UInt8) (hd : rightD d = true) (hk : 12 < k) (hS : (codeD d ++ t).length < 4000000) : dot_Read.f k (codeD d ++ t, 0) = some (d, (t, 0)) := by
  obtain ⟨h1, h2, h3, h4⟩ := rightD_rng hd
  have e1 : ((d.1.toNat : Nat) : Int) = d.1 := Int.toNat_of_nonneg h1
  have e2 : ((d.2.toNat : Nat) : Int) = d.2 := Int.toNat_of_nonneg (by omega)
  have ea : codeD d ++ t = packB d.1.toNat ++ (packB d.2.toNat ++ t) := by unfold codeD; rw [List.append_assoc]
  rw [ea] at hS ⊢
  have hS2 : (packB d.2.toNat ++ t).length < 4000000 := by rw [List.length_append] at hS; omega
  rw [dot_Read.f_eq, back_int k _ _ hk (by omega) hS]
  simp only [bnd_some]
  rw [back_int k _ _ hk (by omega) hS2, e1, e2]
  have bt : bnot true = false := rfl
  simp only [bnd_some, fault_is, ieq_dec, decide_true, br_true, right_is, hd, bt, br_false]
theorem codeD_pos (d : Dot) : 0 < (codeD d).length := by
  unfold codeD; rw [List.length_append]; have := packB_pos d.1.toNat; omega
theorem codes_len {α : Type} (f : α → List UInt8) (hf : ∀ x, 0 < (f x).length) : ∀ (l : List α), l.length ≤ (l.flatMap f).length
  | [] => by simp
  | x :: l => by
    have := codes_len f hf l; have := hf x
    simp only [List.flatMap_cons, List.length_append, List.length_cons]; omega
theorem back_many (k n : Nat) (most : Int) (t : List UInt8) (hk : 12 < k) (hn : n < 72057594037927936) (hm : (n : Int) ≤ most) (hl : n ≤ t.length) (hS : (packB n ++ t).length < 4000000) : pack_Reader_Many.f k most (packB n ++ t, 0) = some ((n : Int), (t, 0)) := by
  rw [pack_Reader_Many.f_eq, back_int k n t hk hn hS]
  have e1 : ilt most (n : Int) = false := decide_eq_false (by omega)
  have e2 : ilt (ilen t) (n : Int) = false := by unfold ilt ilen; exact decide_eq_false (by omega)
  have bt : bnot true = false := rfl
  simp only [bnd_some, fine_is, decide_true, bt, br_false, e1, e2]
theorem back_l3 (k : Nat) (hk : 12 < k) (N : Nat) (hN : N < 1000000) (t : List UInt8) : ∀ (n i : Nat) (x l : List Dot), i + l.length = N → N < n + i → x.length = i → (∀ d ∈ l, rightD d = true) → (l.flatMap codeD ++ t).length < 4000000 →
    dots_ReadList.l3 k n x (N : Int) (i : Int) (l.flatMap codeD ++ t, 0) = some (x ++ l, (t, 0))
  | 0, i, _, _, h, h', _, _, _ => by omega
  | n + 1, i, x, [], h, _, _, _, _ => by
    have hi : N = i := by simpa using h.symm
    subst hi
    rw [dots_ReadList.l3_eq, ilt_nn, decide_eq_false (Nat.lt_irrefl _)]
    have bt : bnot true = false := rfl
    simp only [br_false, fault_is, bnd_some, ieq_dec, decide_true, bt, List.append_nil, List.flatMap_nil, List.nil_append]
  | n + 1, i, x, d :: l, h, h', hx, hr, hS => by
    simp only [List.length_cons] at h
    have e4 : iadd .i64 (i : Int) 1 = ((i + 1 : Nat) : Int) := iadd_nat (by omega)
    have ea : (d :: l).flatMap codeD ++ t = codeD d ++ (l.flatMap codeD ++ t) := by rw [List.flatMap_cons, List.append_assoc]
    rw [ea] at hS ⊢
    have hS2 : (l.flatMap codeD ++ t).length < 4000000 := by rw [List.length_append] at hS; omega
    rw [dots_ReadList.l3_eq, ilt_nn, decide_eq_true (show i < N by omega), back_dot k d _ (hr d (by simp)) hk hS, e4]
    simp only [br_true, bnd_some, room1 (show x.length < 4000000 by omega)]
    have := back_l3 k hk N hN t n (i + 1) (app x (d :: [])) l (by omega) (by omega) (by simp [app, hx]) (fun e he => hr e (List.mem_cons_of_mem _ he)) hS2
    refine this.trans ?_
    simp [app]
theorem back_list (k : Nat) (l : List Dot) (most : Int) (t : List UInt8) (hr : ∀ d ∈ l, rightD d = true) (hm : (l.length : Int) ≤ most) (hk : 12 < k) (hl : l.length < k) (hk2 : k < 1000000) (hS : (codeL l ++ t).length < 4000000) :
    dots_ReadList.f k most (codeL l ++ t, 0) = some (l, (t, 0)) := by
  have ea : codeL l ++ t = packB l.length ++ (l.flatMap codeD ++ t) := by unfold codeL; rw [List.append_assoc]
  rw [ea] at hS ⊢
  have hS2 : (l.flatMap codeD ++ t).length < 4000000 := by rw [List.length_append] at hS; omega
  have hlen := codes_len codeD codeD_pos l
  rw [dots_ReadList.f_eq, back_many k _ most _ hk (by omega) hm (by rw [List.length_append]; omega) hS]
  simp only [bnd_some]
  exact back_l3 k hk l.length (by omega) t k 0 [] l (by omega) (by omega) rfl hr hS2
theorem back_v3 (k : Nat) (hk : 17 < k) (v za : Vec) (hv : VOk v) (t : List UInt8) : ∀ (n i : Nat) (x : Vec), i ≤ 16 → 16 < n + i → x.length = 16 → (∀ j : Nat, j < i → x[j]? = v[j]?) → (List.flatMap (fun n : Int => packB n.toNat) (List.drop i v) ++ t).length < 4000000 →
    vec_Read.l3 k n (i : Int) za x (List.flatMap (fun n : Int => packB n.toNat) (List.drop i v) ++ t, 0) = some (v, (t, 0))
  | 0, i, _, h, h', _, _, _ => by omega
  | n + 1, i, x, h, h', hx, hj, hS => by
    have hvl := hv.len
    rw [vec_Read.l3_eq, show ilt (i : Int) 16 = decide (i < 16) from ilt_nn i 16, inB_nat]
    by_cases hi : i < 16
    · have hil : i < List.length v := by omega
      have hge : 0 ≤ v[i] ∧ v[i] ≤ 1048576 := by
        have h1 := hv.lo (i : Int) (by omega) (by omega)
        have h2 := hv.hi (i : Int) (by omega) (by omega)
        have e : vat v (i : Int) = v[i] := by
          unfold vat
          first
            | (rw [natOf_nat]; exact rd_at' (e := .int .i64) hil)
            | (rw [Int.toNat_natCast, List.getD_eq_getElem?_getD, List.getElem?_eq_getElem hil]; rfl)
        rw [e] at h1 h2; exact ⟨h1, h2⟩
      have ed : List.drop i v = v[i] :: List.drop (i + 1) v := List.drop_eq_getElem_cons hil
      have ea : List.flatMap (fun n : Int => packB n.toNat) (List.drop i v) ++ t = packB v[i].toNat ++ (List.flatMap (fun n : Int => packB n.toNat) (List.drop (i + 1) v) ++ t) := by
        rw [ed, List.flatMap_cons, List.append_assoc]
      rw [ea] at hS ⊢
      have hS2 : (List.flatMap (fun n : Int => packB n.toNat) (List.drop (i + 1) v) ++ t).length < 4000000 := by rw [List.length_append] at hS; omega
      have e4 : iadd .i64 (i : Int) 1 = ((i + 1 : Nat) : Int) := iadd_nat (by omega)
      rw [decide_eq_true hi, back_int k _ _ (by omega) (by omega) hS, e4, Int.toNat_of_nonneg hge.1, natOf_nat]
      simp only [br_true, bnd_some]
      refine back_v3 k hk v za hv t n (i + 1) (upd x i v[i]) (by omega) (by omega) (by rw [upd_len]; exact hx) (fun j hj' => ?_) hS2
      show (List.set x i v[i])[j]? = v[j]?
      by_cases hji : j = i
      · subst hji; rw [List.getElem?_set_self (by omega), List.getElem?_eq_getElem hil]
      · rw [List.getElem?_set_ne (by omega)]; exact hj j (by omega)
    · have hi16 : i = 16 := by omega
      subst hi16
      have hxv : x = v := List.ext_getElem? fun j => by
        by_cases hj16 : j < 16
        · exact hj j hj16
        · rw [List.getElem?_eq_none (by omega), List.getElem?_eq_none (by omega)]
      subst hxv
      obtain ⟨b, g1, i1⟩ := vr_is k x hx hk
      have hb : b = true := i1.2 hv
      subst hb
      have e0 : List.drop 16 x = [] := List.drop_eq_nil_of_le (by omega)
      have bt : bnot true = false := rfl
      rw [decide_eq_false hi, e0]
      simp only [br_false, bnd_some, g1, fault_is, ieq_dec, decide_true, br_true, bt, List.flatMap_nil, List.nil_append]
theorem back_vec (k : Nat) (v : Vec) (t : List UInt8) (hv : VOk v) (hk : 17 < k) (hS : (codeV v ++ t).length < 4000000) : vec_Read.f k (codeV v ++ t, 0) = some (v, (t, 0)) := by
  rw [vec_Read.f_eq]
  exact back_v3 k hk v (zarr 16 0) hv t k 0 (zarr 16 0) (by omega) (by omega) rfl (fun j hj => by omega) hS
theorem back_dots (k : Nat) (s : DSet) (t : List UInt8) (hs : Can s) (hm : s.2.length ≤ 4096) (hk : 5000 < k) (hk2 : k < 1000000) (hS : (codeS s ++ t).length < 4000000) : dots_Read.f k (codeS s ++ t, 0) = some (s, (t, 0)) := by
  have ea : codeS s ++ t = codeV s.1 ++ (codeL s.2 ++ t) := by unfold codeS; rw [List.append_assoc]
  rw [ea] at hS ⊢
  have hS2 : (codeL s.2 ++ t).length < 4000000 := by rw [List.length_append] at hS; omega
  obtain ⟨b, g1, i1⟩ := dr_is k s hs.vok.len hk hk2
  have hb : b = true := i1.2 ⟨hs, hm⟩
  subst hb
  have bt : bnot true = false := rfl
  rw [dots_Read.f_eq, back_vec k s.1 _ hs.vok (by omega) hS]
  simp only [bnd_some]
  rw [back_list k s.2 4096 t hs.rt (by omega) (by omega) (by omega) hk2 hS2]
  have g2 : dots_Right.f k (s.1, s.2) = some true := g1
  simp only [bnd_some, fault_is, ieq_dec, decide_true, br_true, g2, bt, br_false]
end Go.Proofs.YtbiihldcljemfaaGreatDoor
end
section
/- Knowledge: the program and the document read the same, and what is told is read again. -/
set_option linter.unusedVariables false
set_option linter.unusedSimpArgs false
namespace Go.Proofs.YtbiihldcljemfaaGreatDoor
open Pal
def codeU (u : Undo) : List UInt8 := codeD u.1 ++ packB u.2.toNat
def codeT (l : List Undo) : List UInt8 := packB l.length ++ l.flatMap codeU
theorem roomS_ok {a b : List UInt8} (h1 : a.length ≤ 4000000000) (h2 : b.length ≤ 4000000000) : roomS a b = true := decide_eq_true (by omega)
theorem packB_le {n : Nat} (h : n < 72057594037927936) : (packB n).length ≤ 8 := packB_len 7 n h
theorem codeD_le {d : Dot} (h : rightD d = true) : (codeD d).length ≤ 16 := by
  obtain ⟨h1, h2, h3, h4⟩ := rightD_rng h
  have := packB_le (n := d.1.toNat) (by omega)
  have := packB_le (n := d.2.toNat) (by omega)
  unfold codeD; rw [List.length_append]; omega
theorem codeU_le {u : Undo} (h : rightU u = true) : (codeU u).length ≤ 24 := by
  obtain ⟨h1, h2, h3⟩ := (rightU_iff u).1 h
  have := codeD_le h1
  have := packB_le (n := u.2.toNat) (by omega)
  unfold codeU; rw [List.length_append]; omega
theorem codes_le {α : Type} (f : α → List UInt8) (c : Nat) : ∀ (l : List α), (∀ x ∈ l, (f x).length ≤ c) → (l.flatMap f).length ≤ c * l.length
  | [], _ => by simp
  | x :: l, h => by
    have h1 := h x (by simp)
    have h2 := codes_le f c l (fun y hy => h y (List.mem_cons_of_mem _ hy))
    rw [List.flatMap_cons, List.length_append, List.length_cons, Nat.mul_add, Nat.mul_one]; omega
theorem dcode_is (k : Nat) {d : Dot} (h : rightD d = true) : dot_Code.f k d = some (codeD d) := by
  obtain ⟨h1, h2, h3, h4⟩ := rightD_rng h
  have p1 := packB_le (n := d.1.toNat) (by omega)
  have p2 := packB_le (n := d.2.toNat) (by omega)
  rw [dot_Code.f_eq, packI_is (n := d.1) (by omega), packI_is (n := d.2) (by omega)]
  simp only [bnd_some]
  rw [roomS_ok (by omega) (by omega)]; rfl
theorem vcode_l (k : Nat) (v : Vec) (hv : VOk v) : ∀ (n i : Nat) (x : List UInt8), i ≤ 16 → 16 < n + i → x.length ≤ 100 + 8 * i → vec_Code.l3 k n x v (i : Int) = some (x ++ List.flatMap (fun n : Int => packB n.toNat) (List.drop i v))
  | 0, i, _, h, h', _ => by omega
  | n + 1, i, x, h, h', hx => by
    have hvl := hv.len
    rw [vec_Code.l3_eq, show ilt (i : Int) 16 = decide (i < 16) from ilt_nn i 16, inB_nat, natOf_nat]
    by_cases hi : i < 16
    · have hil : i < List.length v := by omega
      have e : rd (.int .i64) v i = v[i] := rd_at' (e := .int .i64) hil
      have hge : 0 ≤ v[i] ∧ v[i] ≤ 1048576 := by
        have h1 := hv.lo (i : Int) (by omega) (by omega)
        have h2 := hv.hi (i : Int) (by omega) (by omega)
        rw [vat_get hil] at h1 h2; exact ⟨h1, h2⟩
      have e4 : iadd .i64 (i : Int) 1 = ((i + 1 : Nat) : Int) := iadd_nat (by omega)
      have hp : (packB v[i].toNat).length ≤ 8 := packB_le (by omega)
      have ed : List.drop i v = v[i] :: List.drop (i + 1) v := List.drop_eq_getElem_cons hil
      rw [decide_eq_true hi, e, packI_is (n := v[i]) (by omega), e4, ed, List.flatMap_cons]
      simp only [br_true, bnd_some]
      rw [roomS_ok (by omega) (by omega), br_true]
      refine (vcode_l k v hv n (i + 1) _ (by omega) (by omega) (by unfold app; rw [List.length_append]; omega)).trans ?_
      unfold app; rw [List.append_assoc]
    · have e0 : List.drop i v = [] := List.drop_eq_nil_of_le (by omega)
      rw [decide_eq_false hi, br_false, e0]; simp
theorem vcode_is (k : Nat) {v : Vec} (hv : VOk v) (hk : 17 < k) : vec_Code.f k v = some (codeV v) := by
  rw [vec_Code.f_eq]
  exact vcode_l k v hv k 0 [] (by omega) (by omega) (by simp)
theorem codeV_le {v : Vec} (hv : VOk v) : (codeV v).length ≤ 128 := by
  have hvl := hv.len
  have := codes_le (fun n : Int => packB n.toNat) 8 v (fun x hx => by
    obtain ⟨i, hi, rfl⟩ := List.getElem_of_mem hx
    have h1 := hv.lo (i : Int) (by omega) (by omega)
    have h2 := hv.hi (i : Int) (by omega) (by omega)
    rw [vat_get hi] at h1 h2
    exact packB_le (by omega))
  unfold codeV; omega
theorem lcode_l (k : Nat) (l : List Dot) (hr : ∀ d ∈ l, rightD d = true) (hl : l.length < 1000000) : ∀ (n i : Nat) (x : List UInt8), i ≤ l.length → l.length < n + i → x.length ≤ 100 + 16 * i → dots_List.l3 k n x l (ilen l) (i : Int) = some (x ++ (l.drop i).flatMap codeD)
  | 0, i, _, h, h', _ => by omega
  | n + 1, i, x, h, h', hx => by
    rw [dots_List.l3_eq, ilt_nat, inL_nat, natOf_nat]
    by_cases hi : i < l.length
    · have hd := hr l[i] (List.getElem_mem hi)
      have hp := codeD_le hd
      have e4 : iadd .i64 (i : Int) 1 = ((i + 1 : Nat) : Int) := iadd_nat (by omega)
      have ed : l.drop i = l[i] :: l.drop (i + 1) := List.drop_eq_getElem_cons hi
      rw [decide_eq_true hi, rd_at' (e := tDot) hi, dcode_is k hd, e4, ed, List.flatMap_cons]
      simp only [br_true, bnd_some]
      rw [roomS_ok (by omega) (by omega), br_true]
      refine (lcode_l k l hr hl n (i + 1) _ (by omega) (by omega) (by unfold app; rw [List.length_append]; omega)).trans ?_
      unfold app; rw [List.append_assoc]
    · have e0 : l.drop i = [] := List.drop_eq_nil_of_le (by omega)
      rw [decide_eq_false hi, br_false, e0]; simp
theorem lcode_is (k : Nat) {l : List Dot} (hr : ∀ d ∈ l, rightD d = true) (hl : l.length < k) (hk : k < 1000000) : dots_List.f k l = some (codeL l) := by
  have e : (ilen l).toNat = l.length := rfl
  have hp := packB_le (n := l.length) (by omega)
  rw [dots_List.f_eq, packI_is (n := ilen l) (by unfold ilen; omega), e, bnd_some]
  exact lcode_l k l hr (by omega) k 0 _ (by omega) (by omega) (by omega)
theorem codeL_le {l : List Dot} (hr : ∀ d ∈ l, rightD d = true) (hl : l.length < 1000000) : (codeL l).length ≤ 8 + 16 * l.length := by
  have hp := packB_le (n := l.length) (by omega)
  have := codes_le codeD 16 l (fun d hd => codeD_le (hr d hd))
  unfold codeL; rw [List.length_append]; omega
theorem scode_is (k : Nat) {s : DSet} (hs : Can s) (hl : s.2.length < k) (h17 : 17 < k) (hk : k < 1000000) : dots_Code.f k s = some (codeS s) := by
  have h1 := codeV_le hs.vok
  have h2 := codeL_le hs.rt (by omega)
  rw [dots_Code.f_eq, vcode_is k hs.vok h17, lcode_is k hs.rt hl hk]
  simp only [bnd_some]
  rw [roomS_ok (by omega) (by omega)]; rfl
theorem codeS_le {s : DSet} (hs : Can s) {n : Nat} (hl : s.2.length ≤ n) (hn : n < 1000000) : (codeS s).length ≤ 136 + 16 * n := by
  have h1 := codeV_le hs.vok
  have h2 := codeL_le hs.rt (by omega)
  unfold codeS; rw [List.length_append]; omega
theorem tcode_l (k : Nat) (l : List Undo) (hr : ∀ u ∈ l, rightU u = true) (hl : l.length < 1000000) : ∀ (n i : Nat) (x : List UInt8), i ≤ l.length → l.length < n + i → x.length ≤ 100 + 24 * i → tally_Code.l3 k n x l (ilen l) (i : Int) = some (x ++ (l.drop i).flatMap codeU)
  | 0, i, _, h, h', _ => by omega
  | n + 1, i, x, h, h', hx => by
    rw [tally_Code.l3_eq, ilt_nat, inL_nat, natOf_nat]
    by_cases hi : i < l.length
    · have hd := hr l[i] (List.getElem_mem hi)
      obtain ⟨hd1, hd2, hd3⟩ := (rightU_iff _).1 hd
      have hp := codeU_le hd
      have hp1 := codeD_le hd1
      have hp2 := packB_le (n := l[i].2.toNat) (by omega)
      have e4 : iadd .i64 (i : Int) 1 = ((i + 1 : Nat) : Int) := iadd_nat (by omega)
      have ed : l.drop i = l[i] :: l.drop (i + 1) := List.drop_eq_getElem_cons hi
      rw [decide_eq_true hi, rd_at' (e := tUndo) hi, dcode_is k hd1, packI_is (n := l[i].2) (by omega), e4, ed, List.flatMap_cons]
      simp only [br_true, bnd_some]
      rw [roomS_ok (by omega) (by omega), br_true]
      have ea : app (codeD l[i].1) (packB l[i].2.toNat) = codeU l[i] := rfl
      rw [ea, roomS_ok (by omega) (by omega), br_true]
      refine (tcode_l k l hr hl n (i + 1) _ (by omega) (by omega) (by unfold app; rw [List.length_append]; omega)).trans ?_
      unfold app; rw [List.append_assoc]
    · have e0 : l.drop i = [] := List.drop_eq_nil_of_le (by omega)
      rw [decide_eq_false hi, br_false, e0]; simp
theorem tcode_is (k : Nat) {l : List Undo} (hr : ∀ u ∈ l, rightU u = true) (hl : l.length < k) (hk : k < 1000000) : tally_Code.f k l = some (codeT l) := by
  have e : (ilen l).toNat = l.length := rfl
  have hp := packB_le (n := l.length) (by omega)
  rw [tally_Code.f_eq, packI_is (n := ilen l) (by unfold ilen; omega), e, bnd_some]
  exact tcode_l k l hr (by omega) k 0 _ (by omega) (by omega) (by omega)
theorem codeT_le {l : List Undo} (hr : ∀ u ∈ l, rightU u = true) {n : Nat} (hl : l.length ≤ n) (hn : n < 1000000) : (codeT l).length ≤ 8 + 24 * n := by
  have hp := packB_le (n := l.length) (by omega)
  have := codes_le codeU 24 l (fun d hd => codeU_le (hr d hd))
  unfold codeT; rw [List.length_append]; omega
theorem codeU_pos (u : Undo) : 0 < (codeU u).length := by
  unfold codeU; rw [List.length_append]; have := codeD_pos u.1; omega
theorem back_t3 (k : Nat) (h12 : 12 < k) (N : Nat) (hN : N < 1000000) (hNk : N < k) (hk2 : k < 1000000) (t : List UInt8) : ∀ (n i : Nat) (x l : List Undo), i + l.length = N → N < n + i → x.length = i → (∀ d ∈ l, rightU d = true) → CanU (x ++ l) → (l.flatMap codeU ++ t).length < 4000000 →
    tally_Read.l3 k n x (N : Int) (i : Int) (l.flatMap codeU ++ t, 0) = some (x ++ l, (t, 0))
  | 0, i, _, _, h, h', _, _, _, _ => by omega
  | n + 1, i, x, [], h, _, hx, _, hc, _ => by
    have hi : N = i := by simpa using h.symm
    subst hi
    rw [List.append_nil] at hc
    obtain ⟨b1, g1, i1⟩ := trightU2_is k x (by omega) (by omega) hk2
    have hb : b1 = true := i1.2 hc
    subst hb
    rw [tally_Read.l3_eq, ilt_nn, decide_eq_false (Nat.lt_irrefl _)]
    have bt : bnot true = false := rfl
    simp only [br_false, fault_is, bnd_some, ieq_dec, decide_true, br_true, g1, bt, List.append_nil, List.flatMap_nil, List.nil_append]
  | n + 1, i, x, d :: l, h, h', hx, hr, hc, hS => by
    simp only [List.length_cons] at h
    have hd := hr d (by simp)
    obtain ⟨hd1, hd2, hd3⟩ := (rightU_iff _).1 hd
    have e4 : iadd .i64 (i : Int) 1 = ((i + 1 : Nat) : Int) := iadd_nat (by omega)
    have ea : (d :: l).flatMap codeU ++ t = codeD d.1 ++ (packB d.2.toNat ++ (l.flatMap codeU ++ t)) := by rw [List.flatMap_cons, codeU, List.append_assoc, List.append_assoc]
    rw [ea] at hS ⊢
    have hS2 : (packB d.2.toNat ++ (l.flatMap codeU ++ t)).length < 4000000 := by rw [List.length_append] at hS; omega
    have hS3 : (l.flatMap codeU ++ t).length < 4000000 := by rw [List.length_append] at hS2; omega
    rw [tally_Read.l3_eq, ilt_nn, decide_eq_true (show i < N by omega), back_dot k d.1 _ hd1 h12 hS, e4]
    simp only [br_true, bnd_some]
    rw [back_int k d.2.toNat _ h12 (by omega) hS2]
    simp only [bnd_some]
    rw [room1 (show x.length < 4000000 by omega), br_true, Int.toNat_of_nonneg (by omega)]
    have := back_t3 k h12 N hN hNk hk2 t n (i + 1) (app x (d :: [])) l (by omega) (by omega) (by simp [app, hx]) (fun e he => hr e (List.mem_cons_of_mem _ he)) (by unfold app; rw [List.append_assoc]; exact hc) hS3
    refine this.trans ?_
    simp [app]
theorem back_tally (k : Nat) (l : List Undo) (most : Int) (t : List UInt8) (hc : CanU l) (hm : (l.length : Int) ≤ most) (hk : 12 < k) (hl : l.length < k) (hk2 : k < 1000000) (hS : (codeT l ++ t).length < 4000000) :
    tally_Read.f k most (codeT l ++ t, 0) = some (l, (t, 0)) := by
  have ea : codeT l ++ t = packB l.length ++ (l.flatMap codeU ++ t) := by unfold codeT; rw [List.append_assoc]
  rw [ea] at hS ⊢
  have hS2 : (l.flatMap codeU ++ t).length < 4000000 := by rw [List.length_append] at hS; omega
  have hlen := codes_len codeU codeU_pos l
  rw [tally_Read.f_eq, back_many k _ most _ hk (by omega) hm (by rw [List.length_append]; omega) hS]
  simp only [bnd_some]
  exact back_t3 k hk l.length (by omega) (by omega) hk2 t k 0 [] l (by omega) (by omega) rfl hc.rt hc hS2
end Go.Proofs.YtbiihldcljemfaaGreatDoor
end
