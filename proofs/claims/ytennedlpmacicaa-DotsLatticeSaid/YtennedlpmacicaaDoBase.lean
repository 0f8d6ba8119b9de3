/- The types, and some of the program's functions, as plain equations. -/
import Derived.Test.YtennedlpmacicaaFns
import Derived.Test.YtennedlpmacicaaProg
import Derived.KernelRfl
namespace Go.Proofs.Ytennedlpmacicaa
open Pal
@[reducible] def tVec : Ty := .arr 16 (.int .i64)
@[reducible] def terrorAddressString : Ty := .pair .str (.int .u64)
@[reducible] def tDot : Ty := .pair (.int .i64) (.int .i64)
@[reducible] def tReader112 : Ty := .pair .str (.int .i64)
@[reducible] def tReader : Ty := .pair .str tDot
@[reducible] def tValue : Ty := .pair (.int .i64) (.pair (.int .i64) .str)
@[reducible] def tUndo : Ty := .pair tDot (.int .i64)
@[reducible] def tFinding : Ty := .pair (.int .i64) tDot
@[reducible] def tboundsError : Ty := .pair (.int .i64) (.pair (.int .i64) (.pair .bool (.int .u8)))
@[reducible] def tDots : Ty := .pair tVec (.slc tDot)
@[reducible] def tOp : Ty := .pair (.int .i64) (.pair (.slc .str) (.pair tValue (.pair (.int .i64) (.slc tUndo))))
@[reducible] def tKnow : Ty := .pair tDots (.pair (.slc tUndo) tDots)
@[reducible] def tTxn : Ty := .pair tDot (.pair (.int .i64) (.pair (.int .i64) (.pair .bool (.slc tOp))))
@[reducible] def tDelta : Ty := .pair (.slc tTxn) (.pair (.slc tUndo) (.slc tDot))
@[reducible] def tState : Ty := .pair (.slc tTxn) (.pair (.slc tUndo) (.pair tDots (.pair tDots (.arr 8 (.slc tDot)))))
def tt : List (Nat × TInfo) := [(2, ⟨(.int .i64), 0⟩),
  (3, ⟨(.int .i64), 0⟩),
  (4, ⟨.bool, 0⟩),
  (5, ⟨(.int .u8), 0⟩),
  (6, ⟨(.int .u8), 0⟩),
  (7, ⟨tboundsError, 4⟩),
  (8, ⟨tboundsError, 4⟩),
  (9, ⟨.str, 0⟩),
  (10, ⟨.str, 0⟩),
  (11, ⟨.str, 0⟩),
  (12, ⟨(.int .u64), 0⟩),
  (21, ⟨(.int .i32), 0⟩),
  (22, ⟨tDot, 2⟩),
  (23, ⟨tDot, 2⟩),
  (24, ⟨(.slc tOp), 0⟩),
  (25, ⟨tTxn, 5⟩),
  (26, ⟨tTxn, 5⟩),
  (30, ⟨(.slc tDot), 0⟩),
  (32, ⟨tVec, 0⟩),
  (33, ⟨tVec, 0⟩),
  (34, ⟨tDots, 2⟩),
  (35, ⟨tDots, 2⟩),
  (48, ⟨(.slc tUndo), 0⟩),
  (49, ⟨tKnow, 3⟩),
  (50, ⟨tKnow, 3⟩),
  (58, ⟨tReader, 3⟩),
  (59, ⟨tReader, 3⟩),
  (62, ⟨(.int .i64), 0⟩),
  (70, ⟨(.slc .str), 0⟩),
  (71, ⟨tValue, 3⟩),
  (72, ⟨tValue, 3⟩),
  (73, ⟨(.slc tUndo), 0⟩),
  (74, ⟨tOp, 5⟩),
  (75, ⟨tOp, 5⟩),
  (76, ⟨(.slc tFinding), 0⟩),
  (78, ⟨tUndo, 2⟩),
  (79, ⟨tUndo, 2⟩),
  (80, ⟨(.slc tTxn), 0⟩),
  (81, ⟨(.arr 8 (.slc tDot)), 0⟩),
  (82, ⟨tState, 5⟩),
  (83, ⟨tState, 5⟩),
  (84, ⟨tFinding, 2⟩),
  (85, ⟨tFinding, 2⟩),
  (102, ⟨tDelta, 3⟩),
  (103, ⟨tDelta, 3⟩),
  (111, ⟨tReader112, 2⟩),
  (112, ⟨tReader112, 2⟩),
  (127, ⟨tUndo, 2⟩),
  (128, ⟨tUndo, 2⟩),
  (132, ⟨(.int .u64), 0⟩),
  (136, ⟨(.slc (.slc tDot)), 0⟩),
  (148, ⟨(.int .i64), 0⟩),
  (155, ⟨(.int .u32), 0⟩),
  (157, ⟨(.int .u64), 0⟩),
  (158, ⟨(.slc (.int .i64)), 0⟩),
  (167, ⟨(.int .u64), 0⟩),
  (191, ⟨(.int .u8), 0⟩),
  (192, ⟨(.int .u8), 0⟩),
  (195, ⟨(.int .i32), 0⟩),
  (196, ⟨(.int .i32), 0⟩)]
def pp : List Nat := [15, 16, 17, 55, 57, 171, 179, 194]
set_option maxRecDepth 100000 in
theorem tt_ok : tt.all (fun x => tiB Try.prog x.1 x.2) = true := by kernel_rfl
set_option maxRecDepth 100000 in
theorem pp_ok : pp.all (ptB Try.prog) = true := by kernel_rfl
theorem mixed : Try.prog.follows .mixedOrders = true := by kernel_rfl
noncomputable def dot_Right.body : Go.Code := Try.f64.body.getD .skip
noncomputable def dot_Right.rs : List Go.ResultVar := Try.f64.results.toList
def dot_Right.regs : List (Nat × RInfo) := [(0, ⟨[1], [1], [], [], 0, [], [], []⟩),
  (1, ⟨[2], [], [], [], 0, [], [], []⟩)]
noncomputable def dot_Right.cx (k : Nat) : Cx := ⟨tt, pp, [], dot_Right.regs, k⟩
@[reducible] def dot_Right.sg : Sg := ⟨[.dat tDot], [], .dat .bool, []⟩
noncomputable def dot_Right.f (k : Nat) (a0 : Ty.D tDot) : Option (Sg.Out dot_Right.sg) := Sg.fn dot_Right.sg (dot_Right.cx k) dot_Right.body dot_Right.rs a0
set_option maxRecDepth 100000 in
theorem dot_Right.f_eq (k : Nat) (a0 : Ty.D tDot) : dot_Right.f k a0 =
  br (ile 0 a0.1)
    (br (ilt a0.1 16)
      (br (ile 1 a0.2)
        (some (ile a0.2 1048576))
        (some false))
      (some false))
    (some false) := by kernel_rfl
noncomputable def dot_Right.e (k : Nat) : Entry := Sg.entry dot_Right.sg fun x => dot_Right.f k x
set_option maxRecDepth 100000 in
theorem dot_Right.ok (k : Nat) : CallOK Try.prog 64 (dot_Right.e k) :=
  fn_ok (c := dot_Right.cx k) (code := dot_Right.body) (TT.of tt_ok pp_ok) (fns_ok trivial) mixed Try.func64 (by kernel_rfl) (by kernel_rfl) (by kernel_rfl) (by kernel_rfl) (by kernel_rfl) (by kernel_rfl) (fun x => by kernel_rfl)
noncomputable def cmp_isNaN_int.body : Go.Code := Try.f142.body.getD .skip
noncomputable def cmp_isNaN_int.rs : List Go.ResultVar := Try.f142.results.toList
def cmp_isNaN_int.regs : List (Nat × RInfo) := [(0, ⟨[0], [], [], [], 0, [], [], []⟩),
  (1, ⟨[2], [], [], [], 0, [], [], []⟩)]
noncomputable def cmp_isNaN_int.cx (k : Nat) : Cx := ⟨tt, pp, [], cmp_isNaN_int.regs, k⟩
@[reducible] def cmp_isNaN_int.sg : Sg := ⟨[.dat (.int .i64)], [], .dat .bool, []⟩
noncomputable def cmp_isNaN_int.f (k : Nat) (a0 : Ty.D (.int .i64)) : Option (Sg.Out cmp_isNaN_int.sg) := Sg.fn cmp_isNaN_int.sg (cmp_isNaN_int.cx k) cmp_isNaN_int.body cmp_isNaN_int.rs a0
set_option maxRecDepth 100000 in
theorem cmp_isNaN_int.f_eq (k : Nat) (a0 : Ty.D (.int .i64)) : cmp_isNaN_int.f k a0 =
  some (bnot (ieq a0 a0)) := by kernel_rfl
noncomputable def cmp_isNaN_int.e (k : Nat) : Entry := Sg.entry cmp_isNaN_int.sg fun x => cmp_isNaN_int.f k x
set_option maxRecDepth 100000 in
theorem cmp_isNaN_int.ok (k : Nat) : CallOK Try.prog 142 (cmp_isNaN_int.e k) :=
  fn_ok (c := cmp_isNaN_int.cx k) (code := cmp_isNaN_int.body) (TT.of tt_ok pp_ok) (fns_ok trivial) mixed Try.func142 (by kernel_rfl) (by kernel_rfl) (by kernel_rfl) (by kernel_rfl) (by kernel_rfl) (by kernel_rfl) (fun x => by kernel_rfl)
noncomputable def cmp_Compare_int.body : Go.Code := Try.f113.body.getD .skip
noncomputable def cmp_Compare_int.rs : List Go.ResultVar := Try.f113.results.toList
def cmp_Compare_int.regs : List (Nat × RInfo) := [(0, ⟨[0, 1], [], [], [], 0, [], [], []⟩),
  (1, ⟨[0, 1, 5], [], [], [], 0, [], [], []⟩),
  (2, ⟨[0, 1, 5, 6], [], [], [], 0, [], [], []⟩),
  (3, ⟨[0, 1, 6, 11], [], [], [], 0, [], [], []⟩),
  (4, ⟨[12], [], [], [], 0, [], [], []⟩),
  (5, ⟨[4], [], [], [], 0, [], [], []⟩),
  (6, ⟨[4], [], [], [], 0, [], [], []⟩),
  (7, ⟨[0, 1, 13], [], [], [], 0, [], [], []⟩),
  (8, ⟨[4], [], [], [], 0, [], [], []⟩),
  (9, ⟨[0, 1, 16], [], [], [], 0, [], [], []⟩),
  (10, ⟨[4], [], [], [], 0, [], [], []⟩),
  (11, ⟨[19], [], [], [], 0, [], [], []⟩),
  (12, ⟨[4], [], [], [], 0, [], [], []⟩),
  (13, ⟨[4], [], [], [], 0, [], [], []⟩)]
noncomputable def cmp_Compare_int.cx (k : Nat) : Cx := ⟨tt, pp, [(142, (cmp_isNaN_int.e k))], cmp_Compare_int.regs, k⟩
@[reducible] def cmp_Compare_int.sg : Sg := ⟨[.dat (.int .i64), .dat (.int .i64)], [], .dat (.int .i64), []⟩
noncomputable def cmp_Compare_int.f (k : Nat) (a0 : Ty.D (.int .i64)) (a1 : Ty.D (.int .i64)) : Option (Sg.Out cmp_Compare_int.sg) := Sg.fn cmp_Compare_int.sg (cmp_Compare_int.cx k) cmp_Compare_int.body cmp_Compare_int.rs (a0, a1)
set_option maxRecDepth 100000 in
theorem cmp_Compare_int.f_eq (k : Nat) (a0 : Ty.D (.int .i64)) (a1 : Ty.D (.int .i64)) : cmp_Compare_int.f k a0 a1 =
  bnd (cmp_isNaN_int.f k a0) fun r0 =>
  bnd (cmp_isNaN_int.f k a1) fun r1 =>
  br r0
    (br r1
      (some 0)
      (some (-1)))
    (br r1
      (some 1)
      (br (ilt a0 a1)
        (some (-1))
        (br (ilt a1 a0)
          (some 1)
          (some 0)))) := by kernel_rfl
noncomputable def cmp_Compare_int.e (k : Nat) : Entry := Sg.entry cmp_Compare_int.sg fun x => cmp_Compare_int.f k x.1 x.2
set_option maxRecDepth 100000 in
theorem cmp_Compare_int.ok (k : Nat) : CallOK Try.prog 113 (cmp_Compare_int.e k) :=
  fn_ok (c := cmp_Compare_int.cx k) (code := cmp_Compare_int.body) (TT.of tt_ok pp_ok) (fns_ok ⟨(cmp_isNaN_int.ok k), trivial⟩) mixed Try.func113 (by kernel_rfl) (by kernel_rfl) (by kernel_rfl) (by kernel_rfl) (by kernel_rfl) (by kernel_rfl) (fun x => by kernel_rfl)
noncomputable def cmp_Or_int.body : Go.Code := Try.f112.body.getD .skip
noncomputable def cmp_Or_int.rs : List Go.ResultVar := Try.f112.results.toList
def cmp_Or_int.regs : List (Nat × RInfo) := [(0, ⟨[0], [], [], [], 0, [], [], []⟩),
  (1, ⟨[0, 3], [], [], [], 0, [], [], []⟩),
  (2, ⟨[3, 6, 7, 8], [], [], [], 0, [], [], []⟩),
  (3, ⟨[3, 6, 7, 8, 9], [], [], [], 0, [3, 6, 7, 8], [], []⟩),
  (4, ⟨[3, 5, 6, 7, 8], [], [], [], 0, [], [], []⟩),
  (5, ⟨[3, 5, 6, 7, 8, 14], [], [], [], 0, [], [], []⟩),
  (6, ⟨[2], [], [], [], 0, [], [], []⟩),
  (7, ⟨[3, 6, 7, 8], [], [], [], 0, [], [], []⟩),
  (8, ⟨[2], [], [], [], 0, [], [], []⟩)]
noncomputable def cmp_Or_int.cx (k : Nat) : Cx := ⟨tt, pp, [], cmp_Or_int.regs, k⟩
@[reducible] def cmp_Or_int.sg : Sg := ⟨[.dat (.slc (.int .i64))], [], .dat (.int .i64), []⟩
noncomputable def cmp_Or_int.f (k : Nat) (a0 : Ty.D (.slc (.int .i64))) : Option (Sg.Out cmp_Or_int.sg) := Sg.fn cmp_Or_int.sg (cmp_Or_int.cx k) cmp_Or_int.body cmp_Or_int.rs a0
noncomputable def cmp_Or_int.l3 (k : Nat) (n : Nat) (x3 : Ty.D (.int .i64)) (x6 : Ty.D (.slc (.int .i64))) (x7 : Ty.D (.int .i64)) (x8 : Ty.D (.int .i64)) : Option (Sg.Out cmp_Or_int.sg) := loopAt (cmp_Or_int.cx k) cmp_Or_int.body [1, 1, 0, 1, 0] 3 [3, 6, 7, 8] [] [] (Sg.K cmp_Or_int.sg (cmp_Or_int.cx k) cmp_Or_int.rs) n ⟨[(3, .dat (.int .i64) x3), (6, .dat (.slc (.int .i64)) x6), (7, .dat (.int .i64) x7), (8, .dat (.int .i64) x8)], []⟩
set_option maxRecDepth 100000 in
theorem cmp_Or_int.f_eq (k : Nat) (a0 : Ty.D (.slc (.int .i64))) : cmp_Or_int.f k a0 =
  cmp_Or_int.l3 k k 0 a0 (ilen a0) 0 := by kernel_rfl
set_option maxRecDepth 100000 in
theorem cmp_Or_int.l3_eq (k : Nat) (n3 : Nat) (x3 : Ty.D (.int .i64)) (x6 : Ty.D (.slc (.int .i64))) (x7 : Ty.D (.int .i64)) (x8 : Ty.D (.int .i64)) : cmp_Or_int.l3 k (n3 + 1) x3 x6 x7 x8 =
  br (ilt x8 x7)
    (br (inL x8 x6)
      (br (bnot (ieq (rd (.int .i64) x6 (natOf x8)) x3))
        (some (rd (.int .i64) x6 (natOf x8)))
        (cmp_Or_int.l3 k n3 x3 x6 x7 (iadd .i64 x8 1)))
      (none))
    (some x3) := by kernel_rfl
noncomputable def cmp_Or_int.e (k : Nat) : Entry := Sg.entry cmp_Or_int.sg fun x => cmp_Or_int.f k x
set_option maxRecDepth 100000 in
theorem cmp_Or_int.ok (k : Nat) : CallOK Try.prog 112 (cmp_Or_int.e k) :=
  fn_ok (c := cmp_Or_int.cx k) (code := cmp_Or_int.body) (TT.of tt_ok pp_ok) (fns_ok trivial) mixed Try.func112 (by kernel_rfl) (by kernel_rfl) (by kernel_rfl) (by kernel_rfl) (by kernel_rfl) (by kernel_rfl) (fun x => by kernel_rfl)
noncomputable def dot_Compare.body : Go.Code := Try.f66.body.getD .skip
noncomputable def dot_Compare.rs : List Go.ResultVar := Try.f66.results.toList
def dot_Compare.regs : List (Nat × RInfo) := [(0, ⟨[2, 3], [2, 3], [], [], 0, [], [], []⟩),
  (1, ⟨[4], [], [], [], 12, [], [], []⟩)]
noncomputable def dot_Compare.cx (k : Nat) : Cx := ⟨tt, pp, [(113, (cmp_Compare_int.e k)),
  (112, (cmp_Or_int.e k))], dot_Compare.regs, k⟩
@[reducible] def dot_Compare.sg : Sg := ⟨[.dat tDot, .dat tDot], [], .dat (.int .i64), []⟩
noncomputable def dot_Compare.f (k : Nat) (a0 : Ty.D tDot) (a1 : Ty.D tDot) : Option (Sg.Out dot_Compare.sg) := Sg.fn dot_Compare.sg (dot_Compare.cx k) dot_Compare.body dot_Compare.rs (a0, a1)
set_option maxRecDepth 100000 in
theorem dot_Compare.f_eq (k : Nat) (a0 : Ty.D tDot) (a1 : Ty.D tDot) : dot_Compare.f k a0 a1 =
  bnd (cmp_Compare_int.f k a0.1 a1.1) fun r0 =>
  bnd (cmp_Compare_int.f k a0.2 a1.2) fun r1 =>
  bnd (cmp_Or_int.f k (r0 :: (r1 :: []))) fun r2 =>
  some r2 := by kernel_rfl
noncomputable def dot_Compare.e (k : Nat) : Entry := Sg.entry dot_Compare.sg fun x => dot_Compare.f k x.1 x.2
set_option maxRecDepth 100000 in
theorem dot_Compare.ok (k : Nat) : CallOK Try.prog 66 (dot_Compare.e k) :=
  fn_ok (c := dot_Compare.cx k) (code := dot_Compare.body) (TT.of tt_ok pp_ok) (fns_ok ⟨(cmp_Compare_int.ok k), (cmp_Or_int.ok k), trivial⟩) mixed Try.func66 (by kernel_rfl) (by kernel_rfl) (by kernel_rfl) (by kernel_rfl) (by kernel_rfl) (by kernel_rfl) (fun x => by kernel_rfl)
noncomputable def dots_Of_1.body : Go.Code := Try.f63.body.getD .skip
noncomputable def dots_Of_1.rs : List Go.ResultVar := Try.f63.results.toList
def dots_Of_1.regs : List (Nat × RInfo) := [(0, ⟨[1], [1], [], [], 0, [], [], []⟩),
  (1, ⟨[2], [], [], [], 0, [], [], []⟩)]
noncomputable def dots_Of_1.cx (k : Nat) : Cx := ⟨tt, pp, [(64, (dot_Right.e k))], dots_Of_1.regs, k⟩
@[reducible] def dots_Of_1.sg : Sg := ⟨[.dat tDot], [], .dat .bool, []⟩
noncomputable def dots_Of_1.f (k : Nat) (a0 : Ty.D tDot) : Option (Sg.Out dots_Of_1.sg) := Sg.fn dots_Of_1.sg (dots_Of_1.cx k) dots_Of_1.body dots_Of_1.rs a0
set_option maxRecDepth 100000 in
theorem dots_Of_1.f_eq (k : Nat) (a0 : Ty.D tDot) : dots_Of_1.f k a0 =
  bnd (dot_Right.f k a0) fun r0 =>
  some (bnot r0) := by kernel_rfl
noncomputable def dots_Of_1.e (k : Nat) : Entry := Sg.entry dots_Of_1.sg fun x => dots_Of_1.f k x
set_option maxRecDepth 100000 in
theorem dots_Of_1.ok (k : Nat) : CallOK Try.prog 63 (dots_Of_1.e k) :=
  fn_ok (c := dots_Of_1.cx k) (code := dots_Of_1.body) (TT.of tt_ok pp_ok) (fns_ok ⟨(dot_Right.ok k), trivial⟩) mixed Try.func63 (by kernel_rfl) (by kernel_rfl) (by kernel_rfl) (by kernel_rfl) (by kernel_rfl) (by kernel_rfl) (fun x => by kernel_rfl)

end Go.Proofs.Ytennedlpmacicaa
