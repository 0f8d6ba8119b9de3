/- Of each Go function that the law AuditLikes reaches: what its abstract run is, and that the function's call does what that says. -/
import Derived.Test.YtennedlpmacicaaFns
import Derived.Test.YtennedlpmacicaaProg
import Derived.KernelRfl
namespace Go.Proofs.Ytennedlpmacicaa
open Pal
@[reducible] def tVec : Ty := .arr 16 (.int .i64)
@[reducible] def terrorAddressString : Ty := .pair .str (.int .u64)
@[reducible] def tDot : Ty := .pair (.int .i64) (.int .i64)
@[reducible] def tReader112 : Ty := .pair .str (.int .i64)
@[reducible] def tReader : Ty := .pair .str tDot
@[reducible] def tValue : Ty := .pair (.int .i64) (.pair (.int .i64) .str)
@[reducible] def tUndo : Ty := .pair tDot (.int .i64)
@[reducible] def tFinding : Ty := .pair (.int .i64) tDot
@[reducible] def tboundsError : Ty := .pair (.int .i64) (.pair (.int .i64) (.pair .bool (.int .u8)))
@[reducible] def tDots : Ty := .pair tVec (.slc tDot)
@[reducible] def tOp : Ty := .pair (.int .i64) (.pair (.slc .str) (.pair tValue (.pair (.int .i64) (.slc tUndo))))
@[reducible] def tKnow : Ty := .pair tDots (.pair (.slc tUndo) tDots)
@[reducible] def tTxn : Ty := .pair tDot (.pair (.int .i64) (.pair (.int .i64) (.pair .bool (.slc tOp))))
@[reducible] def tDelta : Ty := .pair (.slc tTxn) (.pair (.slc tUndo) (.slc tDot))
@[reducible] def tState : Ty := .pair (.slc tTxn) (.pair (.slc tUndo) (.pair tDots (.pair tDots (.arr 8 (.slc tDot)))))
def tt : List (Nat × TInfo) := [(2, ⟨(.int .i64), 0⟩),
  (3, ⟨(.int .i64), 0⟩),
  (4, ⟨.bool, 0⟩),
  (5, ⟨(.int .u8), 0⟩),
  (6, ⟨(.int .u8), 0⟩),
  (7, ⟨tboundsError, 4⟩),
  (8, ⟨tboundsError, 4⟩),
  (9, ⟨.str, 0⟩),
  (10, ⟨.str, 0⟩),
  (11, ⟨.str, 0⟩),
  (12, ⟨(.int .u64), 0⟩),
  (21, ⟨(.int .i32), 0⟩),
  (22, ⟨tDot, 2⟩),
  (23, ⟨tDot, 2⟩),
  (24, ⟨(.slc tOp), 0⟩),
  (25, ⟨tTxn, 5⟩),
  (26, ⟨tTxn, 5⟩),
  (30, ⟨(.slc tDot), 0⟩),
  (32, ⟨tVec, 0⟩),
  (33, ⟨tVec, 0⟩),
  (34, ⟨tDots, 2⟩),
  (35, ⟨tDots, 2⟩),
  (48, ⟨(.slc tUndo), 0⟩),
  (49, ⟨tKnow, 3⟩),
  (50, ⟨tKnow, 3⟩),
  (58, ⟨tReader, 3⟩),
  (59, ⟨tReader, 3⟩),
  (62, ⟨(.int .i64), 0⟩),
  (70, ⟨(.slc .str), 0⟩),
  (71, ⟨tValue, 3⟩),
  (72, ⟨tValue, 3⟩),
  (73, ⟨(.slc tUndo), 0⟩),
  (74, ⟨tOp, 5⟩),
  (75, ⟨tOp, 5⟩),
  (76, ⟨(.slc tFinding), 0⟩),
  (78, ⟨tUndo, 2⟩),
  (79, ⟨tUndo, 2⟩),
  (80, ⟨(.slc tTxn), 0⟩),
  (81, ⟨(.arr 8 (.slc tDot)), 0⟩),
  (82, ⟨tState, 5⟩),
  (83, ⟨tState, 5⟩),
  (84, ⟨tFinding, 2⟩),
  (85, ⟨tFinding, 2⟩),
  (102, ⟨tDelta, 3⟩),
  (103, ⟨tDelta, 3⟩),
  (111, ⟨tReader112, 2⟩),
  (112, ⟨tReader112, 2⟩),
  (127, ⟨tUndo, 2⟩),
  (128, ⟨tUndo, 2⟩),
  (132, ⟨(.int .u64), 0⟩),
  (136, ⟨(.slc (.slc tDot)), 0⟩),
  (148, ⟨(.int .i64), 0⟩),
  (155, ⟨(.int .u32), 0⟩),
  (157, ⟨(.int .u64), 0⟩),
  (158, ⟨(.slc (.int .i64)), 0⟩),
  (167, ⟨(.int .u64), 0⟩),
  (191, ⟨(.int .u8), 0⟩),
  (192, ⟨(.int .u8), 0⟩),
  (195, ⟨(.int .i32), 0⟩),
  (196, ⟨(.int .i32), 0⟩)]
def pp : List Nat := [15, 16, 17, 55, 57, 171, 179, 194]
set_option maxRecDepth 100000 in
theorem tt_ok : tt.all (fun x => tiB Try.prog x.1 x.2) = true := by kernel_rfl
set_option maxRecDepth 100000 in
theorem pp_ok : pp.all (ptB Try.prog) = true := by kernel_rfl
theorem mixed : Try.prog.follows .mixedOrders = true := by kernel_rfl
noncomputable def ref10_Short.body : Go.Code := Try.f100.body.getD .skip
noncomputable def ref10_Short.rs : List Go.ResultVar := Try.f100.results.toList
def ref10_Short.regs : List (Nat × RInfo) := [(0, ⟨[0], [], [], [], 0, [], []⟩),
  (1, ⟨[0, 6], [], [], [], 0, [], []⟩),
  (2, ⟨[2], [], [], [], 0, [], []⟩),
  (3, ⟨[0, 3], [], [], [], 0, [], []⟩),
  (4, ⟨[0, 3, 10], [], [], [], 0, [0, 3], []⟩),
  (6, ⟨[0, 3, 18], [], [], [], 0, [], []⟩),
  (7, ⟨[2], [], [], [], 0, [], []⟩),
  (5, ⟨[0, 3], [], [], [], 0, [], []⟩),
  (8, ⟨[2], [], [], [], 0, [], []⟩)]
noncomputable def ref10_Short.cx (k : Nat) : Cx := ⟨tt, pp, [], ref10_Short.regs, k⟩
@[reducible] def ref10_Short.sg : Sg := ⟨[.dat (.slc .str)], [], .dat .bool, []⟩
noncomputable def ref10_Short.f (k : Nat) (a0 : Ty.D (.slc .str)) : Option (Sg.Out ref10_Short.sg) := Sg.fn ref10_Short.sg (ref10_Short.cx k) ref10_Short.body ref10_Short.rs a0
noncomputable def ref10_Short.l4 (k : Nat) (n : Nat) (x0 : Ty.D (.slc .str)) (x3 : Ty.D (.int .i64)) : Option (Sg.Out ref10_Short.sg) := loopAt (ref10_Short.cx k) ref10_Short.body [1, 1, 0, 1, 0] 4 [0, 3] [] [] (Sg.K ref10_Short.sg (ref10_Short.cx k) ref10_Short.rs) n ⟨[(0, .dat (.slc .str) x0), (3, .dat (.int .i64) x3)], []⟩
set_option maxRecDepth 100000 in
theorem ref10_Short.f_eq (k : Nat) (a0 : Ty.D (.slc .str)) : ref10_Short.f k a0 =
  br (ilt 12 (ilen a0))
    (some false)
    (ref10_Short.l4 k k a0 0) := by kernel_rfl
set_option maxRecDepth 100000 in
theorem ref10_Short.l4_eq (k : Nat) (n4 : Nat) (x0 : Ty.D (.slc .str)) (x3 : Ty.D (.int .i64)) : ref10_Short.l4 k (n4 + 1) x0 x3 =
  br (ilt x3 (ilen x0))
    (br (inL x3 x0)
      (br (ilt 120 (ilen (rd .str x0 (natOf x3))))
        (some false)
        (ref10_Short.l4 k n4 x0 (iadd .i64 x3 1)))
      (none))
    (some true) := by kernel_rfl
noncomputable def ref10_Short.e (k : Nat) : Entry := Sg.entry ref10_Short.sg fun x => ref10_Short.f k x
set_option maxRecDepth 100000 in
theorem ref10_Short.ok (k : Nat) : CallOK Try.prog 100 (ref10_Short.e k) :=
  fn_ok (c := ref10_Short.cx k) (code := ref10_Short.body) (TT.of tt_ok pp_ok) (fns_ok trivial) mixed Try.func100 (by kernel_rfl) (by kernel_rfl) (by kernel_rfl) (by kernel_rfl) (by kernel_rfl) (by kernel_rfl) (fun x => by kernel_rfl)
noncomputable def ref11_Short.body : Go.Code := Try.f55.body.getD .skip
noncomputable def ref11_Short.rs : List Go.ResultVar := Try.f55.results.toList
def ref11_Short.regs : List (Nat × RInfo) := [(0, ⟨[1], [1], [0], [], 0, [], []⟩),
  (1, ⟨[2], [], [], [], 0, [], []⟩)]
noncomputable def ref11_Short.cx (k : Nat) : Cx := ⟨tt, pp, [(100, (ref10_Short.e k))], ref11_Short.regs, k⟩
@[reducible] def ref11_Short.sg : Sg := ⟨[.dat tOp], [], .dat .bool, []⟩
noncomputable def ref11_Short.f (k : Nat) (a0 : Ty.D tOp) : Option (Sg.Out ref11_Short.sg) := Sg.fn ref11_Short.sg (ref11_Short.cx k) ref11_Short.body ref11_Short.rs a0
set_option maxRecDepth 100000 in
theorem ref11_Short.f_eq (k : Nat) (a0 : Ty.D tOp) : ref11_Short.f k a0 =
  bnd (ref10_Short.f k a0.2.1) fun r0 =>
  br r0
    (br (ile (ilen a0.2.2.1.2.2) 200)
      (some (ile (ilen a0.2.2.2.2) 300))
      (some false))
    (some false) := by kernel_rfl
noncomputable def ref11_Short.e (k : Nat) : Entry := Sg.entry ref11_Short.sg fun x => ref11_Short.f k x
set_option maxRecDepth 100000 in
theorem ref11_Short.ok (k : Nat) : CallOK Try.prog 55 (ref11_Short.e k) :=
  fn_ok (c := ref11_Short.cx k) (code := ref11_Short.body) (TT.of tt_ok pp_ok) (fns_ok ⟨(ref10_Short.ok k), trivial⟩) mixed Try.func55 (by kernel_rfl) (by kernel_rfl) (by kernel_rfl) (by kernel_rfl) (by kernel_rfl) (by kernel_rfl) (fun x => by kernel_rfl)
noncomputable def ref12_Short.body : Go.Code := Try.f11.body.getD .skip
noncomputable def ref12_Short.rs : List Go.ResultVar := Try.f11.results.toList
def ref12_Short.regs : List (Nat × RInfo) := [(0, ⟨[1], [1], [0], [], 0, [], []⟩),
  (1, ⟨[1, 7], [1], [], [], 0, [], []⟩),
  (2, ⟨[2], [], [], [], 0, [], []⟩),
  (3, ⟨[1, 3], [1], [], [], 0, [], []⟩),
  (4, ⟨[1, 3, 12], [1], [], [], 0, [1, 3], [1]⟩),
  (6, ⟨[1, 3, 21], [1], [], [], 0, [], []⟩),
  (7, ⟨[2], [], [], [], 0, [], []⟩),
  (5, ⟨[1, 3], [1], [], [], 0, [], []⟩),
  (8, ⟨[2], [], [], [], 0, [], []⟩)]
noncomputable def ref12_Short.cx (k : Nat) : Cx := ⟨tt, pp, [(55, (ref11_Short.e k))], ref12_Short.regs, k⟩
@[reducible] def ref12_Short.sg : Sg := ⟨[.dat tTxn], [], .dat .bool, []⟩
noncomputable def ref12_Short.f (k : Nat) (a0 : Ty.D tTxn) : Option (Sg.Out ref12_Short.sg) := Sg.fn ref12_Short.sg (ref12_Short.cx k) ref12_Short.body ref12_Short.rs a0
noncomputable def ref12_Short.l4 (k : Nat) (n : Nat) (x3 : Ty.D (.int .i64)) (m1 : Ty.D tTxn) : Option (Sg.Out ref12_Short.sg) := loopAt (ref12_Short.cx k) ref12_Short.body [1, 1, 0, 1, 0] 4 [1, 3] [1] [] (Sg.K ref12_Short.sg (ref12_Short.cx k) ref12_Short.rs) n ⟨[(1, .ref 1 []), (3, .dat (.int .i64) x3)], [(1, .dat tTxn m1)]⟩
set_option maxRecDepth 100000 in
theorem ref12_Short.f_eq (k : Nat) (a0 : Ty.D tTxn) : ref12_Short.f k a0 =
  br (ilt 20 (ilen a0.2.2.2.2))
    (some false)
    (ref12_Short.l4 k k 0 a0) := by kernel_rfl
set_option maxRecDepth 100000 in
theorem ref12_Short.l4_eq (k : Nat) (n4 : Nat) (x3 : Ty.D (.int .i64)) (m1 : Ty.D tTxn) : ref12_Short.l4 k (n4 + 1) x3 m1 =
  br (ilt x3 (ilen m1.2.2.2.2))
    (br (inL x3 m1.2.2.2.2)
      (bnd (ref11_Short.f k (rd tOp m1.2.2.2.2 (natOf x3))) fun r0 =>
      br (bnot r0)
        (some false)
        (ref12_Short.l4 k n4 (iadd .i64 x3 1) m1))
      (none))
    (some true) := by kernel_rfl
noncomputable def ref12_Short.e (k : Nat) : Entry := Sg.entry ref12_Short.sg fun x => ref12_Short.f k x
set_option maxRecDepth 100000 in
theorem ref12_Short.ok (k : Nat) : CallOK Try.prog 11 (ref12_Short.e k) :=
  fn_ok (c := ref12_Short.cx k) (code := ref12_Short.body) (TT.of tt_ok pp_ok) (fns_ok ⟨(ref11_Short.ok k), trivial⟩) mixed Try.func11 (by kernel_rfl) (by kernel_rfl) (by kernel_rfl) (by kernel_rfl) (by kernel_rfl) (by kernel_rfl) (fun x => by kernel_rfl)
noncomputable def cmp_isNaN_int.body : Go.Code := Try.f142.body.getD .skip
noncomputable def cmp_isNaN_int.rs : List Go.ResultVar := Try.f142.results.toList
def cmp_isNaN_int.regs : List (Nat × RInfo) := [(0, ⟨[0], [], [], [], 0, [], []⟩),
  (1, ⟨[2], [], [], [], 0, [], []⟩)]
noncomputable def cmp_isNaN_int.cx (k : Nat) : Cx := ⟨tt, pp, [], cmp_isNaN_int.regs, k⟩
@[reducible] def cmp_isNaN_int.sg : Sg := ⟨[.dat (.int .i64)], [], .dat .bool, []⟩
noncomputable def cmp_isNaN_int.f (k : Nat) (a0 : Ty.D (.int .i64)) : Option (Sg.Out cmp_isNaN_int.sg) := Sg.fn cmp_isNaN_int.sg (cmp_isNaN_int.cx k) cmp_isNaN_int.body cmp_isNaN_int.rs a0
set_option maxRecDepth 100000 in
theorem cmp_isNaN_int.f_eq (k : Nat) (a0 : Ty.D (.int .i64)) : cmp_isNaN_int.f k a0 =
  some (bnot (ieq a0 a0)) := by kernel_rfl
noncomputable def cmp_isNaN_int.e (k : Nat) : Entry := Sg.entry cmp_isNaN_int.sg fun x => cmp_isNaN_int.f k x
set_option maxRecDepth 100000 in
theorem cmp_isNaN_int.ok (k : Nat) : CallOK Try.prog 142 (cmp_isNaN_int.e k) :=
  fn_ok (c := cmp_isNaN_int.cx k) (code := cmp_isNaN_int.body) (TT.of tt_ok pp_ok) (fns_ok trivial) mixed Try.func142 (by kernel_rfl) (by kernel_rfl) (by kernel_rfl) (by kernel_rfl) (by kernel_rfl) (by kernel_rfl) (fun x => by kernel_rfl)
noncomputable def cmp_Compare_int.body : Go.Code := Try.f113.body.getD .skip
noncomputable def cmp_Compare_int.rs : List Go.ResultVar := Try.f113.results.toList
def cmp_Compare_int.regs : List (Nat × RInfo) := [(0, ⟨[0, 1], [], [], [], 0, [], []⟩),
  (1, ⟨[0, 1, 5], [], [], [], 0, [], []⟩),
  (2, ⟨[0, 1, 5, 6], [], [], [], 0, [], []⟩),
  (3, ⟨[0, 1, 6, 11], [], [], [], 0, [], []⟩),
  (4, ⟨[12], [], [], [], 0, [], []⟩),
  (5, ⟨[4], [], [], [], 0, [], []⟩),
  (6, ⟨[4], [], [], [], 0, [], []⟩),
  (7, ⟨[0, 1, 13], [], [], [], 0, [], []⟩),
  (8, ⟨[4], [], [], [], 0, [], []⟩),
  (9, ⟨[0, 1, 16], [], [], [], 0, [], []⟩),
  (10, ⟨[4], [], [], [], 0, [], []⟩),
  (11, ⟨[19], [], [], [], 0, [], []⟩),
  (12, ⟨[4], [], [], [], 0, [], []⟩),
  (13, ⟨[4], [], [], [], 0, [], []⟩)]
noncomputable def cmp_Compare_int.cx (k : Nat) : Cx := ⟨tt, pp, [(142, (cmp_isNaN_int.e k))], cmp_Compare_int.regs, k⟩
@[reducible] def cmp_Compare_int.sg : Sg := ⟨[.dat (.int .i64), .dat (.int .i64)], [], .dat (.int .i64), []⟩
noncomputable def cmp_Compare_int.f (k : Nat) (a0 : Ty.D (.int .i64)) (a1 : Ty.D (.int .i64)) : Option (Sg.Out cmp_Compare_int.sg) := Sg.fn cmp_Compare_int.sg (cmp_Compare_int.cx k) cmp_Compare_int.body cmp_Compare_int.rs (a0, a1)
noncomputable def cmp_Compare_int.e (k : Nat) : Entry := Sg.entry cmp_Compare_int.sg fun x => cmp_Compare_int.f k x.1 x.2
set_option maxRecDepth 100000 in
theorem cmp_Compare_int.ok (k : Nat) : CallOK Try.prog 113 (cmp_Compare_int.e k) :=
  fn_ok (c := cmp_Compare_int.cx k) (code := cmp_Compare_int.body) (TT.of tt_ok pp_ok) (fns_ok ⟨(cmp_isNaN_int.ok k), trivial⟩) mixed Try.func113 (by kernel_rfl) (by kernel_rfl) (by kernel_rfl) (by kernel_rfl) (by kernel_rfl) (by kernel_rfl) (fun x => by kernel_rfl)
noncomputable def cmp_Or_int.body : Go.Code := Try.f112.body.getD .skip
noncomputable def cmp_Or_int.rs : List Go.ResultVar := Try.f112.results.toList
def cmp_Or_int.regs : List (Nat × RInfo) := [(0, ⟨[0], [], [], [], 0, [], []⟩),
  (1, ⟨[0, 3], [], [], [], 0, [], []⟩),
  (2, ⟨[3, 6, 7, 8], [], [0], [], 0, [], []⟩),
  (3, ⟨[3, 6, 7, 8, 9], [], [], [], 0, [3, 6, 7, 8], []⟩),
  (4, ⟨[3, 5, 6, 7, 8], [], [], [], 0, [], []⟩),
  (5, ⟨[3, 5, 6, 7, 8, 14], [], [], [], 0, [], []⟩),
  (6, ⟨[2], [], [], [], 0, [], []⟩),
  (7, ⟨[3, 6, 7, 8], [], [], [], 0, [], []⟩),
  (8, ⟨[2], [], [], [], 0, [], []⟩)]
noncomputable def cmp_Or_int.cx (k : Nat) : Cx := ⟨tt, pp, [], cmp_Or_int.regs, k⟩
@[reducible] def cmp_Or_int.sg : Sg := ⟨[.dat (.slc (.int .i64))], [], .dat (.int .i64), []⟩
noncomputable def cmp_Or_int.f (k : Nat) (a0 : Ty.D (.slc (.int .i64))) : Option (Sg.Out cmp_Or_int.sg) := Sg.fn cmp_Or_int.sg (cmp_Or_int.cx k) cmp_Or_int.body cmp_Or_int.rs a0
noncomputable def cmp_Or_int.e (k : Nat) : Entry := Sg.entry cmp_Or_int.sg fun x => cmp_Or_int.f k x
set_option maxRecDepth 100000 in
theorem cmp_Or_int.ok (k : Nat) : CallOK Try.prog 112 (cmp_Or_int.e k) :=
  fn_ok (c := cmp_Or_int.cx k) (code := cmp_Or_int.body) (TT.of tt_ok pp_ok) (fns_ok trivial) mixed Try.func112 (by kernel_rfl) (by kernel_rfl) (by kernel_rfl) (by kernel_rfl) (by kernel_rfl) (by kernel_rfl) (fun x => by kernel_rfl)
noncomputable def dot_Compare.body : Go.Code := Try.f66.body.getD .skip
noncomputable def dot_Compare.rs : List Go.ResultVar := Try.f66.results.toList
def dot_Compare.regs : List (Nat × RInfo) := [(0, ⟨[2, 3], [2, 3], [], [], 0, [], []⟩),
  (1, ⟨[4], [], [], [], 12, [], []⟩)]
noncomputable def dot_Compare.cx (k : Nat) : Cx := ⟨tt, pp, [(113, (cmp_Compare_int.e k)),
  (112, (cmp_Or_int.e k))], dot_Compare.regs, k⟩
@[reducible] def dot_Compare.sg : Sg := ⟨[.dat tDot, .dat tDot], [], .dat (.int .i64), []⟩
noncomputable def dot_Compare.f (k : Nat) (a0 : Ty.D tDot) (a1 : Ty.D tDot) : Option (Sg.Out dot_Compare.sg) := Sg.fn dot_Compare.sg (dot_Compare.cx k) dot_Compare.body dot_Compare.rs (a0, a1)
noncomputable def dot_Compare.e (k : Nat) : Entry := Sg.entry dot_Compare.sg fun x => dot_Compare.f k x.1 x.2
set_option maxRecDepth 100000 in
theorem dot_Compare.ok (k : Nat) : CallOK Try.prog 66 (dot_Compare.e k) :=
  fn_ok (c := dot_Compare.cx k) (code := dot_Compare.body) (TT.of tt_ok pp_ok) (fns_ok ⟨(cmp_Compare_int.ok k), (cmp_Or_int.ok k), trivial⟩) mixed Try.func66 (by kernel_rfl) (by kernel_rfl) (by kernel_rfl) (by kernel_rfl) (by kernel_rfl) (by kernel_rfl) (fun x => by kernel_rfl)
noncomputable def txn_Find_1.body : Go.Code := Try.f130.body.getD .skip
noncomputable def txn_Find_1.rs : List Go.ResultVar := Try.f130.results.toList
def txn_Find_1.regs : List (Nat × RInfo) := [(0, ⟨[2, 3], [2, 3], [0], [], 0, [], []⟩),
  (1, ⟨[4], [], [], [], 0, [], []⟩)]
noncomputable def txn_Find_1.cx (k : Nat) : Cx := ⟨tt, pp, [(66, (dot_Compare.e k))], txn_Find_1.regs, k⟩
@[reducible] def txn_Find_1.sg : Sg := ⟨[.dat tTxn, .dat tDot], [], .dat (.int .i64), []⟩
noncomputable def txn_Find_1.f (k : Nat) (a0 : Ty.D tTxn) (a1 : Ty.D tDot) : Option (Sg.Out txn_Find_1.sg) := Sg.fn txn_Find_1.sg (txn_Find_1.cx k) txn_Find_1.body txn_Find_1.rs (a0, a1)
noncomputable def txn_Find_1.e (k : Nat) : Entry := Sg.entry txn_Find_1.sg fun x => txn_Find_1.f k x.1 x.2
set_option maxRecDepth 100000 in
theorem txn_Find_1.ok (k : Nat) : CallOK Try.prog 130 (txn_Find_1.e k) :=
  fn_ok (c := txn_Find_1.cx k) (code := txn_Find_1.body) (TT.of tt_ok pp_ok) (fns_ok ⟨(dot_Compare.ok k), trivial⟩) mixed Try.func130 (by kernel_rfl) (by kernel_rfl) (by kernel_rfl) (by kernel_rfl) (by kernel_rfl) (by kernel_rfl) (fun x => by kernel_rfl)
noncomputable def slices_BinarySearchFunc_api_Txn_api_Txn_api_Dot_130.body : Go.Code := Try.f129.body.getD .skip
noncomputable def slices_BinarySearchFunc_api_Txn_api_Txn_api_Dot_130.rs : List Go.ResultVar := Try.f129.results.toList
def slices_BinarySearchFunc_api_Txn_api_Txn_api_Dot_130.regs : List (Nat × RInfo) := [(0, ⟨[0, 2, 4], [4], [], [], 0, [], []⟩),
  (1, ⟨[0, 2, 4, 8], [4], [], [], 0, [], []⟩),
  (2, ⟨[0, 2, 4, 8, 9, 10], [4], [], [], 0, [], []⟩),
  (3, ⟨[0, 2, 4, 8, 9, 10, 17], [4], [], [], 0, [0, 2, 4, 8, 9, 10], [4]⟩),
  (4, ⟨[0, 2, 4, 8, 9, 10, 11], [4], [], [], 0, [], []⟩),
  (5, ⟨[0, 2, 4, 8, 9, 10, 11, 31], [4], [], [], 8, [], []⟩),
  (6, ⟨[0, 2, 4, 8, 9, 10], [4], [], [], 0, [], []⟩),
  (7, ⟨[0, 2, 4, 8, 9, 10], [4], [], [], 0, [], []⟩),
  (8, ⟨[6, 7], [], [6], [], 15, [], []⟩)]
noncomputable def slices_BinarySearchFunc_api_Txn_api_Txn_api_Dot_130.cx (k : Nat) : Cx := ⟨tt, pp, [(130, (txn_Find_1.e k))], slices_BinarySearchFunc_api_Txn_api_Txn_api_Dot_130.regs, k⟩
@[reducible] def slices_BinarySearchFunc_api_Txn_api_Txn_api_Dot_130.sg : Sg := ⟨[.dat (.slc tTxn), .dat tDot, .fn 130 0], [], .t2 (.dat (.int .i64)) (.dat .bool), []⟩
noncomputable def slices_BinarySearchFunc_api_Txn_api_Txn_api_Dot_130.f (k : Nat) (a0 : Ty.D (.slc tTxn)) (a1 : Ty.D tDot) : Option (Sg.Out slices_BinarySearchFunc_api_Txn_api_Txn_api_Dot_130.sg) := Sg.fn slices_BinarySearchFunc_api_Txn_api_Txn_api_Dot_130.sg (slices_BinarySearchFunc_api_Txn_api_Txn_api_Dot_130.cx k) slices_BinarySearchFunc_api_Txn_api_Txn_api_Dot_130.body slices_BinarySearchFunc_api_Txn_api_Txn_api_Dot_130.rs (a0, a1)
noncomputable def slices_BinarySearchFunc_api_Txn_api_Txn_api_Dot_130.e (k : Nat) : Entry := Sg.entry slices_BinarySearchFunc_api_Txn_api_Txn_api_Dot_130.sg fun x => slices_BinarySearchFunc_api_Txn_api_Txn_api_Dot_130.f k x.1 x.2
set_option maxRecDepth 100000 in
theorem slices_BinarySearchFunc_api_Txn_api_Txn_api_Dot_130.ok (k : Nat) : CallOK Try.prog 129 (slices_BinarySearchFunc_api_Txn_api_Txn_api_Dot_130.e k) :=
  fn_ok (c := slices_BinarySearchFunc_api_Txn_api_Txn_api_Dot_130.cx k) (code := slices_BinarySearchFunc_api_Txn_api_Txn_api_Dot_130.body) (TT.of tt_ok pp_ok) (fns_ok ⟨(txn_Find_1.ok k), trivial⟩) mixed Try.func129 (by kernel_rfl) (by kernel_rfl) (by kernel_rfl) (by kernel_rfl) (by kernel_rfl) (by kernel_rfl) (fun x => by kernel_rfl)
noncomputable def txn_Find.body : Go.Code := Try.f101.body.getD .skip
noncomputable def txn_Find.rs : List Go.ResultVar := Try.f101.results.toList
def txn_Find.regs : List (Nat × RInfo) := [(0, ⟨[0, 3], [3], [], [], 0, [], []⟩),
  (1, ⟨[5, 6], [], [0], [], 0, [], []⟩),
  (2, ⟨[5, 14], [], [], [], 0, [], []⟩),
  (3, ⟨[4], [], [], [], 0, [], []⟩),
  (4, ⟨[4], [], [], [], 0, [], []⟩)]
noncomputable def txn_Find.cx (k : Nat) : Cx := ⟨tt, pp, [(129, (slices_BinarySearchFunc_api_Txn_api_Txn_api_Dot_130.e k)),
  (130, (txn_Find_1.e k))], txn_Find.regs, k⟩
@[reducible] def txn_Find.sg : Sg := ⟨[.dat (.slc tTxn), .dat tDot], [], .dat (.int .i64), []⟩
noncomputable def txn_Find.f (k : Nat) (a0 : Ty.D (.slc tTxn)) (a1 : Ty.D tDot) : Option (Sg.Out txn_Find.sg) := Sg.fn txn_Find.sg (txn_Find.cx k) txn_Find.body txn_Find.rs (a0, a1)
noncomputable def txn_Find.e (k : Nat) : Entry := Sg.entry txn_Find.sg fun x => txn_Find.f k x.1 x.2
set_option maxRecDepth 100000 in
theorem txn_Find.ok (k : Nat) : CallOK Try.prog 101 (txn_Find.e k) :=
  fn_ok (c := txn_Find.cx k) (code := txn_Find.body) (TT.of tt_ok pp_ok) (fns_ok ⟨(slices_BinarySearchFunc_api_Txn_api_Txn_api_Dot_130.ok k), (txn_Find_1.ok k), trivial⟩) mixed Try.func101 (by kernel_rfl) (by kernel_rfl) (by kernel_rfl) (by kernel_rfl) (by kernel_rfl) (by kernel_rfl) (fun x => by kernel_rfl)
noncomputable def audit_covers.body : Go.Code := Try.f102.body.getD .skip
noncomputable def audit_covers.rs : List Go.ResultVar := Try.f102.results.toList
def audit_covers.regs : List (Nat × RInfo) := [(0, ⟨[2, 3], [2, 3], [0, 1], [], 0, [], []⟩),
  (1, ⟨[2, 3, 5], [2, 3], [], [], 0, [], []⟩),
  (2, ⟨[2, 3, 5, 12, 13, 14], [2, 3], [], [], 0, [], []⟩),
  (3, ⟨[2, 3, 5, 12, 13, 14, 15], [2, 3], [], [], 0, [2, 3, 5, 12, 13, 14], [2, 3]⟩),
  (4, ⟨[2, 3, 5, 6, 7, 12, 13, 14], [2, 3, 7], [5], [], 0, [], []⟩),
  (5, ⟨[2, 3, 5, 6, 12, 13, 14, 20, 21, 22], [2, 3], [], [], 0, [], []⟩),
  (6, ⟨[2, 3, 5, 6, 12, 13, 14, 20, 21, 22, 23], [2, 3], [], [], 0, [2, 3, 5, 6, 12, 13, 14, 20, 21, 22], [2, 3]⟩),
  (7, ⟨[2, 3, 5, 6, 9, 12, 13, 14, 20, 21, 22], [2, 3, 9], [], [], 0, [], []⟩),
  (8, ⟨[2, 3, 5, 6, 9, 12, 13, 14, 20, 21, 22, 30], [2, 3, 9], [], [], 0, [], []⟩),
  (9, ⟨[2, 3, 5, 6, 12, 13, 14, 20, 21, 22, 34], [2, 3], [], [], 0, [], []⟩),
  (10, ⟨[2, 3, 5, 6, 12, 13, 14, 20, 21, 22], [2, 3], [0, 5, 6], [], 0, [], []⟩),
  (11, ⟨[2, 3, 5, 6, 10, 12, 13, 14, 20, 21, 22], [2, 3], [], [], 0, [], []⟩),
  (12, ⟨[2, 3, 5, 6, 10, 12, 13, 14, 20, 21, 22, 46], [2, 3], [], [], 0, [], []⟩),
  (13, ⟨[2, 3, 5, 6, 12, 13, 14, 20, 21, 22], [2, 3], [0, 5, 6], [], 0, [], []⟩),
  (14, ⟨[2, 3, 5, 6, 12, 13, 14, 20, 21, 22, 55], [2, 3], [], [], 10, [], []⟩),
  (15, ⟨[2, 3, 5, 6, 12, 13, 14, 20, 21, 22], [2, 3], [0, 5, 6], [], 0, [], []⟩),
  (16, ⟨[2, 3, 5, 6, 12, 13, 14, 20, 21, 22], [2, 3], [], [], 0, [], []⟩),
  (17, ⟨[2, 3, 5, 12, 13, 14], [2, 3], [], [], 0, [], []⟩),
  (18, ⟨[4], [], [0, 1], [], 0, [], []⟩)]
noncomputable def audit_covers.cx (k : Nat) : Cx := ⟨tt, pp, [(101, (txn_Find.e k))], audit_covers.regs, k⟩
@[reducible] def audit_covers.sg : Sg := ⟨[.dat tState, .dat tTxn], [], .dat (.slc tFinding), []⟩
noncomputable def audit_covers.f (k : Nat) (a0 : Ty.D tState) (a1 : Ty.D tTxn) : Option (Sg.Out audit_covers.sg) := Sg.fn audit_covers.sg (audit_covers.cx k) audit_covers.body audit_covers.rs (a0, a1)
noncomputable def audit_covers.e (k : Nat) : Entry := Sg.entry audit_covers.sg fun x => audit_covers.f k x.1 x.2
set_option maxRecDepth 100000 in
theorem audit_covers.ok (k : Nat) : CallOK Try.prog 102 (audit_covers.e k) :=
  fn_ok (c := audit_covers.cx k) (code := audit_covers.body) (TT.of tt_ok pp_ok) (fns_ok ⟨(txn_Find.ok k), trivial⟩) mixed Try.func102 (by kernel_rfl) (by kernel_rfl) (by kernel_rfl) (by kernel_rfl) (by kernel_rfl) (by kernel_rfl) (fun x => by kernel_rfl)
noncomputable def math_bits_Len32.body : Go.Code := Try.f140.body.getD .skip
noncomputable def math_bits_Len32.rs : List Go.ResultVar := Try.f140.results.toList
def math_bits_Len32.regs : List (Nat × RInfo) := [(0, ⟨[0, 2], [], [], [], 0, [], []⟩),
  (1, ⟨[0, 2, 4], [], [], [], 0, [], []⟩),
  (2, ⟨[0], [], [], [], 0, [], []⟩),
  (3, ⟨[0, 2], [], [], [], 0, [], []⟩),
  (4, ⟨[0, 2, 8], [], [], [], 0, [], []⟩),
  (5, ⟨[0, 2], [], [], [], 0, [], []⟩),
  (6, ⟨[0, 2], [], [], [], 0, [], []⟩),
  (7, ⟨[2], [], [], [], 0, [], []⟩)]
noncomputable def math_bits_Len32.cx (k : Nat) : Cx := ⟨tt, pp, [], math_bits_Len32.regs, k⟩
@[reducible] def math_bits_Len32.sg : Sg := ⟨[.dat (.int .u32)], [], .dat (.int .i64), []⟩
noncomputable def math_bits_Len32.f (k : Nat) (a0 : Ty.D (.int .u32)) : Option (Sg.Out math_bits_Len32.sg) := Sg.fn math_bits_Len32.sg (math_bits_Len32.cx k) math_bits_Len32.body math_bits_Len32.rs a0
noncomputable def math_bits_Len32.e (k : Nat) : Entry := Sg.entry math_bits_Len32.sg fun x => math_bits_Len32.f k x
set_option maxRecDepth 100000 in
theorem math_bits_Len32.ok (k : Nat) : CallOK Try.prog 140 (math_bits_Len32.e k) :=
  fn_ok (c := math_bits_Len32.cx k) (code := math_bits_Len32.body) (TT.of tt_ok pp_ok) (fns_ok trivial) mixed Try.func140 (by kernel_rfl) (by kernel_rfl) (by kernel_rfl) (by kernel_rfl) (by kernel_rfl) (by kernel_rfl) (fun x => by kernel_rfl)
noncomputable def math_bits_Len64.body : Go.Code := Try.f141.body.getD .skip
noncomputable def math_bits_Len64.rs : List Go.ResultVar := Try.f141.results.toList
def math_bits_Len64.regs : List (Nat × RInfo) := [(0, ⟨[0, 2], [], [], [], 0, [], []⟩),
  (1, ⟨[0, 2, 4], [], [], [], 0, [], []⟩),
  (2, ⟨[0], [], [], [], 0, [], []⟩),
  (3, ⟨[0, 2], [], [], [], 0, [], []⟩),
  (4, ⟨[0, 2, 8], [], [], [], 0, [], []⟩),
  (5, ⟨[0, 2], [], [], [], 0, [], []⟩),
  (6, ⟨[0, 2], [], [], [], 0, [], []⟩),
  (7, ⟨[0, 2, 14], [], [], [], 0, [], []⟩),
  (8, ⟨[0, 2], [], [], [], 0, [], []⟩),
  (9, ⟨[0, 2], [], [], [], 0, [], []⟩),
  (10, ⟨[2], [], [], [], 0, [], []⟩)]
noncomputable def math_bits_Len64.cx (k : Nat) : Cx := ⟨tt, pp, [], math_bits_Len64.regs, k⟩
@[reducible] def math_bits_Len64.sg : Sg := ⟨[.dat (.int .u64)], [], .dat (.int .i64), []⟩
noncomputable def math_bits_Len64.f (k : Nat) (a0 : Ty.D (.int .u64)) : Option (Sg.Out math_bits_Len64.sg) := Sg.fn math_bits_Len64.sg (math_bits_Len64.cx k) math_bits_Len64.body math_bits_Len64.rs a0
noncomputable def math_bits_Len64.e (k : Nat) : Entry := Sg.entry math_bits_Len64.sg fun x => math_bits_Len64.f k x
set_option maxRecDepth 100000 in
theorem math_bits_Len64.ok (k : Nat) : CallOK Try.prog 141 (math_bits_Len64.e k) :=
  fn_ok (c := math_bits_Len64.cx k) (code := math_bits_Len64.body) (TT.of tt_ok pp_ok) (fns_ok trivial) mixed Try.func141 (by kernel_rfl) (by kernel_rfl) (by kernel_rfl) (by kernel_rfl) (by kernel_rfl) (by kernel_rfl) (fun x => by kernel_rfl)
noncomputable def math_bits_Len.body : Go.Code := Try.f111.body.getD .skip
noncomputable def math_bits_Len.rs : List Go.ResultVar := Try.f111.results.toList
def math_bits_Len.regs : List (Nat × RInfo) := [(0, ⟨[0], [], [], [], 0, [], []⟩),
  (1, ⟨[2], [], [], [], 0, [], []⟩),
  (2, ⟨[2], [], [], [], 0, [], []⟩)]
noncomputable def math_bits_Len.cx (k : Nat) : Cx := ⟨tt, pp, [(140, (math_bits_Len32.e k)),
  (141, (math_bits_Len64.e k))], math_bits_Len.regs, k⟩
@[reducible] def math_bits_Len.sg : Sg := ⟨[.dat (.int .u64)], [], .dat (.int .i64), []⟩
noncomputable def math_bits_Len.f (k : Nat) (a0 : Ty.D (.int .u64)) : Option (Sg.Out math_bits_Len.sg) := Sg.fn math_bits_Len.sg (math_bits_Len.cx k) math_bits_Len.body math_bits_Len.rs a0
noncomputable def math_bits_Len.e (k : Nat) : Entry := Sg.entry math_bits_Len.sg fun x => math_bits_Len.f k x
set_option maxRecDepth 100000 in
theorem math_bits_Len.ok (k : Nat) : CallOK Try.prog 111 (math_bits_Len.e k) :=
  fn_ok (c := math_bits_Len.cx k) (code := math_bits_Len.body) (TT.of tt_ok pp_ok) (fns_ok ⟨(math_bits_Len32.ok k), (math_bits_Len64.ok k), trivial⟩) mixed Try.func111 (by kernel_rfl) (by kernel_rfl) (by kernel_rfl) (by kernel_rfl) (by kernel_rfl) (by kernel_rfl) (fun x => by kernel_rfl)
noncomputable def audit_compare.body : Go.Code := Try.f104.body.getD .skip
noncomputable def audit_compare.rs : List Go.ResultVar := Try.f104.results.toList
def audit_compare.regs : List (Nat × RInfo) := [(0, ⟨[2, 3], [2, 3], [], [], 0, [], []⟩),
  (1, ⟨[4], [], [], [], 12, [], []⟩)]
noncomputable def audit_compare.cx (k : Nat) : Cx := ⟨tt, pp, [(113, (cmp_Compare_int.e k)),
  (66, (dot_Compare.e k)),
  (112, (cmp_Or_int.e k))], audit_compare.regs, k⟩
@[reducible] def audit_compare.sg : Sg := ⟨[.dat tFinding, .dat tFinding], [], .dat (.int .i64), []⟩
noncomputable def audit_compare.f (k : Nat) (a0 : Ty.D tFinding) (a1 : Ty.D tFinding) : Option (Sg.Out audit_compare.sg) := Sg.fn audit_compare.sg (audit_compare.cx k) audit_compare.body audit_compare.rs (a0, a1)
noncomputable def audit_compare.e (k : Nat) : Entry := Sg.entry audit_compare.sg fun x => audit_compare.f k x.1 x.2
set_option maxRecDepth 100000 in
theorem audit_compare.ok (k : Nat) : CallOK Try.prog 104 (audit_compare.e k) :=
  fn_ok (c := audit_compare.cx k) (code := audit_compare.body) (TT.of tt_ok pp_ok) (fns_ok ⟨(cmp_Compare_int.ok k), (dot_Compare.ok k), (cmp_Or_int.ok k), trivial⟩) mixed Try.func104 (by kernel_rfl) (by kernel_rfl) (by kernel_rfl) (by kernel_rfl) (by kernel_rfl) (by kernel_rfl) (fun x => by kernel_rfl)
noncomputable def slices_insertionSortCmpFunc_audit_Finding_104.body : Go.Code := Try.f148.body.getD .skip
noncomputable def slices_insertionSortCmpFunc_audit_Finding_104.rs : List Go.ResultVar := Try.f148.results.toList
def slices_insertionSortCmpFunc_audit_Finding_104.regs : List (Nat × RInfo) := [(0, ⟨[0, 1, 2, 3, 8], [], [], [], 0, [], []⟩),
  (1, ⟨[0, 1, 2, 3, 8, 14], [], [], [], 0, [0, 1, 2, 3, 8], []⟩),
  (3, ⟨[0, 1, 2, 3, 8, 9], [], [], [], 0, [], []⟩),
  (4, ⟨[0, 1, 2, 3, 8, 9, 34], [], [], [], 17, [0, 1, 2, 3, 8, 9], []⟩),
  (6, ⟨[0, 1, 2, 3, 8, 9], [], [], [], 16, [], []⟩),
  (5, ⟨[0, 1, 2, 3, 8, 9], [], [], [], 0, [], []⟩),
  (2, ⟨[0, 1, 2, 3, 8], [], [], [], 0, [], []⟩)]
noncomputable def slices_insertionSortCmpFunc_audit_Finding_104.cx (k : Nat) : Cx := ⟨tt, pp, [(104, (audit_compare.e k))], slices_insertionSortCmpFunc_audit_Finding_104.regs, k⟩
@[reducible] def slices_insertionSortCmpFunc_audit_Finding_104.sg : Sg := ⟨[.dat (.slc tFinding), .dat (.int .i64), .dat (.int .i64), .fn 104 0], [], .unit, []⟩
noncomputable def slices_insertionSortCmpFunc_audit_Finding_104.f (k : Nat) (a0 : Ty.D (.slc tFinding)) (a1 : Ty.D (.int .i64)) (a2 : Ty.D (.int .i64)) : Option (Sg.Out slices_insertionSortCmpFunc_audit_Finding_104.sg) := Sg.fn slices_insertionSortCmpFunc_audit_Finding_104.sg (slices_insertionSortCmpFunc_audit_Finding_104.cx k) slices_insertionSortCmpFunc_audit_Finding_104.body slices_insertionSortCmpFunc_audit_Finding_104.rs (a0, a1, a2)
noncomputable def slices_insertionSortCmpFunc_audit_Finding_104.e (k : Nat) : Entry := Sg.entry slices_insertionSortCmpFunc_audit_Finding_104.sg fun x => slices_insertionSortCmpFunc_audit_Finding_104.f k x.1 x.2.1 x.2.2
set_option maxRecDepth 100000 in
theorem slices_insertionSortCmpFunc_audit_Finding_104.ok (k : Nat) : CallOK Try.prog 148 (slices_insertionSortCmpFunc_audit_Finding_104.e k) :=
  fn_ok (c := slices_insertionSortCmpFunc_audit_Finding_104.cx k) (code := slices_insertionSortCmpFunc_audit_Finding_104.body) (TT.of tt_ok pp_ok) (fns_ok ⟨(audit_compare.ok k), trivial⟩) mixed Try.func148 (by kernel_rfl) (by kernel_rfl) (by kernel_rfl) (by kernel_rfl) (by kernel_rfl) (by kernel_rfl) (fun x => by kernel_rfl)
noncomputable def slices_pdqsortCmpFunc_audit_Finding_104.body : Go.Code := Try.f131.body.getD .skip
noncomputable def slices_pdqsortCmpFunc_audit_Finding_104.rs : List Go.ResultVar := Try.f131.results.toList
def slices_pdqsortCmpFunc_audit_Finding_104.regs : List (Nat × RInfo) := [(0, ⟨[0, 1, 2, 3, 4, 10], [], [], [], 0, [], []⟩),
  (1, ⟨[0, 1, 2, 3, 4, 10, 11], [], [], [], 0, [], []⟩),
  (2, ⟨[0, 1, 2, 3, 4, 10, 11, 12], [], [], [], 0, [0, 1, 2, 3, 4, 10, 11], []⟩),
  (3, ⟨[0, 1, 2, 3, 4, 10, 11, 12, 25], [], [], [], 0, [], []⟩),
  (4, ⟨[], [], [0], [], 0, [], []⟩),
  (5, ⟨[0, 1, 2, 3, 4, 10, 11, 12, 32], [], [], [], 0, [], []⟩),
  (6, ⟨[], [], [0], [], 0, [], []⟩),
  (7, ⟨[0, 1, 2, 3, 4, 10, 11, 12, 39], [], [], [], 0, [], []⟩),
  (8, ⟨[0, 1, 2, 3, 4, 10, 11, 12], [], [], [], 0, [], []⟩),
  (9, ⟨[0, 1, 2, 3, 4, 10, 11, 12], [], [], [], 0, [], []⟩),
  (10, ⟨[0, 1, 2, 3, 4, 10, 11, 12, 13, 14], [], [], [], 0, [], []⟩),
  (11, ⟨[0, 1, 2, 3, 4, 10, 11, 12, 13, 14, 56], [], [], [], 0, [], []⟩),
  (12, ⟨[0, 1, 2, 3, 4, 10, 11, 12, 13], [], [], [], 0, [], []⟩),
  (13, ⟨[0, 1, 2, 3, 4, 10, 11, 12, 13], [], [], [], 0, [], []⟩),
  (14, ⟨[0, 1, 2, 3, 4, 10, 11, 12, 13, 14], [], [], [], 0, [], []⟩),
  (15, ⟨[0, 1, 2, 3, 4, 10, 11, 12, 13, 75], [], [], [], 0, [], []⟩),
  (16, ⟨[0, 1, 2, 3, 4, 10, 11, 12, 13, 80], [], [], [], 0, [], []⟩),
  (17, ⟨[0, 1, 2, 3, 4, 10, 11, 12, 13, 97], [], [], [], 17, [], []⟩),
  (18, ⟨[0, 2, 3, 4, 10, 11, 15], [], [], [], 0, [], []⟩),
  (19, ⟨[0, 1, 2, 3, 4, 10, 11], [], [], [], 0, [], []⟩),
  (20, ⟨[0, 1, 2, 3, 4, 12, 16, 17], [], [], [], 0, [], []⟩),
  (21, ⟨[0, 1, 2, 3, 4, 11, 12, 16], [], [], [], 0, [], []⟩),
  (22, ⟨[0, 1, 2, 3, 4, 11, 12, 16, 18, 19], [], [], [], 0, [], []⟩),
  (23, ⟨[0, 1, 2, 3, 4, 11, 16, 18, 19, 20], [], [], [], 0, [], []⟩),
  (24, ⟨[0, 1, 2, 3, 4, 11, 16, 18, 19, 20, 125], [], [], [], 0, [], []⟩),
  (25, ⟨[0, 1, 2, 3, 4, 10, 11, 16], [], [], [], 0, [], []⟩),
  (26, ⟨[0, 2, 3, 4, 10, 11, 16], [], [], [], 0, [], []⟩),
  (27, ⟨[0, 1, 2, 3, 4, 10, 11], [], [], [], 0, [], []⟩),
  (28, ⟨[0, 1, 2, 3, 4, 10, 11, 16], [], [], [], 0, [], []⟩),
  (29, ⟨[0, 1, 3, 4, 10, 11, 16], [], [], [], 0, [], []⟩),
  (30, ⟨[0, 1, 2, 3, 4, 10, 11], [], [], [], 0, [], []⟩)]
noncomputable def slices_pdqsortCmpFunc_audit_Finding_104.cx (k : Nat) : Cx := ⟨tt, pp, [(148, (slices_insertionSortCmpFunc_audit_Finding_104.e k)),
  (104, (audit_compare.e k))], slices_pdqsortCmpFunc_audit_Finding_104.regs, k⟩
@[reducible] def slices_pdqsortCmpFunc_audit_Finding_104.sg : Sg := ⟨[.dat (.slc tFinding), .dat (.int .i64), .dat (.int .i64), .dat (.int .i64), .fn 104 0], [], .unit, []⟩
noncomputable def slices_pdqsortCmpFunc_audit_Finding_104.f (k : Nat) (a0 : Ty.D (.slc tFinding)) (a1 : Ty.D (.int .i64)) (a2 : Ty.D (.int .i64)) (a3 : Ty.D (.int .i64)) : Option (Sg.Out slices_pdqsortCmpFunc_audit_Finding_104.sg) := Sg.fn slices_pdqsortCmpFunc_audit_Finding_104.sg (slices_pdqsortCmpFunc_audit_Finding_104.cx k) slices_pdqsortCmpFunc_audit_Finding_104.body slices_pdqsortCmpFunc_audit_Finding_104.rs (a0, a1, a2, a3)
noncomputable def slices_pdqsortCmpFunc_audit_Finding_104.e (k : Nat) : Entry := Sg.entry slices_pdqsortCmpFunc_audit_Finding_104.sg fun x => slices_pdqsortCmpFunc_audit_Finding_104.f k x.1 x.2.1 x.2.2.1 x.2.2.2
set_option maxRecDepth 100000 in
theorem slices_pdqsortCmpFunc_audit_Finding_104.ok (k : Nat) : CallOK Try.prog 131 (slices_pdqsortCmpFunc_audit_Finding_104.e k) :=
  fn_ok (c := slices_pdqsortCmpFunc_audit_Finding_104.cx k) (code := slices_pdqsortCmpFunc_audit_Finding_104.body) (TT.of tt_ok pp_ok) (fns_ok ⟨(slices_insertionSortCmpFunc_audit_Finding_104.ok k), (audit_compare.ok k), trivial⟩) mixed Try.func131 (by kernel_rfl) (by kernel_rfl) (by kernel_rfl) (by kernel_rfl) (by kernel_rfl) (by kernel_rfl) (fun x => by kernel_rfl)
noncomputable def slices_SortFunc_audit_Finding_audit_Finding_104.body : Go.Code := Try.f103.body.getD .skip
noncomputable def slices_SortFunc_audit_Finding_audit_Finding_104.rs : List Go.ResultVar := Try.f103.results.toList
def slices_SortFunc_audit_Finding_audit_Finding_104.regs : List (Nat × RInfo) := [(0, ⟨[0, 1, 4], [], [], [], 0, [], []⟩),
  (1, ⟨[], [], [0], [], 0, [], []⟩)]
noncomputable def slices_SortFunc_audit_Finding_audit_Finding_104.cx (k : Nat) : Cx := ⟨tt, pp, [(111, (math_bits_Len.e k)),
  (131, (slices_pdqsortCmpFunc_audit_Finding_104.e k)),
  (104, (audit_compare.e k))], slices_SortFunc_audit_Finding_audit_Finding_104.regs, k⟩
@[reducible] def slices_SortFunc_audit_Finding_audit_Finding_104.sg : Sg := ⟨[.dat (.slc tFinding), .fn 104 0], [], .unit, []⟩
noncomputable def slices_SortFunc_audit_Finding_audit_Finding_104.f (k : Nat) (a0 : Ty.D (.slc tFinding)) : Option (Sg.Out slices_SortFunc_audit_Finding_audit_Finding_104.sg) := Sg.fn slices_SortFunc_audit_Finding_audit_Finding_104.sg (slices_SortFunc_audit_Finding_audit_Finding_104.cx k) slices_SortFunc_audit_Finding_audit_Finding_104.body slices_SortFunc_audit_Finding_audit_Finding_104.rs a0
noncomputable def slices_SortFunc_audit_Finding_audit_Finding_104.e (k : Nat) : Entry := Sg.entry slices_SortFunc_audit_Finding_audit_Finding_104.sg fun x => slices_SortFunc_audit_Finding_audit_Finding_104.f k x
set_option maxRecDepth 100000 in
theorem slices_SortFunc_audit_Finding_audit_Finding_104.ok (k : Nat) : CallOK Try.prog 103 (slices_SortFunc_audit_Finding_audit_Finding_104.e k) :=
  fn_ok (c := slices_SortFunc_audit_Finding_audit_Finding_104.cx k) (code := slices_SortFunc_audit_Finding_audit_Finding_104.body) (TT.of tt_ok pp_ok) (fns_ok ⟨(math_bits_Len.ok k), (slices_pdqsortCmpFunc_audit_Finding_104.ok k), (audit_compare.ok k), trivial⟩) mixed Try.func103 (by kernel_rfl) (by kernel_rfl) (by kernel_rfl) (by kernel_rfl) (by kernel_rfl) (by kernel_rfl) (fun x => by kernel_rfl)
noncomputable def slices_Compact_audit_Finding_audit_Finding.body : Go.Code := Try.f105.body.getD .skip
noncomputable def slices_Compact_audit_Finding_audit_Finding.rs : List Go.ResultVar := Try.f105.results.toList
def slices_Compact_audit_Finding_audit_Finding.regs : List (Nat × RInfo) := [(0, ⟨[0], [], [], [], 0, [], []⟩),
  (1, ⟨[0, 8], [], [], [], 0, [], []⟩),
  (2, ⟨[2], [], [0, 1], [], 0, [], []⟩),
  (3, ⟨[0, 3], [], [], [], 0, [], []⟩),
  (4, ⟨[0, 3, 13], [], [], [], 0, [0, 3], []⟩),
  (6, ⟨[0, 3, 25], [], [], [], 10, [], []⟩),
  (7, ⟨[0, 3, 4], [], [3], [], 0, [], []⟩),
  (8, ⟨[0, 3, 4, 5], [], [], [], 0, [], []⟩),
  (9, ⟨[0, 3, 4, 5, 32], [], [], [], 0, [0, 3, 4, 5], []⟩),
  (11, ⟨[0, 3, 4, 5, 44], [], [], [], 10, [], []⟩),
  (12, ⟨[0, 3, 4, 5], [], [], [], 0, [], []⟩),
  (13, ⟨[0, 3, 4, 5], [], [], [], 0, [], []⟩),
  (10, ⟨[0, 3, 4, 5], [], [], [], 0, [], []⟩),
  (14, ⟨[0, 3], [], [], [], 0, [], []⟩),
  (15, ⟨[2], [], [0, 3], [], 0, [], []⟩),
  (5, ⟨[0, 3], [], [], [], 0, [], []⟩),
  (16, ⟨[2], [], [0, 1], [], 0, [], []⟩)]
noncomputable def slices_Compact_audit_Finding_audit_Finding.cx (k : Nat) : Cx := ⟨tt, pp, [], slices_Compact_audit_Finding_audit_Finding.regs, k⟩
@[reducible] def slices_Compact_audit_Finding_audit_Finding.sg : Sg := ⟨[.dat (.slc tFinding)], [], .dat (.slc tFinding), []⟩
noncomputable def slices_Compact_audit_Finding_audit_Finding.f (k : Nat) (a0 : Ty.D (.slc tFinding)) : Option (Sg.Out slices_Compact_audit_Finding_audit_Finding.sg) := Sg.fn slices_Compact_audit_Finding_audit_Finding.sg (slices_Compact_audit_Finding_audit_Finding.cx k) slices_Compact_audit_Finding_audit_Finding.body slices_Compact_audit_Finding_audit_Finding.rs a0
noncomputable def slices_Compact_audit_Finding_audit_Finding.e (k : Nat) : Entry := Sg.entry slices_Compact_audit_Finding_audit_Finding.sg fun x => slices_Compact_audit_Finding_audit_Finding.f k x
set_option maxRecDepth 100000 in
theorem slices_Compact_audit_Finding_audit_Finding.ok (k : Nat) : CallOK Try.prog 105 (slices_Compact_audit_Finding_audit_Finding.e k) :=
  fn_ok (c := slices_Compact_audit_Finding_audit_Finding.cx k) (code := slices_Compact_audit_Finding_audit_Finding.body) (TT.of tt_ok pp_ok) (fns_ok trivial) mixed Try.func105 (by kernel_rfl) (by kernel_rfl) (by kernel_rfl) (by kernel_rfl) (by kernel_rfl) (by kernel_rfl) (fun x => by kernel_rfl)
noncomputable def audit_Check.body : Go.Code := Try.f56.body.getD .skip
noncomputable def audit_Check.rs : List Go.ResultVar := Try.f56.results.toList
def audit_Check.regs : List (Nat × RInfo) := [(0, ⟨[1], [1], [0], [], 0, [], []⟩),
  (1, ⟨[1, 3], [1], [], [], 0, [], []⟩),
  (2, ⟨[1, 3, 14, 15, 16], [1], [], [], 0, [], []⟩),
  (3, ⟨[1, 3, 14, 15, 16, 17], [1], [], [], 0, [1, 3, 14, 15, 16], [1]⟩),
  (4, ⟨[1, 3, 5, 14, 15, 16], [1, 5], [], [], 0, [], []⟩),
  (5, ⟨[1, 3, 5, 14, 15, 16, 25], [1, 5], [], [], 0, [], []⟩),
  (6, ⟨[1, 3, 14, 15, 16], [1], [0, 5, 6], [], 0, [], []⟩),
  (7, ⟨[1, 3, 14, 15, 16], [1], [], [], 0, [], []⟩),
  (8, ⟨[1, 3, 35, 36, 37], [1], [], [], 0, [], []⟩),
  (9, ⟨[1, 3, 35, 36, 37, 38], [1], [], [], 0, [1, 3, 35, 36, 37], [1]⟩),
  (10, ⟨[1, 3, 7, 35, 36, 37], [1, 7], [], [], 0, [], []⟩),
  (11, ⟨[1, 3, 7, 35, 36, 37, 45], [1, 7], [], [], 0, [], []⟩),
  (12, ⟨[1, 3, 35, 36, 37], [1], [0, 4, 5], [], 0, [], []⟩),
  (13, ⟨[1, 3, 35, 36, 37], [1], [], [], 0, [], []⟩),
  (14, ⟨[1, 3, 54, 55], [1], [], [], 0, [], []⟩),
  (15, ⟨[1, 3, 54, 55, 56], [1], [], [], 0, [1, 3, 54, 55], [1]⟩),
  (16, ⟨[1, 3, 8, 9, 54, 55], [1], [], [], 0, [], []⟩),
  (17, ⟨[1, 3, 8, 9, 10, 54, 55], [1], [], [], 0, [], []⟩),
  (18, ⟨[1, 3, 8, 9, 10, 54, 55, 71], [1], [], [], 0, [1, 3, 8, 9, 10, 54, 55], [1]⟩),
  (19, ⟨[1, 3, 8, 9, 10, 54, 55], [1], [], [], 0, [], []⟩),
  (20, ⟨[1, 3, 8, 10, 54, 55, 76], [1], [], [], 0, [], []⟩),
  (21, ⟨[1, 3, 54, 55], [1], [0, 7, 8], [], 0, [], []⟩),
  (22, ⟨[1, 3, 54, 55], [1], [], [], 0, [], []⟩),
  (23, ⟨[1, 3, 87, 88, 89], [1], [], [], 0, [], []⟩),
  (24, ⟨[1, 3, 87, 88, 89, 90], [1], [], [], 0, [1, 3, 87, 88, 89], [1]⟩),
  (25, ⟨[1, 3, 12, 87, 88, 89], [1, 12], [3], [], 0, [], []⟩),
  (26, ⟨[1, 3, 87, 88, 89], [1], [0, 4, 5], [], 0, [], []⟩),
  (27, ⟨[1, 3, 87, 88, 89], [1], [], [], 0, [], []⟩),
  (28, ⟨[3], [], [], [], 0, [], []⟩),
  (29, ⟨[2], [], [0, 2], [], 0, [], []⟩)]
noncomputable def audit_Check.cx (k : Nat) : Cx := ⟨tt, pp, [(101, (txn_Find.e k)),
  (102, (audit_covers.e k)),
  (103, (slices_SortFunc_audit_Finding_audit_Finding_104.e k)),
  (104, (audit_compare.e k)),
  (105, (slices_Compact_audit_Finding_audit_Finding.e k))], audit_Check.regs, k⟩
@[reducible] def audit_Check.sg : Sg := ⟨[.dat tState], [], .dat (.slc tFinding), []⟩
noncomputable def audit_Check.f (k : Nat) (a0 : Ty.D tState) : Option (Sg.Out audit_Check.sg) := Sg.fn audit_Check.sg (audit_Check.cx k) audit_Check.body audit_Check.rs a0
noncomputable def audit_Check.e (k : Nat) : Entry := Sg.entry audit_Check.sg fun x => audit_Check.f k x
set_option maxRecDepth 100000 in
theorem audit_Check.ok (k : Nat) : CallOK Try.prog 56 (audit_Check.e k) :=
  fn_ok (c := audit_Check.cx k) (code := audit_Check.body) (TT.of tt_ok pp_ok) (fns_ok ⟨(txn_Find.ok k), (audit_covers.ok k), (slices_SortFunc_audit_Finding_audit_Finding_104.ok k), (audit_compare.ok k), (slices_Compact_audit_Finding_audit_Finding.ok k), trivial⟩) mixed Try.func56 (by kernel_rfl) (by kernel_rfl) (by kernel_rfl) (by kernel_rfl) (by kernel_rfl) (by kernel_rfl) (fun x => by kernel_rfl)
noncomputable def slices_Equal_string_string.body : Go.Code := Try.f106.body.getD .skip
noncomputable def slices_Equal_string_string.rs : List Go.ResultVar := Try.f106.results.toList
def slices_Equal_string_string.regs : List (Nat × RInfo) := [(0, ⟨[0, 1], [], [], [], 0, [], []⟩),
  (1, ⟨[0, 1, 10], [], [], [], 0, [], []⟩),
  (2, ⟨[4], [], [], [], 0, [], []⟩),
  (3, ⟨[0, 1, 12, 13], [], [], [], 0, [], []⟩),
  (4, ⟨[0, 1, 12, 13, 14], [], [], [], 0, [0, 1, 12, 13], []⟩),
  (5, ⟨[0, 1, 5, 12, 13], [], [], [], 0, [], []⟩),
  (6, ⟨[0, 1, 12, 13, 24], [], [], [], 9, [], []⟩),
  (7, ⟨[4], [], [], [], 0, [], []⟩),
  (8, ⟨[0, 1, 12, 13], [], [], [], 0, [], []⟩),
  (9, ⟨[4], [], [], [], 0, [], []⟩)]
noncomputable def slices_Equal_string_string.cx (k : Nat) : Cx := ⟨tt, pp, [], slices_Equal_string_string.regs, k⟩
@[reducible] def slices_Equal_string_string.sg : Sg := ⟨[.dat (.slc .str), .dat (.slc .str)], [], .dat .bool, []⟩
noncomputable def slices_Equal_string_string.f (k : Nat) (a0 : Ty.D (.slc .str)) (a1 : Ty.D (.slc .str)) : Option (Sg.Out slices_Equal_string_string.sg) := Sg.fn slices_Equal_string_string.sg (slices_Equal_string_string.cx k) slices_Equal_string_string.body slices_Equal_string_string.rs (a0, a1)
noncomputable def slices_Equal_string_string.l4 (k : Nat) (n : Nat) (x0 : Ty.D (.slc .str)) (x1 : Ty.D (.slc .str)) (x12 : Ty.D (.int .i64)) (x13 : Ty.D (.int .i64)) : Option (Sg.Out slices_Equal_string_string.sg) := loopAt (slices_Equal_string_string.cx k) slices_Equal_string_string.body [1, 1, 0, 1, 0] 4 [0, 1, 12, 13] [] [] (Sg.K slices_Equal_string_string.sg (slices_Equal_string_string.cx k) slices_Equal_string_string.rs) n ⟨[(0, .dat (.slc .str) x0), (1, .dat (.slc .str) x1), (12, .dat (.int .i64) x12), (13, .dat (.int .i64) x13)], []⟩
set_option maxRecDepth 100000 in
theorem slices_Equal_string_string.f_eq (k : Nat) (a0 : Ty.D (.slc .str)) (a1 : Ty.D (.slc .str)) : slices_Equal_string_string.f k a0 a1 =
  br (bnot (ieq (ilen a0) (ilen a1)))
    (some false)
    (slices_Equal_string_string.l4 k k a0 a1 (ilen a0) 0) := by kernel_rfl
set_option maxRecDepth 100000 in
theorem slices_Equal_string_string.l4_eq (k : Nat) (n4 : Nat) (x0 : Ty.D (.slc .str)) (x1 : Ty.D (.slc .str)) (x12 : Ty.D (.int .i64)) (x13 : Ty.D (.int .i64)) : slices_Equal_string_string.l4 k (n4 + 1) x0 x1 x12 x13 =
  br (ilt x13 x12)
    (br (inL x13 x0)
      (br (inL x13 x1)
        (br (bnot (seq (rd .str x0 (natOf x13)) (rd .str x1 (natOf x13))))
          (some false)
          (slices_Equal_string_string.l4 k n4 x0 x1 x12 (iadd .i64 x13 1)))
        (none))
      (none))
    (some true) := by kernel_rfl
noncomputable def slices_Equal_string_string.e (k : Nat) : Entry := Sg.entry slices_Equal_string_string.sg fun x => slices_Equal_string_string.f k x.1 x.2
set_option maxRecDepth 100000 in
theorem slices_Equal_string_string.ok (k : Nat) : CallOK Try.prog 106 (slices_Equal_string_string.e k) :=
  fn_ok (c := slices_Equal_string_string.cx k) (code := slices_Equal_string_string.body) (TT.of tt_ok pp_ok) (fns_ok trivial) mixed Try.func106 (by kernel_rfl) (by kernel_rfl) (by kernel_rfl) (by kernel_rfl) (by kernel_rfl) (by kernel_rfl) (fun x => by kernel_rfl)
noncomputable def slices_Equal_api_Ref_api_Ref.body : Go.Code := Try.f107.body.getD .skip
noncomputable def slices_Equal_api_Ref_api_Ref.rs : List Go.ResultVar := Try.f107.results.toList
def slices_Equal_api_Ref_api_Ref.regs : List (Nat × RInfo) := [(0, ⟨[0, 1], [], [], [], 0, [], []⟩),
  (1, ⟨[0, 1, 10], [], [], [], 0, [], []⟩),
  (2, ⟨[4], [], [], [], 0, [], []⟩),
  (3, ⟨[0, 1, 12, 13], [], [], [], 0, [], []⟩),
  (4, ⟨[0, 1, 12, 13, 14], [], [], [], 0, [0, 1, 12, 13], []⟩),
  (5, ⟨[0, 1, 5, 12, 13], [], [], [], 0, [], []⟩),
  (6, ⟨[0, 1, 12, 13, 24], [], [], [], 9, [], []⟩),
  (7, ⟨[4], [], [], [], 0, [], []⟩),
  (8, ⟨[0, 1, 12, 13], [], [], [], 0, [], []⟩),
  (9, ⟨[4], [], [], [], 0, [], []⟩)]
noncomputable def slices_Equal_api_Ref_api_Ref.cx (k : Nat) : Cx := ⟨tt, pp, [], slices_Equal_api_Ref_api_Ref.regs, k⟩
@[reducible] def slices_Equal_api_Ref_api_Ref.sg : Sg := ⟨[.dat (.slc tUndo), .dat (.slc tUndo)], [], .dat .bool, []⟩
noncomputable def slices_Equal_api_Ref_api_Ref.f (k : Nat) (a0 : Ty.D (.slc tUndo)) (a1 : Ty.D (.slc tUndo)) : Option (Sg.Out slices_Equal_api_Ref_api_Ref.sg) := Sg.fn slices_Equal_api_Ref_api_Ref.sg (slices_Equal_api_Ref_api_Ref.cx k) slices_Equal_api_Ref_api_Ref.body slices_Equal_api_Ref_api_Ref.rs (a0, a1)
noncomputable def slices_Equal_api_Ref_api_Ref.l4 (k : Nat) (n : Nat) (x0 : Ty.D (.slc tUndo)) (x1 : Ty.D (.slc tUndo)) (x12 : Ty.D (.int .i64)) (x13 : Ty.D (.int .i64)) : Option (Sg.Out slices_Equal_api_Ref_api_Ref.sg) := loopAt (slices_Equal_api_Ref_api_Ref.cx k) slices_Equal_api_Ref_api_Ref.body [1, 1, 0, 1, 0] 4 [0, 1, 12, 13] [] [] (Sg.K slices_Equal_api_Ref_api_Ref.sg (slices_Equal_api_Ref_api_Ref.cx k) slices_Equal_api_Ref_api_Ref.rs) n ⟨[(0, .dat (.slc tUndo) x0), (1, .dat (.slc tUndo) x1), (12, .dat (.int .i64) x12), (13, .dat (.int .i64) x13)], []⟩
set_option maxRecDepth 100000 in
theorem slices_Equal_api_Ref_api_Ref.f_eq (k : Nat) (a0 : Ty.D (.slc tUndo)) (a1 : Ty.D (.slc tUndo)) : slices_Equal_api_Ref_api_Ref.f k a0 a1 =
  br (bnot (ieq (ilen a0) (ilen a1)))
    (some false)
    (slices_Equal_api_Ref_api_Ref.l4 k k a0 a1 (ilen a0) 0) := by kernel_rfl
set_option maxRecDepth 100000 in
theorem slices_Equal_api_Ref_api_Ref.l4_eq (k : Nat) (n4 : Nat) (x0 : Ty.D (.slc tUndo)) (x1 : Ty.D (.slc tUndo)) (x12 : Ty.D (.int .i64)) (x13 : Ty.D (.int .i64)) : slices_Equal_api_Ref_api_Ref.l4 k (n4 + 1) x0 x1 x12 x13 =
  br (ilt x13 x12)
    (br (inL x13 x0)
      (br (inL x13 x1)
        (br (bnot (deq tUndo (rd tUndo x0 (natOf x13)) (rd tUndo x1 (natOf x13))))
          (some false)
          (slices_Equal_api_Ref_api_Ref.l4 k n4 x0 x1 x12 (iadd .i64 x13 1)))
        (none))
      (none))
    (some true) := by kernel_rfl
noncomputable def slices_Equal_api_Ref_api_Ref.e (k : Nat) : Entry := Sg.entry slices_Equal_api_Ref_api_Ref.sg fun x => slices_Equal_api_Ref_api_Ref.f k x.1 x.2
set_option maxRecDepth 100000 in
theorem slices_Equal_api_Ref_api_Ref.ok (k : Nat) : CallOK Try.prog 107 (slices_Equal_api_Ref_api_Ref.e k) :=
  fn_ok (c := slices_Equal_api_Ref_api_Ref.cx k) (code := slices_Equal_api_Ref_api_Ref.body) (TT.of tt_ok pp_ok) (fns_ok trivial) mixed Try.func107 (by kernel_rfl) (by kernel_rfl) (by kernel_rfl) (by kernel_rfl) (by kernel_rfl) (by kernel_rfl) (fun x => by kernel_rfl)
noncomputable def op_Same.body : Go.Code := Try.f57.body.getD .skip
noncomputable def op_Same.rs : List Go.ResultVar := Try.f57.results.toList
def op_Same.regs : List (Nat × RInfo) := [(0, ⟨[2, 3], [2, 3], [0, 1], [], 0, [], []⟩),
  (1, ⟨[4], [], [], [], 0, [], []⟩)]
noncomputable def op_Same.cx (k : Nat) : Cx := ⟨tt, pp, [(106, (slices_Equal_string_string.e k)),
  (107, (slices_Equal_api_Ref_api_Ref.e k))], op_Same.regs, k⟩
@[reducible] def op_Same.sg : Sg := ⟨[.dat tOp, .dat tOp], [], .dat .bool, []⟩
noncomputable def op_Same.f (k : Nat) (a0 : Ty.D tOp) (a1 : Ty.D tOp) : Option (Sg.Out op_Same.sg) := Sg.fn op_Same.sg (op_Same.cx k) op_Same.body op_Same.rs (a0, a1)
set_option maxRecDepth 100000 in
theorem op_Same.f_eq (k : Nat) (a0 : Ty.D tOp) (a1 : Ty.D tOp) : op_Same.f k a0 a1 =
  br (ieq a0.1 a1.1)
    (br (deq tValue a0.2.2.1 a1.2.2.1)
      (br (ieq a0.2.2.2.1 a1.2.2.2.1)
        (bnd (slices_Equal_string_string.f k a0.2.1 a1.2.1) fun r0 =>
        br r0
          (bnd (slices_Equal_api_Ref_api_Ref.f k a0.2.2.2.2 a1.2.2.2.2) fun r1 =>
          some r1)
          (some false))
        (some false))
      (some false))
    (some false) := by kernel_rfl
noncomputable def op_Same.e (k : Nat) : Entry := Sg.entry op_Same.sg fun x => op_Same.f k x.1 x.2
set_option maxRecDepth 100000 in
theorem op_Same.ok (k : Nat) : CallOK Try.prog 57 (op_Same.e k) :=
  fn_ok (c := op_Same.cx k) (code := op_Same.body) (TT.of tt_ok pp_ok) (fns_ok ⟨(slices_Equal_string_string.ok k), (slices_Equal_api_Ref_api_Ref.ok k), trivial⟩) mixed Try.func57 (by kernel_rfl) (by kernel_rfl) (by kernel_rfl) (by kernel_rfl) (by kernel_rfl) (by kernel_rfl) (fun x => by kernel_rfl)
noncomputable def op_Gone.body : Go.Code := Try.f58.body.getD .skip
noncomputable def op_Gone.rs : List Go.ResultVar := Try.f58.results.toList
def op_Gone.regs : List (Nat × RInfo) := [(0, ⟨[1], [1], [0], [], 0, [], []⟩),
  (1, ⟨[2], [], [], [], 0, [], []⟩)]
noncomputable def op_Gone.cx (k : Nat) : Cx := ⟨tt, pp, [], op_Gone.regs, k⟩
@[reducible] def op_Gone.sg : Sg := ⟨[.dat tOp], [], .dat .bool, []⟩
noncomputable def op_Gone.f (k : Nat) (a0 : Ty.D tOp) : Option (Sg.Out op_Gone.sg) := Sg.fn op_Gone.sg (op_Gone.cx k) op_Gone.body op_Gone.rs a0
set_option maxRecDepth 100000 in
theorem op_Gone.f_eq (k : Nat) (a0 : Ty.D tOp) : op_Gone.f k a0 =
  br (ieq a0.1 0)
    (br (ieq (ilen a0.2.1) 0)
      (br (deq tValue a0.2.2.1 (0, (0, [])))
        (br (ieq a0.2.2.2.1 0)
          (some (ieq (ilen a0.2.2.2.2) 0))
          (some false))
        (some false))
      (some false))
    (some false) := by kernel_rfl
noncomputable def op_Gone.e (k : Nat) : Entry := Sg.entry op_Gone.sg fun x => op_Gone.f k x
set_option maxRecDepth 100000 in
theorem op_Gone.ok (k : Nat) : CallOK Try.prog 58 (op_Gone.e k) :=
  fn_ok (c := op_Gone.cx k) (code := op_Gone.body) (TT.of tt_ok pp_ok) (fns_ok trivial) mixed Try.func58 (by kernel_rfl) (by kernel_rfl) (by kernel_rfl) (by kernel_rfl) (by kernel_rfl) (by kernel_rfl) (fun x => by kernel_rfl)
noncomputable def audit_Like.body : Go.Code := Try.f13.body.getD .skip
noncomputable def audit_Like.rs : List Go.ResultVar := Try.f13.results.toList
def audit_Like.regs : List (Nat × RInfo) := [(0, ⟨[2, 3], [2, 3], [0, 1], [], 0, [], []⟩),
  (1, ⟨[2, 3, 35], [2, 3], [], [], 0, [], []⟩),
  (2, ⟨[4], [], [], [], 0, [], []⟩),
  (3, ⟨[2, 3, 37, 38, 39], [2, 3], [], [], 0, [], []⟩),
  (4, ⟨[2, 3, 37, 38, 39, 40], [2, 3], [], [], 0, [2, 3, 37, 38, 39], [2, 3]⟩),
  (5, ⟨[2, 3, 5, 6, 37, 38, 39], [2, 3, 6], [5], [], 0, [], []⟩),
  (6, ⟨[2, 3, 6, 7, 37, 38, 39], [2, 3, 6, 7], [6], [], 0, [], []⟩),
  (7, ⟨[2, 3, 37, 38, 39, 70], [2, 3], [], [], 0, [], []⟩),
  (8, ⟨[4], [], [], [], 0, [], []⟩),
  (9, ⟨[2, 3, 37, 38, 39], [2, 3], [], [], 0, [], []⟩),
  (10, ⟨[4], [], [], [], 0, [], []⟩)]
noncomputable def audit_Like.cx (k : Nat) : Cx := ⟨tt, pp, [(57, (op_Same.e k)),
  (58, (op_Gone.e k))], audit_Like.regs, k⟩
@[reducible] def audit_Like.sg : Sg := ⟨[.dat tTxn, .dat tTxn], [], .dat .bool, []⟩
noncomputable def audit_Like.f (k : Nat) (a0 : Ty.D tTxn) (a1 : Ty.D tTxn) : Option (Sg.Out audit_Like.sg) := Sg.fn audit_Like.sg (audit_Like.cx k) audit_Like.body audit_Like.rs (a0, a1)
noncomputable def audit_Like.l4 (k : Nat) (n : Nat) (x37 : Ty.D (.slc tOp)) (x38 : Ty.D (.int .i64)) (x39 : Ty.D (.int .i64)) (m2 : Ty.D tTxn) (m3 : Ty.D tTxn) : Option (Sg.Out audit_Like.sg) := loopAt (audit_Like.cx k) audit_Like.body [1, 1, 0, 1, 0] 4 [2, 3, 37, 38, 39] [2, 3] [] (Sg.K audit_Like.sg (audit_Like.cx k) audit_Like.rs) n ⟨[(2, .ref 2 []), (3, .ref 3 []), (37, .dat (.slc tOp) x37), (38, .dat (.int .i64) x38), (39, .dat (.int .i64) x39)], [(2, .dat tTxn m2), (3, .dat tTxn m3)]⟩
set_option maxRecDepth 100000 in
theorem audit_Like.f_eq (k : Nat) (a0 : Ty.D tTxn) (a1 : Ty.D tTxn) : audit_Like.f k a0 a1 =
  br (bnot (deq tDot a0.1 a1.1))
    (some false)
    (br (bnot (ieq a0.2.1 a1.2.1))
      (some false)
      (br (bnot (ieq a0.2.2.1 a1.2.2.1))
        (some false)
        (br (bnot (ieq (ilen a0.2.2.2.2) (ilen a1.2.2.2.2)))
          (some false)
          (audit_Like.l4 k k a0.2.2.2.2 (ilen a0.2.2.2.2) 0 a0 a1)))) := by kernel_rfl
set_option maxRecDepth 100000 in
theorem audit_Like.l4_eq (k : Nat) (n4 : Nat) (x37 : Ty.D (.slc tOp)) (x38 : Ty.D (.int .i64)) (x39 : Ty.D (.int .i64)) (m2 : Ty.D tTxn) (m3 : Ty.D tTxn) : audit_Like.l4 k (n4 + 1) x37 x38 x39 m2 m3 =
  br (ilt x39 x38)
    (br (inL x39 x37)
      (br (inL x39 m3.2.2.2.2)
        (bnd (op_Same.f k (rd tOp x37 (natOf x39)) (rd tOp m3.2.2.2.2 (natOf x39))) fun r0 =>
        br (bnot r0)
          (br m2.2.2.2.1
            (bnd (op_Gone.f k (rd tOp x37 (natOf x39))) fun r1 =>
            br (bnot r1)
              (br m3.2.2.2.1
                (bnd (op_Gone.f k (rd tOp m3.2.2.2.2 (natOf x39))) fun r2 =>
                br (bnot r2)
                  (some false)
                  (audit_Like.l4 k n4 x37 x38 (iadd .i64 x39 1) m2 m3))
                (br (bnot false)
                  (some false)
                  (audit_Like.l4 k n4 x37 x38 (iadd .i64 x39 1) m2 m3)))
              (audit_Like.l4 k n4 x37 x38 (iadd .i64 x39 1) m2 m3))
            (br (bnot false)
              (br m3.2.2.2.1
                (bnd (op_Gone.f k (rd tOp m3.2.2.2.2 (natOf x39))) fun r3 =>
                br (bnot r3)
                  (some false)
                  (audit_Like.l4 k n4 x37 x38 (iadd .i64 x39 1) m2 m3))
                (br (bnot false)
                  (some false)
                  (audit_Like.l4 k n4 x37 x38 (iadd .i64 x39 1) m2 m3)))
              (audit_Like.l4 k n4 x37 x38 (iadd .i64 x39 1) m2 m3)))
          (audit_Like.l4 k n4 x37 x38 (iadd .i64 x39 1) m2 m3))
        (none))
      (none))
    (some true) := by kernel_rfl
noncomputable def audit_Like.e (k : Nat) : Entry := Sg.entry audit_Like.sg fun x => audit_Like.f k x.1 x.2
set_option maxRecDepth 100000 in
theorem audit_Like.ok (k : Nat) : CallOK Try.prog 13 (audit_Like.e k) :=
  fn_ok (c := audit_Like.cx k) (code := audit_Like.body) (TT.of tt_ok pp_ok) (fns_ok ⟨(op_Same.ok k), (op_Gone.ok k), trivial⟩) mixed Try.func13 (by kernel_rfl) (by kernel_rfl) (by kernel_rfl) (by kernel_rfl) (by kernel_rfl) (by kernel_rfl) (fun x => by kernel_rfl)
noncomputable def law42_awake.body : Go.Code := Try.f12.body.getD .skip
noncomputable def law42_awake.rs : List Go.ResultVar := Try.f12.results.toList
def law42_awake.regs : List (Nat × RInfo) := [(0, ⟨[], [], [], [], 0, [], []⟩),
  (1, ⟨[1], [], [5], [], 0, [], []⟩),
  (2, ⟨[0], [], [4], [], 0, [], []⟩)]
noncomputable def law42_awake.cx (k : Nat) : Cx := ⟨tt, pp, [(56, (audit_Check.e k)),
  (13, (audit_Like.e k))], law42_awake.regs, k⟩
@[reducible] def law42_awake.sg : Sg := ⟨[], [], .dat .bool, []⟩
noncomputable def law42_awake.f (k : Nat) : Option (Sg.Out law42_awake.sg) := Sg.fn law42_awake.sg (law42_awake.cx k) law42_awake.body law42_awake.rs ()
noncomputable def law42_awake.e (k : Nat) : Entry := Sg.entry law42_awake.sg fun x => law42_awake.f k
set_option maxRecDepth 100000 in
theorem law42_awake.ok (k : Nat) : CallOK Try.prog 12 (law42_awake.e k) :=
  fn_ok (c := law42_awake.cx k) (code := law42_awake.body) (TT.of tt_ok pp_ok) (fns_ok ⟨(audit_Check.ok k), (audit_Like.ok k), trivial⟩) mixed Try.func12 (by kernel_rfl) (by kernel_rfl) (by kernel_rfl) (by kernel_rfl) (by kernel_rfl) (by kernel_rfl) (fun x => by kernel_rfl)
noncomputable def ref11_Gone.body : Go.Code := Try.f59.body.getD .skip
noncomputable def ref11_Gone.rs : List Go.ResultVar := Try.f59.results.toList
def ref11_Gone.regs : List (Nat × RInfo) := [(0, ⟨[1], [1], [0], [], 0, [], []⟩),
  (1, ⟨[1, 3], [1, 3], [], [], 0, [], []⟩),
  (2, ⟨[2], [], [], [], 0, [], []⟩)]
noncomputable def ref11_Gone.cx (k : Nat) : Cx := ⟨tt, pp, [], ref11_Gone.regs, k⟩
@[reducible] def ref11_Gone.sg : Sg := ⟨[.dat tOp], [], .dat .bool, []⟩
noncomputable def ref11_Gone.f (k : Nat) (a0 : Ty.D tOp) : Option (Sg.Out ref11_Gone.sg) := Sg.fn ref11_Gone.sg (ref11_Gone.cx k) ref11_Gone.body ref11_Gone.rs a0
set_option maxRecDepth 100000 in
theorem ref11_Gone.f_eq (k : Nat) (a0 : Ty.D tOp) : ref11_Gone.f k a0 =
  br (ieq a0.1 0)
    (br (ieq (ilen a0.2.1) 0)
      (br (deq tValue a0.2.2.1 (0, (0, [])))
        (br (ieq a0.2.2.2.1 0)
          (some (ieq (ilen a0.2.2.2.2) 0))
          (some false))
        (some false))
      (some false))
    (some false) := by kernel_rfl
noncomputable def ref11_Gone.e (k : Nat) : Entry := Sg.entry ref11_Gone.sg fun x => ref11_Gone.f k x
set_option maxRecDepth 100000 in
theorem ref11_Gone.ok (k : Nat) : CallOK Try.prog 59 (ref11_Gone.e k) :=
  fn_ok (c := ref11_Gone.cx k) (code := ref11_Gone.body) (TT.of tt_ok pp_ok) (fns_ok trivial) mixed Try.func59 (by kernel_rfl) (by kernel_rfl) (by kernel_rfl) (by kernel_rfl) (by kernel_rfl) (by kernel_rfl) (fun x => by kernel_rfl)
noncomputable def ref03_Same.body : Go.Code := Try.f108.body.getD .skip
noncomputable def ref03_Same.rs : List Go.ResultVar := Try.f108.results.toList
def ref03_Same.regs : List (Nat × RInfo) := [(0, ⟨[0, 1], [], [], [], 0, [], []⟩),
  (1, ⟨[0, 1, 10], [], [], [], 0, [], []⟩),
  (2, ⟨[4], [], [], [], 0, [], []⟩),
  (3, ⟨[0, 1, 5], [], [], [], 0, [], []⟩),
  (4, ⟨[0, 1, 5, 14], [], [], [], 0, [0, 1, 5], []⟩),
  (6, ⟨[0, 1, 5, 25], [], [], [], 9, [], []⟩),
  (7, ⟨[4], [], [], [], 0, [], []⟩),
  (5, ⟨[0, 1, 5], [], [], [], 0, [], []⟩),
  (8, ⟨[4], [], [], [], 0, [], []⟩)]
noncomputable def ref03_Same.cx (k : Nat) : Cx := ⟨tt, pp, [], ref03_Same.regs, k⟩
@[reducible] def ref03_Same.sg : Sg := ⟨[.dat (.slc .str), .dat (.slc .str)], [], .dat .bool, []⟩
noncomputable def ref03_Same.f (k : Nat) (a0 : Ty.D (.slc .str)) (a1 : Ty.D (.slc .str)) : Option (Sg.Out ref03_Same.sg) := Sg.fn ref03_Same.sg (ref03_Same.cx k) ref03_Same.body ref03_Same.rs (a0, a1)
noncomputable def ref03_Same.l4 (k : Nat) (n : Nat) (x0 : Ty.D (.slc .str)) (x1 : Ty.D (.slc .str)) (x5 : Ty.D (.int .i64)) : Option (Sg.Out ref03_Same.sg) := loopAt (ref03_Same.cx k) ref03_Same.body [1, 1, 0, 1, 0] 4 [0, 1, 5] [] [] (Sg.K ref03_Same.sg (ref03_Same.cx k) ref03_Same.rs) n ⟨[(0, .dat (.slc .str) x0), (1, .dat (.slc .str) x1), (5, .dat (.int .i64) x5)], []⟩
set_option maxRecDepth 100000 in
theorem ref03_Same.f_eq (k : Nat) (a0 : Ty.D (.slc .str)) (a1 : Ty.D (.slc .str)) : ref03_Same.f k a0 a1 =
  br (bnot (ieq (ilen a0) (ilen a1)))
    (some false)
    (ref03_Same.l4 k k a0 a1 0) := by kernel_rfl
set_option maxRecDepth 100000 in
theorem ref03_Same.l4_eq (k : Nat) (n4 : Nat) (x0 : Ty.D (.slc .str)) (x1 : Ty.D (.slc .str)) (x5 : Ty.D (.int .i64)) : ref03_Same.l4 k (n4 + 1) x0 x1 x5 =
  br (ilt x5 (ilen x0))
    (br (inL x5 x0)
      (br (inL x5 x1)
        (br (bnot (seq (rd .str x0 (natOf x5)) (rd .str x1 (natOf x5))))
          (some false)
          (ref03_Same.l4 k n4 x0 x1 (iadd .i64 x5 1)))
        (none))
      (none))
    (some true) := by kernel_rfl
noncomputable def ref03_Same.e (k : Nat) : Entry := Sg.entry ref03_Same.sg fun x => ref03_Same.f k x.1 x.2
set_option maxRecDepth 100000 in
theorem ref03_Same.ok (k : Nat) : CallOK Try.prog 108 (ref03_Same.e k) :=
  fn_ok (c := ref03_Same.cx k) (code := ref03_Same.body) (TT.of tt_ok pp_ok) (fns_ok trivial) mixed Try.func108 (by kernel_rfl) (by kernel_rfl) (by kernel_rfl) (by kernel_rfl) (by kernel_rfl) (by kernel_rfl) (fun x => by kernel_rfl)
noncomputable def ref11_Same.body : Go.Code := Try.f60.body.getD .skip
noncomputable def ref11_Same.rs : List Go.ResultVar := Try.f60.results.toList
def ref11_Same.regs : List (Nat × RInfo) := [(0, ⟨[2, 3], [2, 3], [0, 1], [], 0, [], []⟩),
  (1, ⟨[2, 3, 41], [2, 3], [], [], 0, [], []⟩),
  (2, ⟨[4], [], [], [], 0, [], []⟩),
  (3, ⟨[2, 3, 5], [2, 3], [], [], 0, [], []⟩),
  (4, ⟨[2, 3, 5, 46], [2, 3], [], [], 0, [2, 3, 5], [2, 3]⟩),
  (6, ⟨[2, 3, 5, 59], [2, 3], [], [], 11, [], []⟩),
  (7, ⟨[4], [], [], [], 0, [], []⟩),
  (5, ⟨[2, 3, 5], [2, 3], [], [], 0, [], []⟩),
  (8, ⟨[4], [], [], [], 0, [], []⟩)]
noncomputable def ref11_Same.cx (k : Nat) : Cx := ⟨tt, pp, [(108, (ref03_Same.e k))], ref11_Same.regs, k⟩
@[reducible] def ref11_Same.sg : Sg := ⟨[.dat tOp, .dat tOp], [], .dat .bool, []⟩
noncomputable def ref11_Same.f (k : Nat) (a0 : Ty.D tOp) (a1 : Ty.D tOp) : Option (Sg.Out ref11_Same.sg) := Sg.fn ref11_Same.sg (ref11_Same.cx k) ref11_Same.body ref11_Same.rs (a0, a1)
noncomputable def ref11_Same.l4 (k : Nat) (n : Nat) (x5 : Ty.D (.int .i64)) (m2 : Ty.D tOp) (m3 : Ty.D tOp) : Option (Sg.Out ref11_Same.sg) := loopAt (ref11_Same.cx k) ref11_Same.body [1, 1, 0, 1, 0] 4 [2, 3, 5] [2, 3] [] (Sg.K ref11_Same.sg (ref11_Same.cx k) ref11_Same.rs) n ⟨[(2, .ref 2 []), (3, .ref 3 []), (5, .dat (.int .i64) x5)], [(2, .dat tOp m2), (3, .dat tOp m3)]⟩
set_option maxRecDepth 100000 in
theorem ref11_Same.f_eq (k : Nat) (a0 : Ty.D tOp) (a1 : Ty.D tOp) : ref11_Same.f k a0 a1 =
  br (bnot (ieq a0.1 a1.1))
    (some false)
    (br (bnot (deq tValue a0.2.2.1 a1.2.2.1))
      (some false)
      (br (bnot (ieq a0.2.2.2.1 a1.2.2.2.1))
        (some false)
        (bnd (ref03_Same.f k a0.2.1 a1.2.1) fun r0 =>
        br (bnot r0)
          (some false)
          (br (bnot (ieq (ilen a0.2.2.2.2) (ilen a1.2.2.2.2)))
            (some false)
            (ref11_Same.l4 k k 0 a0 a1))))) := by kernel_rfl
set_option maxRecDepth 100000 in
theorem ref11_Same.l4_eq (k : Nat) (n4 : Nat) (x5 : Ty.D (.int .i64)) (m2 : Ty.D tOp) (m3 : Ty.D tOp) : ref11_Same.l4 k (n4 + 1) x5 m2 m3 =
  br (ilt x5 (ilen m2.2.2.2.2))
    (br (inL x5 m2.2.2.2.2)
      (br (inL x5 m3.2.2.2.2)
        (br (bnot (deq tUndo (rd tUndo m2.2.2.2.2 (natOf x5)) (rd tUndo m3.2.2.2.2 (natOf x5))))
          (some false)
          (ref11_Same.l4 k n4 (iadd .i64 x5 1) m2 m3))
        (none))
      (none))
    (some true) := by kernel_rfl
noncomputable def ref11_Same.e (k : Nat) : Entry := Sg.entry ref11_Same.sg fun x => ref11_Same.f k x.1 x.2
set_option maxRecDepth 100000 in
theorem ref11_Same.ok (k : Nat) : CallOK Try.prog 60 (ref11_Same.e k) :=
  fn_ok (c := ref11_Same.cx k) (code := ref11_Same.body) (TT.of tt_ok pp_ok) (fns_ok ⟨(ref03_Same.ok k), trivial⟩) mixed Try.func60 (by kernel_rfl) (by kernel_rfl) (by kernel_rfl) (by kernel_rfl) (by kernel_rfl) (by kernel_rfl) (fun x => by kernel_rfl)
noncomputable def ref42_Like.body : Go.Code := Try.f14.body.getD .skip
noncomputable def ref42_Like.rs : List Go.ResultVar := Try.f14.results.toList
def ref42_Like.regs : List (Nat × RInfo) := [(0, ⟨[2, 3], [2, 3], [0, 1], [], 0, [], []⟩),
  (1, ⟨[2, 3, 34], [2, 3], [], [], 0, [], []⟩),
  (2, ⟨[4], [], [], [], 0, [], []⟩),
  (3, ⟨[2, 3, 5], [2, 3], [], [], 0, [], []⟩),
  (4, ⟨[2, 3, 5, 39], [2, 3], [], [], 0, [2, 3, 5], [2, 3]⟩),
  (6, ⟨[2, 3, 5, 6], [2, 3], [], [], 0, [], []⟩),
  (7, ⟨[2, 3, 5, 79], [2, 3], [], [], 16, [], []⟩),
  (8, ⟨[4], [], [], [], 0, [], []⟩),
  (5, ⟨[2, 3, 5], [2, 3], [], [], 0, [], []⟩),
  (9, ⟨[4], [], [], [], 0, [], []⟩)]
noncomputable def ref42_Like.cx (k : Nat) : Cx := ⟨tt, pp, [(59, (ref11_Gone.e k)),
  (60, (ref11_Same.e k))], ref42_Like.regs, k⟩
@[reducible] def ref42_Like.sg : Sg := ⟨[.dat tTxn, .dat tTxn], [], .dat .bool, []⟩
noncomputable def ref42_Like.f (k : Nat) (a0 : Ty.D tTxn) (a1 : Ty.D tTxn) : Option (Sg.Out ref42_Like.sg) := Sg.fn ref42_Like.sg (ref42_Like.cx k) ref42_Like.body ref42_Like.rs (a0, a1)
noncomputable def ref42_Like.l4 (k : Nat) (n : Nat) (x5 : Ty.D (.int .i64)) (m2 : Ty.D tTxn) (m3 : Ty.D tTxn) : Option (Sg.Out ref42_Like.sg) := loopAt (ref42_Like.cx k) ref42_Like.body [1, 1, 0, 1, 0] 4 [2, 3, 5] [2, 3] [] (Sg.K ref42_Like.sg (ref42_Like.cx k) ref42_Like.rs) n ⟨[(2, .ref 2 []), (3, .ref 3 []), (5, .dat (.int .i64) x5)], [(2, .dat tTxn m2), (3, .dat tTxn m3)]⟩
set_option maxRecDepth 100000 in
theorem ref42_Like.f_eq (k : Nat) (a0 : Ty.D tTxn) (a1 : Ty.D tTxn) : ref42_Like.f k a0 a1 =
  br (bnot (deq tDot a0.1 a1.1))
    (some false)
    (br (bnot (ieq a0.2.1 a1.2.1))
      (some false)
      (br (bnot (ieq a0.2.2.1 a1.2.2.1))
        (some false)
        (br (bnot (ieq (ilen a0.2.2.2.2) (ilen a1.2.2.2.2)))
          (some false)
          (ref42_Like.l4 k k 0 a0 a1)))) := by kernel_rfl
set_option maxRecDepth 100000 in
theorem ref42_Like.l4_eq (k : Nat) (n4 : Nat) (x5 : Ty.D (.int .i64)) (m2 : Ty.D tTxn) (m3 : Ty.D tTxn) : ref42_Like.l4 k (n4 + 1) x5 m2 m3 =
  br (ilt x5 (ilen m2.2.2.2.2))
    (br m2.2.2.2.1
      (br (inL x5 m2.2.2.2.2)
        (bnd (ref11_Gone.f k (rd tOp m2.2.2.2.2 (natOf x5))) fun r0 =>
        br r0
          (br (bnot true)
            (br (inL x5 m2.2.2.2.2)
              (br (inL x5 m3.2.2.2.2)
                (bnd (ref11_Same.f k (rd tOp m2.2.2.2.2 (natOf x5)) (rd tOp m3.2.2.2.2 (natOf x5))) fun r1 =>
                br (bnot r1)
                  (some false)
                  (ref42_Like.l4 k n4 (iadd .i64 x5 1) m2 m3))
                (none))
              (none))
            (ref42_Like.l4 k n4 (iadd .i64 x5 1) m2 m3))
          (br m3.2.2.2.1
            (br (inL x5 m3.2.2.2.2)
              (bnd (ref11_Gone.f k (rd tOp m3.2.2.2.2 (natOf x5))) fun r2 =>
              br (bnot r2)
                (br (inL x5 m2.2.2.2.2)
                  (br (inL x5 m3.2.2.2.2)
                    (bnd (ref11_Same.f k (rd tOp m2.2.2.2.2 (natOf x5)) (rd tOp m3.2.2.2.2 (natOf x5))) fun r3 =>
                    br (bnot r3)
                      (some false)
                      (ref42_Like.l4 k n4 (iadd .i64 x5 1) m2 m3))
                    (none))
                  (none))
                (ref42_Like.l4 k n4 (iadd .i64 x5 1) m2 m3))
              (none))
            (br (bnot false)
              (br (inL x5 m2.2.2.2.2)
                (br (inL x5 m3.2.2.2.2)
                  (bnd (ref11_Same.f k (rd tOp m2.2.2.2.2 (natOf x5)) (rd tOp m3.2.2.2.2 (natOf x5))) fun r4 =>
                  br (bnot r4)
                    (some false)
                    (ref42_Like.l4 k n4 (iadd .i64 x5 1) m2 m3))
                  (none))
                (none))
              (ref42_Like.l4 k n4 (iadd .i64 x5 1) m2 m3))))
        (none))
      (br m3.2.2.2.1
        (br (inL x5 m3.2.2.2.2)
          (bnd (ref11_Gone.f k (rd tOp m3.2.2.2.2 (natOf x5))) fun r5 =>
          br (bnot r5)
            (br (inL x5 m2.2.2.2.2)
              (br (inL x5 m3.2.2.2.2)
                (bnd (ref11_Same.f k (rd tOp m2.2.2.2.2 (natOf x5)) (rd tOp m3.2.2.2.2 (natOf x5))) fun r6 =>
                br (bnot r6)
                  (some false)
                  (ref42_Like.l4 k n4 (iadd .i64 x5 1) m2 m3))
                (none))
              (none))
            (ref42_Like.l4 k n4 (iadd .i64 x5 1) m2 m3))
          (none))
        (br (bnot false)
          (br (inL x5 m2.2.2.2.2)
            (br (inL x5 m3.2.2.2.2)
              (bnd (ref11_Same.f k (rd tOp m2.2.2.2.2 (natOf x5)) (rd tOp m3.2.2.2.2 (natOf x5))) fun r7 =>
              br (bnot r7)
                (some false)
                (ref42_Like.l4 k n4 (iadd .i64 x5 1) m2 m3))
              (none))
            (none))
          (ref42_Like.l4 k n4 (iadd .i64 x5 1) m2 m3))))
    (some true) := by kernel_rfl
noncomputable def ref42_Like.e (k : Nat) : Entry := Sg.entry ref42_Like.sg fun x => ref42_Like.f k x.1 x.2
set_option maxRecDepth 100000 in
theorem ref42_Like.ok (k : Nat) : CallOK Try.prog 14 (ref42_Like.e k) :=
  fn_ok (c := ref42_Like.cx k) (code := ref42_Like.body) (TT.of tt_ok pp_ok) (fns_ok ⟨(ref11_Gone.ok k), (ref11_Same.ok k), trivial⟩) mixed Try.func14 (by kernel_rfl) (by kernel_rfl) (by kernel_rfl) (by kernel_rfl) (by kernel_rfl) (by kernel_rfl) (fun x => by kernel_rfl)
noncomputable def ref12_Same.body : Go.Code := Try.f15.body.getD .skip
noncomputable def ref12_Same.rs : List Go.ResultVar := Try.f15.results.toList
def ref12_Same.regs : List (Nat × RInfo) := [(0, ⟨[2, 3], [2, 3], [0, 1], [], 0, [], []⟩),
  (1, ⟨[2, 3, 40], [2, 3], [], [], 0, [], []⟩),
  (2, ⟨[4], [], [], [], 0, [], []⟩),
  (3, ⟨[2, 3, 5], [2, 3], [], [], 0, [], []⟩),
  (4, ⟨[2, 3, 5, 45], [2, 3], [], [], 0, [2, 3, 5], [2, 3]⟩),
  (6, ⟨[2, 3, 5, 59], [2, 3], [], [], 12, [], []⟩),
  (7, ⟨[4], [], [], [], 0, [], []⟩),
  (5, ⟨[2, 3, 5], [2, 3], [], [], 0, [], []⟩),
  (8, ⟨[4], [], [], [], 0, [], []⟩)]
noncomputable def ref12_Same.cx (k : Nat) : Cx := ⟨tt, pp, [(60, (ref11_Same.e k))], ref12_Same.regs, k⟩
@[reducible] def ref12_Same.sg : Sg := ⟨[.dat tTxn, .dat tTxn], [], .dat .bool, []⟩
noncomputable def ref12_Same.f (k : Nat) (a0 : Ty.D tTxn) (a1 : Ty.D tTxn) : Option (Sg.Out ref12_Same.sg) := Sg.fn ref12_Same.sg (ref12_Same.cx k) ref12_Same.body ref12_Same.rs (a0, a1)
noncomputable def ref12_Same.l4 (k : Nat) (n : Nat) (x5 : Ty.D (.int .i64)) (m2 : Ty.D tTxn) (m3 : Ty.D tTxn) : Option (Sg.Out ref12_Same.sg) := loopAt (ref12_Same.cx k) ref12_Same.body [1, 1, 0, 1, 0] 4 [2, 3, 5] [2, 3] [] (Sg.K ref12_Same.sg (ref12_Same.cx k) ref12_Same.rs) n ⟨[(2, .ref 2 []), (3, .ref 3 []), (5, .dat (.int .i64) x5)], [(2, .dat tTxn m2), (3, .dat tTxn m3)]⟩
set_option maxRecDepth 100000 in
theorem ref12_Same.f_eq (k : Nat) (a0 : Ty.D tTxn) (a1 : Ty.D tTxn) : ref12_Same.f k a0 a1 =
  br (bnot (deq tDot a0.1 a1.1))
    (some false)
    (br (bnot (ieq a0.2.1 a1.2.1))
      (some false)
      (br (bnot (ieq a0.2.2.1 a1.2.2.1))
        (some false)
        (br (bnot (deq .bool a0.2.2.2.1 a1.2.2.2.1))
          (some false)
          (br (bnot (ieq (ilen a0.2.2.2.2) (ilen a1.2.2.2.2)))
            (some false)
            (ref12_Same.l4 k k 0 a0 a1))))) := by kernel_rfl
set_option maxRecDepth 100000 in
theorem ref12_Same.l4_eq (k : Nat) (n4 : Nat) (x5 : Ty.D (.int .i64)) (m2 : Ty.D tTxn) (m3 : Ty.D tTxn) : ref12_Same.l4 k (n4 + 1) x5 m2 m3 =
  br (ilt x5 (ilen m2.2.2.2.2))
    (br (inL x5 m2.2.2.2.2)
      (br (inL x5 m3.2.2.2.2)
        (bnd (ref11_Same.f k (rd tOp m2.2.2.2.2 (natOf x5)) (rd tOp m3.2.2.2.2 (natOf x5))) fun r0 =>
        br (bnot r0)
          (some false)
          (ref12_Same.l4 k n4 (iadd .i64 x5 1) m2 m3))
        (none))
      (none))
    (some true) := by kernel_rfl
noncomputable def ref12_Same.e (k : Nat) : Entry := Sg.entry ref12_Same.sg fun x => ref12_Same.f k x.1 x.2
set_option maxRecDepth 100000 in
theorem ref12_Same.ok (k : Nat) : CallOK Try.prog 15 (ref12_Same.e k) :=
  fn_ok (c := ref12_Same.cx k) (code := ref12_Same.body) (TT.of tt_ok pp_ok) (fns_ok ⟨(ref11_Same.ok k), trivial⟩) mixed Try.func15 (by kernel_rfl) (by kernel_rfl) (by kernel_rfl) (by kernel_rfl) (by kernel_rfl) (by kernel_rfl) (fun x => by kernel_rfl)
noncomputable def law42_AuditLikes.body : Go.Code := Try.f3.body.getD .skip
noncomputable def law42_AuditLikes.rs : List Go.ResultVar := Try.f3.results.toList
def law42_AuditLikes.regs : List (Nat × RInfo) := [(0, ⟨[2, 3], [2, 3], [0, 1], [], 0, [], []⟩),
  (1, ⟨[2, 3, 13], [2, 3], [], [], 0, [], []⟩),
  (2, ⟨[4], [], [], [], 0, [], []⟩),
  (3, ⟨[2, 3, 5], [2, 3], [], [], 0, [], []⟩),
  (4, ⟨[4], [], [], [], 0, [], []⟩)]
noncomputable def law42_AuditLikes.cx (k : Nat) : Cx := ⟨tt, pp, [(11, (ref12_Short.e k)),
  (12, (law42_awake.e k)),
  (13, (audit_Like.e k)),
  (14, (ref42_Like.e k)),
  (15, (ref12_Same.e k))], law42_AuditLikes.regs, k⟩
@[reducible] def law42_AuditLikes.sg : Sg := ⟨[.dat tTxn, .dat tTxn], [], .dat .bool, []⟩
noncomputable def law42_AuditLikes.f (k : Nat) (a0 : Ty.D tTxn) (a1 : Ty.D tTxn) : Option (Sg.Out law42_AuditLikes.sg) := Sg.fn law42_AuditLikes.sg (law42_AuditLikes.cx k) law42_AuditLikes.body law42_AuditLikes.rs (a0, a1)
set_option maxRecDepth 100000 in
theorem law42_AuditLikes.f_eq (k : Nat) (a0 : Ty.D tTxn) (a1 : Ty.D tTxn) : law42_AuditLikes.f k a0 a1 =
  bnd (ref12_Short.f k a0) fun r0 =>
  br (bnot r0)
    (bnd (law42_awake.f k) fun r1 =>
    some r1)
    (bnd (ref12_Short.f k a1) fun r2 =>
    br (bnot r2)
      (bnd (law42_awake.f k) fun r3 =>
      some r3)
      (bnd (audit_Like.f k a0 a1) fun r4 =>
      bnd (ref42_Like.f k a0 a1) fun r5 =>
      br (deq .bool r4 r5)
        (bnd (audit_Like.f k a1 a0) fun r6 =>
        br (deq .bool r4 r6)
          (bnd (ref12_Same.f k a0 a1) fun r7 =>
          br (bnot r7)
            (bnd (audit_Like.f k a0 a0) fun r8 =>
            br r8
              (bnd (law42_awake.f k) fun r9 =>
              some r9)
              (some false))
            (br r4
              (bnd (audit_Like.f k a0 a0) fun r10 =>
              br r10
                (bnd (law42_awake.f k) fun r11 =>
                some r11)
                (some false))
              (some false)))
          (some false))
        (some false))) := by kernel_rfl
noncomputable def law42_AuditLikes.e (k : Nat) : Entry := Sg.entry law42_AuditLikes.sg fun x => law42_AuditLikes.f k x.1 x.2
set_option maxRecDepth 100000 in
theorem law42_AuditLikes.ok (k : Nat) : CallOK Try.prog 3 (law42_AuditLikes.e k) :=
  fn_ok (c := law42_AuditLikes.cx k) (code := law42_AuditLikes.body) (TT.of tt_ok pp_ok) (fns_ok ⟨(ref12_Short.ok k), (law42_awake.ok k), (audit_Like.ok k), (ref42_Like.ok k), (ref12_Same.ok k), trivial⟩) mixed Try.func3 (by kernel_rfl) (by kernel_rfl) (by kernel_rfl) (by kernel_rfl) (by kernel_rfl) (by kernel_rfl) (fun x => by kernel_rfl)
end Go.Proofs.Ytennedlpmacicaa
