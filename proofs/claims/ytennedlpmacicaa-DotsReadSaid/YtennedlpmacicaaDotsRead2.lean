/- The functions that the statement reaches, and what they come to. Part 2. -/
import Derived.Test.YtennedlpmacicaaFw1
import Derived.Test.YtennedlpmacicaaFw2
import Derived.Test.YtennedlpmacicaaFw3
import Derived.Test.YtennedlpmacicaaDotsRead1
section
/- The program's functions, as plain equations. -/
namespace Go.Proofs.Ytennedlpmacicaa
open Pal
noncomputable def dots_made.body : Go.Code := Try.f67.body.getD .skip
noncomputable def dots_made.rs : List Go.ResultVar := Try.f67.results.toList
def dots_made.regs : List (Nat × RInfo) := [(0, ⟨[1, 2, 4], [2, 4], [], [], 0, [], [], [], []⟩),
  (1, ⟨[1, 4, 5], [4, 5], [3], [], 0, [], [], [], []⟩),
  (2, ⟨[4, 5, 10, 11, 12], [4, 5], [], [], 0, [], [], [], []⟩),
  (3, ⟨[4, 5, 10, 11, 12, 13], [4, 5], [], [], 0, [4, 5, 10, 11, 12], [4, 5], [], []⟩),
  (4, ⟨[4, 5, 7, 10, 11, 12], [4, 5, 7], [], [], 0, [], [], [], []⟩),
  (5, ⟨[4, 5, 7, 10, 11, 12, 16], [4, 5, 7], [], [], 9, [], [], [], []⟩),
  (6, ⟨[4, 5, 7, 10, 11, 12, 25], [4, 5, 7], [], [], 10, [], [], [], []⟩),
  (7, ⟨[4, 5, 10, 11, 12], [4, 5], [], [], 0, [], [], [], []⟩),
  (8, ⟨[4, 5, 7, 10, 11, 12, 41], [4, 5, 7], [], [], 17, [], [], [], []⟩),
  (9, ⟨[4, 5, 10, 11, 12], [4, 5], [1, 4, 6], [], 0, [], [], [], []⟩),
  (10, ⟨[4, 5, 10, 11, 12], [4, 5], [], [], 0, [], [], [], []⟩),
  (11, ⟨[4], [4], [1], [], 0, [], [], [], []⟩)]
noncomputable def dots_made.cx (k : Nat) : Cx := ⟨tt, pp, [], dots_made.regs, k⟩
@[reducible] def dots_made.sg : Sg := ⟨[.dat tVec, .dat (.slc tDot)], [], .dat tDots, []⟩
noncomputable def dots_made.f (k : Nat) (a0 : Ty.D tVec) (a1 : Ty.D (.slc tDot)) : Option (Sg.Out dots_made.sg) := Sg.fn dots_made.sg (dots_made.cx k) dots_made.body dots_made.rs (a0, a1)
noncomputable def dots_made.l3 (k : Nat) (n : Nat) (x10 : Ty.D (.slc tDot)) (x11 : Ty.D (.int .i64)) (x12 : Ty.D (.int .i64)) (m4a : Ty.D tVec) (m4b : List (Ty.D tDot)) (m5a : Ty.D tVec) (m5b : List (Ty.D tDot)) : Option (Sg.Out dots_made.sg) := loopAt (dots_made.cx k) dots_made.body [1, 1, 0, 1, 0] 3 [4, 5, 10, 11, 12] [4, 5] [] (Sg.K dots_made.sg (dots_made.cx k) dots_made.rs) n ⟨[(4, .ref 4 []), (5, .ref 5 []), (10, .dat (.slc tDot) x10), (11, .dat (.int .i64) x11), (12, .dat (.int .i64) x12)], [(4, .pr (.dat tVec m4a) (.own tDot m4b)), (5, .pr (.dat tVec m5a) (.own tDot m5b))]⟩
set_option maxRecDepth 100000 in
theorem dots_made.f_eq (k : Nat) (a0 : Ty.D tVec) (a1 : Ty.D (.slc tDot)) : dots_made.f k a0 a1 =
  dots_made.l3 k k a1 (ilen a1) 0 (zarr 16 0) [] a0 [] := by kernel_rfl
set_option maxRecDepth 100000 in
theorem dots_made.l3_eq (k : Nat) (n3 : Nat) (x10 : Ty.D (.slc tDot)) (x11 : Ty.D (.int .i64)) (x12 : Ty.D (.int .i64)) (m4a : Ty.D tVec) (m4b : List (Ty.D tDot)) (m5a : Ty.D tVec) (m5b : List (Ty.D tDot)) : dots_made.l3 k (n3 + 1) x10 x11 x12 m4a m4b m5a m5b =
  br (ilt x12 x11)
    (br (inL x12 x10)
      (br (inB ((rd tDot x10 (natOf x12)).1) 16)
        (br (ile ((rd tDot x10 (natOf x12)).2) (rd (.int .i64) m5a (natOf ((rd tDot x10 (natOf x12)).1))))
          (dots_made.l3 k n3 x10 x11 (iadd .i64 x12 1) m4a m4b m5a m5b)
          (br (inB ((rd tDot x10 (natOf x12)).1) 16)
            (br (ieq ((rd tDot x10 (natOf x12)).2) (iadd .i64 (rd (.int .i64) m5a (natOf ((rd tDot x10 (natOf x12)).1))) 1))
              (br (inB ((rd tDot x10 (natOf x12)).1) 16)
                (dots_made.l3 k n3 x10 x11 (iadd .i64 x12 1) m4a m4b (upd m5a (natOf ((rd tDot x10 (natOf x12)).1)) ((rd tDot x10 (natOf x12)).2)) m5b)
                (none))
              (br (ieq (ilen m5b) 0)
                (br (room m5b ((rd tDot x10 (natOf x12)) :: []))
                  (dots_made.l3 k n3 x10 x11 (iadd .i64 x12 1) m4a m4b m5a (app m5b ((rd tDot x10 (natOf x12)) :: [])))
                  (none))
                (br (inL (isub .i64 (ilen m5b) 1) m5b)
                  (br (bnot (deq tDot (rd tDot m5b (natOf (isub .i64 (ilen m5b) 1))) (rd tDot x10 (natOf x12))))
                    (br (room m5b ((rd tDot x10 (natOf x12)) :: []))
                      (dots_made.l3 k n3 x10 x11 (iadd .i64 x12 1) m4a m4b m5a (app m5b ((rd tDot x10 (natOf x12)) :: [])))
                      (none))
                    (dots_made.l3 k n3 x10 x11 (iadd .i64 x12 1) m4a m4b m5a m5b))
                  (none))))
            (none)))
        (none))
      (none))
    (some (m5a, m5b)) := by kernel_rfl
noncomputable def dots_made.e (k : Nat) : Entry := Sg.entry dots_made.sg fun x => dots_made.f k x.1 x.2
set_option maxRecDepth 100000 in
theorem dots_made.ok (k : Nat) : CallOK Try.prog 67 (dots_made.e k) :=
  fn_ok (c := dots_made.cx k) (code := dots_made.body) (TT.of tt_ok pp_ok) (fns_ok trivial) mixed Try.func67 (by kernel_rfl) (by kernel_rfl) (by kernel_rfl) (by kernel_rfl) (by kernel_rfl) (by kernel_rfl) (fun x => by kernel_rfl)
noncomputable def dots_Of.body : Go.Code := Try.f18.body.getD .skip
noncomputable def dots_Of.rs : List Go.ResultVar := Try.f18.results.toList
def dots_Of.regs : List (Nat × RInfo) := [(0, ⟨[0, 2], [2, 5], [], [], 0, [], [], [], []⟩),
  (1, ⟨[0, 2], [2, 5], [2, 3], [], 0, [], [], [], []⟩),
  (2, ⟨[0, 2], [2, 5], [0, 1], [0], 0, [], [], [], []⟩),
  (3, ⟨[2], [2], [3], [], 0, [], [], [0, 2], []⟩)]
noncomputable def dots_Of.cx (k : Nat) : Cx := ⟨tt, pp, [(62, (cloneE tDot)),
  (61, (delE tDot 63 dotKeep)),
  (65, (sortE tDot 66 dotLt)),
  (67, (dots_made.e k))], dots_Of.regs, k⟩
@[reducible] def dots_Of.sg : Sg := ⟨[.dat (.slc tDot)], [], .dat tDots, []⟩
noncomputable def dots_Of.f (k : Nat) (a0 : Ty.D (.slc tDot)) : Option (Sg.Out dots_Of.sg) := Sg.fn dots_Of.sg (dots_Of.cx k) dots_Of.body dots_Of.rs a0
set_option maxRecDepth 100000 in
theorem dots_Of.f_eq (k : Nat) (a0 : Ty.D (.slc tDot)) : dots_Of.f k a0 =
  br (room ([] : List Int) a0)
    (br (room ([] : List Int) a0)
      (br (room ([] : List Int) (kept dotKeep a0))
        (bnd (dots_made.f k (zarr 16 0) (isort dotLt (kept dotKeep a0))) fun r0 =>
        some r0)
        (none))
      (none))
    (none) := by kernel_rfl
noncomputable def dots_Of.e (k : Nat) : Entry := Sg.entry dots_Of.sg fun x => dots_Of.f k x
set_option maxRecDepth 100000 in
theorem dots_Of.ok (k : Nat) : CallOK Try.prog 18 (dots_Of.e k) :=
  fn_ok (c := dots_Of.cx k) (code := dots_Of.body) (TT.of tt_ok pp_ok) (fns_ok ⟨clone62, del61, sort65, (dots_made.ok k), trivial⟩) mixed Try.func18 (by kernel_rfl) (by kernel_rfl) (by kernel_rfl) (by kernel_rfl) (by kernel_rfl) (by kernel_rfl) (fun x => by kernel_rfl)
noncomputable def vec_Has.body : Go.Code := Try.f71.body.getD .skip
noncomputable def vec_Has.rs : List Go.ResultVar := Try.f71.results.toList
def vec_Has.regs : List (Nat × RInfo) := [(0, ⟨[2, 3], [2, 3], [], [], 0, [], [], [], []⟩),
  (1, ⟨[4], [6], [], [], 11, [], [], [], []⟩)]
noncomputable def vec_Has.cx (k : Nat) : Cx := ⟨tt, pp, [(64, (dot_Right.e k))], vec_Has.regs, k⟩
@[reducible] def vec_Has.sg : Sg := ⟨[.dat tVec, .dat tDot], [], .dat .bool, []⟩
noncomputable def vec_Has.f (k : Nat) (a0 : Ty.D tVec) (a1 : Ty.D tDot) : Option (Sg.Out vec_Has.sg) := Sg.fn vec_Has.sg (vec_Has.cx k) vec_Has.body vec_Has.rs (a0, a1)
set_option maxRecDepth 100000 in
theorem vec_Has.f_eq (k : Nat) (a0 : Ty.D tVec) (a1 : Ty.D tDot) : vec_Has.f k a0 a1 =
  bnd (dot_Right.f k a1) fun r0 =>
  br r0
    (br (inB a1.1 16)
      (some (ile a1.2 (rd (.int .i64) a0 (natOf a1.1))))
      (none))
    (some false) := by kernel_rfl
noncomputable def vec_Has.e (k : Nat) : Entry := Sg.entry vec_Has.sg fun x => vec_Has.f k x.1 x.2
set_option maxRecDepth 100000 in
theorem vec_Has.ok (k : Nat) : CallOK Try.prog 71 (vec_Has.e k) :=
  fn_ok (c := vec_Has.cx k) (code := vec_Has.body) (TT.of tt_ok pp_ok) (fns_ok ⟨(dot_Right.ok k), trivial⟩) mixed Try.func71 (by kernel_rfl) (by kernel_rfl) (by kernel_rfl) (by kernel_rfl) (by kernel_rfl) (by kernel_rfl) (fun x => by kernel_rfl)
noncomputable def slices_BinarySearchFunc_api_Dot_api_Dot_api_Dot_66.body : Go.Code := Try.f72.body.getD .skip
noncomputable def slices_BinarySearchFunc_api_Dot_api_Dot_api_Dot_66.rs : List Go.ResultVar := Try.f72.results.toList
def slices_BinarySearchFunc_api_Dot_api_Dot_api_Dot_66.regs : List (Nat × RInfo) := [(0, ⟨[0, 2, 4], [4], [], [], 0, [], [], [], []⟩),
  (1, ⟨[0, 2, 4, 8], [4], [], [], 0, [], [], [], []⟩),
  (2, ⟨[0, 2, 4, 8, 9, 10], [4], [], [], 0, [], [], [], []⟩),
  (3, ⟨[0, 2, 4, 8, 9, 10, 17], [4], [], [], 0, [0, 2, 4, 8, 9, 10], [4], [], []⟩),
  (4, ⟨[0, 2, 4, 8, 9, 10, 11], [4], [], [], 0, [], [], [], []⟩),
  (5, ⟨[0, 2, 4, 8, 9, 10, 11, 31], [4], [], [], 8, [], [], [], [[], [], [], [], [], [], [4, 5], [6, 4, 5]]⟩),
  (6, ⟨[0, 2, 4, 8, 9, 10], [4], [], [], 0, [], [], [], []⟩),
  (7, ⟨[0, 2, 4, 8, 9, 10], [4], [], [], 0, [], [], [], []⟩),
  (8, ⟨[6, 7], [], [], [], 15, [], [], [], [[], [], [], [], [], [], [], [], [], [], [], [9, 10], [11, 9, 10], [11, 9, 10], [11, 9, 10], [11, 9, 10]]⟩)]
noncomputable def slices_BinarySearchFunc_api_Dot_api_Dot_api_Dot_66.cx (k : Nat) : Cx := ⟨tt, pp, [(66, (dot_Compare.e k))], slices_BinarySearchFunc_api_Dot_api_Dot_api_Dot_66.regs, k⟩
@[reducible] def slices_BinarySearchFunc_api_Dot_api_Dot_api_Dot_66.sg : Sg := ⟨[.dat (.slc tDot), .dat tDot, .fn 66 0], [], .t2 (.dat (.int .i64)) (.dat .bool), []⟩
noncomputable def slices_BinarySearchFunc_api_Dot_api_Dot_api_Dot_66.f (k : Nat) (a0 : Ty.D (.slc tDot)) (a1 : Ty.D tDot) : Option (Sg.Out slices_BinarySearchFunc_api_Dot_api_Dot_api_Dot_66.sg) := Sg.fn slices_BinarySearchFunc_api_Dot_api_Dot_api_Dot_66.sg (slices_BinarySearchFunc_api_Dot_api_Dot_api_Dot_66.cx k) slices_BinarySearchFunc_api_Dot_api_Dot_api_Dot_66.body slices_BinarySearchFunc_api_Dot_api_Dot_api_Dot_66.rs (a0, a1)
noncomputable def slices_BinarySearchFunc_api_Dot_api_Dot_api_Dot_66.l3 (k : Nat) (n : Nat) (x0 : Ty.D (.slc tDot)) (x8 : Ty.D (.int .i64)) (x9 : Ty.D (.int .i64)) (x10 : Ty.D (.int .i64)) (m4 : Ty.D tDot) : Option (Sg.Out slices_BinarySearchFunc_api_Dot_api_Dot_api_Dot_66.sg) := loopAt (slices_BinarySearchFunc_api_Dot_api_Dot_api_Dot_66.cx k) slices_BinarySearchFunc_api_Dot_api_Dot_api_Dot_66.body [1, 1, 1, 0, 0] 3 [0, 2, 4, 8, 9, 10] [4] [] (Sg.K slices_BinarySearchFunc_api_Dot_api_Dot_api_Dot_66.sg (slices_BinarySearchFunc_api_Dot_api_Dot_api_Dot_66.cx k) slices_BinarySearchFunc_api_Dot_api_Dot_api_Dot_66.rs) n ⟨[(0, .dat (.slc tDot) x0), (2, .fn 66 []), (4, .ref 4 []), (8, .dat (.int .i64) x8), (9, .dat (.int .i64) x9), (10, .dat (.int .i64) x10)], [(4, .dat tDot m4)]⟩
set_option maxRecDepth 100000 in
theorem slices_BinarySearchFunc_api_Dot_api_Dot_api_Dot_66.f_eq (k : Nat) (a0 : Ty.D (.slc tDot)) (a1 : Ty.D tDot) : slices_BinarySearchFunc_api_Dot_api_Dot_api_Dot_66.f k a0 a1 =
  slices_BinarySearchFunc_api_Dot_api_Dot_api_Dot_66.l3 k k a0 (ilen a0) 0 (ilen a0) a1 := by kernel_rfl
set_option maxRecDepth 100000 in
theorem slices_BinarySearchFunc_api_Dot_api_Dot_api_Dot_66.l3_eq (k : Nat) (n3 : Nat) (x0 : Ty.D (.slc tDot)) (x8 : Ty.D (.int .i64)) (x9 : Ty.D (.int .i64)) (x10 : Ty.D (.int .i64)) (m4 : Ty.D tDot) : slices_BinarySearchFunc_api_Dot_api_Dot_api_Dot_66.l3 k (n3 + 1) x0 x8 x9 x10 m4 =
  br (ilt x9 x10)
    (br (inL (iwrap .i64 (ishr .u64 (iwrap .u64 (iadd .i64 x9 x10)) 1)) x0)
      (bnd (dot_Compare.f k (rd tDot x0 (natOf (iwrap .i64 (ishr .u64 (iwrap .u64 (iadd .i64 x9 x10)) 1)))) m4) fun r0 =>
      br (ilt r0 0)
        (slices_BinarySearchFunc_api_Dot_api_Dot_api_Dot_66.l3 k n3 x0 x8 (iadd .i64 (iwrap .i64 (ishr .u64 (iwrap .u64 (iadd .i64 x9 x10)) 1)) 1) x10 m4)
        (slices_BinarySearchFunc_api_Dot_api_Dot_api_Dot_66.l3 k n3 x0 x8 x9 (iwrap .i64 (ishr .u64 (iwrap .u64 (iadd .i64 x9 x10)) 1)) m4))
      (none))
    (br (ilt x9 x8)
      (br (inL x9 x0)
        (bnd (dot_Compare.f k (rd tDot x0 (natOf x9)) m4) fun r1 =>
        some (x9, (ieq r1 0)))
        (none))
      (some (x9, false))) := by kernel_rfl
noncomputable def slices_BinarySearchFunc_api_Dot_api_Dot_api_Dot_66.e (k : Nat) : Entry := Sg.entry slices_BinarySearchFunc_api_Dot_api_Dot_api_Dot_66.sg fun x => slices_BinarySearchFunc_api_Dot_api_Dot_api_Dot_66.f k x.1 x.2
set_option maxRecDepth 100000 in
theorem slices_BinarySearchFunc_api_Dot_api_Dot_api_Dot_66.ok (k : Nat) : CallOK Try.prog 72 (slices_BinarySearchFunc_api_Dot_api_Dot_api_Dot_66.e k) :=
  fn_ok (c := slices_BinarySearchFunc_api_Dot_api_Dot_api_Dot_66.cx k) (code := slices_BinarySearchFunc_api_Dot_api_Dot_api_Dot_66.body) (TT.of tt_ok pp_ok) (fns_ok ⟨(dot_Compare.ok k), trivial⟩) mixed Try.func72 (by kernel_rfl) (by kernel_rfl) (by kernel_rfl) (by kernel_rfl) (by kernel_rfl) (by kernel_rfl) (fun x => by kernel_rfl)
noncomputable def dots_Has.body : Go.Code := Try.f23.body.getD .skip
noncomputable def dots_Has.rs : List Go.ResultVar := Try.f23.results.toList
def dots_Has.regs : List (Nat × RInfo) := [(0, ⟨[2, 3], [2, 3], [0], [], 0, [], [], [], []⟩),
  (1, ⟨[2, 3, 10], [2, 3, 10], [], [], 0, [], [], [], []⟩),
  (2, ⟨[4], [15], [], [], 0, [], [], [], []⟩),
  (3, ⟨[6], [15], [], [], 0, [], [], [], []⟩),
  (4, ⟨[4], [15], [], [], 0, [], [], [], []⟩)]
noncomputable def dots_Has.cx (k : Nat) : Cx := ⟨tt, pp, [(71, (vec_Has.e k)),
  (72, (slices_BinarySearchFunc_api_Dot_api_Dot_api_Dot_66.e k)),
  (66, (dot_Compare.e k))], dots_Has.regs, k⟩
@[reducible] def dots_Has.sg : Sg := ⟨[.dat tDots, .dat tDot], [], .dat .bool, []⟩
noncomputable def dots_Has.f (k : Nat) (a0 : Ty.D tDots) (a1 : Ty.D tDot) : Option (Sg.Out dots_Has.sg) := Sg.fn dots_Has.sg (dots_Has.cx k) dots_Has.body dots_Has.rs (a0, a1)
set_option maxRecDepth 100000 in
theorem dots_Has.f_eq (k : Nat) (a0 : Ty.D tDots) (a1 : Ty.D tDot) : dots_Has.f k a0 a1 =
  bnd (vec_Has.f k a0.1 a1) fun r0 =>
  br r0
    (some true)
    (bnd (slices_BinarySearchFunc_api_Dot_api_Dot_api_Dot_66.f k a0.2 a1) fun r1 =>
    some r1.2) := by kernel_rfl
noncomputable def dots_Has.e (k : Nat) : Entry := Sg.entry dots_Has.sg fun x => dots_Has.f k x.1 x.2
set_option maxRecDepth 100000 in
theorem dots_Has.ok (k : Nat) : CallOK Try.prog 23 (dots_Has.e k) :=
  fn_ok (c := dots_Has.cx k) (code := dots_Has.body) (TT.of tt_ok pp_ok) (fns_ok ⟨(vec_Has.ok k), (slices_BinarySearchFunc_api_Dot_api_Dot_api_Dot_66.ok k), (dot_Compare.ok k), trivial⟩) mixed Try.func23 (by kernel_rfl) (by kernel_rfl) (by kernel_rfl) (by kernel_rfl) (by kernel_rfl) (by kernel_rfl) (fun x => by kernel_rfl)
noncomputable def dots_Put.body : Go.Code := Try.f26.body.getD .skip
noncomputable def dots_Put.rs : List Go.ResultVar := Try.f26.results.toList
def dots_Put.regs : List (Nat × RInfo) := [(0, ⟨[2, 3, 4], [2, 3, 4], [0], [], 0, [], [], [0, 1], []⟩),
  (1, ⟨[2, 3, 4, 14], [2, 3, 4, 13], [], [], 0, [], [], [3, 2], []⟩),
  (2, ⟨[4], [4], [1], [], 0, [], [], [2, 4], []⟩),
  (3, ⟨[2, 3, 4, 5], [2, 3, 4, 20], [], [], 0, [], [], [2, 3], []⟩),
  (4, ⟨[4], [4], [8, 10], [], 10, [], [], [2, 5, 3, 4], [[], [], [], [], [3], [], [], [6], [3, 6], [1, 3, 6], [1, 3, 6]]⟩)]
noncomputable def dots_Put.cx (k : Nat) : Cx := ⟨tt, pp, [(64, (dot_Right.e k)),
  (23, (dots_Has.e k)),
  (72, (slices_BinarySearchFunc_api_Dot_api_Dot_api_Dot_66.e k)),
  (66, (dot_Compare.e k)),
  (62, (cloneE tDot)),
  (75, (insE tDot)),
  (67, (dots_made.e k))], dots_Put.regs, k⟩
@[reducible] def dots_Put.sg : Sg := ⟨[.dat tDots, .dat tDot], [], .dat tDots, []⟩
noncomputable def dots_Put.f (k : Nat) (a0 : Ty.D tDots) (a1 : Ty.D tDot) : Option (Sg.Out dots_Put.sg) := Sg.fn dots_Put.sg (dots_Put.cx k) dots_Put.body dots_Put.rs (a0, a1)
set_option maxRecDepth 100000 in
theorem dots_Put.f_eq (k : Nat) (a0 : Ty.D tDots) (a1 : Ty.D tDot) : dots_Put.f k a0 a1 =
  bnd (dot_Right.f k a1) fun r0 =>
  br (bnot r0)
    (some a0)
    (bnd (dots_Has.f k a0 a1) fun r1 =>
    br r1
      (some a0)
      (bnd (slices_BinarySearchFunc_api_Dot_api_Dot_api_Dot_66.f k a0.2 a1) fun r2 =>
      br (room ([] : List Int) a0.2)
        (br (inS 0 r2.1 (ilen a0.2))
          (br (room a0.2 (a1 :: []))
            (bnd (dots_made.f k a0.1 (insAt a0.2 r2.1 (a1 :: []))) fun r3 =>
            some r3)
            (none))
          (none))
        (none))) := by kernel_rfl
noncomputable def dots_Put.e (k : Nat) : Entry := Sg.entry dots_Put.sg fun x => dots_Put.f k x.1 x.2
set_option maxRecDepth 100000 in
theorem dots_Put.ok (k : Nat) : CallOK Try.prog 26 (dots_Put.e k) :=
  fn_ok (c := dots_Put.cx k) (code := dots_Put.body) (TT.of tt_ok pp_ok) (fns_ok ⟨(dot_Right.ok k), (dots_Has.ok k), (slices_BinarySearchFunc_api_Dot_api_Dot_api_Dot_66.ok k), (dot_Compare.ok k), clone62, ins75, (dots_made.ok k), trivial⟩) mixed Try.func26 (by kernel_rfl) (by kernel_rfl) (by kernel_rfl) (by kernel_rfl) (by kernel_rfl) (by kernel_rfl) (fun x => by kernel_rfl)
noncomputable def slices_Equal_api_Dot_api_Dot.body : Go.Code := Try.f68.body.getD .skip
noncomputable def slices_Equal_api_Dot_api_Dot.rs : List Go.ResultVar := Try.f68.results.toList
def slices_Equal_api_Dot_api_Dot.regs : List (Nat × RInfo) := [(0, ⟨[0, 1], [], [], [], 0, [], [], [], []⟩),
  (1, ⟨[0, 1, 10], [], [], [], 0, [], [], [], []⟩),
  (2, ⟨[4], [], [], [], 0, [], [], [], []⟩),
  (3, ⟨[0, 1, 12, 13], [], [], [], 0, [], [], [], []⟩),
  (4, ⟨[0, 1, 12, 13, 14], [], [], [], 0, [0, 1, 12, 13], [], [], []⟩),
  (5, ⟨[0, 1, 5, 12, 13], [], [], [], 0, [], [], [], []⟩),
  (6, ⟨[0, 1, 12, 13, 24], [], [], [], 9, [], [], [], []⟩),
  (7, ⟨[4], [], [], [], 0, [], [], [], []⟩),
  (8, ⟨[0, 1, 12, 13], [], [], [], 0, [], [], [], []⟩),
  (9, ⟨[4], [], [], [], 0, [], [], [], []⟩)]
noncomputable def slices_Equal_api_Dot_api_Dot.cx (k : Nat) : Cx := ⟨tt, pp, [], slices_Equal_api_Dot_api_Dot.regs, k⟩
@[reducible] def slices_Equal_api_Dot_api_Dot.sg : Sg := ⟨[.dat (.slc tDot), .dat (.slc tDot)], [], .dat .bool, []⟩
noncomputable def slices_Equal_api_Dot_api_Dot.f (k : Nat) (a0 : Ty.D (.slc tDot)) (a1 : Ty.D (.slc tDot)) : Option (Sg.Out slices_Equal_api_Dot_api_Dot.sg) := Sg.fn slices_Equal_api_Dot_api_Dot.sg (slices_Equal_api_Dot_api_Dot.cx k) slices_Equal_api_Dot_api_Dot.body slices_Equal_api_Dot_api_Dot.rs (a0, a1)
noncomputable def slices_Equal_api_Dot_api_Dot.l4 (k : Nat) (n : Nat) (x0 : Ty.D (.slc tDot)) (x1 : Ty.D (.slc tDot)) (x12 : Ty.D (.int .i64)) (x13 : Ty.D (.int .i64)) : Option (Sg.Out slices_Equal_api_Dot_api_Dot.sg) := loopAt (slices_Equal_api_Dot_api_Dot.cx k) slices_Equal_api_Dot_api_Dot.body [1, 1, 0, 1, 0] 4 [0, 1, 12, 13] [] [] (Sg.K slices_Equal_api_Dot_api_Dot.sg (slices_Equal_api_Dot_api_Dot.cx k) slices_Equal_api_Dot_api_Dot.rs) n ⟨[(0, .dat (.slc tDot) x0), (1, .dat (.slc tDot) x1), (12, .dat (.int .i64) x12), (13, .dat (.int .i64) x13)], []⟩
set_option maxRecDepth 100000 in
theorem slices_Equal_api_Dot_api_Dot.f_eq (k : Nat) (a0 : Ty.D (.slc tDot)) (a1 : Ty.D (.slc tDot)) : slices_Equal_api_Dot_api_Dot.f k a0 a1 =
  br (bnot (ieq (ilen a0) (ilen a1)))
    (some false)
    (slices_Equal_api_Dot_api_Dot.l4 k k a0 a1 (ilen a0) 0) := by kernel_rfl
set_option maxRecDepth 100000 in
theorem slices_Equal_api_Dot_api_Dot.l4_eq (k : Nat) (n4 : Nat) (x0 : Ty.D (.slc tDot)) (x1 : Ty.D (.slc tDot)) (x12 : Ty.D (.int .i64)) (x13 : Ty.D (.int .i64)) : slices_Equal_api_Dot_api_Dot.l4 k (n4 + 1) x0 x1 x12 x13 =
  br (ilt x13 x12)
    (br (inL x13 x0)
      (br (inL x13 x1)
        (br (bnot (deq tDot (rd tDot x0 (natOf x13)) (rd tDot x1 (natOf x13))))
          (some false)
          (slices_Equal_api_Dot_api_Dot.l4 k n4 x0 x1 x12 (iadd .i64 x13 1)))
        (none))
      (none))
    (some true) := by kernel_rfl
noncomputable def slices_Equal_api_Dot_api_Dot.e (k : Nat) : Entry := Sg.entry slices_Equal_api_Dot_api_Dot.sg fun x => slices_Equal_api_Dot_api_Dot.f k x.1 x.2
set_option maxRecDepth 100000 in
theorem slices_Equal_api_Dot_api_Dot.ok (k : Nat) : CallOK Try.prog 68 (slices_Equal_api_Dot_api_Dot.e k) :=
  fn_ok (c := slices_Equal_api_Dot_api_Dot.cx k) (code := slices_Equal_api_Dot_api_Dot.body) (TT.of tt_ok pp_ok) (fns_ok trivial) mixed Try.func68 (by kernel_rfl) (by kernel_rfl) (by kernel_rfl) (by kernel_rfl) (by kernel_rfl) (by kernel_rfl) (fun x => by kernel_rfl)
noncomputable def dots_Same.body : Go.Code := Try.f21.body.getD .skip
noncomputable def dots_Same.rs : List Go.ResultVar := Try.f21.results.toList
def dots_Same.regs : List (Nat × RInfo) := [(0, ⟨[2, 3], [2, 3], [0, 1], [], 0, [], [], [], []⟩),
  (1, ⟨[4], [15], [], [], 0, [], [], [], []⟩)]
noncomputable def dots_Same.cx (k : Nat) : Cx := ⟨tt, pp, [(68, (slices_Equal_api_Dot_api_Dot.e k))], dots_Same.regs, k⟩
@[reducible] def dots_Same.sg : Sg := ⟨[.dat tDots, .dat tDots], [], .dat .bool, []⟩
noncomputable def dots_Same.f (k : Nat) (a0 : Ty.D tDots) (a1 : Ty.D tDots) : Option (Sg.Out dots_Same.sg) := Sg.fn dots_Same.sg (dots_Same.cx k) dots_Same.body dots_Same.rs (a0, a1)
set_option maxRecDepth 100000 in
theorem dots_Same.f_eq (k : Nat) (a0 : Ty.D tDots) (a1 : Ty.D tDots) : dots_Same.f k a0 a1 =
  br (deq tVec a0.1 a1.1)
    (bnd (slices_Equal_api_Dot_api_Dot.f k a0.2 a1.2) fun r0 =>
    some r0)
    (some false) := by kernel_rfl
noncomputable def dots_Same.e (k : Nat) : Entry := Sg.entry dots_Same.sg fun x => dots_Same.f k x.1 x.2
set_option maxRecDepth 100000 in
theorem dots_Same.ok (k : Nat) : CallOK Try.prog 21 (dots_Same.e k) :=
  fn_ok (c := dots_Same.cx k) (code := dots_Same.body) (TT.of tt_ok pp_ok) (fns_ok ⟨(slices_Equal_api_Dot_api_Dot.ok k), trivial⟩) mixed Try.func21 (by kernel_rfl) (by kernel_rfl) (by kernel_rfl) (by kernel_rfl) (by kernel_rfl) (by kernel_rfl) (fun x => by kernel_rfl)
noncomputable def law06_awake.body : Go.Code := Try.f16.body.getD .skip
noncomputable def law06_awake.rs : List Go.ResultVar := Try.f16.results.toList
def law06_awake.regs : List (Nat × RInfo) := [(0, ⟨[], [], [], [], 0, [], [], [], []⟩),
  (1, ⟨[1], [1], [5], [], 0, [], [], [], []⟩),
  (2, ⟨[1, 2], [1, 2], [4], [], 0, [], [], [], []⟩),
  (3, ⟨[0], [15, 20, 25], [], [], 0, [], [], [], []⟩)]
noncomputable def law06_awake.cx (k : Nat) : Cx := ⟨tt, pp, [(18, (dots_Of.e k)),
  (26, (dots_Put.e k)),
  (21, (dots_Same.e k)),
  (23, (dots_Has.e k))], law06_awake.regs, k⟩
@[reducible] def law06_awake.sg : Sg := ⟨[], [], .dat .bool, []⟩
noncomputable def law06_awake.f (k : Nat) : Option (Sg.Out law06_awake.sg) := Sg.fn law06_awake.sg (law06_awake.cx k) law06_awake.body law06_awake.rs ()
noncomputable def law06_awake.e (k : Nat) : Entry := Sg.entry law06_awake.sg fun x => law06_awake.f k
set_option maxRecDepth 100000 in
theorem law06_awake.ok (k : Nat) : CallOK Try.prog 16 (law06_awake.e k) :=
  fn_ok (c := law06_awake.cx k) (code := law06_awake.body) (TT.of tt_ok pp_ok) (fns_ok ⟨(dots_Of.ok k), (dots_Put.ok k), (dots_Same.ok k), (dots_Has.ok k), trivial⟩) mixed Try.func16 (by kernel_rfl) (by kernel_rfl) (by kernel_rfl) (by kernel_rfl) (by kernel_rfl) (by kernel_rfl) (fun x => by kernel_rfl)
noncomputable def ref04_Right.body : Go.Code := Try.f17.body.getD .skip
noncomputable def ref04_Right.rs : List Go.ResultVar := Try.f17.results.toList
def ref04_Right.regs : List (Nat × RInfo) := [(0, ⟨[1], [1], [], [], 0, [], [], [], []⟩),
  (1, ⟨[2], [], [], [], 0, [], [], [], []⟩)]
noncomputable def ref04_Right.cx (k : Nat) : Cx := ⟨tt, pp, [], ref04_Right.regs, k⟩
@[reducible] def ref04_Right.sg : Sg := ⟨[.dat tDot], [], .dat .bool, []⟩
noncomputable def ref04_Right.f (k : Nat) (a0 : Ty.D tDot) : Option (Sg.Out ref04_Right.sg) := Sg.fn ref04_Right.sg (ref04_Right.cx k) ref04_Right.body ref04_Right.rs a0
set_option maxRecDepth 100000 in
theorem ref04_Right.f_eq (k : Nat) (a0 : Ty.D tDot) : ref04_Right.f k a0 =
  br (ile 0 a0.1)
    (br (ile a0.1 15)
      (br (ile 1 a0.2)
        (some (ile a0.2 1048576))
        (some false))
      (some false))
    (some false) := by kernel_rfl
noncomputable def ref04_Right.e (k : Nat) : Entry := Sg.entry ref04_Right.sg fun x => ref04_Right.f k x
set_option maxRecDepth 100000 in
theorem ref04_Right.ok (k : Nat) : CallOK Try.prog 17 (ref04_Right.e k) :=
  fn_ok (c := ref04_Right.cx k) (code := ref04_Right.body) (TT.of tt_ok pp_ok) (fns_ok trivial) mixed Try.func17 (by kernel_rfl) (by kernel_rfl) (by kernel_rfl) (by kernel_rfl) (by kernel_rfl) (by kernel_rfl) (fun x => by kernel_rfl)
noncomputable def ref05_Has.body : Go.Code := Try.f74.body.getD .skip
noncomputable def ref05_Has.rs : List Go.ResultVar := Try.f74.results.toList
def ref05_Has.regs : List (Nat × RInfo) := [(0, ⟨[2, 3], [2, 3], [], [], 0, [], [], [], []⟩),
  (1, ⟨[4], [6], [], [], 11, [], [], [], []⟩)]
noncomputable def ref05_Has.cx (k : Nat) : Cx := ⟨tt, pp, [(17, (ref04_Right.e k))], ref05_Has.regs, k⟩
@[reducible] def ref05_Has.sg : Sg := ⟨[.dat tVec, .dat tDot], [], .dat .bool, []⟩
noncomputable def ref05_Has.f (k : Nat) (a0 : Ty.D tVec) (a1 : Ty.D tDot) : Option (Sg.Out ref05_Has.sg) := Sg.fn ref05_Has.sg (ref05_Has.cx k) ref05_Has.body ref05_Has.rs (a0, a1)
set_option maxRecDepth 100000 in
theorem ref05_Has.f_eq (k : Nat) (a0 : Ty.D tVec) (a1 : Ty.D tDot) : ref05_Has.f k a0 a1 =
  bnd (ref04_Right.f k a1) fun r0 =>
  br r0
    (br (inB a1.1 16)
      (some (ile a1.2 (rd (.int .i64) a0 (natOf a1.1))))
      (none))
    (some false) := by kernel_rfl
noncomputable def ref05_Has.e (k : Nat) : Entry := Sg.entry ref05_Has.sg fun x => ref05_Has.f k x.1 x.2
set_option maxRecDepth 100000 in
theorem ref05_Has.ok (k : Nat) : CallOK Try.prog 74 (ref05_Has.e k) :=
  fn_ok (c := ref05_Has.cx k) (code := ref05_Has.body) (TT.of tt_ok pp_ok) (fns_ok ⟨(ref04_Right.ok k), trivial⟩) mixed Try.func74 (by kernel_rfl) (by kernel_rfl) (by kernel_rfl) (by kernel_rfl) (by kernel_rfl) (by kernel_rfl) (fun x => by kernel_rfl)
noncomputable def ref06_Has.body : Go.Code := Try.f25.body.getD .skip
noncomputable def ref06_Has.rs : List Go.ResultVar := Try.f25.results.toList
def ref06_Has.regs : List (Nat × RInfo) := [(0, ⟨[2, 3], [2, 3], [0], [], 0, [], [], [], []⟩),
  (1, ⟨[2, 3, 9], [2, 3, 9], [], [], 0, [], [], [], []⟩),
  (2, ⟨[4], [], [], [], 0, [], [], [], []⟩),
  (3, ⟨[2, 3, 5], [2, 3], [], [], 0, [], [], [], []⟩),
  (4, ⟨[2, 3, 5, 14], [2, 3], [], [], 0, [2, 3, 5], [2, 3], [], []⟩),
  (6, ⟨[2, 3, 5, 23], [2, 3], [], [], 7, [], [], [], []⟩),
  (7, ⟨[4], [], [], [], 0, [], [], [], []⟩),
  (5, ⟨[2, 3, 5], [2, 3], [], [], 0, [], [], [], []⟩),
  (8, ⟨[4], [], [], [], 0, [], [], [], []⟩)]
noncomputable def ref06_Has.cx (k : Nat) : Cx := ⟨tt, pp, [(74, (ref05_Has.e k))], ref06_Has.regs, k⟩
@[reducible] def ref06_Has.sg : Sg := ⟨[.dat tDots, .dat tDot], [], .dat .bool, []⟩
noncomputable def ref06_Has.f (k : Nat) (a0 : Ty.D tDots) (a1 : Ty.D tDot) : Option (Sg.Out ref06_Has.sg) := Sg.fn ref06_Has.sg (ref06_Has.cx k) ref06_Has.body ref06_Has.rs (a0, a1)
noncomputable def ref06_Has.l4 (k : Nat) (n : Nat) (x5 : Ty.D (.int .i64)) (m2 : Ty.D tDots) (m3 : Ty.D tDot) : Option (Sg.Out ref06_Has.sg) := loopAt (ref06_Has.cx k) ref06_Has.body [1, 1, 0, 1, 0] 4 [2, 3, 5] [2, 3] [] (Sg.K ref06_Has.sg (ref06_Has.cx k) ref06_Has.rs) n ⟨[(2, .ref 2 []), (3, .ref 3 []), (5, .dat (.int .i64) x5)], [(2, .dat tDots m2), (3, .dat tDot m3)]⟩
set_option maxRecDepth 100000 in
theorem ref06_Has.f_eq (k : Nat) (a0 : Ty.D tDots) (a1 : Ty.D tDot) : ref06_Has.f k a0 a1 =
  bnd (ref05_Has.f k a0.1 a1) fun r0 =>
  br r0
    (some true)
    (ref06_Has.l4 k k 0 a0 a1) := by kernel_rfl
set_option maxRecDepth 100000 in
theorem ref06_Has.l4_eq (k : Nat) (n4 : Nat) (x5 : Ty.D (.int .i64)) (m2 : Ty.D tDots) (m3 : Ty.D tDot) : ref06_Has.l4 k (n4 + 1) x5 m2 m3 =
  br (ilt x5 (ilen m2.2))
    (br (inL x5 m2.2)
      (br (deq tDot (rd tDot m2.2 (natOf x5)) m3)
        (some true)
        (ref06_Has.l4 k n4 (iadd .i64 x5 1) m2 m3))
      (none))
    (some false) := by kernel_rfl
noncomputable def ref06_Has.e (k : Nat) : Entry := Sg.entry ref06_Has.sg fun x => ref06_Has.f k x.1 x.2
set_option maxRecDepth 100000 in
theorem ref06_Has.ok (k : Nat) : CallOK Try.prog 25 (ref06_Has.e k) :=
  fn_ok (c := ref06_Has.cx k) (code := ref06_Has.body) (TT.of tt_ok pp_ok) (fns_ok ⟨(ref05_Has.ok k), trivial⟩) mixed Try.func25 (by kernel_rfl) (by kernel_rfl) (by kernel_rfl) (by kernel_rfl) (by kernel_rfl) (by kernel_rfl) (fun x => by kernel_rfl)
noncomputable def ref04_ints.body : Go.Code := Try.f114.body.getD .skip
noncomputable def ref04_ints.rs : List Go.ResultVar := Try.f114.results.toList
def ref04_ints.regs : List (Nat × RInfo) := [(0, ⟨[0, 1], [], [], [], 0, [], [], [], []⟩),
  (1, ⟨[0, 1, 7], [], [], [], 0, [], [], [], []⟩),
  (2, ⟨[4], [], [], [], 0, [], [], [], []⟩),
  (3, ⟨[10], [], [], [], 0, [], [], [], []⟩),
  (4, ⟨[4], [], [], [], 0, [], [], [], []⟩),
  (5, ⟨[4], [], [], [], 0, [], [], [], []⟩)]
noncomputable def ref04_ints.cx (k : Nat) : Cx := ⟨tt, pp, [], ref04_ints.regs, k⟩
@[reducible] def ref04_ints.sg : Sg := ⟨[.dat (.int .i64), .dat (.int .i64)], [], .dat (.int .i64), []⟩
noncomputable def ref04_ints.f (k : Nat) (a0 : Ty.D (.int .i64)) (a1 : Ty.D (.int .i64)) : Option (Sg.Out ref04_ints.sg) := Sg.fn ref04_ints.sg (ref04_ints.cx k) ref04_ints.body ref04_ints.rs (a0, a1)
set_option maxRecDepth 100000 in
theorem ref04_ints.f_eq (k : Nat) (a0 : Ty.D (.int .i64)) (a1 : Ty.D (.int .i64)) : ref04_ints.f k a0 a1 =
  br (ilt a0 a1)
    (some (-1))
    (br (ilt a1 a0)
      (some 1)
      (some 0)) := by kernel_rfl
noncomputable def ref04_ints.e (k : Nat) : Entry := Sg.entry ref04_ints.sg fun x => ref04_ints.f k x.1 x.2
set_option maxRecDepth 100000 in
theorem ref04_ints.ok (k : Nat) : CallOK Try.prog 114 (ref04_ints.e k) :=
  fn_ok (c := ref04_ints.cx k) (code := ref04_ints.body) (TT.of tt_ok pp_ok) (fns_ok trivial) mixed Try.func114 (by kernel_rfl) (by kernel_rfl) (by kernel_rfl) (by kernel_rfl) (by kernel_rfl) (by kernel_rfl) (fun x => by kernel_rfl)
noncomputable def ref04_Compare.body : Go.Code := Try.f70.body.getD .skip
noncomputable def ref04_Compare.rs : List Go.ResultVar := Try.f70.results.toList
def ref04_Compare.regs : List (Nat × RInfo) := [(0, ⟨[2, 3], [2, 3], [], [], 0, [], [], [], []⟩),
  (1, ⟨[2, 3, 9], [2, 3], [], [], 0, [], [], [], []⟩),
  (2, ⟨[4], [14, 19], [], [], 0, [], [], [], []⟩),
  (3, ⟨[4], [14, 19], [], [], 0, [], [], [], []⟩)]
noncomputable def ref04_Compare.cx (k : Nat) : Cx := ⟨tt, pp, [(114, (ref04_ints.e k))], ref04_Compare.regs, k⟩
@[reducible] def ref04_Compare.sg : Sg := ⟨[.dat tDot, .dat tDot], [], .dat (.int .i64), []⟩
noncomputable def ref04_Compare.f (k : Nat) (a0 : Ty.D tDot) (a1 : Ty.D tDot) : Option (Sg.Out ref04_Compare.sg) := Sg.fn ref04_Compare.sg (ref04_Compare.cx k) ref04_Compare.body ref04_Compare.rs (a0, a1)
set_option maxRecDepth 100000 in
theorem ref04_Compare.f_eq (k : Nat) (a0 : Ty.D tDot) (a1 : Ty.D tDot) : ref04_Compare.f k a0 a1 =
  br (bnot (ieq a0.1 a1.1))
    (bnd (ref04_ints.f k a0.1 a1.1) fun r0 =>
    some r0)
    (bnd (ref04_ints.f k a0.2 a1.2) fun r1 =>
    some r1) := by kernel_rfl
noncomputable def ref04_Compare.e (k : Nat) : Entry := Sg.entry ref04_Compare.sg fun x => ref04_Compare.f k x.1 x.2
set_option maxRecDepth 100000 in
theorem ref04_Compare.ok (k : Nat) : CallOK Try.prog 70 (ref04_Compare.e k) :=
  fn_ok (c := ref04_Compare.cx k) (code := ref04_Compare.body) (TT.of tt_ok pp_ok) (fns_ok ⟨(ref04_ints.ok k), trivial⟩) mixed Try.func70 (by kernel_rfl) (by kernel_rfl) (by kernel_rfl) (by kernel_rfl) (by kernel_rfl) (by kernel_rfl) (fun x => by kernel_rfl)
noncomputable def ref06_filled.body : Go.Code := Try.f76.body.getD .skip
noncomputable def ref06_filled.rs : List Go.ResultVar := Try.f76.results.toList
def ref06_filled.regs : List (Nat × RInfo) := [(0, ⟨[1, 2], [1, 2], [0], [], 0, [], [], [], []⟩),
  (1, ⟨[1, 2, 3], [1, 2, 3], [4], [], 0, [], [], [], []⟩),
  (2, ⟨[1, 2, 3, 4], [1, 2, 3], [], [], 0, [], [], [], []⟩),
  (3, ⟨[1, 2, 3, 4, 13], [1, 2, 3], [], [], 0, [1, 2, 3, 4], [1, 2, 3], [], []⟩),
  (5, ⟨[1, 2, 3, 4, 5], [1, 2, 3, 5], [], [], 0, [], [], [], []⟩),
  (6, ⟨[1, 2, 3, 4, 5, 29], [1, 2, 3, 5], [], [], 9, [], [], [], []⟩),
  (7, ⟨[1, 2, 3, 4], [1, 2, 3], [], [], 0, [], [], [], []⟩),
  (8, ⟨[1, 2, 3, 4, 5, 43], [1, 2, 3, 5], [], [], 8, [], [], [], []⟩),
  (9, ⟨[1, 2, 3, 4], [1, 2, 3], [1, 4, 6], [], 0, [], [], [], []⟩),
  (4, ⟨[1, 2, 3, 4], [1, 2, 3], [], [], 0, [], [], [], []⟩),
  (10, ⟨[2], [2], [1], [], 0, [], [], [], []⟩)]
noncomputable def ref06_filled.cx (k : Nat) : Cx := ⟨tt, pp, [], ref06_filled.regs, k⟩
@[reducible] def ref06_filled.sg : Sg := ⟨[.dat tDots], [], .dat tDots, []⟩
noncomputable def ref06_filled.f (k : Nat) (a0 : Ty.D tDots) : Option (Sg.Out ref06_filled.sg) := Sg.fn ref06_filled.sg (ref06_filled.cx k) ref06_filled.body ref06_filled.rs a0
noncomputable def ref06_filled.l3 (k : Nat) (n : Nat) (x4 : Ty.D (.int .i64)) (m1 : Ty.D tDots) (m2a : Ty.D tVec) (m2b : List (Ty.D tDot)) (m3a : Ty.D tVec) (m3b : List (Ty.D tDot)) : Option (Sg.Out ref06_filled.sg) := loopAt (ref06_filled.cx k) ref06_filled.body [1, 1, 0, 1, 0] 3 [1, 2, 3, 4] [1, 2, 3] [] (Sg.K ref06_filled.sg (ref06_filled.cx k) ref06_filled.rs) n ⟨[(1, .ref 1 []), (2, .ref 2 []), (3, .ref 3 []), (4, .dat (.int .i64) x4)], [(1, .dat tDots m1), (2, .pr (.dat tVec m2a) (.own tDot m2b)), (3, .pr (.dat tVec m3a) (.own tDot m3b))]⟩
set_option maxRecDepth 100000 in
theorem ref06_filled.f_eq (k : Nat) (a0 : Ty.D tDots) : ref06_filled.f k a0 =
  ref06_filled.l3 k k 0 a0 (zarr 16 0) [] a0.1 [] := by kernel_rfl
set_option maxRecDepth 100000 in
theorem ref06_filled.l3_eq (k : Nat) (n3 : Nat) (x4 : Ty.D (.int .i64)) (m1 : Ty.D tDots) (m2a : Ty.D tVec) (m2b : List (Ty.D tDot)) (m3a : Ty.D tVec) (m3b : List (Ty.D tDot)) : ref06_filled.l3 k (n3 + 1) x4 m1 m2a m2b m3a m3b =
  br (ilt x4 (ilen m1.2))
    (br (inL x4 m1.2)
      (br (inB ((rd tDot m1.2 (natOf x4)).1) 16)
        (br (ieq ((rd tDot m1.2 (natOf x4)).2) (iadd .i64 (rd (.int .i64) m3a (natOf ((rd tDot m1.2 (natOf x4)).1))) 1))
          (br (inB ((rd tDot m1.2 (natOf x4)).1) 16)
            (ref06_filled.l3 k n3 (iadd .i64 x4 1) m1 m2a m2b (upd m3a (natOf ((rd tDot m1.2 (natOf x4)).1)) ((rd tDot m1.2 (natOf x4)).2)) m3b)
            (none))
          (br (inB ((rd tDot m1.2 (natOf x4)).1) 16)
            (br (ilt (rd (.int .i64) m3a (natOf ((rd tDot m1.2 (natOf x4)).1))) ((rd tDot m1.2 (natOf x4)).2))
              (br (room m3b ((rd tDot m1.2 (natOf x4)) :: []))
                (ref06_filled.l3 k n3 (iadd .i64 x4 1) m1 m2a m2b m3a (app m3b ((rd tDot m1.2 (natOf x4)) :: [])))
                (none))
              (ref06_filled.l3 k n3 (iadd .i64 x4 1) m1 m2a m2b m3a m3b))
            (none)))
        (none))
      (none))
    (some (m3a, m3b)) := by kernel_rfl
noncomputable def ref06_filled.e (k : Nat) : Entry := Sg.entry ref06_filled.sg fun x => ref06_filled.f k x
set_option maxRecDepth 100000 in
theorem ref06_filled.ok (k : Nat) : CallOK Try.prog 76 (ref06_filled.e k) :=
  fn_ok (c := ref06_filled.cx k) (code := ref06_filled.body) (TT.of tt_ok pp_ok) (fns_ok trivial) mixed Try.func76 (by kernel_rfl) (by kernel_rfl) (by kernel_rfl) (by kernel_rfl) (by kernel_rfl) (by kernel_rfl) (fun x => by kernel_rfl)
noncomputable def ref06_Put.body : Go.Code := Try.f27.body.getD .skip
noncomputable def ref06_Put.rs : List Go.ResultVar := Try.f27.results.toList
def ref06_Put.regs : List (Nat × RInfo) := [(0, ⟨[2, 3, 4], [2, 3, 4], [0], [], 0, [], [], [], []⟩),
  (1, ⟨[2, 3, 4, 15], [2, 3, 4, 14], [], [], 0, [], [], [], []⟩),
  (2, ⟨[4], [4], [1], [], 0, [], [], [], []⟩),
  (3, ⟨[2, 3, 4, 5], [2, 3, 4], [], [], 0, [], [], [], []⟩),
  (4, ⟨[2, 3, 4, 5, 6], [2, 3, 4], [], [], 0, [], [], [], []⟩),
  (5, ⟨[2, 3, 4, 5, 6, 7], [2, 3, 4], [], [], 0, [], [], [], []⟩),
  (6, ⟨[2, 3, 4, 5, 6, 7, 21], [2, 3, 4], [], [], 0, [2, 3, 4, 5, 6, 7], [2, 3, 4], [], []⟩),
  (8, ⟨[2, 3, 4, 5, 6, 7, 35], [2, 3, 4], [], [], 12, [], [], [], []⟩),
  (9, ⟨[2, 3, 4, 5, 7], [2, 3, 4], [0, 3, 4], [], 0, [], [], [], []⟩),
  (10, ⟨[2, 3, 4, 5, 6, 7], [2, 3, 4], [], [], 0, [], [], [], []⟩),
  (11, ⟨[2, 3, 4, 5, 6, 7], [2, 3, 4], [0, 7, 8], [], 0, [], [], [], []⟩),
  (7, ⟨[2, 3, 4, 5, 6, 7], [2, 3, 4], [], [], 0, [], [], [], []⟩),
  (12, ⟨[2, 3, 4, 5, 49], [2, 3, 4], [], [], 0, [], [], [], []⟩),
  (13, ⟨[2, 4, 5], [2, 4], [0, 3, 4], [], 0, [], [], [], []⟩),
  (14, ⟨[4], [4], [5], [], 0, [], [], [], []⟩)]
noncomputable def ref06_Put.cx (k : Nat) : Cx := ⟨tt, pp, [(17, (ref04_Right.e k)),
  (25, (ref06_Has.e k)),
  (70, (ref04_Compare.e k)),
  (76, (ref06_filled.e k))], ref06_Put.regs, k⟩
@[reducible] def ref06_Put.sg : Sg := ⟨[.dat tDots, .dat tDot], [], .dat tDots, []⟩
noncomputable def ref06_Put.f (k : Nat) (a0 : Ty.D tDots) (a1 : Ty.D tDot) : Option (Sg.Out ref06_Put.sg) := Sg.fn ref06_Put.sg (ref06_Put.cx k) ref06_Put.body ref06_Put.rs (a0, a1)
noncomputable def ref06_Put.l6 (k : Nat) (n : Nat) (x5 : List (Ty.D tDot)) (x6 : Ty.D .bool) (x7 : Ty.D (.int .i64)) (m2 : Ty.D tDots) (m3 : Ty.D tDot) (m4a : Ty.D tVec) (m4b : List (Ty.D tDot)) : Option (Sg.Out ref06_Put.sg) := loopAt (ref06_Put.cx k) ref06_Put.body [1, 1, 1, 1, 0, 1, 0] 6 [2, 3, 4, 5, 6, 7] [2, 3, 4] [] (Sg.K ref06_Put.sg (ref06_Put.cx k) ref06_Put.rs) n ⟨[(2, .ref 2 []), (3, .ref 3 []), (4, .ref 4 []), (5, .own tDot x5), (6, .dat .bool x6), (7, .dat (.int .i64) x7)], [(2, .dat tDots m2), (3, .dat tDot m3), (4, .pr (.dat tVec m4a) (.own tDot m4b))]⟩
set_option maxRecDepth 100000 in
theorem ref06_Put.f_eq (k : Nat) (a0 : Ty.D tDots) (a1 : Ty.D tDot) : ref06_Put.f k a0 a1 =
  bnd (ref04_Right.f k a1) fun r0 =>
  br (bnot r0)
    (some a0)
    (bnd (ref06_Has.f k a0 a1) fun r1 =>
    br r1
      (some a0)
      (ref06_Put.l6 k k [] false 0 a0 a1 (zarr 16 0) [])) := by kernel_rfl
set_option maxRecDepth 100000 in
theorem ref06_Put.l6_eq (k : Nat) (n6 : Nat) (x5 : List (Ty.D tDot)) (x6 : Ty.D .bool) (x7 : Ty.D (.int .i64)) (m2 : Ty.D tDots) (m3 : Ty.D tDot) (m4a : Ty.D tVec) (m4b : List (Ty.D tDot)) : ref06_Put.l6 k (n6 + 1) x5 x6 x7 m2 m3 m4a m4b =
  br (ilt x7 (ilen m2.2))
    (br (bnot x6)
      (br (inL x7 m2.2)
        (bnd (ref04_Compare.f k m3 (rd tDot m2.2 (natOf x7))) fun r0 =>
        br (ilt r0 0)
          (br (room x5 (m3 :: []))
            (br (inL x7 m2.2)
              (br (room (app x5 (m3 :: [])) ((rd tDot m2.2 (natOf x7)) :: []))
                (ref06_Put.l6 k n6 (app (app x5 (m3 :: [])) ((rd tDot m2.2 (natOf x7)) :: [])) true (iadd .i64 x7 1) m2 m3 m4a m4b)
                (none))
              (none))
            (none))
          (br (inL x7 m2.2)
            (br (room x5 ((rd tDot m2.2 (natOf x7)) :: []))
              (ref06_Put.l6 k n6 (app x5 ((rd tDot m2.2 (natOf x7)) :: [])) x6 (iadd .i64 x7 1) m2 m3 m4a m4b)
              (none))
            (none)))
        (none))
      (br (inL x7 m2.2)
        (br (room x5 ((rd tDot m2.2 (natOf x7)) :: []))
          (ref06_Put.l6 k n6 (app x5 ((rd tDot m2.2 (natOf x7)) :: [])) x6 (iadd .i64 x7 1) m2 m3 m4a m4b)
          (none))
        (none)))
    (br (bnot x6)
      (br (room x5 (m3 :: []))
        (bnd (ref06_filled.f k (m2.1, (app x5 (m3 :: [])))) fun r1 =>
        some r1)
        (none))
      (bnd (ref06_filled.f k (m2.1, x5)) fun r2 =>
      some r2)) := by kernel_rfl
noncomputable def ref06_Put.e (k : Nat) : Entry := Sg.entry ref06_Put.sg fun x => ref06_Put.f k x.1 x.2
set_option maxRecDepth 100000 in
theorem ref06_Put.ok (k : Nat) : CallOK Try.prog 27 (ref06_Put.e k) :=
  fn_ok (c := ref06_Put.cx k) (code := ref06_Put.body) (TT.of tt_ok pp_ok) (fns_ok ⟨(ref04_Right.ok k), (ref06_Has.ok k), (ref04_Compare.ok k), (ref06_filled.ok k), trivial⟩) mixed Try.func27 (by kernel_rfl) (by kernel_rfl) (by kernel_rfl) (by kernel_rfl) (by kernel_rfl) (by kernel_rfl) (fun x => by kernel_rfl)
noncomputable def ref06_Of.body : Go.Code := Try.f20.body.getD .skip
noncomputable def ref06_Of.rs : List Go.ResultVar := Try.f20.results.toList
def ref06_Of.regs : List (Nat × RInfo) := [(0, ⟨[0, 2], [2], [], [], 0, [], [], [], []⟩),
  (1, ⟨[0, 2, 3], [2, 3], [2], [], 0, [], [], [], []⟩),
  (2, ⟨[0, 2, 3, 4], [2, 3], [], [], 0, [], [], [], []⟩),
  (3, ⟨[0, 2, 3, 4, 9], [2, 3], [], [], 0, [0, 2, 10000003, 4], [2, 10000003], [], []⟩),
  (5, ⟨[0, 2, 3, 4], [2, 3], [6], [], 6, [], [], [], [[], [], [], [], [], [0, 4], [0, 4]]⟩),
  (4, ⟨[0, 2, 3, 4], [2, 3], [], [], 0, [], [], [], []⟩),
  (6, ⟨[2], [2], [1], [], 0, [], [], [], []⟩)]
noncomputable def ref06_Of.cx (k : Nat) : Cx := ⟨tt, pp, [(27, (ref06_Put.e k))], ref06_Of.regs, k⟩
@[reducible] def ref06_Of.sg : Sg := ⟨[.dat (.slc tDot)], [], .dat tDots, []⟩
noncomputable def ref06_Of.f (k : Nat) (a0 : Ty.D (.slc tDot)) : Option (Sg.Out ref06_Of.sg) := Sg.fn ref06_Of.sg (ref06_Of.cx k) ref06_Of.body ref06_Of.rs a0
noncomputable def ref06_Of.l3 (k : Nat) (n : Nat) (x0 : Ty.D (.slc tDot)) (x4 : Ty.D (.int .i64)) (m2a : Ty.D tVec) (m2b : List (Ty.D tDot)) (m3 : Ty.D tDots) : Option (Sg.Out ref06_Of.sg) := loopAt (ref06_Of.cx k) ref06_Of.body [1, 1, 0, 1, 0] 3 [0, 2, 10000003, 4] [2, 10000003] [] (Sg.K ref06_Of.sg (ref06_Of.cx k) ref06_Of.rs) n ⟨[(0, .dat (.slc tDot) x0), (2, .ref 2 []), (3, .ref 3 []), (4, .dat (.int .i64) x4)], [(2, .pr (.dat tVec m2a) (.own tDot m2b)), (3, .dat tDots m3)]⟩
set_option maxRecDepth 100000 in
theorem ref06_Of.f_eq (k : Nat) (a0 : Ty.D (.slc tDot)) : ref06_Of.f k a0 =
  ref06_Of.l3 k k a0 0 (zarr 16 0) [] ((zarr 16 0), []) := by kernel_rfl
set_option maxRecDepth 100000 in
theorem ref06_Of.l3_eq (k : Nat) (n3 : Nat) (x0 : Ty.D (.slc tDot)) (x4 : Ty.D (.int .i64)) (m2a : Ty.D tVec) (m2b : List (Ty.D tDot)) (m3 : Ty.D tDots) : ref06_Of.l3 k (n3 + 1) x0 x4 m2a m2b m3 =
  br (ilt x4 (ilen x0))
    (br (inL x4 x0)
      (bnd (ref06_Put.f k m3 (rd tDot x0 (natOf x4))) fun r0 =>
      ref06_Of.l3 k n3 x0 (iadd .i64 x4 1) m2a m2b r0)
      (none))
    (some m3) := by kernel_rfl
noncomputable def ref06_Of.e (k : Nat) : Entry := Sg.entry ref06_Of.sg fun x => ref06_Of.f k x
set_option maxRecDepth 100000 in
theorem ref06_Of.ok (k : Nat) : CallOK Try.prog 20 (ref06_Of.e k) :=
  fn_ok (c := ref06_Of.cx k) (code := ref06_Of.body) (TT.of tt_ok pp_ok) (fns_ok ⟨(ref06_Put.ok k), trivial⟩) mixed Try.func20 (by kernel_rfl) (by kernel_rfl) (by kernel_rfl) (by kernel_rfl) (by kernel_rfl) (by kernel_rfl) (fun x => by kernel_rfl)
noncomputable def ref04_Same.body : Go.Code := Try.f52.body.getD .skip
noncomputable def ref04_Same.rs : List Go.ResultVar := Try.f52.results.toList
def ref04_Same.regs : List (Nat × RInfo) := [(0, ⟨[0, 1], [], [], [], 0, [], [], [], []⟩),
  (1, ⟨[0, 1, 10], [], [], [], 0, [], [], [], []⟩),
  (2, ⟨[4], [], [], [], 0, [], [], [], []⟩),
  (3, ⟨[0, 1, 5], [], [], [], 0, [], [], [], []⟩),
  (4, ⟨[0, 1, 5, 14], [], [], [], 0, [0, 1, 5], [], [], []⟩),
  (6, ⟨[0, 1, 5, 25], [], [], [], 9, [], [], [], []⟩),
  (7, ⟨[4], [], [], [], 0, [], [], [], []⟩),
  (5, ⟨[0, 1, 5], [], [], [], 0, [], [], [], []⟩),
  (8, ⟨[4], [], [], [], 0, [], [], [], []⟩)]
noncomputable def ref04_Same.cx (k : Nat) : Cx := ⟨tt, pp, [], ref04_Same.regs, k⟩
@[reducible] def ref04_Same.sg : Sg := ⟨[.dat (.slc tDot), .dat (.slc tDot)], [], .dat .bool, []⟩
noncomputable def ref04_Same.f (k : Nat) (a0 : Ty.D (.slc tDot)) (a1 : Ty.D (.slc tDot)) : Option (Sg.Out ref04_Same.sg) := Sg.fn ref04_Same.sg (ref04_Same.cx k) ref04_Same.body ref04_Same.rs (a0, a1)
noncomputable def ref04_Same.l4 (k : Nat) (n : Nat) (x0 : Ty.D (.slc tDot)) (x1 : Ty.D (.slc tDot)) (x5 : Ty.D (.int .i64)) : Option (Sg.Out ref04_Same.sg) := loopAt (ref04_Same.cx k) ref04_Same.body [1, 1, 0, 1, 0] 4 [0, 1, 5] [] [] (Sg.K ref04_Same.sg (ref04_Same.cx k) ref04_Same.rs) n ⟨[(0, .dat (.slc tDot) x0), (1, .dat (.slc tDot) x1), (5, .dat (.int .i64) x5)], []⟩
set_option maxRecDepth 100000 in
theorem ref04_Same.f_eq (k : Nat) (a0 : Ty.D (.slc tDot)) (a1 : Ty.D (.slc tDot)) : ref04_Same.f k a0 a1 =
  br (bnot (ieq (ilen a0) (ilen a1)))
    (some false)
    (ref04_Same.l4 k k a0 a1 0) := by kernel_rfl
set_option maxRecDepth 100000 in
theorem ref04_Same.l4_eq (k : Nat) (n4 : Nat) (x0 : Ty.D (.slc tDot)) (x1 : Ty.D (.slc tDot)) (x5 : Ty.D (.int .i64)) : ref04_Same.l4 k (n4 + 1) x0 x1 x5 =
  br (ilt x5 (ilen x0))
    (br (inL x5 x0)
      (br (inL x5 x1)
        (br (bnot (deq tDot (rd tDot x0 (natOf x5)) (rd tDot x1 (natOf x5))))
          (some false)
          (ref04_Same.l4 k n4 x0 x1 (iadd .i64 x5 1)))
        (none))
      (none))
    (some true) := by kernel_rfl
noncomputable def ref04_Same.e (k : Nat) : Entry := Sg.entry ref04_Same.sg fun x => ref04_Same.f k x.1 x.2
set_option maxRecDepth 100000 in
theorem ref04_Same.ok (k : Nat) : CallOK Try.prog 52 (ref04_Same.e k) :=
  fn_ok (c := ref04_Same.cx k) (code := ref04_Same.body) (TT.of tt_ok pp_ok) (fns_ok trivial) mixed Try.func52 (by kernel_rfl) (by kernel_rfl) (by kernel_rfl) (by kernel_rfl) (by kernel_rfl) (by kernel_rfl) (fun x => by kernel_rfl)
noncomputable def ref06_Same.body : Go.Code := Try.f19.body.getD .skip
noncomputable def ref06_Same.rs : List Go.ResultVar := Try.f19.results.toList
def ref06_Same.regs : List (Nat × RInfo) := [(0, ⟨[2, 3], [2, 3], [0, 1], [], 0, [], [], [], []⟩),
  (1, ⟨[4], [15], [], [], 0, [], [], [], []⟩)]
noncomputable def ref06_Same.cx (k : Nat) : Cx := ⟨tt, pp, [(52, (ref04_Same.e k))], ref06_Same.regs, k⟩
@[reducible] def ref06_Same.sg : Sg := ⟨[.dat tDots, .dat tDots], [], .dat .bool, []⟩
noncomputable def ref06_Same.f (k : Nat) (a0 : Ty.D tDots) (a1 : Ty.D tDots) : Option (Sg.Out ref06_Same.sg) := Sg.fn ref06_Same.sg (ref06_Same.cx k) ref06_Same.body ref06_Same.rs (a0, a1)
set_option maxRecDepth 100000 in
theorem ref06_Same.f_eq (k : Nat) (a0 : Ty.D tDots) (a1 : Ty.D tDots) : ref06_Same.f k a0 a1 =
  br (deq tVec a0.1 a1.1)
    (bnd (ref04_Same.f k a0.2 a1.2) fun r0 =>
    some r0)
    (some false) := by kernel_rfl
noncomputable def ref06_Same.e (k : Nat) : Entry := Sg.entry ref06_Same.sg fun x => ref06_Same.f k x.1 x.2
set_option maxRecDepth 100000 in
theorem ref06_Same.ok (k : Nat) : CallOK Try.prog 19 (ref06_Same.e k) :=
  fn_ok (c := ref06_Same.cx k) (code := ref06_Same.body) (TT.of tt_ok pp_ok) (fns_ok ⟨(ref04_Same.ok k), trivial⟩) mixed Try.func19 (by kernel_rfl) (by kernel_rfl) (by kernel_rfl) (by kernel_rfl) (by kernel_rfl) (by kernel_rfl) (fun x => by kernel_rfl)
noncomputable def ref05_Right.body : Go.Code := Try.f69.body.getD .skip
noncomputable def ref05_Right.rs : List Go.ResultVar := Try.f69.results.toList
def ref05_Right.regs : List (Nat × RInfo) := [(0, ⟨[1], [1], [], [], 0, [], [], [], []⟩),
  (1, ⟨[1, 3], [1], [], [], 0, [], [], [], []⟩),
  (2, ⟨[1, 3, 5], [1], [], [], 0, [1, 3], [1], [], []⟩),
  (4, ⟨[1, 3, 17], [1], [], [], 0, [], [], [], []⟩),
  (5, ⟨[2], [], [], [], 0, [], [], [], []⟩),
  (3, ⟨[1, 3], [1], [], [], 0, [], [], [], []⟩),
  (6, ⟨[2], [], [], [], 0, [], [], [], []⟩)]
noncomputable def ref05_Right.cx (k : Nat) : Cx := ⟨tt, pp, [], ref05_Right.regs, k⟩
@[reducible] def ref05_Right.sg : Sg := ⟨[.dat tVec], [], .dat .bool, []⟩
noncomputable def ref05_Right.f (k : Nat) (a0 : Ty.D tVec) : Option (Sg.Out ref05_Right.sg) := Sg.fn ref05_Right.sg (ref05_Right.cx k) ref05_Right.body ref05_Right.rs a0
noncomputable def ref05_Right.l2 (k : Nat) (n : Nat) (x3 : Ty.D (.int .i64)) (m1 : Ty.D tVec) : Option (Sg.Out ref05_Right.sg) := loopAt (ref05_Right.cx k) ref05_Right.body [1, 0, 1, 0] 2 [1, 3] [1] [] (Sg.K ref05_Right.sg (ref05_Right.cx k) ref05_Right.rs) n ⟨[(1, .ref 1 []), (3, .dat (.int .i64) x3)], [(1, .dat tVec m1)]⟩
set_option maxRecDepth 100000 in
theorem ref05_Right.f_eq (k : Nat) (a0 : Ty.D tVec) : ref05_Right.f k a0 =
  ref05_Right.l2 k k 0 a0 := by kernel_rfl
set_option maxRecDepth 100000 in
theorem ref05_Right.l2_eq (k : Nat) (n2 : Nat) (x3 : Ty.D (.int .i64)) (m1 : Ty.D tVec) : ref05_Right.l2 k (n2 + 1) x3 m1 =
  br (ilt x3 16)
    (br (inB x3 16)
      (br (ilt (rd (.int .i64) m1 (natOf x3)) 0)
        (some false)
        (br (inB x3 16)
          (br (ilt 1048576 (rd (.int .i64) m1 (natOf x3)))
            (some false)
            (ref05_Right.l2 k n2 (iadd .i64 x3 1) m1))
          (none)))
      (none))
    (some true) := by kernel_rfl
noncomputable def ref05_Right.e (k : Nat) : Entry := Sg.entry ref05_Right.sg fun x => ref05_Right.f k x
set_option maxRecDepth 100000 in
theorem ref05_Right.ok (k : Nat) : CallOK Try.prog 69 (ref05_Right.e k) :=
  fn_ok (c := ref05_Right.cx k) (code := ref05_Right.body) (TT.of tt_ok pp_ok) (fns_ok trivial) mixed Try.func69 (by kernel_rfl) (by kernel_rfl) (by kernel_rfl) (by kernel_rfl) (by kernel_rfl) (by kernel_rfl) (fun x => by kernel_rfl)
noncomputable def ref06_Right.body : Go.Code := Try.f22.body.getD .skip
noncomputable def ref06_Right.rs : List Go.ResultVar := Try.f22.results.toList
def ref06_Right.regs : List (Nat × RInfo) := [(0, ⟨[1], [1], [0], [], 0, [], [], [], []⟩),
  (1, ⟨[1, 14], [1], [], [], 0, [], [], [], []⟩),
  (2, ⟨[2], [], [], [], 0, [], [], [], []⟩),
  (3, ⟨[1, 3], [1], [], [], 0, [], [], [], []⟩),
  (4, ⟨[1, 3, 19], [1], [], [], 0, [1, 3], [1], [], []⟩),
  (6, ⟨[1, 3, 4], [1, 4], [], [], 0, [], [], [], []⟩),
  (7, ⟨[1, 3, 4, 40], [1, 4], [], [], 14, [], [], [], []⟩),
  (8, ⟨[2], [], [], [], 0, [], [], [], []⟩),
  (9, ⟨[1, 3, 53], [1], [], [], 13, [], [], [], []⟩),
  (10, ⟨[2], [], [], [], 0, [], [], [], []⟩),
  (5, ⟨[1, 3], [1], [], [], 0, [], [], [], []⟩),
  (11, ⟨[2], [], [], [], 0, [], [], [], []⟩)]
noncomputable def ref06_Right.cx (k : Nat) : Cx := ⟨tt, pp, [(69, (ref05_Right.e k)),
  (17, (ref04_Right.e k)),
  (70, (ref04_Compare.e k))], ref06_Right.regs, k⟩
@[reducible] def ref06_Right.sg : Sg := ⟨[.dat tDots], [], .dat .bool, []⟩
noncomputable def ref06_Right.f (k : Nat) (a0 : Ty.D tDots) : Option (Sg.Out ref06_Right.sg) := Sg.fn ref06_Right.sg (ref06_Right.cx k) ref06_Right.body ref06_Right.rs a0
noncomputable def ref06_Right.l4 (k : Nat) (n : Nat) (x3 : Ty.D (.int .i64)) (m1 : Ty.D tDots) : Option (Sg.Out ref06_Right.sg) := loopAt (ref06_Right.cx k) ref06_Right.body [1, 1, 0, 1, 0] 4 [1, 3] [1] [] (Sg.K ref06_Right.sg (ref06_Right.cx k) ref06_Right.rs) n ⟨[(1, .ref 1 []), (3, .dat (.int .i64) x3)], [(1, .dat tDots m1)]⟩
set_option maxRecDepth 100000 in
theorem ref06_Right.f_eq (k : Nat) (a0 : Ty.D tDots) : ref06_Right.f k a0 =
  bnd (ref05_Right.f k a0.1) fun r0 =>
  br (bnot r0)
    (some false)
    (br (ilt 4096 (ilen a0.2))
      (some false)
      (ref06_Right.l4 k k 0 a0)) := by kernel_rfl
set_option maxRecDepth 100000 in
theorem ref06_Right.l4_eq (k : Nat) (n4 : Nat) (x3 : Ty.D (.int .i64)) (m1 : Ty.D tDots) : ref06_Right.l4 k (n4 + 1) x3 m1 =
  br (ilt x3 (ilen m1.2))
    (br (inL x3 m1.2)
      (bnd (ref04_Right.f k (rd tDot m1.2 (natOf x3))) fun r0 =>
      br (bnot r0)
        (some false)
        (br (inB ((rd tDot m1.2 (natOf x3)).1) 16)
          (br (ile (isub .i64 ((rd tDot m1.2 (natOf x3)).2) 1) (rd (.int .i64) m1.1 (natOf ((rd tDot m1.2 (natOf x3)).1))))
            (some false)
            (br (ilt 0 x3)
              (br (inL (isub .i64 x3 1) m1.2)
                (bnd (ref04_Compare.f k (rd tDot m1.2 (natOf (isub .i64 x3 1))) (rd tDot m1.2 (natOf x3))) fun r1 =>
                br (bnot (ieq r1 (-1)))
                  (some false)
                  (ref06_Right.l4 k n4 (iadd .i64 x3 1) m1))
                (none))
              (ref06_Right.l4 k n4 (iadd .i64 x3 1) m1)))
          (none)))
      (none))
    (some true) := by kernel_rfl
noncomputable def ref06_Right.e (k : Nat) : Entry := Sg.entry ref06_Right.sg fun x => ref06_Right.f k x
set_option maxRecDepth 100000 in
theorem ref06_Right.ok (k : Nat) : CallOK Try.prog 22 (ref06_Right.e k) :=
  fn_ok (c := ref06_Right.cx k) (code := ref06_Right.body) (TT.of tt_ok pp_ok) (fns_ok ⟨(ref05_Right.ok k), (ref04_Right.ok k), (ref04_Compare.ok k), trivial⟩) mixed Try.func22 (by kernel_rfl) (by kernel_rfl) (by kernel_rfl) (by kernel_rfl) (by kernel_rfl) (by kernel_rfl) (fun x => by kernel_rfl)
noncomputable def law06_DotsOrder.body : Go.Code := Try.f4.body.getD .skip
noncomputable def law06_DotsOrder.rs : List Go.ResultVar := Try.f4.results.toList
def law06_DotsOrder.regs : List (Nat × RInfo) := [(0, ⟨[0, 3], [3], [], [], 0, [], [], [], []⟩),
  (1, ⟨[0, 3, 11], [3], [], [], 0, [], [], [], []⟩),
  (2, ⟨[4], [12, 45, 50, 54, 64], [], [], 0, [], [], [], []⟩),
  (3, ⟨[0, 3, 5], [3], [], [], 0, [], [], [], []⟩),
  (4, ⟨[0, 3, 5, 6], [3, 37], [], [], 0, [], [], [], []⟩),
  (5, ⟨[0, 3, 5, 6, 7], [3, 37], [], [], 0, [], [], [], []⟩),
  (6, ⟨[0, 3, 5, 6, 7, 17], [3, 37], [], [], 0, [0, 3, 5, 6, 7], [3, 37], [], []⟩),
  (8, ⟨[0, 3, 5, 6, 7], [3, 37], [0, 6, 7], [], 0, [], [], [], []⟩),
  (9, ⟨[0, 3, 5, 6, 7], [3, 37], [], [], 13, [], [], [], []⟩),
  (7, ⟨[0, 3, 5, 6, 7], [3, 37], [], [], 0, [], [], [], []⟩),
  (10, ⟨[0, 3, 5, 6, 8], [3, 8, 37], [3], [], 0, [], [], [], []⟩),
  (11, ⟨[4], [12, 45, 50, 54, 64], [], [], 24, [], [], [], []⟩)]
noncomputable def law06_DotsOrder.cx (k : Nat) : Cx := ⟨tt, pp, [(16, (law06_awake.e k)),
  (17, (ref04_Right.e k)),
  (18, (dots_Of.e k)),
  (20, (ref06_Of.e k)),
  (19, (ref06_Same.e k)),
  (21, (dots_Same.e k)),
  (22, (ref06_Right.e k)),
  (23, (dots_Has.e k))], law06_DotsOrder.regs, k⟩
@[reducible] def law06_DotsOrder.sg : Sg := ⟨[.dat (.slc tDot), .dat tDot], [], .dat .bool, []⟩
noncomputable def law06_DotsOrder.f (k : Nat) (a0 : Ty.D (.slc tDot)) (a1 : Ty.D tDot) : Option (Sg.Out law06_DotsOrder.sg) := Sg.fn law06_DotsOrder.sg (law06_DotsOrder.cx k) law06_DotsOrder.body law06_DotsOrder.rs (a0, a1)
noncomputable def law06_DotsOrder.l6 (k : Nat) (n : Nat) (x0 : Ty.D (.slc tDot)) (x5 : List (Ty.D tDot)) (x6 : Ty.D .bool) (x7 : Ty.D (.int .i64)) (m3 : Ty.D tDot) : Option (Sg.Out law06_DotsOrder.sg) := loopAt (law06_DotsOrder.cx k) law06_DotsOrder.body [1, 1, 1, 1, 0, 1, 0] 6 [0, 3, 5, 6, 7] [3, 37] [] (Sg.K law06_DotsOrder.sg (law06_DotsOrder.cx k) law06_DotsOrder.rs) n ⟨[(0, .dat (.slc tDot) x0), (3, .ref 3 []), (5, .own tDot x5), (6, .dat .bool x6), (7, .dat (.int .i64) x7)], [(3, .dat tDot m3)]⟩
set_option maxRecDepth 100000 in
theorem law06_DotsOrder.f_eq (k : Nat) (a0 : Ty.D (.slc tDot)) (a1 : Ty.D tDot) : law06_DotsOrder.f k a0 a1 =
  br (ilt 60 (ilen a0))
    (bnd (law06_awake.f k) fun r0 =>
    some r0)
    (law06_DotsOrder.l6 k k a0 [] false (isub .i64 (ilen a0) 1) a1) := by kernel_rfl
set_option maxRecDepth 100000 in
theorem law06_DotsOrder.l6_eq (k : Nat) (n6 : Nat) (x0 : Ty.D (.slc tDot)) (x5 : List (Ty.D tDot)) (x6 : Ty.D .bool) (x7 : Ty.D (.int .i64)) (m3 : Ty.D tDot) : law06_DotsOrder.l6 k (n6 + 1) x0 x5 x6 x7 m3 =
  br (ile 0 x7)
    (br (inL x7 x0)
      (br (room x5 ((rd tDot x0 (natOf x7)) :: []))
        (br x6
          (law06_DotsOrder.l6 k n6 x0 (app x5 ((rd tDot x0 (natOf x7)) :: [])) true (isub .i64 x7 1) m3)
          (br (inL x7 x0)
            (br (deq tDot (rd tDot x0 (natOf x7)) m3)
              (bnd (ref04_Right.f k m3) fun r0 =>
              law06_DotsOrder.l6 k n6 x0 (app x5 ((rd tDot x0 (natOf x7)) :: [])) r0 (isub .i64 x7 1) m3)
              (law06_DotsOrder.l6 k n6 x0 (app x5 ((rd tDot x0 (natOf x7)) :: [])) false (isub .i64 x7 1) m3))
            (none)))
        (none))
      (none))
    (bnd (dots_Of.f k x0) fun r1 =>
    bnd (ref06_Of.f k x0) fun r2 =>
    bnd (ref06_Same.f k r1 r2) fun r3 =>
    br r3
      (bnd (dots_Of.f k x5) fun r4 =>
      bnd (dots_Same.f k r1 r4) fun r5 =>
      br r5
        (bnd (ref06_Right.f k r1) fun r6 =>
        br r6
          (bnd (dots_Has.f k r1 m3) fun r7 =>
          br (deq .bool r7 x6)
            (bnd (law06_awake.f k) fun r8 =>
            some r8)
            (some false))
          (some false))
        (some false))
      (some false)) := by kernel_rfl
noncomputable def law06_DotsOrder.e (k : Nat) : Entry := Sg.entry law06_DotsOrder.sg fun x => law06_DotsOrder.f k x.1 x.2
set_option maxRecDepth 100000 in
theorem law06_DotsOrder.ok (k : Nat) : CallOK Try.prog 4 (law06_DotsOrder.e k) :=
  fn_ok (c := law06_DotsOrder.cx k) (code := law06_DotsOrder.body) (TT.of tt_ok pp_ok) (fns_ok ⟨(law06_awake.ok k), (ref04_Right.ok k), (dots_Of.ok k), (ref06_Of.ok k), (ref06_Same.ok k), (dots_Same.ok k), (ref06_Right.ok k), (dots_Has.ok k), trivial⟩) mixed Try.func4 (by kernel_rfl) (by kernel_rfl) (by kernel_rfl) (by kernel_rfl) (by kernel_rfl) (by kernel_rfl) (fun x => by kernel_rfl)
noncomputable def vec_Right.body : Go.Code := Try.f73.body.getD .skip
noncomputable def vec_Right.rs : List Go.ResultVar := Try.f73.results.toList
def vec_Right.regs : List (Nat × RInfo) := [(0, ⟨[1], [1], [], [], 0, [], [], [], []⟩),
  (1, ⟨[5, 6], [], [], [], 0, [], [], [], []⟩),
  (2, ⟨[5, 6, 7], [], [], [], 0, [5, 6], [], [], []⟩),
  (3, ⟨[4, 5, 6], [], [], [], 0, [], [], [], []⟩),
  (4, ⟨[5, 6, 14], [], [], [], 0, [], [], [], []⟩),
  (5, ⟨[2], [], [], [], 0, [], [], [], []⟩),
  (6, ⟨[5, 6], [], [], [], 0, [], [], [], []⟩),
  (7, ⟨[2], [], [], [], 0, [], [], [], []⟩)]
noncomputable def vec_Right.cx (k : Nat) : Cx := ⟨tt, pp, [], vec_Right.regs, k⟩
@[reducible] def vec_Right.sg : Sg := ⟨[.dat tVec], [], .dat .bool, []⟩
noncomputable def vec_Right.f (k : Nat) (a0 : Ty.D tVec) : Option (Sg.Out vec_Right.sg) := Sg.fn vec_Right.sg (vec_Right.cx k) vec_Right.body vec_Right.rs a0
noncomputable def vec_Right.l2 (k : Nat) (n : Nat) (x5 : Ty.D tVec) (x6 : Ty.D (.int .i64)) : Option (Sg.Out vec_Right.sg) := loopAt (vec_Right.cx k) vec_Right.body [1, 0, 1, 0] 2 [5, 6] [] [] (Sg.K vec_Right.sg (vec_Right.cx k) vec_Right.rs) n ⟨[(5, .dat tVec x5), (6, .dat (.int .i64) x6)], []⟩
set_option maxRecDepth 100000 in
theorem vec_Right.f_eq (k : Nat) (a0 : Ty.D tVec) : vec_Right.f k a0 =
  vec_Right.l2 k k a0 0 := by kernel_rfl
set_option maxRecDepth 100000 in
theorem vec_Right.l2_eq (k : Nat) (n2 : Nat) (x5 : Ty.D tVec) (x6 : Ty.D (.int .i64)) : vec_Right.l2 k (n2 + 1) x5 x6 =
  br (ilt x6 16)
    (br (inB x6 16)
      (br (ilt (rd (.int .i64) x5 (natOf x6)) 0)
        (some false)
        (br (ilt 1048576 (rd (.int .i64) x5 (natOf x6)))
          (some false)
          (vec_Right.l2 k n2 x5 (iadd .i64 x6 1))))
      (none))
    (some true) := by kernel_rfl
noncomputable def vec_Right.e (k : Nat) : Entry := Sg.entry vec_Right.sg fun x => vec_Right.f k x
set_option maxRecDepth 100000 in
theorem vec_Right.ok (k : Nat) : CallOK Try.prog 73 (vec_Right.e k) :=
  fn_ok (c := vec_Right.cx k) (code := vec_Right.body) (TT.of tt_ok pp_ok) (fns_ok trivial) mixed Try.func73 (by kernel_rfl) (by kernel_rfl) (by kernel_rfl) (by kernel_rfl) (by kernel_rfl) (by kernel_rfl) (fun x => by kernel_rfl)
noncomputable def dots_Right.body : Go.Code := Try.f24.body.getD .skip
noncomputable def dots_Right.rs : List Go.ResultVar := Try.f24.results.toList
def dots_Right.regs : List (Nat × RInfo) := [(0, ⟨[1], [1], [0], [], 0, [], [], [], []⟩),
  (1, ⟨[1, 14], [1], [], [], 0, [], [], [], []⟩),
  (2, ⟨[2], [], [], [], 0, [], [], [], []⟩),
  (3, ⟨[1, 16, 17, 18], [1], [], [], 0, [], [], [], []⟩),
  (4, ⟨[1, 16, 17, 18, 19], [1], [], [], 0, [1, 16, 17, 18], [1], [], []⟩),
  (5, ⟨[1, 3, 4, 16, 17, 18], [1, 4], [], [], 0, [], [], [], []⟩),
  (6, ⟨[1, 16, 17, 18, 51], [1], [], [], 29, [], [], [], []⟩),
  (7, ⟨[2], [], [], [], 0, [], [], [], []⟩),
  (8, ⟨[1, 16, 17, 18], [1], [], [], 0, [], [], [], []⟩),
  (9, ⟨[2], [], [], [], 0, [], [], [], []⟩)]
noncomputable def dots_Right.cx (k : Nat) : Cx := ⟨tt, pp, [(73, (vec_Right.e k)),
  (64, (dot_Right.e k)),
  (66, (dot_Compare.e k))], dots_Right.regs, k⟩
@[reducible] def dots_Right.sg : Sg := ⟨[.dat tDots], [], .dat .bool, []⟩
noncomputable def dots_Right.f (k : Nat) (a0 : Ty.D tDots) : Option (Sg.Out dots_Right.sg) := Sg.fn dots_Right.sg (dots_Right.cx k) dots_Right.body dots_Right.rs a0
noncomputable def dots_Right.l4 (k : Nat) (n : Nat) (x16 : Ty.D (.slc tDot)) (x17 : Ty.D (.int .i64)) (x18 : Ty.D (.int .i64)) (m1 : Ty.D tDots) : Option (Sg.Out dots_Right.sg) := loopAt (dots_Right.cx k) dots_Right.body [1, 1, 0, 1, 0] 4 [1, 16, 17, 18] [1] [] (Sg.K dots_Right.sg (dots_Right.cx k) dots_Right.rs) n ⟨[(1, .ref 1 []), (16, .dat (.slc tDot) x16), (17, .dat (.int .i64) x17), (18, .dat (.int .i64) x18)], [(1, .dat tDots m1)]⟩
set_option maxRecDepth 100000 in
theorem dots_Right.f_eq (k : Nat) (a0 : Ty.D tDots) : dots_Right.f k a0 =
  bnd (vec_Right.f k a0.1) fun r0 =>
  br (bnot r0)
    (some false)
    (br (ilt 4096 (ilen a0.2))
      (some false)
      (dots_Right.l4 k k a0.2 (ilen a0.2) 0 a0)) := by kernel_rfl
set_option maxRecDepth 100000 in
theorem dots_Right.l4_eq (k : Nat) (n4 : Nat) (x16 : Ty.D (.slc tDot)) (x17 : Ty.D (.int .i64)) (x18 : Ty.D (.int .i64)) (m1 : Ty.D tDots) : dots_Right.l4 k (n4 + 1) x16 x17 x18 m1 =
  br (ilt x18 x17)
    (br (inL x18 x16)
      (bnd (dot_Right.f k (rd tDot x16 (natOf x18))) fun r0 =>
      br (bnot r0)
        (some false)
        (br (inB ((rd tDot x16 (natOf x18)).1) 16)
          (br (ile ((rd tDot x16 (natOf x18)).2) (iadd .i64 (rd (.int .i64) m1.1 (natOf ((rd tDot x16 (natOf x18)).1))) 1))
            (some false)
            (br (ilt 0 x18)
              (br (inL (isub .i64 x18 1) m1.2)
                (bnd (dot_Compare.f k (rd tDot m1.2 (natOf (isub .i64 x18 1))) (rd tDot x16 (natOf x18))) fun r1 =>
                br (ile 0 r1)
                  (some false)
                  (dots_Right.l4 k n4 x16 x17 (iadd .i64 x18 1) m1))
                (none))
              (dots_Right.l4 k n4 x16 x17 (iadd .i64 x18 1) m1)))
          (none)))
      (none))
    (some true) := by kernel_rfl
noncomputable def dots_Right.e (k : Nat) : Entry := Sg.entry dots_Right.sg fun x => dots_Right.f k x
set_option maxRecDepth 100000 in
theorem dots_Right.ok (k : Nat) : CallOK Try.prog 24 (dots_Right.e k) :=
  fn_ok (c := dots_Right.cx k) (code := dots_Right.body) (TT.of tt_ok pp_ok) (fns_ok ⟨(vec_Right.ok k), (dot_Right.ok k), (dot_Compare.ok k), trivial⟩) mixed Try.func24 (by kernel_rfl) (by kernel_rfl) (by kernel_rfl) (by kernel_rfl) (by kernel_rfl) (by kernel_rfl) (fun x => by kernel_rfl)
noncomputable def dots_Next.body : Go.Code := Try.f28.body.getD .skip
noncomputable def dots_Next.rs : List Go.ResultVar := Try.f28.results.toList
def dots_Next.regs : List (Nat × RInfo) := [(0, ⟨[1, 2], [2], [0], [], 0, [], [], [], []⟩),
  (1, ⟨[1, 2, 13], [2], [], [], 0, [], [], [], []⟩),
  (2, ⟨[4], [], [], [], 0, [], [], [], []⟩),
  (3, ⟨[1, 2, 5], [2], [], [], 0, [], [], [], []⟩),
  (4, ⟨[1, 5, 19, 20, 21], [], [], [], 0, [], [], [], []⟩),
  (5, ⟨[1, 5, 19, 20, 21, 22], [], [], [], 0, [1, 5, 19, 20, 21], [], [], []⟩),
  (6, ⟨[1, 5, 7, 19, 20, 21], [7], [], [], 0, [], [], [], []⟩),
  (7, ⟨[1, 5, 7, 19, 20, 21, 28], [7], [], [], 0, [], [], [], []⟩),
  (8, ⟨[1, 5, 19, 20, 21], [], [], [], 0, [], [], [], []⟩),
  (9, ⟨[1, 5, 19, 20, 21], [], [], [], 0, [], [], [], []⟩),
  (10, ⟨[4], [], [], [], 0, [], [], [], []⟩)]
noncomputable def dots_Next.cx (k : Nat) : Cx := ⟨tt, pp, [], dots_Next.regs, k⟩
@[reducible] def dots_Next.sg : Sg := ⟨[.dat tDots, .dat (.int .i64)], [], .dat (.int .i64), []⟩
noncomputable def dots_Next.f (k : Nat) (a0 : Ty.D tDots) (a1 : Ty.D (.int .i64)) : Option (Sg.Out dots_Next.sg) := Sg.fn dots_Next.sg (dots_Next.cx k) dots_Next.body dots_Next.rs (a0, a1)
noncomputable def dots_Next.l5 (k : Nat) (n : Nat) (x1 : Ty.D (.int .i64)) (x5 : Ty.D (.int .i64)) (x19 : Ty.D (.slc tDot)) (x20 : Ty.D (.int .i64)) (x21 : Ty.D (.int .i64)) : Option (Sg.Out dots_Next.sg) := loopAt (dots_Next.cx k) dots_Next.body [1, 1, 1, 0, 1, 0] 5 [1, 5, 19, 20, 21] [] [] (Sg.K dots_Next.sg (dots_Next.cx k) dots_Next.rs) n ⟨[(1, .dat (.int .i64) x1), (5, .dat (.int .i64) x5), (19, .dat (.slc tDot) x19), (20, .dat (.int .i64) x20), (21, .dat (.int .i64) x21)], []⟩
set_option maxRecDepth 100000 in
theorem dots_Next.f_eq (k : Nat) (a0 : Ty.D tDots) (a1 : Ty.D (.int .i64)) : dots_Next.f k a0 a1 =
  br (ilt a1 0)
    (some 0)
    (br (ile 16 a1)
      (some 0)
      (br (inB a1 16)
        (dots_Next.l5 k k a1 (rd (.int .i64) a0.1 (natOf a1)) a0.2 (ilen a0.2) 0)
        (none))) := by kernel_rfl
set_option maxRecDepth 100000 in
theorem dots_Next.l5_eq (k : Nat) (n5 : Nat) (x1 : Ty.D (.int .i64)) (x5 : Ty.D (.int .i64)) (x19 : Ty.D (.slc tDot)) (x20 : Ty.D (.int .i64)) (x21 : Ty.D (.int .i64)) : dots_Next.l5 k (n5 + 1) x1 x5 x19 x20 x21 =
  br (ilt x21 x20)
    (br (inL x21 x19)
      (br (ieq ((rd tDot x19 (natOf x21)).1) x1)
        (dots_Next.l5 k n5 x1 ((rd tDot x19 (natOf x21)).2) x19 x20 (iadd .i64 x21 1))
        (dots_Next.l5 k n5 x1 x5 x19 x20 (iadd .i64 x21 1)))
      (none))
    (some (iadd .i64 x5 1)) := by kernel_rfl
noncomputable def dots_Next.e (k : Nat) : Entry := Sg.entry dots_Next.sg fun x => dots_Next.f k x.1 x.2
set_option maxRecDepth 100000 in
theorem dots_Next.ok (k : Nat) : CallOK Try.prog 28 (dots_Next.e k) :=
  fn_ok (c := dots_Next.cx k) (code := dots_Next.body) (TT.of tt_ok pp_ok) (fns_ok trivial) mixed Try.func28 (by kernel_rfl) (by kernel_rfl) (by kernel_rfl) (by kernel_rfl) (by kernel_rfl) (by kernel_rfl) (fun x => by kernel_rfl)
noncomputable def ref06_Next.body : Go.Code := Try.f29.body.getD .skip
noncomputable def ref06_Next.rs : List Go.ResultVar := Try.f29.results.toList
def ref06_Next.regs : List (Nat × RInfo) := [(0, ⟨[1, 2], [2], [0], [], 0, [], [], [], []⟩),
  (1, ⟨[1, 2, 12], [2], [], [], 0, [], [], [], []⟩),
  (2, ⟨[4], [], [], [], 0, [], [], [], []⟩),
  (3, ⟨[1, 2, 5], [2], [], [], 0, [], [], [], []⟩),
  (4, ⟨[1, 2, 5, 6], [2], [], [], 0, [], [], [], []⟩),
  (5, ⟨[1, 2, 5, 6, 21], [2], [], [], 0, [1, 2, 5, 6], [2], [], []⟩),
  (7, ⟨[1, 2, 5, 6, 41], [2], [], [], 0, [], [], [], []⟩),
  (8, ⟨[1, 2, 5, 6], [2], [], [], 0, [], [], [], []⟩),
  (6, ⟨[1, 2, 5, 6], [2], [], [], 0, [], [], [], []⟩),
  (9, ⟨[4], [], [], [], 0, [], [], [], []⟩)]
noncomputable def ref06_Next.cx (k : Nat) : Cx := ⟨tt, pp, [], ref06_Next.regs, k⟩
@[reducible] def ref06_Next.sg : Sg := ⟨[.dat tDots, .dat (.int .i64)], [], .dat (.int .i64), []⟩
noncomputable def ref06_Next.f (k : Nat) (a0 : Ty.D tDots) (a1 : Ty.D (.int .i64)) : Option (Sg.Out ref06_Next.sg) := Sg.fn ref06_Next.sg (ref06_Next.cx k) ref06_Next.body ref06_Next.rs (a0, a1)
noncomputable def ref06_Next.l5 (k : Nat) (n : Nat) (x1 : Ty.D (.int .i64)) (x5 : Ty.D (.int .i64)) (x6 : Ty.D (.int .i64)) (m2 : Ty.D tDots) : Option (Sg.Out ref06_Next.sg) := loopAt (ref06_Next.cx k) ref06_Next.body [1, 1, 1, 0, 1, 0] 5 [1, 2, 5, 6] [2] [] (Sg.K ref06_Next.sg (ref06_Next.cx k) ref06_Next.rs) n ⟨[(1, .dat (.int .i64) x1), (2, .ref 2 []), (5, .dat (.int .i64) x5), (6, .dat (.int .i64) x6)], [(2, .dat tDots m2)]⟩
set_option maxRecDepth 100000 in
theorem ref06_Next.f_eq (k : Nat) (a0 : Ty.D tDots) (a1 : Ty.D (.int .i64)) : ref06_Next.f k a0 a1 =
  br (ilt a1 0)
    (some 0)
    (br (ilt 15 a1)
      (some 0)
      (br (inB a1 16)
        (ref06_Next.l5 k k a1 (rd (.int .i64) a0.1 (natOf a1)) 0 a0)
        (none))) := by kernel_rfl
set_option maxRecDepth 100000 in
theorem ref06_Next.l5_eq (k : Nat) (n5 : Nat) (x1 : Ty.D (.int .i64)) (x5 : Ty.D (.int .i64)) (x6 : Ty.D (.int .i64)) (m2 : Ty.D tDots) : ref06_Next.l5 k (n5 + 1) x1 x5 x6 m2 =
  br (ilt x6 (ilen m2.2))
    (br (inL x6 m2.2)
      (br (ieq ((rd tDot m2.2 (natOf x6)).1) x1)
        (br (inL x6 m2.2)
          (br (ilt x5 ((rd tDot m2.2 (natOf x6)).2))
            (br (inL x6 m2.2)
              (ref06_Next.l5 k n5 x1 ((rd tDot m2.2 (natOf x6)).2) (iadd .i64 x6 1) m2)
              (none))
            (ref06_Next.l5 k n5 x1 x5 (iadd .i64 x6 1) m2))
          (none))
        (ref06_Next.l5 k n5 x1 x5 (iadd .i64 x6 1) m2))
      (none))
    (some (iadd .i64 x5 1)) := by kernel_rfl
noncomputable def ref06_Next.e (k : Nat) : Entry := Sg.entry ref06_Next.sg fun x => ref06_Next.f k x.1 x.2
set_option maxRecDepth 100000 in
theorem ref06_Next.ok (k : Nat) : CallOK Try.prog 29 (ref06_Next.e k) :=
  fn_ok (c := ref06_Next.cx k) (code := ref06_Next.body) (TT.of tt_ok pp_ok) (fns_ok trivial) mixed Try.func29 (by kernel_rfl) (by kernel_rfl) (by kernel_rfl) (by kernel_rfl) (by kernel_rfl) (by kernel_rfl) (fun x => by kernel_rfl)
noncomputable def vec_Count.body : Go.Code := Try.f77.body.getD .skip
noncomputable def vec_Count.rs : List Go.ResultVar := Try.f77.results.toList
def vec_Count.regs : List (Nat × RInfo) := [(0, ⟨[1], [1], [], [], 0, [], [], [], []⟩),
  (1, ⟨[1, 3], [1], [], [], 0, [], [], [], []⟩),
  (2, ⟨[3, 6, 7], [], [], [], 0, [], [], [], []⟩),
  (3, ⟨[3, 6, 7, 8], [], [], [], 0, [3, 6, 7], [], [], []⟩),
  (4, ⟨[3, 5, 6, 7], [], [], [], 0, [], [], [], []⟩),
  (5, ⟨[3, 6, 7], [], [], [], 0, [], [], [], []⟩),
  (6, ⟨[3, 6, 7], [], [], [], 0, [], [], [], []⟩),
  (7, ⟨[2], [], [], [], 0, [], [], [], []⟩)]
noncomputable def vec_Count.cx (k : Nat) : Cx := ⟨tt, pp, [], vec_Count.regs, k⟩
@[reducible] def vec_Count.sg : Sg := ⟨[.dat tVec], [], .dat (.int .i64), []⟩
noncomputable def vec_Count.f (k : Nat) (a0 : Ty.D tVec) : Option (Sg.Out vec_Count.sg) := Sg.fn vec_Count.sg (vec_Count.cx k) vec_Count.body vec_Count.rs a0
noncomputable def vec_Count.l3 (k : Nat) (n : Nat) (x3 : Ty.D (.int .i64)) (x6 : Ty.D tVec) (x7 : Ty.D (.int .i64)) : Option (Sg.Out vec_Count.sg) := loopAt (vec_Count.cx k) vec_Count.body [1, 1, 0, 1, 0] 3 [3, 6, 7] [] [] (Sg.K vec_Count.sg (vec_Count.cx k) vec_Count.rs) n ⟨[(3, .dat (.int .i64) x3), (6, .dat tVec x6), (7, .dat (.int .i64) x7)], []⟩
set_option maxRecDepth 100000 in
theorem vec_Count.f_eq (k : Nat) (a0 : Ty.D tVec) : vec_Count.f k a0 =
  vec_Count.l3 k k 0 a0 0 := by kernel_rfl
set_option maxRecDepth 100000 in
theorem vec_Count.l3_eq (k : Nat) (n3 : Nat) (x3 : Ty.D (.int .i64)) (x6 : Ty.D tVec) (x7 : Ty.D (.int .i64)) : vec_Count.l3 k (n3 + 1) x3 x6 x7 =
  br (ilt x7 16)
    (br (inB x7 16)
      (vec_Count.l3 k n3 (iadd .i64 x3 (imax 0 (rd (.int .i64) x6 (natOf x7)))) x6 (iadd .i64 x7 1))
      (none))
    (some x3) := by kernel_rfl
noncomputable def vec_Count.e (k : Nat) : Entry := Sg.entry vec_Count.sg fun x => vec_Count.f k x
set_option maxRecDepth 100000 in
theorem vec_Count.ok (k : Nat) : CallOK Try.prog 77 (vec_Count.e k) :=
  fn_ok (c := vec_Count.cx k) (code := vec_Count.body) (TT.of tt_ok pp_ok) (fns_ok trivial) mixed Try.func77 (by kernel_rfl) (by kernel_rfl) (by kernel_rfl) (by kernel_rfl) (by kernel_rfl) (by kernel_rfl) (fun x => by kernel_rfl)
noncomputable def dots_Count.body : Go.Code := Try.f30.body.getD .skip
noncomputable def dots_Count.rs : List Go.ResultVar := Try.f30.results.toList
def dots_Count.regs : List (Nat × RInfo) := [(0, ⟨[1], [1], [0], [], 0, [], [], [], []⟩),
  (1, ⟨[2], [], [], [], 7, [], [], [], []⟩)]
noncomputable def dots_Count.cx (k : Nat) : Cx := ⟨tt, pp, [(77, (vec_Count.e k))], dots_Count.regs, k⟩
@[reducible] def dots_Count.sg : Sg := ⟨[.dat tDots], [], .dat (.int .i64), []⟩
noncomputable def dots_Count.f (k : Nat) (a0 : Ty.D tDots) : Option (Sg.Out dots_Count.sg) := Sg.fn dots_Count.sg (dots_Count.cx k) dots_Count.body dots_Count.rs a0
set_option maxRecDepth 100000 in
theorem dots_Count.f_eq (k : Nat) (a0 : Ty.D tDots) : dots_Count.f k a0 =
  bnd (vec_Count.f k a0.1) fun r0 =>
  some (iadd .i64 r0 (ilen a0.2)) := by kernel_rfl
noncomputable def dots_Count.e (k : Nat) : Entry := Sg.entry dots_Count.sg fun x => dots_Count.f k x
set_option maxRecDepth 100000 in
theorem dots_Count.ok (k : Nat) : CallOK Try.prog 30 (dots_Count.e k) :=
  fn_ok (c := dots_Count.cx k) (code := dots_Count.body) (TT.of tt_ok pp_ok) (fns_ok ⟨(vec_Count.ok k), trivial⟩) mixed Try.func30 (by kernel_rfl) (by kernel_rfl) (by kernel_rfl) (by kernel_rfl) (by kernel_rfl) (by kernel_rfl) (fun x => by kernel_rfl)
noncomputable def law06_count.body : Go.Code := Try.f31.body.getD .skip
noncomputable def law06_count.rs : List Go.ResultVar := Try.f31.results.toList
def law06_count.regs : List (Nat × RInfo) := [(0, ⟨[1], [1], [0], [], 0, [], [], [], []⟩),
  (1, ⟨[1, 3], [1], [], [], 0, [], [], [], []⟩),
  (2, ⟨[1, 3, 4], [1], [], [], 0, [], [], [], []⟩),
  (3, ⟨[1, 3, 4, 9], [1], [], [], 0, [1, 3, 4], [1], [], []⟩),
  (5, ⟨[1, 3, 4], [1], [], [], 0, [], [], [], []⟩),
  (4, ⟨[1, 3, 4], [1], [], [], 0, [], [], [], []⟩),
  (6, ⟨[2], [], [], [], 0, [], [], [], []⟩)]
noncomputable def law06_count.cx (k : Nat) : Cx := ⟨tt, pp, [], law06_count.regs, k⟩
@[reducible] def law06_count.sg : Sg := ⟨[.dat tDots], [], .dat (.int .i64), []⟩
noncomputable def law06_count.f (k : Nat) (a0 : Ty.D tDots) : Option (Sg.Out law06_count.sg) := Sg.fn law06_count.sg (law06_count.cx k) law06_count.body law06_count.rs a0
noncomputable def law06_count.l3 (k : Nat) (n : Nat) (x3 : Ty.D (.int .i64)) (x4 : Ty.D (.int .i64)) (m1 : Ty.D tDots) : Option (Sg.Out law06_count.sg) := loopAt (law06_count.cx k) law06_count.body [1, 1, 0, 1, 0] 3 [1, 3, 4] [1] [] (Sg.K law06_count.sg (law06_count.cx k) law06_count.rs) n ⟨[(1, .ref 1 []), (3, .dat (.int .i64) x3), (4, .dat (.int .i64) x4)], [(1, .dat tDots m1)]⟩
set_option maxRecDepth 100000 in
theorem law06_count.f_eq (k : Nat) (a0 : Ty.D tDots) : law06_count.f k a0 =
  law06_count.l3 k k (ilen a0.2) 0 a0 := by kernel_rfl
set_option maxRecDepth 100000 in
theorem law06_count.l3_eq (k : Nat) (n3 : Nat) (x3 : Ty.D (.int .i64)) (x4 : Ty.D (.int .i64)) (m1 : Ty.D tDots) : law06_count.l3 k (n3 + 1) x3 x4 m1 =
  br (ilt x4 16)
    (br (inB x4 16)
      (law06_count.l3 k n3 (iadd .i64 x3 (rd (.int .i64) m1.1 (natOf x4))) (iadd .i64 x4 1) m1)
      (none))
    (some x3) := by kernel_rfl
noncomputable def law06_count.e (k : Nat) : Entry := Sg.entry law06_count.sg fun x => law06_count.f k x
set_option maxRecDepth 100000 in
theorem law06_count.ok (k : Nat) : CallOK Try.prog 31 (law06_count.e k) :=
  fn_ok (c := law06_count.cx k) (code := law06_count.body) (TT.of tt_ok pp_ok) (fns_ok trivial) mixed Try.func31 (by kernel_rfl) (by kernel_rfl) (by kernel_rfl) (by kernel_rfl) (by kernel_rfl) (by kernel_rfl) (fun x => by kernel_rfl)
noncomputable def law06_DotsTell.body : Go.Code := Try.f5.body.getD .skip
noncomputable def law06_DotsTell.rs : List Go.ResultVar := Try.f5.results.toList
def law06_DotsTell.regs : List (Nat × RInfo) := [(0, ⟨[2, 3, 4], [3, 4], [0], [], 0, [], [], [], []⟩),
  (1, ⟨[2, 3, 4, 10], [3, 4], [], [], 0, [], [], [], []⟩),
  (2, ⟨[6], [11, 20, 35, 54], [], [], 0, [], [], [], []⟩),
  (3, ⟨[2, 3, 4, 16], [3, 4], [], [], 5, [], [], [], []⟩),
  (4, ⟨[6], [11, 20, 35, 54], [], [], 0, [], [], [], []⟩),
  (5, ⟨[2, 3, 4, 19], [3, 4], [], [], 0, [], [], [], []⟩),
  (6, ⟨[6], [11, 20, 35, 54], [], [], 0, [], [], [], []⟩),
  (7, ⟨[6], [11, 20, 35, 54], [], [], 35, [], [], [], []⟩)]
noncomputable def law06_DotsTell.cx (k : Nat) : Cx := ⟨tt, pp, [(16, (law06_awake.e k)),
  (24, (dots_Right.e k)),
  (22, (ref06_Right.e k)),
  (23, (dots_Has.e k)),
  (25, (ref06_Has.e k)),
  (26, (dots_Put.e k)),
  (27, (ref06_Put.e k)),
  (19, (ref06_Same.e k)),
  (28, (dots_Next.e k)),
  (29, (ref06_Next.e k)),
  (30, (dots_Count.e k)),
  (31, (law06_count.e k))], law06_DotsTell.regs, k⟩
@[reducible] def law06_DotsTell.sg : Sg := ⟨[.dat tDots, .dat tDot, .dat (.int .i64)], [], .dat .bool, []⟩
noncomputable def law06_DotsTell.f (k : Nat) (a0 : Ty.D tDots) (a1 : Ty.D tDot) (a2 : Ty.D (.int .i64)) : Option (Sg.Out law06_DotsTell.sg) := Sg.fn law06_DotsTell.sg (law06_DotsTell.cx k) law06_DotsTell.body law06_DotsTell.rs (a0, a1, a2)
set_option maxRecDepth 100000 in
theorem law06_DotsTell.f_eq (k : Nat) (a0 : Ty.D tDots) (a1 : Ty.D tDot) (a2 : Ty.D (.int .i64)) : law06_DotsTell.f k a0 a1 a2 =
  br (ilt 100 (ilen a0.2))
    (bnd (law06_awake.f k) fun r0 =>
    some r0)
    (bnd (dots_Right.f k a0) fun r1 =>
    bnd (ref06_Right.f k a0) fun r2 =>
    br (bnot (deq .bool r1 r2))
      (some false)
      (bnd (ref06_Right.f k a0) fun r3 =>
      br (bnot r3)
        (bnd (law06_awake.f k) fun r4 =>
        some r4)
        (bnd (dots_Has.f k a0 a1) fun r5 =>
        bnd (ref06_Has.f k a0 a1) fun r6 =>
        br (deq .bool r5 r6)
          (bnd (dots_Put.f k a0 a1) fun r7 =>
          bnd (ref06_Put.f k a0 a1) fun r8 =>
          bnd (ref06_Same.f k r7 r8) fun r9 =>
          br r9
            (bnd (dots_Next.f k a0 a2) fun r10 =>
            bnd (ref06_Next.f k a0 a2) fun r11 =>
            br (ieq r10 r11)
              (bnd (dots_Count.f k a0) fun r12 =>
              bnd (law06_count.f k a0) fun r13 =>
              br (ieq r12 r13)
                (bnd (law06_awake.f k) fun r14 =>
                some r14)
                (some false))
              (some false))
            (some false))
          (some false)))) := by kernel_rfl
noncomputable def law06_DotsTell.e (k : Nat) : Entry := Sg.entry law06_DotsTell.sg fun x => law06_DotsTell.f k x.1 x.2.1 x.2.2
set_option maxRecDepth 100000 in
theorem law06_DotsTell.ok (k : Nat) : CallOK Try.prog 5 (law06_DotsTell.e k) :=
  fn_ok (c := law06_DotsTell.cx k) (code := law06_DotsTell.body) (TT.of tt_ok pp_ok) (fns_ok ⟨(law06_awake.ok k), (dots_Right.ok k), (ref06_Right.ok k), (dots_Has.ok k), (ref06_Has.ok k), (dots_Put.ok k), (ref06_Put.ok k), (ref06_Same.ok k), (dots_Next.ok k), (ref06_Next.ok k), (dots_Count.ok k), (law06_count.ok k), trivial⟩) mixed Try.func5 (by kernel_rfl) (by kernel_rfl) (by kernel_rfl) (by kernel_rfl) (by kernel_rfl) (by kernel_rfl) (fun x => by kernel_rfl)
noncomputable def ref06_Good.body : Go.Code := Try.f32.body.getD .skip
noncomputable def ref06_Good.rs : List Go.ResultVar := Try.f32.results.toList
def ref06_Good.regs : List (Nat × RInfo) := [(0, ⟨[1], [1], [0], [], 0, [], [], [], []⟩),
  (1, ⟨[2], [9], [], [], 0, [], [], [], []⟩)]
noncomputable def ref06_Good.cx (k : Nat) : Cx := ⟨tt, pp, [(22, (ref06_Right.e k))], ref06_Good.regs, k⟩
@[reducible] def ref06_Good.sg : Sg := ⟨[.dat tDots], [], .dat .bool, []⟩
noncomputable def ref06_Good.f (k : Nat) (a0 : Ty.D tDots) : Option (Sg.Out ref06_Good.sg) := Sg.fn ref06_Good.sg (ref06_Good.cx k) ref06_Good.body ref06_Good.rs a0
set_option maxRecDepth 100000 in
theorem ref06_Good.f_eq (k : Nat) (a0 : Ty.D tDots) : ref06_Good.f k a0 =
  br (ile (ilen a0.2) 100)
    (bnd (ref06_Right.f k a0) fun r0 =>
    some r0)
    (some false) := by kernel_rfl
noncomputable def ref06_Good.e (k : Nat) : Entry := Sg.entry ref06_Good.sg fun x => ref06_Good.f k x
set_option maxRecDepth 100000 in
theorem ref06_Good.ok (k : Nat) : CallOK Try.prog 32 (ref06_Good.e k) :=
  fn_ok (c := ref06_Good.cx k) (code := ref06_Good.body) (TT.of tt_ok pp_ok) (fns_ok ⟨(ref06_Right.ok k), trivial⟩) mixed Try.func32 (by kernel_rfl) (by kernel_rfl) (by kernel_rfl) (by kernel_rfl) (by kernel_rfl) (by kernel_rfl) (fun x => by kernel_rfl)
noncomputable def slices_Concat_api_Dot_api_Dot.body : Go.Code := Try.f78.body.getD .skip
noncomputable def slices_Concat_api_Dot_api_Dot.rs : List Go.ResultVar := Try.f78.results.toList
def slices_Concat_api_Dot_api_Dot.regs : List (Nat × RInfo) := [(0, ⟨[0], [], [], [], 0, [], [], [], []⟩),
  (1, ⟨[0, 3], [], [], [], 0, [], [], [], []⟩),
  (2, ⟨[0, 3, 9, 10, 11], [], [], [], 0, [], [], [], []⟩),
  (3, ⟨[0, 3, 9, 10, 11, 12], [], [], [], 0, [0, 3, 9, 10, 11], [], [], []⟩),
  (4, ⟨[0, 3, 5, 9, 10, 11], [], [2], [], 0, [], [], [], []⟩),
  (5, ⟨[0, 3, 9, 10, 11], [], [], [], 0, [], [], [], []⟩),
  (6, ⟨[0, 3, 9, 10, 11, 20], [], [], [], 0, [], [], [], []⟩),
  (7, ⟨[0, 3, 9, 10, 11], [], [], [], 0, [], [], [], []⟩),
  (8, ⟨[0, 3, 9, 10, 11], [], [], [], 0, [], [], [], []⟩),
  (9, ⟨[0, 6], [24], [2], [], 0, [], [], [], []⟩),
  (10, ⟨[6, 25, 26, 27], [24], [], [], 0, [], [], [], []⟩),
  (11, ⟨[6, 25, 26, 27, 28], [24], [], [], 0, [6, 25, 26, 27], [24], [], []⟩),
  (12, ⟨[6, 8, 25, 26, 27], [24], [2], [], 0, [], [], [], []⟩),
  (13, ⟨[6, 25, 26, 27], [24], [0, 2, 3], [], 0, [], [], [], []⟩),
  (14, ⟨[6, 25, 26, 27], [24], [], [], 0, [], [], [], []⟩),
  (15, ⟨[2], [24], [0, 1], [], 0, [], [], [], []⟩)]
noncomputable def slices_Concat_api_Dot_api_Dot.cx (k : Nat) : Cx := ⟨tt, pp, [(117, (growE tDot))], slices_Concat_api_Dot_api_Dot.regs, k⟩
@[reducible] def slices_Concat_api_Dot_api_Dot.sg : Sg := ⟨[.dat (.slc (.slc tDot))], [], .raw tDot, []⟩
noncomputable def slices_Concat_api_Dot_api_Dot.f (k : Nat) (a0 : Ty.D (.slc (.slc tDot))) : Option (Sg.Out slices_Concat_api_Dot_api_Dot.sg) := Sg.fn slices_Concat_api_Dot_api_Dot.sg (slices_Concat_api_Dot_api_Dot.cx k) slices_Concat_api_Dot_api_Dot.body slices_Concat_api_Dot_api_Dot.rs a0
noncomputable def slices_Concat_api_Dot_api_Dot.l3 (k : Nat) (n : Nat) (x0 : Ty.D (.slc (.slc tDot))) (x3 : Ty.D (.int .i64)) (x9 : Ty.D (.slc (.slc tDot))) (x10 : Ty.D (.int .i64)) (x11 : Ty.D (.int .i64)) : Option (Sg.Out slices_Concat_api_Dot_api_Dot.sg) := loopAt (slices_Concat_api_Dot_api_Dot.cx k) slices_Concat_api_Dot_api_Dot.body [1, 1, 0, 1, 0] 3 [0, 3, 9, 10, 11] [] [] (Sg.K slices_Concat_api_Dot_api_Dot.sg (slices_Concat_api_Dot_api_Dot.cx k) slices_Concat_api_Dot_api_Dot.rs) n ⟨[(0, .dat (.slc (.slc tDot)) x0), (3, .dat (.int .i64) x3), (9, .dat (.slc (.slc tDot)) x9), (10, .dat (.int .i64) x10), (11, .dat (.int .i64) x11)], []⟩
noncomputable def slices_Concat_api_Dot_api_Dot.l11 (k : Nat) (n : Nat) (x6 : List (Ty.D tDot)) (x25 : Ty.D (.slc (.slc tDot))) (x26 : Ty.D (.int .i64)) (x27 : Ty.D (.int .i64)) : Option (Sg.Out slices_Concat_api_Dot_api_Dot.sg) := loopAt (slices_Concat_api_Dot_api_Dot.cx k) slices_Concat_api_Dot_api_Dot.body [1, 1, 1, 1, 0, 1, 0] 11 [6, 25, 26, 27] [24] [] (Sg.K slices_Concat_api_Dot_api_Dot.sg (slices_Concat_api_Dot_api_Dot.cx k) slices_Concat_api_Dot_api_Dot.rs) n ⟨[(6, .own tDot x6), (25, .dat (.slc (.slc tDot)) x25), (26, .dat (.int .i64) x26), (27, .dat (.int .i64) x27)], []⟩
set_option maxRecDepth 100000 in
theorem slices_Concat_api_Dot_api_Dot.f_eq (k : Nat) (a0 : Ty.D (.slc (.slc tDot))) : slices_Concat_api_Dot_api_Dot.f k a0 =
  slices_Concat_api_Dot_api_Dot.l3 k k a0 0 a0 (ilen a0) 0 := by kernel_rfl
set_option maxRecDepth 100000 in
theorem slices_Concat_api_Dot_api_Dot.l3_eq (k : Nat) (n3 : Nat) (x0 : Ty.D (.slc (.slc tDot))) (x3 : Ty.D (.int .i64)) (x9 : Ty.D (.slc (.slc tDot))) (x10 : Ty.D (.int .i64)) (x11 : Ty.D (.int .i64)) : slices_Concat_api_Dot_api_Dot.l3 k (n3 + 1) x0 x3 x9 x10 x11 =
  br (ilt x11 x10)
    (br (inL x11 x9)
      (br (ilt (iadd .i64 x3 (ilen (rd (.slc tDot) x9 (natOf x11)))) 0)
        (none)
        (slices_Concat_api_Dot_api_Dot.l3 k n3 x0 (iadd .i64 x3 (ilen (rd (.slc tDot) x9 (natOf x11)))) x9 x10 (iadd .i64 x11 1)))
      (none))
    (br (ilt x3 0)
      (none)
      (br (ilt 4294967296 x3)
        (none)
        (br (room ([] : List Int) ([] : List Int))
          (slices_Concat_api_Dot_api_Dot.l11 k k [] x0 (ilen x0) 0)
          (none)))) := by kernel_rfl
set_option maxRecDepth 100000 in
theorem slices_Concat_api_Dot_api_Dot.l11_eq (k : Nat) (n11 : Nat) (x6 : List (Ty.D tDot)) (x25 : Ty.D (.slc (.slc tDot))) (x26 : Ty.D (.int .i64)) (x27 : Ty.D (.int .i64)) : slices_Concat_api_Dot_api_Dot.l11 k (n11 + 1) x6 x25 x26 x27 =
  br (ilt x27 x26)
    (br (inL x27 x25)
      (br (room x6 (rd (.slc tDot) x25 (natOf x27)))
        (slices_Concat_api_Dot_api_Dot.l11 k n11 (app x6 (rd (.slc tDot) x25 (natOf x27))) x25 x26 (iadd .i64 x27 1))
        (none))
      (none))
    (some x6) := by kernel_rfl
noncomputable def slices_Concat_api_Dot_api_Dot.e (k : Nat) : Entry := Sg.entry slices_Concat_api_Dot_api_Dot.sg fun x => slices_Concat_api_Dot_api_Dot.f k x
set_option maxRecDepth 100000 in
theorem slices_Concat_api_Dot_api_Dot.ok (k : Nat) : CallOK Try.prog 78 (slices_Concat_api_Dot_api_Dot.e k) :=
  fn_ok (c := slices_Concat_api_Dot_api_Dot.cx k) (code := slices_Concat_api_Dot_api_Dot.body) (TT.of tt_ok pp_ok) (fns_ok ⟨grow117, trivial⟩) mixed Try.func78 (by kernel_rfl) (by kernel_rfl) (by kernel_rfl) (by kernel_rfl) (by kernel_rfl) (by kernel_rfl) (fun x => by kernel_rfl)
noncomputable def vec_Join_1.body : Go.Code := Try.f119.body.getD .skip
noncomputable def vec_Join_1.rs : List Go.ResultVar := Try.f119.results.toList
def vec_Join_1.regs : List (Nat × RInfo) := [(0, ⟨[0, 1], [], [], [], 0, [], [], [], []⟩),
  (1, ⟨[4], [], [], [], 0, [], [], [], []⟩)]
noncomputable def vec_Join_1.cx (k : Nat) : Cx := ⟨tt, pp, [], vec_Join_1.regs, k⟩
@[reducible] def vec_Join_1.sg : Sg := ⟨[.dat (.int .i64), .dat (.int .i64)], [], .dat (.int .i64), []⟩
noncomputable def vec_Join_1.f (k : Nat) (a0 : Ty.D (.int .i64)) (a1 : Ty.D (.int .i64)) : Option (Sg.Out vec_Join_1.sg) := Sg.fn vec_Join_1.sg (vec_Join_1.cx k) vec_Join_1.body vec_Join_1.rs (a0, a1)
set_option maxRecDepth 100000 in
theorem vec_Join_1.f_eq (k : Nat) (a0 : Ty.D (.int .i64)) (a1 : Ty.D (.int .i64)) : vec_Join_1.f k a0 a1 =
  some (imax a0 a1) := by kernel_rfl
noncomputable def vec_Join_1.e (k : Nat) : Entry := Sg.entry vec_Join_1.sg fun x => vec_Join_1.f k x.1 x.2
set_option maxRecDepth 100000 in
theorem vec_Join_1.ok (k : Nat) : CallOK Try.prog 119 (vec_Join_1.e k) :=
  fn_ok (c := vec_Join_1.cx k) (code := vec_Join_1.body) (TT.of tt_ok pp_ok) (fns_ok trivial) mixed Try.func119 (by kernel_rfl) (by kernel_rfl) (by kernel_rfl) (by kernel_rfl) (by kernel_rfl) (by kernel_rfl) (fun x => by kernel_rfl)
noncomputable def vec_both_119.body : Go.Code := Try.f118.body.getD .skip
noncomputable def vec_both_119.rs : List Go.ResultVar := Try.f118.results.toList
def vec_both_119.regs : List (Nat × RInfo) := [(0, ⟨[2, 3, 4, 6], [3, 4, 6], [], [], 0, [], [], [], []⟩),
  (1, ⟨[2, 3, 4, 6, 8], [3, 4, 6], [], [], 0, [], [], [], []⟩),
  (2, ⟨[2, 3, 4, 6, 8, 9], [3, 4, 6], [], [], 0, [2, 3, 4, 6, 8], [3, 4, 6], [], []⟩),
  (3, ⟨[2, 3, 4, 6, 7, 8], [3, 4, 6], [], [], 0, [], [], [], []⟩),
  (4, ⟨[2, 3, 4, 6, 8], [3, 4, 6], [], [], 9, [], [], [], [[], [], [], [], [], [], [], [], [4, 7], [4, 7, 8], [4, 7, 8]]⟩),
  (5, ⟨[2, 3, 4, 6, 8], [3, 4, 6], [], [], 0, [], [], [], []⟩),
  (6, ⟨[6], [6], [], [], 0, [], [], [], []⟩)]
noncomputable def vec_both_119.cx (k : Nat) : Cx := ⟨tt, pp, [(119, (vec_Join_1.e k))], vec_both_119.regs, k⟩
@[reducible] def vec_both_119.sg : Sg := ⟨[.dat tVec, .dat tVec, .fn 119 0], [], .dat tVec, []⟩
noncomputable def vec_both_119.f (k : Nat) (a0 : Ty.D tVec) (a1 : Ty.D tVec) : Option (Sg.Out vec_both_119.sg) := Sg.fn vec_both_119.sg (vec_both_119.cx k) vec_both_119.body vec_both_119.rs (a0, a1)
noncomputable def vec_both_119.l2 (k : Nat) (n : Nat) (x8 : Ty.D (.int .i64)) (m3 : Ty.D tVec) (m4 : Ty.D tVec) (m6 : Ty.D tVec) : Option (Sg.Out vec_both_119.sg) := loopAt (vec_both_119.cx k) vec_both_119.body [1, 0, 1, 0] 2 [2, 3, 4, 6, 8] [3, 4, 6] [] (Sg.K vec_both_119.sg (vec_both_119.cx k) vec_both_119.rs) n ⟨[(2, .fn 119 []), (3, .ref 3 []), (4, .ref 4 []), (6, .ref 6 []), (8, .dat (.int .i64) x8)], [(3, .dat tVec m3), (4, .dat tVec m4), (6, .dat tVec m6)]⟩
set_option maxRecDepth 100000 in
theorem vec_both_119.f_eq (k : Nat) (a0 : Ty.D tVec) (a1 : Ty.D tVec) : vec_both_119.f k a0 a1 =
  vec_both_119.l2 k k 0 a0 a1 (zarr 16 0) := by kernel_rfl
set_option maxRecDepth 100000 in
theorem vec_both_119.l2_eq (k : Nat) (n2 : Nat) (x8 : Ty.D (.int .i64)) (m3 : Ty.D tVec) (m4 : Ty.D tVec) (m6 : Ty.D tVec) : vec_both_119.l2 k (n2 + 1) x8 m3 m4 m6 =
  br (ilt x8 16)
    (br (inB x8 16)
      (br (inB x8 16)
        (bnd (vec_Join_1.f k (rd (.int .i64) m3 (natOf x8)) (rd (.int .i64) m4 (natOf x8))) fun r0 =>
        br (inB x8 16)
          (vec_both_119.l2 k n2 (iadd .i64 x8 1) (upd m3 (natOf x8) r0) m4 m6)
          (none))
        (none))
      (none))
    (some m3) := by kernel_rfl
noncomputable def vec_both_119.e (k : Nat) : Entry := Sg.entry vec_both_119.sg fun x => vec_both_119.f k x.1 x.2
set_option maxRecDepth 100000 in
theorem vec_both_119.ok (k : Nat) : CallOK Try.prog 118 (vec_both_119.e k) :=
  fn_ok (c := vec_both_119.cx k) (code := vec_both_119.body) (TT.of tt_ok pp_ok) (fns_ok ⟨(vec_Join_1.ok k), trivial⟩) mixed Try.func118 (by kernel_rfl) (by kernel_rfl) (by kernel_rfl) (by kernel_rfl) (by kernel_rfl) (by kernel_rfl) (fun x => by kernel_rfl)
noncomputable def vec_Join.body : Go.Code := Try.f79.body.getD .skip
noncomputable def vec_Join.rs : List Go.ResultVar := Try.f79.results.toList
def vec_Join.regs : List (Nat × RInfo) := [(0, ⟨[2, 3, 4], [2, 3, 4], [], [], 0, [], [], [], []⟩),
  (1, ⟨[4], [4], [], [], 0, [], [], [], []⟩)]
noncomputable def vec_Join.cx (k : Nat) : Cx := ⟨tt, pp, [(118, (vec_both_119.e k)),
  (119, (vec_Join_1.e k))], vec_Join.regs, k⟩
@[reducible] def vec_Join.sg : Sg := ⟨[.dat tVec, .dat tVec], [], .dat tVec, []⟩
noncomputable def vec_Join.f (k : Nat) (a0 : Ty.D tVec) (a1 : Ty.D tVec) : Option (Sg.Out vec_Join.sg) := Sg.fn vec_Join.sg (vec_Join.cx k) vec_Join.body vec_Join.rs (a0, a1)
set_option maxRecDepth 100000 in
theorem vec_Join.f_eq (k : Nat) (a0 : Ty.D tVec) (a1 : Ty.D tVec) : vec_Join.f k a0 a1 =
  bnd (vec_both_119.f k a0 a1) fun r0 =>
  some r0 := by kernel_rfl
noncomputable def vec_Join.e (k : Nat) : Entry := Sg.entry vec_Join.sg fun x => vec_Join.f k x.1 x.2
set_option maxRecDepth 100000 in
theorem vec_Join.ok (k : Nat) : CallOK Try.prog 79 (vec_Join.e k) :=
  fn_ok (c := vec_Join.cx k) (code := vec_Join.body) (TT.of tt_ok pp_ok) (fns_ok ⟨(vec_both_119.ok k), (vec_Join_1.ok k), trivial⟩) mixed Try.func79 (by kernel_rfl) (by kernel_rfl) (by kernel_rfl) (by kernel_rfl) (by kernel_rfl) (by kernel_rfl) (fun x => by kernel_rfl)
noncomputable def dots_Union.body : Go.Code := Try.f33.body.getD .skip
noncomputable def dots_Union.rs : List Go.ResultVar := Try.f33.results.toList
def dots_Union.regs : List (Nat × RInfo) := [(0, ⟨[2, 3, 4], [2, 3, 4], [0, 1], [], 0, [], [], [0, 1], []⟩),
  (1, ⟨[2, 3, 4, 5], [2, 3, 4, 11], [6], [], 0, [], [], [2, 3], []⟩),
  (2, ⟨[2, 3, 4, 5], [2, 3, 4, 11], [0, 1], [0], 0, [], [], [], []⟩),
  (3, ⟨[4], [4], [7], [], 0, [], [], [2, 3, 5, 4], []⟩)]
noncomputable def dots_Union.cx (k : Nat) : Cx := ⟨tt, pp, [(78, (slices_Concat_api_Dot_api_Dot.e k)),
  (65, (sortE tDot 66 dotLt)),
  (66, (dot_Compare.e k)),
  (79, (vec_Join.e k)),
  (67, (dots_made.e k))], dots_Union.regs, k⟩
@[reducible] def dots_Union.sg : Sg := ⟨[.dat tDots, .dat tDots], [], .dat tDots, []⟩
noncomputable def dots_Union.f (k : Nat) (a0 : Ty.D tDots) (a1 : Ty.D tDots) : Option (Sg.Out dots_Union.sg) := Sg.fn dots_Union.sg (dots_Union.cx k) dots_Union.body dots_Union.rs (a0, a1)
set_option maxRecDepth 100000 in
theorem dots_Union.f_eq (k : Nat) (a0 : Ty.D tDots) (a1 : Ty.D tDots) : dots_Union.f k a0 a1 =
  bnd (slices_Concat_api_Dot_api_Dot.f k (a0.2 :: (a1.2 :: []))) fun r0 =>
  br (room ([] : List Int) r0)
    (bnd (vec_Join.f k a0.1 a1.1) fun r1 =>
    bnd (dots_made.f k r1 (isort dotLt r0)) fun r2 =>
    some r2)
    (none) := by kernel_rfl
noncomputable def dots_Union.e (k : Nat) : Entry := Sg.entry dots_Union.sg fun x => dots_Union.f k x.1 x.2
set_option maxRecDepth 100000 in
theorem dots_Union.ok (k : Nat) : CallOK Try.prog 33 (dots_Union.e k) :=
  fn_ok (c := dots_Union.cx k) (code := dots_Union.body) (TT.of tt_ok pp_ok) (fns_ok ⟨(slices_Concat_api_Dot_api_Dot.ok k), sort65, (dot_Compare.ok k), (vec_Join.ok k), (dots_made.ok k), trivial⟩) mixed Try.func33 (by kernel_rfl) (by kernel_rfl) (by kernel_rfl) (by kernel_rfl) (by kernel_rfl) (by kernel_rfl) (fun x => by kernel_rfl)
noncomputable def ref05_Join.body : Go.Code := Try.f80.body.getD .skip
noncomputable def ref05_Join.rs : List Go.ResultVar := Try.f80.results.toList
def ref05_Join.regs : List (Nat × RInfo) := [(0, ⟨[2, 3, 4], [2, 3, 4], [], [], 0, [], [], [], []⟩),
  (1, ⟨[2, 3, 4, 5], [2, 3, 4, 5], [], [], 0, [], [], [], []⟩),
  (2, ⟨[2, 3, 4, 5, 6], [2, 3, 4, 5], [], [], 0, [], [], [], []⟩),
  (3, ⟨[2, 3, 4, 5, 6, 9], [2, 3, 4, 5], [], [], 0, [2, 3, 4, 5, 6], [2, 3, 4, 5], [], []⟩),
  (5, ⟨[2, 3, 4, 5, 6, 18], [2, 3, 4, 5], [], [], 7, [], [], [], []⟩),
  (6, ⟨[2, 3, 4, 5, 6], [2, 3, 4, 5], [], [], 0, [], [], [], []⟩),
  (4, ⟨[2, 3, 4, 5, 6], [2, 3, 4, 5], [], [], 0, [], [], [], []⟩),
  (7, ⟨[4], [4], [], [], 0, [], [], [], []⟩)]
noncomputable def ref05_Join.cx (k : Nat) : Cx := ⟨tt, pp, [], ref05_Join.regs, k⟩
@[reducible] def ref05_Join.sg : Sg := ⟨[.dat tVec, .dat tVec], [], .dat tVec, []⟩
noncomputable def ref05_Join.f (k : Nat) (a0 : Ty.D tVec) (a1 : Ty.D tVec) : Option (Sg.Out ref05_Join.sg) := Sg.fn ref05_Join.sg (ref05_Join.cx k) ref05_Join.body ref05_Join.rs (a0, a1)
noncomputable def ref05_Join.l3 (k : Nat) (n : Nat) (x6 : Ty.D (.int .i64)) (m2 : Ty.D tVec) (m3 : Ty.D tVec) (m4 : Ty.D tVec) (m5 : Ty.D tVec) : Option (Sg.Out ref05_Join.sg) := loopAt (ref05_Join.cx k) ref05_Join.body [1, 1, 0, 1, 0] 3 [2, 3, 4, 5, 6] [2, 3, 4, 5] [] (Sg.K ref05_Join.sg (ref05_Join.cx k) ref05_Join.rs) n ⟨[(2, .ref 2 []), (3, .ref 3 []), (4, .ref 4 []), (5, .ref 5 []), (6, .dat (.int .i64) x6)], [(2, .dat tVec m2), (3, .dat tVec m3), (4, .dat tVec m4), (5, .dat tVec m5)]⟩
set_option maxRecDepth 100000 in
theorem ref05_Join.f_eq (k : Nat) (a0 : Ty.D tVec) (a1 : Ty.D tVec) : ref05_Join.f k a0 a1 =
  ref05_Join.l3 k k 0 a0 a1 (zarr 16 0) a0 := by kernel_rfl
set_option maxRecDepth 100000 in
theorem ref05_Join.l3_eq (k : Nat) (n3 : Nat) (x6 : Ty.D (.int .i64)) (m2 : Ty.D tVec) (m3 : Ty.D tVec) (m4 : Ty.D tVec) (m5 : Ty.D tVec) : ref05_Join.l3 k (n3 + 1) x6 m2 m3 m4 m5 =
  br (ilt x6 16)
    (br (inB x6 16)
      (br (inB x6 16)
        (br (ilt (rd (.int .i64) m2 (natOf x6)) (rd (.int .i64) m3 (natOf x6)))
          (br (inB x6 16)
            (br (inB x6 16)
              (ref05_Join.l3 k n3 (iadd .i64 x6 1) m2 m3 m4 (upd m5 (natOf x6) (rd (.int .i64) m3 (natOf x6))))
              (none))
            (none))
          (ref05_Join.l3 k n3 (iadd .i64 x6 1) m2 m3 m4 m5))
        (none))
      (none))
    (some m5) := by kernel_rfl
noncomputable def ref05_Join.e (k : Nat) : Entry := Sg.entry ref05_Join.sg fun x => ref05_Join.f k x.1 x.2
set_option maxRecDepth 100000 in
theorem ref05_Join.ok (k : Nat) : CallOK Try.prog 80 (ref05_Join.e k) :=
  fn_ok (c := ref05_Join.cx k) (code := ref05_Join.body) (TT.of tt_ok pp_ok) (fns_ok trivial) mixed Try.func80 (by kernel_rfl) (by kernel_rfl) (by kernel_rfl) (by kernel_rfl) (by kernel_rfl) (by kernel_rfl) (fun x => by kernel_rfl)
noncomputable def ref06_Union.body : Go.Code := Try.f34.body.getD .skip
noncomputable def ref06_Union.rs : List Go.ResultVar := Try.f34.results.toList
def ref06_Union.regs : List (Nat × RInfo) := [(0, ⟨[2, 3, 4], [2, 3, 4], [0, 1], [], 0, [], [], [], []⟩),
  (1, ⟨[3, 4, 5], [3, 4, 5], [10], [], 9, [], [], [], [[], [], [], [], [1, 3], [], [], [1, 3, 6], [1, 3, 6], [], [1, 3, 6]]⟩),
  (2, ⟨[3, 4, 5, 6], [3, 4, 5], [], [], 0, [], [], [], []⟩),
  (3, ⟨[3, 4, 5, 6, 20], [3, 4, 5], [], [], 0, [3, 4, 5, 6], [3, 4, 5], [], []⟩),
  (5, ⟨[3, 4, 5, 6], [3, 4, 5], [7], [], 7, [], [], [], [[], [], [], [], [2], [2], [0, 5, 2], [0, 5, 2]]⟩),
  (4, ⟨[3, 4, 5, 6], [3, 4, 5], [], [], 0, [], [], [], []⟩),
  (6, ⟨[4], [4], [1], [], 0, [], [], [], []⟩)]
noncomputable def ref06_Union.cx (k : Nat) : Cx := ⟨tt, pp, [(80, (ref05_Join.e k)),
  (76, (ref06_filled.e k)),
  (27, (ref06_Put.e k))], ref06_Union.regs, k⟩
@[reducible] def ref06_Union.sg : Sg := ⟨[.dat tDots, .dat tDots], [], .dat tDots, []⟩
noncomputable def ref06_Union.f (k : Nat) (a0 : Ty.D tDots) (a1 : Ty.D tDots) : Option (Sg.Out ref06_Union.sg) := Sg.fn ref06_Union.sg (ref06_Union.cx k) ref06_Union.body ref06_Union.rs (a0, a1)
noncomputable def ref06_Union.l3 (k : Nat) (n : Nat) (x6 : Ty.D (.int .i64)) (m3 : Ty.D tDots) (m4a : Ty.D tVec) (m4b : List (Ty.D tDot)) (m5 : Ty.D tDots) : Option (Sg.Out ref06_Union.sg) := loopAt (ref06_Union.cx k) ref06_Union.body [1, 1, 0, 1, 0] 3 [3, 4, 5, 6] [3, 4, 5] [] (Sg.K ref06_Union.sg (ref06_Union.cx k) ref06_Union.rs) n ⟨[(3, .ref 3 []), (4, .ref 4 []), (5, .ref 5 []), (6, .dat (.int .i64) x6)], [(3, .dat tDots m3), (4, .pr (.dat tVec m4a) (.own tDot m4b)), (5, .dat tDots m5)]⟩
set_option maxRecDepth 100000 in
theorem ref06_Union.f_eq (k : Nat) (a0 : Ty.D tDots) (a1 : Ty.D tDots) : ref06_Union.f k a0 a1 =
  bnd (ref05_Join.f k a0.1 a1.1) fun r0 =>
  bnd (ref06_filled.f k (r0, a0.2)) fun r1 =>
  ref06_Union.l3 k k 0 a1 (zarr 16 0) [] r1 := by kernel_rfl
set_option maxRecDepth 100000 in
theorem ref06_Union.l3_eq (k : Nat) (n3 : Nat) (x6 : Ty.D (.int .i64)) (m3 : Ty.D tDots) (m4a : Ty.D tVec) (m4b : List (Ty.D tDot)) (m5 : Ty.D tDots) : ref06_Union.l3 k (n3 + 1) x6 m3 m4a m4b m5 =
  br (ilt x6 (ilen m3.2))
    (br (inL x6 m3.2)
      (bnd (ref06_Put.f k m5 (rd tDot m3.2 (natOf x6))) fun r0 =>
      ref06_Union.l3 k n3 (iadd .i64 x6 1) m3 m4a m4b r0)
      (none))
    (some m5) := by kernel_rfl
noncomputable def ref06_Union.e (k : Nat) : Entry := Sg.entry ref06_Union.sg fun x => ref06_Union.f k x.1 x.2
set_option maxRecDepth 100000 in
theorem ref06_Union.ok (k : Nat) : CallOK Try.prog 34 (ref06_Union.e k) :=
  fn_ok (c := ref06_Union.cx k) (code := ref06_Union.body) (TT.of tt_ok pp_ok) (fns_ok ⟨(ref05_Join.ok k), (ref06_filled.ok k), (ref06_Put.ok k), trivial⟩) mixed Try.func34 (by kernel_rfl) (by kernel_rfl) (by kernel_rfl) (by kernel_rfl) (by kernel_rfl) (by kernel_rfl) (fun x => by kernel_rfl)
noncomputable def dots_Within.body : Go.Code := Try.f35.body.getD .skip
noncomputable def dots_Within.rs : List Go.ResultVar := Try.f35.results.toList
def dots_Within.regs : List (Nat × RInfo) := [(0, ⟨[2, 3], [2, 3], [0, 1], [], 0, [], [], [], []⟩),
  (1, ⟨[4], [9], [], [], 5, [], [], [], []⟩)]
noncomputable def dots_Within.cx (k : Nat) : Cx := ⟨tt, pp, [(33, (dots_Union.e k)),
  (21, (dots_Same.e k))], dots_Within.regs, k⟩
@[reducible] def dots_Within.sg : Sg := ⟨[.dat tDots, .dat tDots], [], .dat .bool, []⟩
noncomputable def dots_Within.f (k : Nat) (a0 : Ty.D tDots) (a1 : Ty.D tDots) : Option (Sg.Out dots_Within.sg) := Sg.fn dots_Within.sg (dots_Within.cx k) dots_Within.body dots_Within.rs (a0, a1)
set_option maxRecDepth 100000 in
theorem dots_Within.f_eq (k : Nat) (a0 : Ty.D tDots) (a1 : Ty.D tDots) : dots_Within.f k a0 a1 =
  bnd (dots_Union.f k a0 a1) fun r0 =>
  bnd (dots_Same.f k r0 a1) fun r1 =>
  some r1 := by kernel_rfl
noncomputable def dots_Within.e (k : Nat) : Entry := Sg.entry dots_Within.sg fun x => dots_Within.f k x.1 x.2
set_option maxRecDepth 100000 in
theorem dots_Within.ok (k : Nat) : CallOK Try.prog 35 (dots_Within.e k) :=
  fn_ok (c := dots_Within.cx k) (code := dots_Within.body) (TT.of tt_ok pp_ok) (fns_ok ⟨(dots_Union.ok k), (dots_Same.ok k), trivial⟩) mixed Try.func35 (by kernel_rfl) (by kernel_rfl) (by kernel_rfl) (by kernel_rfl) (by kernel_rfl) (by kernel_rfl) (fun x => by kernel_rfl)
noncomputable def ref06_Within.body : Go.Code := Try.f36.body.getD .skip
noncomputable def ref06_Within.rs : List Go.ResultVar := Try.f36.results.toList
def ref06_Within.regs : List (Nat × RInfo) := [(0, ⟨[2, 3], [2, 3], [0, 1], [], 0, [], [], [], []⟩),
  (1, ⟨[2, 3, 5], [2, 3], [], [], 0, [], [], [], []⟩),
  (2, ⟨[2, 3, 5, 13], [2, 3], [], [], 0, [2, 3, 5], [2, 3], [], []⟩),
  (4, ⟨[2, 3, 5, 23], [2, 3], [], [], 8, [], [], [], []⟩),
  (5, ⟨[4], [], [], [], 0, [], [], [], []⟩),
  (3, ⟨[2, 3, 5], [2, 3], [], [], 0, [], [], [], []⟩),
  (6, ⟨[2, 3, 6], [2, 3], [], [], 0, [], [], [], []⟩),
  (7, ⟨[2, 3, 6, 25], [2, 3], [], [], 0, [2, 3, 6], [2, 3], [], []⟩),
  (9, ⟨[2, 3, 6, 7], [2, 3], [], [], 0, [], [], [], []⟩),
  (10, ⟨[2, 3, 6, 7, 8], [2, 3], [], [], 0, [], [], [], []⟩),
  (11, ⟨[2, 3, 6, 7, 8, 36], [2, 3], [], [], 0, [2, 3, 6, 7, 8], [2, 3], [], []⟩),
  (13, ⟨[2, 3, 6, 7, 8, 57], [2, 3], [], [], 0, [], [], [], []⟩),
  (14, ⟨[2, 3, 6, 7, 8], [2, 3], [], [], 0, [], [], [], []⟩),
  (12, ⟨[2, 3, 6, 7, 8], [2, 3], [], [], 0, [], [], [], []⟩),
  (15, ⟨[2, 3, 6, 65], [2, 3], [], [], 0, [], [], [], []⟩),
  (16, ⟨[4], [], [], [], 0, [], [], [], []⟩),
  (8, ⟨[2, 3, 6], [2, 3], [], [], 0, [], [], [], []⟩),
  (17, ⟨[4], [], [], [], 0, [], [], [], []⟩)]
noncomputable def ref06_Within.cx (k : Nat) : Cx := ⟨tt, pp, [(25, (ref06_Has.e k))], ref06_Within.regs, k⟩
@[reducible] def ref06_Within.sg : Sg := ⟨[.dat tDots, .dat tDots], [], .dat .bool, []⟩
noncomputable def ref06_Within.f (k : Nat) (a0 : Ty.D tDots) (a1 : Ty.D tDots) : Option (Sg.Out ref06_Within.sg) := Sg.fn ref06_Within.sg (ref06_Within.cx k) ref06_Within.body ref06_Within.rs (a0, a1)
noncomputable def ref06_Within.l2 (k : Nat) (n : Nat) (x5 : Ty.D (.int .i64)) (m2 : Ty.D tDots) (m3 : Ty.D tDots) : Option (Sg.Out ref06_Within.sg) := loopAt (ref06_Within.cx k) ref06_Within.body [1, 0, 1, 0] 2 [2, 3, 5] [2, 3] [] (Sg.K ref06_Within.sg (ref06_Within.cx k) ref06_Within.rs) n ⟨[(2, .ref 2 []), (3, .ref 3 []), (5, .dat (.int .i64) x5)], [(2, .dat tDots m2), (3, .dat tDots m3)]⟩
noncomputable def ref06_Within.l7 (k : Nat) (n : Nat) (x6 : Ty.D (.int .i64)) (m2 : Ty.D tDots) (m3 : Ty.D tDots) : Option (Sg.Out ref06_Within.sg) := loopAt (ref06_Within.cx k) ref06_Within.body [1, 1, 0, 1, 0] 7 [2, 3, 6] [2, 3] [] (Sg.K ref06_Within.sg (ref06_Within.cx k) ref06_Within.rs) n ⟨[(2, .ref 2 []), (3, .ref 3 []), (6, .dat (.int .i64) x6)], [(2, .dat tDots m2), (3, .dat tDots m3)]⟩
noncomputable def ref06_Within.l11 (k : Nat) (n7 : Nat) (n : Nat) (x6 : Ty.D (.int .i64)) (x7 : Ty.D (.int .i64)) (x8 : Ty.D (.int .i64)) (m2 : Ty.D tDots) (m3 : Ty.D tDots) : Option (Sg.Out ref06_Within.sg) := loopAt (ref06_Within.cx k) ref06_Within.body [1, 1, 0, 1, 0, 0, 1, 0, 0, 1, 0, 1, 0] 11 [2, 3, 6, 7, 8] [2, 3] [n7] (Sg.K ref06_Within.sg (ref06_Within.cx k) ref06_Within.rs) n ⟨[(2, .ref 2 []), (3, .ref 3 []), (6, .dat (.int .i64) x6), (7, .dat (.int .i64) x7), (8, .dat (.int .i64) x8)], [(2, .dat tDots m2), (3, .dat tDots m3)]⟩
set_option maxRecDepth 100000 in
theorem ref06_Within.f_eq (k : Nat) (a0 : Ty.D tDots) (a1 : Ty.D tDots) : ref06_Within.f k a0 a1 =
  ref06_Within.l2 k k 0 a0 a1 := by kernel_rfl
set_option maxRecDepth 100000 in
theorem ref06_Within.l2_eq (k : Nat) (n2 : Nat) (x5 : Ty.D (.int .i64)) (m2 : Ty.D tDots) (m3 : Ty.D tDots) : ref06_Within.l2 k (n2 + 1) x5 m2 m3 =
  br (ilt x5 (ilen m2.2))
    (br (inL x5 m2.2)
      (bnd (ref06_Has.f k m3 (rd tDot m2.2 (natOf x5))) fun r0 =>
      br (bnot r0)
        (some false)
        (ref06_Within.l2 k n2 (iadd .i64 x5 1) m2 m3))
      (none))
    (ref06_Within.l7 k k 0 m2 m3) := by kernel_rfl
set_option maxRecDepth 100000 in
theorem ref06_Within.l7_eq (k : Nat) (n7 : Nat) (x6 : Ty.D (.int .i64)) (m2 : Ty.D tDots) (m3 : Ty.D tDots) : ref06_Within.l7 k (n7 + 1) x6 m2 m3 =
  br (ilt x6 16)
    (br (inB x6 16)
      (ref06_Within.l11 k n7 k x6 (rd (.int .i64) m3.1 (natOf x6)) 0 m2 m3)
      (none))
    (some true) := by kernel_rfl
set_option maxRecDepth 100000 in
theorem ref06_Within.l11_eq (k : Nat) (n7 : Nat) (n11 : Nat) (x6 : Ty.D (.int .i64)) (x7 : Ty.D (.int .i64)) (x8 : Ty.D (.int .i64)) (m2 : Ty.D tDots) (m3 : Ty.D tDots) : ref06_Within.l11 k n7 (n11 + 1) x6 x7 x8 m2 m3 =
  br (ilt x8 (ilen m3.2))
    (br (inL x8 m3.2)
      (br (ieq ((rd tDot m3.2 (natOf x8)).1) x6)
        (br (inL x8 m3.2)
          (br (ieq ((rd tDot m3.2 (natOf x8)).2) (iadd .i64 x7 1))
            (ref06_Within.l11 k n7 n11 x6 (iadd .i64 x7 1) (iadd .i64 x8 1) m2 m3)
            (ref06_Within.l11 k n7 n11 x6 x7 (iadd .i64 x8 1) m2 m3))
          (none))
        (ref06_Within.l11 k n7 n11 x6 x7 (iadd .i64 x8 1) m2 m3))
      (none))
    (br (inB x6 16)
      (br (ilt x7 (rd (.int .i64) m2.1 (natOf x6)))
        (some false)
        (ref06_Within.l7 k n7 (iadd .i64 x6 1) m2 m3))
      (none)) := by kernel_rfl
noncomputable def ref06_Within.e (k : Nat) : Entry := Sg.entry ref06_Within.sg fun x => ref06_Within.f k x.1 x.2
set_option maxRecDepth 100000 in
theorem ref06_Within.ok (k : Nat) : CallOK Try.prog 36 (ref06_Within.e k) :=
  fn_ok (c := ref06_Within.cx k) (code := ref06_Within.body) (TT.of tt_ok pp_ok) (fns_ok ⟨(ref06_Has.ok k), trivial⟩) mixed Try.func36 (by kernel_rfl) (by kernel_rfl) (by kernel_rfl) (by kernel_rfl) (by kernel_rfl) (by kernel_rfl) (fun x => by kernel_rfl)
noncomputable def law06_DotsJoin.body : Go.Code := Try.f6.body.getD .skip
noncomputable def law06_DotsJoin.rs : List Go.ResultVar := Try.f6.results.toList
def law06_DotsJoin.regs : List (Nat × RInfo) := [(0, ⟨[2, 3], [2, 3], [0, 1], [], 0, [], [], [], []⟩),
  (1, ⟨[2, 3, 13], [2, 3], [], [], 0, [], [], [], []⟩),
  (2, ⟨[4], [14, 22, 25, 39, 51], [], [], 0, [], [], [], []⟩),
  (3, ⟨[2, 3, 5], [2, 3, 5], [4], [], 0, [], [], [], []⟩),
  (4, ⟨[4], [14, 22, 25, 39, 51], [], [], 35, [], [], [], []⟩)]
noncomputable def law06_DotsJoin.cx (k : Nat) : Cx := ⟨tt, pp, [(32, (ref06_Good.e k)),
  (16, (law06_awake.e k)),
  (33, (dots_Union.e k)),
  (34, (ref06_Union.e k)),
  (19, (ref06_Same.e k)),
  (22, (ref06_Right.e k)),
  (35, (dots_Within.e k)),
  (36, (ref06_Within.e k)),
  (21, (dots_Same.e k))], law06_DotsJoin.regs, k⟩
@[reducible] def law06_DotsJoin.sg : Sg := ⟨[.dat tDots, .dat tDots], [], .dat .bool, []⟩
noncomputable def law06_DotsJoin.f (k : Nat) (a0 : Ty.D tDots) (a1 : Ty.D tDots) : Option (Sg.Out law06_DotsJoin.sg) := Sg.fn law06_DotsJoin.sg (law06_DotsJoin.cx k) law06_DotsJoin.body law06_DotsJoin.rs (a0, a1)
set_option maxRecDepth 100000 in
theorem law06_DotsJoin.f_eq (k : Nat) (a0 : Ty.D tDots) (a1 : Ty.D tDots) : law06_DotsJoin.f k a0 a1 =
  bnd (ref06_Good.f k a0) fun r0 =>
  br (bnot r0)
    (bnd (law06_awake.f k) fun r1 =>
    some r1)
    (bnd (ref06_Good.f k a1) fun r2 =>
    br (bnot r2)
      (bnd (law06_awake.f k) fun r3 =>
      some r3)
      (bnd (dots_Union.f k a0 a1) fun r4 =>
      bnd (ref06_Union.f k a0 a1) fun r5 =>
      bnd (ref06_Same.f k r4 r5) fun r6 =>
      br r6
        (bnd (ref06_Right.f k r4) fun r7 =>
        br r7
          (bnd (dots_Within.f k a0 a1) fun r8 =>
          bnd (ref06_Within.f k a0 a1) fun r9 =>
          br (deq .bool r8 r9)
            (bnd (dots_Within.f k a0 r4) fun r10 =>
            br r10
              (bnd (dots_Same.f k a0 a1) fun r11 =>
              bnd (ref06_Same.f k a0 a1) fun r12 =>
              br (deq .bool r11 r12)
                (bnd (law06_awake.f k) fun r13 =>
                some r13)
                (some false))
              (some false))
            (some false))
          (some false))
        (some false))) := by kernel_rfl
noncomputable def law06_DotsJoin.e (k : Nat) : Entry := Sg.entry law06_DotsJoin.sg fun x => law06_DotsJoin.f k x.1 x.2
set_option maxRecDepth 100000 in
theorem law06_DotsJoin.ok (k : Nat) : CallOK Try.prog 6 (law06_DotsJoin.e k) :=
  fn_ok (c := law06_DotsJoin.cx k) (code := law06_DotsJoin.body) (TT.of tt_ok pp_ok) (fns_ok ⟨(ref06_Good.ok k), (law06_awake.ok k), (dots_Union.ok k), (ref06_Union.ok k), (ref06_Same.ok k), (ref06_Right.ok k), (dots_Within.ok k), (ref06_Within.ok k), (dots_Same.ok k), trivial⟩) mixed Try.func6 (by kernel_rfl) (by kernel_rfl) (by kernel_rfl) (by kernel_rfl) (by kernel_rfl) (by kernel_rfl) (fun x => by kernel_rfl)
noncomputable def law06_DotsLattice.body : Go.Code := Try.f7.body.getD .skip
noncomputable def law06_DotsLattice.rs : List Go.ResultVar := Try.f7.results.toList
def law06_DotsLattice.regs : List (Nat × RInfo) := [(0, ⟨[4, 5, 6, 7], [4, 5, 6, 7], [0, 1, 2], [], 0, [], [], [], []⟩),
  (1, ⟨[4, 5, 6, 7, 22], [4, 5, 6, 7], [], [], 0, [], [], [], []⟩),
  (2, ⟨[8], [23, 75], [], [], 0, [], [], [], []⟩),
  (3, ⟨[4, 5, 6, 7, 9], [4, 5, 6, 7, 9], [4], [], 0, [], [], [], []⟩),
  (4, ⟨[4, 5, 7, 9, 52], [4, 5, 7, 9], [], [], 26, [], [], [], []⟩),
  (5, ⟨[8], [23, 75], [], [], 0, [], [], [], []⟩),
  (6, ⟨[8], [23, 75], [], [], 24, [], [], [], []⟩)]
noncomputable def law06_DotsLattice.cx (k : Nat) : Cx := ⟨tt, pp, [(32, (ref06_Good.e k)),
  (16, (law06_awake.e k)),
  (33, (dots_Union.e k)),
  (21, (dots_Same.e k)),
  (23, (dots_Has.e k)),
  (35, (dots_Within.e k))], law06_DotsLattice.regs, k⟩
@[reducible] def law06_DotsLattice.sg : Sg := ⟨[.dat tDots, .dat tDots, .dat tDots, .dat tDot], [], .dat .bool, []⟩
noncomputable def law06_DotsLattice.f (k : Nat) (a0 : Ty.D tDots) (a1 : Ty.D tDots) (a2 : Ty.D tDots) (a3 : Ty.D tDot) : Option (Sg.Out law06_DotsLattice.sg) := Sg.fn law06_DotsLattice.sg (law06_DotsLattice.cx k) law06_DotsLattice.body law06_DotsLattice.rs (a0, a1, a2, a3)
set_option maxRecDepth 100000 in
theorem law06_DotsLattice.f_eq (k : Nat) (a0 : Ty.D tDots) (a1 : Ty.D tDots) (a2 : Ty.D tDots) (a3 : Ty.D tDot) : law06_DotsLattice.f k a0 a1 a2 a3 =
  bnd (ref06_Good.f k a0) fun r0 =>
  br (bnot r0)
    (bnd (law06_awake.f k) fun r1 =>
    some r1)
    (bnd (ref06_Good.f k a1) fun r2 =>
    br (bnot r2)
      (bnd (law06_awake.f k) fun r3 =>
      some r3)
      (bnd (ref06_Good.f k a2) fun r4 =>
      br (bnot r4)
        (bnd (law06_awake.f k) fun r5 =>
        some r5)
        (bnd (dots_Union.f k a0 a1) fun r6 =>
        bnd (dots_Union.f k a1 a0) fun r7 =>
        bnd (dots_Same.f k r6 r7) fun r8 =>
        br (bnot r8)
          (some false)
          (bnd (dots_Union.f k r6 a2) fun r9 =>
          bnd (dots_Union.f k a1 a2) fun r10 =>
          bnd (dots_Union.f k a0 r10) fun r11 =>
          bnd (dots_Same.f k r9 r11) fun r12 =>
          br (bnot r12)
            (some false)
            (bnd (dots_Union.f k a0 a0) fun r13 =>
            bnd (dots_Same.f k r13 a0) fun r14 =>
            br (bnot r14)
              (some false)
              (bnd (dots_Has.f k r6 a3) fun r15 =>
              bnd (dots_Has.f k a0 a3) fun r16 =>
              br r16
                (br (deq .bool r15 true)
                  (bnd (dots_Within.f k a0 a1) fun r17 =>
                  bnd (dots_Same.f k r6 a1) fun r18 =>
                  br (deq .bool r17 r18)
                    (bnd (law06_awake.f k) fun r19 =>
                    some r19)
                    (some false))
                  (some false))
                (bnd (dots_Has.f k a1 a3) fun r20 =>
                br (deq .bool r15 r20)
                  (bnd (dots_Within.f k a0 a1) fun r21 =>
                  bnd (dots_Same.f k r6 a1) fun r22 =>
                  br (deq .bool r21 r22)
                    (bnd (law06_awake.f k) fun r23 =>
                    some r23)
                    (some false))
                  (some false)))))))) := by kernel_rfl
noncomputable def law06_DotsLattice.e (k : Nat) : Entry := Sg.entry law06_DotsLattice.sg fun x => law06_DotsLattice.f k x.1 x.2.1 x.2.2.1 x.2.2.2
set_option maxRecDepth 100000 in
theorem law06_DotsLattice.ok (k : Nat) : CallOK Try.prog 7 (law06_DotsLattice.e k) :=
  fn_ok (c := law06_DotsLattice.cx k) (code := law06_DotsLattice.body) (TT.of tt_ok pp_ok) (fns_ok ⟨(ref06_Good.ok k), (law06_awake.ok k), (dots_Union.ok k), (dots_Same.ok k), (dots_Has.ok k), (dots_Within.ok k), trivial⟩) mixed Try.func7 (by kernel_rfl) (by kernel_rfl) (by kernel_rfl) (by kernel_rfl) (by kernel_rfl) (by kernel_rfl) (fun x => by kernel_rfl)
noncomputable def ref24_Short.body : Go.Code := Try.f81.body.getD .skip
noncomputable def ref24_Short.rs : List Go.ResultVar := Try.f81.results.toList
def ref24_Short.regs : List (Nat × RInfo) := [(0, ⟨[1], [1], [0], [], 0, [], [], [], []⟩),
  (1, ⟨[2], [], [], [], 0, [], [], [], []⟩)]
noncomputable def ref24_Short.cx (k : Nat) : Cx := ⟨tt, pp, [], ref24_Short.regs, k⟩
@[reducible] def ref24_Short.sg : Sg := ⟨[.dat tKnow], [], .dat .bool, []⟩
noncomputable def ref24_Short.f (k : Nat) (a0 : Ty.D tKnow) : Option (Sg.Out ref24_Short.sg) := Sg.fn ref24_Short.sg (ref24_Short.cx k) ref24_Short.body ref24_Short.rs a0
set_option maxRecDepth 100000 in
theorem ref24_Short.f_eq (k : Nat) (a0 : Ty.D tKnow) : ref24_Short.f k a0 =
  br (ile (ilen a0.1.2) 100)
    (br (ile (ilen a0.2.1) 100)
      (some (ile (ilen a0.2.2.2) 100))
      (some false))
    (some false) := by kernel_rfl
noncomputable def ref24_Short.e (k : Nat) : Entry := Sg.entry ref24_Short.sg fun x => ref24_Short.f k x
set_option maxRecDepth 100000 in
theorem ref24_Short.ok (k : Nat) : CallOK Try.prog 81 (ref24_Short.e k) :=
  fn_ok (c := ref24_Short.cx k) (code := ref24_Short.body) (TT.of tt_ok pp_ok) (fns_ok trivial) mixed Try.func81 (by kernel_rfl) (by kernel_rfl) (by kernel_rfl) (by kernel_rfl) (by kernel_rfl) (by kernel_rfl) (fun x => by kernel_rfl)
noncomputable def ref08_one.body : Go.Code := Try.f125.body.getD .skip
noncomputable def ref08_one.rs : List Go.ResultVar := Try.f125.results.toList
def ref08_one.regs : List (Nat × RInfo) := [(0, ⟨[1], [1], [], [], 0, [], [], [], []⟩),
  (1, ⟨[2], [5], [], [], 0, [], [], [], []⟩)]
noncomputable def ref08_one.cx (k : Nat) : Cx := ⟨tt, pp, [(17, (ref04_Right.e k))], ref08_one.regs, k⟩
@[reducible] def ref08_one.sg : Sg := ⟨[.dat tUndo], [], .dat .bool, []⟩
noncomputable def ref08_one.f (k : Nat) (a0 : Ty.D tUndo) : Option (Sg.Out ref08_one.sg) := Sg.fn ref08_one.sg (ref08_one.cx k) ref08_one.body ref08_one.rs a0
set_option maxRecDepth 100000 in
theorem ref08_one.f_eq (k : Nat) (a0 : Ty.D tUndo) : ref08_one.f k a0 =
  bnd (ref04_Right.f k a0.1) fun r0 =>
  br r0
    (br (ile 1 a0.2)
      (some (ile a0.2 64))
      (some false))
    (some false) := by kernel_rfl
noncomputable def ref08_one.e (k : Nat) : Entry := Sg.entry ref08_one.sg fun x => ref08_one.f k x
set_option maxRecDepth 100000 in
theorem ref08_one.ok (k : Nat) : CallOK Try.prog 125 (ref08_one.e k) :=
  fn_ok (c := ref08_one.cx k) (code := ref08_one.body) (TT.of tt_ok pp_ok) (fns_ok ⟨(ref04_Right.ok k), trivial⟩) mixed Try.func125 (by kernel_rfl) (by kernel_rfl) (by kernel_rfl) (by kernel_rfl) (by kernel_rfl) (by kernel_rfl) (fun x => by kernel_rfl)
noncomputable def ref08_Right.body : Go.Code := Try.f89.body.getD .skip
noncomputable def ref08_Right.rs : List Go.ResultVar := Try.f89.results.toList
def ref08_Right.regs : List (Nat × RInfo) := [(0, ⟨[0], [], [], [], 0, [], [], [], []⟩),
  (1, ⟨[0, 3], [], [], [], 0, [], [], [], []⟩),
  (2, ⟨[0, 3, 7], [], [], [], 0, [0, 3], [], [], []⟩),
  (4, ⟨[0, 3, 34], [], [], [], 25, [], [], [], []⟩),
  (5, ⟨[2], [], [], [], 0, [], [], [], []⟩),
  (3, ⟨[0, 3], [], [], [], 0, [], [], [], []⟩),
  (6, ⟨[2], [], [], [], 0, [], [], [], []⟩)]
noncomputable def ref08_Right.cx (k : Nat) : Cx := ⟨tt, pp, [(125, (ref08_one.e k)),
  (70, (ref04_Compare.e k))], ref08_Right.regs, k⟩
@[reducible] def ref08_Right.sg : Sg := ⟨[.dat (.slc tUndo)], [], .dat .bool, []⟩
noncomputable def ref08_Right.f (k : Nat) (a0 : Ty.D (.slc tUndo)) : Option (Sg.Out ref08_Right.sg) := Sg.fn ref08_Right.sg (ref08_Right.cx k) ref08_Right.body ref08_Right.rs a0
noncomputable def ref08_Right.l2 (k : Nat) (n : Nat) (x0 : Ty.D (.slc tUndo)) (x3 : Ty.D (.int .i64)) : Option (Sg.Out ref08_Right.sg) := loopAt (ref08_Right.cx k) ref08_Right.body [1, 0, 1, 0] 2 [0, 3] [] [] (Sg.K ref08_Right.sg (ref08_Right.cx k) ref08_Right.rs) n ⟨[(0, .dat (.slc tUndo) x0), (3, .dat (.int .i64) x3)], []⟩
set_option maxRecDepth 100000 in
theorem ref08_Right.f_eq (k : Nat) (a0 : Ty.D (.slc tUndo)) : ref08_Right.f k a0 =
  ref08_Right.l2 k k a0 0 := by kernel_rfl
set_option maxRecDepth 100000 in
theorem ref08_Right.l2_eq (k : Nat) (n2 : Nat) (x0 : Ty.D (.slc tUndo)) (x3 : Ty.D (.int .i64)) : ref08_Right.l2 k (n2 + 1) x0 x3 =
  br (ilt x3 (ilen x0))
    (br (inL x3 x0)
      (bnd (ref08_one.f k (rd tUndo x0 (natOf x3))) fun r0 =>
      br (bnot r0)
        (some false)
        (br (ilt 0 x3)
          (br (inL (isub .i64 x3 1) x0)
            (br (inL x3 x0)
              (bnd (ref04_Compare.f k ((rd tUndo x0 (natOf (isub .i64 x3 1))).1) ((rd tUndo x0 (natOf x3)).1)) fun r1 =>
              br (bnot (ieq r1 (-1)))
                (some false)
                (ref08_Right.l2 k n2 x0 (iadd .i64 x3 1)))
              (none))
            (none))
          (ref08_Right.l2 k n2 x0 (iadd .i64 x3 1))))
      (none))
    (some true) := by kernel_rfl
noncomputable def ref08_Right.e (k : Nat) : Entry := Sg.entry ref08_Right.sg fun x => ref08_Right.f k x
set_option maxRecDepth 100000 in
theorem ref08_Right.ok (k : Nat) : CallOK Try.prog 89 (ref08_Right.e k) :=
  fn_ok (c := ref08_Right.cx k) (code := ref08_Right.body) (TT.of tt_ok pp_ok) (fns_ok ⟨(ref08_one.ok k), (ref04_Compare.ok k), trivial⟩) mixed Try.func89 (by kernel_rfl) (by kernel_rfl) (by kernel_rfl) (by kernel_rfl) (by kernel_rfl) (by kernel_rfl) (fun x => by kernel_rfl)
noncomputable def ref24_Right.body : Go.Code := Try.f42.body.getD .skip
noncomputable def ref24_Right.rs : List Go.ResultVar := Try.f42.results.toList
def ref24_Right.regs : List (Nat × RInfo) := [(0, ⟨[1], [1], [0], [], 0, [], [], [], []⟩),
  (1, ⟨[2], [5, 9, 14], [], [], 0, [], [], [], []⟩)]
noncomputable def ref24_Right.cx (k : Nat) : Cx := ⟨tt, pp, [(22, (ref06_Right.e k)),
  (89, (ref08_Right.e k))], ref24_Right.regs, k⟩
@[reducible] def ref24_Right.sg : Sg := ⟨[.dat tKnow], [], .dat .bool, []⟩
noncomputable def ref24_Right.f (k : Nat) (a0 : Ty.D tKnow) : Option (Sg.Out ref24_Right.sg) := Sg.fn ref24_Right.sg (ref24_Right.cx k) ref24_Right.body ref24_Right.rs a0
set_option maxRecDepth 100000 in
theorem ref24_Right.f_eq (k : Nat) (a0 : Ty.D tKnow) : ref24_Right.f k a0 =
  bnd (ref06_Right.f k a0.1) fun r0 =>
  br r0
    (bnd (ref08_Right.f k a0.2.1) fun r1 =>
    br r1
      (bnd (ref06_Right.f k a0.2.2) fun r2 =>
      some r2)
      (some false))
    (some false) := by kernel_rfl
noncomputable def ref24_Right.e (k : Nat) : Entry := Sg.entry ref24_Right.sg fun x => ref24_Right.f k x
set_option maxRecDepth 100000 in
theorem ref24_Right.ok (k : Nat) : CallOK Try.prog 42 (ref24_Right.e k) :=
  fn_ok (c := ref24_Right.cx k) (code := ref24_Right.body) (TT.of tt_ok pp_ok) (fns_ok ⟨(ref06_Right.ok k), (ref08_Right.ok k), trivial⟩) mixed Try.func42 (by kernel_rfl) (by kernel_rfl) (by kernel_rfl) (by kernel_rfl) (by kernel_rfl) (by kernel_rfl) (fun x => by kernel_rfl)
noncomputable def ref24_Good.body : Go.Code := Try.f37.body.getD .skip
noncomputable def ref24_Good.rs : List Go.ResultVar := Try.f37.results.toList
def ref24_Good.regs : List (Nat × RInfo) := [(0, ⟨[1], [1], [0], [], 0, [], [], [], []⟩),
  (1, ⟨[2], [4, 7], [], [], 0, [], [], [], []⟩)]
noncomputable def ref24_Good.cx (k : Nat) : Cx := ⟨tt, pp, [(81, (ref24_Short.e k)),
  (42, (ref24_Right.e k))], ref24_Good.regs, k⟩
@[reducible] def ref24_Good.sg : Sg := ⟨[.dat tKnow], [], .dat .bool, []⟩
noncomputable def ref24_Good.f (k : Nat) (a0 : Ty.D tKnow) : Option (Sg.Out ref24_Good.sg) := Sg.fn ref24_Good.sg (ref24_Good.cx k) ref24_Good.body ref24_Good.rs a0
set_option maxRecDepth 100000 in
theorem ref24_Good.f_eq (k : Nat) (a0 : Ty.D tKnow) : ref24_Good.f k a0 =
  bnd (ref24_Short.f k a0) fun r0 =>
  br r0
    (bnd (ref24_Right.f k a0) fun r1 =>
    some r1)
    (some false) := by kernel_rfl
noncomputable def ref24_Good.e (k : Nat) : Entry := Sg.entry ref24_Good.sg fun x => ref24_Good.f k x
set_option maxRecDepth 100000 in
theorem ref24_Good.ok (k : Nat) : CallOK Try.prog 37 (ref24_Good.e k) :=
  fn_ok (c := ref24_Good.cx k) (code := ref24_Good.body) (TT.of tt_ok pp_ok) (fns_ok ⟨(ref24_Short.ok k), (ref24_Right.ok k), trivial⟩) mixed Try.func37 (by kernel_rfl) (by kernel_rfl) (by kernel_rfl) (by kernel_rfl) (by kernel_rfl) (by kernel_rfl) (fun x => by kernel_rfl)
noncomputable def txn_Find_1.body : Go.Code := Try.f130.body.getD .skip
noncomputable def txn_Find_1.rs : List Go.ResultVar := Try.f130.results.toList
def txn_Find_1.regs : List (Nat × RInfo) := [(0, ⟨[2, 3], [2, 3], [0], [], 0, [], [], [], []⟩),
  (1, ⟨[4], [8], [], [], 0, [], [], [], []⟩)]
noncomputable def txn_Find_1.cx (k : Nat) : Cx := ⟨tt, pp, [(66, (dot_Compare.e k))], txn_Find_1.regs, k⟩
@[reducible] def txn_Find_1.sg : Sg := ⟨[.dat tTxn, .dat tDot], [], .dat (.int .i64), []⟩
noncomputable def txn_Find_1.f (k : Nat) (a0 : Ty.D tTxn) (a1 : Ty.D tDot) : Option (Sg.Out txn_Find_1.sg) := Sg.fn txn_Find_1.sg (txn_Find_1.cx k) txn_Find_1.body txn_Find_1.rs (a0, a1)
set_option maxRecDepth 100000 in
theorem txn_Find_1.f_eq (k : Nat) (a0 : Ty.D tTxn) (a1 : Ty.D tDot) : txn_Find_1.f k a0 a1 =
  bnd (dot_Compare.f k a0.1 a1) fun r0 =>
  some r0 := by kernel_rfl
noncomputable def txn_Find_1.e (k : Nat) : Entry := Sg.entry txn_Find_1.sg fun x => txn_Find_1.f k x.1 x.2
set_option maxRecDepth 100000 in
theorem txn_Find_1.ok (k : Nat) : CallOK Try.prog 130 (txn_Find_1.e k) :=
  fn_ok (c := txn_Find_1.cx k) (code := txn_Find_1.body) (TT.of tt_ok pp_ok) (fns_ok ⟨(dot_Compare.ok k), trivial⟩) mixed Try.func130 (by kernel_rfl) (by kernel_rfl) (by kernel_rfl) (by kernel_rfl) (by kernel_rfl) (by kernel_rfl) (fun x => by kernel_rfl)
noncomputable def slices_BinarySearchFunc_api_Txn_api_Txn_api_Dot_130.body : Go.Code := Try.f129.body.getD .skip
noncomputable def slices_BinarySearchFunc_api_Txn_api_Txn_api_Dot_130.rs : List Go.ResultVar := Try.f129.results.toList
def slices_BinarySearchFunc_api_Txn_api_Txn_api_Dot_130.regs : List (Nat × RInfo) := [(0, ⟨[0, 2, 4], [4], [], [], 0, [], [], [], []⟩),
  (1, ⟨[0, 2, 4, 8], [4], [], [], 0, [], [], [], []⟩),
  (2, ⟨[0, 2, 4, 8, 9, 10], [4], [], [], 0, [], [], [], []⟩),
  (3, ⟨[0, 2, 4, 8, 9, 10, 17], [4], [], [], 0, [0, 2, 4, 8, 9, 10], [4], [], []⟩),
  (4, ⟨[0, 2, 4, 8, 9, 10, 11], [4], [], [], 0, [], [], [], []⟩),
  (5, ⟨[0, 2, 4, 8, 9, 10, 11, 31], [4], [], [], 8, [], [], [], [[], [], [], [], [], [], [4, 5], [6, 4, 5]]⟩),
  (6, ⟨[0, 2, 4, 8, 9, 10], [4], [], [], 0, [], [], [], []⟩),
  (7, ⟨[0, 2, 4, 8, 9, 10], [4], [], [], 0, [], [], [], []⟩),
  (8, ⟨[6, 7], [], [], [], 15, [], [], [], [[], [], [], [], [], [], [], [], [], [], [], [9, 10], [11, 9, 10], [11, 9, 10], [11, 9, 10], [11, 9, 10]]⟩)]
noncomputable def slices_BinarySearchFunc_api_Txn_api_Txn_api_Dot_130.cx (k : Nat) : Cx := ⟨tt, pp, [(130, (txn_Find_1.e k))], slices_BinarySearchFunc_api_Txn_api_Txn_api_Dot_130.regs, k⟩
@[reducible] def slices_BinarySearchFunc_api_Txn_api_Txn_api_Dot_130.sg : Sg := ⟨[.dat (.slc tTxn), .dat tDot, .fn 130 0], [], .t2 (.dat (.int .i64)) (.dat .bool), []⟩
noncomputable def slices_BinarySearchFunc_api_Txn_api_Txn_api_Dot_130.f (k : Nat) (a0 : Ty.D (.slc tTxn)) (a1 : Ty.D tDot) : Option (Sg.Out slices_BinarySearchFunc_api_Txn_api_Txn_api_Dot_130.sg) := Sg.fn slices_BinarySearchFunc_api_Txn_api_Txn_api_Dot_130.sg (slices_BinarySearchFunc_api_Txn_api_Txn_api_Dot_130.cx k) slices_BinarySearchFunc_api_Txn_api_Txn_api_Dot_130.body slices_BinarySearchFunc_api_Txn_api_Txn_api_Dot_130.rs (a0, a1)
noncomputable def slices_BinarySearchFunc_api_Txn_api_Txn_api_Dot_130.l3 (k : Nat) (n : Nat) (x0 : Ty.D (.slc tTxn)) (x8 : Ty.D (.int .i64)) (x9 : Ty.D (.int .i64)) (x10 : Ty.D (.int .i64)) (m4 : Ty.D tDot) : Option (Sg.Out slices_BinarySearchFunc_api_Txn_api_Txn_api_Dot_130.sg) := loopAt (slices_BinarySearchFunc_api_Txn_api_Txn_api_Dot_130.cx k) slices_BinarySearchFunc_api_Txn_api_Txn_api_Dot_130.body [1, 1, 1, 0, 0] 3 [0, 2, 4, 8, 9, 10] [4] [] (Sg.K slices_BinarySearchFunc_api_Txn_api_Txn_api_Dot_130.sg (slices_BinarySearchFunc_api_Txn_api_Txn_api_Dot_130.cx k) slices_BinarySearchFunc_api_Txn_api_Txn_api_Dot_130.rs) n ⟨[(0, .dat (.slc tTxn) x0), (2, .fn 130 []), (4, .ref 4 []), (8, .dat (.int .i64) x8), (9, .dat (.int .i64) x9), (10, .dat (.int .i64) x10)], [(4, .dat tDot m4)]⟩
set_option maxRecDepth 100000 in
theorem slices_BinarySearchFunc_api_Txn_api_Txn_api_Dot_130.f_eq (k : Nat) (a0 : Ty.D (.slc tTxn)) (a1 : Ty.D tDot) : slices_BinarySearchFunc_api_Txn_api_Txn_api_Dot_130.f k a0 a1 =
  slices_BinarySearchFunc_api_Txn_api_Txn_api_Dot_130.l3 k k a0 (ilen a0) 0 (ilen a0) a1 := by kernel_rfl
set_option maxRecDepth 100000 in
theorem slices_BinarySearchFunc_api_Txn_api_Txn_api_Dot_130.l3_eq (k : Nat) (n3 : Nat) (x0 : Ty.D (.slc tTxn)) (x8 : Ty.D (.int .i64)) (x9 : Ty.D (.int .i64)) (x10 : Ty.D (.int .i64)) (m4 : Ty.D tDot) : slices_BinarySearchFunc_api_Txn_api_Txn_api_Dot_130.l3 k (n3 + 1) x0 x8 x9 x10 m4 =
  br (ilt x9 x10)
    (br (inL (iwrap .i64 (ishr .u64 (iwrap .u64 (iadd .i64 x9 x10)) 1)) x0)
      (bnd (txn_Find_1.f k (rd tTxn x0 (natOf (iwrap .i64 (ishr .u64 (iwrap .u64 (iadd .i64 x9 x10)) 1)))) m4) fun r0 =>
      br (ilt r0 0)
        (slices_BinarySearchFunc_api_Txn_api_Txn_api_Dot_130.l3 k n3 x0 x8 (iadd .i64 (iwrap .i64 (ishr .u64 (iwrap .u64 (iadd .i64 x9 x10)) 1)) 1) x10 m4)
        (slices_BinarySearchFunc_api_Txn_api_Txn_api_Dot_130.l3 k n3 x0 x8 x9 (iwrap .i64 (ishr .u64 (iwrap .u64 (iadd .i64 x9 x10)) 1)) m4))
      (none))
    (br (ilt x9 x8)
      (br (inL x9 x0)
        (bnd (txn_Find_1.f k (rd tTxn x0 (natOf x9)) m4) fun r1 =>
        some (x9, (ieq r1 0)))
        (none))
      (some (x9, false))) := by kernel_rfl
noncomputable def slices_BinarySearchFunc_api_Txn_api_Txn_api_Dot_130.e (k : Nat) : Entry := Sg.entry slices_BinarySearchFunc_api_Txn_api_Txn_api_Dot_130.sg fun x => slices_BinarySearchFunc_api_Txn_api_Txn_api_Dot_130.f k x.1 x.2
set_option maxRecDepth 100000 in
theorem slices_BinarySearchFunc_api_Txn_api_Txn_api_Dot_130.ok (k : Nat) : CallOK Try.prog 129 (slices_BinarySearchFunc_api_Txn_api_Txn_api_Dot_130.e k) :=
  fn_ok (c := slices_BinarySearchFunc_api_Txn_api_Txn_api_Dot_130.cx k) (code := slices_BinarySearchFunc_api_Txn_api_Txn_api_Dot_130.body) (TT.of tt_ok pp_ok) (fns_ok ⟨(txn_Find_1.ok k), trivial⟩) mixed Try.func129 (by kernel_rfl) (by kernel_rfl) (by kernel_rfl) (by kernel_rfl) (by kernel_rfl) (by kernel_rfl) (fun x => by kernel_rfl)
noncomputable def txn_Find.body : Go.Code := Try.f101.body.getD .skip
noncomputable def txn_Find.rs : List Go.ResultVar := Try.f101.results.toList
def txn_Find.regs : List (Nat × RInfo) := [(0, ⟨[0, 3], [3], [], [], 0, [], [], [], []⟩),
  (1, ⟨[5, 6], [10], [], [], 0, [], [], [], []⟩),
  (2, ⟨[5, 14], [10], [], [], 0, [], [], [], []⟩),
  (3, ⟨[4], [10], [], [], 0, [], [], [], []⟩),
  (4, ⟨[4], [10], [], [], 0, [], [], [], []⟩)]
noncomputable def txn_Find.cx (k : Nat) : Cx := ⟨tt, pp, [(129, (slices_BinarySearchFunc_api_Txn_api_Txn_api_Dot_130.e k)),
  (130, (txn_Find_1.e k))], txn_Find.regs, k⟩
@[reducible] def txn_Find.sg : Sg := ⟨[.dat (.slc tTxn), .dat tDot], [], .dat (.int .i64), []⟩
noncomputable def txn_Find.f (k : Nat) (a0 : Ty.D (.slc tTxn)) (a1 : Ty.D tDot) : Option (Sg.Out txn_Find.sg) := Sg.fn txn_Find.sg (txn_Find.cx k) txn_Find.body txn_Find.rs (a0, a1)
set_option maxRecDepth 100000 in
theorem txn_Find.f_eq (k : Nat) (a0 : Ty.D (.slc tTxn)) (a1 : Ty.D tDot) : txn_Find.f k a0 a1 =
  bnd (slices_BinarySearchFunc_api_Txn_api_Txn_api_Dot_130.f k a0 a1) fun r0 =>
  br (bnot r0.2)
    (some (-1))
    (some r0.1) := by kernel_rfl
noncomputable def txn_Find.e (k : Nat) : Entry := Sg.entry txn_Find.sg fun x => txn_Find.f k x.1 x.2
set_option maxRecDepth 100000 in
theorem txn_Find.ok (k : Nat) : CallOK Try.prog 101 (txn_Find.e k) :=
  fn_ok (c := txn_Find.cx k) (code := txn_Find.body) (TT.of tt_ok pp_ok) (fns_ok ⟨(slices_BinarySearchFunc_api_Txn_api_Txn_api_Dot_130.ok k), (txn_Find_1.ok k), trivial⟩) mixed Try.func101 (by kernel_rfl) (by kernel_rfl) (by kernel_rfl) (by kernel_rfl) (by kernel_rfl) (by kernel_rfl) (fun x => by kernel_rfl)
noncomputable def txn_Put_1.body : Go.Code := Try.f144.body.getD .skip
noncomputable def txn_Put_1.rs : List Go.ResultVar := Try.f144.results.toList
def txn_Put_1.regs : List (Nat × RInfo) := [(0, ⟨[2, 3], [2, 3], [0], [], 0, [], [], [], []⟩),
  (1, ⟨[4], [8], [], [], 0, [], [], [], []⟩)]
noncomputable def txn_Put_1.cx (k : Nat) : Cx := ⟨tt, pp, [(66, (dot_Compare.e k))], txn_Put_1.regs, k⟩
@[reducible] def txn_Put_1.sg : Sg := ⟨[.dat tTxn, .dat tDot], [], .dat (.int .i64), []⟩
noncomputable def txn_Put_1.f (k : Nat) (a0 : Ty.D tTxn) (a1 : Ty.D tDot) : Option (Sg.Out txn_Put_1.sg) := Sg.fn txn_Put_1.sg (txn_Put_1.cx k) txn_Put_1.body txn_Put_1.rs (a0, a1)
set_option maxRecDepth 100000 in
theorem txn_Put_1.f_eq (k : Nat) (a0 : Ty.D tTxn) (a1 : Ty.D tDot) : txn_Put_1.f k a0 a1 =
  bnd (dot_Compare.f k a0.1 a1) fun r0 =>
  some r0 := by kernel_rfl
noncomputable def txn_Put_1.e (k : Nat) : Entry := Sg.entry txn_Put_1.sg fun x => txn_Put_1.f k x.1 x.2
set_option maxRecDepth 100000 in
theorem txn_Put_1.ok (k : Nat) : CallOK Try.prog 144 (txn_Put_1.e k) :=
  fn_ok (c := txn_Put_1.cx k) (code := txn_Put_1.body) (TT.of tt_ok pp_ok) (fns_ok ⟨(dot_Compare.ok k), trivial⟩) mixed Try.func144 (by kernel_rfl) (by kernel_rfl) (by kernel_rfl) (by kernel_rfl) (by kernel_rfl) (by kernel_rfl) (fun x => by kernel_rfl)
noncomputable def slices_BinarySearchFunc_api_Txn_api_Txn_api_Dot_144.body : Go.Code := Try.f129.body.getD .skip
noncomputable def slices_BinarySearchFunc_api_Txn_api_Txn_api_Dot_144.rs : List Go.ResultVar := Try.f129.results.toList
def slices_BinarySearchFunc_api_Txn_api_Txn_api_Dot_144.regs : List (Nat × RInfo) := [(0, ⟨[0, 2, 4], [4], [], [], 0, [], [], [], []⟩),
  (1, ⟨[0, 2, 4, 8], [4], [], [], 0, [], [], [], []⟩),
  (2, ⟨[0, 2, 4, 8, 9, 10], [4], [], [], 0, [], [], [], []⟩),
  (3, ⟨[0, 2, 4, 8, 9, 10, 17], [4], [], [], 0, [0, 2, 4, 8, 9, 10], [4], [], []⟩),
  (4, ⟨[0, 2, 4, 8, 9, 10, 11], [4], [], [], 0, [], [], [], []⟩),
  (5, ⟨[0, 2, 4, 8, 9, 10, 11, 31], [4], [], [], 8, [], [], [], [[], [], [], [], [], [], [4, 5], [6, 4, 5]]⟩),
  (6, ⟨[0, 2, 4, 8, 9, 10], [4], [], [], 0, [], [], [], []⟩),
  (7, ⟨[0, 2, 4, 8, 9, 10], [4], [], [], 0, [], [], [], []⟩),
  (8, ⟨[6, 7], [], [], [], 15, [], [], [], [[], [], [], [], [], [], [], [], [], [], [], [9, 10], [11, 9, 10], [11, 9, 10], [11, 9, 10], [11, 9, 10]]⟩)]
noncomputable def slices_BinarySearchFunc_api_Txn_api_Txn_api_Dot_144.cx (k : Nat) : Cx := ⟨tt, pp, [(144, (txn_Put_1.e k))], slices_BinarySearchFunc_api_Txn_api_Txn_api_Dot_144.regs, k⟩
@[reducible] def slices_BinarySearchFunc_api_Txn_api_Txn_api_Dot_144.sg : Sg := ⟨[.dat (.slc tTxn), .dat tDot, .fn 144 0], [], .t2 (.dat (.int .i64)) (.dat .bool), []⟩
noncomputable def slices_BinarySearchFunc_api_Txn_api_Txn_api_Dot_144.f (k : Nat) (a0 : Ty.D (.slc tTxn)) (a1 : Ty.D tDot) : Option (Sg.Out slices_BinarySearchFunc_api_Txn_api_Txn_api_Dot_144.sg) := Sg.fn slices_BinarySearchFunc_api_Txn_api_Txn_api_Dot_144.sg (slices_BinarySearchFunc_api_Txn_api_Txn_api_Dot_144.cx k) slices_BinarySearchFunc_api_Txn_api_Txn_api_Dot_144.body slices_BinarySearchFunc_api_Txn_api_Txn_api_Dot_144.rs (a0, a1)
noncomputable def slices_BinarySearchFunc_api_Txn_api_Txn_api_Dot_144.l3 (k : Nat) (n : Nat) (x0 : Ty.D (.slc tTxn)) (x8 : Ty.D (.int .i64)) (x9 : Ty.D (.int .i64)) (x10 : Ty.D (.int .i64)) (m4 : Ty.D tDot) : Option (Sg.Out slices_BinarySearchFunc_api_Txn_api_Txn_api_Dot_144.sg) := loopAt (slices_BinarySearchFunc_api_Txn_api_Txn_api_Dot_144.cx k) slices_BinarySearchFunc_api_Txn_api_Txn_api_Dot_144.body [1, 1, 1, 0, 0] 3 [0, 2, 4, 8, 9, 10] [4] [] (Sg.K slices_BinarySearchFunc_api_Txn_api_Txn_api_Dot_144.sg (slices_BinarySearchFunc_api_Txn_api_Txn_api_Dot_144.cx k) slices_BinarySearchFunc_api_Txn_api_Txn_api_Dot_144.rs) n ⟨[(0, .dat (.slc tTxn) x0), (2, .fn 144 []), (4, .ref 4 []), (8, .dat (.int .i64) x8), (9, .dat (.int .i64) x9), (10, .dat (.int .i64) x10)], [(4, .dat tDot m4)]⟩
set_option maxRecDepth 100000 in
theorem slices_BinarySearchFunc_api_Txn_api_Txn_api_Dot_144.f_eq (k : Nat) (a0 : Ty.D (.slc tTxn)) (a1 : Ty.D tDot) : slices_BinarySearchFunc_api_Txn_api_Txn_api_Dot_144.f k a0 a1 =
  slices_BinarySearchFunc_api_Txn_api_Txn_api_Dot_144.l3 k k a0 (ilen a0) 0 (ilen a0) a1 := by kernel_rfl
set_option maxRecDepth 100000 in
theorem slices_BinarySearchFunc_api_Txn_api_Txn_api_Dot_144.l3_eq (k : Nat) (n3 : Nat) (x0 : Ty.D (.slc tTxn)) (x8 : Ty.D (.int .i64)) (x9 : Ty.D (.int .i64)) (x10 : Ty.D (.int .i64)) (m4 : Ty.D tDot) : slices_BinarySearchFunc_api_Txn_api_Txn_api_Dot_144.l3 k (n3 + 1) x0 x8 x9 x10 m4 =
  br (ilt x9 x10)
    (br (inL (iwrap .i64 (ishr .u64 (iwrap .u64 (iadd .i64 x9 x10)) 1)) x0)
      (bnd (txn_Put_1.f k (rd tTxn x0 (natOf (iwrap .i64 (ishr .u64 (iwrap .u64 (iadd .i64 x9 x10)) 1)))) m4) fun r0 =>
      br (ilt r0 0)
        (slices_BinarySearchFunc_api_Txn_api_Txn_api_Dot_144.l3 k n3 x0 x8 (iadd .i64 (iwrap .i64 (ishr .u64 (iwrap .u64 (iadd .i64 x9 x10)) 1)) 1) x10 m4)
        (slices_BinarySearchFunc_api_Txn_api_Txn_api_Dot_144.l3 k n3 x0 x8 x9 (iwrap .i64 (ishr .u64 (iwrap .u64 (iadd .i64 x9 x10)) 1)) m4))
      (none))
    (br (ilt x9 x8)
      (br (inL x9 x0)
        (bnd (txn_Put_1.f k (rd tTxn x0 (natOf x9)) m4) fun r1 =>
        some (x9, (ieq r1 0)))
        (none))
      (some (x9, false))) := by kernel_rfl
noncomputable def slices_BinarySearchFunc_api_Txn_api_Txn_api_Dot_144.e (k : Nat) : Entry := Sg.entry slices_BinarySearchFunc_api_Txn_api_Txn_api_Dot_144.sg fun x => slices_BinarySearchFunc_api_Txn_api_Txn_api_Dot_144.f k x.1 x.2
set_option maxRecDepth 100000 in
theorem slices_BinarySearchFunc_api_Txn_api_Txn_api_Dot_144.ok (k : Nat) : CallOK Try.prog 129 (slices_BinarySearchFunc_api_Txn_api_Txn_api_Dot_144.e k) :=
  fn_ok (c := slices_BinarySearchFunc_api_Txn_api_Txn_api_Dot_144.cx k) (code := slices_BinarySearchFunc_api_Txn_api_Txn_api_Dot_144.body) (TT.of tt_ok pp_ok) (fns_ok ⟨(txn_Put_1.ok k), trivial⟩) mixed Try.func129 (by kernel_rfl) (by kernel_rfl) (by kernel_rfl) (by kernel_rfl) (by kernel_rfl) (by kernel_rfl) (fun x => by kernel_rfl)
noncomputable def txn_Put.body : Go.Code := Try.f120.body.getD .skip
noncomputable def txn_Put.rs : List Go.ResultVar := Try.f120.results.toList
def txn_Put.regs : List (Nat × RInfo) := [(0, ⟨[0, 3], [3], [0], [], 0, [], [], [1], []⟩),
  (1, ⟨[0, 3, 5, 6], [3, 11], [], [], 0, [], [], [0, 3], []⟩),
  (2, ⟨[0, 3, 5, 14], [3, 11], [], [], 0, [], [], [6], []⟩),
  (3, ⟨[4], [21], [0, 1], [], 0, [], [], [], []⟩),
  (4, ⟨[4], [21], [5, 6], [], 6, [], [], [0, 5, 3], []⟩)]
noncomputable def txn_Put.cx (k : Nat) : Cx := ⟨tt, pp, [(129, (Entry.alt slices_BinarySearchFunc_api_Txn_api_Txn_api_Dot_130.sg (slices_BinarySearchFunc_api_Txn_api_Txn_api_Dot_130.e k) (slices_BinarySearchFunc_api_Txn_api_Txn_api_Dot_144.e k))),
  (144, (txn_Put_1.e k)),
  (146, (cloneE tTxn)),
  (145, (insE tTxn))], txn_Put.regs, k⟩
@[reducible] def txn_Put.sg : Sg := ⟨[.dat (.slc tTxn), .dat tTxn], [], .dat (.slc tTxn), []⟩
noncomputable def txn_Put.f (k : Nat) (a0 : Ty.D (.slc tTxn)) (a1 : Ty.D tTxn) : Option (Sg.Out txn_Put.sg) := Sg.fn txn_Put.sg (txn_Put.cx k) txn_Put.body txn_Put.rs (a0, a1)
set_option maxRecDepth 100000 in
theorem txn_Put.f_eq (k : Nat) (a0 : Ty.D (.slc tTxn)) (a1 : Ty.D tTxn) : txn_Put.f k a0 a1 =
  bnd (slices_BinarySearchFunc_api_Txn_api_Txn_api_Dot_144.f k a0 a1.1) fun r0 =>
  br r0.2
    (some a0)
    (br (room ([] : List Int) a0)
      (br (inS 0 r0.1 (ilen a0))
        (br (room a0 (a1 :: []))
          (some (insAt a0 r0.1 (a1 :: [])))
          (none))
        (none))
      (none)) := by kernel_rfl
noncomputable def txn_Put.e (k : Nat) : Entry := Sg.entry txn_Put.sg fun x => txn_Put.f k x.1 x.2
set_option maxRecDepth 100000 in
theorem txn_Put.ok (k : Nat) : CallOK Try.prog 120 (txn_Put.e k) :=
  fn_ok (c := txn_Put.cx k) (code := txn_Put.body) (TT.of tt_ok pp_ok) (fns_ok ⟨(alt_ok (slices_BinarySearchFunc_api_Txn_api_Txn_api_Dot_130.ok k) (slices_BinarySearchFunc_api_Txn_api_Txn_api_Dot_144.ok k)), (txn_Put_1.ok k), clone146, ins145, trivial⟩) mixed Try.func120 (by kernel_rfl) (by kernel_rfl) (by kernel_rfl) (by kernel_rfl) (by kernel_rfl) (by kernel_rfl) (fun x => by kernel_rfl)
noncomputable def state_Put.body : Go.Code := Try.f82.body.getD .skip
noncomputable def state_Put.rs : List Go.ResultVar := Try.f82.results.toList
def state_Put.regs : List (Nat × RInfo) := [(0, ⟨[2, 3, 4], [2, 3, 4], [0, 1], [], 0, [], [], [], []⟩),
  (1, ⟨[2, 3, 4, 10], [2, 3, 4], [], [], 0, [], [], [], []⟩),
  (2, ⟨[4], [4], [1], [], 0, [], [], [], []⟩),
  (3, ⟨[2, 3, 4], [2, 3, 4], [5], [], 0, [], [], [], []⟩),
  (4, ⟨[2, 4], [2, 4], [6], [], 0, [], [], [], []⟩),
  (5, ⟨[4], [4], [1], [], 0, [], [], [], []⟩)]
noncomputable def state_Put.cx (k : Nat) : Cx := ⟨tt, pp, [(101, (txn_Find.e k)),
  (120, (txn_Put.e k)),
  (26, (dots_Put.e k))], state_Put.regs, k⟩
@[reducible] def state_Put.sg : Sg := ⟨[.dat tState, .dat tTxn], [], .dat tState, []⟩
noncomputable def state_Put.f (k : Nat) (a0 : Ty.D tState) (a1 : Ty.D tTxn) : Option (Sg.Out state_Put.sg) := Sg.fn state_Put.sg (state_Put.cx k) state_Put.body state_Put.rs (a0, a1)
set_option maxRecDepth 100000 in
theorem state_Put.f_eq (k : Nat) (a0 : Ty.D tState) (a1 : Ty.D tTxn) : state_Put.f k a0 a1 =
  bnd (txn_Find.f k a0.1 a1.1) fun r0 =>
  br (ile 0 r0)
    (some a0)
    (bnd (txn_Put.f k a0.1 a1) fun r1 =>
    bnd (dots_Put.f k a0.2.2.1 a1.1) fun r2 =>
    some (r1, (a0.2.1, (r2, a0.2.2.2)))) := by kernel_rfl
noncomputable def state_Put.e (k : Nat) : Entry := Sg.entry state_Put.sg fun x => state_Put.f k x.1 x.2
set_option maxRecDepth 100000 in
theorem state_Put.ok (k : Nat) : CallOK Try.prog 82 (state_Put.e k) :=
  fn_ok (c := state_Put.cx k) (code := state_Put.body) (TT.of tt_ok pp_ok) (fns_ok ⟨(txn_Find.ok k), (txn_Put.ok k), (dots_Put.ok k), trivial⟩) mixed Try.func82 (by kernel_rfl) (by kernel_rfl) (by kernel_rfl) (by kernel_rfl) (by kernel_rfl) (by kernel_rfl) (fun x => by kernel_rfl)
noncomputable def tally_compare.body : Go.Code := Try.f123.body.getD .skip
noncomputable def tally_compare.rs : List Go.ResultVar := Try.f123.results.toList
def tally_compare.regs : List (Nat × RInfo) := [(0, ⟨[2, 3], [2, 3], [], [], 0, [], [], [], []⟩),
  (1, ⟨[4], [9], [], [], 0, [], [], [], []⟩)]
noncomputable def tally_compare.cx (k : Nat) : Cx := ⟨tt, pp, [(66, (dot_Compare.e k))], tally_compare.regs, k⟩
@[reducible] def tally_compare.sg : Sg := ⟨[.dat tUndo, .dat tUndo], [], .dat (.int .i64), []⟩
noncomputable def tally_compare.f (k : Nat) (a0 : Ty.D tUndo) (a1 : Ty.D tUndo) : Option (Sg.Out tally_compare.sg) := Sg.fn tally_compare.sg (tally_compare.cx k) tally_compare.body tally_compare.rs (a0, a1)
set_option maxRecDepth 100000 in
theorem tally_compare.f_eq (k : Nat) (a0 : Ty.D tUndo) (a1 : Ty.D tUndo) : tally_compare.f k a0 a1 =
  bnd (dot_Compare.f k a0.1 a1.1) fun r0 =>
  some r0 := by kernel_rfl
noncomputable def tally_compare.e (k : Nat) : Entry := Sg.entry tally_compare.sg fun x => tally_compare.f k x.1 x.2
set_option maxRecDepth 100000 in
theorem tally_compare.ok (k : Nat) : CallOK Try.prog 123 (tally_compare.e k) :=
  fn_ok (c := tally_compare.cx k) (code := tally_compare.body) (TT.of tt_ok pp_ok) (fns_ok ⟨(dot_Compare.ok k), trivial⟩) mixed Try.func123 (by kernel_rfl) (by kernel_rfl) (by kernel_rfl) (by kernel_rfl) (by kernel_rfl) (by kernel_rfl) (fun x => by kernel_rfl)
noncomputable def slices_BinarySearchFunc_api_Undo_api_Undo_api_Undo_123.body : Go.Code := Try.f170.body.getD .skip
noncomputable def slices_BinarySearchFunc_api_Undo_api_Undo_api_Undo_123.rs : List Go.ResultVar := Try.f170.results.toList
def slices_BinarySearchFunc_api_Undo_api_Undo_api_Undo_123.regs : List (Nat × RInfo) := [(0, ⟨[0, 2, 4], [4], [], [], 0, [], [], [], []⟩),
  (1, ⟨[0, 2, 4, 8], [4], [], [], 0, [], [], [], []⟩),
  (2, ⟨[0, 2, 4, 8, 9, 10], [4], [], [], 0, [], [], [], []⟩),
  (3, ⟨[0, 2, 4, 8, 9, 10, 17], [4], [], [], 0, [0, 2, 4, 8, 9, 10], [4], [], []⟩),
  (4, ⟨[0, 2, 4, 8, 9, 10, 11], [4], [], [], 0, [], [], [], []⟩),
  (5, ⟨[0, 2, 4, 8, 9, 10, 11, 31], [4], [], [], 8, [], [], [], [[], [], [], [], [], [], [4, 5], [6, 4, 5]]⟩),
  (6, ⟨[0, 2, 4, 8, 9, 10], [4], [], [], 0, [], [], [], []⟩),
  (7, ⟨[0, 2, 4, 8, 9, 10], [4], [], [], 0, [], [], [], []⟩),
  (8, ⟨[6, 7], [], [], [], 15, [], [], [], [[], [], [], [], [], [], [], [], [], [], [], [9, 10], [11, 9, 10], [11, 9, 10], [11, 9, 10], [11, 9, 10]]⟩)]
noncomputable def slices_BinarySearchFunc_api_Undo_api_Undo_api_Undo_123.cx (k : Nat) : Cx := ⟨tt, pp, [(123, (tally_compare.e k))], slices_BinarySearchFunc_api_Undo_api_Undo_api_Undo_123.regs, k⟩
@[reducible] def slices_BinarySearchFunc_api_Undo_api_Undo_api_Undo_123.sg : Sg := ⟨[.dat (.slc tUndo), .dat tUndo, .fn 123 0], [], .t2 (.dat (.int .i64)) (.dat .bool), []⟩
noncomputable def slices_BinarySearchFunc_api_Undo_api_Undo_api_Undo_123.f (k : Nat) (a0 : Ty.D (.slc tUndo)) (a1 : Ty.D tUndo) : Option (Sg.Out slices_BinarySearchFunc_api_Undo_api_Undo_api_Undo_123.sg) := Sg.fn slices_BinarySearchFunc_api_Undo_api_Undo_api_Undo_123.sg (slices_BinarySearchFunc_api_Undo_api_Undo_api_Undo_123.cx k) slices_BinarySearchFunc_api_Undo_api_Undo_api_Undo_123.body slices_BinarySearchFunc_api_Undo_api_Undo_api_Undo_123.rs (a0, a1)
noncomputable def slices_BinarySearchFunc_api_Undo_api_Undo_api_Undo_123.l3 (k : Nat) (n : Nat) (x0 : Ty.D (.slc tUndo)) (x8 : Ty.D (.int .i64)) (x9 : Ty.D (.int .i64)) (x10 : Ty.D (.int .i64)) (m4 : Ty.D tUndo) : Option (Sg.Out slices_BinarySearchFunc_api_Undo_api_Undo_api_Undo_123.sg) := loopAt (slices_BinarySearchFunc_api_Undo_api_Undo_api_Undo_123.cx k) slices_BinarySearchFunc_api_Undo_api_Undo_api_Undo_123.body [1, 1, 1, 0, 0] 3 [0, 2, 4, 8, 9, 10] [4] [] (Sg.K slices_BinarySearchFunc_api_Undo_api_Undo_api_Undo_123.sg (slices_BinarySearchFunc_api_Undo_api_Undo_api_Undo_123.cx k) slices_BinarySearchFunc_api_Undo_api_Undo_api_Undo_123.rs) n ⟨[(0, .dat (.slc tUndo) x0), (2, .fn 123 []), (4, .ref 4 []), (8, .dat (.int .i64) x8), (9, .dat (.int .i64) x9), (10, .dat (.int .i64) x10)], [(4, .dat tUndo m4)]⟩
set_option maxRecDepth 100000 in
theorem slices_BinarySearchFunc_api_Undo_api_Undo_api_Undo_123.f_eq (k : Nat) (a0 : Ty.D (.slc tUndo)) (a1 : Ty.D tUndo) : slices_BinarySearchFunc_api_Undo_api_Undo_api_Undo_123.f k a0 a1 =
  slices_BinarySearchFunc_api_Undo_api_Undo_api_Undo_123.l3 k k a0 (ilen a0) 0 (ilen a0) a1 := by kernel_rfl
set_option maxRecDepth 100000 in
theorem slices_BinarySearchFunc_api_Undo_api_Undo_api_Undo_123.l3_eq (k : Nat) (n3 : Nat) (x0 : Ty.D (.slc tUndo)) (x8 : Ty.D (.int .i64)) (x9 : Ty.D (.int .i64)) (x10 : Ty.D (.int .i64)) (m4 : Ty.D tUndo) : slices_BinarySearchFunc_api_Undo_api_Undo_api_Undo_123.l3 k (n3 + 1) x0 x8 x9 x10 m4 =
  br (ilt x9 x10)
    (br (inL (iwrap .i64 (ishr .u64 (iwrap .u64 (iadd .i64 x9 x10)) 1)) x0)
      (bnd (tally_compare.f k (rd tUndo x0 (natOf (iwrap .i64 (ishr .u64 (iwrap .u64 (iadd .i64 x9 x10)) 1)))) m4) fun r0 =>
      br (ilt r0 0)
        (slices_BinarySearchFunc_api_Undo_api_Undo_api_Undo_123.l3 k n3 x0 x8 (iadd .i64 (iwrap .i64 (ishr .u64 (iwrap .u64 (iadd .i64 x9 x10)) 1)) 1) x10 m4)
        (slices_BinarySearchFunc_api_Undo_api_Undo_api_Undo_123.l3 k n3 x0 x8 x9 (iwrap .i64 (ishr .u64 (iwrap .u64 (iadd .i64 x9 x10)) 1)) m4))
      (none))
    (br (ilt x9 x8)
      (br (inL x9 x0)
        (bnd (tally_compare.f k (rd tUndo x0 (natOf x9)) m4) fun r1 =>
        some (x9, (ieq r1 0)))
        (none))
      (some (x9, false))) := by kernel_rfl
noncomputable def slices_BinarySearchFunc_api_Undo_api_Undo_api_Undo_123.e (k : Nat) : Entry := Sg.entry slices_BinarySearchFunc_api_Undo_api_Undo_api_Undo_123.sg fun x => slices_BinarySearchFunc_api_Undo_api_Undo_api_Undo_123.f k x.1 x.2
set_option maxRecDepth 100000 in
theorem slices_BinarySearchFunc_api_Undo_api_Undo_api_Undo_123.ok (k : Nat) : CallOK Try.prog 170 (slices_BinarySearchFunc_api_Undo_api_Undo_api_Undo_123.e k) :=
  fn_ok (c := slices_BinarySearchFunc_api_Undo_api_Undo_api_Undo_123.cx k) (code := slices_BinarySearchFunc_api_Undo_api_Undo_api_Undo_123.body) (TT.of tt_ok pp_ok) (fns_ok ⟨(tally_compare.ok k), trivial⟩) mixed Try.func170 (by kernel_rfl) (by kernel_rfl) (by kernel_rfl) (by kernel_rfl) (by kernel_rfl) (by kernel_rfl) (fun x => by kernel_rfl)
noncomputable def tally_at.body : Go.Code := Try.f164.body.getD .skip
noncomputable def tally_at.rs : List Go.ResultVar := Try.f164.results.toList
def tally_at.regs : List (Nat × RInfo) := [(0, ⟨[0, 3], [3], [], [], 0, [], [], [], []⟩),
  (1, ⟨[4, 5], [9], [], [], 0, [], [], [], []⟩)]
noncomputable def tally_at.cx (k : Nat) : Cx := ⟨tt, pp, [(170, (slices_BinarySearchFunc_api_Undo_api_Undo_api_Undo_123.e k)),
  (123, (tally_compare.e k))], tally_at.regs, k⟩
@[reducible] def tally_at.sg : Sg := ⟨[.dat (.slc tUndo), .dat tDot], [], .t2 (.dat (.int .i64)) (.dat .bool), []⟩
noncomputable def tally_at.f (k : Nat) (a0 : Ty.D (.slc tUndo)) (a1 : Ty.D tDot) : Option (Sg.Out tally_at.sg) := Sg.fn tally_at.sg (tally_at.cx k) tally_at.body tally_at.rs (a0, a1)
set_option maxRecDepth 100000 in
theorem tally_at.f_eq (k : Nat) (a0 : Ty.D (.slc tUndo)) (a1 : Ty.D tDot) : tally_at.f k a0 a1 =
  bnd (slices_BinarySearchFunc_api_Undo_api_Undo_api_Undo_123.f k a0 (a1, 0)) fun r0 =>
  some (r0.1, r0.2) := by kernel_rfl
noncomputable def tally_at.e (k : Nat) : Entry := Sg.entry tally_at.sg fun x => tally_at.f k x.1 x.2
set_option maxRecDepth 100000 in
theorem tally_at.ok (k : Nat) : CallOK Try.prog 164 (tally_at.e k) :=
  fn_ok (c := tally_at.cx k) (code := tally_at.body) (TT.of tt_ok pp_ok) (fns_ok ⟨(slices_BinarySearchFunc_api_Undo_api_Undo_api_Undo_123.ok k), (tally_compare.ok k), trivial⟩) mixed Try.func164 (by kernel_rfl) (by kernel_rfl) (by kernel_rfl) (by kernel_rfl) (by kernel_rfl) (by kernel_rfl) (fun x => by kernel_rfl)
noncomputable def tally_Get.body : Go.Code := Try.f147.body.getD .skip
noncomputable def tally_Get.rs : List Go.ResultVar := Try.f147.results.toList
def tally_Get.regs : List (Nat × RInfo) := [(0, ⟨[0, 3], [3], [], [], 0, [], [], [], []⟩),
  (1, ⟨[0, 5, 6], [10], [], [], 0, [], [], [], []⟩),
  (2, ⟨[0, 5, 13], [10], [], [], 0, [], [], [], []⟩),
  (3, ⟨[4], [], [], [], 0, [], [], [], []⟩),
  (4, ⟨[4], [], [], [], 0, [], [], [], []⟩)]
noncomputable def tally_Get.cx (k : Nat) : Cx := ⟨tt, pp, [(164, (tally_at.e k))], tally_Get.regs, k⟩
@[reducible] def tally_Get.sg : Sg := ⟨[.dat (.slc tUndo), .dat tDot], [], .dat (.int .i64), []⟩
noncomputable def tally_Get.f (k : Nat) (a0 : Ty.D (.slc tUndo)) (a1 : Ty.D tDot) : Option (Sg.Out tally_Get.sg) := Sg.fn tally_Get.sg (tally_Get.cx k) tally_Get.body tally_Get.rs (a0, a1)
set_option maxRecDepth 100000 in
theorem tally_Get.f_eq (k : Nat) (a0 : Ty.D (.slc tUndo)) (a1 : Ty.D tDot) : tally_Get.f k a0 a1 =
  bnd (tally_at.f k a0 a1) fun r0 =>
  br r0.2
    (br (inL r0.1 a0)
      (some ((rd tUndo a0 (natOf r0.1)).2))
      (none))
    (some 0) := by kernel_rfl
noncomputable def tally_Get.e (k : Nat) : Entry := Sg.entry tally_Get.sg fun x => tally_Get.f k x.1 x.2
set_option maxRecDepth 100000 in
theorem tally_Get.ok (k : Nat) : CallOK Try.prog 147 (tally_Get.e k) :=
  fn_ok (c := tally_Get.cx k) (code := tally_Get.body) (TT.of tt_ok pp_ok) (fns_ok ⟨(tally_at.ok k), trivial⟩) mixed Try.func147 (by kernel_rfl) (by kernel_rfl) (by kernel_rfl) (by kernel_rfl) (by kernel_rfl) (by kernel_rfl) (fun x => by kernel_rfl)
noncomputable def tally_Over.body : Go.Code := Try.f121.body.getD .skip
noncomputable def tally_Over.rs : List Go.ResultVar := Try.f121.results.toList
def tally_Over.regs : List (Nat × RInfo) := [(0, ⟨[0, 1], [], [], [], 0, [], [], [], []⟩),
  (1, ⟨[0, 1, 5], [], [], [], 0, [], [], [], []⟩),
  (2, ⟨[1, 5, 8, 9, 10], [], [], [], 0, [], [], [], []⟩),
  (3, ⟨[1, 5, 8, 9, 10, 11], [], [], [], 0, [1, 5, 8, 9, 10], [], [], []⟩),
  (4, ⟨[1, 5, 7, 8, 9, 10], [7], [], [], 0, [], [], [], []⟩),
  (5, ⟨[1, 5, 7, 8, 9, 10, 20], [7], [], [], 7, [], [], [], []⟩),
  (6, ⟨[1, 5, 8, 9, 10], [], [0, 3, 4], [], 0, [], [], [], []⟩),
  (7, ⟨[1, 5, 8, 9, 10], [], [], [], 0, [], [], [], []⟩),
  (8, ⟨[4], [], [0, 1], [], 0, [], [], [], []⟩)]
noncomputable def tally_Over.cx (k : Nat) : Cx := ⟨tt, pp, [(147, (tally_Get.e k))], tally_Over.regs, k⟩
@[reducible] def tally_Over.sg : Sg := ⟨[.dat (.slc tUndo), .dat (.slc tUndo)], [], .own tUndo, []⟩
noncomputable def tally_Over.f (k : Nat) (a0 : Ty.D (.slc tUndo)) (a1 : Ty.D (.slc tUndo)) : Option (Sg.Out tally_Over.sg) := Sg.fn tally_Over.sg (tally_Over.cx k) tally_Over.body tally_Over.rs (a0, a1)
noncomputable def tally_Over.l3 (k : Nat) (n : Nat) (x1 : Ty.D (.slc tUndo)) (x5 : List (Ty.D tUndo)) (x8 : Ty.D (.slc tUndo)) (x9 : Ty.D (.int .i64)) (x10 : Ty.D (.int .i64)) : Option (Sg.Out tally_Over.sg) := loopAt (tally_Over.cx k) tally_Over.body [1, 1, 0, 1, 0] 3 [1, 5, 8, 9, 10] [] [] (Sg.K tally_Over.sg (tally_Over.cx k) tally_Over.rs) n ⟨[(1, .dat (.slc tUndo) x1), (5, .own tUndo x5), (8, .dat (.slc tUndo) x8), (9, .dat (.int .i64) x9), (10, .dat (.int .i64) x10)], []⟩
set_option maxRecDepth 100000 in
theorem tally_Over.f_eq (k : Nat) (a0 : Ty.D (.slc tUndo)) (a1 : Ty.D (.slc tUndo)) : tally_Over.f k a0 a1 =
  tally_Over.l3 k k a1 [] a0 (ilen a0) 0 := by kernel_rfl
set_option maxRecDepth 100000 in
theorem tally_Over.l3_eq (k : Nat) (n3 : Nat) (x1 : Ty.D (.slc tUndo)) (x5 : List (Ty.D tUndo)) (x8 : Ty.D (.slc tUndo)) (x9 : Ty.D (.int .i64)) (x10 : Ty.D (.int .i64)) : tally_Over.l3 k (n3 + 1) x1 x5 x8 x9 x10 =
  br (ilt x10 x9)
    (br (inL x10 x8)
      (bnd (tally_Get.f k x1 ((rd tUndo x8 (natOf x10)).1)) fun r0 =>
      br (ilt r0 ((rd tUndo x8 (natOf x10)).2))
        (br (room x5 ((rd tUndo x8 (natOf x10)) :: []))
          (tally_Over.l3 k n3 x1 (app x5 ((rd tUndo x8 (natOf x10)) :: [])) x8 x9 (iadd .i64 x10 1))
          (none))
        (tally_Over.l3 k n3 x1 x5 x8 x9 (iadd .i64 x10 1)))
      (none))
    (some x5) := by kernel_rfl
noncomputable def tally_Over.e (k : Nat) : Entry := Sg.entry tally_Over.sg fun x => tally_Over.f k x.1 x.2
set_option maxRecDepth 100000 in
theorem tally_Over.ok (k : Nat) : CallOK Try.prog 121 (tally_Over.e k) :=
  fn_ok (c := tally_Over.cx k) (code := tally_Over.body) (TT.of tt_ok pp_ok) (fns_ok ⟨(tally_Get.ok k), trivial⟩) mixed Try.func121 (by kernel_rfl) (by kernel_rfl) (by kernel_rfl) (by kernel_rfl) (by kernel_rfl) (by kernel_rfl) (fun x => by kernel_rfl)
noncomputable def delta_Diff.body : Go.Code := Try.f83.body.getD .skip
noncomputable def delta_Diff.rs : List Go.ResultVar := Try.f83.results.toList
def delta_Diff.regs : List (Nat × RInfo) := [(0, ⟨[2, 3, 4], [2, 3, 4], [0, 1], [], 0, [], [], [], []⟩),
  (1, ⟨[2, 3, 4, 5], [2, 3, 4, 5], [], [], 0, [], [], [], []⟩),
  (2, ⟨[2, 3, 4, 5, 9, 10, 11], [2, 3, 4, 5], [], [], 0, [], [], [], []⟩),
  (3, ⟨[2, 3, 4, 5, 9, 10, 11, 12], [2, 3, 4, 5], [], [], 0, [2, 3, 4, 5, 9, 10, 11], [2, 3, 4, 5], [], []⟩),
  (4, ⟨[2, 3, 4, 5, 7, 9, 10, 11], [2, 3, 4, 5, 7], [3], [], 0, [], [], [], []⟩),
  (5, ⟨[2, 3, 4, 5, 7, 9, 10, 11, 20], [2, 3, 4, 5, 7], [], [], 0, [], [], [], []⟩),
  (6, ⟨[2, 3, 4, 5, 7, 9, 10, 11], [2, 3, 4, 5, 7], [1, 4, 6], [], 0, [], [], [], []⟩),
  (7, ⟨[2, 3, 4, 5, 7, 9, 10, 11, 39], [2, 3, 4, 5, 7, 31], [], [], 0, [], [], [], []⟩),
  (8, ⟨[2, 3, 4, 5, 9, 10, 11], [2, 3, 4, 5], [1, 5, 7], [], 0, [], [], [], []⟩),
  (9, ⟨[2, 3, 4, 5, 9, 10, 11], [2, 3, 4, 5], [], [], 0, [], [], [], []⟩),
  (10, ⟨[4, 5], [4, 5], [6], [], 0, [], [], [], []⟩),
  (11, ⟨[4], [4], [1], [], 0, [], [], [], []⟩)]
noncomputable def delta_Diff.cx (k : Nat) : Cx := ⟨tt, pp, [(23, (dots_Has.e k)),
  (121, (tally_Over.e k))], delta_Diff.regs, k⟩
@[reducible] def delta_Diff.sg : Sg := ⟨[.dat tState, .dat tKnow], [], .dat tDelta, []⟩
noncomputable def delta_Diff.f (k : Nat) (a0 : Ty.D tState) (a1 : Ty.D tKnow) : Option (Sg.Out delta_Diff.sg) := Sg.fn delta_Diff.sg (delta_Diff.cx k) delta_Diff.body delta_Diff.rs (a0, a1)
noncomputable def delta_Diff.l3 (k : Nat) (n : Nat) (x9 : Ty.D (.slc tTxn)) (x10 : Ty.D (.int .i64)) (x11 : Ty.D (.int .i64)) (m2 : Ty.D tState) (m3 : Ty.D tKnow) (m4a : List (Ty.D tTxn)) (m4ba : List (Ty.D tUndo)) (m4bb : List (Ty.D tDot)) (m5a : List (Ty.D tTxn)) (m5ba : List (Ty.D tUndo)) (m5bb : List (Ty.D tDot)) : Option (Sg.Out delta_Diff.sg) := loopAt (delta_Diff.cx k) delta_Diff.body [1, 1, 0, 1, 0] 3 [2, 3, 4, 5, 9, 10, 11] [2, 3, 4, 5] [] (Sg.K delta_Diff.sg (delta_Diff.cx k) delta_Diff.rs) n ⟨[(2, .ref 2 []), (3, .ref 3 []), (4, .ref 4 []), (5, .ref 5 []), (9, .dat (.slc tTxn) x9), (10, .dat (.int .i64) x10), (11, .dat (.int .i64) x11)], [(2, .dat tState m2), (3, .dat tKnow m3), (4, .pr (.own tTxn m4a) (.pr (.own tUndo m4ba) (.own tDot m4bb))), (5, .pr (.own tTxn m5a) (.pr (.own tUndo m5ba) (.own tDot m5bb)))]⟩
set_option maxRecDepth 100000 in
theorem delta_Diff.f_eq (k : Nat) (a0 : Ty.D tState) (a1 : Ty.D tKnow) : delta_Diff.f k a0 a1 =
  delta_Diff.l3 k k a0.1 (ilen a0.1) 0 a0 a1 [] [] [] [] [] [] := by kernel_rfl
set_option maxRecDepth 100000 in
theorem delta_Diff.l3_eq (k : Nat) (n3 : Nat) (x9 : Ty.D (.slc tTxn)) (x10 : Ty.D (.int .i64)) (x11 : Ty.D (.int .i64)) (m2 : Ty.D tState) (m3 : Ty.D tKnow) (m4a : List (Ty.D tTxn)) (m4ba : List (Ty.D tUndo)) (m4bb : List (Ty.D tDot)) (m5a : List (Ty.D tTxn)) (m5ba : List (Ty.D tUndo)) (m5bb : List (Ty.D tDot)) : delta_Diff.l3 k (n3 + 1) x9 x10 x11 m2 m3 m4a m4ba m4bb m5a m5ba m5bb =
  br (ilt x11 x10)
    (br (inL x11 x9)
      (bnd (dots_Has.f k m3.1 ((rd tTxn x9 (natOf x11)).1)) fun r0 =>
      br (bnot r0)
        (br (room m5a ((rd tTxn x9 (natOf x11)) :: []))
          (bnd (dots_Has.f k m2.2.2.2.1 ((rd tTxn x9 (natOf x11)).1)) fun r1 =>
          br r1
            (bnd (dots_Has.f k m3.2.2 ((rd tTxn x9 (natOf x11)).1)) fun r2 =>
            br (bnot r2)
              (br (room m5bb ((rd tTxn x9 (natOf x11)).1 :: []))
                (delta_Diff.l3 k n3 x9 x10 (iadd .i64 x11 1) m2 m3 m4a m4ba m4bb (app m5a ((rd tTxn x9 (natOf x11)) :: [])) m5ba (app m5bb ((rd tTxn x9 (natOf x11)).1 :: [])))
                (none))
              (delta_Diff.l3 k n3 x9 x10 (iadd .i64 x11 1) m2 m3 m4a m4ba m4bb (app m5a ((rd tTxn x9 (natOf x11)) :: [])) m5ba m5bb))
            (delta_Diff.l3 k n3 x9 x10 (iadd .i64 x11 1) m2 m3 m4a m4ba m4bb (app m5a ((rd tTxn x9 (natOf x11)) :: [])) m5ba m5bb))
          (none))
        (bnd (dots_Has.f k m2.2.2.2.1 ((rd tTxn x9 (natOf x11)).1)) fun r3 =>
        br r3
          (bnd (dots_Has.f k m3.2.2 ((rd tTxn x9 (natOf x11)).1)) fun r4 =>
          br (bnot r4)
            (br (room m5bb ((rd tTxn x9 (natOf x11)).1 :: []))
              (delta_Diff.l3 k n3 x9 x10 (iadd .i64 x11 1) m2 m3 m4a m4ba m4bb m5a m5ba (app m5bb ((rd tTxn x9 (natOf x11)).1 :: [])))
              (none))
            (delta_Diff.l3 k n3 x9 x10 (iadd .i64 x11 1) m2 m3 m4a m4ba m4bb m5a m5ba m5bb))
          (delta_Diff.l3 k n3 x9 x10 (iadd .i64 x11 1) m2 m3 m4a m4ba m4bb m5a m5ba m5bb)))
      (none))
    (bnd (tally_Over.f k m2.2.1 m3.2.1) fun r5 =>
    some (m5a, (r5, m5bb))) := by kernel_rfl
noncomputable def delta_Diff.e (k : Nat) : Entry := Sg.entry delta_Diff.sg fun x => delta_Diff.f k x.1 x.2
set_option maxRecDepth 100000 in
theorem delta_Diff.ok (k : Nat) : CallOK Try.prog 83 (delta_Diff.e k) :=
  fn_ok (c := delta_Diff.cx k) (code := delta_Diff.body) (TT.of tt_ok pp_ok) (fns_ok ⟨(dots_Has.ok k), (tally_Over.ok k), trivial⟩) mixed Try.func83 (by kernel_rfl) (by kernel_rfl) (by kernel_rfl) (by kernel_rfl) (by kernel_rfl) (by kernel_rfl) (fun x => by kernel_rfl)
noncomputable def delta_Empty.body : Go.Code := Try.f84.body.getD .skip
noncomputable def delta_Empty.rs : List Go.ResultVar := Try.f84.results.toList
def delta_Empty.regs : List (Nat × RInfo) := [(0, ⟨[1], [1], [0], [], 0, [], [], [], []⟩),
  (1, ⟨[2], [], [], [], 0, [], [], [], []⟩)]
noncomputable def delta_Empty.cx (k : Nat) : Cx := ⟨tt, pp, [], delta_Empty.regs, k⟩
@[reducible] def delta_Empty.sg : Sg := ⟨[.dat tDelta], [], .dat .bool, []⟩
noncomputable def delta_Empty.f (k : Nat) (a0 : Ty.D tDelta) : Option (Sg.Out delta_Empty.sg) := Sg.fn delta_Empty.sg (delta_Empty.cx k) delta_Empty.body delta_Empty.rs a0
set_option maxRecDepth 100000 in
theorem delta_Empty.f_eq (k : Nat) (a0 : Ty.D tDelta) : delta_Empty.f k a0 =
  some (ieq (iadd .i64 (iadd .i64 (ilen a0.1) (ilen a0.2.1)) (ilen a0.2.2)) 0) := by kernel_rfl
noncomputable def delta_Empty.e (k : Nat) : Entry := Sg.entry delta_Empty.sg fun x => delta_Empty.f k x
set_option maxRecDepth 100000 in
theorem delta_Empty.ok (k : Nat) : CallOK Try.prog 84 (delta_Empty.e k) :=
  fn_ok (c := delta_Empty.cx k) (code := delta_Empty.body) (TT.of tt_ok pp_ok) (fns_ok trivial) mixed Try.func84 (by kernel_rfl) (by kernel_rfl) (by kernel_rfl) (by kernel_rfl) (by kernel_rfl) (by kernel_rfl) (fun x => by kernel_rfl)
noncomputable def delta_Of.body : Go.Code := Try.f85.body.getD .skip
noncomputable def delta_Of.rs : List Go.ResultVar := Try.f85.results.toList
def delta_Of.regs : List (Nat × RInfo) := [(0, ⟨[1, 2], [1, 2], [0], [], 0, [], [], [], []⟩),
  (1, ⟨[2], [2], [8], [], 8, [], [], [], [[], [], [], [], [3], [], [], [1, 3, 6], [1, 3, 6]]⟩)]
noncomputable def delta_Of.cx (k : Nat) : Cx := ⟨tt, pp, [(122, (cloneO tUndo))], delta_Of.regs, k⟩
@[reducible] def delta_Of.sg : Sg := ⟨[.dat tState], [], .dat tKnow, []⟩
noncomputable def delta_Of.f (k : Nat) (a0 : Ty.D tState) : Option (Sg.Out delta_Of.sg) := Sg.fn delta_Of.sg (delta_Of.cx k) delta_Of.body delta_Of.rs a0
set_option maxRecDepth 100000 in
theorem delta_Of.f_eq (k : Nat) (a0 : Ty.D tState) : delta_Of.f k a0 =
  br (room ([] : List Int) a0.2.1)
    (some (a0.2.2.1, (a0.2.1, a0.2.2.2.1)))
    (none) := by kernel_rfl
noncomputable def delta_Of.e (k : Nat) : Entry := Sg.entry delta_Of.sg fun x => delta_Of.f k x
set_option maxRecDepth 100000 in
theorem delta_Of.ok (k : Nat) : CallOK Try.prog 85 (delta_Of.e k) :=
  fn_ok (c := delta_Of.cx k) (code := delta_Of.body) (TT.of tt_ok pp_ok) (fns_ok ⟨clone122, trivial⟩) mixed Try.func85 (by kernel_rfl) (by kernel_rfl) (by kernel_rfl) (by kernel_rfl) (by kernel_rfl) (by kernel_rfl) (fun x => by kernel_rfl)
noncomputable def tally_Join.body : Go.Code := Try.f86.body.getD .skip
noncomputable def tally_Join.rs : List Go.ResultVar := Try.f86.results.toList
def tally_Join.regs : List (Nat × RInfo) := [(0, ⟨[0, 1], [], [], [], 0, [], [], [], []⟩),
  (1, ⟨[0, 1, 5], [], [], [], 0, [], [], [], []⟩),
  (2, ⟨[0, 1, 5, 14], [], [], [], 0, [0, 1, 5], [], [], []⟩),
  (3, ⟨[0, 1, 5, 6], [29], [], [], 0, [], [], [], []⟩),
  (4, ⟨[0, 1, 5, 6, 15], [29], [], [], 0, [], [], [], []⟩),
  (5, ⟨[0, 1, 5, 6], [29], [], [], 0, [], [], [], []⟩),
  (6, ⟨[0, 1, 5, 6, 19], [29], [], [], 0, [], [], [], []⟩),
  (7, ⟨[0, 1, 5, 6], [29], [], [], 7, [], [], [], []⟩),
  (10, ⟨[0, 1, 5, 6, 51], [29], [], [], 0, [], [], [], []⟩),
  (11, ⟨[0, 1, 5], [], [0, 5, 8, 9], [], 9, [], [], [], []⟩),
  (12, ⟨[0, 1, 5, 62], [], [], [], 0, [], [], [], []⟩),
  (13, ⟨[0, 1, 5], [], [0, 5, 8, 9], [], 9, [], [], [], []⟩),
  (8, ⟨[0, 1, 5], [], [0, 16, 17], [], 17, [], [], [], []⟩),
  (9, ⟨[0, 1, 5], [], [4, 5], [], 5, [], [], [], []⟩),
  (14, ⟨[4], [], [0, 1], [], 0, [], [], [], []⟩)]
noncomputable def tally_Join.cx (k : Nat) : Cx := ⟨tt, pp, [(123, (tally_compare.e k))], tally_Join.regs, k⟩
@[reducible] def tally_Join.sg : Sg := ⟨[.dat (.slc tUndo), .dat (.slc tUndo)], [], .own tUndo, []⟩
noncomputable def tally_Join.f (k : Nat) (a0 : Ty.D (.slc tUndo)) (a1 : Ty.D (.slc tUndo)) : Option (Sg.Out tally_Join.sg) := Sg.fn tally_Join.sg (tally_Join.cx k) tally_Join.body tally_Join.rs (a0, a1)
noncomputable def tally_Join.l2 (k : Nat) (n : Nat) (x0 : Ty.D (.slc tUndo)) (x1 : Ty.D (.slc tUndo)) (x5 : List (Ty.D tUndo)) : Option (Sg.Out tally_Join.sg) := loopAt (tally_Join.cx k) tally_Join.body [1, 1, 0, 0] 2 [0, 1, 5] [] [] (Sg.K tally_Join.sg (tally_Join.cx k) tally_Join.rs) n ⟨[(0, .dat (.slc tUndo) x0), (1, .dat (.slc tUndo) x1), (5, .own tUndo x5)], []⟩
set_option maxRecDepth 100000 in
theorem tally_Join.f_eq (k : Nat) (a0 : Ty.D (.slc tUndo)) (a1 : Ty.D (.slc tUndo)) : tally_Join.f k a0 a1 =
  tally_Join.l2 k k a0 a1 [] := by kernel_rfl
set_option maxRecDepth 100000 in
theorem tally_Join.l2_eq (k : Nat) (n2 : Nat) (x0 : Ty.D (.slc tUndo)) (x1 : Ty.D (.slc tUndo)) (x5 : List (Ty.D tUndo)) : tally_Join.l2 k (n2 + 1) x0 x1 x5 =
  br (ilt 0 (ilen x0))
    (br (ieq (ilen x0) 0)
      (br (inL 0 x1)
        (br (room x5 ((rd tUndo x1 (natOf 0)) :: []))
          (br (inS 1 (ilen x1) (ilen x1))
            (tally_Join.l2 k n2 x0 (piece x1 1 (ilen x1)) (app x5 ((rd tUndo x1 (natOf 0)) :: [])))
            (none))
          (none))
        (none))
      (br (ilt 0 (ilen x1))
        (br (inL 0 x0)
          (br (inL 0 x1)
            (bnd (tally_compare.f k (rd tUndo x0 (natOf 0)) (rd tUndo x1 (natOf 0))) fun r0 =>
            br (ilt r0 0)
              (br (inL 0 x0)
                (br (room x5 ((rd tUndo x0 (natOf 0)) :: []))
                  (br (inS 1 (ilen x0) (ilen x0))
                    (tally_Join.l2 k n2 (piece x0 1 (ilen x0)) x1 (app x5 ((rd tUndo x0 (natOf 0)) :: [])))
                    (none))
                  (none))
                (none))
              (br (ilt 0 r0)
                (br (inL 0 x1)
                  (br (room x5 ((rd tUndo x1 (natOf 0)) :: []))
                    (br (inS 1 (ilen x1) (ilen x1))
                      (tally_Join.l2 k n2 x0 (piece x1 1 (ilen x1)) (app x5 ((rd tUndo x1 (natOf 0)) :: [])))
                      (none))
                    (none))
                  (none))
                (br (inL 0 x0)
                  (br (inL 0 x0)
                    (br (inL 0 x1)
                      (br (room x5 (((rd tUndo x0 (natOf 0)).1, (imax ((rd tUndo x0 (natOf 0)).2) ((rd tUndo x1 (natOf 0)).2))) :: []))
                        (br (inS 1 (ilen x0) (ilen x0))
                          (br (inS 1 (ilen x1) (ilen x1))
                            (tally_Join.l2 k n2 (piece x0 1 (ilen x0)) (piece x1 1 (ilen x1)) (app x5 (((rd tUndo x0 (natOf 0)).1, (imax ((rd tUndo x0 (natOf 0)).2) ((rd tUndo x1 (natOf 0)).2))) :: [])))
                            (none))
                          (none))
                        (none))
                      (none))
                    (none))
                  (none))))
            (none))
          (none))
        (br (inL 0 x0)
          (br (room x5 ((rd tUndo x0 (natOf 0)) :: []))
            (br (inS 1 (ilen x0) (ilen x0))
              (tally_Join.l2 k n2 (piece x0 1 (ilen x0)) x1 (app x5 ((rd tUndo x0 (natOf 0)) :: [])))
              (none))
            (none))
          (none))))
    (br (ilt 0 (ilen x1))
      (br (ieq (ilen x0) 0)
        (br (inL 0 x1)
          (br (room x5 ((rd tUndo x1 (natOf 0)) :: []))
            (br (inS 1 (ilen x1) (ilen x1))
              (tally_Join.l2 k n2 x0 (piece x1 1 (ilen x1)) (app x5 ((rd tUndo x1 (natOf 0)) :: [])))
              (none))
            (none))
          (none))
        (br (ilt 0 (ilen x1))
          (br (inL 0 x0)
            (br (inL 0 x1)
              (bnd (tally_compare.f k (rd tUndo x0 (natOf 0)) (rd tUndo x1 (natOf 0))) fun r1 =>
              br (ilt r1 0)
                (br (inL 0 x0)
                  (br (room x5 ((rd tUndo x0 (natOf 0)) :: []))
                    (br (inS 1 (ilen x0) (ilen x0))
                      (tally_Join.l2 k n2 (piece x0 1 (ilen x0)) x1 (app x5 ((rd tUndo x0 (natOf 0)) :: [])))
                      (none))
                    (none))
                  (none))
                (br (ilt 0 r1)
                  (br (inL 0 x1)
                    (br (room x5 ((rd tUndo x1 (natOf 0)) :: []))
                      (br (inS 1 (ilen x1) (ilen x1))
                        (tally_Join.l2 k n2 x0 (piece x1 1 (ilen x1)) (app x5 ((rd tUndo x1 (natOf 0)) :: [])))
                        (none))
                      (none))
                    (none))
                  (br (inL 0 x0)
                    (br (inL 0 x0)
                      (br (inL 0 x1)
                        (br (room x5 (((rd tUndo x0 (natOf 0)).1, (imax ((rd tUndo x0 (natOf 0)).2) ((rd tUndo x1 (natOf 0)).2))) :: []))
                          (br (inS 1 (ilen x0) (ilen x0))
                            (br (inS 1 (ilen x1) (ilen x1))
                              (tally_Join.l2 k n2 (piece x0 1 (ilen x0)) (piece x1 1 (ilen x1)) (app x5 (((rd tUndo x0 (natOf 0)).1, (imax ((rd tUndo x0 (natOf 0)).2) ((rd tUndo x1 (natOf 0)).2))) :: [])))
                              (none))
                            (none))
                          (none))
                        (none))
                      (none))
                    (none))))
              (none))
            (none))
          (br (inL 0 x0)
            (br (room x5 ((rd tUndo x0 (natOf 0)) :: []))
              (br (inS 1 (ilen x0) (ilen x0))
                (tally_Join.l2 k n2 (piece x0 1 (ilen x0)) x1 (app x5 ((rd tUndo x0 (natOf 0)) :: [])))
                (none))
              (none))
            (none))))
      (some x5)) := by kernel_rfl
noncomputable def tally_Join.e (k : Nat) : Entry := Sg.entry tally_Join.sg fun x => tally_Join.f k x.1 x.2
set_option maxRecDepth 100000 in
theorem tally_Join.ok (k : Nat) : CallOK Try.prog 86 (tally_Join.e k) :=
  fn_ok (c := tally_Join.cx k) (code := tally_Join.body) (TT.of tt_ok pp_ok) (fns_ok ⟨(tally_compare.ok k), trivial⟩) mixed Try.func86 (by kernel_rfl) (by kernel_rfl) (by kernel_rfl) (by kernel_rfl) (by kernel_rfl) (by kernel_rfl) (fun x => by kernel_rfl)
noncomputable def delta_Join.body : Go.Code := Try.f39.body.getD .skip
noncomputable def delta_Join.rs : List Go.ResultVar := Try.f39.results.toList
def delta_Join.regs : List (Nat × RInfo) := [(0, ⟨[2, 3, 4], [2, 3, 4], [0, 1], [], 0, [], [], [], []⟩),
  (1, ⟨[4], [4], [16], [], 16, [], [], [], [[], [], [], [], [1, 3], [], [], [], [], [6, 8, 1, 3], [], [], [], [], [11, 13, 6, 8, 1, 3], [1, 3, 6, 8, 11, 13], [1, 3, 6, 8, 11, 13]]⟩)]
noncomputable def delta_Join.cx (k : Nat) : Cx := ⟨tt, pp, [(33, (dots_Union.e k)),
  (86, (tally_Join.e k))], delta_Join.regs, k⟩
@[reducible] def delta_Join.sg : Sg := ⟨[.dat tKnow, .dat tKnow], [], .dat tKnow, []⟩
noncomputable def delta_Join.f (k : Nat) (a0 : Ty.D tKnow) (a1 : Ty.D tKnow) : Option (Sg.Out delta_Join.sg) := Sg.fn delta_Join.sg (delta_Join.cx k) delta_Join.body delta_Join.rs (a0, a1)
set_option maxRecDepth 100000 in
theorem delta_Join.f_eq (k : Nat) (a0 : Ty.D tKnow) (a1 : Ty.D tKnow) : delta_Join.f k a0 a1 =
  bnd (dots_Union.f k a0.1 a1.1) fun r0 =>
  bnd (tally_Join.f k a0.2.1 a1.2.1) fun r1 =>
  bnd (dots_Union.f k a0.2.2 a1.2.2) fun r2 =>
  some (r0, (r1, r2)) := by kernel_rfl
noncomputable def delta_Join.e (k : Nat) : Entry := Sg.entry delta_Join.sg fun x => delta_Join.f k x.1 x.2
set_option maxRecDepth 100000 in
theorem delta_Join.ok (k : Nat) : CallOK Try.prog 39 (delta_Join.e k) :=
  fn_ok (c := delta_Join.cx k) (code := delta_Join.body) (TT.of tt_ok pp_ok) (fns_ok ⟨(dots_Union.ok k), (tally_Join.ok k), trivial⟩) mixed Try.func39 (by kernel_rfl) (by kernel_rfl) (by kernel_rfl) (by kernel_rfl) (by kernel_rfl) (by kernel_rfl) (fun x => by kernel_rfl)
noncomputable def slices_Equal_api_Undo_api_Undo.body : Go.Code := Try.f126.body.getD .skip
noncomputable def slices_Equal_api_Undo_api_Undo.rs : List Go.ResultVar := Try.f126.results.toList
def slices_Equal_api_Undo_api_Undo.regs : List (Nat × RInfo) := [(0, ⟨[0, 1], [], [], [], 0, [], [], [], []⟩),
  (1, ⟨[0, 1, 10], [], [], [], 0, [], [], [], []⟩),
  (2, ⟨[4], [], [], [], 0, [], [], [], []⟩),
  (3, ⟨[0, 1, 12, 13], [], [], [], 0, [], [], [], []⟩),
  (4, ⟨[0, 1, 12, 13, 14], [], [], [], 0, [0, 1, 12, 13], [], [], []⟩),
  (5, ⟨[0, 1, 5, 12, 13], [], [], [], 0, [], [], [], []⟩),
  (6, ⟨[0, 1, 12, 13, 24], [], [], [], 9, [], [], [], []⟩),
  (7, ⟨[4], [], [], [], 0, [], [], [], []⟩),
  (8, ⟨[0, 1, 12, 13], [], [], [], 0, [], [], [], []⟩),
  (9, ⟨[4], [], [], [], 0, [], [], [], []⟩)]
noncomputable def slices_Equal_api_Undo_api_Undo.cx (k : Nat) : Cx := ⟨tt, pp, [], slices_Equal_api_Undo_api_Undo.regs, k⟩
@[reducible] def slices_Equal_api_Undo_api_Undo.sg : Sg := ⟨[.dat (.slc tUndo), .dat (.slc tUndo)], [], .dat .bool, []⟩
noncomputable def slices_Equal_api_Undo_api_Undo.f (k : Nat) (a0 : Ty.D (.slc tUndo)) (a1 : Ty.D (.slc tUndo)) : Option (Sg.Out slices_Equal_api_Undo_api_Undo.sg) := Sg.fn slices_Equal_api_Undo_api_Undo.sg (slices_Equal_api_Undo_api_Undo.cx k) slices_Equal_api_Undo_api_Undo.body slices_Equal_api_Undo_api_Undo.rs (a0, a1)
noncomputable def slices_Equal_api_Undo_api_Undo.l4 (k : Nat) (n : Nat) (x0 : Ty.D (.slc tUndo)) (x1 : Ty.D (.slc tUndo)) (x12 : Ty.D (.int .i64)) (x13 : Ty.D (.int .i64)) : Option (Sg.Out slices_Equal_api_Undo_api_Undo.sg) := loopAt (slices_Equal_api_Undo_api_Undo.cx k) slices_Equal_api_Undo_api_Undo.body [1, 1, 0, 1, 0] 4 [0, 1, 12, 13] [] [] (Sg.K slices_Equal_api_Undo_api_Undo.sg (slices_Equal_api_Undo_api_Undo.cx k) slices_Equal_api_Undo_api_Undo.rs) n ⟨[(0, .dat (.slc tUndo) x0), (1, .dat (.slc tUndo) x1), (12, .dat (.int .i64) x12), (13, .dat (.int .i64) x13)], []⟩
set_option maxRecDepth 100000 in
theorem slices_Equal_api_Undo_api_Undo.f_eq (k : Nat) (a0 : Ty.D (.slc tUndo)) (a1 : Ty.D (.slc tUndo)) : slices_Equal_api_Undo_api_Undo.f k a0 a1 =
  br (bnot (ieq (ilen a0) (ilen a1)))
    (some false)
    (slices_Equal_api_Undo_api_Undo.l4 k k a0 a1 (ilen a0) 0) := by kernel_rfl
set_option maxRecDepth 100000 in
theorem slices_Equal_api_Undo_api_Undo.l4_eq (k : Nat) (n4 : Nat) (x0 : Ty.D (.slc tUndo)) (x1 : Ty.D (.slc tUndo)) (x12 : Ty.D (.int .i64)) (x13 : Ty.D (.int .i64)) : slices_Equal_api_Undo_api_Undo.l4 k (n4 + 1) x0 x1 x12 x13 =
  br (ilt x13 x12)
    (br (inL x13 x0)
      (br (inL x13 x1)
        (br (bnot (deq tUndo (rd tUndo x0 (natOf x13)) (rd tUndo x1 (natOf x13))))
          (some false)
          (slices_Equal_api_Undo_api_Undo.l4 k n4 x0 x1 x12 (iadd .i64 x13 1)))
        (none))
      (none))
    (some true) := by kernel_rfl
noncomputable def slices_Equal_api_Undo_api_Undo.e (k : Nat) : Entry := Sg.entry slices_Equal_api_Undo_api_Undo.sg fun x => slices_Equal_api_Undo_api_Undo.f k x.1 x.2
set_option maxRecDepth 100000 in
theorem slices_Equal_api_Undo_api_Undo.ok (k : Nat) : CallOK Try.prog 126 (slices_Equal_api_Undo_api_Undo.e k) :=
  fn_ok (c := slices_Equal_api_Undo_api_Undo.cx k) (code := slices_Equal_api_Undo_api_Undo.body) (TT.of tt_ok pp_ok) (fns_ok trivial) mixed Try.func126 (by kernel_rfl) (by kernel_rfl) (by kernel_rfl) (by kernel_rfl) (by kernel_rfl) (by kernel_rfl) (fun x => by kernel_rfl)
noncomputable def tally_Same.body : Go.Code := Try.f91.body.getD .skip
noncomputable def tally_Same.rs : List Go.ResultVar := Try.f91.results.toList
def tally_Same.regs : List (Nat × RInfo) := [(0, ⟨[0, 1], [], [], [], 0, [], [], [], []⟩),
  (1, ⟨[4], [7], [], [], 0, [], [], [], []⟩)]
noncomputable def tally_Same.cx (k : Nat) : Cx := ⟨tt, pp, [(126, (slices_Equal_api_Undo_api_Undo.e k))], tally_Same.regs, k⟩
@[reducible] def tally_Same.sg : Sg := ⟨[.dat (.slc tUndo), .dat (.slc tUndo)], [], .dat .bool, []⟩
noncomputable def tally_Same.f (k : Nat) (a0 : Ty.D (.slc tUndo)) (a1 : Ty.D (.slc tUndo)) : Option (Sg.Out tally_Same.sg) := Sg.fn tally_Same.sg (tally_Same.cx k) tally_Same.body tally_Same.rs (a0, a1)
set_option maxRecDepth 100000 in
theorem tally_Same.f_eq (k : Nat) (a0 : Ty.D (.slc tUndo)) (a1 : Ty.D (.slc tUndo)) : tally_Same.f k a0 a1 =
  bnd (slices_Equal_api_Undo_api_Undo.f k a0 a1) fun r0 =>
  some r0 := by kernel_rfl
noncomputable def tally_Same.e (k : Nat) : Entry := Sg.entry tally_Same.sg fun x => tally_Same.f k x.1 x.2
set_option maxRecDepth 100000 in
theorem tally_Same.ok (k : Nat) : CallOK Try.prog 91 (tally_Same.e k) :=
  fn_ok (c := tally_Same.cx k) (code := tally_Same.body) (TT.of tt_ok pp_ok) (fns_ok ⟨(slices_Equal_api_Undo_api_Undo.ok k), trivial⟩) mixed Try.func91 (by kernel_rfl) (by kernel_rfl) (by kernel_rfl) (by kernel_rfl) (by kernel_rfl) (by kernel_rfl) (fun x => by kernel_rfl)
noncomputable def delta_Same.body : Go.Code := Try.f45.body.getD .skip
noncomputable def delta_Same.rs : List Go.ResultVar := Try.f45.results.toList
def delta_Same.regs : List (Nat × RInfo) := [(0, ⟨[2, 3], [2, 3], [0, 1], [], 0, [], [], [], []⟩),
  (1, ⟨[4], [9, 15, 22], [], [], 0, [], [], [], []⟩)]
noncomputable def delta_Same.cx (k : Nat) : Cx := ⟨tt, pp, [(21, (dots_Same.e k)),
  (91, (tally_Same.e k))], delta_Same.regs, k⟩
@[reducible] def delta_Same.sg : Sg := ⟨[.dat tKnow, .dat tKnow], [], .dat .bool, []⟩
noncomputable def delta_Same.f (k : Nat) (a0 : Ty.D tKnow) (a1 : Ty.D tKnow) : Option (Sg.Out delta_Same.sg) := Sg.fn delta_Same.sg (delta_Same.cx k) delta_Same.body delta_Same.rs (a0, a1)
set_option maxRecDepth 100000 in
theorem delta_Same.f_eq (k : Nat) (a0 : Ty.D tKnow) (a1 : Ty.D tKnow) : delta_Same.f k a0 a1 =
  bnd (dots_Same.f k a0.1 a1.1) fun r0 =>
  br r0
    (bnd (tally_Same.f k a0.2.1 a1.2.1) fun r1 =>
    br r1
      (bnd (dots_Same.f k a0.2.2 a1.2.2) fun r2 =>
      some r2)
      (some false))
    (some false) := by kernel_rfl
noncomputable def delta_Same.e (k : Nat) : Entry := Sg.entry delta_Same.sg fun x => delta_Same.f k x.1 x.2
set_option maxRecDepth 100000 in
theorem delta_Same.ok (k : Nat) : CallOK Try.prog 45 (delta_Same.e k) :=
  fn_ok (c := delta_Same.cx k) (code := delta_Same.body) (TT.of tt_ok pp_ok) (fns_ok ⟨(dots_Same.ok k), (tally_Same.ok k), trivial⟩) mixed Try.func45 (by kernel_rfl) (by kernel_rfl) (by kernel_rfl) (by kernel_rfl) (by kernel_rfl) (by kernel_rfl) (fun x => by kernel_rfl)
noncomputable def delta_Within.body : Go.Code := Try.f43.body.getD .skip
noncomputable def delta_Within.rs : List Go.ResultVar := Try.f43.results.toList
def delta_Within.regs : List (Nat × RInfo) := [(0, ⟨[2, 3], [2, 3], [0, 1], [], 0, [], [], [], []⟩),
  (1, ⟨[4], [9], [], [], 5, [], [], [], []⟩)]
noncomputable def delta_Within.cx (k : Nat) : Cx := ⟨tt, pp, [(39, (delta_Join.e k)),
  (45, (delta_Same.e k))], delta_Within.regs, k⟩
@[reducible] def delta_Within.sg : Sg := ⟨[.dat tKnow, .dat tKnow], [], .dat .bool, []⟩
noncomputable def delta_Within.f (k : Nat) (a0 : Ty.D tKnow) (a1 : Ty.D tKnow) : Option (Sg.Out delta_Within.sg) := Sg.fn delta_Within.sg (delta_Within.cx k) delta_Within.body delta_Within.rs (a0, a1)
set_option maxRecDepth 100000 in
theorem delta_Within.f_eq (k : Nat) (a0 : Ty.D tKnow) (a1 : Ty.D tKnow) : delta_Within.f k a0 a1 =
  bnd (delta_Join.f k a0 a1) fun r0 =>
  bnd (delta_Same.f k r0 a1) fun r1 =>
  some r1 := by kernel_rfl
noncomputable def delta_Within.e (k : Nat) : Entry := Sg.entry delta_Within.sg fun x => delta_Within.f k x.1 x.2
set_option maxRecDepth 100000 in
theorem delta_Within.ok (k : Nat) : CallOK Try.prog 43 (delta_Within.e k) :=
  fn_ok (c := delta_Within.cx k) (code := delta_Within.body) (TT.of tt_ok pp_ok) (fns_ok ⟨(delta_Join.ok k), (delta_Same.ok k), trivial⟩) mixed Try.func43 (by kernel_rfl) (by kernel_rfl) (by kernel_rfl) (by kernel_rfl) (by kernel_rfl) (by kernel_rfl) (fun x => by kernel_rfl)
noncomputable def law24_awake.body : Go.Code := Try.f38.body.getD .skip
noncomputable def law24_awake.rs : List Go.ResultVar := Try.f38.results.toList
def law24_awake.regs : List (Nat × RInfo) := [(0, ⟨[], [], [], [], 0, [], [], [], []⟩),
  (1, ⟨[1], [1], [6], [], 0, [], [], [], []⟩),
  (2, ⟨[2], [2], [4], [], 0, [], [], [], []⟩),
  (3, ⟨[2, 3], [2, 3], [4], [], 0, [], [], [], []⟩),
  (4, ⟨[0], [29, 35], [], [], 22, [], [], [], []⟩)]
noncomputable def law24_awake.cx (k : Nat) : Cx := ⟨tt, pp, [(82, (state_Put.e k)),
  (83, (delta_Diff.e k)),
  (84, (delta_Empty.e k)),
  (85, (delta_Of.e k)),
  (43, (delta_Within.e k))], law24_awake.regs, k⟩
@[reducible] def law24_awake.sg : Sg := ⟨[], [], .dat .bool, []⟩
noncomputable def law24_awake.f (k : Nat) : Option (Sg.Out law24_awake.sg) := Sg.fn law24_awake.sg (law24_awake.cx k) law24_awake.body law24_awake.rs ()
noncomputable def law24_awake.e (k : Nat) : Entry := Sg.entry law24_awake.sg fun x => law24_awake.f k
set_option maxRecDepth 100000 in
theorem law24_awake.ok (k : Nat) : CallOK Try.prog 38 (law24_awake.e k) :=
  fn_ok (c := law24_awake.cx k) (code := law24_awake.body) (TT.of tt_ok pp_ok) (fns_ok ⟨(state_Put.ok k), (delta_Diff.ok k), (delta_Empty.ok k), (delta_Of.ok k), (delta_Within.ok k), trivial⟩) mixed Try.func38 (by kernel_rfl) (by kernel_rfl) (by kernel_rfl) (by kernel_rfl) (by kernel_rfl) (by kernel_rfl) (fun x => by kernel_rfl)
noncomputable def ref08_Get.body : Go.Code := Try.f90.body.getD .skip
noncomputable def ref08_Get.rs : List Go.ResultVar := Try.f90.results.toList
def ref08_Get.regs : List (Nat × RInfo) := [(0, ⟨[0, 3], [3], [], [], 0, [], [], [], []⟩),
  (1, ⟨[0, 3, 5], [3], [], [], 0, [], [], [], []⟩),
  (2, ⟨[0, 3, 5, 9], [3], [], [], 0, [0, 3, 5], [3], [], []⟩),
  (4, ⟨[0, 3, 5, 18], [3], [], [], 7, [], [], [], []⟩),
  (5, ⟨[4], [], [], [], 0, [], [], [], []⟩),
  (3, ⟨[0, 3, 5], [3], [], [], 0, [], [], [], []⟩),
  (6, ⟨[4], [], [], [], 0, [], [], [], []⟩)]
noncomputable def ref08_Get.cx (k : Nat) : Cx := ⟨tt, pp, [], ref08_Get.regs, k⟩
@[reducible] def ref08_Get.sg : Sg := ⟨[.dat (.slc tUndo), .dat tDot], [], .dat (.int .i64), []⟩
noncomputable def ref08_Get.f (k : Nat) (a0 : Ty.D (.slc tUndo)) (a1 : Ty.D tDot) : Option (Sg.Out ref08_Get.sg) := Sg.fn ref08_Get.sg (ref08_Get.cx k) ref08_Get.body ref08_Get.rs (a0, a1)
noncomputable def ref08_Get.l2 (k : Nat) (n : Nat) (x0 : Ty.D (.slc tUndo)) (x5 : Ty.D (.int .i64)) (m3 : Ty.D tDot) : Option (Sg.Out ref08_Get.sg) := loopAt (ref08_Get.cx k) ref08_Get.body [1, 0, 1, 0] 2 [0, 3, 5] [3] [] (Sg.K ref08_Get.sg (ref08_Get.cx k) ref08_Get.rs) n ⟨[(0, .dat (.slc tUndo) x0), (3, .ref 3 []), (5, .dat (.int .i64) x5)], [(3, .dat tDot m3)]⟩
set_option maxRecDepth 100000 in
theorem ref08_Get.f_eq (k : Nat) (a0 : Ty.D (.slc tUndo)) (a1 : Ty.D tDot) : ref08_Get.f k a0 a1 =
  ref08_Get.l2 k k a0 0 a1 := by kernel_rfl
set_option maxRecDepth 100000 in
theorem ref08_Get.l2_eq (k : Nat) (n2 : Nat) (x0 : Ty.D (.slc tUndo)) (x5 : Ty.D (.int .i64)) (m3 : Ty.D tDot) : ref08_Get.l2 k (n2 + 1) x0 x5 m3 =
  br (ilt x5 (ilen x0))
    (br (inL x5 x0)
      (br (deq tDot ((rd tUndo x0 (natOf x5)).1) m3)
        (br (inL x5 x0)
          (some ((rd tUndo x0 (natOf x5)).2))
          (none))
        (ref08_Get.l2 k n2 x0 (iadd .i64 x5 1) m3))
      (none))
    (some 0) := by kernel_rfl
noncomputable def ref08_Get.e (k : Nat) : Entry := Sg.entry ref08_Get.sg fun x => ref08_Get.f k x.1 x.2
set_option maxRecDepth 100000 in
theorem ref08_Get.ok (k : Nat) : CallOK Try.prog 90 (ref08_Get.e k) :=
  fn_ok (c := ref08_Get.cx k) (code := ref08_Get.body) (TT.of tt_ok pp_ok) (fns_ok trivial) mixed Try.func90 (by kernel_rfl) (by kernel_rfl) (by kernel_rfl) (by kernel_rfl) (by kernel_rfl) (by kernel_rfl) (fun x => by kernel_rfl)
noncomputable def ref08_Put.body : Go.Code := Try.f124.body.getD .skip
noncomputable def ref08_Put.rs : List Go.ResultVar := Try.f124.results.toList
def ref08_Put.regs : List (Nat × RInfo) := [(0, ⟨[0, 3], [3], [], [], 0, [], [], [], []⟩),
  (1, ⟨[0, 3, 20], [3], [], [], 12, [], [], [], []⟩),
  (2, ⟨[4], [], [0, 1], [], 0, [], [], [], []⟩),
  (3, ⟨[0, 3, 5], [3], [], [], 0, [], [], [], []⟩),
  (4, ⟨[0, 3, 5, 6], [3], [], [], 0, [], [], [], []⟩),
  (5, ⟨[0, 3, 5, 6, 7], [3], [], [], 0, [], [], [], []⟩),
  (6, ⟨[0, 3, 5, 6, 7, 25], [3], [], [], 0, [0, 3, 5, 6, 7], [3], [], []⟩),
  (8, ⟨[0, 3, 5, 6, 7, 8], [3, 35], [], [], 8, [], [], [], []⟩),
  (9, ⟨[0, 3, 5, 6, 7, 8, 41], [3, 35], [], [], 0, [], [], [], []⟩),
  (10, ⟨[0, 3, 5, 7, 8], [3, 35], [0, 3, 4], [], 0, [], [], [], []⟩),
  (11, ⟨[0, 3, 5, 6, 7, 8], [3, 35], [], [], 0, [], [], [], []⟩),
  (12, ⟨[0, 3, 5, 6, 7, 47], [3], [], [], 0, [], [], [], []⟩),
  (13, ⟨[0, 3, 5, 6, 7], [3], [0, 6, 7], [], 0, [], [], [], []⟩),
  (7, ⟨[0, 3, 5, 6, 7], [3], [], [], 0, [], [], [], []⟩),
  (14, ⟨[3, 5, 56], [3], [], [], 0, [], [], [], []⟩),
  (15, ⟨[5], [], [0, 3, 4], [], 0, [], [], [], []⟩),
  (16, ⟨[4], [], [0, 1], [], 0, [], [], [], []⟩)]
noncomputable def ref08_Put.cx (k : Nat) : Cx := ⟨tt, pp, [(125, (ref08_one.e k)),
  (90, (ref08_Get.e k)),
  (70, (ref04_Compare.e k))], ref08_Put.regs, k⟩
@[reducible] def ref08_Put.sg : Sg := ⟨[.dat (.slc tUndo), .dat tUndo], [], .dat (.slc tUndo), []⟩
noncomputable def ref08_Put.f (k : Nat) (a0 : Ty.D (.slc tUndo)) (a1 : Ty.D tUndo) : Option (Sg.Out ref08_Put.sg) := Sg.fn ref08_Put.sg (ref08_Put.cx k) ref08_Put.body ref08_Put.rs (a0, a1)
noncomputable def ref08_Put.l6 (k : Nat) (n : Nat) (x0 : Ty.D (.slc tUndo)) (x5 : List (Ty.D tUndo)) (x6 : Ty.D .bool) (x7 : Ty.D (.int .i64)) (m3 : Ty.D tUndo) : Option (Sg.Out ref08_Put.sg) := loopAt (ref08_Put.cx k) ref08_Put.body [1, 1, 1, 1, 0, 1, 0] 6 [0, 3, 5, 6, 7] [3] [] (Sg.K ref08_Put.sg (ref08_Put.cx k) ref08_Put.rs) n ⟨[(0, .dat (.slc tUndo) x0), (3, .ref 3 []), (5, .own tUndo x5), (6, .dat .bool x6), (7, .dat (.int .i64) x7)], [(3, .dat tUndo m3)]⟩
set_option maxRecDepth 100000 in
theorem ref08_Put.f_eq (k : Nat) (a0 : Ty.D (.slc tUndo)) (a1 : Ty.D tUndo) : ref08_Put.f k a0 a1 =
  bnd (ref08_one.f k a1) fun r0 =>
  br (bnot r0)
    (some a0)
    (bnd (ref08_Get.f k a0 a1.1) fun r1 =>
    br (ile a1.2 r1)
      (some a0)
      (ref08_Put.l6 k k a0 [] false 0 a1)) := by kernel_rfl
set_option maxRecDepth 100000 in
theorem ref08_Put.l6_eq (k : Nat) (n6 : Nat) (x0 : Ty.D (.slc tUndo)) (x5 : List (Ty.D tUndo)) (x6 : Ty.D .bool) (x7 : Ty.D (.int .i64)) (m3 : Ty.D tUndo) : ref08_Put.l6 k (n6 + 1) x0 x5 x6 x7 m3 =
  br (ilt x7 (ilen x0))
    (br (inL x7 x0)
      (bnd (ref04_Compare.f k m3.1 ((rd tUndo x0 (natOf x7)).1)) fun r0 =>
      br (bnot x6)
        (br (ile r0 0)
          (br (room x5 (m3 :: []))
            (br (bnot (ieq r0 0))
              (br (inL x7 x0)
                (br (room (app x5 (m3 :: [])) ((rd tUndo x0 (natOf x7)) :: []))
                  (ref08_Put.l6 k n6 x0 (app (app x5 (m3 :: [])) ((rd tUndo x0 (natOf x7)) :: [])) true (iadd .i64 x7 1) m3)
                  (none))
                (none))
              (ref08_Put.l6 k n6 x0 (app x5 (m3 :: [])) true (iadd .i64 x7 1) m3))
            (none))
          (br (bnot (ieq r0 0))
            (br (inL x7 x0)
              (br (room x5 ((rd tUndo x0 (natOf x7)) :: []))
                (ref08_Put.l6 k n6 x0 (app x5 ((rd tUndo x0 (natOf x7)) :: [])) x6 (iadd .i64 x7 1) m3)
                (none))
              (none))
            (ref08_Put.l6 k n6 x0 x5 x6 (iadd .i64 x7 1) m3)))
        (br (bnot (ieq r0 0))
          (br (inL x7 x0)
            (br (room x5 ((rd tUndo x0 (natOf x7)) :: []))
              (ref08_Put.l6 k n6 x0 (app x5 ((rd tUndo x0 (natOf x7)) :: [])) x6 (iadd .i64 x7 1) m3)
              (none))
            (none))
          (ref08_Put.l6 k n6 x0 x5 x6 (iadd .i64 x7 1) m3)))
      (none))
    (br (bnot x6)
      (br (room x5 (m3 :: []))
        (some (app x5 (m3 :: [])))
        (none))
      (some x5)) := by kernel_rfl
noncomputable def ref08_Put.e (k : Nat) : Entry := Sg.entry ref08_Put.sg fun x => ref08_Put.f k x.1 x.2
set_option maxRecDepth 100000 in
theorem ref08_Put.ok (k : Nat) : CallOK Try.prog 124 (ref08_Put.e k) :=
  fn_ok (c := ref08_Put.cx k) (code := ref08_Put.body) (TT.of tt_ok pp_ok) (fns_ok ⟨(ref08_one.ok k), (ref08_Get.ok k), (ref04_Compare.ok k), trivial⟩) mixed Try.func124 (by kernel_rfl) (by kernel_rfl) (by kernel_rfl) (by kernel_rfl) (by kernel_rfl) (by kernel_rfl) (fun x => by kernel_rfl)
noncomputable def ref08_Join.body : Go.Code := Try.f88.body.getD .skip
noncomputable def ref08_Join.rs : List Go.ResultVar := Try.f88.results.toList
def ref08_Join.regs : List (Nat × RInfo) := [(0, ⟨[0, 1], [], [], [], 0, [], [], [], []⟩),
  (1, ⟨[1, 5], [19], [0, 1], [], 0, [], [], [], []⟩),
  (2, ⟨[1, 5, 6], [19], [], [], 0, [], [], [], []⟩),
  (3, ⟨[1, 5, 6, 11], [19], [], [], 0, [1, 5, 6], [19], [], []⟩),
  (5, ⟨[1, 5, 6], [19], [6], [], 0, [], [], [], []⟩),
  (4, ⟨[1, 5, 6], [19], [], [], 0, [], [], [], []⟩),
  (6, ⟨[4], [19], [0, 1], [], 0, [], [], [], []⟩)]
noncomputable def ref08_Join.cx (k : Nat) : Cx := ⟨tt, pp, [(124, (ref08_Put.e k))], ref08_Join.regs, k⟩
@[reducible] def ref08_Join.sg : Sg := ⟨[.dat (.slc tUndo), .dat (.slc tUndo)], [], .dat (.slc tUndo), []⟩
noncomputable def ref08_Join.f (k : Nat) (a0 : Ty.D (.slc tUndo)) (a1 : Ty.D (.slc tUndo)) : Option (Sg.Out ref08_Join.sg) := Sg.fn ref08_Join.sg (ref08_Join.cx k) ref08_Join.body ref08_Join.rs (a0, a1)
noncomputable def ref08_Join.l3 (k : Nat) (n : Nat) (x1 : Ty.D (.slc tUndo)) (x5 : Ty.D (.slc tUndo)) (x6 : Ty.D (.int .i64)) : Option (Sg.Out ref08_Join.sg) := loopAt (ref08_Join.cx k) ref08_Join.body [1, 1, 0, 1, 0] 3 [1, 5, 6] [19] [] (Sg.K ref08_Join.sg (ref08_Join.cx k) ref08_Join.rs) n ⟨[(1, .dat (.slc tUndo) x1), (5, .dat (.slc tUndo) x5), (6, .dat (.int .i64) x6)], []⟩
set_option maxRecDepth 100000 in
theorem ref08_Join.f_eq (k : Nat) (a0 : Ty.D (.slc tUndo)) (a1 : Ty.D (.slc tUndo)) : ref08_Join.f k a0 a1 =
  ref08_Join.l3 k k a1 a0 0 := by kernel_rfl
set_option maxRecDepth 100000 in
theorem ref08_Join.l3_eq (k : Nat) (n3 : Nat) (x1 : Ty.D (.slc tUndo)) (x5 : Ty.D (.slc tUndo)) (x6 : Ty.D (.int .i64)) : ref08_Join.l3 k (n3 + 1) x1 x5 x6 =
  br (ilt x6 (ilen x1))
    (br (inL x6 x1)
      (bnd (ref08_Put.f k x5 (rd tUndo x1 (natOf x6))) fun r0 =>
      ref08_Join.l3 k n3 x1 r0 (iadd .i64 x6 1))
      (none))
    (some x5) := by kernel_rfl
noncomputable def ref08_Join.e (k : Nat) : Entry := Sg.entry ref08_Join.sg fun x => ref08_Join.f k x.1 x.2
set_option maxRecDepth 100000 in
theorem ref08_Join.ok (k : Nat) : CallOK Try.prog 88 (ref08_Join.e k) :=
  fn_ok (c := ref08_Join.cx k) (code := ref08_Join.body) (TT.of tt_ok pp_ok) (fns_ok ⟨(ref08_Put.ok k), trivial⟩) mixed Try.func88 (by kernel_rfl) (by kernel_rfl) (by kernel_rfl) (by kernel_rfl) (by kernel_rfl) (by kernel_rfl) (fun x => by kernel_rfl)
noncomputable def ref24_Join.body : Go.Code := Try.f41.body.getD .skip
noncomputable def ref24_Join.rs : List Go.ResultVar := Try.f41.results.toList
def ref24_Join.regs : List (Nat × RInfo) := [(0, ⟨[2, 3, 4], [2, 3, 4], [0, 1], [], 0, [], [], [], []⟩),
  (1, ⟨[2, 3, 4, 5], [2, 3, 4, 5], [2], [], 0, [], [], [], []⟩),
  (2, ⟨[2, 3, 4, 5], [2, 3, 4, 5], [6], [], 0, [], [], [], []⟩),
  (3, ⟨[2, 3, 4, 5], [2, 3, 4, 5], [6], [], 0, [], [], [], []⟩),
  (4, ⟨[4, 5], [4, 5], [6], [], 0, [], [], [], []⟩),
  (5, ⟨[4], [4], [1], [], 0, [], [], [], []⟩)]
noncomputable def ref24_Join.cx (k : Nat) : Cx := ⟨tt, pp, [(34, (ref06_Union.e k)),
  (88, (ref08_Join.e k))], ref24_Join.regs, k⟩
@[reducible] def ref24_Join.sg : Sg := ⟨[.dat tKnow, .dat tKnow], [], .dat tKnow, []⟩
noncomputable def ref24_Join.f (k : Nat) (a0 : Ty.D tKnow) (a1 : Ty.D tKnow) : Option (Sg.Out ref24_Join.sg) := Sg.fn ref24_Join.sg (ref24_Join.cx k) ref24_Join.body ref24_Join.rs (a0, a1)
set_option maxRecDepth 100000 in
theorem ref24_Join.f_eq (k : Nat) (a0 : Ty.D tKnow) (a1 : Ty.D tKnow) : ref24_Join.f k a0 a1 =
  bnd (ref06_Union.f k a0.1 a1.1) fun r0 =>
  bnd (ref08_Join.f k a0.2.1 a1.2.1) fun r1 =>
  bnd (ref06_Union.f k a0.2.2 a1.2.2) fun r2 =>
  some (r0, (r1, r2)) := by kernel_rfl
noncomputable def ref24_Join.e (k : Nat) : Entry := Sg.entry ref24_Join.sg fun x => ref24_Join.f k x.1 x.2
set_option maxRecDepth 100000 in
theorem ref24_Join.ok (k : Nat) : CallOK Try.prog 41 (ref24_Join.e k) :=
  fn_ok (c := ref24_Join.cx k) (code := ref24_Join.body) (TT.of tt_ok pp_ok) (fns_ok ⟨(ref06_Union.ok k), (ref08_Join.ok k), trivial⟩) mixed Try.func41 (by kernel_rfl) (by kernel_rfl) (by kernel_rfl) (by kernel_rfl) (by kernel_rfl) (by kernel_rfl) (fun x => by kernel_rfl)
noncomputable def ref08_Same.body : Go.Code := Try.f87.body.getD .skip
noncomputable def ref08_Same.rs : List Go.ResultVar := Try.f87.results.toList
def ref08_Same.regs : List (Nat × RInfo) := [(0, ⟨[0, 1], [], [], [], 0, [], [], [], []⟩),
  (1, ⟨[0, 1, 10], [], [], [], 0, [], [], [], []⟩),
  (2, ⟨[4], [], [], [], 0, [], [], [], []⟩),
  (3, ⟨[0, 1, 5], [], [], [], 0, [], [], [], []⟩),
  (4, ⟨[0, 1, 5, 14], [], [], [], 0, [0, 1, 5], [], [], []⟩),
  (6, ⟨[0, 1, 5, 25], [], [], [], 9, [], [], [], []⟩),
  (7, ⟨[4], [], [], [], 0, [], [], [], []⟩),
  (5, ⟨[0, 1, 5], [], [], [], 0, [], [], [], []⟩),
  (8, ⟨[4], [], [], [], 0, [], [], [], []⟩)]
noncomputable def ref08_Same.cx (k : Nat) : Cx := ⟨tt, pp, [], ref08_Same.regs, k⟩
@[reducible] def ref08_Same.sg : Sg := ⟨[.dat (.slc tUndo), .dat (.slc tUndo)], [], .dat .bool, []⟩
noncomputable def ref08_Same.f (k : Nat) (a0 : Ty.D (.slc tUndo)) (a1 : Ty.D (.slc tUndo)) : Option (Sg.Out ref08_Same.sg) := Sg.fn ref08_Same.sg (ref08_Same.cx k) ref08_Same.body ref08_Same.rs (a0, a1)
noncomputable def ref08_Same.l4 (k : Nat) (n : Nat) (x0 : Ty.D (.slc tUndo)) (x1 : Ty.D (.slc tUndo)) (x5 : Ty.D (.int .i64)) : Option (Sg.Out ref08_Same.sg) := loopAt (ref08_Same.cx k) ref08_Same.body [1, 1, 0, 1, 0] 4 [0, 1, 5] [] [] (Sg.K ref08_Same.sg (ref08_Same.cx k) ref08_Same.rs) n ⟨[(0, .dat (.slc tUndo) x0), (1, .dat (.slc tUndo) x1), (5, .dat (.int .i64) x5)], []⟩
set_option maxRecDepth 100000 in
theorem ref08_Same.f_eq (k : Nat) (a0 : Ty.D (.slc tUndo)) (a1 : Ty.D (.slc tUndo)) : ref08_Same.f k a0 a1 =
  br (bnot (ieq (ilen a0) (ilen a1)))
    (some false)
    (ref08_Same.l4 k k a0 a1 0) := by kernel_rfl
set_option maxRecDepth 100000 in
theorem ref08_Same.l4_eq (k : Nat) (n4 : Nat) (x0 : Ty.D (.slc tUndo)) (x1 : Ty.D (.slc tUndo)) (x5 : Ty.D (.int .i64)) : ref08_Same.l4 k (n4 + 1) x0 x1 x5 =
  br (ilt x5 (ilen x0))
    (br (inL x5 x0)
      (br (inL x5 x1)
        (br (bnot (deq tUndo (rd tUndo x0 (natOf x5)) (rd tUndo x1 (natOf x5))))
          (some false)
          (ref08_Same.l4 k n4 x0 x1 (iadd .i64 x5 1)))
        (none))
      (none))
    (some true) := by kernel_rfl
noncomputable def ref08_Same.e (k : Nat) : Entry := Sg.entry ref08_Same.sg fun x => ref08_Same.f k x.1 x.2
set_option maxRecDepth 100000 in
theorem ref08_Same.ok (k : Nat) : CallOK Try.prog 87 (ref08_Same.e k) :=
  fn_ok (c := ref08_Same.cx k) (code := ref08_Same.body) (TT.of tt_ok pp_ok) (fns_ok trivial) mixed Try.func87 (by kernel_rfl) (by kernel_rfl) (by kernel_rfl) (by kernel_rfl) (by kernel_rfl) (by kernel_rfl) (fun x => by kernel_rfl)
noncomputable def ref24_Same.body : Go.Code := Try.f40.body.getD .skip
noncomputable def ref24_Same.rs : List Go.ResultVar := Try.f40.results.toList
def ref24_Same.regs : List (Nat × RInfo) := [(0, ⟨[2, 3], [2, 3], [0, 1], [], 0, [], [], [], []⟩),
  (1, ⟨[4], [9, 15, 22], [], [], 0, [], [], [], []⟩)]
noncomputable def ref24_Same.cx (k : Nat) : Cx := ⟨tt, pp, [(19, (ref06_Same.e k)),
  (87, (ref08_Same.e k))], ref24_Same.regs, k⟩
@[reducible] def ref24_Same.sg : Sg := ⟨[.dat tKnow, .dat tKnow], [], .dat .bool, []⟩
noncomputable def ref24_Same.f (k : Nat) (a0 : Ty.D tKnow) (a1 : Ty.D tKnow) : Option (Sg.Out ref24_Same.sg) := Sg.fn ref24_Same.sg (ref24_Same.cx k) ref24_Same.body ref24_Same.rs (a0, a1)
set_option maxRecDepth 100000 in
theorem ref24_Same.f_eq (k : Nat) (a0 : Ty.D tKnow) (a1 : Ty.D tKnow) : ref24_Same.f k a0 a1 =
  bnd (ref06_Same.f k a0.1 a1.1) fun r0 =>
  br r0
    (bnd (ref08_Same.f k a0.2.1 a1.2.1) fun r1 =>
    br r1
      (bnd (ref06_Same.f k a0.2.2 a1.2.2) fun r2 =>
      some r2)
      (some false))
    (some false) := by kernel_rfl
noncomputable def ref24_Same.e (k : Nat) : Entry := Sg.entry ref24_Same.sg fun x => ref24_Same.f k x.1 x.2
set_option maxRecDepth 100000 in
theorem ref24_Same.ok (k : Nat) : CallOK Try.prog 40 (ref24_Same.e k) :=
  fn_ok (c := ref24_Same.cx k) (code := ref24_Same.body) (TT.of tt_ok pp_ok) (fns_ok ⟨(ref06_Same.ok k), (ref08_Same.ok k), trivial⟩) mixed Try.func40 (by kernel_rfl) (by kernel_rfl) (by kernel_rfl) (by kernel_rfl) (by kernel_rfl) (by kernel_rfl) (fun x => by kernel_rfl)
noncomputable def ref24_Within.body : Go.Code := Try.f44.body.getD .skip
noncomputable def ref24_Within.rs : List Go.ResultVar := Try.f44.results.toList
def ref24_Within.regs : List (Nat × RInfo) := [(0, ⟨[2, 3], [2, 3], [0, 1], [], 0, [], [], [], []⟩),
  (1, ⟨[2, 3, 5], [2, 3], [], [], 0, [], [], [], []⟩),
  (2, ⟨[2, 3, 5, 10], [2, 3], [], [], 0, [2, 3, 5], [2, 3], [], []⟩),
  (4, ⟨[2, 3, 5, 28], [2, 3], [], [], 16, [], [], [], []⟩),
  (5, ⟨[4], [33, 39], [], [], 0, [], [], [], []⟩),
  (3, ⟨[2, 3, 5], [2, 3], [], [], 0, [], [], [], []⟩),
  (6, ⟨[4], [33, 39], [], [], 0, [], [], [], []⟩)]
noncomputable def ref24_Within.cx (k : Nat) : Cx := ⟨tt, pp, [(90, (ref08_Get.e k)),
  (36, (ref06_Within.e k))], ref24_Within.regs, k⟩
@[reducible] def ref24_Within.sg : Sg := ⟨[.dat tKnow, .dat tKnow], [], .dat .bool, []⟩
noncomputable def ref24_Within.f (k : Nat) (a0 : Ty.D tKnow) (a1 : Ty.D tKnow) : Option (Sg.Out ref24_Within.sg) := Sg.fn ref24_Within.sg (ref24_Within.cx k) ref24_Within.body ref24_Within.rs (a0, a1)
noncomputable def ref24_Within.l2 (k : Nat) (n : Nat) (x5 : Ty.D (.int .i64)) (m2 : Ty.D tKnow) (m3 : Ty.D tKnow) : Option (Sg.Out ref24_Within.sg) := loopAt (ref24_Within.cx k) ref24_Within.body [1, 0, 1, 0] 2 [2, 3, 5] [2, 3] [] (Sg.K ref24_Within.sg (ref24_Within.cx k) ref24_Within.rs) n ⟨[(2, .ref 2 []), (3, .ref 3 []), (5, .dat (.int .i64) x5)], [(2, .dat tKnow m2), (3, .dat tKnow m3)]⟩
set_option maxRecDepth 100000 in
theorem ref24_Within.f_eq (k : Nat) (a0 : Ty.D tKnow) (a1 : Ty.D tKnow) : ref24_Within.f k a0 a1 =
  ref24_Within.l2 k k 0 a0 a1 := by kernel_rfl
set_option maxRecDepth 100000 in
theorem ref24_Within.l2_eq (k : Nat) (n2 : Nat) (x5 : Ty.D (.int .i64)) (m2 : Ty.D tKnow) (m3 : Ty.D tKnow) : ref24_Within.l2 k (n2 + 1) x5 m2 m3 =
  br (ilt x5 (ilen m2.2.1))
    (br (inL x5 m2.2.1)
      (br (inL x5 m2.2.1)
        (bnd (ref08_Get.f k m3.2.1 ((rd tUndo m2.2.1 (natOf x5)).1)) fun r0 =>
        br (ilt r0 ((rd tUndo m2.2.1 (natOf x5)).2))
          (some false)
          (ref24_Within.l2 k n2 (iadd .i64 x5 1) m2 m3))
        (none))
      (none))
    (bnd (ref06_Within.f k m2.1 m3.1) fun r1 =>
    br r1
      (bnd (ref06_Within.f k m2.2.2 m3.2.2) fun r2 =>
      some r2)
      (some false)) := by kernel_rfl
noncomputable def ref24_Within.e (k : Nat) : Entry := Sg.entry ref24_Within.sg fun x => ref24_Within.f k x.1 x.2
set_option maxRecDepth 100000 in
theorem ref24_Within.ok (k : Nat) : CallOK Try.prog 44 (ref24_Within.e k) :=
  fn_ok (c := ref24_Within.cx k) (code := ref24_Within.body) (TT.of tt_ok pp_ok) (fns_ok ⟨(ref08_Get.ok k), (ref06_Within.ok k), trivial⟩) mixed Try.func44 (by kernel_rfl) (by kernel_rfl) (by kernel_rfl) (by kernel_rfl) (by kernel_rfl) (by kernel_rfl) (fun x => by kernel_rfl)
noncomputable def law24_DeltaJoins.body : Go.Code := Try.f8.body.getD .skip
noncomputable def law24_DeltaJoins.rs : List Go.ResultVar := Try.f8.results.toList
def law24_DeltaJoins.regs : List (Nat × RInfo) := [(0, ⟨[2, 3], [2, 3], [0, 1], [], 0, [], [], [], []⟩),
  (1, ⟨[2, 3, 13], [2, 3], [], [], 0, [], [], [], []⟩),
  (2, ⟨[4], [14, 22, 25, 46], [], [], 0, [], [], [], []⟩),
  (3, ⟨[2, 3, 5], [2, 3, 5], [4], [], 0, [], [], [], []⟩),
  (4, ⟨[4], [14, 22, 25, 46], [], [], 30, [], [], [], []⟩)]
noncomputable def law24_DeltaJoins.cx (k : Nat) : Cx := ⟨tt, pp, [(37, (ref24_Good.e k)),
  (38, (law24_awake.e k)),
  (39, (delta_Join.e k)),
  (41, (ref24_Join.e k)),
  (40, (ref24_Same.e k)),
  (42, (ref24_Right.e k)),
  (43, (delta_Within.e k)),
  (44, (ref24_Within.e k)),
  (45, (delta_Same.e k))], law24_DeltaJoins.regs, k⟩
@[reducible] def law24_DeltaJoins.sg : Sg := ⟨[.dat tKnow, .dat tKnow], [], .dat .bool, []⟩
noncomputable def law24_DeltaJoins.f (k : Nat) (a0 : Ty.D tKnow) (a1 : Ty.D tKnow) : Option (Sg.Out law24_DeltaJoins.sg) := Sg.fn law24_DeltaJoins.sg (law24_DeltaJoins.cx k) law24_DeltaJoins.body law24_DeltaJoins.rs (a0, a1)
set_option maxRecDepth 100000 in
theorem law24_DeltaJoins.f_eq (k : Nat) (a0 : Ty.D tKnow) (a1 : Ty.D tKnow) : law24_DeltaJoins.f k a0 a1 =
  bnd (ref24_Good.f k a0) fun r0 =>
  br (bnot r0)
    (bnd (law24_awake.f k) fun r1 =>
    some r1)
    (bnd (ref24_Good.f k a1) fun r2 =>
    br (bnot r2)
      (bnd (law24_awake.f k) fun r3 =>
      some r3)
      (bnd (delta_Join.f k a0 a1) fun r4 =>
      bnd (ref24_Join.f k a0 a1) fun r5 =>
      bnd (ref24_Same.f k r4 r5) fun r6 =>
      br r6
        (bnd (ref24_Right.f k r4) fun r7 =>
        br r7
          (bnd (delta_Within.f k a0 a1) fun r8 =>
          bnd (ref24_Within.f k a0 a1) fun r9 =>
          br (deq .bool r8 r9)
            (bnd (delta_Same.f k a0 a1) fun r10 =>
            bnd (ref24_Same.f k a0 a1) fun r11 =>
            br (deq .bool r10 r11)
              (bnd (law24_awake.f k) fun r12 =>
              some r12)
              (some false))
            (some false))
          (some false))
        (some false))) := by kernel_rfl
noncomputable def law24_DeltaJoins.e (k : Nat) : Entry := Sg.entry law24_DeltaJoins.sg fun x => law24_DeltaJoins.f k x.1 x.2
set_option maxRecDepth 100000 in
theorem law24_DeltaJoins.ok (k : Nat) : CallOK Try.prog 8 (law24_DeltaJoins.e k) :=
  fn_ok (c := law24_DeltaJoins.cx k) (code := law24_DeltaJoins.body) (TT.of tt_ok pp_ok) (fns_ok ⟨(ref24_Good.ok k), (law24_awake.ok k), (delta_Join.ok k), (ref24_Join.ok k), (ref24_Same.ok k), (ref24_Right.ok k), (delta_Within.ok k), (ref24_Within.ok k), (delta_Same.ok k), trivial⟩) mixed Try.func8 (by kernel_rfl) (by kernel_rfl) (by kernel_rfl) (by kernel_rfl) (by kernel_rfl) (by kernel_rfl) (fun x => by kernel_rfl)
noncomputable def law24_DeltaLattice.body : Go.Code := Try.f9.body.getD .skip
noncomputable def law24_DeltaLattice.rs : List Go.ResultVar := Try.f9.results.toList
def law24_DeltaLattice.regs : List (Nat × RInfo) := [(0, ⟨[3, 4, 5], [3, 4, 5], [0, 1, 2], [], 0, [], [], [], []⟩),
  (1, ⟨[3, 4, 5, 20], [3, 4, 5], [], [], 0, [], [], [], []⟩),
  (2, ⟨[6], [21, 29, 39, 46, 51, 56, 72, 76], [], [], 0, [], [], [], []⟩),
  (3, ⟨[3, 4, 5, 7], [3, 4, 5, 7], [4], [], 0, [], [], [], []⟩),
  (4, ⟨[6], [21, 29, 39, 46, 51, 56, 72, 76], [], [], 53, [], [], [], []⟩)]
noncomputable def law24_DeltaLattice.cx (k : Nat) : Cx := ⟨tt, pp, [(37, (ref24_Good.e k)),
  (38, (law24_awake.e k)),
  (39, (delta_Join.e k)),
  (45, (delta_Same.e k)),
  (43, (delta_Within.e k))], law24_DeltaLattice.regs, k⟩
@[reducible] def law24_DeltaLattice.sg : Sg := ⟨[.dat tKnow, .dat tKnow, .dat tKnow], [], .dat .bool, []⟩
noncomputable def law24_DeltaLattice.f (k : Nat) (a0 : Ty.D tKnow) (a1 : Ty.D tKnow) (a2 : Ty.D tKnow) : Option (Sg.Out law24_DeltaLattice.sg) := Sg.fn law24_DeltaLattice.sg (law24_DeltaLattice.cx k) law24_DeltaLattice.body law24_DeltaLattice.rs (a0, a1, a2)
set_option maxRecDepth 100000 in
theorem law24_DeltaLattice.f_eq (k : Nat) (a0 : Ty.D tKnow) (a1 : Ty.D tKnow) (a2 : Ty.D tKnow) : law24_DeltaLattice.f k a0 a1 a2 =
  bnd (ref24_Good.f k a0) fun r0 =>
  br (bnot r0)
    (bnd (law24_awake.f k) fun r1 =>
    some r1)
    (bnd (ref24_Good.f k a1) fun r2 =>
    br (bnot r2)
      (bnd (law24_awake.f k) fun r3 =>
      some r3)
      (bnd (ref24_Good.f k a2) fun r4 =>
      br (bnot r4)
        (bnd (law24_awake.f k) fun r5 =>
        some r5)
        (bnd (delta_Join.f k a0 a1) fun r6 =>
        bnd (delta_Join.f k a1 a0) fun r7 =>
        bnd (delta_Same.f k r6 r7) fun r8 =>
        br r8
          (bnd (delta_Join.f k r6 a2) fun r9 =>
          bnd (delta_Join.f k a1 a2) fun r10 =>
          bnd (delta_Join.f k a0 r10) fun r11 =>
          bnd (delta_Same.f k r9 r11) fun r12 =>
          br r12
            (bnd (delta_Join.f k a0 a0) fun r13 =>
            bnd (delta_Same.f k r13 a0) fun r14 =>
            br r14
              (bnd (delta_Within.f k a0 r6) fun r15 =>
              br r15
                (bnd (delta_Within.f k a1 r6) fun r16 =>
                br r16
                  (bnd (delta_Within.f k a0 a2) fun r17 =>
                  br (bnot r17)
                    (bnd (law24_awake.f k) fun r18 =>
                    some r18)
                    (bnd (delta_Within.f k a1 a2) fun r19 =>
                    br (bnot r19)
                      (bnd (law24_awake.f k) fun r20 =>
                      some r20)
                      (bnd (delta_Within.f k r6 a2) fun r21 =>
                      br r21
                        (bnd (law24_awake.f k) fun r22 =>
                        some r22)
                        (some false))))
                  (some false))
                (some false))
              (some false))
            (some false))
          (some false)))) := by kernel_rfl
noncomputable def law24_DeltaLattice.e (k : Nat) : Entry := Sg.entry law24_DeltaLattice.sg fun x => law24_DeltaLattice.f k x.1 x.2.1 x.2.2
set_option maxRecDepth 100000 in
theorem law24_DeltaLattice.ok (k : Nat) : CallOK Try.prog 9 (law24_DeltaLattice.e k) :=
  fn_ok (c := law24_DeltaLattice.cx k) (code := law24_DeltaLattice.body) (TT.of tt_ok pp_ok) (fns_ok ⟨(ref24_Good.ok k), (law24_awake.ok k), (delta_Join.ok k), (delta_Same.ok k), (delta_Within.ok k), trivial⟩) mixed Try.func9 (by kernel_rfl) (by kernel_rfl) (by kernel_rfl) (by kernel_rfl) (by kernel_rfl) (by kernel_rfl) (fun x => by kernel_rfl)
noncomputable def pack_Open.body : Go.Code := Try.f46.body.getD .skip
noncomputable def pack_Open.rs : List Go.ResultVar := Try.f46.results.toList
def pack_Open.regs : List (Nat × RInfo) := [(0, ⟨[0], [], [], [], 0, [], [], [], []⟩),
  (1, ⟨[2], [5], [], [], 0, [], [], [], []⟩)]
noncomputable def pack_Open.cx (k : Nat) : Cx := ⟨tt, pp, [], pack_Open.regs, k⟩
@[reducible] def pack_Open.sg : Sg := ⟨[.dat .str], [], .new, [tReader112]⟩
noncomputable def pack_Open.f (k : Nat) (a0 : Ty.D .str) : Option (Sg.Out pack_Open.sg) := Sg.fn pack_Open.sg (pack_Open.cx k) pack_Open.body pack_Open.rs a0
set_option maxRecDepth 100000 in
theorem pack_Open.f_eq (k : Nat) (a0 : Ty.D .str) : pack_Open.f k a0 =
  some ((), (a0, 0)) := by kernel_rfl
noncomputable def pack_Open.e (k : Nat) : Entry := Sg.entry pack_Open.sg fun x => pack_Open.f k x
set_option maxRecDepth 100000 in
theorem pack_Open.ok (k : Nat) : CallOK Try.prog 46 (pack_Open.e k) :=
  fn_ok (c := pack_Open.cx k) (code := pack_Open.body) (TT.of tt_ok pp_ok) (fns_ok trivial) mixed Try.func46 (by kernel_rfl) (by kernel_rfl) (by kernel_rfl) (by kernel_rfl) (by kernel_rfl) (by kernel_rfl) (fun x => by kernel_rfl)
noncomputable def pack_Reader_fine.body : Go.Code := Try.f95.body.getD .skip
noncomputable def pack_Reader_fine.rs : List Go.ResultVar := Try.f95.results.toList
def pack_Reader_fine.regs : List (Nat × RInfo) := [(0, ⟨[0], [1000000], [], [], 0, [], [], [], []⟩),
  (1, ⟨[2], [1000000], [], [], 0, [], [], [], []⟩)]
noncomputable def pack_Reader_fine.cx (k : Nat) : Cx := ⟨tt, pp, [], pack_Reader_fine.regs, k⟩
@[reducible] def pack_Reader_fine.sg : Sg := ⟨[.ref], [tReader112], .dat .bool, [tReader112]⟩
noncomputable def pack_Reader_fine.f (k : Nat) (o0 : Ty.D tReader112) : Option (Sg.Out pack_Reader_fine.sg) := Sg.fn pack_Reader_fine.sg (pack_Reader_fine.cx k) pack_Reader_fine.body pack_Reader_fine.rs o0
set_option maxRecDepth 100000 in
theorem pack_Reader_fine.f_eq (k : Nat) (o0 : Ty.D tReader112) : pack_Reader_fine.f k o0 =
  some ((ieq o0.2 0), o0) := by kernel_rfl
noncomputable def pack_Reader_fine.e (k : Nat) : Entry := Sg.entry pack_Reader_fine.sg fun x => pack_Reader_fine.f k x
set_option maxRecDepth 100000 in
theorem pack_Reader_fine.ok (k : Nat) : CallOK Try.prog 95 (pack_Reader_fine.e k) :=
  fn_ok (c := pack_Reader_fine.cx k) (code := pack_Reader_fine.body) (TT.of tt_ok pp_ok) (fns_ok trivial) mixed Try.func95 (by kernel_rfl) (by kernel_rfl) (by kernel_rfl) (by kernel_rfl) (by kernel_rfl) (by kernel_rfl) (fun x => by kernel_rfl)
noncomputable def pack_Reader_Fail.body : Go.Code := Try.f93.body.getD .skip
noncomputable def pack_Reader_Fail.rs : List Go.ResultVar := Try.f93.results.toList
def pack_Reader_Fail.regs : List (Nat × RInfo) := [(0, ⟨[0, 1, 5], [5, 1000000], [], [], 0, [], [], [], []⟩),
  (1, ⟨[], [1000000], [], [], 0, [], [], [], []⟩)]
noncomputable def pack_Reader_Fail.cx (k : Nat) : Cx := ⟨tt, pp, [(95, (pack_Reader_fine.e k))], pack_Reader_Fail.regs, k⟩
@[reducible] def pack_Reader_Fail.sg : Sg := ⟨[.ref, .dat (.int .i64)], [tReader112], .unit, [tReader112]⟩
noncomputable def pack_Reader_Fail.f (k : Nat) (a1 : Ty.D (.int .i64)) (o0 : Ty.D tReader112) : Option (Sg.Out pack_Reader_Fail.sg) := Sg.fn pack_Reader_Fail.sg (pack_Reader_Fail.cx k) pack_Reader_Fail.body pack_Reader_Fail.rs (a1, o0)
set_option maxRecDepth 100000 in
theorem pack_Reader_Fail.f_eq (k : Nat) (a1 : Ty.D (.int .i64)) (o0 : Ty.D tReader112) : pack_Reader_Fail.f k a1 o0 =
  bnd (pack_Reader_fine.f k o0) fun r0 =>
  br r0.1
    (some ((), (r0.2.1, a1)))
    (some ((), r0.2)) := by kernel_rfl
noncomputable def pack_Reader_Fail.e (k : Nat) : Entry := Sg.entry pack_Reader_Fail.sg fun x => pack_Reader_Fail.f k x.1 x.2
set_option maxRecDepth 100000 in
theorem pack_Reader_Fail.ok (k : Nat) : CallOK Try.prog 93 (pack_Reader_Fail.e k) :=
  fn_ok (c := pack_Reader_Fail.cx k) (code := pack_Reader_Fail.body) (TT.of tt_ok pp_ok) (fns_ok ⟨(pack_Reader_fine.ok k), trivial⟩) mixed Try.func93 (by kernel_rfl) (by kernel_rfl) (by kernel_rfl) (by kernel_rfl) (by kernel_rfl) (by kernel_rfl) (fun x => by kernel_rfl)
noncomputable def pack_Reader_Int.body : Go.Code := Try.f127.body.getD .skip
noncomputable def pack_Reader_Int.rs : List Go.ResultVar := Try.f127.results.toList
def pack_Reader_Int.regs : List (Nat × RInfo) := [(0, ⟨[0], [1000000], [], [], 0, [], [], [], []⟩),
  (1, ⟨[0, 3], [1000000], [], [], 0, [], [], [], []⟩),
  (2, ⟨[0, 3, 4], [1000000], [], [], 0, [], [], [], []⟩),
  (3, ⟨[0, 3, 4, 7], [7, 1000000], [], [], 0, [0, 3, 4], [1000000], [], []⟩),
  (5, ⟨[0, 3, 4, 10], [1000000], [], [], 0, [], [], [], []⟩),
  (6, ⟨[0, 3, 4], [1000000], [], [], 0, [], [], [], []⟩),
  (7, ⟨[0, 3, 4, 15], [1000000], [], [], 0, [], [], [], []⟩),
  (8, ⟨[0, 3, 4], [1000000], [], [], 0, [], [], [], []⟩),
  (9, ⟨[0, 3, 4, 5], [1000000], [], [], 0, [], [], [], []⟩),
  (10, ⟨[0, 3, 4, 5], [1000000], [], [], 0, [], [], [], []⟩),
  (11, ⟨[0, 3, 4, 5, 39], [1000000], [], [], 0, [], [], [], []⟩),
  (12, ⟨[0, 3, 4, 42], [1000000], [], [], 0, [], [], [], []⟩),
  (13, ⟨[0, 3, 4], [1000000], [], [], 0, [], [], [], []⟩),
  (14, ⟨[3], [1000000], [], [], 0, [], [], [], []⟩),
  (15, ⟨[2], [1000000], [], [], 0, [], [], [], []⟩),
  (4, ⟨[0, 3, 4], [1000000], [], [], 0, [], [], [], []⟩),
  (16, ⟨[2], [1000000], [], [], 0, [], [], [], []⟩)]
noncomputable def pack_Reader_Int.cx (k : Nat) : Cx := ⟨tt, pp, [(95, (pack_Reader_fine.e k)),
  (93, (pack_Reader_Fail.e k))], pack_Reader_Int.regs, k⟩
@[reducible] def pack_Reader_Int.sg : Sg := ⟨[.ref], [tReader112], .dat (.int .i64), [tReader112]⟩
noncomputable def pack_Reader_Int.f (k : Nat) (o0 : Ty.D tReader112) : Option (Sg.Out pack_Reader_Int.sg) := Sg.fn pack_Reader_Int.sg (pack_Reader_Int.cx k) pack_Reader_Int.body pack_Reader_Int.rs o0
noncomputable def pack_Reader_Int.l3 (k : Nat) (n : Nat) (x3 : Ty.D (.int .i64)) (x4 : Ty.D (.int .i64)) (m1000000 : Ty.D tReader112) : Option (Sg.Out pack_Reader_Int.sg) := loopAt (pack_Reader_Int.cx k) pack_Reader_Int.body [1, 1, 0, 1, 0] 3 [0, 3, 4] [1000000] [] (Sg.K pack_Reader_Int.sg (pack_Reader_Int.cx k) pack_Reader_Int.rs) n ⟨[(0, .ref 1000000 []), (3, .dat (.int .i64) x3), (4, .dat (.int .i64) x4)], [(1000000, .dat tReader112 m1000000)]⟩
set_option maxRecDepth 100000 in
theorem pack_Reader_Int.f_eq (k : Nat) (o0 : Ty.D tReader112) : pack_Reader_Int.f k o0 =
  pack_Reader_Int.l3 k k 0 0 o0 := by kernel_rfl
set_option maxRecDepth 100000 in
theorem pack_Reader_Int.l3_eq (k : Nat) (n3 : Nat) (x3 : Ty.D (.int .i64)) (x4 : Ty.D (.int .i64)) (m1000000 : Ty.D tReader112) : pack_Reader_Int.l3 k (n3 + 1) x3 x4 m1000000 =
  bnd (pack_Reader_fine.f k m1000000) fun r0 =>
  br r0.1
    (br (ieq x4 8)
      (bnd (pack_Reader_Fail.f k 6 r0.2) fun r1 =>
      pack_Reader_Int.l3 k n3 x3 (iadd .i64 x4 1) r1.2)
      (br (ile (ilen r0.2.1) x4)
        (bnd (pack_Reader_Fail.f k 4 r0.2) fun r2 =>
        pack_Reader_Int.l3 k n3 x3 (iadd .i64 x4 1) r2.2)
        (br (inL x4 r0.2.1)
          (br (ilt (imul .i64 7 x4) 0)
            (none)
            (br (ile 128 (iwrap .i64 (byteAt r0.2.1 x4)))
              (pack_Reader_Int.l3 k n3 (ior .i64 x3 (ishl .i64 (iand .i64 (iwrap .i64 (byteAt r0.2.1 x4)) 127) (imul .i64 7 x4))) (iadd .i64 x4 1) r0.2)
              (br (ieq (iwrap .i64 (byteAt r0.2.1 x4)) 0)
                (br (ilt 0 x4)
                  (bnd (pack_Reader_Fail.f k 3 r0.2) fun r3 =>
                  pack_Reader_Int.l3 k n3 (ior .i64 x3 (ishl .i64 (iand .i64 (iwrap .i64 (byteAt r0.2.1 x4)) 127) (imul .i64 7 x4))) (iadd .i64 x4 1) r3.2)
                  (br (inS (iadd .i64 x4 1) (ilen r0.2.1) (ilen r0.2.1))
                    (some ((ior .i64 x3 (ishl .i64 (iand .i64 (iwrap .i64 (byteAt r0.2.1 x4)) 127) (imul .i64 7 x4))), ((piece r0.2.1 (iadd .i64 x4 1) (ilen r0.2.1)), r0.2.2)))
                    (none)))
                (br (inS (iadd .i64 x4 1) (ilen r0.2.1) (ilen r0.2.1))
                  (some ((ior .i64 x3 (ishl .i64 (iand .i64 (iwrap .i64 (byteAt r0.2.1 x4)) 127) (imul .i64 7 x4))), ((piece r0.2.1 (iadd .i64 x4 1) (ilen r0.2.1)), r0.2.2)))
                  (none)))))
          (none))))
    (some (0, r0.2)) := by kernel_rfl
noncomputable def pack_Reader_Int.e (k : Nat) : Entry := Sg.entry pack_Reader_Int.sg fun x => pack_Reader_Int.f k x
set_option maxRecDepth 100000 in
theorem pack_Reader_Int.ok (k : Nat) : CallOK Try.prog 127 (pack_Reader_Int.e k) :=
  fn_ok (c := pack_Reader_Int.cx k) (code := pack_Reader_Int.body) (TT.of tt_ok pp_ok) (fns_ok ⟨(pack_Reader_fine.ok k), (pack_Reader_Fail.ok k), trivial⟩) mixed Try.func127 (by kernel_rfl) (by kernel_rfl) (by kernel_rfl) (by kernel_rfl) (by kernel_rfl) (by kernel_rfl) (fun x => by kernel_rfl)
noncomputable def pack_Reader_Fault.body : Go.Code := Try.f49.body.getD .skip
noncomputable def pack_Reader_Fault.rs : List Go.ResultVar := Try.f49.results.toList
def pack_Reader_Fault.regs : List (Nat × RInfo) := [(0, ⟨[0], [1000000], [], [], 0, [], [], [], []⟩),
  (1, ⟨[0, 4], [1000000], [], [], 0, [], [], [], []⟩),
  (2, ⟨[2], [1000000], [], [], 0, [], [], [], []⟩),
  (3, ⟨[2], [1000000], [], [], 0, [], [], [], []⟩)]
noncomputable def pack_Reader_Fault.cx (k : Nat) : Cx := ⟨tt, pp, [], pack_Reader_Fault.regs, k⟩
@[reducible] def pack_Reader_Fault.sg : Sg := ⟨[.ref], [tReader112], .dat (.int .i64), [tReader112]⟩
noncomputable def pack_Reader_Fault.f (k : Nat) (o0 : Ty.D tReader112) : Option (Sg.Out pack_Reader_Fault.sg) := Sg.fn pack_Reader_Fault.sg (pack_Reader_Fault.cx k) pack_Reader_Fault.body pack_Reader_Fault.rs o0
set_option maxRecDepth 100000 in
theorem pack_Reader_Fault.f_eq (k : Nat) (o0 : Ty.D tReader112) : pack_Reader_Fault.f k o0 =
  some (o0.2, o0) := by kernel_rfl
noncomputable def pack_Reader_Fault.e (k : Nat) : Entry := Sg.entry pack_Reader_Fault.sg fun x => pack_Reader_Fault.f k x
set_option maxRecDepth 100000 in
theorem pack_Reader_Fault.ok (k : Nat) : CallOK Try.prog 49 (pack_Reader_Fault.e k) :=
  fn_ok (c := pack_Reader_Fault.cx k) (code := pack_Reader_Fault.body) (TT.of tt_ok pp_ok) (fns_ok trivial) mixed Try.func49 (by kernel_rfl) (by kernel_rfl) (by kernel_rfl) (by kernel_rfl) (by kernel_rfl) (by kernel_rfl) (fun x => by kernel_rfl)
noncomputable def vec_Read.body : Go.Code := Try.f92.body.getD .skip
noncomputable def vec_Read.rs : List Go.ResultVar := Try.f92.results.toList
def vec_Read.regs : List (Nat × RInfo) := [(0, ⟨[0, 2], [2, 1000000], [], [], 0, [], [], [], []⟩),
  (1, ⟨[0, 2, 3], [2, 3, 1000000], [], [], 0, [], [], [], []⟩),
  (2, ⟨[0, 2, 3, 5], [2, 3, 1000000], [], [], 0, [], [], [], []⟩),
  (3, ⟨[0, 2, 3, 5, 6], [2, 3, 1000000], [], [], 0, [0, 2, 3, 5], [2, 3, 1000000], [], []⟩),
  (4, ⟨[0, 2, 3, 4, 5], [2, 3, 1000000], [], [], 0, [], [], [], []⟩),
  (5, ⟨[0, 2, 3, 5], [2, 3, 1000000], [], [], 0, [], [], [], []⟩),
  (6, ⟨[0, 2, 3, 5], [2, 3, 1000000], [], [], 0, [], [], [], []⟩),
  (7, ⟨[0, 2, 3, 20], [2, 3, 1000000], [], [], 0, [], [], [], []⟩),
  (8, ⟨[0, 2, 3], [2, 3, 1000000], [], [], 0, [], [], [], []⟩),
  (9, ⟨[2, 3, 25], [2, 3, 1000000], [], [], 0, [], [], [], []⟩),
  (10, ⟨[2], [2, 1000000], [], [], 0, [], [], [], []⟩),
  (11, ⟨[2], [2, 1000000], [], [], 0, [], [], [], []⟩)]
noncomputable def vec_Read.cx (k : Nat) : Cx := ⟨tt, pp, [(127, (pack_Reader_Int.e k)),
  (49, (pack_Reader_Fault.e k)),
  (73, (vec_Right.e k)),
  (93, (pack_Reader_Fail.e k))], vec_Read.regs, k⟩
@[reducible] def vec_Read.sg : Sg := ⟨[.ref], [tReader112], .dat tVec, [tReader112]⟩
noncomputable def vec_Read.f (k : Nat) (o0 : Ty.D tReader112) : Option (Sg.Out vec_Read.sg) := Sg.fn vec_Read.sg (vec_Read.cx k) vec_Read.body vec_Read.rs o0
noncomputable def vec_Read.l3 (k : Nat) (n : Nat) (x5 : Ty.D (.int .i64)) (m2 : Ty.D tVec) (m3 : Ty.D tVec) (m1000000 : Ty.D tReader112) : Option (Sg.Out vec_Read.sg) := loopAt (vec_Read.cx k) vec_Read.body [1, 1, 0, 1, 0] 3 [0, 2, 3, 5] [2, 3, 1000000] [] (Sg.K vec_Read.sg (vec_Read.cx k) vec_Read.rs) n ⟨[(0, .ref 1000000 []), (2, .ref 2 []), (3, .ref 3 []), (5, .dat (.int .i64) x5)], [(2, .dat tVec m2), (3, .dat tVec m3), (1000000, .dat tReader112 m1000000)]⟩
set_option maxRecDepth 100000 in
theorem vec_Read.f_eq (k : Nat) (o0 : Ty.D tReader112) : vec_Read.f k o0 =
  vec_Read.l3 k k 0 (zarr 16 0) (zarr 16 0) o0 := by kernel_rfl
set_option maxRecDepth 100000 in
theorem vec_Read.l3_eq (k : Nat) (n3 : Nat) (x5 : Ty.D (.int .i64)) (m2 : Ty.D tVec) (m3 : Ty.D tVec) (m1000000 : Ty.D tReader112) : vec_Read.l3 k (n3 + 1) x5 m2 m3 m1000000 =
  br (ilt x5 16)
    (bnd (pack_Reader_Int.f k m1000000) fun r0 =>
    br (inB x5 16)
      (vec_Read.l3 k n3 (iadd .i64 x5 1) m2 (upd m3 (natOf x5) r0.1) r0.2)
      (none))
    (bnd (pack_Reader_Fault.f k m1000000) fun r1 =>
    br (ieq r1.1 0)
      (bnd (vec_Right.f k m3) fun r2 =>
      br (bnot r2)
        (bnd (pack_Reader_Fail.f k 2 r1.2) fun r3 =>
        bnd (pack_Reader_Fault.f k r3.2) fun r4 =>
        br (bnot (ieq r4.1 0))
          (some ((zarr 16 0), r4.2))
          (some (m3, r4.2)))
        (bnd (pack_Reader_Fault.f k r1.2) fun r5 =>
        br (bnot (ieq r5.1 0))
          (some ((zarr 16 0), r5.2))
          (some (m3, r5.2))))
      (bnd (pack_Reader_Fault.f k r1.2) fun r6 =>
      br (bnot (ieq r6.1 0))
        (some ((zarr 16 0), r6.2))
        (some (m3, r6.2)))) := by kernel_rfl
noncomputable def vec_Read.e (k : Nat) : Entry := Sg.entry vec_Read.sg fun x => vec_Read.f k x
set_option maxRecDepth 100000 in
theorem vec_Read.ok (k : Nat) : CallOK Try.prog 92 (vec_Read.e k) :=
  fn_ok (c := vec_Read.cx k) (code := vec_Read.body) (TT.of tt_ok pp_ok) (fns_ok ⟨(pack_Reader_Int.ok k), (pack_Reader_Fault.ok k), (vec_Right.ok k), (pack_Reader_Fail.ok k), trivial⟩) mixed Try.func92 (by kernel_rfl) (by kernel_rfl) (by kernel_rfl) (by kernel_rfl) (by kernel_rfl) (by kernel_rfl) (fun x => by kernel_rfl)
noncomputable def pack_Reader_Many.body : Go.Code := Try.f96.body.getD .skip
noncomputable def pack_Reader_Many.rs : List Go.ResultVar := Try.f96.results.toList
def pack_Reader_Many.regs : List (Nat × RInfo) := [(0, ⟨[0, 1], [1000000], [], [], 0, [], [], [], []⟩),
  (1, ⟨[0, 1, 5], [7, 1000000], [], [], 0, [], [], [], []⟩),
  (2, ⟨[0, 1, 5, 8], [7, 1000000], [], [], 0, [], [], [], []⟩),
  (3, ⟨[4], [7, 1000000], [], [], 0, [], [], [], []⟩),
  (4, ⟨[0, 5, 12], [7, 1000000], [], [], 0, [], [], [], []⟩),
  (5, ⟨[], [1000000], [], [], 0, [], [], [], []⟩),
  (6, ⟨[4], [7, 1000000], [], [], 0, [], [], [], []⟩),
  (7, ⟨[0, 5, 18], [7, 1000000], [], [], 0, [], [], [], []⟩),
  (8, ⟨[], [1000000], [], [], 0, [], [], [], []⟩),
  (9, ⟨[4], [7, 1000000], [], [], 0, [], [], [], []⟩),
  (10, ⟨[4], [7, 1000000], [], [], 0, [], [], [], []⟩)]
noncomputable def pack_Reader_Many.cx (k : Nat) : Cx := ⟨tt, pp, [(127, (pack_Reader_Int.e k)),
  (95, (pack_Reader_fine.e k)),
  (93, (pack_Reader_Fail.e k))], pack_Reader_Many.regs, k⟩
@[reducible] def pack_Reader_Many.sg : Sg := ⟨[.ref, .dat (.int .i64)], [tReader112], .dat (.int .i64), [tReader112]⟩
noncomputable def pack_Reader_Many.f (k : Nat) (a1 : Ty.D (.int .i64)) (o0 : Ty.D tReader112) : Option (Sg.Out pack_Reader_Many.sg) := Sg.fn pack_Reader_Many.sg (pack_Reader_Many.cx k) pack_Reader_Many.body pack_Reader_Many.rs (a1, o0)
set_option maxRecDepth 100000 in
theorem pack_Reader_Many.f_eq (k : Nat) (a1 : Ty.D (.int .i64)) (o0 : Ty.D tReader112) : pack_Reader_Many.f k a1 o0 =
  bnd (pack_Reader_Int.f k o0) fun r0 =>
  bnd (pack_Reader_fine.f k r0.2) fun r1 =>
  br (bnot r1.1)
    (some (0, r1.2))
    (br (ilt a1 r0.1)
      (bnd (pack_Reader_Fail.f k 6 r1.2) fun r2 =>
      some (0, r2.2))
      (br (ilt (ilen r1.2.1) r0.1)
        (bnd (pack_Reader_Fail.f k 4 r1.2) fun r3 =>
        some (0, r3.2))
        (some (r0.1, r1.2)))) := by kernel_rfl
noncomputable def pack_Reader_Many.e (k : Nat) : Entry := Sg.entry pack_Reader_Many.sg fun x => pack_Reader_Many.f k x.1 x.2
set_option maxRecDepth 100000 in
theorem pack_Reader_Many.ok (k : Nat) : CallOK Try.prog 96 (pack_Reader_Many.e k) :=
  fn_ok (c := pack_Reader_Many.cx k) (code := pack_Reader_Many.body) (TT.of tt_ok pp_ok) (fns_ok ⟨(pack_Reader_Int.ok k), (pack_Reader_fine.ok k), (pack_Reader_Fail.ok k), trivial⟩) mixed Try.func96 (by kernel_rfl) (by kernel_rfl) (by kernel_rfl) (by kernel_rfl) (by kernel_rfl) (by kernel_rfl) (fun x => by kernel_rfl)
noncomputable def dot_Read.body : Go.Code := Try.f97.body.getD .skip
noncomputable def dot_Read.rs : List Go.ResultVar := Try.f97.results.toList
def dot_Read.regs : List (Nat × RInfo) := [(0, ⟨[0, 2], [2, 1000000], [], [], 0, [], [], [], []⟩),
  (1, ⟨[0, 2, 3], [2, 3, 1000000], [], [], 0, [], [], [], []⟩),
  (2, ⟨[0, 2, 3, 16], [2, 3, 1000000], [], [], 0, [], [], [], []⟩),
  (3, ⟨[0, 2, 3], [2, 3, 1000000], [], [], 0, [], [], [], []⟩),
  (4, ⟨[2, 3, 21], [2, 3, 1000000], [], [], 0, [], [], [], []⟩),
  (5, ⟨[2], [2, 1000000], [], [], 0, [], [], [], []⟩),
  (6, ⟨[2], [2, 1000000], [], [], 0, [], [], [], []⟩)]
noncomputable def dot_Read.cx (k : Nat) : Cx := ⟨tt, pp, [(127, (pack_Reader_Int.e k)),
  (49, (pack_Reader_Fault.e k)),
  (64, (dot_Right.e k)),
  (93, (pack_Reader_Fail.e k))], dot_Read.regs, k⟩
@[reducible] def dot_Read.sg : Sg := ⟨[.ref], [tReader112], .dat tDot, [tReader112]⟩
noncomputable def dot_Read.f (k : Nat) (o0 : Ty.D tReader112) : Option (Sg.Out dot_Read.sg) := Sg.fn dot_Read.sg (dot_Read.cx k) dot_Read.body dot_Read.rs o0
set_option maxRecDepth 100000 in
theorem dot_Read.f_eq (k : Nat) (o0 : Ty.D tReader112) : dot_Read.f k o0 =
  bnd (pack_Reader_Int.f k o0) fun r0 =>
  bnd (pack_Reader_Int.f k r0.2) fun r1 =>
  bnd (pack_Reader_Fault.f k r1.2) fun r2 =>
  br (ieq r2.1 0)
    (bnd (dot_Right.f k (r0.1, r1.1)) fun r3 =>
    br (bnot r3)
      (bnd (pack_Reader_Fail.f k 2 r2.2) fun r4 =>
      bnd (pack_Reader_Fault.f k r4.2) fun r5 =>
      br (bnot (ieq r5.1 0))
        (some ((0, 0), r5.2))
        (some ((r0.1, r1.1), r5.2)))
      (bnd (pack_Reader_Fault.f k r2.2) fun r6 =>
      br (bnot (ieq r6.1 0))
        (some ((0, 0), r6.2))
        (some ((r0.1, r1.1), r6.2))))
    (bnd (pack_Reader_Fault.f k r2.2) fun r7 =>
    br (bnot (ieq r7.1 0))
      (some ((0, 0), r7.2))
      (some ((r0.1, r1.1), r7.2))) := by kernel_rfl
noncomputable def dot_Read.e (k : Nat) : Entry := Sg.entry dot_Read.sg fun x => dot_Read.f k x
set_option maxRecDepth 100000 in
theorem dot_Read.ok (k : Nat) : CallOK Try.prog 97 (dot_Read.e k) :=
  fn_ok (c := dot_Read.cx k) (code := dot_Read.body) (TT.of tt_ok pp_ok) (fns_ok ⟨(pack_Reader_Int.ok k), (pack_Reader_Fault.ok k), (dot_Right.ok k), (pack_Reader_Fail.ok k), trivial⟩) mixed Try.func97 (by kernel_rfl) (by kernel_rfl) (by kernel_rfl) (by kernel_rfl) (by kernel_rfl) (by kernel_rfl) (fun x => by kernel_rfl)
noncomputable def dots_ReadList.body : Go.Code := Try.f53.body.getD .skip
noncomputable def dots_ReadList.rs : List Go.ResultVar := Try.f53.results.toList
def dots_ReadList.regs : List (Nat × RInfo) := [(0, ⟨[0, 1], [1000000], [], [], 0, [], [], [], []⟩),
  (1, ⟨[0, 1, 5], [1000000], [], [], 0, [], [], [], []⟩),
  (2, ⟨[0, 5, 8, 9], [8, 1000000], [], [], 0, [], [], [], []⟩),
  (3, ⟨[0, 5, 8, 9, 10], [8, 1000000], [], [], 0, [0, 5, 8, 9], [8, 1000000], [], []⟩),
  (4, ⟨[0, 5, 8, 9], [8, 1000000], [0, 4, 5], [], 0, [], [], [], []⟩),
  (5, ⟨[0, 5, 8, 9], [8, 1000000], [], [], 0, [], [], [], []⟩),
  (6, ⟨[5, 19], [1000000], [], [], 0, [], [], [], []⟩),
  (7, ⟨[4], [1000000], [], [], 0, [], [], [], []⟩),
  (8, ⟨[4], [1000000], [0, 1], [], 0, [], [], [], []⟩)]
noncomputable def dots_ReadList.cx (k : Nat) : Cx := ⟨tt, pp, [(96, (pack_Reader_Many.e k)),
  (97, (dot_Read.e k)),
  (49, (pack_Reader_Fault.e k))], dots_ReadList.regs, k⟩
@[reducible] def dots_ReadList.sg : Sg := ⟨[.ref, .dat (.int .i64)], [tReader112], .own tDot, [tReader112]⟩
noncomputable def dots_ReadList.f (k : Nat) (a1 : Ty.D (.int .i64)) (o0 : Ty.D tReader112) : Option (Sg.Out dots_ReadList.sg) := Sg.fn dots_ReadList.sg (dots_ReadList.cx k) dots_ReadList.body dots_ReadList.rs (a1, o0)
noncomputable def dots_ReadList.l3 (k : Nat) (n : Nat) (x5 : List (Ty.D tDot)) (x8 : Ty.D (.int .i64)) (x9 : Ty.D (.int .i64)) (m1000000 : Ty.D tReader112) : Option (Sg.Out dots_ReadList.sg) := loopAt (dots_ReadList.cx k) dots_ReadList.body [1, 1, 0, 1, 0] 3 [0, 5, 8, 9] [8, 1000000] [] (Sg.K dots_ReadList.sg (dots_ReadList.cx k) dots_ReadList.rs) n ⟨[(0, .ref 1000000 []), (5, .own tDot x5), (8, .dat (.int .i64) x8), (9, .dat (.int .i64) x9)], [(1000000, .dat tReader112 m1000000)]⟩
set_option maxRecDepth 100000 in
theorem dots_ReadList.f_eq (k : Nat) (a1 : Ty.D (.int .i64)) (o0 : Ty.D tReader112) : dots_ReadList.f k a1 o0 =
  bnd (pack_Reader_Many.f k a1 o0) fun r0 =>
  dots_ReadList.l3 k k [] r0.1 0 r0.2 := by kernel_rfl
set_option maxRecDepth 100000 in
theorem dots_ReadList.l3_eq (k : Nat) (n3 : Nat) (x5 : List (Ty.D tDot)) (x8 : Ty.D (.int .i64)) (x9 : Ty.D (.int .i64)) (m1000000 : Ty.D tReader112) : dots_ReadList.l3 k (n3 + 1) x5 x8 x9 m1000000 =
  br (ilt x9 x8)
    (bnd (dot_Read.f k m1000000) fun r0 =>
    br (room x5 (r0.1 :: []))
      (dots_ReadList.l3 k n3 (app x5 (r0.1 :: [])) x8 (iadd .i64 x9 1) r0.2)
      (none))
    (bnd (pack_Reader_Fault.f k m1000000) fun r1 =>
    br (bnot (ieq r1.1 0))
      (some ([], r1.2))
      (some (x5, r1.2))) := by kernel_rfl
noncomputable def dots_ReadList.e (k : Nat) : Entry := Sg.entry dots_ReadList.sg fun x => dots_ReadList.f k x.1 x.2
set_option maxRecDepth 100000 in
theorem dots_ReadList.ok (k : Nat) : CallOK Try.prog 53 (dots_ReadList.e k) :=
  fn_ok (c := dots_ReadList.cx k) (code := dots_ReadList.body) (TT.of tt_ok pp_ok) (fns_ok ⟨(pack_Reader_Many.ok k), (dot_Read.ok k), (pack_Reader_Fault.ok k), trivial⟩) mixed Try.func53 (by kernel_rfl) (by kernel_rfl) (by kernel_rfl) (by kernel_rfl) (by kernel_rfl) (by kernel_rfl) (fun x => by kernel_rfl)
noncomputable def dots_Read.body : Go.Code := Try.f47.body.getD .skip
noncomputable def dots_Read.rs : List Go.ResultVar := Try.f47.results.toList
def dots_Read.regs : List (Nat × RInfo) := [(0, ⟨[0, 2], [2, 1000000], [], [], 0, [], [], [], []⟩),
  (1, ⟨[0, 2, 3], [2, 3, 1000000], [6], [], 0, [], [], [], []⟩),
  (2, ⟨[0, 2, 3, 16], [2, 3, 1000000], [], [], 0, [], [], [], []⟩),
  (3, ⟨[0, 2, 3], [2, 3, 1000000], [], [], 0, [], [], [], []⟩),
  (4, ⟨[2, 3, 21], [2, 3, 1000000], [], [], 0, [], [], [], []⟩),
  (5, ⟨[2], [2, 1000000], [1], [], 0, [], [], [], []⟩),
  (6, ⟨[2], [2, 1000000], [1], [], 0, [], [], [], []⟩)]
noncomputable def dots_Read.cx (k : Nat) : Cx := ⟨tt, pp, [(92, (vec_Read.e k)),
  (53, (dots_ReadList.e k)),
  (49, (pack_Reader_Fault.e k)),
  (24, (dots_Right.e k)),
  (93, (pack_Reader_Fail.e k))], dots_Read.regs, k⟩
@[reducible] def dots_Read.sg : Sg := ⟨[.ref], [tReader112], .dat tDots, [tReader112]⟩
noncomputable def dots_Read.f (k : Nat) (o0 : Ty.D tReader112) : Option (Sg.Out dots_Read.sg) := Sg.fn dots_Read.sg (dots_Read.cx k) dots_Read.body dots_Read.rs o0
set_option maxRecDepth 100000 in
theorem dots_Read.f_eq (k : Nat) (o0 : Ty.D tReader112) : dots_Read.f k o0 =
  bnd (vec_Read.f k o0) fun r0 =>
  bnd (dots_ReadList.f k 4096 r0.2) fun r1 =>
  bnd (pack_Reader_Fault.f k r1.2) fun r2 =>
  br (ieq r2.1 0)
    (bnd (dots_Right.f k (r0.1, r1.1)) fun r3 =>
    br (bnot r3)
      (bnd (pack_Reader_Fail.f k 2 r2.2) fun r4 =>
      bnd (pack_Reader_Fault.f k r4.2) fun r5 =>
      br (bnot (ieq r5.1 0))
        (some (((zarr 16 0), []), r5.2))
        (some ((r0.1, r1.1), r5.2)))
      (bnd (pack_Reader_Fault.f k r2.2) fun r6 =>
      br (bnot (ieq r6.1 0))
        (some (((zarr 16 0), []), r6.2))
        (some ((r0.1, r1.1), r6.2))))
    (bnd (pack_Reader_Fault.f k r2.2) fun r7 =>
    br (bnot (ieq r7.1 0))
      (some (((zarr 16 0), []), r7.2))
      (some ((r0.1, r1.1), r7.2))) := by kernel_rfl
noncomputable def dots_Read.e (k : Nat) : Entry := Sg.entry dots_Read.sg fun x => dots_Read.f k x
set_option maxRecDepth 100000 in
theorem dots_Read.ok (k : Nat) : CallOK Try.prog 47 (dots_Read.e k) :=
  fn_ok (c := dots_Read.cx k) (code := dots_Read.body) (TT.of tt_ok pp_ok) (fns_ok ⟨(vec_Read.ok k), (dots_ReadList.ok k), (pack_Reader_Fault.ok k), (dots_Right.ok k), (pack_Reader_Fail.ok k), trivial⟩) mixed Try.func47 (by kernel_rfl) (by kernel_rfl) (by kernel_rfl) (by kernel_rfl) (by kernel_rfl) (by kernel_rfl) (fun x => by kernel_rfl)
noncomputable def ref02_Reader_Int.body : Go.Code := Try.f128.body.getD .skip
noncomputable def ref02_Reader_Int.rs : List Go.ResultVar := Try.f128.results.toList
def ref02_Reader_Int.regs : List (Nat × RInfo) := [(0, ⟨[0], [1000000], [], [], 0, [], [], [], []⟩),
  (1, ⟨[0, 11], [1000000], [], [], 0, [], [], [], []⟩),
  (2, ⟨[2], [1000000], [], [], 0, [], [], [], []⟩),
  (3, ⟨[0, 3, 4], [1000000], [], [], 0, [], [], [], []⟩),
  (4, ⟨[0, 3, 4, 5], [1000000], [], [], 0, [], [], [], []⟩),
  (5, ⟨[0, 3, 4, 5, 13], [1000000], [], [], 0, [0, 3, 4, 5], [1000000], [], []⟩),
  (7, ⟨[0, 3, 4, 5, 27], [1000000], [], [], 12, [], [], [], []⟩),
  (8, ⟨[], [1000000], [], [], 0, [], [], [], []⟩),
  (9, ⟨[2], [1000000], [], [], 0, [], [], [], []⟩),
  (10, ⟨[0, 3, 4, 5, 6], [1000000], [], [], 12, [], [], [], []⟩),
  (11, ⟨[0, 3, 4, 5, 6, 44], [1000000], [], [], 0, [], [], [], []⟩),
  (12, ⟨[0, 3, 4, 5, 6, 50], [1000000], [], [], 0, [], [], [], []⟩),
  (13, ⟨[], [1000000], [], [], 0, [], [], [], []⟩),
  (14, ⟨[2], [1000000], [], [], 0, [], [], [], []⟩),
  (15, ⟨[3, 4, 6], [1000000], [], [], 0, [], [], [], []⟩),
  (16, ⟨[2], [1000000], [], [], 0, [], [], [], []⟩),
  (17, ⟨[0, 3, 4, 5], [1000000], [], [], 0, [], [], [], []⟩),
  (18, ⟨[0, 3, 4, 5], [1000000], [], [], 0, [], [], [], []⟩),
  (6, ⟨[0, 3, 4, 5], [1000000], [], [], 0, [], [], [], []⟩),
  (19, ⟨[], [1000000], [], [], 0, [], [], [], []⟩),
  (20, ⟨[2], [1000000], [], [], 0, [], [], [], []⟩)]
noncomputable def ref02_Reader_Int.cx (k : Nat) : Cx := ⟨tt, pp, [], ref02_Reader_Int.regs, k⟩
@[reducible] def ref02_Reader_Int.sg : Sg := ⟨[.ref], [tReader], .dat (.int .i64), [tReader]⟩
noncomputable def ref02_Reader_Int.f (k : Nat) (o0 : Ty.D tReader) : Option (Sg.Out ref02_Reader_Int.sg) := Sg.fn ref02_Reader_Int.sg (ref02_Reader_Int.cx k) ref02_Reader_Int.body ref02_Reader_Int.rs o0
noncomputable def ref02_Reader_Int.l5 (k : Nat) (n : Nat) (x3 : Ty.D (.int .i64)) (x4 : Ty.D (.int .i64)) (x5 : Ty.D (.int .i64)) (m1000000 : Ty.D tReader) : Option (Sg.Out ref02_Reader_Int.sg) := loopAt (ref02_Reader_Int.cx k) ref02_Reader_Int.body [1, 1, 1, 0, 1, 0] 5 [0, 3, 4, 5] [1000000] [] (Sg.K ref02_Reader_Int.sg (ref02_Reader_Int.cx k) ref02_Reader_Int.rs) n ⟨[(0, .ref 1000000 []), (3, .dat (.int .i64) x3), (4, .dat (.int .i64) x4), (5, .dat (.int .i64) x5)], [(1000000, .dat tReader m1000000)]⟩
set_option maxRecDepth 100000 in
theorem ref02_Reader_Int.f_eq (k : Nat) (o0 : Ty.D tReader) : ref02_Reader_Int.f k o0 =
  br (bnot (ieq o0.2.2 0))
    (some (0, o0))
    (ref02_Reader_Int.l5 k k 0 1 0 o0) := by kernel_rfl
set_option maxRecDepth 100000 in
theorem ref02_Reader_Int.l5_eq (k : Nat) (n5 : Nat) (x3 : Ty.D (.int .i64)) (x4 : Ty.D (.int .i64)) (x5 : Ty.D (.int .i64)) (m1000000 : Ty.D tReader) : ref02_Reader_Int.l5 k (n5 + 1) x3 x4 x5 m1000000 =
  br (ilt x5 8)
    (br (ile (ilen m1000000.1) (iadd .i64 m1000000.2.1 x5))
      (some (0, (m1000000.1, (m1000000.2.1, 4))))
      (br (inL (iadd .i64 m1000000.2.1 x5) m1000000.1)
        (br (ilt (iwrap .i64 (byteAt m1000000.1 (iadd .i64 m1000000.2.1 x5))) 128)
          (br (ieq (iwrap .i64 (byteAt m1000000.1 (iadd .i64 m1000000.2.1 x5))) 0)
            (br (ilt 0 x5)
              (some (0, (m1000000.1, (m1000000.2.1, 3))))
              (some ((iadd .i64 x3 (imul .i64 (iwrap .i64 (byteAt m1000000.1 (iadd .i64 m1000000.2.1 x5))) x4)), (m1000000.1, ((iadd .i64 (iadd .i64 m1000000.2.1 x5) 1), m1000000.2.2)))))
            (some ((iadd .i64 x3 (imul .i64 (iwrap .i64 (byteAt m1000000.1 (iadd .i64 m1000000.2.1 x5))) x4)), (m1000000.1, ((iadd .i64 (iadd .i64 m1000000.2.1 x5) 1), m1000000.2.2)))))
          (ref02_Reader_Int.l5 k n5 (iadd .i64 x3 (imul .i64 (isub .i64 (iwrap .i64 (byteAt m1000000.1 (iadd .i64 m1000000.2.1 x5))) 128) x4)) (imul .i64 x4 128) (iadd .i64 x5 1) m1000000))
        (none)))
    (some (0, (m1000000.1, (m1000000.2.1, 6)))) := by kernel_rfl
noncomputable def ref02_Reader_Int.e (k : Nat) : Entry := Sg.entry ref02_Reader_Int.sg fun x => ref02_Reader_Int.f k x
set_option maxRecDepth 100000 in
theorem ref02_Reader_Int.ok (k : Nat) : CallOK Try.prog 128 (ref02_Reader_Int.e k) :=
  fn_ok (c := ref02_Reader_Int.cx k) (code := ref02_Reader_Int.body) (TT.of tt_ok pp_ok) (fns_ok trivial) mixed Try.func128 (by kernel_rfl) (by kernel_rfl) (by kernel_rfl) (by kernel_rfl) (by kernel_rfl) (by kernel_rfl) (fun x => by kernel_rfl)
noncomputable def ref05_Read.body : Go.Code := Try.f94.body.getD .skip
noncomputable def ref05_Read.rs : List Go.ResultVar := Try.f94.results.toList
def ref05_Read.regs : List (Nat × RInfo) := [(0, ⟨[0, 2], [2, 1000000], [], [], 0, [], [], [], []⟩),
  (1, ⟨[0, 2, 3], [2, 3, 1000000], [], [], 0, [], [], [], []⟩),
  (2, ⟨[0, 2, 3, 4], [2, 3, 1000000], [], [], 0, [], [], [], []⟩),
  (3, ⟨[0, 2, 3, 4, 7], [2, 3, 1000000], [], [], 0, [0, 2, 3, 4], [2, 3, 1000000], [], []⟩),
  (5, ⟨[0, 2, 3, 4], [2, 3, 1000000], [], [], 0, [], [], [], []⟩),
  (4, ⟨[0, 2, 3, 4], [2, 3, 1000000], [], [], 0, [], [], [], []⟩),
  (6, ⟨[0, 2, 3, 23], [2, 3, 1000000], [], [], 0, [], [], [], []⟩),
  (7, ⟨[0, 2, 3], [2, 3, 1000000], [], [], 0, [], [], [], []⟩),
  (8, ⟨[2, 3, 31], [2, 3, 1000000], [], [], 0, [], [], [], []⟩),
  (9, ⟨[2], [2, 1000000], [], [], 0, [], [], [], []⟩),
  (10, ⟨[2], [2, 1000000], [], [], 0, [], [], [], []⟩)]
noncomputable def ref05_Read.cx (k : Nat) : Cx := ⟨tt, pp, [(128, (ref02_Reader_Int.e k)),
  (69, (ref05_Right.e k))], ref05_Read.regs, k⟩
@[reducible] def ref05_Read.sg : Sg := ⟨[.ref], [tReader], .dat tVec, [tReader]⟩
noncomputable def ref05_Read.f (k : Nat) (o0 : Ty.D tReader) : Option (Sg.Out ref05_Read.sg) := Sg.fn ref05_Read.sg (ref05_Read.cx k) ref05_Read.body ref05_Read.rs o0
noncomputable def ref05_Read.l3 (k : Nat) (n : Nat) (x4 : Ty.D (.int .i64)) (m2 : Ty.D tVec) (m3 : Ty.D tVec) (m1000000 : Ty.D tReader) : Option (Sg.Out ref05_Read.sg) := loopAt (ref05_Read.cx k) ref05_Read.body [1, 1, 0, 1, 0] 3 [0, 2, 3, 4] [2, 3, 1000000] [] (Sg.K ref05_Read.sg (ref05_Read.cx k) ref05_Read.rs) n ⟨[(0, .ref 1000000 []), (2, .ref 2 []), (3, .ref 3 []), (4, .dat (.int .i64) x4)], [(2, .dat tVec m2), (3, .dat tVec m3), (1000000, .dat tReader m1000000)]⟩
set_option maxRecDepth 100000 in
theorem ref05_Read.f_eq (k : Nat) (o0 : Ty.D tReader) : ref05_Read.f k o0 =
  ref05_Read.l3 k k 0 (zarr 16 0) (zarr 16 0) o0 := by kernel_rfl
set_option maxRecDepth 100000 in
theorem ref05_Read.l3_eq (k : Nat) (n3 : Nat) (x4 : Ty.D (.int .i64)) (m2 : Ty.D tVec) (m3 : Ty.D tVec) (m1000000 : Ty.D tReader) : ref05_Read.l3 k (n3 + 1) x4 m2 m3 m1000000 =
  br (ilt x4 16)
    (bnd (ref02_Reader_Int.f k m1000000) fun r0 =>
    br (inB x4 16)
      (ref05_Read.l3 k n3 (iadd .i64 x4 1) m2 (upd m3 (natOf x4) r0.1) r0.2)
      (none))
    (br (ieq m1000000.2.2 0)
      (bnd (ref05_Right.f k m3) fun r1 =>
      br (bnot r1)
        (some ((zarr 16 0), (m1000000.1, (m1000000.2.1, 2))))
        (br (bnot (ieq m1000000.2.2 0))
          (some ((zarr 16 0), m1000000))
          (some (m3, m1000000))))
      (br (bnot (ieq m1000000.2.2 0))
        (some ((zarr 16 0), m1000000))
        (some (m3, m1000000)))) := by kernel_rfl
noncomputable def ref05_Read.e (k : Nat) : Entry := Sg.entry ref05_Read.sg fun x => ref05_Read.f k x
set_option maxRecDepth 100000 in
theorem ref05_Read.ok (k : Nat) : CallOK Try.prog 94 (ref05_Read.e k) :=
  fn_ok (c := ref05_Read.cx k) (code := ref05_Read.body) (TT.of tt_ok pp_ok) (fns_ok ⟨(ref02_Reader_Int.ok k), (ref05_Right.ok k), trivial⟩) mixed Try.func94 (by kernel_rfl) (by kernel_rfl) (by kernel_rfl) (by kernel_rfl) (by kernel_rfl) (by kernel_rfl) (fun x => by kernel_rfl)
noncomputable def ref02_Reader_Many.body : Go.Code := Try.f98.body.getD .skip
noncomputable def ref02_Reader_Many.rs : List Go.ResultVar := Try.f98.results.toList
def ref02_Reader_Many.regs : List (Nat × RInfo) := [(0, ⟨[0, 1], [1000000], [], [], 0, [], [], [], []⟩),
  (1, ⟨[0, 1, 5], [7, 1000000], [], [], 0, [], [], [], []⟩),
  (2, ⟨[0, 5, 17], [7, 1000000], [], [], 0, [], [], [], []⟩),
  (3, ⟨[0, 5], [7, 1000000], [], [], 0, [], [], [], []⟩),
  (4, ⟨[0, 5, 39], [7, 1000000], [], [], 19, [], [], [], []⟩),
  (5, ⟨[0, 5], [7, 1000000], [], [], 0, [], [], [], []⟩),
  (6, ⟨[5, 47], [7, 1000000], [], [], 0, [], [], [], []⟩),
  (7, ⟨[4], [7, 1000000], [], [], 0, [], [], [], []⟩),
  (8, ⟨[4], [7, 1000000], [], [], 0, [], [], [], []⟩)]
noncomputable def ref02_Reader_Many.cx (k : Nat) : Cx := ⟨tt, pp, [(128, (ref02_Reader_Int.e k))], ref02_Reader_Many.regs, k⟩
@[reducible] def ref02_Reader_Many.sg : Sg := ⟨[.ref, .dat (.int .i64)], [tReader], .dat (.int .i64), [tReader]⟩
noncomputable def ref02_Reader_Many.f (k : Nat) (a1 : Ty.D (.int .i64)) (o0 : Ty.D tReader) : Option (Sg.Out ref02_Reader_Many.sg) := Sg.fn ref02_Reader_Many.sg (ref02_Reader_Many.cx k) ref02_Reader_Many.body ref02_Reader_Many.rs (a1, o0)
set_option maxRecDepth 100000 in
theorem ref02_Reader_Many.f_eq (k : Nat) (a1 : Ty.D (.int .i64)) (o0 : Ty.D tReader) : ref02_Reader_Many.f k a1 o0 =
  bnd (ref02_Reader_Int.f k o0) fun r0 =>
  br (ieq r0.2.2.2 0)
    (br (ilt a1 r0.1)
      (some (0, (r0.2.1, (r0.2.2.1, 6))))
      (br (ieq r0.2.2.2 0)
        (br (ilt (isub .i64 (ilen r0.2.1) r0.2.2.1) r0.1)
          (some (0, (r0.2.1, (r0.2.2.1, 4))))
          (br (bnot (ieq r0.2.2.2 0))
            (some (0, r0.2))
            (some (r0.1, r0.2))))
        (br (bnot (ieq r0.2.2.2 0))
          (some (0, r0.2))
          (some (r0.1, r0.2)))))
    (br (ieq r0.2.2.2 0)
      (br (ilt (isub .i64 (ilen r0.2.1) r0.2.2.1) r0.1)
        (some (0, (r0.2.1, (r0.2.2.1, 4))))
        (br (bnot (ieq r0.2.2.2 0))
          (some (0, r0.2))
          (some (r0.1, r0.2))))
      (br (bnot (ieq r0.2.2.2 0))
        (some (0, r0.2))
        (some (r0.1, r0.2)))) := by kernel_rfl
noncomputable def ref02_Reader_Many.e (k : Nat) : Entry := Sg.entry ref02_Reader_Many.sg fun x => ref02_Reader_Many.f k x.1 x.2
set_option maxRecDepth 100000 in
theorem ref02_Reader_Many.ok (k : Nat) : CallOK Try.prog 98 (ref02_Reader_Many.e k) :=
  fn_ok (c := ref02_Reader_Many.cx k) (code := ref02_Reader_Many.body) (TT.of tt_ok pp_ok) (fns_ok ⟨(ref02_Reader_Int.ok k), trivial⟩) mixed Try.func98 (by kernel_rfl) (by kernel_rfl) (by kernel_rfl) (by kernel_rfl) (by kernel_rfl) (by kernel_rfl) (fun x => by kernel_rfl)
noncomputable def ref04_Read.body : Go.Code := Try.f99.body.getD .skip
noncomputable def ref04_Read.rs : List Go.ResultVar := Try.f99.results.toList
def ref04_Read.regs : List (Nat × RInfo) := [(0, ⟨[0, 2], [2, 1000000], [], [], 0, [], [], [], []⟩),
  (1, ⟨[0, 2, 3], [2, 6, 1000000], [], [], 0, [], [], [], []⟩),
  (2, ⟨[0, 2, 4], [2, 4, 1000000], [], [], 0, [], [], [], []⟩),
  (3, ⟨[0, 2, 4, 20], [2, 4, 1000000], [], [], 0, [], [], [], []⟩),
  (4, ⟨[0, 2, 4], [2, 4, 1000000], [], [], 0, [], [], [], []⟩),
  (5, ⟨[2, 4, 28], [2, 4, 1000000], [], [], 0, [], [], [], []⟩),
  (6, ⟨[2], [2, 1000000], [], [], 0, [], [], [], []⟩),
  (7, ⟨[2], [2, 1000000], [], [], 0, [], [], [], []⟩)]
noncomputable def ref04_Read.cx (k : Nat) : Cx := ⟨tt, pp, [(128, (ref02_Reader_Int.e k)),
  (17, (ref04_Right.e k))], ref04_Read.regs, k⟩
@[reducible] def ref04_Read.sg : Sg := ⟨[.ref], [tReader], .dat tDot, [tReader]⟩
noncomputable def ref04_Read.f (k : Nat) (o0 : Ty.D tReader) : Option (Sg.Out ref04_Read.sg) := Sg.fn ref04_Read.sg (ref04_Read.cx k) ref04_Read.body ref04_Read.rs o0
set_option maxRecDepth 100000 in
theorem ref04_Read.f_eq (k : Nat) (o0 : Ty.D tReader) : ref04_Read.f k o0 =
  bnd (ref02_Reader_Int.f k o0) fun r0 =>
  bnd (ref02_Reader_Int.f k r0.2) fun r1 =>
  br (ieq r1.2.2.2 0)
    (bnd (ref04_Right.f k (r0.1, r1.1)) fun r2 =>
    br (bnot r2)
      (some ((0, 0), (r1.2.1, (r1.2.2.1, 2))))
      (br (bnot (ieq r1.2.2.2 0))
        (some ((0, 0), r1.2))
        (some ((r0.1, r1.1), r1.2))))
    (br (bnot (ieq r1.2.2.2 0))
      (some ((0, 0), r1.2))
      (some ((r0.1, r1.1), r1.2))) := by kernel_rfl
noncomputable def ref04_Read.e (k : Nat) : Entry := Sg.entry ref04_Read.sg fun x => ref04_Read.f k x
set_option maxRecDepth 100000 in
theorem ref04_Read.ok (k : Nat) : CallOK Try.prog 99 (ref04_Read.e k) :=
  fn_ok (c := ref04_Read.cx k) (code := ref04_Read.body) (TT.of tt_ok pp_ok) (fns_ok ⟨(ref02_Reader_Int.ok k), (ref04_Right.ok k), trivial⟩) mixed Try.func99 (by kernel_rfl) (by kernel_rfl) (by kernel_rfl) (by kernel_rfl) (by kernel_rfl) (by kernel_rfl) (fun x => by kernel_rfl)
noncomputable def ref06_ReadList.body : Go.Code := Try.f54.body.getD .skip
noncomputable def ref06_ReadList.rs : List Go.ResultVar := Try.f54.results.toList
def ref06_ReadList.regs : List (Nat × RInfo) := [(0, ⟨[0, 1], [1000000], [], [], 0, [], [], [], []⟩),
  (1, ⟨[0, 5], [10, 1000000], [], [], 0, [], [], [], []⟩),
  (2, ⟨[0, 5, 6], [10, 1000000], [], [], 0, [], [], [], []⟩),
  (3, ⟨[0, 5, 6, 7], [10, 1000000], [], [], 0, [], [], [], []⟩),
  (4, ⟨[0, 5, 6, 7, 13], [10, 1000000], [], [], 0, [0, 5, 6, 7], [10, 1000000], [], []⟩),
  (6, ⟨[0, 5, 6, 7], [10, 1000000], [0, 4, 5], [], 0, [], [], [], []⟩),
  (5, ⟨[0, 5, 6, 7], [10, 1000000], [], [], 0, [], [], [], []⟩),
  (7, ⟨[6, 25], [1000000], [], [], 0, [], [], [], []⟩),
  (8, ⟨[4], [1000000], [], [], 0, [], [], [], []⟩),
  (9, ⟨[4], [1000000], [0, 1], [], 0, [], [], [], []⟩)]
noncomputable def ref06_ReadList.cx (k : Nat) : Cx := ⟨tt, pp, [(98, (ref02_Reader_Many.e k)),
  (99, (ref04_Read.e k))], ref06_ReadList.regs, k⟩
@[reducible] def ref06_ReadList.sg : Sg := ⟨[.ref, .dat (.int .i64)], [tReader], .own tDot, [tReader]⟩
noncomputable def ref06_ReadList.f (k : Nat) (a1 : Ty.D (.int .i64)) (o0 : Ty.D tReader) : Option (Sg.Out ref06_ReadList.sg) := Sg.fn ref06_ReadList.sg (ref06_ReadList.cx k) ref06_ReadList.body ref06_ReadList.rs (a1, o0)
noncomputable def ref06_ReadList.l4 (k : Nat) (n : Nat) (x5 : Ty.D (.int .i64)) (x6 : List (Ty.D tDot)) (x7 : Ty.D (.int .i64)) (m1000000 : Ty.D tReader) : Option (Sg.Out ref06_ReadList.sg) := loopAt (ref06_ReadList.cx k) ref06_ReadList.body [1, 1, 1, 0, 1, 0] 4 [0, 5, 6, 7] [10, 1000000] [] (Sg.K ref06_ReadList.sg (ref06_ReadList.cx k) ref06_ReadList.rs) n ⟨[(0, .ref 1000000 []), (5, .dat (.int .i64) x5), (6, .own tDot x6), (7, .dat (.int .i64) x7)], [(1000000, .dat tReader m1000000)]⟩
set_option maxRecDepth 100000 in
theorem ref06_ReadList.f_eq (k : Nat) (a1 : Ty.D (.int .i64)) (o0 : Ty.D tReader) : ref06_ReadList.f k a1 o0 =
  bnd (ref02_Reader_Many.f k a1 o0) fun r0 =>
  ref06_ReadList.l4 k k r0.1 [] 0 r0.2 := by kernel_rfl
set_option maxRecDepth 100000 in
theorem ref06_ReadList.l4_eq (k : Nat) (n4 : Nat) (x5 : Ty.D (.int .i64)) (x6 : List (Ty.D tDot)) (x7 : Ty.D (.int .i64)) (m1000000 : Ty.D tReader) : ref06_ReadList.l4 k (n4 + 1) x5 x6 x7 m1000000 =
  br (ilt x7 x5)
    (bnd (ref04_Read.f k m1000000) fun r0 =>
    br (room x6 (r0.1 :: []))
      (ref06_ReadList.l4 k n4 x5 (app x6 (r0.1 :: [])) (iadd .i64 x7 1) r0.2)
      (none))
    (br (bnot (ieq m1000000.2.2 0))
      (some ([], m1000000))
      (some (x6, m1000000))) := by kernel_rfl
noncomputable def ref06_ReadList.e (k : Nat) : Entry := Sg.entry ref06_ReadList.sg fun x => ref06_ReadList.f k x.1 x.2
set_option maxRecDepth 100000 in
theorem ref06_ReadList.ok (k : Nat) : CallOK Try.prog 54 (ref06_ReadList.e k) :=
  fn_ok (c := ref06_ReadList.cx k) (code := ref06_ReadList.body) (TT.of tt_ok pp_ok) (fns_ok ⟨(ref02_Reader_Many.ok k), (ref04_Read.ok k), trivial⟩) mixed Try.func54 (by kernel_rfl) (by kernel_rfl) (by kernel_rfl) (by kernel_rfl) (by kernel_rfl) (by kernel_rfl) (fun x => by kernel_rfl)
noncomputable def ref06_Read.body : Go.Code := Try.f48.body.getD .skip
noncomputable def ref06_Read.rs : List Go.ResultVar := Try.f48.results.toList
def ref06_Read.regs : List (Nat × RInfo) := [(0, ⟨[0, 2], [2, 1000000], [], [], 0, [], [], [], []⟩),
  (1, ⟨[0, 2, 3], [2, 3, 1000000], [2], [], 0, [], [], [], []⟩),
  (2, ⟨[0, 2, 3], [2, 3, 1000000], [], [], 0, [], [], [], []⟩),
  (3, ⟨[0, 2, 3], [2, 3, 1000000], [3], [], 0, [], [], [], []⟩),
  (4, ⟨[0, 2, 3, 20], [2, 3, 1000000], [], [], 0, [], [], [], []⟩),
  (5, ⟨[0, 2, 3], [2, 3, 1000000], [], [], 0, [], [], [], []⟩),
  (6, ⟨[2, 3, 28], [2, 3, 1000000], [], [], 0, [], [], [], []⟩),
  (7, ⟨[2], [2, 1000000], [1], [], 0, [], [], [], []⟩),
  (8, ⟨[2], [2, 1000000], [1], [], 0, [], [], [], []⟩)]
noncomputable def ref06_Read.cx (k : Nat) : Cx := ⟨tt, pp, [(94, (ref05_Read.e k)),
  (54, (ref06_ReadList.e k)),
  (22, (ref06_Right.e k))], ref06_Read.regs, k⟩
@[reducible] def ref06_Read.sg : Sg := ⟨[.ref], [tReader], .dat tDots, [tReader]⟩
noncomputable def ref06_Read.f (k : Nat) (o0 : Ty.D tReader) : Option (Sg.Out ref06_Read.sg) := Sg.fn ref06_Read.sg (ref06_Read.cx k) ref06_Read.body ref06_Read.rs o0
set_option maxRecDepth 100000 in
theorem ref06_Read.f_eq (k : Nat) (o0 : Ty.D tReader) : ref06_Read.f k o0 =
  bnd (ref05_Read.f k o0) fun r0 =>
  bnd (ref06_ReadList.f k 4096 r0.2) fun r1 =>
  br (ieq r1.2.2.2 0)
    (bnd (ref06_Right.f k (r0.1, r1.1)) fun r2 =>
    br (bnot r2)
      (some (((zarr 16 0), []), (r1.2.1, (r1.2.2.1, 2))))
      (br (bnot (ieq r1.2.2.2 0))
        (some (((zarr 16 0), []), r1.2))
        (some ((r0.1, r1.1), r1.2))))
    (br (bnot (ieq r1.2.2.2 0))
      (some (((zarr 16 0), []), r1.2))
      (some ((r0.1, r1.1), r1.2))) := by kernel_rfl
noncomputable def ref06_Read.e (k : Nat) : Entry := Sg.entry ref06_Read.sg fun x => ref06_Read.f k x
set_option maxRecDepth 100000 in
theorem ref06_Read.ok (k : Nat) : CallOK Try.prog 48 (ref06_Read.e k) :=
  fn_ok (c := ref06_Read.cx k) (code := ref06_Read.body) (TT.of tt_ok pp_ok) (fns_ok ⟨(ref05_Read.ok k), (ref06_ReadList.ok k), (ref06_Right.ok k), trivial⟩) mixed Try.func48 (by kernel_rfl) (by kernel_rfl) (by kernel_rfl) (by kernel_rfl) (by kernel_rfl) (by kernel_rfl) (fun x => by kernel_rfl)
noncomputable def pack_Reader_Left.body : Go.Code := Try.f50.body.getD .skip
noncomputable def pack_Reader_Left.rs : List Go.ResultVar := Try.f50.results.toList
def pack_Reader_Left.regs : List (Nat × RInfo) := [(0, ⟨[0], [1000000], [], [], 0, [], [], [], []⟩),
  (1, ⟨[0, 5], [1000000], [], [], 0, [], [], [], []⟩),
  (2, ⟨[2], [1000000], [], [], 0, [], [], [], []⟩),
  (3, ⟨[2], [1000000], [], [], 0, [], [], [], []⟩)]
noncomputable def pack_Reader_Left.cx (k : Nat) : Cx := ⟨tt, pp, [(95, (pack_Reader_fine.e k))], pack_Reader_Left.regs, k⟩
@[reducible] def pack_Reader_Left.sg : Sg := ⟨[.ref], [tReader112], .dat (.int .i64), [tReader112]⟩
noncomputable def pack_Reader_Left.f (k : Nat) (o0 : Ty.D tReader112) : Option (Sg.Out pack_Reader_Left.sg) := Sg.fn pack_Reader_Left.sg (pack_Reader_Left.cx k) pack_Reader_Left.body pack_Reader_Left.rs o0
set_option maxRecDepth 100000 in
theorem pack_Reader_Left.f_eq (k : Nat) (o0 : Ty.D tReader112) : pack_Reader_Left.f k o0 =
  bnd (pack_Reader_fine.f k o0) fun r0 =>
  br (bnot r0.1)
    (some (0, r0.2))
    (some ((ilen r0.2.1), r0.2)) := by kernel_rfl
noncomputable def pack_Reader_Left.e (k : Nat) : Entry := Sg.entry pack_Reader_Left.sg fun x => pack_Reader_Left.f k x
set_option maxRecDepth 100000 in
theorem pack_Reader_Left.ok (k : Nat) : CallOK Try.prog 50 (pack_Reader_Left.e k) :=
  fn_ok (c := pack_Reader_Left.cx k) (code := pack_Reader_Left.body) (TT.of tt_ok pp_ok) (fns_ok ⟨(pack_Reader_fine.ok k), trivial⟩) mixed Try.func50 (by kernel_rfl) (by kernel_rfl) (by kernel_rfl) (by kernel_rfl) (by kernel_rfl) (by kernel_rfl) (fun x => by kernel_rfl)
noncomputable def ref02_Reader_Left.body : Go.Code := Try.f51.body.getD .skip
noncomputable def ref02_Reader_Left.rs : List Go.ResultVar := Try.f51.results.toList
def ref02_Reader_Left.regs : List (Nat × RInfo) := [(0, ⟨[0], [1000000], [], [], 0, [], [], [], []⟩),
  (1, ⟨[0, 7], [1000000], [], [], 0, [], [], [], []⟩),
  (2, ⟨[2], [1000000], [], [], 0, [], [], [], []⟩),
  (3, ⟨[2], [1000000], [], [], 10, [], [], [], []⟩)]
noncomputable def ref02_Reader_Left.cx (k : Nat) : Cx := ⟨tt, pp, [], ref02_Reader_Left.regs, k⟩
@[reducible] def ref02_Reader_Left.sg : Sg := ⟨[.ref], [tReader], .dat (.int .i64), [tReader]⟩
noncomputable def ref02_Reader_Left.f (k : Nat) (o0 : Ty.D tReader) : Option (Sg.Out ref02_Reader_Left.sg) := Sg.fn ref02_Reader_Left.sg (ref02_Reader_Left.cx k) ref02_Reader_Left.body ref02_Reader_Left.rs o0
set_option maxRecDepth 100000 in
theorem ref02_Reader_Left.f_eq (k : Nat) (o0 : Ty.D tReader) : ref02_Reader_Left.f k o0 =
  br (bnot (ieq o0.2.2 0))
    (some (0, o0))
    (some ((isub .i64 (ilen o0.1) o0.2.1), o0)) := by kernel_rfl
noncomputable def ref02_Reader_Left.e (k : Nat) : Entry := Sg.entry ref02_Reader_Left.sg fun x => ref02_Reader_Left.f k x
set_option maxRecDepth 100000 in
theorem ref02_Reader_Left.ok (k : Nat) : CallOK Try.prog 51 (ref02_Reader_Left.e k) :=
  fn_ok (c := ref02_Reader_Left.cx k) (code := ref02_Reader_Left.body) (TT.of tt_ok pp_ok) (fns_ok trivial) mixed Try.func51 (by kernel_rfl) (by kernel_rfl) (by kernel_rfl) (by kernel_rfl) (by kernel_rfl) (by kernel_rfl) (fun x => by kernel_rfl)
noncomputable def law06_DotsRead.body : Go.Code := Try.f10.body.getD .skip
noncomputable def law06_DotsRead.rs : List Go.ResultVar := Try.f10.results.toList
def law06_DotsRead.regs : List (Nat × RInfo) := [(0, ⟨[0, 1], [], [], [], 0, [], [], [], []⟩),
  (1, ⟨[0, 1, 9], [], [], [], 0, [], [], [], []⟩),
  (2, ⟨[0, 1], [], [], [], 0, [], [], [], []⟩),
  (3, ⟨[0, 1, 5], [13, 40], [], [], 0, [], [], [], []⟩),
  (4, ⟨[0, 1, 5, 6], [13, 16, 40, 43], [], [], 0, [], [], [], []⟩),
  (5, ⟨[0, 1, 38], [], [], [], 22, [], [], [], [[], [], [], [1], [1, 3], [1, 3], [1, 3], [1, 3], [1, 3], [1, 3], [1, 3], [1, 3], [1, 3], [8, 1, 3, 12], [1, 3, 8, 12], [1, 3, 8, 12], [1, 3, 8, 12], [1, 3, 8, 12], [1, 3, 8, 12], [1, 3, 8, 12, 17], [17, 1, 3, 8, 12, 19], [1, 3, 8, 12, 17, 19]]⟩),
  (6, ⟨[4], [50, 68], [], [], 0, [], [], [], []⟩),
  (7, ⟨[0, 1, 5], [13, 40], [], [], 0, [], [], [], []⟩),
  (8, ⟨[1, 5, 6], [13, 16, 40, 43], [], [], 0, [], [], [], []⟩),
  (9, ⟨[4], [50, 68], [], [], 26, [], [], [], [[], [], [], [], [], [2], [2, 5], [2, 5], [2, 5], [2, 5], [2, 5], [2, 5], [2, 5], [2, 5], [9, 2, 5, 13], [2, 5, 9, 13], [2, 5, 9, 13], [2, 5, 9, 13], [2, 5, 9, 13], [2, 5, 9, 13], [2, 5, 9, 13, 18], [18, 2, 5, 9, 13, 20], [2, 5, 9, 13, 18, 20], [2, 5, 9, 13, 18, 20], [2, 5, 9, 13, 18, 20], [2, 5, 9, 13, 18, 20], [2, 5, 9, 13, 18, 20]]⟩)]
noncomputable def law06_DotsRead.cx (k : Nat) : Cx := ⟨tt, pp, [(46, (pack_Open.e k)),
  (47, (dots_Read.e k)),
  (48, (ref06_Read.e k)),
  (21, (dots_Same.e k)),
  (49, (pack_Reader_Fault.e k)),
  (50, (pack_Reader_Left.e k)),
  (51, (ref02_Reader_Left.e k)),
  (53, (dots_ReadList.e k)),
  (54, (ref06_ReadList.e k)),
  (52, (ref04_Same.e k)),
  (16, (law06_awake.e k))], law06_DotsRead.regs, k⟩
@[reducible] def law06_DotsRead.sg : Sg := ⟨[.dat .str, .dat (.int .i64)], [], .dat .bool, []⟩
noncomputable def law06_DotsRead.f (k : Nat) (a0 : Ty.D .str) (a1 : Ty.D (.int .i64)) : Option (Sg.Out law06_DotsRead.sg) := Sg.fn law06_DotsRead.sg (law06_DotsRead.cx k) law06_DotsRead.body law06_DotsRead.rs (a0, a1)
set_option maxRecDepth 100000 in
theorem law06_DotsRead.f_eq (k : Nat) (a0 : Ty.D .str) (a1 : Ty.D (.int .i64)) : law06_DotsRead.f k a0 a1 =
  br (ilt 300 (ilen a0))
    (br (inS 0 300 (ilen a0))
      (bnd (pack_Open.f k (piece a0 0 300)) fun r0 =>
      bnd (dots_Read.f k r0.2) fun r1 =>
      bnd (ref06_Read.f k ((piece a0 0 300), (0, 0))) fun r2 =>
      bnd (dots_Same.f k r1.1 r2.1) fun r3 =>
      br (bnot r3)
        (some false)
        (bnd (pack_Reader_Fault.f k r1.2) fun r4 =>
        br (bnot (ieq r4.1 r2.2.2.2))
          (some false)
          (bnd (pack_Reader_Left.f k r4.2) fun r5 =>
          bnd (ref02_Reader_Left.f k r2.2) fun r6 =>
          br (bnot (ieq r5.1 r6.1))
            (some false)
            (bnd (pack_Open.f k (piece a0 0 300)) fun r7 =>
            bnd (dots_ReadList.f k a1 r7.2) fun r8 =>
            bnd (ref06_ReadList.f k a1 ((piece a0 0 300), (0, 0))) fun r9 =>
            bnd (ref04_Same.f k r8.1 r9.1) fun r10 =>
            br r10
              (bnd (pack_Reader_Fault.f k r8.2) fun r11 =>
              br (ieq r11.1 r9.2.2.2)
                (bnd (pack_Reader_Left.f k r11.2) fun r12 =>
                bnd (ref02_Reader_Left.f k r9.2) fun r13 =>
                br (ieq r12.1 r13.1)
                  (bnd (law06_awake.f k) fun r14 =>
                  some r14)
                  (some false))
                (some false))
              (some false)))))
      (none))
    (bnd (pack_Open.f k a0) fun r15 =>
    bnd (dots_Read.f k r15.2) fun r16 =>
    bnd (ref06_Read.f k (a0, (0, 0))) fun r17 =>
    bnd (dots_Same.f k r16.1 r17.1) fun r18 =>
    br (bnot r18)
      (some false)
      (bnd (pack_Reader_Fault.f k r16.2) fun r19 =>
      br (bnot (ieq r19.1 r17.2.2.2))
        (some false)
        (bnd (pack_Reader_Left.f k r19.2) fun r20 =>
        bnd (ref02_Reader_Left.f k r17.2) fun r21 =>
        br (bnot (ieq r20.1 r21.1))
          (some false)
          (bnd (pack_Open.f k a0) fun r22 =>
          bnd (dots_ReadList.f k a1 r22.2) fun r23 =>
          bnd (ref06_ReadList.f k a1 (a0, (0, 0))) fun r24 =>
          bnd (ref04_Same.f k r23.1 r24.1) fun r25 =>
          br r25
            (bnd (pack_Reader_Fault.f k r23.2) fun r26 =>
            br (ieq r26.1 r24.2.2.2)
              (bnd (pack_Reader_Left.f k r26.2) fun r27 =>
              bnd (ref02_Reader_Left.f k r24.2) fun r28 =>
              br (ieq r27.1 r28.1)
                (bnd (law06_awake.f k) fun r29 =>
                some r29)
                (some false))
              (some false))
            (some false))))) := by kernel_rfl
noncomputable def law06_DotsRead.e (k : Nat) : Entry := Sg.entry law06_DotsRead.sg fun x => law06_DotsRead.f k x.1 x.2
set_option maxRecDepth 100000 in
theorem law06_DotsRead.ok (k : Nat) : CallOK Try.prog 10 (law06_DotsRead.e k) :=
  fn_ok (c := law06_DotsRead.cx k) (code := law06_DotsRead.body) (TT.of tt_ok pp_ok) (fns_ok ⟨(pack_Open.ok k), (dots_Read.ok k), (ref06_Read.ok k), (dots_Same.ok k), (pack_Reader_Fault.ok k), (pack_Reader_Left.ok k), (ref02_Reader_Left.ok k), (dots_ReadList.ok k), (ref06_ReadList.ok k), (ref04_Same.ok k), (law06_awake.ok k), trivial⟩) mixed Try.func10 (by kernel_rfl) (by kernel_rfl) (by kernel_rfl) (by kernel_rfl) (by kernel_rfl) (by kernel_rfl) (fun x => by kernel_rfl)

end Go.Proofs.Ytennedlpmacicaa
end
section
/- Sets of dots: one way to stand. -/
namespace Go.Proofs.Ytennedlpmacicaa
open Pal
abbrev Vec := List Int
abbrev DSet := Vec × List Dot
def vat (v : Vec) (r : Int) : Int := rd (.int .i64) v (natOf r)
theorem rightD_iff (d : Dot) : rightD d = true ↔ 0 ≤ d.1 ∧ d.1 < 16 ∧ 1 ≤ d.2 ∧ d.2 ≤ 1048576 := by unfold rightD; rw [decide_eq_true_iff]
theorem vat_get {v : Vec} {i : Nat} (h : i < v.length) : vat v (i : Int) = v[i] := by unfold vat; rw [natOf_nat]; exact rd_at' (e := .int .i64) h
theorem vat_upd {v : Vec} {r : Int} {x : Int} (h0 : 0 ≤ r) (h1 : r < v.length) (q : Int) (hq : 0 ≤ q) : vat (upd v (natOf r) x) q = if q = r then x else vat v q := by
  obtain ⟨a, rfl⟩ := Int.eq_ofNat_of_zero_le h0
  obtain ⟨b, rfl⟩ := Int.eq_ofNat_of_zero_le hq
  have ha : a < v.length := by omega
  show ((v.set a x).getD b (0 : Int)) = if ((b : Int) = (a : Int)) then x else v.getD b (0 : Int)
  rw [List.getD_eq_getElem?_getD, List.getD_eq_getElem?_getD, List.getElem?_set]
  by_cases h : a = b
  · subst h; rw [if_pos rfl, if_pos ha, if_pos rfl]; rfl
  · rw [if_neg h, if_neg (by omega)]
structure VOk (v : Vec) : Prop where
  len : v.length = 16
  lo : ∀ r, 0 ≤ r → r < 16 → 0 ≤ vat v r
  hi : ∀ r, 0 ≤ r → r < 16 → vat v r ≤ 1048576
structure Can (s : DSet) : Prop where
  vok : VOk s.1
  rt : ∀ d ∈ s.2, rightD d = true
  gap : ∀ d ∈ s.2, vat s.1 d.1 + 1 < d.2
  srt : s.2.Pairwise (fun a b => dotLt a b = true)
def Mem (s : DSet) (d : Dot) : Prop := rightD d = true ∧ (d.2 ≤ vat s.1 d.1 ∨ d ∈ s.2)
theorem vec_ext {v u : Vec} (h1 : v.length = 16) (h2 : u.length = 16) (h : ∀ r, 0 ≤ r → r < 16 → vat v r = vat u r) : v = u := by
  apply List.ext_getElem (by omega)
  intro i a b
  have := h (i : Int) (by omega) (by omega)
  rwa [vat_get a, vat_get b] at this
theorem dotLt_asym {a b : Dot} (h : dotLt a b = true) : dotLt b a = false := by
  rw [← Bool.not_eq_true, dotLt_iff]; rw [dotLt_iff] at h; omega
theorem srt_nodup {l : List Dot} (h : l.Pairwise (fun a b => dotLt a b = true)) : l.Nodup :=
  h.imp fun {a b} hab e => by subst e; rw [dotLt_swo.irrefl] at hab; cases hab
theorem srt_unique {l m : List Dot} (h1 : l.Pairwise (fun a b => dotLt a b = true)) (h2 : m.Pairwise (fun a b => dotLt a b = true)) (h : ∀ d, d ∈ l ↔ d ∈ m) : l = m :=
  sorted_unique dotLt_tot ((List.perm_ext_iff_of_nodup (srt_nodup h1) (srt_nodup h2)).2 h) (h1.imp dotLt_asym) (h2.imp dotLt_asym)
theorem can_le {s t : DSet} (hs : Can s) (ht : Can t) (h : ∀ d, Mem s d → Mem t d) (r : Int) (h0 : 0 ≤ r) (h1 : r < 16) : vat s.1 r ≤ vat t.1 r := by
  rcases (by omega : vat t.1 r < vat s.1 r ∨ vat s.1 r ≤ vat t.1 r) with hlt | hge
  · exfalso
    have a := ht.vok.lo r h0 h1
    have b := hs.vok.hi r h0 h1
    have hr : rightD (r, vat t.1 r + 1) = true := (rightD_iff _).2 ⟨h0, h1, by show 1 ≤ vat t.1 r + 1; omega, by show vat t.1 r + 1 ≤ 1048576; omega⟩
    have hm := h (r, vat t.1 r + 1) ⟨hr, .inl (by show vat t.1 r + 1 ≤ vat s.1 r; omega)⟩
    rcases hm.2 with c | c
    · have : vat t.1 r + 1 ≤ vat t.1 r := c; omega
    · have : vat t.1 r + 1 < vat t.1 r + 1 := ht.gap _ c; omega
  · exact hge
theorem can_unique {s t : DSet} (hs : Can s) (ht : Can t) (h : ∀ d, Mem s d ↔ Mem t d) : s = t := by
  have hv : ∀ r, 0 ≤ r → r < 16 → vat s.1 r = vat t.1 r := fun r h0 h1 => Int.le_antisymm (can_le hs ht (fun d => (h d).1) r h0 h1) (can_le ht hs (fun d => (h d).2) r h0 h1)
  apply Prod.ext
  · exact vec_ext hs.vok.len ht.vok.len hv
  · refine srt_unique hs.srt ht.srt fun d => ⟨fun hd => ?_, fun hd => ?_⟩
    · have hr := hs.rt d hd
      obtain ⟨a, b, _, _⟩ := (rightD_iff d).1 hr
      rcases ((h d).1 ⟨hr, .inr hd⟩).2 with c | c
      · have := hs.gap d hd; rw [hv d.1 a b] at this; omega
      · exact c
    · have hr := ht.rt d hd
      obtain ⟨a, b, _, _⟩ := (rightD_iff d).1 hr
      rcases ((h d).2 ⟨hr, .inr hd⟩).2 with c | c
      · have := ht.gap d hd; rw [← hv d.1 a b] at this; omega
      · exact c
/-- A dot more, that is behind all that are there. -/
def put1 (s : DSet) (d : Dot) : DSet :=
  if d.2 ≤ vat s.1 d.1 then s else if d.2 = vat s.1 d.1 + 1 then (upd s.1 (natOf d.1) d.2, s.2) else if s.2.getLast? = some d then s else (s.1, s.2 ++ [d])
theorem put1_can {s : DSet} {d : Dot} (hs : Can s) (hd : rightD d = true) (hb : ∀ e ∈ s.2, dotLt d e = false) : Can (put1 s d) ∧ (∀ x, Mem (put1 s d) x ↔ Mem s x ∨ x = d) ∧ (∀ e ∈ (put1 s d).2, e ∈ s.2 ∨ e = d) := by
  obtain ⟨a, b, c1, c2⟩ := (rightD_iff d).1 hd
  have hlen := hs.vok.len
  unfold put1
  by_cases h1 : d.2 ≤ vat s.1 d.1
  · rw [if_pos h1]
    exact ⟨hs, fun x => ⟨.inl, fun h => h.elim id fun e => by subst e; exact ⟨hd, .inl h1⟩⟩, fun e he => .inl he⟩
  · rw [if_neg h1]
    by_cases h2 : d.2 = vat s.1 d.1 + 1
    · rw [if_pos h2]
      have hne : ∀ e ∈ s.2, e.1 ≠ d.1 := fun e he hee => by
        have g := hs.gap e he
        have := hb e he
        rw [← Bool.not_eq_true, dotLt_iff] at this
        rw [hee] at g
        omega
      have hv : ∀ q, 0 ≤ q → q < 16 → vat (upd s.1 (natOf d.1) d.2) q = if q = d.1 then d.2 else vat s.1 q := fun q h0 _ => vat_upd a (by omega) q h0
      refine ⟨⟨⟨by simp [upd, hlen], fun r h0 h1 => ?_, fun r h0 h1 => ?_⟩, hs.rt, fun e he => ?_, hs.srt⟩, fun x => ⟨fun ⟨hr, h⟩ => ?_, fun h => ?_⟩, fun e he => .inl he⟩
      · rw [hv r h0 h1]; split
        · omega
        · exact hs.vok.lo r h0 h1
      · rw [hv r h0 h1]; split
        · omega
        · exact hs.vok.hi r h0 h1
      · obtain ⟨q0, q1, _, _⟩ := (rightD_iff e).1 (hs.rt e he)
        show vat (upd s.1 (natOf d.1) d.2) e.1 + 1 < e.2
        rw [hv e.1 q0 q1, if_neg (hne e he)]; exact hs.gap e he
      · obtain ⟨q0, q1, _, _⟩ := (rightD_iff x).1 hr
        rcases h with h | h
        · have h : x.2 ≤ vat (upd s.1 (natOf d.1) d.2) x.1 := h
          rw [hv x.1 q0 q1] at h
          split at h
          · rename_i hx
            by_cases he : x.2 = d.2
            · exact .inr (Prod.ext hx he)
            · exact .inl ⟨hr, .inl (by rw [hx]; omega)⟩
          · exact .inl ⟨hr, .inl h⟩
        · exact .inl ⟨hr, .inr h⟩
      · rcases h with ⟨hr, h⟩ | rfl
        · obtain ⟨q0, q1, _, _⟩ := (rightD_iff x).1 hr
          rcases h with h | h
          · refine ⟨hr, .inl ?_⟩
            show x.2 ≤ vat (upd s.1 (natOf d.1) d.2) x.1
            rw [hv x.1 q0 q1]; split
            · rename_i hx; rw [hx] at h; omega
            · exact h
          · exact ⟨hr, .inr h⟩
        · refine ⟨hd, .inl ?_⟩
          show x.2 ≤ vat (upd s.1 (natOf x.1) x.2) x.1
          rw [hv x.1 a b, if_pos rfl]; exact Int.le_refl _
    · rw [if_neg h2]
      by_cases h3 : s.2.getLast? = some d
      · rw [if_pos h3]
        have hmem : d ∈ s.2 := List.mem_of_getLast? h3
        exact ⟨hs, fun x => ⟨.inl, fun h => h.elim id fun e => by subst e; exact ⟨hd, .inr hmem⟩⟩, fun e he => .inl he⟩
      · rw [if_neg h3]
        have hlt : ∀ e ∈ s.2, dotLt e d = true := by
          intro e he
          cases hh : dotLt e d with
          | true => rfl
          | false =>
            exfalso
            have heq := dotLt_tot e d hh (hb e he)
            subst heq
            obtain ⟨p, q, hpq⟩ := List.append_of_mem he
            cases q with
            | nil => rw [hpq] at h3; simp at h3
            | cons z zs =>
              have hsr := hs.srt
              rw [hpq] at hsr
              have h5 := (List.pairwise_append.1 hsr).2.1
              have h6 := (List.pairwise_cons.1 h5).1 z (by simp)
              have h7 := hb z (by rw [hpq]; simp)
              rw [h6] at h7; cases h7
        refine ⟨⟨hs.vok, fun e he => ?_, fun e he => ?_, ?_⟩, fun x => ⟨fun ⟨hr, h⟩ => ?_, fun h => ?_⟩, fun e he => ?_⟩
        · rcases List.mem_append.1 he with he | he
          · exact hs.rt e he
          · rw [List.mem_singleton.1 he]; exact hd
        · rcases List.mem_append.1 he with he | he
          · exact hs.gap e he
          · rw [List.mem_singleton.1 he]; show vat s.1 d.1 + 1 < d.2; omega
        · exact List.pairwise_append.2 ⟨hs.srt, List.pairwise_singleton _ _, fun e he f hf => by rw [List.mem_singleton.1 hf]; exact hlt e he⟩
        · rcases h with h | h
          · exact .inl ⟨hr, .inl h⟩
          · rcases List.mem_append.1 h with h | h
            · exact .inl ⟨hr, .inr h⟩
            · exact .inr (List.mem_singleton.1 h)
        · rcases h with ⟨hr, h⟩ | rfl
          · exact ⟨hr, h.imp id fun h => List.mem_append.2 (.inl h)⟩
          · exact ⟨hd, .inr (List.mem_append.2 (.inr (by simp)))⟩
        · rcases List.mem_append.1 he with he | he
          · exact .inl he
          · exact .inr (List.mem_singleton.1 he)
def mk (v : Vec) (l : List Dot) : DSet := l.foldl put1 (v, [])
theorem mk_can {v : Vec} (hv : VOk v) : ∀ (l : List Dot), (∀ d ∈ l, rightD d = true) → l.Pairwise (fun a b => dotLt b a = false) →
    Can (mk v l) ∧ (∀ x, Mem (mk v l) x ↔ rightD x = true ∧ (x.2 ≤ vat v x.1 ∨ x ∈ l)) ∧ (mk v l).2.length ≤ l.length ∧ ∀ e ∈ (mk v l).2, e ∈ l := by
  have key : ∀ (l p : List Dot) (s : DSet), (∀ d ∈ p ++ l, rightD d = true) → (p ++ l).Pairwise (fun a b => dotLt b a = false) → Can s → (∀ x, Mem s x ↔ rightD x = true ∧ (x.2 ≤ vat v x.1 ∨ x ∈ p)) → s.2.length ≤ p.length → (∀ e ∈ s.2, e ∈ p) →
      Can (l.foldl put1 s) ∧ (∀ x, Mem (l.foldl put1 s) x ↔ rightD x = true ∧ (x.2 ≤ vat v x.1 ∨ x ∈ p ++ l)) ∧ (l.foldl put1 s).2.length ≤ (p ++ l).length ∧ ∀ e ∈ (l.foldl put1 s).2, e ∈ p ++ l := by
    intro l
    induction l with
    | nil => intro p s _ _ hc hm hl he; rw [List.append_nil]; exact ⟨hc, hm, hl, he⟩
    | cons d l ih =>
      intro p s hr hp hc hm hl he
      have hd : rightD d = true := hr d (by simp)
      have hbb : ∀ e ∈ s.2, dotLt d e = false := fun e hee => (List.pairwise_append.1 hp).2.2 e (he e hee) d (by simp)
      obtain ⟨c1, c2, c3⟩ := put1_can hc hd hbb
      have := ih (p ++ [d]) (put1 s d) (by simpa using hr) (by simpa using hp) c1 (fun x => by
          rw [c2, hm]
          constructor
          · rintro (⟨h1, h2⟩ | rfl)
            · exact ⟨h1, h2.imp id fun h => List.mem_append.2 (.inl h)⟩
            · exact ⟨hd, .inr (by simp)⟩
          · rintro ⟨h1, h2 | h2⟩
            · exact .inl ⟨h1, .inl h2⟩
            · rcases List.mem_append.1 h2 with h3 | h3
              · exact .inl ⟨h1, .inr h3⟩
              · exact .inr (List.mem_singleton.1 h3)) (by
          unfold put1; simp only [List.length_append, List.length_singleton]
          split
          · omega
          · split
            · show s.2.length ≤ _; omega
            · split
              · omega
              · simp; omega) (fun e hee => by
          rcases c3 e hee with h | h
          · exact List.mem_append.2 (.inl (he e h))
          · exact List.mem_append.2 (.inr (by simp [h])))
      rw [List.append_assoc] at this; exact this
  intro l hr hs
  have h0 : Can (v, []) := ⟨hv, fun d hd => by simp at hd, fun d hd => by simp at hd, List.Pairwise.nil⟩
  have := key l [] (v, []) (by simpa using hr) (by simpa using hs) h0 (fun x => by simp [Mem]) (Nat.le_refl _) (fun e he => he)
  exact this
end Go.Proofs.Ytennedlpmacicaa
end
