/- The program's functions, as plain equations. -/
import Derived.Test.YtennedlpmacicaaDoPrims
namespace Go.Proofs.Ytennedlpmacicaa
open Pal
noncomputable def dots_made.body : Go.Code := Try.f67.body.getD .skip
noncomputable def dots_made.rs : List Go.ResultVar := Try.f67.results.toList
def dots_made.regs : List (Nat × RInfo) := [(0, ⟨[1, 2, 4], [2, 4], [], [], 0, [], [], []⟩),
  (1, ⟨[1, 4, 5], [4, 5], [3], [], 0, [], [], []⟩),
  (2, ⟨[4, 5, 10, 11, 12], [4, 5], [], [], 0, [], [], []⟩),
  (3, ⟨[4, 5, 10, 11, 12, 13], [4, 5], [], [], 0, [4, 5, 10, 11, 12], [4, 5], []⟩),
  (4, ⟨[4, 5, 7, 10, 11, 12], [4, 5, 7], [], [], 0, [], [], []⟩),
  (5, ⟨[4, 5, 7, 10, 11, 12, 16], [4, 5, 7], [], [], 9, [], [], []⟩),
  (6, ⟨[4, 5, 7, 10, 11, 12, 25], [4, 5, 7], [], [], 10, [], [], []⟩),
  (7, ⟨[4, 5, 10, 11, 12], [4, 5], [], [], 0, [], [], []⟩),
  (8, ⟨[4, 5, 7, 10, 11, 12, 41], [4, 5, 7], [], [], 17, [], [], []⟩),
  (9, ⟨[4, 5, 10, 11, 12], [4, 5], [1, 4, 6], [], 0, [], [], []⟩),
  (10, ⟨[4, 5, 10, 11, 12], [4, 5], [], [], 0, [], [], []⟩),
  (11, ⟨[4], [4], [1], [], 0, [], [], []⟩)]
noncomputable def dots_made.cx (k : Nat) : Cx := ⟨tt, pp, [], dots_made.regs, k⟩
@[reducible] def dots_made.sg : Sg := ⟨[.dat tVec, .dat (.slc tDot)], [], .dat tDots, []⟩
noncomputable def dots_made.f (k : Nat) (a0 : Ty.D tVec) (a1 : Ty.D (.slc tDot)) : Option (Sg.Out dots_made.sg) := Sg.fn dots_made.sg (dots_made.cx k) dots_made.body dots_made.rs (a0, a1)
noncomputable def dots_made.l3 (k : Nat) (n : Nat) (x10 : Ty.D (.slc tDot)) (x11 : Ty.D (.int .i64)) (x12 : Ty.D (.int .i64)) (m4a : Ty.D tVec) (m4b : List (Ty.D tDot)) (m5a : Ty.D tVec) (m5b : List (Ty.D tDot)) : Option (Sg.Out dots_made.sg) := loopAt (dots_made.cx k) dots_made.body [1, 1, 0, 1, 0] 3 [4, 5, 10, 11, 12] [4, 5] [] (Sg.K dots_made.sg (dots_made.cx k) dots_made.rs) n ⟨[(4, .ref 4 []), (5, .ref 5 []), (10, .dat (.slc tDot) x10), (11, .dat (.int .i64) x11), (12, .dat (.int .i64) x12)], [(4, .pr (.dat tVec m4a) (.own tDot m4b)), (5, .pr (.dat tVec m5a) (.own tDot m5b))]⟩
set_option maxRecDepth 100000 in
theorem dots_made.f_eq (k : Nat) (a0 : Ty.D tVec) (a1 : Ty.D (.slc tDot)) : dots_made.f k a0 a1 =
  dots_made.l3 k k a1 (ilen a1) 0 (zarr 16 0) [] a0 [] := by kernel_rfl
set_option maxRecDepth 100000 in
theorem dots_made.l3_eq (k : Nat) (n3 : Nat) (x10 : Ty.D (.slc tDot)) (x11 : Ty.D (.int .i64)) (x12 : Ty.D (.int .i64)) (m4a : Ty.D tVec) (m4b : List (Ty.D tDot)) (m5a : Ty.D tVec) (m5b : List (Ty.D tDot)) : dots_made.l3 k (n3 + 1) x10 x11 x12 m4a m4b m5a m5b =
  br (ilt x12 x11)
    (br (inL x12 x10)
      (br (inB ((rd tDot x10 (natOf x12)).1) 16)
        (br (ile ((rd tDot x10 (natOf x12)).2) (rd (.int .i64) m5a (natOf ((rd tDot x10 (natOf x12)).1))))
          (dots_made.l3 k n3 x10 x11 (iadd .i64 x12 1) m4a m4b m5a m5b)
          (br (inB ((rd tDot x10 (natOf x12)).1) 16)
            (br (ieq ((rd tDot x10 (natOf x12)).2) (iadd .i64 (rd (.int .i64) m5a (natOf ((rd tDot x10 (natOf x12)).1))) 1))
              (br (inB ((rd tDot x10 (natOf x12)).1) 16)
                (dots_made.l3 k n3 x10 x11 (iadd .i64 x12 1) m4a m4b (upd m5a (natOf ((rd tDot x10 (natOf x12)).1)) ((rd tDot x10 (natOf x12)).2)) m5b)
                (none))
              (br (ieq (ilen m5b) 0)
                (br (room m5b ((rd tDot x10 (natOf x12)) :: []))
                  (dots_made.l3 k n3 x10 x11 (iadd .i64 x12 1) m4a m4b m5a (app m5b ((rd tDot x10 (natOf x12)) :: [])))
                  (none))
                (br (inL (isub .i64 (ilen m5b) 1) m5b)
                  (br (bnot (deq tDot (rd tDot m5b (natOf (isub .i64 (ilen m5b) 1))) (rd tDot x10 (natOf x12))))
                    (br (room m5b ((rd tDot x10 (natOf x12)) :: []))
                      (dots_made.l3 k n3 x10 x11 (iadd .i64 x12 1) m4a m4b m5a (app m5b ((rd tDot x10 (natOf x12)) :: [])))
                      (none))
                    (dots_made.l3 k n3 x10 x11 (iadd .i64 x12 1) m4a m4b m5a m5b))
                  (none))))
            (none)))
        (none))
      (none))
    (some (m5a, m5b)) := by kernel_rfl
noncomputable def dots_made.e (k : Nat) : Entry := Sg.entry dots_made.sg fun x => dots_made.f k x.1 x.2
set_option maxRecDepth 100000 in
theorem dots_made.ok (k : Nat) : CallOK Try.prog 67 (dots_made.e k) :=
  fn_ok (c := dots_made.cx k) (code := dots_made.body) (TT.of tt_ok pp_ok) (fns_ok trivial) mixed Try.func67 (by kernel_rfl) (by kernel_rfl) (by kernel_rfl) (by kernel_rfl) (by kernel_rfl) (by kernel_rfl) (fun x => by kernel_rfl)
noncomputable def dots_Of.body : Go.Code := Try.f18.body.getD .skip
noncomputable def dots_Of.rs : List Go.ResultVar := Try.f18.results.toList
def dots_Of.regs : List (Nat × RInfo) := [(0, ⟨[0, 2], [2], [], [], 0, [], [], []⟩),
  (1, ⟨[0, 2], [2], [2, 3], [], 0, [], [], []⟩),
  (2, ⟨[0, 2], [2], [0, 1], [0], 0, [], [], []⟩),
  (3, ⟨[2], [2], [3], [], 0, [], [], [0, 2]⟩)]
noncomputable def dots_Of.cx (k : Nat) : Cx := ⟨tt, pp, [(62, (cloneE tDot)),
  (61, (delE tDot 63 dotKeep)),
  (65, (sortE tDot 66 dotLt)),
  (67, (dots_made.e k))], dots_Of.regs, k⟩
@[reducible] def dots_Of.sg : Sg := ⟨[.dat (.slc tDot)], [], .dat tDots, []⟩
noncomputable def dots_Of.f (k : Nat) (a0 : Ty.D (.slc tDot)) : Option (Sg.Out dots_Of.sg) := Sg.fn dots_Of.sg (dots_Of.cx k) dots_Of.body dots_Of.rs a0
set_option maxRecDepth 100000 in
theorem dots_Of.f_eq (k : Nat) (a0 : Ty.D (.slc tDot)) : dots_Of.f k a0 =
  br (room ([] : List Int) a0)
    (br (room ([] : List Int) a0)
      (br (room ([] : List Int) (kept dotKeep a0))
        (bnd (dots_made.f k (zarr 16 0) (isort dotLt (kept dotKeep a0))) fun r0 =>
        some r0)
        (none))
      (none))
    (none) := by kernel_rfl
noncomputable def dots_Of.e (k : Nat) : Entry := Sg.entry dots_Of.sg fun x => dots_Of.f k x
set_option maxRecDepth 100000 in
theorem dots_Of.ok (k : Nat) : CallOK Try.prog 18 (dots_Of.e k) :=
  fn_ok (c := dots_Of.cx k) (code := dots_Of.body) (TT.of tt_ok pp_ok) (fns_ok ⟨clone62, del61, sort65, (dots_made.ok k), trivial⟩) mixed Try.func18 (by kernel_rfl) (by kernel_rfl) (by kernel_rfl) (by kernel_rfl) (by kernel_rfl) (by kernel_rfl) (fun x => by kernel_rfl)
noncomputable def vec_Has.body : Go.Code := Try.f71.body.getD .skip
noncomputable def vec_Has.rs : List Go.ResultVar := Try.f71.results.toList
def vec_Has.regs : List (Nat × RInfo) := [(0, ⟨[2, 3], [2, 3], [], [], 0, [], [], []⟩),
  (1, ⟨[4], [], [], [], 11, [], [], []⟩)]
noncomputable def vec_Has.cx (k : Nat) : Cx := ⟨tt, pp, [(64, (dot_Right.e k))], vec_Has.regs, k⟩
@[reducible] def vec_Has.sg : Sg := ⟨[.dat tVec, .dat tDot], [], .dat .bool, []⟩
noncomputable def vec_Has.f (k : Nat) (a0 : Ty.D tVec) (a1 : Ty.D tDot) : Option (Sg.Out vec_Has.sg) := Sg.fn vec_Has.sg (vec_Has.cx k) vec_Has.body vec_Has.rs (a0, a1)
set_option maxRecDepth 100000 in
theorem vec_Has.f_eq (k : Nat) (a0 : Ty.D tVec) (a1 : Ty.D tDot) : vec_Has.f k a0 a1 =
  bnd (dot_Right.f k a1) fun r0 =>
  br r0
    (br (inB a1.1 16)
      (some (ile a1.2 (rd (.int .i64) a0 (natOf a1.1))))
      (none))
    (some false) := by kernel_rfl
noncomputable def vec_Has.e (k : Nat) : Entry := Sg.entry vec_Has.sg fun x => vec_Has.f k x.1 x.2
set_option maxRecDepth 100000 in
theorem vec_Has.ok (k : Nat) : CallOK Try.prog 71 (vec_Has.e k) :=
  fn_ok (c := vec_Has.cx k) (code := vec_Has.body) (TT.of tt_ok pp_ok) (fns_ok ⟨(dot_Right.ok k), trivial⟩) mixed Try.func71 (by kernel_rfl) (by kernel_rfl) (by kernel_rfl) (by kernel_rfl) (by kernel_rfl) (by kernel_rfl) (fun x => by kernel_rfl)
noncomputable def slices_BinarySearchFunc_api_Dot_api_Dot_api_Dot_66.body : Go.Code := Try.f72.body.getD .skip
noncomputable def slices_BinarySearchFunc_api_Dot_api_Dot_api_Dot_66.rs : List Go.ResultVar := Try.f72.results.toList
def slices_BinarySearchFunc_api_Dot_api_Dot_api_Dot_66.regs : List (Nat × RInfo) := [(0, ⟨[0, 2, 4], [4], [], [], 0, [], [], []⟩),
  (1, ⟨[0, 2, 4, 8], [4], [], [], 0, [], [], []⟩),
  (2, ⟨[0, 2, 4, 8, 9, 10], [4], [], [], 0, [], [], []⟩),
  (3, ⟨[0, 2, 4, 8, 9, 10, 17], [4], [], [], 0, [0, 2, 4, 8, 9, 10], [4], []⟩),
  (4, ⟨[0, 2, 4, 8, 9, 10, 11], [4], [], [], 0, [], [], []⟩),
  (5, ⟨[0, 2, 4, 8, 9, 10, 11, 31], [4], [], [], 8, [], [], []⟩),
  (6, ⟨[0, 2, 4, 8, 9, 10], [4], [], [], 0, [], [], []⟩),
  (7, ⟨[0, 2, 4, 8, 9, 10], [4], [], [], 0, [], [], []⟩),
  (8, ⟨[6, 7], [], [], [], 15, [], [], []⟩)]
noncomputable def slices_BinarySearchFunc_api_Dot_api_Dot_api_Dot_66.cx (k : Nat) : Cx := ⟨tt, pp, [(66, (dot_Compare.e k))], slices_BinarySearchFunc_api_Dot_api_Dot_api_Dot_66.regs, k⟩
@[reducible] def slices_BinarySearchFunc_api_Dot_api_Dot_api_Dot_66.sg : Sg := ⟨[.dat (.slc tDot), .dat tDot, .fn 66 0], [], .t2 (.dat (.int .i64)) (.dat .bool), []⟩
noncomputable def slices_BinarySearchFunc_api_Dot_api_Dot_api_Dot_66.f (k : Nat) (a0 : Ty.D (.slc tDot)) (a1 : Ty.D tDot) : Option (Sg.Out slices_BinarySearchFunc_api_Dot_api_Dot_api_Dot_66.sg) := Sg.fn slices_BinarySearchFunc_api_Dot_api_Dot_api_Dot_66.sg (slices_BinarySearchFunc_api_Dot_api_Dot_api_Dot_66.cx k) slices_BinarySearchFunc_api_Dot_api_Dot_api_Dot_66.body slices_BinarySearchFunc_api_Dot_api_Dot_api_Dot_66.rs (a0, a1)
noncomputable def slices_BinarySearchFunc_api_Dot_api_Dot_api_Dot_66.l3 (k : Nat) (n : Nat) (x0 : Ty.D (.slc tDot)) (x8 : Ty.D (.int .i64)) (x9 : Ty.D (.int .i64)) (x10 : Ty.D (.int .i64)) (m4 : Ty.D tDot) : Option (Sg.Out slices_BinarySearchFunc_api_Dot_api_Dot_api_Dot_66.sg) := loopAt (slices_BinarySearchFunc_api_Dot_api_Dot_api_Dot_66.cx k) slices_BinarySearchFunc_api_Dot_api_Dot_api_Dot_66.body [1, 1, 1, 0, 0] 3 [0, 2, 4, 8, 9, 10] [4] [] (Sg.K slices_BinarySearchFunc_api_Dot_api_Dot_api_Dot_66.sg (slices_BinarySearchFunc_api_Dot_api_Dot_api_Dot_66.cx k) slices_BinarySearchFunc_api_Dot_api_Dot_api_Dot_66.rs) n ⟨[(0, .dat (.slc tDot) x0), (2, .fn 66 []), (4, .ref 4 []), (8, .dat (.int .i64) x8), (9, .dat (.int .i64) x9), (10, .dat (.int .i64) x10)], [(4, .dat tDot m4)]⟩
set_option maxRecDepth 100000 in
theorem slices_BinarySearchFunc_api_Dot_api_Dot_api_Dot_66.f_eq (k : Nat) (a0 : Ty.D (.slc tDot)) (a1 : Ty.D tDot) : slices_BinarySearchFunc_api_Dot_api_Dot_api_Dot_66.f k a0 a1 =
  slices_BinarySearchFunc_api_Dot_api_Dot_api_Dot_66.l3 k k a0 (ilen a0) 0 (ilen a0) a1 := by kernel_rfl
set_option maxRecDepth 100000 in
theorem slices_BinarySearchFunc_api_Dot_api_Dot_api_Dot_66.l3_eq (k : Nat) (n3 : Nat) (x0 : Ty.D (.slc tDot)) (x8 : Ty.D (.int .i64)) (x9 : Ty.D (.int .i64)) (x10 : Ty.D (.int .i64)) (m4 : Ty.D tDot) : slices_BinarySearchFunc_api_Dot_api_Dot_api_Dot_66.l3 k (n3 + 1) x0 x8 x9 x10 m4 =
  br (ilt x9 x10)
    (br (ilt 1 0)
      (none)
      (br (inL (iwrap .i64 (ishr .u64 (iwrap .u64 (iadd .i64 x9 x10)) 1)) x0)
        (bnd (dot_Compare.f k (rd tDot x0 (natOf (iwrap .i64 (ishr .u64 (iwrap .u64 (iadd .i64 x9 x10)) 1)))) m4) fun r0 =>
        br (ilt r0 0)
          (slices_BinarySearchFunc_api_Dot_api_Dot_api_Dot_66.l3 k n3 x0 x8 (iadd .i64 (iwrap .i64 (ishr .u64 (iwrap .u64 (iadd .i64 x9 x10)) 1)) 1) x10 m4)
          (slices_BinarySearchFunc_api_Dot_api_Dot_api_Dot_66.l3 k n3 x0 x8 x9 (iwrap .i64 (ishr .u64 (iwrap .u64 (iadd .i64 x9 x10)) 1)) m4))
        (none)))
    (br (ilt x9 x8)
      (br (inL x9 x0)
        (bnd (dot_Compare.f k (rd tDot x0 (natOf x9)) m4) fun r1 =>
        some (x9, (ieq r1 0)))
        (none))
      (some (x9, false))) := by kernel_rfl
noncomputable def slices_BinarySearchFunc_api_Dot_api_Dot_api_Dot_66.e (k : Nat) : Entry := Sg.entry slices_BinarySearchFunc_api_Dot_api_Dot_api_Dot_66.sg fun x => slices_BinarySearchFunc_api_Dot_api_Dot_api_Dot_66.f k x.1 x.2
set_option maxRecDepth 100000 in
theorem slices_BinarySearchFunc_api_Dot_api_Dot_api_Dot_66.ok (k : Nat) : CallOK Try.prog 72 (slices_BinarySearchFunc_api_Dot_api_Dot_api_Dot_66.e k) :=
  fn_ok (c := slices_BinarySearchFunc_api_Dot_api_Dot_api_Dot_66.cx k) (code := slices_BinarySearchFunc_api_Dot_api_Dot_api_Dot_66.body) (TT.of tt_ok pp_ok) (fns_ok ⟨(dot_Compare.ok k), trivial⟩) mixed Try.func72 (by kernel_rfl) (by kernel_rfl) (by kernel_rfl) (by kernel_rfl) (by kernel_rfl) (by kernel_rfl) (fun x => by kernel_rfl)
noncomputable def dots_Has.body : Go.Code := Try.f23.body.getD .skip
noncomputable def dots_Has.rs : List Go.ResultVar := Try.f23.results.toList
def dots_Has.regs : List (Nat × RInfo) := [(0, ⟨[2, 3], [2, 3], [0], [], 0, [], [], []⟩),
  (1, ⟨[2, 3, 10], [2, 3], [], [], 0, [], [], []⟩),
  (2, ⟨[4], [], [], [], 0, [], [], []⟩),
  (3, ⟨[6], [], [], [], 0, [], [], []⟩),
  (4, ⟨[4], [], [], [], 0, [], [], []⟩)]
noncomputable def dots_Has.cx (k : Nat) : Cx := ⟨tt, pp, [(71, (vec_Has.e k)),
  (72, (slices_BinarySearchFunc_api_Dot_api_Dot_api_Dot_66.e k)),
  (66, (dot_Compare.e k))], dots_Has.regs, k⟩
@[reducible] def dots_Has.sg : Sg := ⟨[.dat tDots, .dat tDot], [], .dat .bool, []⟩
noncomputable def dots_Has.f (k : Nat) (a0 : Ty.D tDots) (a1 : Ty.D tDot) : Option (Sg.Out dots_Has.sg) := Sg.fn dots_Has.sg (dots_Has.cx k) dots_Has.body dots_Has.rs (a0, a1)
set_option maxRecDepth 100000 in
theorem dots_Has.f_eq (k : Nat) (a0 : Ty.D tDots) (a1 : Ty.D tDot) : dots_Has.f k a0 a1 =
  bnd (vec_Has.f k a0.1 a1) fun r0 =>
  br r0
    (some true)
    (bnd (slices_BinarySearchFunc_api_Dot_api_Dot_api_Dot_66.f k a0.2 a1) fun r1 =>
    some r1.2) := by kernel_rfl
noncomputable def dots_Has.e (k : Nat) : Entry := Sg.entry dots_Has.sg fun x => dots_Has.f k x.1 x.2
set_option maxRecDepth 100000 in
theorem dots_Has.ok (k : Nat) : CallOK Try.prog 23 (dots_Has.e k) :=
  fn_ok (c := dots_Has.cx k) (code := dots_Has.body) (TT.of tt_ok pp_ok) (fns_ok ⟨(vec_Has.ok k), (slices_BinarySearchFunc_api_Dot_api_Dot_api_Dot_66.ok k), (dot_Compare.ok k), trivial⟩) mixed Try.func23 (by kernel_rfl) (by kernel_rfl) (by kernel_rfl) (by kernel_rfl) (by kernel_rfl) (by kernel_rfl) (fun x => by kernel_rfl)
noncomputable def dots_Put.body : Go.Code := Try.f26.body.getD .skip
noncomputable def dots_Put.rs : List Go.ResultVar := Try.f26.results.toList
def dots_Put.regs : List (Nat × RInfo) := [(0, ⟨[2, 3, 4], [2, 3, 4], [0], [], 0, [], [], [0, 1]⟩),
  (1, ⟨[2, 3, 4, 14], [2, 3, 4], [], [], 0, [], [], [3, 2]⟩),
  (2, ⟨[4], [4], [1], [], 0, [], [], [2, 4]⟩),
  (3, ⟨[2, 3, 4, 5], [2, 3, 4], [], [], 0, [], [], [2, 3]⟩),
  (4, ⟨[4], [4], [8, 10], [], 10, [], [], [2, 5, 3, 4]⟩)]
noncomputable def dots_Put.cx (k : Nat) : Cx := ⟨tt, pp, [(64, (dot_Right.e k)),
  (23, (dots_Has.e k)),
  (72, (slices_BinarySearchFunc_api_Dot_api_Dot_api_Dot_66.e k)),
  (66, (dot_Compare.e k)),
  (62, (cloneE tDot)),
  (75, (insE tDot)),
  (67, (dots_made.e k))], dots_Put.regs, k⟩
@[reducible] def dots_Put.sg : Sg := ⟨[.dat tDots, .dat tDot], [], .dat tDots, []⟩
noncomputable def dots_Put.f (k : Nat) (a0 : Ty.D tDots) (a1 : Ty.D tDot) : Option (Sg.Out dots_Put.sg) := Sg.fn dots_Put.sg (dots_Put.cx k) dots_Put.body dots_Put.rs (a0, a1)
set_option maxRecDepth 100000 in
theorem dots_Put.f_eq (k : Nat) (a0 : Ty.D tDots) (a1 : Ty.D tDot) : dots_Put.f k a0 a1 =
  bnd (dot_Right.f k a1) fun r0 =>
  br (bnot r0)
    (some a0)
    (bnd (dots_Has.f k a0 a1) fun r1 =>
    br r1
      (some a0)
      (bnd (slices_BinarySearchFunc_api_Dot_api_Dot_api_Dot_66.f k a0.2 a1) fun r2 =>
      br (room ([] : List Int) a0.2)
        (br (inS 0 r2.1 (ilen a0.2))
          (br (room a0.2 (a1 :: []))
            (bnd (dots_made.f k a0.1 (insAt a0.2 r2.1 (a1 :: []))) fun r3 =>
            some r3)
            (none))
          (none))
        (none))) := by kernel_rfl
noncomputable def dots_Put.e (k : Nat) : Entry := Sg.entry dots_Put.sg fun x => dots_Put.f k x.1 x.2
set_option maxRecDepth 100000 in
theorem dots_Put.ok (k : Nat) : CallOK Try.prog 26 (dots_Put.e k) :=
  fn_ok (c := dots_Put.cx k) (code := dots_Put.body) (TT.of tt_ok pp_ok) (fns_ok ⟨(dot_Right.ok k), (dots_Has.ok k), (slices_BinarySearchFunc_api_Dot_api_Dot_api_Dot_66.ok k), (dot_Compare.ok k), clone62, ins75, (dots_made.ok k), trivial⟩) mixed Try.func26 (by kernel_rfl) (by kernel_rfl) (by kernel_rfl) (by kernel_rfl) (by kernel_rfl) (by kernel_rfl) (fun x => by kernel_rfl)
noncomputable def slices_Equal_api_Dot_api_Dot.body : Go.Code := Try.f68.body.getD .skip
noncomputable def slices_Equal_api_Dot_api_Dot.rs : List Go.ResultVar := Try.f68.results.toList
def slices_Equal_api_Dot_api_Dot.regs : List (Nat × RInfo) := [(0, ⟨[0, 1], [], [], [], 0, [], [], []⟩),
  (1, ⟨[0, 1, 10], [], [], [], 0, [], [], []⟩),
  (2, ⟨[4], [], [], [], 0, [], [], []⟩),
  (3, ⟨[0, 1, 12, 13], [], [], [], 0, [], [], []⟩),
  (4, ⟨[0, 1, 12, 13, 14], [], [], [], 0, [0, 1, 12, 13], [], []⟩),
  (5, ⟨[0, 1, 5, 12, 13], [], [], [], 0, [], [], []⟩),
  (6, ⟨[0, 1, 12, 13, 24], [], [], [], 9, [], [], []⟩),
  (7, ⟨[4], [], [], [], 0, [], [], []⟩),
  (8, ⟨[0, 1, 12, 13], [], [], [], 0, [], [], []⟩),
  (9, ⟨[4], [], [], [], 0, [], [], []⟩)]
noncomputable def slices_Equal_api_Dot_api_Dot.cx (k : Nat) : Cx := ⟨tt, pp, [], slices_Equal_api_Dot_api_Dot.regs, k⟩
@[reducible] def slices_Equal_api_Dot_api_Dot.sg : Sg := ⟨[.dat (.slc tDot), .dat (.slc tDot)], [], .dat .bool, []⟩
noncomputable def slices_Equal_api_Dot_api_Dot.f (k : Nat) (a0 : Ty.D (.slc tDot)) (a1 : Ty.D (.slc tDot)) : Option (Sg.Out slices_Equal_api_Dot_api_Dot.sg) := Sg.fn slices_Equal_api_Dot_api_Dot.sg (slices_Equal_api_Dot_api_Dot.cx k) slices_Equal_api_Dot_api_Dot.body slices_Equal_api_Dot_api_Dot.rs (a0, a1)
noncomputable def slices_Equal_api_Dot_api_Dot.l4 (k : Nat) (n : Nat) (x0 : Ty.D (.slc tDot)) (x1 : Ty.D (.slc tDot)) (x12 : Ty.D (.int .i64)) (x13 : Ty.D (.int .i64)) : Option (Sg.Out slices_Equal_api_Dot_api_Dot.sg) := loopAt (slices_Equal_api_Dot_api_Dot.cx k) slices_Equal_api_Dot_api_Dot.body [1, 1, 0, 1, 0] 4 [0, 1, 12, 13] [] [] (Sg.K slices_Equal_api_Dot_api_Dot.sg (slices_Equal_api_Dot_api_Dot.cx k) slices_Equal_api_Dot_api_Dot.rs) n ⟨[(0, .dat (.slc tDot) x0), (1, .dat (.slc tDot) x1), (12, .dat (.int .i64) x12), (13, .dat (.int .i64) x13)], []⟩
set_option maxRecDepth 100000 in
theorem slices_Equal_api_Dot_api_Dot.f_eq (k : Nat) (a0 : Ty.D (.slc tDot)) (a1 : Ty.D (.slc tDot)) : slices_Equal_api_Dot_api_Dot.f k a0 a1 =
  br (bnot (ieq (ilen a0) (ilen a1)))
    (some false)
    (slices_Equal_api_Dot_api_Dot.l4 k k a0 a1 (ilen a0) 0) := by kernel_rfl
set_option maxRecDepth 100000 in
theorem slices_Equal_api_Dot_api_Dot.l4_eq (k : Nat) (n4 : Nat) (x0 : Ty.D (.slc tDot)) (x1 : Ty.D (.slc tDot)) (x12 : Ty.D (.int .i64)) (x13 : Ty.D (.int .i64)) : slices_Equal_api_Dot_api_Dot.l4 k (n4 + 1) x0 x1 x12 x13 =
  br (ilt x13 x12)
    (br (inL x13 x0)
      (br (inL x13 x1)
        (br (bnot (deq tDot (rd tDot x0 (natOf x13)) (rd tDot x1 (natOf x13))))
          (some false)
          (slices_Equal_api_Dot_api_Dot.l4 k n4 x0 x1 x12 (iadd .i64 x13 1)))
        (none))
      (none))
    (some true) := by kernel_rfl
noncomputable def slices_Equal_api_Dot_api_Dot.e (k : Nat) : Entry := Sg.entry slices_Equal_api_Dot_api_Dot.sg fun x => slices_Equal_api_Dot_api_Dot.f k x.1 x.2
set_option maxRecDepth 100000 in
theorem slices_Equal_api_Dot_api_Dot.ok (k : Nat) : CallOK Try.prog 68 (slices_Equal_api_Dot_api_Dot.e k) :=
  fn_ok (c := slices_Equal_api_Dot_api_Dot.cx k) (code := slices_Equal_api_Dot_api_Dot.body) (TT.of tt_ok pp_ok) (fns_ok trivial) mixed Try.func68 (by kernel_rfl) (by kernel_rfl) (by kernel_rfl) (by kernel_rfl) (by kernel_rfl) (by kernel_rfl) (fun x => by kernel_rfl)
noncomputable def dots_Same.body : Go.Code := Try.f21.body.getD .skip
noncomputable def dots_Same.rs : List Go.ResultVar := Try.f21.results.toList
def dots_Same.regs : List (Nat × RInfo) := [(0, ⟨[2, 3], [2, 3], [0, 1], [], 0, [], [], []⟩),
  (1, ⟨[4], [], [], [], 0, [], [], []⟩)]
noncomputable def dots_Same.cx (k : Nat) : Cx := ⟨tt, pp, [(68, (slices_Equal_api_Dot_api_Dot.e k))], dots_Same.regs, k⟩
@[reducible] def dots_Same.sg : Sg := ⟨[.dat tDots, .dat tDots], [], .dat .bool, []⟩
noncomputable def dots_Same.f (k : Nat) (a0 : Ty.D tDots) (a1 : Ty.D tDots) : Option (Sg.Out dots_Same.sg) := Sg.fn dots_Same.sg (dots_Same.cx k) dots_Same.body dots_Same.rs (a0, a1)
set_option maxRecDepth 100000 in
theorem dots_Same.f_eq (k : Nat) (a0 : Ty.D tDots) (a1 : Ty.D tDots) : dots_Same.f k a0 a1 =
  br (deq tVec a0.1 a1.1)
    (bnd (slices_Equal_api_Dot_api_Dot.f k a0.2 a1.2) fun r0 =>
    some r0)
    (some false) := by kernel_rfl
noncomputable def dots_Same.e (k : Nat) : Entry := Sg.entry dots_Same.sg fun x => dots_Same.f k x.1 x.2
set_option maxRecDepth 100000 in
theorem dots_Same.ok (k : Nat) : CallOK Try.prog 21 (dots_Same.e k) :=
  fn_ok (c := dots_Same.cx k) (code := dots_Same.body) (TT.of tt_ok pp_ok) (fns_ok ⟨(slices_Equal_api_Dot_api_Dot.ok k), trivial⟩) mixed Try.func21 (by kernel_rfl) (by kernel_rfl) (by kernel_rfl) (by kernel_rfl) (by kernel_rfl) (by kernel_rfl) (fun x => by kernel_rfl)
noncomputable def law06_awake.body : Go.Code := Try.f16.body.getD .skip
noncomputable def law06_awake.rs : List Go.ResultVar := Try.f16.results.toList
def law06_awake.regs : List (Nat × RInfo) := [(0, ⟨[], [], [], [], 0, [], [], []⟩),
  (1, ⟨[1], [1], [5], [], 0, [], [], []⟩),
  (2, ⟨[1, 2], [1, 2], [4], [], 0, [], [], []⟩),
  (3, ⟨[0], [], [], [], 0, [], [], []⟩)]
noncomputable def law06_awake.cx (k : Nat) : Cx := ⟨tt, pp, [(18, (dots_Of.e k)),
  (26, (dots_Put.e k)),
  (21, (dots_Same.e k)),
  (23, (dots_Has.e k))], law06_awake.regs, k⟩
@[reducible] def law06_awake.sg : Sg := ⟨[], [], .dat .bool, []⟩
noncomputable def law06_awake.f (k : Nat) : Option (Sg.Out law06_awake.sg) := Sg.fn law06_awake.sg (law06_awake.cx k) law06_awake.body law06_awake.rs ()
noncomputable def law06_awake.e (k : Nat) : Entry := Sg.entry law06_awake.sg fun x => law06_awake.f k
set_option maxRecDepth 100000 in
theorem law06_awake.ok (k : Nat) : CallOK Try.prog 16 (law06_awake.e k) :=
  fn_ok (c := law06_awake.cx k) (code := law06_awake.body) (TT.of tt_ok pp_ok) (fns_ok ⟨(dots_Of.ok k), (dots_Put.ok k), (dots_Same.ok k), (dots_Has.ok k), trivial⟩) mixed Try.func16 (by kernel_rfl) (by kernel_rfl) (by kernel_rfl) (by kernel_rfl) (by kernel_rfl) (by kernel_rfl) (fun x => by kernel_rfl)
noncomputable def ref04_Right.body : Go.Code := Try.f17.body.getD .skip
noncomputable def ref04_Right.rs : List Go.ResultVar := Try.f17.results.toList
def ref04_Right.regs : List (Nat × RInfo) := [(0, ⟨[1], [1], [], [], 0, [], [], []⟩),
  (1, ⟨[2], [], [], [], 0, [], [], []⟩)]
noncomputable def ref04_Right.cx (k : Nat) : Cx := ⟨tt, pp, [], ref04_Right.regs, k⟩
@[reducible] def ref04_Right.sg : Sg := ⟨[.dat tDot], [], .dat .bool, []⟩
noncomputable def ref04_Right.f (k : Nat) (a0 : Ty.D tDot) : Option (Sg.Out ref04_Right.sg) := Sg.fn ref04_Right.sg (ref04_Right.cx k) ref04_Right.body ref04_Right.rs a0
set_option maxRecDepth 100000 in
theorem ref04_Right.f_eq (k : Nat) (a0 : Ty.D tDot) : ref04_Right.f k a0 =
  br (ile 0 a0.1)
    (br (ile a0.1 15)
      (br (ile 1 a0.2)
        (some (ile a0.2 1048576))
        (some false))
      (some false))
    (some false) := by kernel_rfl
noncomputable def ref04_Right.e (k : Nat) : Entry := Sg.entry ref04_Right.sg fun x => ref04_Right.f k x
set_option maxRecDepth 100000 in
theorem ref04_Right.ok (k : Nat) : CallOK Try.prog 17 (ref04_Right.e k) :=
  fn_ok (c := ref04_Right.cx k) (code := ref04_Right.body) (TT.of tt_ok pp_ok) (fns_ok trivial) mixed Try.func17 (by kernel_rfl) (by kernel_rfl) (by kernel_rfl) (by kernel_rfl) (by kernel_rfl) (by kernel_rfl) (fun x => by kernel_rfl)
noncomputable def ref05_Has.body : Go.Code := Try.f74.body.getD .skip
noncomputable def ref05_Has.rs : List Go.ResultVar := Try.f74.results.toList
def ref05_Has.regs : List (Nat × RInfo) := [(0, ⟨[2, 3], [2, 3], [], [], 0, [], [], []⟩),
  (1, ⟨[4], [], [], [], 11, [], [], []⟩)]
noncomputable def ref05_Has.cx (k : Nat) : Cx := ⟨tt, pp, [(17, (ref04_Right.e k))], ref05_Has.regs, k⟩
@[reducible] def ref05_Has.sg : Sg := ⟨[.dat tVec, .dat tDot], [], .dat .bool, []⟩
noncomputable def ref05_Has.f (k : Nat) (a0 : Ty.D tVec) (a1 : Ty.D tDot) : Option (Sg.Out ref05_Has.sg) := Sg.fn ref05_Has.sg (ref05_Has.cx k) ref05_Has.body ref05_Has.rs (a0, a1)
set_option maxRecDepth 100000 in
theorem ref05_Has.f_eq (k : Nat) (a0 : Ty.D tVec) (a1 : Ty.D tDot) : ref05_Has.f k a0 a1 =
  bnd (ref04_Right.f k a1) fun r0 =>
  br r0
    (br (inB a1.1 16)
      (some (ile a1.2 (rd (.int .i64) a0 (natOf a1.1))))
      (none))
    (some false) := by kernel_rfl
noncomputable def ref05_Has.e (k : Nat) : Entry := Sg.entry ref05_Has.sg fun x => ref05_Has.f k x.1 x.2
set_option maxRecDepth 100000 in
theorem ref05_Has.ok (k : Nat) : CallOK Try.prog 74 (ref05_Has.e k) :=
  fn_ok (c := ref05_Has.cx k) (code := ref05_Has.body) (TT.of tt_ok pp_ok) (fns_ok ⟨(ref04_Right.ok k), trivial⟩) mixed Try.func74 (by kernel_rfl) (by kernel_rfl) (by kernel_rfl) (by kernel_rfl) (by kernel_rfl) (by kernel_rfl) (fun x => by kernel_rfl)
noncomputable def ref06_Has.body : Go.Code := Try.f25.body.getD .skip
noncomputable def ref06_Has.rs : List Go.ResultVar := Try.f25.results.toList
def ref06_Has.regs : List (Nat × RInfo) := [(0, ⟨[2, 3], [2, 3], [0], [], 0, [], [], []⟩),
  (1, ⟨[2, 3, 9], [2, 3], [], [], 0, [], [], []⟩),
  (2, ⟨[4], [], [], [], 0, [], [], []⟩),
  (3, ⟨[2, 3, 5], [2, 3], [], [], 0, [], [], []⟩),
  (4, ⟨[2, 3, 5, 14], [2, 3], [], [], 0, [2, 3, 5], [2, 3], []⟩),
  (6, ⟨[2, 3, 5, 23], [2, 3], [], [], 7, [], [], []⟩),
  (7, ⟨[4], [], [], [], 0, [], [], []⟩),
  (5, ⟨[2, 3, 5], [2, 3], [], [], 0, [], [], []⟩),
  (8, ⟨[4], [], [], [], 0, [], [], []⟩)]
noncomputable def ref06_Has.cx (k : Nat) : Cx := ⟨tt, pp, [(74, (ref05_Has.e k))], ref06_Has.regs, k⟩
@[reducible] def ref06_Has.sg : Sg := ⟨[.dat tDots, .dat tDot], [], .dat .bool, []⟩
noncomputable def ref06_Has.f (k : Nat) (a0 : Ty.D tDots) (a1 : Ty.D tDot) : Option (Sg.Out ref06_Has.sg) := Sg.fn ref06_Has.sg (ref06_Has.cx k) ref06_Has.body ref06_Has.rs (a0, a1)
noncomputable def ref06_Has.l4 (k : Nat) (n : Nat) (x5 : Ty.D (.int .i64)) (m2 : Ty.D tDots) (m3 : Ty.D tDot) : Option (Sg.Out ref06_Has.sg) := loopAt (ref06_Has.cx k) ref06_Has.body [1, 1, 0, 1, 0] 4 [2, 3, 5] [2, 3] [] (Sg.K ref06_Has.sg (ref06_Has.cx k) ref06_Has.rs) n ⟨[(2, .ref 2 []), (3, .ref 3 []), (5, .dat (.int .i64) x5)], [(2, .dat tDots m2), (3, .dat tDot m3)]⟩
set_option maxRecDepth 100000 in
theorem ref06_Has.f_eq (k : Nat) (a0 : Ty.D tDots) (a1 : Ty.D tDot) : ref06_Has.f k a0 a1 =
  bnd (ref05_Has.f k a0.1 a1) fun r0 =>
  br r0
    (some true)
    (ref06_Has.l4 k k 0 a0 a1) := by kernel_rfl
set_option maxRecDepth 100000 in
theorem ref06_Has.l4_eq (k : Nat) (n4 : Nat) (x5 : Ty.D (.int .i64)) (m2 : Ty.D tDots) (m3 : Ty.D tDot) : ref06_Has.l4 k (n4 + 1) x5 m2 m3 =
  br (ilt x5 (ilen m2.2))
    (br (inL x5 m2.2)
      (br (deq tDot (rd tDot m2.2 (natOf x5)) m3)
        (some true)
        (ref06_Has.l4 k n4 (iadd .i64 x5 1) m2 m3))
      (none))
    (some false) := by kernel_rfl
noncomputable def ref06_Has.e (k : Nat) : Entry := Sg.entry ref06_Has.sg fun x => ref06_Has.f k x.1 x.2
set_option maxRecDepth 100000 in
theorem ref06_Has.ok (k : Nat) : CallOK Try.prog 25 (ref06_Has.e k) :=
  fn_ok (c := ref06_Has.cx k) (code := ref06_Has.body) (TT.of tt_ok pp_ok) (fns_ok ⟨(ref05_Has.ok k), trivial⟩) mixed Try.func25 (by kernel_rfl) (by kernel_rfl) (by kernel_rfl) (by kernel_rfl) (by kernel_rfl) (by kernel_rfl) (fun x => by kernel_rfl)
noncomputable def ref04_ints.body : Go.Code := Try.f114.body.getD .skip
noncomputable def ref04_ints.rs : List Go.ResultVar := Try.f114.results.toList
def ref04_ints.regs : List (Nat × RInfo) := [(0, ⟨[0, 1], [], [], [], 0, [], [], []⟩),
  (1, ⟨[0, 1, 7], [], [], [], 0, [], [], []⟩),
  (2, ⟨[4], [], [], [], 0, [], [], []⟩),
  (3, ⟨[10], [], [], [], 0, [], [], []⟩),
  (4, ⟨[4], [], [], [], 0, [], [], []⟩),
  (5, ⟨[4], [], [], [], 0, [], [], []⟩)]
noncomputable def ref04_ints.cx (k : Nat) : Cx := ⟨tt, pp, [], ref04_ints.regs, k⟩
@[reducible] def ref04_ints.sg : Sg := ⟨[.dat (.int .i64), .dat (.int .i64)], [], .dat (.int .i64), []⟩
noncomputable def ref04_ints.f (k : Nat) (a0 : Ty.D (.int .i64)) (a1 : Ty.D (.int .i64)) : Option (Sg.Out ref04_ints.sg) := Sg.fn ref04_ints.sg (ref04_ints.cx k) ref04_ints.body ref04_ints.rs (a0, a1)
set_option maxRecDepth 100000 in
theorem ref04_ints.f_eq (k : Nat) (a0 : Ty.D (.int .i64)) (a1 : Ty.D (.int .i64)) : ref04_ints.f k a0 a1 =
  br (ilt a0 a1)
    (some (-1))
    (br (ilt a1 a0)
      (some 1)
      (some 0)) := by kernel_rfl
noncomputable def ref04_ints.e (k : Nat) : Entry := Sg.entry ref04_ints.sg fun x => ref04_ints.f k x.1 x.2
set_option maxRecDepth 100000 in
theorem ref04_ints.ok (k : Nat) : CallOK Try.prog 114 (ref04_ints.e k) :=
  fn_ok (c := ref04_ints.cx k) (code := ref04_ints.body) (TT.of tt_ok pp_ok) (fns_ok trivial) mixed Try.func114 (by kernel_rfl) (by kernel_rfl) (by kernel_rfl) (by kernel_rfl) (by kernel_rfl) (by kernel_rfl) (fun x => by kernel_rfl)
noncomputable def ref04_Compare.body : Go.Code := Try.f70.body.getD .skip
noncomputable def ref04_Compare.rs : List Go.ResultVar := Try.f70.results.toList
def ref04_Compare.regs : List (Nat × RInfo) := [(0, ⟨[2, 3], [2, 3], [], [], 0, [], [], []⟩),
  (1, ⟨[2, 3, 9], [2, 3], [], [], 0, [], [], []⟩),
  (2, ⟨[4], [], [], [], 0, [], [], []⟩),
  (3, ⟨[4], [], [], [], 0, [], [], []⟩)]
noncomputable def ref04_Compare.cx (k : Nat) : Cx := ⟨tt, pp, [(114, (ref04_ints.e k))], ref04_Compare.regs, k⟩
@[reducible] def ref04_Compare.sg : Sg := ⟨[.dat tDot, .dat tDot], [], .dat (.int .i64), []⟩
noncomputable def ref04_Compare.f (k : Nat) (a0 : Ty.D tDot) (a1 : Ty.D tDot) : Option (Sg.Out ref04_Compare.sg) := Sg.fn ref04_Compare.sg (ref04_Compare.cx k) ref04_Compare.body ref04_Compare.rs (a0, a1)
set_option maxRecDepth 100000 in
theorem ref04_Compare.f_eq (k : Nat) (a0 : Ty.D tDot) (a1 : Ty.D tDot) : ref04_Compare.f k a0 a1 =
  br (bnot (ieq a0.1 a1.1))
    (bnd (ref04_ints.f k a0.1 a1.1) fun r0 =>
    some r0)
    (bnd (ref04_ints.f k a0.2 a1.2) fun r1 =>
    some r1) := by kernel_rfl
noncomputable def ref04_Compare.e (k : Nat) : Entry := Sg.entry ref04_Compare.sg fun x => ref04_Compare.f k x.1 x.2
set_option maxRecDepth 100000 in
theorem ref04_Compare.ok (k : Nat) : CallOK Try.prog 70 (ref04_Compare.e k) :=
  fn_ok (c := ref04_Compare.cx k) (code := ref04_Compare.body) (TT.of tt_ok pp_ok) (fns_ok ⟨(ref04_ints.ok k), trivial⟩) mixed Try.func70 (by kernel_rfl) (by kernel_rfl) (by kernel_rfl) (by kernel_rfl) (by kernel_rfl) (by kernel_rfl) (fun x => by kernel_rfl)
noncomputable def ref06_filled.body : Go.Code := Try.f76.body.getD .skip
noncomputable def ref06_filled.rs : List Go.ResultVar := Try.f76.results.toList
def ref06_filled.regs : List (Nat × RInfo) := [(0, ⟨[1, 2], [1, 2], [0], [], 0, [], [], []⟩),
  (1, ⟨[1, 2, 3], [1, 2, 3], [4], [], 0, [], [], []⟩),
  (2, ⟨[1, 2, 3, 4], [1, 2, 3], [], [], 0, [], [], []⟩),
  (3, ⟨[1, 2, 3, 4, 13], [1, 2, 3], [], [], 0, [1, 2, 3, 4], [1, 2, 3], []⟩),
  (5, ⟨[1, 2, 3, 4, 5], [1, 2, 3, 5], [], [], 0, [], [], []⟩),
  (6, ⟨[1, 2, 3, 4, 5, 29], [1, 2, 3, 5], [], [], 9, [], [], []⟩),
  (7, ⟨[1, 2, 3, 4], [1, 2, 3], [], [], 0, [], [], []⟩),
  (8, ⟨[1, 2, 3, 4, 5, 43], [1, 2, 3, 5], [], [], 8, [], [], []⟩),
  (9, ⟨[1, 2, 3, 4], [1, 2, 3], [1, 4, 6], [], 0, [], [], []⟩),
  (4, ⟨[1, 2, 3, 4], [1, 2, 3], [], [], 0, [], [], []⟩),
  (10, ⟨[2], [2], [1], [], 0, [], [], []⟩)]
noncomputable def ref06_filled.cx (k : Nat) : Cx := ⟨tt, pp, [], ref06_filled.regs, k⟩
@[reducible] def ref06_filled.sg : Sg := ⟨[.dat tDots], [], .dat tDots, []⟩
noncomputable def ref06_filled.f (k : Nat) (a0 : Ty.D tDots) : Option (Sg.Out ref06_filled.sg) := Sg.fn ref06_filled.sg (ref06_filled.cx k) ref06_filled.body ref06_filled.rs a0
noncomputable def ref06_filled.l3 (k : Nat) (n : Nat) (x4 : Ty.D (.int .i64)) (m1 : Ty.D tDots) (m2a : Ty.D tVec) (m2b : List (Ty.D tDot)) (m3a : Ty.D tVec) (m3b : List (Ty.D tDot)) : Option (Sg.Out ref06_filled.sg) := loopAt (ref06_filled.cx k) ref06_filled.body [1, 1, 0, 1, 0] 3 [1, 2, 3, 4] [1, 2, 3] [] (Sg.K ref06_filled.sg (ref06_filled.cx k) ref06_filled.rs) n ⟨[(1, .ref 1 []), (2, .ref 2 []), (3, .ref 3 []), (4, .dat (.int .i64) x4)], [(1, .dat tDots m1), (2, .pr (.dat tVec m2a) (.own tDot m2b)), (3, .pr (.dat tVec m3a) (.own tDot m3b))]⟩
set_option maxRecDepth 100000 in
theorem ref06_filled.f_eq (k : Nat) (a0 : Ty.D tDots) : ref06_filled.f k a0 =
  ref06_filled.l3 k k 0 a0 (zarr 16 0) [] a0.1 [] := by kernel_rfl
set_option maxRecDepth 100000 in
theorem ref06_filled.l3_eq (k : Nat) (n3 : Nat) (x4 : Ty.D (.int .i64)) (m1 : Ty.D tDots) (m2a : Ty.D tVec) (m2b : List (Ty.D tDot)) (m3a : Ty.D tVec) (m3b : List (Ty.D tDot)) : ref06_filled.l3 k (n3 + 1) x4 m1 m2a m2b m3a m3b =
  br (ilt x4 (ilen m1.2))
    (br (inL x4 m1.2)
      (br (inB ((rd tDot m1.2 (natOf x4)).1) 16)
        (br (ieq ((rd tDot m1.2 (natOf x4)).2) (iadd .i64 (rd (.int .i64) m3a (natOf ((rd tDot m1.2 (natOf x4)).1))) 1))
          (br (inB ((rd tDot m1.2 (natOf x4)).1) 16)
            (ref06_filled.l3 k n3 (iadd .i64 x4 1) m1 m2a m2b (upd m3a (natOf ((rd tDot m1.2 (natOf x4)).1)) ((rd tDot m1.2 (natOf x4)).2)) m3b)
            (none))
          (br (inB ((rd tDot m1.2 (natOf x4)).1) 16)
            (br (ilt (rd (.int .i64) m3a (natOf ((rd tDot m1.2 (natOf x4)).1))) ((rd tDot m1.2 (natOf x4)).2))
              (br (room m3b ((rd tDot m1.2 (natOf x4)) :: []))
                (ref06_filled.l3 k n3 (iadd .i64 x4 1) m1 m2a m2b m3a (app m3b ((rd tDot m1.2 (natOf x4)) :: [])))
                (none))
              (ref06_filled.l3 k n3 (iadd .i64 x4 1) m1 m2a m2b m3a m3b))
            (none)))
        (none))
      (none))
    (some (m3a, m3b)) := by kernel_rfl
noncomputable def ref06_filled.e (k : Nat) : Entry := Sg.entry ref06_filled.sg fun x => ref06_filled.f k x
set_option maxRecDepth 100000 in
theorem ref06_filled.ok (k : Nat) : CallOK Try.prog 76 (ref06_filled.e k) :=
  fn_ok (c := ref06_filled.cx k) (code := ref06_filled.body) (TT.of tt_ok pp_ok) (fns_ok trivial) mixed Try.func76 (by kernel_rfl) (by kernel_rfl) (by kernel_rfl) (by kernel_rfl) (by kernel_rfl) (by kernel_rfl) (fun x => by kernel_rfl)
noncomputable def ref06_Put.body : Go.Code := Try.f27.body.getD .skip
noncomputable def ref06_Put.rs : List Go.ResultVar := Try.f27.results.toList
def ref06_Put.regs : List (Nat × RInfo) := [(0, ⟨[2, 3, 4], [2, 3, 4], [0], [], 0, [], [], []⟩),
  (1, ⟨[2, 3, 4, 15], [2, 3, 4], [], [], 0, [], [], []⟩),
  (2, ⟨[4], [4], [1], [], 0, [], [], []⟩),
  (3, ⟨[2, 3, 4, 5], [2, 3, 4], [], [], 0, [], [], []⟩),
  (4, ⟨[2, 3, 4, 5, 6], [2, 3, 4], [], [], 0, [], [], []⟩),
  (5, ⟨[2, 3, 4, 5, 6, 7], [2, 3, 4], [], [], 0, [], [], []⟩),
  (6, ⟨[2, 3, 4, 5, 6, 7, 21], [2, 3, 4], [], [], 0, [2, 3, 4, 5, 6, 7], [2, 3, 4], []⟩),
  (8, ⟨[2, 3, 4, 5, 6, 7, 35], [2, 3, 4], [], [], 12, [], [], []⟩),
  (9, ⟨[2, 3, 4, 5, 7], [2, 3, 4], [0, 3, 4], [], 0, [], [], []⟩),
  (10, ⟨[2, 3, 4, 5, 6, 7], [2, 3, 4], [], [], 0, [], [], []⟩),
  (11, ⟨[2, 3, 4, 5, 6, 7], [2, 3, 4], [0, 7, 8], [], 0, [], [], []⟩),
  (7, ⟨[2, 3, 4, 5, 6, 7], [2, 3, 4], [], [], 0, [], [], []⟩),
  (12, ⟨[2, 3, 4, 5, 49], [2, 3, 4], [], [], 0, [], [], []⟩),
  (13, ⟨[2, 4, 5], [2, 4], [0, 3, 4], [], 0, [], [], []⟩),
  (14, ⟨[4], [4], [5], [], 0, [], [], []⟩)]
noncomputable def ref06_Put.cx (k : Nat) : Cx := ⟨tt, pp, [(17, (ref04_Right.e k)),
  (25, (ref06_Has.e k)),
  (70, (ref04_Compare.e k)),
  (76, (ref06_filled.e k))], ref06_Put.regs, k⟩
@[reducible] def ref06_Put.sg : Sg := ⟨[.dat tDots, .dat tDot], [], .dat tDots, []⟩
noncomputable def ref06_Put.f (k : Nat) (a0 : Ty.D tDots) (a1 : Ty.D tDot) : Option (Sg.Out ref06_Put.sg) := Sg.fn ref06_Put.sg (ref06_Put.cx k) ref06_Put.body ref06_Put.rs (a0, a1)
noncomputable def ref06_Put.l6 (k : Nat) (n : Nat) (x5 : List (Ty.D tDot)) (x6 : Ty.D .bool) (x7 : Ty.D (.int .i64)) (m2 : Ty.D tDots) (m3 : Ty.D tDot) (m4a : Ty.D tVec) (m4b : List (Ty.D tDot)) : Option (Sg.Out ref06_Put.sg) := loopAt (ref06_Put.cx k) ref06_Put.body [1, 1, 1, 1, 0, 1, 0] 6 [2, 3, 4, 5, 6, 7] [2, 3, 4] [] (Sg.K ref06_Put.sg (ref06_Put.cx k) ref06_Put.rs) n ⟨[(2, .ref 2 []), (3, .ref 3 []), (4, .ref 4 []), (5, .own tDot x5), (6, .dat .bool x6), (7, .dat (.int .i64) x7)], [(2, .dat tDots m2), (3, .dat tDot m3), (4, .pr (.dat tVec m4a) (.own tDot m4b))]⟩
set_option maxRecDepth 100000 in
theorem ref06_Put.f_eq (k : Nat) (a0 : Ty.D tDots) (a1 : Ty.D tDot) : ref06_Put.f k a0 a1 =
  bnd (ref04_Right.f k a1) fun r0 =>
  br (bnot r0)
    (some a0)
    (bnd (ref06_Has.f k a0 a1) fun r1 =>
    br r1
      (some a0)
      (ref06_Put.l6 k k [] false 0 a0 a1 (zarr 16 0) [])) := by kernel_rfl
set_option maxRecDepth 100000 in
theorem ref06_Put.l6_eq (k : Nat) (n6 : Nat) (x5 : List (Ty.D tDot)) (x6 : Ty.D .bool) (x7 : Ty.D (.int .i64)) (m2 : Ty.D tDots) (m3 : Ty.D tDot) (m4a : Ty.D tVec) (m4b : List (Ty.D tDot)) : ref06_Put.l6 k (n6 + 1) x5 x6 x7 m2 m3 m4a m4b =
  br (ilt x7 (ilen m2.2))
    (br (bnot x6)
      (br (inL x7 m2.2)
        (bnd (ref04_Compare.f k m3 (rd tDot m2.2 (natOf x7))) fun r0 =>
        br (ilt r0 0)
          (br (room x5 (m3 :: []))
            (br (inL x7 m2.2)
              (br (room (app x5 (m3 :: [])) ((rd tDot m2.2 (natOf x7)) :: []))
                (ref06_Put.l6 k n6 (app (app x5 (m3 :: [])) ((rd tDot m2.2 (natOf x7)) :: [])) true (iadd .i64 x7 1) m2 m3 m4a m4b)
                (none))
              (none))
            (none))
          (br (inL x7 m2.2)
            (br (room x5 ((rd tDot m2.2 (natOf x7)) :: []))
              (ref06_Put.l6 k n6 (app x5 ((rd tDot m2.2 (natOf x7)) :: [])) x6 (iadd .i64 x7 1) m2 m3 m4a m4b)
              (none))
            (none)))
        (none))
      (br (inL x7 m2.2)
        (br (room x5 ((rd tDot m2.2 (natOf x7)) :: []))
          (ref06_Put.l6 k n6 (app x5 ((rd tDot m2.2 (natOf x7)) :: [])) x6 (iadd .i64 x7 1) m2 m3 m4a m4b)
          (none))
        (none)))
    (br (bnot x6)
      (br (room x5 (m3 :: []))
        (bnd (ref06_filled.f k (m2.1, (app x5 (m3 :: [])))) fun r1 =>
        some r1)
        (none))
      (bnd (ref06_filled.f k (m2.1, x5)) fun r2 =>
      some r2)) := by kernel_rfl
noncomputable def ref06_Put.e (k : Nat) : Entry := Sg.entry ref06_Put.sg fun x => ref06_Put.f k x.1 x.2
set_option maxRecDepth 100000 in
theorem ref06_Put.ok (k : Nat) : CallOK Try.prog 27 (ref06_Put.e k) :=
  fn_ok (c := ref06_Put.cx k) (code := ref06_Put.body) (TT.of tt_ok pp_ok) (fns_ok ⟨(ref04_Right.ok k), (ref06_Has.ok k), (ref04_Compare.ok k), (ref06_filled.ok k), trivial⟩) mixed Try.func27 (by kernel_rfl) (by kernel_rfl) (by kernel_rfl) (by kernel_rfl) (by kernel_rfl) (by kernel_rfl) (fun x => by kernel_rfl)
noncomputable def ref06_Of.body : Go.Code := Try.f20.body.getD .skip
noncomputable def ref06_Of.rs : List Go.ResultVar := Try.f20.results.toList
def ref06_Of.regs : List (Nat × RInfo) := [(0, ⟨[0, 2], [2], [], [], 0, [], [], []⟩),
  (1, ⟨[0, 2, 3], [2, 3], [2], [], 0, [], [], []⟩),
  (2, ⟨[0, 2, 3, 4], [2, 3], [], [], 0, [], [], []⟩),
  (3, ⟨[0, 2, 3, 4, 9], [2, 3], [], [], 0, [0, 2, 10000003, 4], [2, 10000003], []⟩),
  (5, ⟨[0, 2, 3, 4], [2, 3], [6], [], 6, [], [], []⟩),
  (4, ⟨[0, 2, 3, 4], [2, 3], [], [], 0, [], [], []⟩),
  (6, ⟨[2], [2], [1], [], 0, [], [], []⟩)]
noncomputable def ref06_Of.cx (k : Nat) : Cx := ⟨tt, pp, [(27, (ref06_Put.e k))], ref06_Of.regs, k⟩
@[reducible] def ref06_Of.sg : Sg := ⟨[.dat (.slc tDot)], [], .dat tDots, []⟩
noncomputable def ref06_Of.f (k : Nat) (a0 : Ty.D (.slc tDot)) : Option (Sg.Out ref06_Of.sg) := Sg.fn ref06_Of.sg (ref06_Of.cx k) ref06_Of.body ref06_Of.rs a0
noncomputable def ref06_Of.l3 (k : Nat) (n : Nat) (x0 : Ty.D (.slc tDot)) (x4 : Ty.D (.int .i64)) (m2a : Ty.D tVec) (m2b : List (Ty.D tDot)) (m3 : Ty.D tDots) : Option (Sg.Out ref06_Of.sg) := loopAt (ref06_Of.cx k) ref06_Of.body [1, 1, 0, 1, 0] 3 [0, 2, 10000003, 4] [2, 10000003] [] (Sg.K ref06_Of.sg (ref06_Of.cx k) ref06_Of.rs) n ⟨[(0, .dat (.slc tDot) x0), (2, .ref 2 []), (3, .ref 3 []), (4, .dat (.int .i64) x4)], [(2, .pr (.dat tVec m2a) (.own tDot m2b)), (3, .dat tDots m3)]⟩
set_option maxRecDepth 100000 in
theorem ref06_Of.f_eq (k : Nat) (a0 : Ty.D (.slc tDot)) : ref06_Of.f k a0 =
  ref06_Of.l3 k k a0 0 (zarr 16 0) [] ((zarr 16 0), []) := by kernel_rfl
set_option maxRecDepth 100000 in
theorem ref06_Of.l3_eq (k : Nat) (n3 : Nat) (x0 : Ty.D (.slc tDot)) (x4 : Ty.D (.int .i64)) (m2a : Ty.D tVec) (m2b : List (Ty.D tDot)) (m3 : Ty.D tDots) : ref06_Of.l3 k (n3 + 1) x0 x4 m2a m2b m3 =
  br (ilt x4 (ilen x0))
    (br (inL x4 x0)
      (bnd (ref06_Put.f k m3 (rd tDot x0 (natOf x4))) fun r0 =>
      ref06_Of.l3 k n3 x0 (iadd .i64 x4 1) m2a m2b r0)
      (none))
    (some m3) := by kernel_rfl
noncomputable def ref06_Of.e (k : Nat) : Entry := Sg.entry ref06_Of.sg fun x => ref06_Of.f k x
set_option maxRecDepth 100000 in
theorem ref06_Of.ok (k : Nat) : CallOK Try.prog 20 (ref06_Of.e k) :=
  fn_ok (c := ref06_Of.cx k) (code := ref06_Of.body) (TT.of tt_ok pp_ok) (fns_ok ⟨(ref06_Put.ok k), trivial⟩) mixed Try.func20 (by kernel_rfl) (by kernel_rfl) (by kernel_rfl) (by kernel_rfl) (by kernel_rfl) (by kernel_rfl) (fun x => by kernel_rfl)
noncomputable def ref04_Same.body : Go.Code := Try.f52.body.getD .skip
noncomputable def ref04_Same.rs : List Go.ResultVar := Try.f52.results.toList
def ref04_Same.regs : List (Nat × RInfo) := [(0, ⟨[0, 1], [], [], [], 0, [], [], []⟩),
  (1, ⟨[0, 1, 10], [], [], [], 0, [], [], []⟩),
  (2, ⟨[4], [], [], [], 0, [], [], []⟩),
  (3, ⟨[0, 1, 5], [], [], [], 0, [], [], []⟩),
  (4, ⟨[0, 1, 5, 14], [], [], [], 0, [0, 1, 5], [], []⟩),
  (6, ⟨[0, 1, 5, 25], [], [], [], 9, [], [], []⟩),
  (7, ⟨[4], [], [], [], 0, [], [], []⟩),
  (5, ⟨[0, 1, 5], [], [], [], 0, [], [], []⟩),
  (8, ⟨[4], [], [], [], 0, [], [], []⟩)]
noncomputable def ref04_Same.cx (k : Nat) : Cx := ⟨tt, pp, [], ref04_Same.regs, k⟩
@[reducible] def ref04_Same.sg : Sg := ⟨[.dat (.slc tDot), .dat (.slc tDot)], [], .dat .bool, []⟩
noncomputable def ref04_Same.f (k : Nat) (a0 : Ty.D (.slc tDot)) (a1 : Ty.D (.slc tDot)) : Option (Sg.Out ref04_Same.sg) := Sg.fn ref04_Same.sg (ref04_Same.cx k) ref04_Same.body ref04_Same.rs (a0, a1)
noncomputable def ref04_Same.l4 (k : Nat) (n : Nat) (x0 : Ty.D (.slc tDot)) (x1 : Ty.D (.slc tDot)) (x5 : Ty.D (.int .i64)) : Option (Sg.Out ref04_Same.sg) := loopAt (ref04_Same.cx k) ref04_Same.body [1, 1, 0, 1, 0] 4 [0, 1, 5] [] [] (Sg.K ref04_Same.sg (ref04_Same.cx k) ref04_Same.rs) n ⟨[(0, .dat (.slc tDot) x0), (1, .dat (.slc tDot) x1), (5, .dat (.int .i64) x5)], []⟩
set_option maxRecDepth 100000 in
theorem ref04_Same.f_eq (k : Nat) (a0 : Ty.D (.slc tDot)) (a1 : Ty.D (.slc tDot)) : ref04_Same.f k a0 a1 =
  br (bnot (ieq (ilen a0) (ilen a1)))
    (some false)
    (ref04_Same.l4 k k a0 a1 0) := by kernel_rfl
set_option maxRecDepth 100000 in
theorem ref04_Same.l4_eq (k : Nat) (n4 : Nat) (x0 : Ty.D (.slc tDot)) (x1 : Ty.D (.slc tDot)) (x5 : Ty.D (.int .i64)) : ref04_Same.l4 k (n4 + 1) x0 x1 x5 =
  br (ilt x5 (ilen x0))
    (br (inL x5 x0)
      (br (inL x5 x1)
        (br (bnot (deq tDot (rd tDot x0 (natOf x5)) (rd tDot x1 (natOf x5))))
          (some false)
          (ref04_Same.l4 k n4 x0 x1 (iadd .i64 x5 1)))
        (none))
      (none))
    (some true) := by kernel_rfl
noncomputable def ref04_Same.e (k : Nat) : Entry := Sg.entry ref04_Same.sg fun x => ref04_Same.f k x.1 x.2
set_option maxRecDepth 100000 in
theorem ref04_Same.ok (k : Nat) : CallOK Try.prog 52 (ref04_Same.e k) :=
  fn_ok (c := ref04_Same.cx k) (code := ref04_Same.body) (TT.of tt_ok pp_ok) (fns_ok trivial) mixed Try.func52 (by kernel_rfl) (by kernel_rfl) (by kernel_rfl) (by kernel_rfl) (by kernel_rfl) (by kernel_rfl) (fun x => by kernel_rfl)
noncomputable def ref06_Same.body : Go.Code := Try.f19.body.getD .skip
noncomputable def ref06_Same.rs : List Go.ResultVar := Try.f19.results.toList
def ref06_Same.regs : List (Nat × RInfo) := [(0, ⟨[2, 3], [2, 3], [0, 1], [], 0, [], [], []⟩),
  (1, ⟨[4], [], [], [], 0, [], [], []⟩)]
noncomputable def ref06_Same.cx (k : Nat) : Cx := ⟨tt, pp, [(52, (ref04_Same.e k))], ref06_Same.regs, k⟩
@[reducible] def ref06_Same.sg : Sg := ⟨[.dat tDots, .dat tDots], [], .dat .bool, []⟩
noncomputable def ref06_Same.f (k : Nat) (a0 : Ty.D tDots) (a1 : Ty.D tDots) : Option (Sg.Out ref06_Same.sg) := Sg.fn ref06_Same.sg (ref06_Same.cx k) ref06_Same.body ref06_Same.rs (a0, a1)
set_option maxRecDepth 100000 in
theorem ref06_Same.f_eq (k : Nat) (a0 : Ty.D tDots) (a1 : Ty.D tDots) : ref06_Same.f k a0 a1 =
  br (deq tVec a0.1 a1.1)
    (bnd (ref04_Same.f k a0.2 a1.2) fun r0 =>
    some r0)
    (some false) := by kernel_rfl
noncomputable def ref06_Same.e (k : Nat) : Entry := Sg.entry ref06_Same.sg fun x => ref06_Same.f k x.1 x.2
set_option maxRecDepth 100000 in
theorem ref06_Same.ok (k : Nat) : CallOK Try.prog 19 (ref06_Same.e k) :=
  fn_ok (c := ref06_Same.cx k) (code := ref06_Same.body) (TT.of tt_ok pp_ok) (fns_ok ⟨(ref04_Same.ok k), trivial⟩) mixed Try.func19 (by kernel_rfl) (by kernel_rfl) (by kernel_rfl) (by kernel_rfl) (by kernel_rfl) (by kernel_rfl) (fun x => by kernel_rfl)
noncomputable def ref05_Right.body : Go.Code := Try.f69.body.getD .skip
noncomputable def ref05_Right.rs : List Go.ResultVar := Try.f69.results.toList
def ref05_Right.regs : List (Nat × RInfo) := [(0, ⟨[1], [1], [], [], 0, [], [], []⟩),
  (1, ⟨[1, 3], [1], [], [], 0, [], [], []⟩),
  (2, ⟨[1, 3, 5], [1], [], [], 0, [1, 3], [1], []⟩),
  (4, ⟨[1, 3, 17], [1], [], [], 0, [], [], []⟩),
  (5, ⟨[2], [], [], [], 0, [], [], []⟩),
  (3, ⟨[1, 3], [1], [], [], 0, [], [], []⟩),
  (6, ⟨[2], [], [], [], 0, [], [], []⟩)]
noncomputable def ref05_Right.cx (k : Nat) : Cx := ⟨tt, pp, [], ref05_Right.regs, k⟩
@[reducible] def ref05_Right.sg : Sg := ⟨[.dat tVec], [], .dat .bool, []⟩
noncomputable def ref05_Right.f (k : Nat) (a0 : Ty.D tVec) : Option (Sg.Out ref05_Right.sg) := Sg.fn ref05_Right.sg (ref05_Right.cx k) ref05_Right.body ref05_Right.rs a0
noncomputable def ref05_Right.l2 (k : Nat) (n : Nat) (x3 : Ty.D (.int .i64)) (m1 : Ty.D tVec) : Option (Sg.Out ref05_Right.sg) := loopAt (ref05_Right.cx k) ref05_Right.body [1, 0, 1, 0] 2 [1, 3] [1] [] (Sg.K ref05_Right.sg (ref05_Right.cx k) ref05_Right.rs) n ⟨[(1, .ref 1 []), (3, .dat (.int .i64) x3)], [(1, .dat tVec m1)]⟩
set_option maxRecDepth 100000 in
theorem ref05_Right.f_eq (k : Nat) (a0 : Ty.D tVec) : ref05_Right.f k a0 =
  ref05_Right.l2 k k 0 a0 := by kernel_rfl
set_option maxRecDepth 100000 in
theorem ref05_Right.l2_eq (k : Nat) (n2 : Nat) (x3 : Ty.D (.int .i64)) (m1 : Ty.D tVec) : ref05_Right.l2 k (n2 + 1) x3 m1 =
  br (ilt x3 16)
    (br (inB x3 16)
      (br (ilt (rd (.int .i64) m1 (natOf x3)) 0)
        (some false)
        (br (inB x3 16)
          (br (ilt 1048576 (rd (.int .i64) m1 (natOf x3)))
            (some false)
            (ref05_Right.l2 k n2 (iadd .i64 x3 1) m1))
          (none)))
      (none))
    (some true) := by kernel_rfl
noncomputable def ref05_Right.e (k : Nat) : Entry := Sg.entry ref05_Right.sg fun x => ref05_Right.f k x
set_option maxRecDepth 100000 in
theorem ref05_Right.ok (k : Nat) : CallOK Try.prog 69 (ref05_Right.e k) :=
  fn_ok (c := ref05_Right.cx k) (code := ref05_Right.body) (TT.of tt_ok pp_ok) (fns_ok trivial) mixed Try.func69 (by kernel_rfl) (by kernel_rfl) (by kernel_rfl) (by kernel_rfl) (by kernel_rfl) (by kernel_rfl) (fun x => by kernel_rfl)
noncomputable def ref06_Right.body : Go.Code := Try.f22.body.getD .skip
noncomputable def ref06_Right.rs : List Go.ResultVar := Try.f22.results.toList
def ref06_Right.regs : List (Nat × RInfo) := [(0, ⟨[1], [1], [0], [], 0, [], [], []⟩),
  (1, ⟨[1, 14], [1], [], [], 0, [], [], []⟩),
  (2, ⟨[2], [], [], [], 0, [], [], []⟩),
  (3, ⟨[1, 3], [1], [], [], 0, [], [], []⟩),
  (4, ⟨[1, 3, 19], [1], [], [], 0, [1, 3], [1], []⟩),
  (6, ⟨[1, 3, 4], [1, 4], [], [], 0, [], [], []⟩),
  (7, ⟨[1, 3, 4, 40], [1, 4], [], [], 14, [], [], []⟩),
  (8, ⟨[2], [], [], [], 0, [], [], []⟩),
  (9, ⟨[1, 3, 53], [1], [], [], 13, [], [], []⟩),
  (10, ⟨[2], [], [], [], 0, [], [], []⟩),
  (5, ⟨[1, 3], [1], [], [], 0, [], [], []⟩),
  (11, ⟨[2], [], [], [], 0, [], [], []⟩)]
noncomputable def ref06_Right.cx (k : Nat) : Cx := ⟨tt, pp, [(69, (ref05_Right.e k)),
  (17, (ref04_Right.e k)),
  (70, (ref04_Compare.e k))], ref06_Right.regs, k⟩
@[reducible] def ref06_Right.sg : Sg := ⟨[.dat tDots], [], .dat .bool, []⟩
noncomputable def ref06_Right.f (k : Nat) (a0 : Ty.D tDots) : Option (Sg.Out ref06_Right.sg) := Sg.fn ref06_Right.sg (ref06_Right.cx k) ref06_Right.body ref06_Right.rs a0
noncomputable def ref06_Right.l4 (k : Nat) (n : Nat) (x3 : Ty.D (.int .i64)) (m1 : Ty.D tDots) : Option (Sg.Out ref06_Right.sg) := loopAt (ref06_Right.cx k) ref06_Right.body [1, 1, 0, 1, 0] 4 [1, 3] [1] [] (Sg.K ref06_Right.sg (ref06_Right.cx k) ref06_Right.rs) n ⟨[(1, .ref 1 []), (3, .dat (.int .i64) x3)], [(1, .dat tDots m1)]⟩
set_option maxRecDepth 100000 in
theorem ref06_Right.f_eq (k : Nat) (a0 : Ty.D tDots) : ref06_Right.f k a0 =
  bnd (ref05_Right.f k a0.1) fun r0 =>
  br (bnot r0)
    (some false)
    (br (ilt 4096 (ilen a0.2))
      (some false)
      (ref06_Right.l4 k k 0 a0)) := by kernel_rfl
set_option maxRecDepth 100000 in
theorem ref06_Right.l4_eq (k : Nat) (n4 : Nat) (x3 : Ty.D (.int .i64)) (m1 : Ty.D tDots) : ref06_Right.l4 k (n4 + 1) x3 m1 =
  br (ilt x3 (ilen m1.2))
    (br (inL x3 m1.2)
      (bnd (ref04_Right.f k (rd tDot m1.2 (natOf x3))) fun r0 =>
      br (bnot r0)
        (some false)
        (br (inB ((rd tDot m1.2 (natOf x3)).1) 16)
          (br (ile (isub .i64 ((rd tDot m1.2 (natOf x3)).2) 1) (rd (.int .i64) m1.1 (natOf ((rd tDot m1.2 (natOf x3)).1))))
            (some false)
            (br (ilt 0 x3)
              (br (inL (isub .i64 x3 1) m1.2)
                (bnd (ref04_Compare.f k (rd tDot m1.2 (natOf (isub .i64 x3 1))) (rd tDot m1.2 (natOf x3))) fun r1 =>
                br (bnot (ieq r1 (-1)))
                  (some false)
                  (ref06_Right.l4 k n4 (iadd .i64 x3 1) m1))
                (none))
              (ref06_Right.l4 k n4 (iadd .i64 x3 1) m1)))
          (none)))
      (none))
    (some true) := by kernel_rfl
noncomputable def ref06_Right.e (k : Nat) : Entry := Sg.entry ref06_Right.sg fun x => ref06_Right.f k x
set_option maxRecDepth 100000 in
theorem ref06_Right.ok (k : Nat) : CallOK Try.prog 22 (ref06_Right.e k) :=
  fn_ok (c := ref06_Right.cx k) (code := ref06_Right.body) (TT.of tt_ok pp_ok) (fns_ok ⟨(ref05_Right.ok k), (ref04_Right.ok k), (ref04_Compare.ok k), trivial⟩) mixed Try.func22 (by kernel_rfl) (by kernel_rfl) (by kernel_rfl) (by kernel_rfl) (by kernel_rfl) (by kernel_rfl) (fun x => by kernel_rfl)
noncomputable def law06_DotsOrder.body : Go.Code := Try.f4.body.getD .skip
noncomputable def law06_DotsOrder.rs : List Go.ResultVar := Try.f4.results.toList
def law06_DotsOrder.regs : List (Nat × RInfo) := [(0, ⟨[0, 3], [3], [], [], 0, [], [], []⟩),
  (1, ⟨[0, 3, 11], [3], [], [], 0, [], [], []⟩),
  (2, ⟨[4], [], [], [], 0, [], [], []⟩),
  (3, ⟨[0, 3, 5], [3], [], [], 0, [], [], []⟩),
  (4, ⟨[0, 3, 5, 6], [3], [], [], 0, [], [], []⟩),
  (5, ⟨[0, 3, 5, 6, 7], [3], [], [], 0, [], [], []⟩),
  (6, ⟨[0, 3, 5, 6, 7, 17], [3], [], [], 0, [0, 3, 5, 6, 7], [3], []⟩),
  (8, ⟨[0, 3, 5, 6, 7], [3], [0, 6, 7], [], 0, [], [], []⟩),
  (9, ⟨[0, 3, 5, 6, 7], [3], [], [], 13, [], [], []⟩),
  (7, ⟨[0, 3, 5, 6, 7], [3], [], [], 0, [], [], []⟩),
  (10, ⟨[0, 3, 5, 6, 8], [3, 8], [3], [], 0, [], [], []⟩),
  (11, ⟨[4], [], [], [], 24, [], [], []⟩)]
noncomputable def law06_DotsOrder.cx (k : Nat) : Cx := ⟨tt, pp, [(16, (law06_awake.e k)),
  (17, (ref04_Right.e k)),
  (18, (dots_Of.e k)),
  (20, (ref06_Of.e k)),
  (19, (ref06_Same.e k)),
  (21, (dots_Same.e k)),
  (22, (ref06_Right.e k)),
  (23, (dots_Has.e k))], law06_DotsOrder.regs, k⟩
@[reducible] def law06_DotsOrder.sg : Sg := ⟨[.dat (.slc tDot), .dat tDot], [], .dat .bool, []⟩
noncomputable def law06_DotsOrder.f (k : Nat) (a0 : Ty.D (.slc tDot)) (a1 : Ty.D tDot) : Option (Sg.Out law06_DotsOrder.sg) := Sg.fn law06_DotsOrder.sg (law06_DotsOrder.cx k) law06_DotsOrder.body law06_DotsOrder.rs (a0, a1)
noncomputable def law06_DotsOrder.l6 (k : Nat) (n : Nat) (x0 : Ty.D (.slc tDot)) (x5 : List (Ty.D tDot)) (x6 : Ty.D .bool) (x7 : Ty.D (.int .i64)) (m3 : Ty.D tDot) : Option (Sg.Out law06_DotsOrder.sg) := loopAt (law06_DotsOrder.cx k) law06_DotsOrder.body [1, 1, 1, 1, 0, 1, 0] 6 [0, 3, 5, 6, 7] [3] [] (Sg.K law06_DotsOrder.sg (law06_DotsOrder.cx k) law06_DotsOrder.rs) n ⟨[(0, .dat (.slc tDot) x0), (3, .ref 3 []), (5, .own tDot x5), (6, .dat .bool x6), (7, .dat (.int .i64) x7)], [(3, .dat tDot m3)]⟩
set_option maxRecDepth 100000 in
theorem law06_DotsOrder.f_eq (k : Nat) (a0 : Ty.D (.slc tDot)) (a1 : Ty.D tDot) : law06_DotsOrder.f k a0 a1 =
  br (ilt 60 (ilen a0))
    (bnd (law06_awake.f k) fun r0 =>
    some r0)
    (law06_DotsOrder.l6 k k a0 [] false (isub .i64 (ilen a0) 1) a1) := by kernel_rfl
set_option maxRecDepth 100000 in
theorem law06_DotsOrder.l6_eq (k : Nat) (n6 : Nat) (x0 : Ty.D (.slc tDot)) (x5 : List (Ty.D tDot)) (x6 : Ty.D .bool) (x7 : Ty.D (.int .i64)) (m3 : Ty.D tDot) : law06_DotsOrder.l6 k (n6 + 1) x0 x5 x6 x7 m3 =
  br (ile 0 x7)
    (br (inL x7 x0)
      (br (room x5 ((rd tDot x0 (natOf x7)) :: []))
        (br x6
          (law06_DotsOrder.l6 k n6 x0 (app x5 ((rd tDot x0 (natOf x7)) :: [])) true (isub .i64 x7 1) m3)
          (br (inL x7 x0)
            (br (deq tDot (rd tDot x0 (natOf x7)) m3)
              (bnd (ref04_Right.f k m3) fun r0 =>
              law06_DotsOrder.l6 k n6 x0 (app x5 ((rd tDot x0 (natOf x7)) :: [])) r0 (isub .i64 x7 1) m3)
              (law06_DotsOrder.l6 k n6 x0 (app x5 ((rd tDot x0 (natOf x7)) :: [])) false (isub .i64 x7 1) m3))
            (none)))
        (none))
      (none))
    (bnd (dots_Of.f k x0) fun r1 =>
    bnd (ref06_Of.f k x0) fun r2 =>
    bnd (ref06_Same.f k r1 r2) fun r3 =>
    br r3
      (bnd (dots_Of.f k x5) fun r4 =>
      bnd (dots_Same.f k r1 r4) fun r5 =>
      br r5
        (bnd (ref06_Right.f k r1) fun r6 =>
        br r6
          (bnd (dots_Has.f k r1 m3) fun r7 =>
          br (deq .bool r7 x6)
            (bnd (law06_awake.f k) fun r8 =>
            some r8)
            (some false))
          (some false))
        (some false))
      (some false)) := by kernel_rfl
noncomputable def law06_DotsOrder.e (k : Nat) : Entry := Sg.entry law06_DotsOrder.sg fun x => law06_DotsOrder.f k x.1 x.2
set_option maxRecDepth 100000 in
theorem law06_DotsOrder.ok (k : Nat) : CallOK Try.prog 4 (law06_DotsOrder.e k) :=
  fn_ok (c := law06_DotsOrder.cx k) (code := law06_DotsOrder.body) (TT.of tt_ok pp_ok) (fns_ok ⟨(law06_awake.ok k), (ref04_Right.ok k), (dots_Of.ok k), (ref06_Of.ok k), (ref06_Same.ok k), (dots_Same.ok k), (ref06_Right.ok k), (dots_Has.ok k), trivial⟩) mixed Try.func4 (by kernel_rfl) (by kernel_rfl) (by kernel_rfl) (by kernel_rfl) (by kernel_rfl) (by kernel_rfl) (fun x => by kernel_rfl)
noncomputable def vec_Right.body : Go.Code := Try.f73.body.getD .skip
noncomputable def vec_Right.rs : List Go.ResultVar := Try.f73.results.toList
def vec_Right.regs : List (Nat × RInfo) := [(0, ⟨[1], [1], [], [], 0, [], [], []⟩),
  (1, ⟨[5, 6], [], [], [], 0, [], [], []⟩),
  (2, ⟨[5, 6, 7], [], [], [], 0, [5, 6], [], []⟩),
  (3, ⟨[4, 5, 6], [], [], [], 0, [], [], []⟩),
  (4, ⟨[5, 6, 14], [], [], [], 0, [], [], []⟩),
  (5, ⟨[2], [], [], [], 0, [], [], []⟩),
  (6, ⟨[5, 6], [], [], [], 0, [], [], []⟩),
  (7, ⟨[2], [], [], [], 0, [], [], []⟩)]
noncomputable def vec_Right.cx (k : Nat) : Cx := ⟨tt, pp, [], vec_Right.regs, k⟩
@[reducible] def vec_Right.sg : Sg := ⟨[.dat tVec], [], .dat .bool, []⟩
noncomputable def vec_Right.f (k : Nat) (a0 : Ty.D tVec) : Option (Sg.Out vec_Right.sg) := Sg.fn vec_Right.sg (vec_Right.cx k) vec_Right.body vec_Right.rs a0
noncomputable def vec_Right.l2 (k : Nat) (n : Nat) (x5 : Ty.D tVec) (x6 : Ty.D (.int .i64)) : Option (Sg.Out vec_Right.sg) := loopAt (vec_Right.cx k) vec_Right.body [1, 0, 1, 0] 2 [5, 6] [] [] (Sg.K vec_Right.sg (vec_Right.cx k) vec_Right.rs) n ⟨[(5, .dat tVec x5), (6, .dat (.int .i64) x6)], []⟩
set_option maxRecDepth 100000 in
theorem vec_Right.f_eq (k : Nat) (a0 : Ty.D tVec) : vec_Right.f k a0 =
  vec_Right.l2 k k a0 0 := by kernel_rfl
set_option maxRecDepth 100000 in
theorem vec_Right.l2_eq (k : Nat) (n2 : Nat) (x5 : Ty.D tVec) (x6 : Ty.D (.int .i64)) : vec_Right.l2 k (n2 + 1) x5 x6 =
  br (ilt x6 16)
    (br (inB x6 16)
      (br (ilt (rd (.int .i64) x5 (natOf x6)) 0)
        (some false)
        (br (ilt 1048576 (rd (.int .i64) x5 (natOf x6)))
          (some false)
          (vec_Right.l2 k n2 x5 (iadd .i64 x6 1))))
      (none))
    (some true) := by kernel_rfl
noncomputable def vec_Right.e (k : Nat) : Entry := Sg.entry vec_Right.sg fun x => vec_Right.f k x
set_option maxRecDepth 100000 in
theorem vec_Right.ok (k : Nat) : CallOK Try.prog 73 (vec_Right.e k) :=
  fn_ok (c := vec_Right.cx k) (code := vec_Right.body) (TT.of tt_ok pp_ok) (fns_ok trivial) mixed Try.func73 (by kernel_rfl) (by kernel_rfl) (by kernel_rfl) (by kernel_rfl) (by kernel_rfl) (by kernel_rfl) (fun x => by kernel_rfl)
noncomputable def dots_Right.body : Go.Code := Try.f24.body.getD .skip
noncomputable def dots_Right.rs : List Go.ResultVar := Try.f24.results.toList
def dots_Right.regs : List (Nat × RInfo) := [(0, ⟨[1], [1], [0], [], 0, [], [], []⟩),
  (1, ⟨[1, 14], [1], [], [], 0, [], [], []⟩),
  (2, ⟨[2], [], [], [], 0, [], [], []⟩),
  (3, ⟨[1, 16, 17, 18], [1], [], [], 0, [], [], []⟩),
  (4, ⟨[1, 16, 17, 18, 19], [1], [], [], 0, [1, 16, 17, 18], [1], []⟩),
  (5, ⟨[1, 3, 4, 16, 17, 18], [1, 4], [], [], 0, [], [], []⟩),
  (6, ⟨[1, 16, 17, 18, 51], [1], [], [], 29, [], [], []⟩),
  (7, ⟨[2], [], [], [], 0, [], [], []⟩),
  (8, ⟨[1, 16, 17, 18], [1], [], [], 0, [], [], []⟩),
  (9, ⟨[2], [], [], [], 0, [], [], []⟩)]
noncomputable def dots_Right.cx (k : Nat) : Cx := ⟨tt, pp, [(73, (vec_Right.e k)),
  (64, (dot_Right.e k)),
  (66, (dot_Compare.e k))], dots_Right.regs, k⟩
@[reducible] def dots_Right.sg : Sg := ⟨[.dat tDots], [], .dat .bool, []⟩
noncomputable def dots_Right.f (k : Nat) (a0 : Ty.D tDots) : Option (Sg.Out dots_Right.sg) := Sg.fn dots_Right.sg (dots_Right.cx k) dots_Right.body dots_Right.rs a0
noncomputable def dots_Right.l4 (k : Nat) (n : Nat) (x16 : Ty.D (.slc tDot)) (x17 : Ty.D (.int .i64)) (x18 : Ty.D (.int .i64)) (m1 : Ty.D tDots) : Option (Sg.Out dots_Right.sg) := loopAt (dots_Right.cx k) dots_Right.body [1, 1, 0, 1, 0] 4 [1, 16, 17, 18] [1] [] (Sg.K dots_Right.sg (dots_Right.cx k) dots_Right.rs) n ⟨[(1, .ref 1 []), (16, .dat (.slc tDot) x16), (17, .dat (.int .i64) x17), (18, .dat (.int .i64) x18)], [(1, .dat tDots m1)]⟩
set_option maxRecDepth 100000 in
theorem dots_Right.f_eq (k : Nat) (a0 : Ty.D tDots) : dots_Right.f k a0 =
  bnd (vec_Right.f k a0.1) fun r0 =>
  br (bnot r0)
    (some false)
    (br (ilt 4096 (ilen a0.2))
      (some false)
      (dots_Right.l4 k k a0.2 (ilen a0.2) 0 a0)) := by kernel_rfl
set_option maxRecDepth 100000 in
theorem dots_Right.l4_eq (k : Nat) (n4 : Nat) (x16 : Ty.D (.slc tDot)) (x17 : Ty.D (.int .i64)) (x18 : Ty.D (.int .i64)) (m1 : Ty.D tDots) : dots_Right.l4 k (n4 + 1) x16 x17 x18 m1 =
  br (ilt x18 x17)
    (br (inL x18 x16)
      (bnd (dot_Right.f k (rd tDot x16 (natOf x18))) fun r0 =>
      br (bnot r0)
        (some false)
        (br (inB ((rd tDot x16 (natOf x18)).1) 16)
          (br (ile ((rd tDot x16 (natOf x18)).2) (iadd .i64 (rd (.int .i64) m1.1 (natOf ((rd tDot x16 (natOf x18)).1))) 1))
            (some false)
            (br (ilt 0 x18)
              (br (inL (isub .i64 x18 1) m1.2)
                (bnd (dot_Compare.f k (rd tDot m1.2 (natOf (isub .i64 x18 1))) (rd tDot x16 (natOf x18))) fun r1 =>
                br (ile 0 r1)
                  (some false)
                  (dots_Right.l4 k n4 x16 x17 (iadd .i64 x18 1) m1))
                (none))
              (dots_Right.l4 k n4 x16 x17 (iadd .i64 x18 1) m1)))
          (none)))
      (none))
    (some true) := by kernel_rfl
noncomputable def dots_Right.e (k : Nat) : Entry := Sg.entry dots_Right.sg fun x => dots_Right.f k x
set_option maxRecDepth 100000 in
theorem dots_Right.ok (k : Nat) : CallOK Try.prog 24 (dots_Right.e k) :=
  fn_ok (c := dots_Right.cx k) (code := dots_Right.body) (TT.of tt_ok pp_ok) (fns_ok ⟨(vec_Right.ok k), (dot_Right.ok k), (dot_Compare.ok k), trivial⟩) mixed Try.func24 (by kernel_rfl) (by kernel_rfl) (by kernel_rfl) (by kernel_rfl) (by kernel_rfl) (by kernel_rfl) (fun x => by kernel_rfl)
noncomputable def dots_Next.body : Go.Code := Try.f28.body.getD .skip
noncomputable def dots_Next.rs : List Go.ResultVar := Try.f28.results.toList
def dots_Next.regs : List (Nat × RInfo) := [(0, ⟨[1, 2], [2], [0], [], 0, [], [], []⟩),
  (1, ⟨[1, 2, 13], [2], [], [], 0, [], [], []⟩),
  (2, ⟨[4], [], [], [], 0, [], [], []⟩),
  (3, ⟨[1, 2, 5], [2], [], [], 0, [], [], []⟩),
  (4, ⟨[1, 5, 19, 20, 21], [], [], [], 0, [], [], []⟩),
  (5, ⟨[1, 5, 19, 20, 21, 22], [], [], [], 0, [1, 5, 19, 20, 21], [], []⟩),
  (6, ⟨[1, 5, 7, 19, 20, 21], [7], [], [], 0, [], [], []⟩),
  (7, ⟨[1, 5, 7, 19, 20, 21, 28], [7], [], [], 0, [], [], []⟩),
  (8, ⟨[1, 5, 19, 20, 21], [], [], [], 0, [], [], []⟩),
  (9, ⟨[1, 5, 19, 20, 21], [], [], [], 0, [], [], []⟩),
  (10, ⟨[4], [], [], [], 0, [], [], []⟩)]
noncomputable def dots_Next.cx (k : Nat) : Cx := ⟨tt, pp, [], dots_Next.regs, k⟩
@[reducible] def dots_Next.sg : Sg := ⟨[.dat tDots, .dat (.int .i64)], [], .dat (.int .i64), []⟩
noncomputable def dots_Next.f (k : Nat) (a0 : Ty.D tDots) (a1 : Ty.D (.int .i64)) : Option (Sg.Out dots_Next.sg) := Sg.fn dots_Next.sg (dots_Next.cx k) dots_Next.body dots_Next.rs (a0, a1)
noncomputable def dots_Next.l5 (k : Nat) (n : Nat) (x1 : Ty.D (.int .i64)) (x5 : Ty.D (.int .i64)) (x19 : Ty.D (.slc tDot)) (x20 : Ty.D (.int .i64)) (x21 : Ty.D (.int .i64)) : Option (Sg.Out dots_Next.sg) := loopAt (dots_Next.cx k) dots_Next.body [1, 1, 1, 0, 1, 0] 5 [1, 5, 19, 20, 21] [] [] (Sg.K dots_Next.sg (dots_Next.cx k) dots_Next.rs) n ⟨[(1, .dat (.int .i64) x1), (5, .dat (.int .i64) x5), (19, .dat (.slc tDot) x19), (20, .dat (.int .i64) x20), (21, .dat (.int .i64) x21)], []⟩
set_option maxRecDepth 100000 in
theorem dots_Next.f_eq (k : Nat) (a0 : Ty.D tDots) (a1 : Ty.D (.int .i64)) : dots_Next.f k a0 a1 =
  br (ilt a1 0)
    (some 0)
    (br (ile 16 a1)
      (some 0)
      (br (inB a1 16)
        (dots_Next.l5 k k a1 (rd (.int .i64) a0.1 (natOf a1)) a0.2 (ilen a0.2) 0)
        (none))) := by kernel_rfl
set_option maxRecDepth 100000 in
theorem dots_Next.l5_eq (k : Nat) (n5 : Nat) (x1 : Ty.D (.int .i64)) (x5 : Ty.D (.int .i64)) (x19 : Ty.D (.slc tDot)) (x20 : Ty.D (.int .i64)) (x21 : Ty.D (.int .i64)) : dots_Next.l5 k (n5 + 1) x1 x5 x19 x20 x21 =
  br (ilt x21 x20)
    (br (inL x21 x19)
      (br (ieq ((rd tDot x19 (natOf x21)).1) x1)
        (dots_Next.l5 k n5 x1 ((rd tDot x19 (natOf x21)).2) x19 x20 (iadd .i64 x21 1))
        (dots_Next.l5 k n5 x1 x5 x19 x20 (iadd .i64 x21 1)))
      (none))
    (some (iadd .i64 x5 1)) := by kernel_rfl
noncomputable def dots_Next.e (k : Nat) : Entry := Sg.entry dots_Next.sg fun x => dots_Next.f k x.1 x.2
set_option maxRecDepth 100000 in
theorem dots_Next.ok (k : Nat) : CallOK Try.prog 28 (dots_Next.e k) :=
  fn_ok (c := dots_Next.cx k) (code := dots_Next.body) (TT.of tt_ok pp_ok) (fns_ok trivial) mixed Try.func28 (by kernel_rfl) (by kernel_rfl) (by kernel_rfl) (by kernel_rfl) (by kernel_rfl) (by kernel_rfl) (fun x => by kernel_rfl)
noncomputable def ref06_Next.body : Go.Code := Try.f29.body.getD .skip
noncomputable def ref06_Next.rs : List Go.ResultVar := Try.f29.results.toList
def ref06_Next.regs : List (Nat × RInfo) := [(0, ⟨[1, 2], [2], [0], [], 0, [], [], []⟩),
  (1, ⟨[1, 2, 12], [2], [], [], 0, [], [], []⟩),
  (2, ⟨[4], [], [], [], 0, [], [], []⟩),
  (3, ⟨[1, 2, 5], [2], [], [], 0, [], [], []⟩),
  (4, ⟨[1, 2, 5, 6], [2], [], [], 0, [], [], []⟩),
  (5, ⟨[1, 2, 5, 6, 21], [2], [], [], 0, [1, 2, 5, 6], [2], []⟩),
  (7, ⟨[1, 2, 5, 6, 41], [2], [], [], 0, [], [], []⟩),
  (8, ⟨[1, 2, 5, 6], [2], [], [], 0, [], [], []⟩),
  (6, ⟨[1, 2, 5, 6], [2], [], [], 0, [], [], []⟩),
  (9, ⟨[4], [], [], [], 0, [], [], []⟩)]
noncomputable def ref06_Next.cx (k : Nat) : Cx := ⟨tt, pp, [], ref06_Next.regs, k⟩
@[reducible] def ref06_Next.sg : Sg := ⟨[.dat tDots, .dat (.int .i64)], [], .dat (.int .i64), []⟩
noncomputable def ref06_Next.f (k : Nat) (a0 : Ty.D tDots) (a1 : Ty.D (.int .i64)) : Option (Sg.Out ref06_Next.sg) := Sg.fn ref06_Next.sg (ref06_Next.cx k) ref06_Next.body ref06_Next.rs (a0, a1)
noncomputable def ref06_Next.l5 (k : Nat) (n : Nat) (x1 : Ty.D (.int .i64)) (x5 : Ty.D (.int .i64)) (x6 : Ty.D (.int .i64)) (m2 : Ty.D tDots) : Option (Sg.Out ref06_Next.sg) := loopAt (ref06_Next.cx k) ref06_Next.body [1, 1, 1, 0, 1, 0] 5 [1, 2, 5, 6] [2] [] (Sg.K ref06_Next.sg (ref06_Next.cx k) ref06_Next.rs) n ⟨[(1, .dat (.int .i64) x1), (2, .ref 2 []), (5, .dat (.int .i64) x5), (6, .dat (.int .i64) x6)], [(2, .dat tDots m2)]⟩
set_option maxRecDepth 100000 in
theorem ref06_Next.f_eq (k : Nat) (a0 : Ty.D tDots) (a1 : Ty.D (.int .i64)) : ref06_Next.f k a0 a1 =
  br (ilt a1 0)
    (some 0)
    (br (ilt 15 a1)
      (some 0)
      (br (inB a1 16)
        (ref06_Next.l5 k k a1 (rd (.int .i64) a0.1 (natOf a1)) 0 a0)
        (none))) := by kernel_rfl
set_option maxRecDepth 100000 in
theorem ref06_Next.l5_eq (k : Nat) (n5 : Nat) (x1 : Ty.D (.int .i64)) (x5 : Ty.D (.int .i64)) (x6 : Ty.D (.int .i64)) (m2 : Ty.D tDots) : ref06_Next.l5 k (n5 + 1) x1 x5 x6 m2 =
  br (ilt x6 (ilen m2.2))
    (br (inL x6 m2.2)
      (br (ieq ((rd tDot m2.2 (natOf x6)).1) x1)
        (br (inL x6 m2.2)
          (br (ilt x5 ((rd tDot m2.2 (natOf x6)).2))
            (br (inL x6 m2.2)
              (ref06_Next.l5 k n5 x1 ((rd tDot m2.2 (natOf x6)).2) (iadd .i64 x6 1) m2)
              (none))
            (ref06_Next.l5 k n5 x1 x5 (iadd .i64 x6 1) m2))
          (none))
        (ref06_Next.l5 k n5 x1 x5 (iadd .i64 x6 1) m2))
      (none))
    (some (iadd .i64 x5 1)) := by kernel_rfl
noncomputable def ref06_Next.e (k : Nat) : Entry := Sg.entry ref06_Next.sg fun x => ref06_Next.f k x.1 x.2
set_option maxRecDepth 100000 in
theorem ref06_Next.ok (k : Nat) : CallOK Try.prog 29 (ref06_Next.e k) :=
  fn_ok (c := ref06_Next.cx k) (code := ref06_Next.body) (TT.of tt_ok pp_ok) (fns_ok trivial) mixed Try.func29 (by kernel_rfl) (by kernel_rfl) (by kernel_rfl) (by kernel_rfl) (by kernel_rfl) (by kernel_rfl) (fun x => by kernel_rfl)
noncomputable def vec_Count.body : Go.Code := Try.f77.body.getD .skip
noncomputable def vec_Count.rs : List Go.ResultVar := Try.f77.results.toList
def vec_Count.regs : List (Nat × RInfo) := [(0, ⟨[1], [1], [], [], 0, [], [], []⟩),
  (1, ⟨[1, 3], [1], [], [], 0, [], [], []⟩),
  (2, ⟨[3, 6, 7], [], [], [], 0, [], [], []⟩),
  (3, ⟨[3, 6, 7, 8], [], [], [], 0, [3, 6, 7], [], []⟩),
  (4, ⟨[3, 5, 6, 7], [], [], [], 0, [], [], []⟩),
  (5, ⟨[3, 6, 7], [], [], [], 0, [], [], []⟩),
  (6, ⟨[3, 6, 7], [], [], [], 0, [], [], []⟩),
  (7, ⟨[2], [], [], [], 0, [], [], []⟩)]
noncomputable def vec_Count.cx (k : Nat) : Cx := ⟨tt, pp, [], vec_Count.regs, k⟩
@[reducible] def vec_Count.sg : Sg := ⟨[.dat tVec], [], .dat (.int .i64), []⟩
noncomputable def vec_Count.f (k : Nat) (a0 : Ty.D tVec) : Option (Sg.Out vec_Count.sg) := Sg.fn vec_Count.sg (vec_Count.cx k) vec_Count.body vec_Count.rs a0
noncomputable def vec_Count.l3 (k : Nat) (n : Nat) (x3 : Ty.D (.int .i64)) (x6 : Ty.D tVec) (x7 : Ty.D (.int .i64)) : Option (Sg.Out vec_Count.sg) := loopAt (vec_Count.cx k) vec_Count.body [1, 1, 0, 1, 0] 3 [3, 6, 7] [] [] (Sg.K vec_Count.sg (vec_Count.cx k) vec_Count.rs) n ⟨[(3, .dat (.int .i64) x3), (6, .dat tVec x6), (7, .dat (.int .i64) x7)], []⟩
set_option maxRecDepth 100000 in
theorem vec_Count.f_eq (k : Nat) (a0 : Ty.D tVec) : vec_Count.f k a0 =
  vec_Count.l3 k k 0 a0 0 := by kernel_rfl
set_option maxRecDepth 100000 in
theorem vec_Count.l3_eq (k : Nat) (n3 : Nat) (x3 : Ty.D (.int .i64)) (x6 : Ty.D tVec) (x7 : Ty.D (.int .i64)) : vec_Count.l3 k (n3 + 1) x3 x6 x7 =
  br (ilt x7 16)
    (br (inB x7 16)
      (vec_Count.l3 k n3 (iadd .i64 x3 (imax 0 (rd (.int .i64) x6 (natOf x7)))) x6 (iadd .i64 x7 1))
      (none))
    (some x3) := by kernel_rfl
noncomputable def vec_Count.e (k : Nat) : Entry := Sg.entry vec_Count.sg fun x => vec_Count.f k x
set_option maxRecDepth 100000 in
theorem vec_Count.ok (k : Nat) : CallOK Try.prog 77 (vec_Count.e k) :=
  fn_ok (c := vec_Count.cx k) (code := vec_Count.body) (TT.of tt_ok pp_ok) (fns_ok trivial) mixed Try.func77 (by kernel_rfl) (by kernel_rfl) (by kernel_rfl) (by kernel_rfl) (by kernel_rfl) (by kernel_rfl) (fun x => by kernel_rfl)
noncomputable def dots_Count.body : Go.Code := Try.f30.body.getD .skip
noncomputable def dots_Count.rs : List Go.ResultVar := Try.f30.results.toList
def dots_Count.regs : List (Nat × RInfo) := [(0, ⟨[1], [1], [0], [], 0, [], [], []⟩),
  (1, ⟨[2], [], [], [], 7, [], [], []⟩)]
noncomputable def dots_Count.cx (k : Nat) : Cx := ⟨tt, pp, [(77, (vec_Count.e k))], dots_Count.regs, k⟩
@[reducible] def dots_Count.sg : Sg := ⟨[.dat tDots], [], .dat (.int .i64), []⟩
noncomputable def dots_Count.f (k : Nat) (a0 : Ty.D tDots) : Option (Sg.Out dots_Count.sg) := Sg.fn dots_Count.sg (dots_Count.cx k) dots_Count.body dots_Count.rs a0
set_option maxRecDepth 100000 in
theorem dots_Count.f_eq (k : Nat) (a0 : Ty.D tDots) : dots_Count.f k a0 =
  bnd (vec_Count.f k a0.1) fun r0 =>
  some (iadd .i64 r0 (ilen a0.2)) := by kernel_rfl
noncomputable def dots_Count.e (k : Nat) : Entry := Sg.entry dots_Count.sg fun x => dots_Count.f k x
set_option maxRecDepth 100000 in
theorem dots_Count.ok (k : Nat) : CallOK Try.prog 30 (dots_Count.e k) :=
  fn_ok (c := dots_Count.cx k) (code := dots_Count.body) (TT.of tt_ok pp_ok) (fns_ok ⟨(vec_Count.ok k), trivial⟩) mixed Try.func30 (by kernel_rfl) (by kernel_rfl) (by kernel_rfl) (by kernel_rfl) (by kernel_rfl) (by kernel_rfl) (fun x => by kernel_rfl)
noncomputable def law06_count.body : Go.Code := Try.f31.body.getD .skip
noncomputable def law06_count.rs : List Go.ResultVar := Try.f31.results.toList
def law06_count.regs : List (Nat × RInfo) := [(0, ⟨[1], [1], [0], [], 0, [], [], []⟩),
  (1, ⟨[1, 3], [1], [], [], 0, [], [], []⟩),
  (2, ⟨[1, 3, 4], [1], [], [], 0, [], [], []⟩),
  (3, ⟨[1, 3, 4, 9], [1], [], [], 0, [1, 3, 4], [1], []⟩),
  (5, ⟨[1, 3, 4], [1], [], [], 0, [], [], []⟩),
  (4, ⟨[1, 3, 4], [1], [], [], 0, [], [], []⟩),
  (6, ⟨[2], [], [], [], 0, [], [], []⟩)]
noncomputable def law06_count.cx (k : Nat) : Cx := ⟨tt, pp, [], law06_count.regs, k⟩
@[reducible] def law06_count.sg : Sg := ⟨[.dat tDots], [], .dat (.int .i64), []⟩
noncomputable def law06_count.f (k : Nat) (a0 : Ty.D tDots) : Option (Sg.Out law06_count.sg) := Sg.fn law06_count.sg (law06_count.cx k) law06_count.body law06_count.rs a0
noncomputable def law06_count.l3 (k : Nat) (n : Nat) (x3 : Ty.D (.int .i64)) (x4 : Ty.D (.int .i64)) (m1 : Ty.D tDots) : Option (Sg.Out law06_count.sg) := loopAt (law06_count.cx k) law06_count.body [1, 1, 0, 1, 0] 3 [1, 3, 4] [1] [] (Sg.K law06_count.sg (law06_count.cx k) law06_count.rs) n ⟨[(1, .ref 1 []), (3, .dat (.int .i64) x3), (4, .dat (.int .i64) x4)], [(1, .dat tDots m1)]⟩
set_option maxRecDepth 100000 in
theorem law06_count.f_eq (k : Nat) (a0 : Ty.D tDots) : law06_count.f k a0 =
  law06_count.l3 k k (ilen a0.2) 0 a0 := by kernel_rfl
set_option maxRecDepth 100000 in
theorem law06_count.l3_eq (k : Nat) (n3 : Nat) (x3 : Ty.D (.int .i64)) (x4 : Ty.D (.int .i64)) (m1 : Ty.D tDots) : law06_count.l3 k (n3 + 1) x3 x4 m1 =
  br (ilt x4 16)
    (br (inB x4 16)
      (law06_count.l3 k n3 (iadd .i64 x3 (rd (.int .i64) m1.1 (natOf x4))) (iadd .i64 x4 1) m1)
      (none))
    (some x3) := by kernel_rfl
noncomputable def law06_count.e (k : Nat) : Entry := Sg.entry law06_count.sg fun x => law06_count.f k x
set_option maxRecDepth 100000 in
theorem law06_count.ok (k : Nat) : CallOK Try.prog 31 (law06_count.e k) :=
  fn_ok (c := law06_count.cx k) (code := law06_count.body) (TT.of tt_ok pp_ok) (fns_ok trivial) mixed Try.func31 (by kernel_rfl) (by kernel_rfl) (by kernel_rfl) (by kernel_rfl) (by kernel_rfl) (by kernel_rfl) (fun x => by kernel_rfl)
noncomputable def law06_DotsTell.body : Go.Code := Try.f5.body.getD .skip
noncomputable def law06_DotsTell.rs : List Go.ResultVar := Try.f5.results.toList
def law06_DotsTell.regs : List (Nat × RInfo) := [(0, ⟨[2, 3, 4], [3, 4], [0], [], 0, [], [], []⟩),
  (1, ⟨[2, 3, 4, 10], [3, 4], [], [], 0, [], [], []⟩),
  (2, ⟨[6], [], [], [], 0, [], [], []⟩),
  (3, ⟨[2, 3, 4, 16], [3, 4], [], [], 5, [], [], []⟩),
  (4, ⟨[6], [], [], [], 0, [], [], []⟩),
  (5, ⟨[2, 3, 4, 19], [3, 4], [], [], 0, [], [], []⟩),
  (6, ⟨[6], [], [], [], 0, [], [], []⟩),
  (7, ⟨[6], [], [], [], 35, [], [], []⟩)]
noncomputable def law06_DotsTell.cx (k : Nat) : Cx := ⟨tt, pp, [(16, (law06_awake.e k)),
  (24, (dots_Right.e k)),
  (22, (ref06_Right.e k)),
  (23, (dots_Has.e k)),
  (25, (ref06_Has.e k)),
  (26, (dots_Put.e k)),
  (27, (ref06_Put.e k)),
  (19, (ref06_Same.e k)),
  (28, (dots_Next.e k)),
  (29, (ref06_Next.e k)),
  (30, (dots_Count.e k)),
  (31, (law06_count.e k))], law06_DotsTell.regs, k⟩
@[reducible] def law06_DotsTell.sg : Sg := ⟨[.dat tDots, .dat tDot, .dat (.int .i64)], [], .dat .bool, []⟩
noncomputable def law06_DotsTell.f (k : Nat) (a0 : Ty.D tDots) (a1 : Ty.D tDot) (a2 : Ty.D (.int .i64)) : Option (Sg.Out law06_DotsTell.sg) := Sg.fn law06_DotsTell.sg (law06_DotsTell.cx k) law06_DotsTell.body law06_DotsTell.rs (a0, a1, a2)
set_option maxRecDepth 100000 in
theorem law06_DotsTell.f_eq (k : Nat) (a0 : Ty.D tDots) (a1 : Ty.D tDot) (a2 : Ty.D (.int .i64)) : law06_DotsTell.f k a0 a1 a2 =
  br (ilt 100 (ilen a0.2))
    (bnd (law06_awake.f k) fun r0 =>
    some r0)
    (bnd (dots_Right.f k a0) fun r1 =>
    bnd (ref06_Right.f k a0) fun r2 =>
    br (bnot (deq .bool r1 r2))
      (some false)
      (bnd (ref06_Right.f k a0) fun r3 =>
      br (bnot r3)
        (bnd (law06_awake.f k) fun r4 =>
        some r4)
        (bnd (dots_Has.f k a0 a1) fun r5 =>
        bnd (ref06_Has.f k a0 a1) fun r6 =>
        br (deq .bool r5 r6)
          (bnd (dots_Put.f k a0 a1) fun r7 =>
          bnd (ref06_Put.f k a0 a1) fun r8 =>
          bnd (ref06_Same.f k r7 r8) fun r9 =>
          br r9
            (bnd (dots_Next.f k a0 a2) fun r10 =>
            bnd (ref06_Next.f k a0 a2) fun r11 =>
            br (ieq r10 r11)
              (bnd (dots_Count.f k a0) fun r12 =>
              bnd (law06_count.f k a0) fun r13 =>
              br (ieq r12 r13)
                (bnd (law06_awake.f k) fun r14 =>
                some r14)
                (some false))
              (some false))
            (some false))
          (some false)))) := by kernel_rfl
noncomputable def law06_DotsTell.e (k : Nat) : Entry := Sg.entry law06_DotsTell.sg fun x => law06_DotsTell.f k x.1 x.2.1 x.2.2
set_option maxRecDepth 100000 in
theorem law06_DotsTell.ok (k : Nat) : CallOK Try.prog 5 (law06_DotsTell.e k) :=
  fn_ok (c := law06_DotsTell.cx k) (code := law06_DotsTell.body) (TT.of tt_ok pp_ok) (fns_ok ⟨(law06_awake.ok k), (dots_Right.ok k), (ref06_Right.ok k), (dots_Has.ok k), (ref06_Has.ok k), (dots_Put.ok k), (ref06_Put.ok k), (ref06_Same.ok k), (dots_Next.ok k), (ref06_Next.ok k), (dots_Count.ok k), (law06_count.ok k), trivial⟩) mixed Try.func5 (by kernel_rfl) (by kernel_rfl) (by kernel_rfl) (by kernel_rfl) (by kernel_rfl) (by kernel_rfl) (fun x => by kernel_rfl)
noncomputable def ref06_Good.body : Go.Code := Try.f32.body.getD .skip
noncomputable def ref06_Good.rs : List Go.ResultVar := Try.f32.results.toList
def ref06_Good.regs : List (Nat × RInfo) := [(0, ⟨[1], [1], [0], [], 0, [], [], []⟩),
  (1, ⟨[2], [], [], [], 0, [], [], []⟩)]
noncomputable def ref06_Good.cx (k : Nat) : Cx := ⟨tt, pp, [(22, (ref06_Right.e k))], ref06_Good.regs, k⟩
@[reducible] def ref06_Good.sg : Sg := ⟨[.dat tDots], [], .dat .bool, []⟩
noncomputable def ref06_Good.f (k : Nat) (a0 : Ty.D tDots) : Option (Sg.Out ref06_Good.sg) := Sg.fn ref06_Good.sg (ref06_Good.cx k) ref06_Good.body ref06_Good.rs a0
set_option maxRecDepth 100000 in
theorem ref06_Good.f_eq (k : Nat) (a0 : Ty.D tDots) : ref06_Good.f k a0 =
  br (ile (ilen a0.2) 100)
    (bnd (ref06_Right.f k a0) fun r0 =>
    some r0)
    (some false) := by kernel_rfl
noncomputable def ref06_Good.e (k : Nat) : Entry := Sg.entry ref06_Good.sg fun x => ref06_Good.f k x
set_option maxRecDepth 100000 in
theorem ref06_Good.ok (k : Nat) : CallOK Try.prog 32 (ref06_Good.e k) :=
  fn_ok (c := ref06_Good.cx k) (code := ref06_Good.body) (TT.of tt_ok pp_ok) (fns_ok ⟨(ref06_Right.ok k), trivial⟩) mixed Try.func32 (by kernel_rfl) (by kernel_rfl) (by kernel_rfl) (by kernel_rfl) (by kernel_rfl) (by kernel_rfl) (fun x => by kernel_rfl)
noncomputable def slices_Concat_api_Dot_api_Dot.body : Go.Code := Try.f78.body.getD .skip
noncomputable def slices_Concat_api_Dot_api_Dot.rs : List Go.ResultVar := Try.f78.results.toList
def slices_Concat_api_Dot_api_Dot.regs : List (Nat × RInfo) := [(0, ⟨[0], [], [], [], 0, [], [], []⟩),
  (1, ⟨[0, 3], [], [], [], 0, [], [], []⟩),
  (2, ⟨[0, 3, 9, 10, 11], [], [], [], 0, [], [], []⟩),
  (3, ⟨[0, 3, 9, 10, 11, 12], [], [], [], 0, [0, 3, 9, 10, 11], [], []⟩),
  (4, ⟨[0, 3, 5, 9, 10, 11], [], [2], [], 0, [], [], []⟩),
  (5, ⟨[0, 3, 9, 10, 11], [], [], [], 0, [], [], []⟩),
  (6, ⟨[0, 3, 9, 10, 11, 20], [], [], [], 0, [], [], []⟩),
  (7, ⟨[0, 3, 9, 10, 11], [], [], [], 0, [], [], []⟩),
  (8, ⟨[0, 3, 9, 10, 11], [], [], [], 0, [], [], []⟩),
  (9, ⟨[0, 6], [], [2], [], 0, [], [], []⟩),
  (10, ⟨[6, 25, 26, 27], [], [], [], 0, [], [], []⟩),
  (11, ⟨[6, 25, 26, 27, 28], [], [], [], 0, [6, 25, 26, 27], [], []⟩),
  (12, ⟨[6, 8, 25, 26, 27], [], [2], [], 0, [], [], []⟩),
  (13, ⟨[6, 25, 26, 27], [], [0, 2, 3], [], 0, [], [], []⟩),
  (14, ⟨[6, 25, 26, 27], [], [], [], 0, [], [], []⟩),
  (15, ⟨[2], [], [0, 1], [], 0, [], [], []⟩)]
noncomputable def slices_Concat_api_Dot_api_Dot.cx (k : Nat) : Cx := ⟨tt, pp, [(117, (growE tDot))], slices_Concat_api_Dot_api_Dot.regs, k⟩
@[reducible] def slices_Concat_api_Dot_api_Dot.sg : Sg := ⟨[.dat (.slc (.slc tDot))], [], .raw tDot, []⟩
noncomputable def slices_Concat_api_Dot_api_Dot.f (k : Nat) (a0 : Ty.D (.slc (.slc tDot))) : Option (Sg.Out slices_Concat_api_Dot_api_Dot.sg) := Sg.fn slices_Concat_api_Dot_api_Dot.sg (slices_Concat_api_Dot_api_Dot.cx k) slices_Concat_api_Dot_api_Dot.body slices_Concat_api_Dot_api_Dot.rs a0
noncomputable def slices_Concat_api_Dot_api_Dot.l3 (k : Nat) (n : Nat) (x0 : Ty.D (.slc (.slc tDot))) (x3 : Ty.D (.int .i64)) (x9 : Ty.D (.slc (.slc tDot))) (x10 : Ty.D (.int .i64)) (x11 : Ty.D (.int .i64)) : Option (Sg.Out slices_Concat_api_Dot_api_Dot.sg) := loopAt (slices_Concat_api_Dot_api_Dot.cx k) slices_Concat_api_Dot_api_Dot.body [1, 1, 0, 1, 0] 3 [0, 3, 9, 10, 11] [] [] (Sg.K slices_Concat_api_Dot_api_Dot.sg (slices_Concat_api_Dot_api_Dot.cx k) slices_Concat_api_Dot_api_Dot.rs) n ⟨[(0, .dat (.slc (.slc tDot)) x0), (3, .dat (.int .i64) x3), (9, .dat (.slc (.slc tDot)) x9), (10, .dat (.int .i64) x10), (11, .dat (.int .i64) x11)], []⟩
noncomputable def slices_Concat_api_Dot_api_Dot.l11 (k : Nat) (n : Nat) (x6 : List (Ty.D tDot)) (x25 : Ty.D (.slc (.slc tDot))) (x26 : Ty.D (.int .i64)) (x27 : Ty.D (.int .i64)) : Option (Sg.Out slices_Concat_api_Dot_api_Dot.sg) := loopAt (slices_Concat_api_Dot_api_Dot.cx k) slices_Concat_api_Dot_api_Dot.body [1, 1, 1, 1, 0, 1, 0] 11 [6, 25, 26, 27] [] [] (Sg.K slices_Concat_api_Dot_api_Dot.sg (slices_Concat_api_Dot_api_Dot.cx k) slices_Concat_api_Dot_api_Dot.rs) n ⟨[(6, .own tDot x6), (25, .dat (.slc (.slc tDot)) x25), (26, .dat (.int .i64) x26), (27, .dat (.int .i64) x27)], []⟩
set_option maxRecDepth 100000 in
theorem slices_Concat_api_Dot_api_Dot.f_eq (k : Nat) (a0 : Ty.D (.slc (.slc tDot))) : slices_Concat_api_Dot_api_Dot.f k a0 =
  slices_Concat_api_Dot_api_Dot.l3 k k a0 0 a0 (ilen a0) 0 := by kernel_rfl
set_option maxRecDepth 100000 in
theorem slices_Concat_api_Dot_api_Dot.l3_eq (k : Nat) (n3 : Nat) (x0 : Ty.D (.slc (.slc tDot))) (x3 : Ty.D (.int .i64)) (x9 : Ty.D (.slc (.slc tDot))) (x10 : Ty.D (.int .i64)) (x11 : Ty.D (.int .i64)) : slices_Concat_api_Dot_api_Dot.l3 k (n3 + 1) x0 x3 x9 x10 x11 =
  br (ilt x11 x10)
    (br (inL x11 x9)
      (br (ilt (iadd .i64 x3 (ilen (rd (.slc tDot) x9 (natOf x11)))) 0)
        (none)
        (slices_Concat_api_Dot_api_Dot.l3 k n3 x0 (iadd .i64 x3 (ilen (rd (.slc tDot) x9 (natOf x11)))) x9 x10 (iadd .i64 x11 1)))
      (none))
    (br (ilt x3 0)
      (none)
      (br (ilt 4294967296 x3)
        (none)
        (br (room ([] : List Int) ([] : List Int))
          (slices_Concat_api_Dot_api_Dot.l11 k k [] x0 (ilen x0) 0)
          (none)))) := by kernel_rfl
set_option maxRecDepth 100000 in
theorem slices_Concat_api_Dot_api_Dot.l11_eq (k : Nat) (n11 : Nat) (x6 : List (Ty.D tDot)) (x25 : Ty.D (.slc (.slc tDot))) (x26 : Ty.D (.int .i64)) (x27 : Ty.D (.int .i64)) : slices_Concat_api_Dot_api_Dot.l11 k (n11 + 1) x6 x25 x26 x27 =
  br (ilt x27 x26)
    (br (inL x27 x25)
      (br (room x6 (rd (.slc tDot) x25 (natOf x27)))
        (slices_Concat_api_Dot_api_Dot.l11 k n11 (app x6 (rd (.slc tDot) x25 (natOf x27))) x25 x26 (iadd .i64 x27 1))
        (none))
      (none))
    (some x6) := by kernel_rfl
noncomputable def slices_Concat_api_Dot_api_Dot.e (k : Nat) : Entry := Sg.entry slices_Concat_api_Dot_api_Dot.sg fun x => slices_Concat_api_Dot_api_Dot.f k x
set_option maxRecDepth 100000 in
theorem slices_Concat_api_Dot_api_Dot.ok (k : Nat) : CallOK Try.prog 78 (slices_Concat_api_Dot_api_Dot.e k) :=
  fn_ok (c := slices_Concat_api_Dot_api_Dot.cx k) (code := slices_Concat_api_Dot_api_Dot.body) (TT.of tt_ok pp_ok) (fns_ok ⟨grow117, trivial⟩) mixed Try.func78 (by kernel_rfl) (by kernel_rfl) (by kernel_rfl) (by kernel_rfl) (by kernel_rfl) (by kernel_rfl) (fun x => by kernel_rfl)
noncomputable def vec_Join_1.body : Go.Code := Try.f119.body.getD .skip
noncomputable def vec_Join_1.rs : List Go.ResultVar := Try.f119.results.toList
def vec_Join_1.regs : List (Nat × RInfo) := [(0, ⟨[0, 1], [], [], [], 0, [], [], []⟩),
  (1, ⟨[4], [], [], [], 0, [], [], []⟩)]
noncomputable def vec_Join_1.cx (k : Nat) : Cx := ⟨tt, pp, [], vec_Join_1.regs, k⟩
@[reducible] def vec_Join_1.sg : Sg := ⟨[.dat (.int .i64), .dat (.int .i64)], [], .dat (.int .i64), []⟩
noncomputable def vec_Join_1.f (k : Nat) (a0 : Ty.D (.int .i64)) (a1 : Ty.D (.int .i64)) : Option (Sg.Out vec_Join_1.sg) := Sg.fn vec_Join_1.sg (vec_Join_1.cx k) vec_Join_1.body vec_Join_1.rs (a0, a1)
set_option maxRecDepth 100000 in
theorem vec_Join_1.f_eq (k : Nat) (a0 : Ty.D (.int .i64)) (a1 : Ty.D (.int .i64)) : vec_Join_1.f k a0 a1 =
  some (imax a0 a1) := by kernel_rfl
noncomputable def vec_Join_1.e (k : Nat) : Entry := Sg.entry vec_Join_1.sg fun x => vec_Join_1.f k x.1 x.2
set_option maxRecDepth 100000 in
theorem vec_Join_1.ok (k : Nat) : CallOK Try.prog 119 (vec_Join_1.e k) :=
  fn_ok (c := vec_Join_1.cx k) (code := vec_Join_1.body) (TT.of tt_ok pp_ok) (fns_ok trivial) mixed Try.func119 (by kernel_rfl) (by kernel_rfl) (by kernel_rfl) (by kernel_rfl) (by kernel_rfl) (by kernel_rfl) (fun x => by kernel_rfl)
noncomputable def vec_both_119.body : Go.Code := Try.f118.body.getD .skip
noncomputable def vec_both_119.rs : List Go.ResultVar := Try.f118.results.toList
def vec_both_119.regs : List (Nat × RInfo) := [(0, ⟨[2, 3, 4, 6], [3, 4, 6], [], [], 0, [], [], []⟩),
  (1, ⟨[2, 3, 4, 6, 8], [3, 4, 6], [], [], 0, [], [], []⟩),
  (2, ⟨[2, 3, 4, 6, 8, 9], [3, 4, 6], [], [], 0, [2, 3, 4, 6, 8], [3, 4, 6], []⟩),
  (3, ⟨[2, 3, 4, 6, 7, 8], [3, 4, 6], [], [], 0, [], [], []⟩),
  (4, ⟨[2, 3, 4, 6, 8], [3, 4, 6], [], [], 9, [], [], []⟩),
  (5, ⟨[2, 3, 4, 6, 8], [3, 4, 6], [], [], 0, [], [], []⟩),
  (6, ⟨[6], [6], [], [], 0, [], [], []⟩)]
noncomputable def vec_both_119.cx (k : Nat) : Cx := ⟨tt, pp, [(119, (vec_Join_1.e k))], vec_both_119.regs, k⟩
@[reducible] def vec_both_119.sg : Sg := ⟨[.dat tVec, .dat tVec, .fn 119 0], [], .dat tVec, []⟩
noncomputable def vec_both_119.f (k : Nat) (a0 : Ty.D tVec) (a1 : Ty.D tVec) : Option (Sg.Out vec_both_119.sg) := Sg.fn vec_both_119.sg (vec_both_119.cx k) vec_both_119.body vec_both_119.rs (a0, a1)
noncomputable def vec_both_119.l2 (k : Nat) (n : Nat) (x8 : Ty.D (.int .i64)) (m3 : Ty.D tVec) (m4 : Ty.D tVec) (m6 : Ty.D tVec) : Option (Sg.Out vec_both_119.sg) := loopAt (vec_both_119.cx k) vec_both_119.body [1, 0, 1, 0] 2 [2, 3, 4, 6, 8] [3, 4, 6] [] (Sg.K vec_both_119.sg (vec_both_119.cx k) vec_both_119.rs) n ⟨[(2, .fn 119 []), (3, .ref 3 []), (4, .ref 4 []), (6, .ref 6 []), (8, .dat (.int .i64) x8)], [(3, .dat tVec m3), (4, .dat tVec m4), (6, .dat tVec m6)]⟩
set_option maxRecDepth 100000 in
theorem vec_both_119.f_eq (k : Nat) (a0 : Ty.D tVec) (a1 : Ty.D tVec) : vec_both_119.f k a0 a1 =
  vec_both_119.l2 k k 0 a0 a1 (zarr 16 0) := by kernel_rfl
set_option maxRecDepth 100000 in
theorem vec_both_119.l2_eq (k : Nat) (n2 : Nat) (x8 : Ty.D (.int .i64)) (m3 : Ty.D tVec) (m4 : Ty.D tVec) (m6 : Ty.D tVec) : vec_both_119.l2 k (n2 + 1) x8 m3 m4 m6 =
  br (ilt x8 16)
    (br (inB x8 16)
      (br (inB x8 16)
        (bnd (vec_Join_1.f k (rd (.int .i64) m3 (natOf x8)) (rd (.int .i64) m4 (natOf x8))) fun r0 =>
        br (inB x8 16)
          (vec_both_119.l2 k n2 (iadd .i64 x8 1) (upd m3 (natOf x8) r0) m4 m6)
          (none))
        (none))
      (none))
    (some m3) := by kernel_rfl
noncomputable def vec_both_119.e (k : Nat) : Entry := Sg.entry vec_both_119.sg fun x => vec_both_119.f k x.1 x.2
set_option maxRecDepth 100000 in
theorem vec_both_119.ok (k : Nat) : CallOK Try.prog 118 (vec_both_119.e k) :=
  fn_ok (c := vec_both_119.cx k) (code := vec_both_119.body) (TT.of tt_ok pp_ok) (fns_ok ⟨(vec_Join_1.ok k), trivial⟩) mixed Try.func118 (by kernel_rfl) (by kernel_rfl) (by kernel_rfl) (by kernel_rfl) (by kernel_rfl) (by kernel_rfl) (fun x => by kernel_rfl)
noncomputable def vec_Join.body : Go.Code := Try.f79.body.getD .skip
noncomputable def vec_Join.rs : List Go.ResultVar := Try.f79.results.toList
def vec_Join.regs : List (Nat × RInfo) := [(0, ⟨[2, 3, 4], [2, 3, 4], [], [], 0, [], [], []⟩),
  (1, ⟨[4], [4], [], [], 0, [], [], []⟩)]
noncomputable def vec_Join.cx (k : Nat) : Cx := ⟨tt, pp, [(118, (vec_both_119.e k)),
  (119, (vec_Join_1.e k))], vec_Join.regs, k⟩
@[reducible] def vec_Join.sg : Sg := ⟨[.dat tVec, .dat tVec], [], .dat tVec, []⟩
noncomputable def vec_Join.f (k : Nat) (a0 : Ty.D tVec) (a1 : Ty.D tVec) : Option (Sg.Out vec_Join.sg) := Sg.fn vec_Join.sg (vec_Join.cx k) vec_Join.body vec_Join.rs (a0, a1)
set_option maxRecDepth 100000 in
theorem vec_Join.f_eq (k : Nat) (a0 : Ty.D tVec) (a1 : Ty.D tVec) : vec_Join.f k a0 a1 =
  bnd (vec_both_119.f k a0 a1) fun r0 =>
  some r0 := by kernel_rfl
noncomputable def vec_Join.e (k : Nat) : Entry := Sg.entry vec_Join.sg fun x => vec_Join.f k x.1 x.2
set_option maxRecDepth 100000 in
theorem vec_Join.ok (k : Nat) : CallOK Try.prog 79 (vec_Join.e k) :=
  fn_ok (c := vec_Join.cx k) (code := vec_Join.body) (TT.of tt_ok pp_ok) (fns_ok ⟨(vec_both_119.ok k), (vec_Join_1.ok k), trivial⟩) mixed Try.func79 (by kernel_rfl) (by kernel_rfl) (by kernel_rfl) (by kernel_rfl) (by kernel_rfl) (by kernel_rfl) (fun x => by kernel_rfl)
noncomputable def dots_Union.body : Go.Code := Try.f33.body.getD .skip
noncomputable def dots_Union.rs : List Go.ResultVar := Try.f33.results.toList
def dots_Union.regs : List (Nat × RInfo) := [(0, ⟨[2, 3, 4], [2, 3, 4], [0, 1], [], 0, [], [], [0, 1]⟩),
  (1, ⟨[2, 3, 4, 5], [2, 3, 4], [6], [], 0, [], [], [2, 3]⟩),
  (2, ⟨[2, 3, 4, 5], [2, 3, 4], [0, 1], [0], 0, [], [], []⟩),
  (3, ⟨[4], [4], [7], [], 0, [], [], [2, 3, 5, 4]⟩)]
noncomputable def dots_Union.cx (k : Nat) : Cx := ⟨tt, pp, [(78, (slices_Concat_api_Dot_api_Dot.e k)),
  (65, (sortE tDot 66 dotLt)),
  (66, (dot_Compare.e k)),
  (79, (vec_Join.e k)),
  (67, (dots_made.e k))], dots_Union.regs, k⟩
@[reducible] def dots_Union.sg : Sg := ⟨[.dat tDots, .dat tDots], [], .dat tDots, []⟩
noncomputable def dots_Union.f (k : Nat) (a0 : Ty.D tDots) (a1 : Ty.D tDots) : Option (Sg.Out dots_Union.sg) := Sg.fn dots_Union.sg (dots_Union.cx k) dots_Union.body dots_Union.rs (a0, a1)
set_option maxRecDepth 100000 in
theorem dots_Union.f_eq (k : Nat) (a0 : Ty.D tDots) (a1 : Ty.D tDots) : dots_Union.f k a0 a1 =
  bnd (slices_Concat_api_Dot_api_Dot.f k (a0.2 :: (a1.2 :: []))) fun r0 =>
  br (room ([] : List Int) r0)
    (bnd (vec_Join.f k a0.1 a1.1) fun r1 =>
    bnd (dots_made.f k r1 (isort dotLt r0)) fun r2 =>
    some r2)
    (none) := by kernel_rfl
noncomputable def dots_Union.e (k : Nat) : Entry := Sg.entry dots_Union.sg fun x => dots_Union.f k x.1 x.2
set_option maxRecDepth 100000 in
theorem dots_Union.ok (k : Nat) : CallOK Try.prog 33 (dots_Union.e k) :=
  fn_ok (c := dots_Union.cx k) (code := dots_Union.body) (TT.of tt_ok pp_ok) (fns_ok ⟨(slices_Concat_api_Dot_api_Dot.ok k), sort65, (dot_Compare.ok k), (vec_Join.ok k), (dots_made.ok k), trivial⟩) mixed Try.func33 (by kernel_rfl) (by kernel_rfl) (by kernel_rfl) (by kernel_rfl) (by kernel_rfl) (by kernel_rfl) (fun x => by kernel_rfl)
noncomputable def ref05_Join.body : Go.Code := Try.f80.body.getD .skip
noncomputable def ref05_Join.rs : List Go.ResultVar := Try.f80.results.toList
def ref05_Join.regs : List (Nat × RInfo) := [(0, ⟨[2, 3, 4], [2, 3, 4], [], [], 0, [], [], []⟩),
  (1, ⟨[2, 3, 4, 5], [2, 3, 4, 5], [], [], 0, [], [], []⟩),
  (2, ⟨[2, 3, 4, 5, 6], [2, 3, 4, 5], [], [], 0, [], [], []⟩),
  (3, ⟨[2, 3, 4, 5, 6, 9], [2, 3, 4, 5], [], [], 0, [2, 3, 4, 5, 6], [2, 3, 4, 5], []⟩),
  (5, ⟨[2, 3, 4, 5, 6, 18], [2, 3, 4, 5], [], [], 7, [], [], []⟩),
  (6, ⟨[2, 3, 4, 5, 6], [2, 3, 4, 5], [], [], 0, [], [], []⟩),
  (4, ⟨[2, 3, 4, 5, 6], [2, 3, 4, 5], [], [], 0, [], [], []⟩),
  (7, ⟨[4], [4], [], [], 0, [], [], []⟩)]
noncomputable def ref05_Join.cx (k : Nat) : Cx := ⟨tt, pp, [], ref05_Join.regs, k⟩
@[reducible] def ref05_Join.sg : Sg := ⟨[.dat tVec, .dat tVec], [], .dat tVec, []⟩
noncomputable def ref05_Join.f (k : Nat) (a0 : Ty.D tVec) (a1 : Ty.D tVec) : Option (Sg.Out ref05_Join.sg) := Sg.fn ref05_Join.sg (ref05_Join.cx k) ref05_Join.body ref05_Join.rs (a0, a1)
noncomputable def ref05_Join.l3 (k : Nat) (n : Nat) (x6 : Ty.D (.int .i64)) (m2 : Ty.D tVec) (m3 : Ty.D tVec) (m4 : Ty.D tVec) (m5 : Ty.D tVec) : Option (Sg.Out ref05_Join.sg) := loopAt (ref05_Join.cx k) ref05_Join.body [1, 1, 0, 1, 0] 3 [2, 3, 4, 5, 6] [2, 3, 4, 5] [] (Sg.K ref05_Join.sg (ref05_Join.cx k) ref05_Join.rs) n ⟨[(2, .ref 2 []), (3, .ref 3 []), (4, .ref 4 []), (5, .ref 5 []), (6, .dat (.int .i64) x6)], [(2, .dat tVec m2), (3, .dat tVec m3), (4, .dat tVec m4), (5, .dat tVec m5)]⟩
set_option maxRecDepth 100000 in
theorem ref05_Join.f_eq (k : Nat) (a0 : Ty.D tVec) (a1 : Ty.D tVec) : ref05_Join.f k a0 a1 =
  ref05_Join.l3 k k 0 a0 a1 (zarr 16 0) a0 := by kernel_rfl
set_option maxRecDepth 100000 in
theorem ref05_Join.l3_eq (k : Nat) (n3 : Nat) (x6 : Ty.D (.int .i64)) (m2 : Ty.D tVec) (m3 : Ty.D tVec) (m4 : Ty.D tVec) (m5 : Ty.D tVec) : ref05_Join.l3 k (n3 + 1) x6 m2 m3 m4 m5 =
  br (ilt x6 16)
    (br (inB x6 16)
      (br (inB x6 16)
        (br (ilt (rd (.int .i64) m2 (natOf x6)) (rd (.int .i64) m3 (natOf x6)))
          (br (inB x6 16)
            (br (inB x6 16)
              (ref05_Join.l3 k n3 (iadd .i64 x6 1) m2 m3 m4 (upd m5 (natOf x6) (rd (.int .i64) m3 (natOf x6))))
              (none))
            (none))
          (ref05_Join.l3 k n3 (iadd .i64 x6 1) m2 m3 m4 m5))
        (none))
      (none))
    (some m5) := by kernel_rfl
noncomputable def ref05_Join.e (k : Nat) : Entry := Sg.entry ref05_Join.sg fun x => ref05_Join.f k x.1 x.2
set_option maxRecDepth 100000 in
theorem ref05_Join.ok (k : Nat) : CallOK Try.prog 80 (ref05_Join.e k) :=
  fn_ok (c := ref05_Join.cx k) (code := ref05_Join.body) (TT.of tt_ok pp_ok) (fns_ok trivial) mixed Try.func80 (by kernel_rfl) (by kernel_rfl) (by kernel_rfl) (by kernel_rfl) (by kernel_rfl) (by kernel_rfl) (fun x => by kernel_rfl)
noncomputable def ref06_Union.body : Go.Code := Try.f34.body.getD .skip
noncomputable def ref06_Union.rs : List Go.ResultVar := Try.f34.results.toList
def ref06_Union.regs : List (Nat × RInfo) := [(0, ⟨[2, 3, 4], [2, 3, 4], [0, 1], [], 0, [], [], []⟩),
  (1, ⟨[3, 4, 5], [3, 4, 5], [10], [], 9, [], [], []⟩),
  (2, ⟨[3, 4, 5, 6], [3, 4, 5], [], [], 0, [], [], []⟩),
  (3, ⟨[3, 4, 5, 6, 20], [3, 4, 5], [], [], 0, [3, 4, 5, 6], [3, 4, 5], []⟩),
  (5, ⟨[3, 4, 5, 6], [3, 4, 5], [7], [], 7, [], [], []⟩),
  (4, ⟨[3, 4, 5, 6], [3, 4, 5], [], [], 0, [], [], []⟩),
  (6, ⟨[4], [4], [1], [], 0, [], [], []⟩)]
noncomputable def ref06_Union.cx (k : Nat) : Cx := ⟨tt, pp, [(80, (ref05_Join.e k)),
  (76, (ref06_filled.e k)),
  (27, (ref06_Put.e k))], ref06_Union.regs, k⟩
@[reducible] def ref06_Union.sg : Sg := ⟨[.dat tDots, .dat tDots], [], .dat tDots, []⟩
noncomputable def ref06_Union.f (k : Nat) (a0 : Ty.D tDots) (a1 : Ty.D tDots) : Option (Sg.Out ref06_Union.sg) := Sg.fn ref06_Union.sg (ref06_Union.cx k) ref06_Union.body ref06_Union.rs (a0, a1)
noncomputable def ref06_Union.l3 (k : Nat) (n : Nat) (x6 : Ty.D (.int .i64)) (m3 : Ty.D tDots) (m4a : Ty.D tVec) (m4b : List (Ty.D tDot)) (m5 : Ty.D tDots) : Option (Sg.Out ref06_Union.sg) := loopAt (ref06_Union.cx k) ref06_Union.body [1, 1, 0, 1, 0] 3 [3, 4, 5, 6] [3, 4, 5] [] (Sg.K ref06_Union.sg (ref06_Union.cx k) ref06_Union.rs) n ⟨[(3, .ref 3 []), (4, .ref 4 []), (5, .ref 5 []), (6, .dat (.int .i64) x6)], [(3, .dat tDots m3), (4, .pr (.dat tVec m4a) (.own tDot m4b)), (5, .dat tDots m5)]⟩
set_option maxRecDepth 100000 in
theorem ref06_Union.f_eq (k : Nat) (a0 : Ty.D tDots) (a1 : Ty.D tDots) : ref06_Union.f k a0 a1 =
  bnd (ref05_Join.f k a0.1 a1.1) fun r0 =>
  bnd (ref06_filled.f k (r0, a0.2)) fun r1 =>
  ref06_Union.l3 k k 0 a1 (zarr 16 0) [] r1 := by kernel_rfl
set_option maxRecDepth 100000 in
theorem ref06_Union.l3_eq (k : Nat) (n3 : Nat) (x6 : Ty.D (.int .i64)) (m3 : Ty.D tDots) (m4a : Ty.D tVec) (m4b : List (Ty.D tDot)) (m5 : Ty.D tDots) : ref06_Union.l3 k (n3 + 1) x6 m3 m4a m4b m5 =
  br (ilt x6 (ilen m3.2))
    (br (inL x6 m3.2)
      (bnd (ref06_Put.f k m5 (rd tDot m3.2 (natOf x6))) fun r0 =>
      ref06_Union.l3 k n3 (iadd .i64 x6 1) m3 m4a m4b r0)
      (none))
    (some m5) := by kernel_rfl
noncomputable def ref06_Union.e (k : Nat) : Entry := Sg.entry ref06_Union.sg fun x => ref06_Union.f k x.1 x.2
set_option maxRecDepth 100000 in
theorem ref06_Union.ok (k : Nat) : CallOK Try.prog 34 (ref06_Union.e k) :=
  fn_ok (c := ref06_Union.cx k) (code := ref06_Union.body) (TT.of tt_ok pp_ok) (fns_ok ⟨(ref05_Join.ok k), (ref06_filled.ok k), (ref06_Put.ok k), trivial⟩) mixed Try.func34 (by kernel_rfl) (by kernel_rfl) (by kernel_rfl) (by kernel_rfl) (by kernel_rfl) (by kernel_rfl) (fun x => by kernel_rfl)
noncomputable def dots_Within.body : Go.Code := Try.f35.body.getD .skip
noncomputable def dots_Within.rs : List Go.ResultVar := Try.f35.results.toList
def dots_Within.regs : List (Nat × RInfo) := [(0, ⟨[2, 3], [2, 3], [0, 1], [], 0, [], [], []⟩),
  (1, ⟨[4], [], [], [], 5, [], [], []⟩)]
noncomputable def dots_Within.cx (k : Nat) : Cx := ⟨tt, pp, [(33, (dots_Union.e k)),
  (21, (dots_Same.e k))], dots_Within.regs, k⟩
@[reducible] def dots_Within.sg : Sg := ⟨[.dat tDots, .dat tDots], [], .dat .bool, []⟩
noncomputable def dots_Within.f (k : Nat) (a0 : Ty.D tDots) (a1 : Ty.D tDots) : Option (Sg.Out dots_Within.sg) := Sg.fn dots_Within.sg (dots_Within.cx k) dots_Within.body dots_Within.rs (a0, a1)
set_option maxRecDepth 100000 in
theorem dots_Within.f_eq (k : Nat) (a0 : Ty.D tDots) (a1 : Ty.D tDots) : dots_Within.f k a0 a1 =
  bnd (dots_Union.f k a0 a1) fun r0 =>
  bnd (dots_Same.f k r0 a1) fun r1 =>
  some r1 := by kernel_rfl
noncomputable def dots_Within.e (k : Nat) : Entry := Sg.entry dots_Within.sg fun x => dots_Within.f k x.1 x.2
set_option maxRecDepth 100000 in
theorem dots_Within.ok (k : Nat) : CallOK Try.prog 35 (dots_Within.e k) :=
  fn_ok (c := dots_Within.cx k) (code := dots_Within.body) (TT.of tt_ok pp_ok) (fns_ok ⟨(dots_Union.ok k), (dots_Same.ok k), trivial⟩) mixed Try.func35 (by kernel_rfl) (by kernel_rfl) (by kernel_rfl) (by kernel_rfl) (by kernel_rfl) (by kernel_rfl) (fun x => by kernel_rfl)
noncomputable def ref06_Within.body : Go.Code := Try.f36.body.getD .skip
noncomputable def ref06_Within.rs : List Go.ResultVar := Try.f36.results.toList
def ref06_Within.regs : List (Nat × RInfo) := [(0, ⟨[2, 3], [2, 3], [0, 1], [], 0, [], [], []⟩),
  (1, ⟨[2, 3, 5], [2, 3], [], [], 0, [], [], []⟩),
  (2, ⟨[2, 3, 5, 13], [2, 3], [], [], 0, [2, 3, 5], [2, 3], []⟩),
  (4, ⟨[2, 3, 5, 23], [2, 3], [], [], 8, [], [], []⟩),
  (5, ⟨[4], [], [], [], 0, [], [], []⟩),
  (3, ⟨[2, 3, 5], [2, 3], [], [], 0, [], [], []⟩),
  (6, ⟨[2, 3, 6], [2, 3], [], [], 0, [], [], []⟩),
  (7, ⟨[2, 3, 6, 25], [2, 3], [], [], 0, [2, 3, 6], [2, 3], []⟩),
  (9, ⟨[2, 3, 6, 7], [2, 3], [], [], 0, [], [], []⟩),
  (10, ⟨[2, 3, 6, 7, 8], [2, 3], [], [], 0, [], [], []⟩),
  (11, ⟨[2, 3, 6, 7, 8, 36], [2, 3], [], [], 0, [2, 3, 6, 7, 8], [2, 3], []⟩),
  (13, ⟨[2, 3, 6, 7, 8, 57], [2, 3], [], [], 0, [], [], []⟩),
  (14, ⟨[2, 3, 6, 7, 8], [2, 3], [], [], 0, [], [], []⟩),
  (12, ⟨[2, 3, 6, 7, 8], [2, 3], [], [], 0, [], [], []⟩),
  (15, ⟨[2, 3, 6, 65], [2, 3], [], [], 0, [], [], []⟩),
  (16, ⟨[4], [], [], [], 0, [], [], []⟩),
  (8, ⟨[2, 3, 6], [2, 3], [], [], 0, [], [], []⟩),
  (17, ⟨[4], [], [], [], 0, [], [], []⟩)]
noncomputable def ref06_Within.cx (k : Nat) : Cx := ⟨tt, pp, [(25, (ref06_Has.e k))], ref06_Within.regs, k⟩
@[reducible] def ref06_Within.sg : Sg := ⟨[.dat tDots, .dat tDots], [], .dat .bool, []⟩
noncomputable def ref06_Within.f (k : Nat) (a0 : Ty.D tDots) (a1 : Ty.D tDots) : Option (Sg.Out ref06_Within.sg) := Sg.fn ref06_Within.sg (ref06_Within.cx k) ref06_Within.body ref06_Within.rs (a0, a1)
noncomputable def ref06_Within.l2 (k : Nat) (n : Nat) (x5 : Ty.D (.int .i64)) (m2 : Ty.D tDots) (m3 : Ty.D tDots) : Option (Sg.Out ref06_Within.sg) := loopAt (ref06_Within.cx k) ref06_Within.body [1, 0, 1, 0] 2 [2, 3, 5] [2, 3] [] (Sg.K ref06_Within.sg (ref06_Within.cx k) ref06_Within.rs) n ⟨[(2, .ref 2 []), (3, .ref 3 []), (5, .dat (.int .i64) x5)], [(2, .dat tDots m2), (3, .dat tDots m3)]⟩
noncomputable def ref06_Within.l7 (k : Nat) (n : Nat) (x6 : Ty.D (.int .i64)) (m2 : Ty.D tDots) (m3 : Ty.D tDots) : Option (Sg.Out ref06_Within.sg) := loopAt (ref06_Within.cx k) ref06_Within.body [1, 1, 0, 1, 0] 7 [2, 3, 6] [2, 3] [] (Sg.K ref06_Within.sg (ref06_Within.cx k) ref06_Within.rs) n ⟨[(2, .ref 2 []), (3, .ref 3 []), (6, .dat (.int .i64) x6)], [(2, .dat tDots m2), (3, .dat tDots m3)]⟩
noncomputable def ref06_Within.l11 (k : Nat) (n7 : Nat) (n : Nat) (x6 : Ty.D (.int .i64)) (x7 : Ty.D (.int .i64)) (x8 : Ty.D (.int .i64)) (m2 : Ty.D tDots) (m3 : Ty.D tDots) : Option (Sg.Out ref06_Within.sg) := loopAt (ref06_Within.cx k) ref06_Within.body [1, 1, 0, 1, 0, 0, 1, 0, 0, 1, 0, 1, 0] 11 [2, 3, 6, 7, 8] [2, 3] [n7] (Sg.K ref06_Within.sg (ref06_Within.cx k) ref06_Within.rs) n ⟨[(2, .ref 2 []), (3, .ref 3 []), (6, .dat (.int .i64) x6), (7, .dat (.int .i64) x7), (8, .dat (.int .i64) x8)], [(2, .dat tDots m2), (3, .dat tDots m3)]⟩
set_option maxRecDepth 100000 in
theorem ref06_Within.f_eq (k : Nat) (a0 : Ty.D tDots) (a1 : Ty.D tDots) : ref06_Within.f k a0 a1 =
  ref06_Within.l2 k k 0 a0 a1 := by kernel_rfl
set_option maxRecDepth 100000 in
theorem ref06_Within.l2_eq (k : Nat) (n2 : Nat) (x5 : Ty.D (.int .i64)) (m2 : Ty.D tDots) (m3 : Ty.D tDots) : ref06_Within.l2 k (n2 + 1) x5 m2 m3 =
  br (ilt x5 (ilen m2.2))
    (br (inL x5 m2.2)
      (bnd (ref06_Has.f k m3 (rd tDot m2.2 (natOf x5))) fun r0 =>
      br (bnot r0)
        (some false)
        (ref06_Within.l2 k n2 (iadd .i64 x5 1) m2 m3))
      (none))
    (ref06_Within.l7 k k 0 m2 m3) := by kernel_rfl
set_option maxRecDepth 100000 in
theorem ref06_Within.l7_eq (k : Nat) (n7 : Nat) (x6 : Ty.D (.int .i64)) (m2 : Ty.D tDots) (m3 : Ty.D tDots) : ref06_Within.l7 k (n7 + 1) x6 m2 m3 =
  br (ilt x6 16)
    (br (inB x6 16)
      (ref06_Within.l11 k n7 k x6 (rd (.int .i64) m3.1 (natOf x6)) 0 m2 m3)
      (none))
    (some true) := by kernel_rfl
set_option maxRecDepth 100000 in
theorem ref06_Within.l11_eq (k : Nat) (n7 : Nat) (n11 : Nat) (x6 : Ty.D (.int .i64)) (x7 : Ty.D (.int .i64)) (x8 : Ty.D (.int .i64)) (m2 : Ty.D tDots) (m3 : Ty.D tDots) : ref06_Within.l11 k n7 (n11 + 1) x6 x7 x8 m2 m3 =
  br (ilt x8 (ilen m3.2))
    (br (inL x8 m3.2)
      (br (ieq ((rd tDot m3.2 (natOf x8)).1) x6)
        (br (inL x8 m3.2)
          (br (ieq ((rd tDot m3.2 (natOf x8)).2) (iadd .i64 x7 1))
            (ref06_Within.l11 k n7 n11 x6 (iadd .i64 x7 1) (iadd .i64 x8 1) m2 m3)
            (ref06_Within.l11 k n7 n11 x6 x7 (iadd .i64 x8 1) m2 m3))
          (none))
        (ref06_Within.l11 k n7 n11 x6 x7 (iadd .i64 x8 1) m2 m3))
      (none))
    (br (inB x6 16)
      (br (ilt x7 (rd (.int .i64) m2.1 (natOf x6)))
        (some false)
        (ref06_Within.l7 k n7 (iadd .i64 x6 1) m2 m3))
      (none)) := by kernel_rfl
noncomputable def ref06_Within.e (k : Nat) : Entry := Sg.entry ref06_Within.sg fun x => ref06_Within.f k x.1 x.2
set_option maxRecDepth 100000 in
theorem ref06_Within.ok (k : Nat) : CallOK Try.prog 36 (ref06_Within.e k) :=
  fn_ok (c := ref06_Within.cx k) (code := ref06_Within.body) (TT.of tt_ok pp_ok) (fns_ok ⟨(ref06_Has.ok k), trivial⟩) mixed Try.func36 (by kernel_rfl) (by kernel_rfl) (by kernel_rfl) (by kernel_rfl) (by kernel_rfl) (by kernel_rfl) (fun x => by kernel_rfl)
noncomputable def law06_DotsJoin.body : Go.Code := Try.f6.body.getD .skip
noncomputable def law06_DotsJoin.rs : List Go.ResultVar := Try.f6.results.toList
def law06_DotsJoin.regs : List (Nat × RInfo) := [(0, ⟨[2, 3], [2, 3], [0, 1], [], 0, [], [], []⟩),
  (1, ⟨[2, 3, 13], [2, 3], [], [], 0, [], [], []⟩),
  (2, ⟨[4], [], [], [], 0, [], [], []⟩),
  (3, ⟨[2, 3, 5], [2, 3, 5], [4], [], 0, [], [], []⟩),
  (4, ⟨[4], [], [], [], 35, [], [], []⟩)]
noncomputable def law06_DotsJoin.cx (k : Nat) : Cx := ⟨tt, pp, [(32, (ref06_Good.e k)),
  (16, (law06_awake.e k)),
  (33, (dots_Union.e k)),
  (34, (ref06_Union.e k)),
  (19, (ref06_Same.e k)),
  (22, (ref06_Right.e k)),
  (35, (dots_Within.e k)),
  (36, (ref06_Within.e k)),
  (21, (dots_Same.e k))], law06_DotsJoin.regs, k⟩
@[reducible] def law06_DotsJoin.sg : Sg := ⟨[.dat tDots, .dat tDots], [], .dat .bool, []⟩
noncomputable def law06_DotsJoin.f (k : Nat) (a0 : Ty.D tDots) (a1 : Ty.D tDots) : Option (Sg.Out law06_DotsJoin.sg) := Sg.fn law06_DotsJoin.sg (law06_DotsJoin.cx k) law06_DotsJoin.body law06_DotsJoin.rs (a0, a1)
set_option maxRecDepth 100000 in
theorem law06_DotsJoin.f_eq (k : Nat) (a0 : Ty.D tDots) (a1 : Ty.D tDots) : law06_DotsJoin.f k a0 a1 =
  bnd (ref06_Good.f k a0) fun r0 =>
  br (bnot r0)
    (bnd (law06_awake.f k) fun r1 =>
    some r1)
    (bnd (ref06_Good.f k a1) fun r2 =>
    br (bnot r2)
      (bnd (law06_awake.f k) fun r3 =>
      some r3)
      (bnd (dots_Union.f k a0 a1) fun r4 =>
      bnd (ref06_Union.f k a0 a1) fun r5 =>
      bnd (ref06_Same.f k r4 r5) fun r6 =>
      br r6
        (bnd (ref06_Right.f k r4) fun r7 =>
        br r7
          (bnd (dots_Within.f k a0 a1) fun r8 =>
          bnd (ref06_Within.f k a0 a1) fun r9 =>
          br (deq .bool r8 r9)
            (bnd (dots_Within.f k a0 r4) fun r10 =>
            br r10
              (bnd (dots_Same.f k a0 a1) fun r11 =>
              bnd (ref06_Same.f k a0 a1) fun r12 =>
              br (deq .bool r11 r12)
                (bnd (law06_awake.f k) fun r13 =>
                some r13)
                (some false))
              (some false))
            (some false))
          (some false))
        (some false))) := by kernel_rfl
noncomputable def law06_DotsJoin.e (k : Nat) : Entry := Sg.entry law06_DotsJoin.sg fun x => law06_DotsJoin.f k x.1 x.2
set_option maxRecDepth 100000 in
theorem law06_DotsJoin.ok (k : Nat) : CallOK Try.prog 6 (law06_DotsJoin.e k) :=
  fn_ok (c := law06_DotsJoin.cx k) (code := law06_DotsJoin.body) (TT.of tt_ok pp_ok) (fns_ok ⟨(ref06_Good.ok k), (law06_awake.ok k), (dots_Union.ok k), (ref06_Union.ok k), (ref06_Same.ok k), (ref06_Right.ok k), (dots_Within.ok k), (ref06_Within.ok k), (dots_Same.ok k), trivial⟩) mixed Try.func6 (by kernel_rfl) (by kernel_rfl) (by kernel_rfl) (by kernel_rfl) (by kernel_rfl) (by kernel_rfl) (fun x => by kernel_rfl)
noncomputable def law06_DotsLattice.body : Go.Code := Try.f7.body.getD .skip
noncomputable def law06_DotsLattice.rs : List Go.ResultVar := Try.f7.results.toList
def law06_DotsLattice.regs : List (Nat × RInfo) := [(0, ⟨[4, 5, 6, 7], [4, 5, 6, 7], [0, 1, 2], [], 0, [], [], []⟩),
  (1, ⟨[4, 5, 6, 7, 22], [4, 5, 6, 7], [], [], 0, [], [], []⟩),
  (2, ⟨[8], [], [], [], 0, [], [], []⟩),
  (3, ⟨[4, 5, 6, 7, 9], [4, 5, 6, 7, 9], [4], [], 0, [], [], []⟩),
  (4, ⟨[4, 5, 7, 9, 52], [4, 5, 7, 9], [], [], 26, [], [], []⟩),
  (5, ⟨[8], [], [], [], 0, [], [], []⟩),
  (6, ⟨[8], [], [], [], 24, [], [], []⟩)]
noncomputable def law06_DotsLattice.cx (k : Nat) : Cx := ⟨tt, pp, [(32, (ref06_Good.e k)),
  (16, (law06_awake.e k)),
  (33, (dots_Union.e k)),
  (21, (dots_Same.e k)),
  (23, (dots_Has.e k)),
  (35, (dots_Within.e k))], law06_DotsLattice.regs, k⟩
@[reducible] def law06_DotsLattice.sg : Sg := ⟨[.dat tDots, .dat tDots, .dat tDots, .dat tDot], [], .dat .bool, []⟩
noncomputable def law06_DotsLattice.f (k : Nat) (a0 : Ty.D tDots) (a1 : Ty.D tDots) (a2 : Ty.D tDots) (a3 : Ty.D tDot) : Option (Sg.Out law06_DotsLattice.sg) := Sg.fn law06_DotsLattice.sg (law06_DotsLattice.cx k) law06_DotsLattice.body law06_DotsLattice.rs (a0, a1, a2, a3)
set_option maxRecDepth 100000 in
theorem law06_DotsLattice.f_eq (k : Nat) (a0 : Ty.D tDots) (a1 : Ty.D tDots) (a2 : Ty.D tDots) (a3 : Ty.D tDot) : law06_DotsLattice.f k a0 a1 a2 a3 =
  bnd (ref06_Good.f k a0) fun r0 =>
  br (bnot r0)
    (bnd (law06_awake.f k) fun r1 =>
    some r1)
    (bnd (ref06_Good.f k a1) fun r2 =>
    br (bnot r2)
      (bnd (law06_awake.f k) fun r3 =>
      some r3)
      (bnd (ref06_Good.f k a2) fun r4 =>
      br (bnot r4)
        (bnd (law06_awake.f k) fun r5 =>
        some r5)
        (bnd (dots_Union.f k a0 a1) fun r6 =>
        bnd (dots_Union.f k a1 a0) fun r7 =>
        bnd (dots_Same.f k r6 r7) fun r8 =>
        br (bnot r8)
          (some false)
          (bnd (dots_Union.f k r6 a2) fun r9 =>
          bnd (dots_Union.f k a1 a2) fun r10 =>
          bnd (dots_Union.f k a0 r10) fun r11 =>
          bnd (dots_Same.f k r9 r11) fun r12 =>
          br (bnot r12)
            (some false)
            (bnd (dots_Union.f k a0 a0) fun r13 =>
            bnd (dots_Same.f k r13 a0) fun r14 =>
            br (bnot r14)
              (some false)
              (bnd (dots_Has.f k r6 a3) fun r15 =>
              bnd (dots_Has.f k a0 a3) fun r16 =>
              br r16
                (br (deq .bool r15 true)
                  (bnd (dots_Within.f k a0 a1) fun r17 =>
                  bnd (dots_Same.f k r6 a1) fun r18 =>
                  br (deq .bool r17 r18)
                    (bnd (law06_awake.f k) fun r19 =>
                    some r19)
                    (some false))
                  (some false))
                (bnd (dots_Has.f k a1 a3) fun r20 =>
                br (deq .bool r15 r20)
                  (bnd (dots_Within.f k a0 a1) fun r21 =>
                  bnd (dots_Same.f k r6 a1) fun r22 =>
                  br (deq .bool r21 r22)
                    (bnd (law06_awake.f k) fun r23 =>
                    some r23)
                    (some false))
                  (some false)))))))) := by kernel_rfl
noncomputable def law06_DotsLattice.e (k : Nat) : Entry := Sg.entry law06_DotsLattice.sg fun x => law06_DotsLattice.f k x.1 x.2.1 x.2.2.1 x.2.2.2
set_option maxRecDepth 100000 in
theorem law06_DotsLattice.ok (k : Nat) : CallOK Try.prog 7 (law06_DotsLattice.e k) :=
  fn_ok (c := law06_DotsLattice.cx k) (code := law06_DotsLattice.body) (TT.of tt_ok pp_ok) (fns_ok ⟨(ref06_Good.ok k), (law06_awake.ok k), (dots_Union.ok k), (dots_Same.ok k), (dots_Has.ok k), (dots_Within.ok k), trivial⟩) mixed Try.func7 (by kernel_rfl) (by kernel_rfl) (by kernel_rfl) (by kernel_rfl) (by kernel_rfl) (by kernel_rfl) (fun x => by kernel_rfl)
end Go.Proofs.Ytennedlpmacicaa
