/- The functions that the statement reaches, and what they come to. Part 3. -/
import Derived.Test.YtoikjekpckhgeaaGreatFw1
import Derived.Test.YtoikjekpckhgeaaGreatFw2
import Derived.Test.YtoikjekpckhgeaaGreatFw3
import Derived.Test.YtoikjekpckhgeaaGreatPb1
import Derived.Test.YtoikjekpckhgeaaGreatPb2
set_option linter.unusedVariables false
set_option linter.unusedSimpArgs false
set_option linter.unusedSectionVars false
section
/- The program's functions, as plain equations. -/
namespace Go.Proofs.YtoikjekpckhgeaaGreat
open Pal
noncomputable def vec_both_vec_Join_1.body : Go.Code := Tryz.f149.body.getD .skip
noncomputable def vec_both_vec_Join_1.rs : List Go.ResultVar := Tryz.f149.results.toList
def vec_both_vec_Join_1.regs : List (Nat × RInfo) := [(0, ⟨[2, 3, 4, 6], [3, 4, 6], [], [], 0, [], [], [], []⟩),
  (1, ⟨[2, 3, 4, 6, 8], [3, 4, 6], [], [], 0, [], [], [], []⟩),
  (2, ⟨[2, 3, 4, 6, 8, 9], [3, 4, 6], [], [], 0, [2, 3, 4, 6, 8], [3, 4, 6], [], []⟩),
  (3, ⟨[2, 3, 4, 6, 7, 8], [3, 4, 6], [], [], 0, [], [], [], []⟩),
  (4, ⟨[2, 3, 4, 6, 8], [3, 4, 6], [], [], 9, [], [], [], [[], [], [], [], [], [], [], [], [4, 7], [4, 7, 8], [4, 7, 8]]⟩),
  (5, ⟨[2, 3, 4, 6, 8], [3, 4, 6], [], [], 0, [], [], [], []⟩),
  (6, ⟨[6], [6], [], [], 0, [], [], [], []⟩)]
noncomputable def vec_both_vec_Join_1.cx (k : Nat) : Cx := ⟨tt, pp, [(150, (vec_Join_1.e k))], vec_both_vec_Join_1.regs, k⟩
@[reducible] def vec_both_vec_Join_1.sg : Sg := ⟨[.dat tVec, .dat tVec, .fn 150 0], [], .dat tVec, []⟩
noncomputable def vec_both_vec_Join_1.f (k : Nat) (a0 : Ty.D tVec) (a1 : Ty.D tVec) : Option (Sg.Out vec_both_vec_Join_1.sg) := Sg.fn vec_both_vec_Join_1.sg (vec_both_vec_Join_1.cx k) vec_both_vec_Join_1.body vec_both_vec_Join_1.rs (a0, a1)
noncomputable def vec_both_vec_Join_1.l2 (k : Nat) (n : Nat) (x8 : Ty.D (.int .i64)) (m3 : Ty.D tVec) (m4 : Ty.D tVec) (m6 : Ty.D tVec) : Option (Sg.Out vec_both_vec_Join_1.sg) := loopAt (vec_both_vec_Join_1.cx k) vec_both_vec_Join_1.body [1, 0, 1, 0] 2 [2, 3, 4, 6, 8] [3, 4, 6] [] (Sg.K vec_both_vec_Join_1.sg (vec_both_vec_Join_1.cx k) vec_both_vec_Join_1.rs) n ⟨[(2, .fn 150 []), (3, .ref 3 []), (4, .ref 4 []), (6, .ref 6 []), (8, .dat (.int .i64) x8)], [(3, .dat tVec m3), (4, .dat tVec m4), (6, .dat tVec m6)]⟩
set_option maxRecDepth 100000 in
theorem vec_both_vec_Join_1.f_eq (k : Nat) (a0 : Ty.D tVec) (a1 : Ty.D tVec) : vec_both_vec_Join_1.f k a0 a1 =
  vec_both_vec_Join_1.l2 k k 0 a0 a1 (zarr 16 0) := by kernel_rfl
set_option maxRecDepth 100000 in
theorem vec_both_vec_Join_1.l2_eq (k : Nat) (n2 : Nat) (x8 : Ty.D (.int .i64)) (m3 : Ty.D tVec) (m4 : Ty.D tVec) (m6 : Ty.D tVec) : vec_both_vec_Join_1.l2 k (n2 + 1) x8 m3 m4 m6 =
  br (ilt x8 16)
    (br (inB x8 16)
      (br (inB x8 16)
        (bnd (vec_Join_1.f k (rd (.int .i64) m3 (natOf x8)) (rd (.int .i64) m4 (natOf x8))) fun r0 =>
        br (inB x8 16)
          (vec_both_vec_Join_1.l2 k n2 (iadd .i64 x8 1) (upd m3 (natOf x8) r0) m4 m6)
          (none))
        (none))
      (none))
    (some m3) := by kernel_rfl
noncomputable def vec_both_vec_Join_1.e (k : Nat) : Entry := Sg.entry vec_both_vec_Join_1.sg fun x => vec_both_vec_Join_1.f k x.1 x.2
set_option maxRecDepth 100000 in
theorem vec_both_vec_Join_1.ok (k : Nat) : CallOK Tryz.prog 149 (vec_both_vec_Join_1.e k) :=
  fn_ok (c := vec_both_vec_Join_1.cx k) (code := vec_both_vec_Join_1.body) (TT.of tt_ok pp_ok) (fns_ok ⟨(vec_Join_1.ok k), trivial⟩) mixed Tryz.func149 (by kernel_rfl) (by kernel_rfl) (by kernel_rfl) (by kernel_rfl) (by kernel_rfl) (by kernel_rfl) (fun x => by kernel_rfl)
noncomputable def vec_Join.body : Go.Code := Tryz.f112.body.getD .skip
noncomputable def vec_Join.rs : List Go.ResultVar := Tryz.f112.results.toList
def vec_Join.regs : List (Nat × RInfo) := [(0, ⟨[2, 3, 4], [2, 3, 4], [], [], 0, [], [], [], []⟩),
  (1, ⟨[4], [4], [], [], 0, [], [], [], []⟩)]
noncomputable def vec_Join.cx (k : Nat) : Cx := ⟨tt, pp, [(149, (vec_both_vec_Join_1.e k)),
  (150, (vec_Join_1.e k))], vec_Join.regs, k⟩
@[reducible] def vec_Join.sg : Sg := ⟨[.dat tVec, .dat tVec], [], .dat tVec, []⟩
noncomputable def vec_Join.f (k : Nat) (a0 : Ty.D tVec) (a1 : Ty.D tVec) : Option (Sg.Out vec_Join.sg) := Sg.fn vec_Join.sg (vec_Join.cx k) vec_Join.body vec_Join.rs (a0, a1)
set_option maxRecDepth 100000 in
theorem vec_Join.f_eq (k : Nat) (a0 : Ty.D tVec) (a1 : Ty.D tVec) : vec_Join.f k a0 a1 =
  bnd (vec_both_vec_Join_1.f k a0 a1) fun r0 =>
  some r0 := by kernel_rfl
noncomputable def vec_Join.e (k : Nat) : Entry := Sg.entry vec_Join.sg fun x => vec_Join.f k x.1 x.2
set_option maxRecDepth 100000 in
theorem vec_Join.ok (k : Nat) : CallOK Tryz.prog 112 (vec_Join.e k) :=
  fn_ok (c := vec_Join.cx k) (code := vec_Join.body) (TT.of tt_ok pp_ok) (fns_ok ⟨(vec_both_vec_Join_1.ok k), (vec_Join_1.ok k), trivial⟩) mixed Tryz.func112 (by kernel_rfl) (by kernel_rfl) (by kernel_rfl) (by kernel_rfl) (by kernel_rfl) (by kernel_rfl) (fun x => by kernel_rfl)
noncomputable def dots_made.body : Go.Code := Tryz.f136.body.getD .skip
noncomputable def dots_made.rs : List Go.ResultVar := Tryz.f136.results.toList
def dots_made.regs : List (Nat × RInfo) := [(0, ⟨[1, 2, 4], [2, 4], [], [], 0, [], [], [], []⟩),
  (1, ⟨[1, 4, 5], [4, 5], [3], [], 0, [], [], [], []⟩),
  (2, ⟨[4, 5, 10, 11, 12], [4, 5], [], [], 0, [], [], [], []⟩),
  (3, ⟨[4, 5, 10, 11, 12, 13], [4, 5], [], [], 0, [4, 5, 10, 11, 12], [4, 5], [], []⟩),
  (4, ⟨[4, 5, 7, 10, 11, 12], [4, 5, 7], [], [], 0, [], [], [], []⟩),
  (5, ⟨[4, 5, 7, 10, 11, 12, 16], [4, 5, 7], [], [], 9, [], [], [], []⟩),
  (6, ⟨[4, 5, 7, 10, 11, 12, 25], [4, 5, 7], [], [], 10, [], [], [], []⟩),
  (7, ⟨[4, 5, 10, 11, 12], [4, 5], [], [], 0, [], [], [], []⟩),
  (8, ⟨[4, 5, 7, 10, 11, 12, 41], [4, 5, 7], [], [], 17, [], [], [], []⟩),
  (9, ⟨[4, 5, 10, 11, 12], [4, 5], [1, 4, 6], [], 0, [], [], [], []⟩),
  (10, ⟨[4, 5, 10, 11, 12], [4, 5], [], [], 0, [], [], [], []⟩),
  (11, ⟨[4], [4], [1], [], 0, [], [], [], []⟩)]
noncomputable def dots_made.cx (k : Nat) : Cx := ⟨tt, pp, [], dots_made.regs, k⟩
@[reducible] def dots_made.sg : Sg := ⟨[.dat tVec, .dat (.slc tDot)], [], .dat tDots, []⟩
noncomputable def dots_made.f (k : Nat) (a0 : Ty.D tVec) (a1 : Ty.D (.slc tDot)) : Option (Sg.Out dots_made.sg) := Sg.fn dots_made.sg (dots_made.cx k) dots_made.body dots_made.rs (a0, a1)
noncomputable def dots_made.l3 (k : Nat) (n : Nat) (x10 : Ty.D (.slc tDot)) (x11 : Ty.D (.int .i64)) (x12 : Ty.D (.int .i64)) (m4a : Ty.D tVec) (m4b : List (Ty.D tDot)) (m5a : Ty.D tVec) (m5b : List (Ty.D tDot)) : Option (Sg.Out dots_made.sg) := loopAt (dots_made.cx k) dots_made.body [1, 1, 0, 1, 0] 3 [4, 5, 10, 11, 12] [4, 5] [] (Sg.K dots_made.sg (dots_made.cx k) dots_made.rs) n ⟨[(4, .ref 4 []), (5, .ref 5 []), (10, .dat (.slc tDot) x10), (11, .dat (.int .i64) x11), (12, .dat (.int .i64) x12)], [(4, .pr (.dat tVec m4a) (.own tDot m4b)), (5, .pr (.dat tVec m5a) (.own tDot m5b))]⟩
set_option maxRecDepth 100000 in
theorem dots_made.f_eq (k : Nat) (a0 : Ty.D tVec) (a1 : Ty.D (.slc tDot)) : dots_made.f k a0 a1 =
  dots_made.l3 k k a1 (ilen a1) 0 (zarr 16 0) [] a0 [] := by kernel_rfl
set_option maxRecDepth 100000 in
theorem dots_made.l3_eq (k : Nat) (n3 : Nat) (x10 : Ty.D (.slc tDot)) (x11 : Ty.D (.int .i64)) (x12 : Ty.D (.int .i64)) (m4a : Ty.D tVec) (m4b : List (Ty.D tDot)) (m5a : Ty.D tVec) (m5b : List (Ty.D tDot)) : dots_made.l3 k (n3 + 1) x10 x11 x12 m4a m4b m5a m5b =
  br (ilt x12 x11)
    (br (inL x12 x10)
      (br (inB ((rd tDot x10 (natOf x12)).1) 16)
        (br (ile ((rd tDot x10 (natOf x12)).2) (rd (.int .i64) m5a (natOf ((rd tDot x10 (natOf x12)).1))))
          (dots_made.l3 k n3 x10 x11 (iadd .i64 x12 1) m4a m4b m5a m5b)
          (br (inB ((rd tDot x10 (natOf x12)).1) 16)
            (br (ieq ((rd tDot x10 (natOf x12)).2) (iadd .i64 (rd (.int .i64) m5a (natOf ((rd tDot x10 (natOf x12)).1))) 1))
              (br (inB ((rd tDot x10 (natOf x12)).1) 16)
                (dots_made.l3 k n3 x10 x11 (iadd .i64 x12 1) m4a m4b (upd m5a (natOf ((rd tDot x10 (natOf x12)).1)) ((rd tDot x10 (natOf x12)).2)) m5b)
                (none))
              (br (ieq (ilen m5b) 0)
                (br (room m5b ((rd tDot x10 (natOf x12)) :: []))
                  (dots_made.l3 k n3 x10 x11 (iadd .i64 x12 1) m4a m4b m5a (app m5b ((rd tDot x10 (natOf x12)) :: [])))
                  (none))
                (br (inL (isub .i64 (ilen m5b) 1) m5b)
                  (br (bnot (deq tDot (rd tDot m5b (natOf (isub .i64 (ilen m5b) 1))) (rd tDot x10 (natOf x12))))
                    (br (room m5b ((rd tDot x10 (natOf x12)) :: []))
                      (dots_made.l3 k n3 x10 x11 (iadd .i64 x12 1) m4a m4b m5a (app m5b ((rd tDot x10 (natOf x12)) :: [])))
                      (none))
                    (dots_made.l3 k n3 x10 x11 (iadd .i64 x12 1) m4a m4b m5a m5b))
                  (none))))
            (none)))
        (none))
      (none))
    (some (m5a, m5b)) := by kernel_rfl
noncomputable def dots_made.e (k : Nat) : Entry := Sg.entry dots_made.sg fun x => dots_made.f k x.1 x.2
set_option maxRecDepth 100000 in
theorem dots_made.ok (k : Nat) : CallOK Tryz.prog 136 (dots_made.e k) :=
  fn_ok (c := dots_made.cx k) (code := dots_made.body) (TT.of tt_ok pp_ok) (fns_ok trivial) mixed Tryz.func136 (by kernel_rfl) (by kernel_rfl) (by kernel_rfl) (by kernel_rfl) (by kernel_rfl) (by kernel_rfl) (fun x => by kernel_rfl)
noncomputable def dots_Union.body : Go.Code := Tryz.f99.body.getD .skip
noncomputable def dots_Union.rs : List Go.ResultVar := Tryz.f99.results.toList
def dots_Union.regs : List (Nat × RInfo) := [(0, ⟨[2, 3, 4], [2, 3, 4], [0, 1], [], 0, [], [], [0, 1], []⟩),
  (1, ⟨[2, 3, 4, 5], [2, 3, 4, 11], [6], [], 0, [], [], [2, 3], []⟩),
  (2, ⟨[2, 3, 4, 5], [2, 3, 4, 11], [0, 1], [0], 0, [], [], [], []⟩),
  (3, ⟨[4], [4], [7], [], 0, [], [], [2, 3, 5, 4], []⟩)]
noncomputable def dots_Union.cx (k : Nat) : Cx := ⟨tt, pp, [(134, (slices_Concat_api_Dot_api_Dot.e k)),
  (135, (sortE tDot 123 dotLt)),
  (123, (dot_Compare.e k)),
  (112, (vec_Join.e k)),
  (136, (dots_made.e k))], dots_Union.regs, k⟩
@[reducible] def dots_Union.sg : Sg := ⟨[.dat tDots, .dat tDots], [], .dat tDots, []⟩
noncomputable def dots_Union.f (k : Nat) (a0 : Ty.D tDots) (a1 : Ty.D tDots) : Option (Sg.Out dots_Union.sg) := Sg.fn dots_Union.sg (dots_Union.cx k) dots_Union.body dots_Union.rs (a0, a1)
set_option maxRecDepth 100000 in
theorem dots_Union.f_eq (k : Nat) (a0 : Ty.D tDots) (a1 : Ty.D tDots) : dots_Union.f k a0 a1 =
  bnd (slices_Concat_api_Dot_api_Dot.f k (a0.2 :: (a1.2 :: []))) fun r0 =>
  br (room ([] : List Int) r0)
    (bnd (vec_Join.f k a0.1 a1.1) fun r1 =>
    bnd (dots_made.f k r1 (isort dotLt r0)) fun r2 =>
    some r2)
    (none) := by kernel_rfl
noncomputable def dots_Union.e (k : Nat) : Entry := Sg.entry dots_Union.sg fun x => dots_Union.f k x.1 x.2
set_option maxRecDepth 100000 in
theorem dots_Union.ok (k : Nat) : CallOK Tryz.prog 99 (dots_Union.e k) :=
  fn_ok (c := dots_Union.cx k) (code := dots_Union.body) (TT.of tt_ok pp_ok) (fns_ok ⟨(slices_Concat_api_Dot_api_Dot.ok k), sortDot_ok, (dot_Compare.ok k), (vec_Join.ok k), (dots_made.ok k), trivial⟩) mixed Tryz.func99 (by kernel_rfl) (by kernel_rfl) (by kernel_rfl) (by kernel_rfl) (by kernel_rfl) (by kernel_rfl) (fun x => by kernel_rfl)
noncomputable def tally_Join.body : Go.Code := Tryz.f117.body.getD .skip
noncomputable def tally_Join.rs : List Go.ResultVar := Tryz.f117.results.toList
def tally_Join.regs : List (Nat × RInfo) := [(0, ⟨[0, 1], [], [], [], 0, [], [], [], []⟩),
  (1, ⟨[0, 1, 5], [], [], [], 0, [], [], [], []⟩),
  (2, ⟨[0, 1, 5, 14], [], [], [], 0, [0, 1, 5], [], [], []⟩),
  (3, ⟨[0, 1, 5, 6], [29], [], [], 0, [], [], [], []⟩),
  (4, ⟨[0, 1, 5, 6, 15], [29], [], [], 0, [], [], [], []⟩),
  (5, ⟨[0, 1, 5, 6], [29], [], [], 0, [], [], [], []⟩),
  (6, ⟨[0, 1, 5, 6, 19], [29], [], [], 0, [], [], [], []⟩),
  (7, ⟨[0, 1, 5, 6], [29], [], [], 7, [], [], [], []⟩),
  (10, ⟨[0, 1, 5, 6, 51], [29], [], [], 0, [], [], [], []⟩),
  (11, ⟨[0, 1, 5], [], [0, 5, 8, 9], [], 9, [], [], [], []⟩),
  (12, ⟨[0, 1, 5, 62], [], [], [], 0, [], [], [], []⟩),
  (13, ⟨[0, 1, 5], [], [0, 5, 8, 9], [], 9, [], [], [], []⟩),
  (8, ⟨[0, 1, 5], [], [0, 16, 17], [], 17, [], [], [], []⟩),
  (9, ⟨[0, 1, 5], [], [4, 5], [], 5, [], [], [], []⟩),
  (14, ⟨[4], [], [0, 1], [], 0, [], [], [], []⟩)]
noncomputable def tally_Join.cx (k : Nat) : Cx := ⟨tt, pp, [(153, (tally_compare.e k))], tally_Join.regs, k⟩
@[reducible] def tally_Join.sg : Sg := ⟨[.dat (.slc tUndo), .dat (.slc tUndo)], [], .own tUndo, []⟩
noncomputable def tally_Join.f (k : Nat) (a0 : Ty.D (.slc tUndo)) (a1 : Ty.D (.slc tUndo)) : Option (Sg.Out tally_Join.sg) := Sg.fn tally_Join.sg (tally_Join.cx k) tally_Join.body tally_Join.rs (a0, a1)
noncomputable def tally_Join.l2 (k : Nat) (n : Nat) (x0 : Ty.D (.slc tUndo)) (x1 : Ty.D (.slc tUndo)) (x5 : List (Ty.D tUndo)) : Option (Sg.Out tally_Join.sg) := loopAt (tally_Join.cx k) tally_Join.body [1, 1, 0, 0] 2 [0, 1, 5] [] [] (Sg.K tally_Join.sg (tally_Join.cx k) tally_Join.rs) n ⟨[(0, .dat (.slc tUndo) x0), (1, .dat (.slc tUndo) x1), (5, .own tUndo x5)], []⟩
set_option maxRecDepth 100000 in
theorem tally_Join.f_eq (k : Nat) (a0 : Ty.D (.slc tUndo)) (a1 : Ty.D (.slc tUndo)) : tally_Join.f k a0 a1 =
  tally_Join.l2 k k a0 a1 [] := by kernel_rfl
set_option maxRecDepth 100000 in
theorem tally_Join.l2_eq (k : Nat) (n2 : Nat) (x0 : Ty.D (.slc tUndo)) (x1 : Ty.D (.slc tUndo)) (x5 : List (Ty.D tUndo)) : tally_Join.l2 k (n2 + 1) x0 x1 x5 =
  br (ilt 0 (ilen x0))
    (br (ieq (ilen x0) 0)
      (br (inL 0 x1)
        (br (room x5 ((rd tUndo x1 (natOf 0)) :: []))
          (br (inS 1 (ilen x1) (ilen x1))
            (tally_Join.l2 k n2 x0 (piece x1 1 (ilen x1)) (app x5 ((rd tUndo x1 (natOf 0)) :: [])))
            (none))
          (none))
        (none))
      (br (ilt 0 (ilen x1))
        (br (inL 0 x0)
          (br (inL 0 x1)
            (bnd (tally_compare.f k (rd tUndo x0 (natOf 0)) (rd tUndo x1 (natOf 0))) fun r0 =>
            br (ilt r0 0)
              (br (inL 0 x0)
                (br (room x5 ((rd tUndo x0 (natOf 0)) :: []))
                  (br (inS 1 (ilen x0) (ilen x0))
                    (tally_Join.l2 k n2 (piece x0 1 (ilen x0)) x1 (app x5 ((rd tUndo x0 (natOf 0)) :: [])))
                    (none))
                  (none))
                (none))
              (br (ilt 0 r0)
                (br (inL 0 x1)
                  (br (room x5 ((rd tUndo x1 (natOf 0)) :: []))
                    (br (inS 1 (ilen x1) (ilen x1))
                      (tally_Join.l2 k n2 x0 (piece x1 1 (ilen x1)) (app x5 ((rd tUndo x1 (natOf 0)) :: [])))
                      (none))
                    (none))
                  (none))
                (br (inL 0 x0)
                  (br (inL 0 x0)
                    (br (inL 0 x1)
                      (br (room x5 (((rd tUndo x0 (natOf 0)).1, (imax ((rd tUndo x0 (natOf 0)).2) ((rd tUndo x1 (natOf 0)).2))) :: []))
                        (br (inS 1 (ilen x0) (ilen x0))
                          (br (inS 1 (ilen x1) (ilen x1))
                            (tally_Join.l2 k n2 (piece x0 1 (ilen x0)) (piece x1 1 (ilen x1)) (app x5 (((rd tUndo x0 (natOf 0)).1, (imax ((rd tUndo x0 (natOf 0)).2) ((rd tUndo x1 (natOf 0)).2))) :: [])))
                            (none))
                          (none))
                        (none))
                      (none))
                    (none))
                  (none))))
            (none))
          (none))
        (br (inL 0 x0)
          (br (room x5 ((rd tUndo x0 (natOf 0)) :: []))
            (br (inS 1 (ilen x0) (ilen x0))
              (tally_Join.l2 k n2 (piece x0 1 (ilen x0)) x1 (app x5 ((rd tUndo x0 (natOf 0)) :: [])))
              (none))
            (none))
          (none))))
    (br (ilt 0 (ilen x1))
      (br (ieq (ilen x0) 0)
        (br (inL 0 x1)
          (br (room x5 ((rd tUndo x1 (natOf 0)) :: []))
            (br (inS 1 (ilen x1) (ilen x1))
              (tally_Join.l2 k n2 x0 (piece x1 1 (ilen x1)) (app x5 ((rd tUndo x1 (natOf 0)) :: [])))
              (none))
            (none))
          (none))
        (br (ilt 0 (ilen x1))
          (br (inL 0 x0)
            (br (inL 0 x1)
              (bnd (tally_compare.f k (rd tUndo x0 (natOf 0)) (rd tUndo x1 (natOf 0))) fun r1 =>
              br (ilt r1 0)
                (br (inL 0 x0)
                  (br (room x5 ((rd tUndo x0 (natOf 0)) :: []))
                    (br (inS 1 (ilen x0) (ilen x0))
                      (tally_Join.l2 k n2 (piece x0 1 (ilen x0)) x1 (app x5 ((rd tUndo x0 (natOf 0)) :: [])))
                      (none))
                    (none))
                  (none))
                (br (ilt 0 r1)
                  (br (inL 0 x1)
                    (br (room x5 ((rd tUndo x1 (natOf 0)) :: []))
                      (br (inS 1 (ilen x1) (ilen x1))
                        (tally_Join.l2 k n2 x0 (piece x1 1 (ilen x1)) (app x5 ((rd tUndo x1 (natOf 0)) :: [])))
                        (none))
                      (none))
                    (none))
                  (br (inL 0 x0)
                    (br (inL 0 x0)
                      (br (inL 0 x1)
                        (br (room x5 (((rd tUndo x0 (natOf 0)).1, (imax ((rd tUndo x0 (natOf 0)).2) ((rd tUndo x1 (natOf 0)).2))) :: []))
                          (br (inS 1 (ilen x0) (ilen x0))
                            (br (inS 1 (ilen x1) (ilen x1))
                              (tally_Join.l2 k n2 (piece x0 1 (ilen x0)) (piece x1 1 (ilen x1)) (app x5 (((rd tUndo x0 (natOf 0)).1, (imax ((rd tUndo x0 (natOf 0)).2) ((rd tUndo x1 (natOf 0)).2))) :: [])))
                              (none))
                            (none))
                          (none))
                        (none))
                      (none))
                    (none))))
              (none))
            (none))
          (br (inL 0 x0)
            (br (room x5 ((rd tUndo x0 (natOf 0)) :: []))
              (br (inS 1 (ilen x0) (ilen x0))
                (tally_Join.l2 k n2 (piece x0 1 (ilen x0)) x1 (app x5 ((rd tUndo x0 (natOf 0)) :: [])))
                (none))
              (none))
            (none))))
      (some x5)) := by kernel_rfl
noncomputable def tally_Join.e (k : Nat) : Entry := Sg.entry tally_Join.sg fun x => tally_Join.f k x.1 x.2
set_option maxRecDepth 100000 in
theorem tally_Join.ok (k : Nat) : CallOK Tryz.prog 117 (tally_Join.e k) :=
  fn_ok (c := tally_Join.cx k) (code := tally_Join.body) (TT.of tt_ok pp_ok) (fns_ok ⟨(tally_compare.ok k), trivial⟩) mixed Tryz.func117 (by kernel_rfl) (by kernel_rfl) (by kernel_rfl) (by kernel_rfl) (by kernel_rfl) (by kernel_rfl) (fun x => by kernel_rfl)
noncomputable def delta_Join.body : Go.Code := Tryz.f73.body.getD .skip
noncomputable def delta_Join.rs : List Go.ResultVar := Tryz.f73.results.toList
def delta_Join.regs : List (Nat × RInfo) := [(0, ⟨[2, 3, 4], [2, 3, 4], [0, 1], [], 0, [], [], [], []⟩),
  (1, ⟨[4], [4], [16], [], 16, [], [], [], [[], [], [], [], [1, 3], [], [], [], [], [6, 8, 1, 3], [], [], [], [], [11, 13, 6, 8, 1, 3], [1, 3, 6, 8, 11, 13], [1, 3, 6, 8, 11, 13]]⟩)]
noncomputable def delta_Join.cx (k : Nat) : Cx := ⟨tt, pp, [(99, (dots_Union.e k)),
  (117, (tally_Join.e k))], delta_Join.regs, k⟩
@[reducible] def delta_Join.sg : Sg := ⟨[.dat tKnow, .dat tKnow], [], .dat tKnow, []⟩
noncomputable def delta_Join.f (k : Nat) (a0 : Ty.D tKnow) (a1 : Ty.D tKnow) : Option (Sg.Out delta_Join.sg) := Sg.fn delta_Join.sg (delta_Join.cx k) delta_Join.body delta_Join.rs (a0, a1)
set_option maxRecDepth 100000 in
theorem delta_Join.f_eq (k : Nat) (a0 : Ty.D tKnow) (a1 : Ty.D tKnow) : delta_Join.f k a0 a1 =
  bnd (dots_Union.f k a0.1 a1.1) fun r0 =>
  bnd (tally_Join.f k a0.2.1 a1.2.1) fun r1 =>
  bnd (dots_Union.f k a0.2.2 a1.2.2) fun r2 =>
  some (r0, (r1, r2)) := by kernel_rfl
noncomputable def delta_Join.e (k : Nat) : Entry := Sg.entry delta_Join.sg fun x => delta_Join.f k x.1 x.2
set_option maxRecDepth 100000 in
theorem delta_Join.ok (k : Nat) : CallOK Tryz.prog 73 (delta_Join.e k) :=
  fn_ok (c := delta_Join.cx k) (code := delta_Join.body) (TT.of tt_ok pp_ok) (fns_ok ⟨(dots_Union.ok k), (tally_Join.ok k), trivial⟩) mixed Tryz.func73 (by kernel_rfl) (by kernel_rfl) (by kernel_rfl) (by kernel_rfl) (by kernel_rfl) (by kernel_rfl) (fun x => by kernel_rfl)
noncomputable def peer_Peers_Heard.body : Go.Code := Tryz.f28.body.getD .skip
noncomputable def peer_Peers_Heard.rs : List Go.ResultVar := Tryz.f28.results.toList
def peer_Peers_Heard.regs : List (Nat × RInfo) := [(0, ⟨[0, 1, 5], [5, 1000000], [0], [], 0, [], [], [], []⟩),
  (1, ⟨[0, 1, 5, 7], [5, 1000000], [], [], 0, [], [], [], []⟩),
  (2, ⟨[6], [1000000], [], [], 0, [], [], [], []⟩),
  (3, ⟨[0, 1, 5, 10], [5, 1000000], [], [], 0, [], [], [], []⟩),
  (4, ⟨[6], [1000000], [], [], 0, [], [], [], []⟩),
  (5, ⟨[], [1000000], [13], [], 14, [], [], [], [[], [], [], [], [], [], [], [], [], [7, 8], [], [], [7, 8], [7, 8]]⟩),
  (6, ⟨[6], [1000000], [], [], 0, [], [], [], []⟩)]
noncomputable def peer_Peers_Heard.cx (k : Nat) : Cx := ⟨tt, pp, [(61, (peer_Peers_other.e k)),
  (72, (delta_Right.e k)),
  (73, (delta_Join.e k))], peer_Peers_Heard.regs, k⟩
@[reducible] def peer_Peers_Heard.sg : Sg := ⟨[.ref, .dat (.int .i64), .dat tKnow], [tPeers], .dat (.int .i64), [tPeers]⟩
noncomputable def peer_Peers_Heard.f (k : Nat) (a1 : Ty.D (.int .i64)) (a2 : Ty.D tKnow) (o0 : Ty.D tPeers) : Option (Sg.Out peer_Peers_Heard.sg) := Sg.fn peer_Peers_Heard.sg (peer_Peers_Heard.cx k) peer_Peers_Heard.body peer_Peers_Heard.rs (a1, a2, o0)
set_option maxRecDepth 100000 in
theorem peer_Peers_Heard.f_eq (k : Nat) (a1 : Ty.D (.int .i64)) (a2 : Ty.D tKnow) (o0 : Ty.D tPeers) : peer_Peers_Heard.f k a1 a2 o0 =
  bnd (peer_Peers_other.f k a1 o0) fun r0 =>
  br (bnot r0.1)
    (some (2, r0.2))
    (bnd (delta_Right.f k a2) fun r1 =>
    br (bnot r1)
      (some (2, r0.2))
      (br (inB a1 16)
        (bnd (delta_Join.f k (rd tKnow r0.2.2.2 (natOf a1)) a2) fun r2 =>
        br (inB a1 16)
          (some (0, (r0.2.1, (r0.2.2.1, (upd r0.2.2.2 (natOf a1) r2)))))
          (none))
        (none))) := by kernel_rfl
noncomputable def peer_Peers_Heard.e (k : Nat) : Entry := Sg.entry peer_Peers_Heard.sg fun x => peer_Peers_Heard.f k x.1 x.2.1 x.2.2
set_option maxRecDepth 100000 in
theorem peer_Peers_Heard.ok (k : Nat) : CallOK Tryz.prog 28 (peer_Peers_Heard.e k) :=
  fn_ok (c := peer_Peers_Heard.cx k) (code := peer_Peers_Heard.body) (TT.of tt_ok pp_ok) (fns_ok ⟨(peer_Peers_other.ok k), (delta_Right.ok k), (delta_Join.ok k), trivial⟩) mixed Tryz.func28 (by kernel_rfl) (by kernel_rfl) (by kernel_rfl) (by kernel_rfl) (by kernel_rfl) (by kernel_rfl) (fun x => by kernel_rfl)
noncomputable def delta_Empty.body : Go.Code := Tryz.f33.body.getD .skip
noncomputable def delta_Empty.rs : List Go.ResultVar := Tryz.f33.results.toList
def delta_Empty.regs : List (Nat × RInfo) := [(0, ⟨[1], [1], [0], [], 0, [], [], [], []⟩),
  (1, ⟨[2], [], [], [], 0, [], [], [], []⟩)]
noncomputable def delta_Empty.cx (k : Nat) : Cx := ⟨tt, pp, [], delta_Empty.regs, k⟩
@[reducible] def delta_Empty.sg : Sg := ⟨[.dat tDelta], [], .dat .bool, []⟩
noncomputable def delta_Empty.f (k : Nat) (a0 : Ty.D tDelta) : Option (Sg.Out delta_Empty.sg) := Sg.fn delta_Empty.sg (delta_Empty.cx k) delta_Empty.body delta_Empty.rs a0
set_option maxRecDepth 100000 in
theorem delta_Empty.f_eq (k : Nat) (a0 : Ty.D tDelta) : delta_Empty.f k a0 =
  some (ieq (iadd .i64 (iadd .i64 (ilen a0.1) (ilen a0.2.1)) (ilen a0.2.2)) 0) := by kernel_rfl
noncomputable def delta_Empty.e (k : Nat) : Entry := Sg.entry delta_Empty.sg fun x => delta_Empty.f k x
set_option maxRecDepth 100000 in
theorem delta_Empty.ok (k : Nat) : CallOK Tryz.prog 33 (delta_Empty.e k) :=
  fn_ok (c := delta_Empty.cx k) (code := delta_Empty.body) (TT.of tt_ok pp_ok) (fns_ok trivial) mixed Tryz.func33 (by kernel_rfl) (by kernel_rfl) (by kernel_rfl) (by kernel_rfl) (by kernel_rfl) (by kernel_rfl) (fun x => by kernel_rfl)
noncomputable def peer_Peers_Agrees_1.body : Go.Code := Tryz.f108.body.getD .skip
noncomputable def peer_Peers_Agrees_1.rs : List Go.ResultVar := Tryz.f108.results.toList
def peer_Peers_Agrees_1.regs : List (Nat × RInfo) := [(0, ⟨[1, 2, 3], [3, 1000000, 1000001], [0], [], 0, [], [], [], []⟩),
  (1, ⟨[4], [1000000, 1000001], [], [], 6, [], [], [], []⟩)]
noncomputable def peer_Peers_Agrees_1.cx (k : Nat) : Cx := ⟨tt, pp, [(86, (tally_Get.e k))], peer_Peers_Agrees_1.regs, k⟩
@[reducible] def peer_Peers_Agrees_1.sg : Sg := ⟨[.dat tKnow, .ref, .ref], [tDot, (.int .i64)], .dat .bool, [tDot, (.int .i64)]⟩
noncomputable def peer_Peers_Agrees_1.f (k : Nat) (a0 : Ty.D tKnow) (o0 : Ty.D tDot) (o1 : Ty.D (.int .i64)) : Option (Sg.Out peer_Peers_Agrees_1.sg) := Sg.fn peer_Peers_Agrees_1.sg (peer_Peers_Agrees_1.cx k) peer_Peers_Agrees_1.body peer_Peers_Agrees_1.rs (a0, o0, o1)
set_option maxRecDepth 100000 in
theorem peer_Peers_Agrees_1.f_eq (k : Nat) (a0 : Ty.D tKnow) (o0 : Ty.D tDot) (o1 : Ty.D (.int .i64)) : peer_Peers_Agrees_1.f k a0 o0 o1 =
  bnd (tally_Get.f k a0.2.1 o0) fun r0 =>
  some ((ieq r0 o1), (o0, o1)) := by kernel_rfl
noncomputable def peer_Peers_Agrees_1.e (k : Nat) : Entry := Sg.entry peer_Peers_Agrees_1.sg fun x => peer_Peers_Agrees_1.f k x.1 x.2.1 x.2.2
set_option maxRecDepth 100000 in
theorem peer_Peers_Agrees_1.ok (k : Nat) : CallOK Tryz.prog 108 (peer_Peers_Agrees_1.e k) :=
  fn_ok (c := peer_Peers_Agrees_1.cx k) (code := peer_Peers_Agrees_1.body) (TT.of tt_ok pp_ok) (fns_ok ⟨(tally_Get.ok k), trivial⟩) mixed Tryz.func108 (by kernel_rfl) (by kernel_rfl) (by kernel_rfl) (by kernel_rfl) (by kernel_rfl) (by kernel_rfl) (fun x => by kernel_rfl)
noncomputable def peer_Peers_All_peer_Peers_Agrees_1.body : Go.Code := Tryz.f82.body.getD .skip
noncomputable def peer_Peers_All_peer_Peers_Agrees_1.rs : List Go.ResultVar := Tryz.f82.results.toList
def peer_Peers_All_peer_Peers_Agrees_1.regs : List (Nat × RInfo) := [(0, ⟨[0, 1], [1000000, 1000001, 1000002], [], [], 0, [], [], [], []⟩),
  (1, ⟨[0, 1, 7], [1000000, 1000001, 1000002], [], [], 0, [], [], [], []⟩),
  (2, ⟨[4], [1000000, 1000001, 1000002], [], [], 0, [], [], [], []⟩),
  (3, ⟨[0, 1, 11, 12], [1000000, 1000001, 1000002], [], [], 0, [], [], [], []⟩),
  (4, ⟨[0, 1, 11, 12, 13], [1000000, 1000001, 1000002], [], [], 0, [0, 1, 11, 12], [1000000, 1000001, 1000002], [], []⟩),
  (5, ⟨[0, 1, 5, 11, 12], [1000000, 1000001, 1000002], [], [], 0, [], [], [], []⟩),
  (6, ⟨[0, 1, 11, 12, 31], [1000000, 1000001, 1000002], [], [], 0, [], [], [], []⟩),
  (7, ⟨[4], [1000000, 1000001, 1000002], [], [], 0, [], [], [], []⟩),
  (8, ⟨[0, 1, 11, 12], [1000000, 1000001, 1000002], [], [], 0, [], [], [], []⟩),
  (9, ⟨[4], [1000000, 1000001, 1000002], [], [], 0, [], [], [], []⟩)]
noncomputable def peer_Peers_All_peer_Peers_Agrees_1.cx (k : Nat) : Cx := ⟨tt, pp, [(108, (peer_Peers_Agrees_1.e k))], peer_Peers_All_peer_Peers_Agrees_1.regs, k⟩
@[reducible] def peer_Peers_All_peer_Peers_Agrees_1.sg : Sg := ⟨[.ref, .fn 108 2], [tPeers, tDot, (.int .i64)], .dat .bool, [tPeers, tDot, (.int .i64)]⟩
noncomputable def peer_Peers_All_peer_Peers_Agrees_1.f (k : Nat) (o0 : Ty.D tPeers) (o1 : Ty.D tDot) (o2 : Ty.D (.int .i64)) : Option (Sg.Out peer_Peers_All_peer_Peers_Agrees_1.sg) := Sg.fn peer_Peers_All_peer_Peers_Agrees_1.sg (peer_Peers_All_peer_Peers_Agrees_1.cx k) peer_Peers_All_peer_Peers_Agrees_1.body peer_Peers_All_peer_Peers_Agrees_1.rs (o0, o1, o2)
noncomputable def peer_Peers_All_peer_Peers_Agrees_1.l4 (k : Nat) (n : Nat) (x11 : Ty.D (.int .i64)) (x12 : Ty.D (.int .i64)) (m1000000 : Ty.D tPeers) (m1000001 : Ty.D tDot) (m1000002 : Ty.D (.int .i64)) : Option (Sg.Out peer_Peers_All_peer_Peers_Agrees_1.sg) := loopAt (peer_Peers_All_peer_Peers_Agrees_1.cx k) peer_Peers_All_peer_Peers_Agrees_1.body [1, 1, 0, 1, 0] 4 [0, 1, 11, 12] [1000000, 1000001, 1000002] [] (Sg.K peer_Peers_All_peer_Peers_Agrees_1.sg (peer_Peers_All_peer_Peers_Agrees_1.cx k) peer_Peers_All_peer_Peers_Agrees_1.rs) n ⟨[(0, .ref 1000000 []), (1, .fn 108 [(1000001, []), (1000002, [])]), (11, .dat (.int .i64) x11), (12, .dat (.int .i64) x12)], [(1000000, .dat tPeers m1000000), (1000001, .dat tDot m1000001), (1000002, .dat (.int .i64) m1000002)]⟩
set_option maxRecDepth 100000 in
theorem peer_Peers_All_peer_Peers_Agrees_1.f_eq (k : Nat) (o0 : Ty.D tPeers) (o1 : Ty.D tDot) (o2 : Ty.D (.int .i64)) : peer_Peers_All_peer_Peers_Agrees_1.f k o0 o1 o2 =
  peer_Peers_All_peer_Peers_Agrees_1.l4 k k o0.2.1 0 o0 o1 o2 := by kernel_rfl
set_option maxRecDepth 100000 in
theorem peer_Peers_All_peer_Peers_Agrees_1.l4_eq (k : Nat) (n4 : Nat) (x11 : Ty.D (.int .i64)) (x12 : Ty.D (.int .i64)) (m1000000 : Ty.D tPeers) (m1000001 : Ty.D tDot) (m1000002 : Ty.D (.int .i64)) : peer_Peers_All_peer_Peers_Agrees_1.l4 k (n4 + 1) x11 x12 m1000000 m1000001 m1000002 =
  br (ilt x12 x11)
    (br (bnot (ieq x12 m1000000.1))
      (br (inB x12 16)
        (bnd (peer_Peers_Agrees_1.f k (rd tKnow m1000000.2.2 (natOf x12)) m1000001 m1000002) fun r0 =>
        br (bnot r0.1)
          (some (false, (m1000000, r0.2.1, r0.2.2)))
          (peer_Peers_All_peer_Peers_Agrees_1.l4 k n4 x11 (iadd .i64 x12 1) m1000000 r0.2.1 r0.2.2))
        (none))
      (peer_Peers_All_peer_Peers_Agrees_1.l4 k n4 x11 (iadd .i64 x12 1) m1000000 m1000001 m1000002))
    (some (true, (m1000000, m1000001, m1000002))) := by kernel_rfl
noncomputable def peer_Peers_All_peer_Peers_Agrees_1.e (k : Nat) : Entry := Sg.entry peer_Peers_All_peer_Peers_Agrees_1.sg fun x => peer_Peers_All_peer_Peers_Agrees_1.f k x.1 x.2.1 x.2.2
set_option maxRecDepth 100000 in
theorem peer_Peers_All_peer_Peers_Agrees_1.ok (k : Nat) : CallOK Tryz.prog 82 (peer_Peers_All_peer_Peers_Agrees_1.e k) :=
  fn_ok (c := peer_Peers_All_peer_Peers_Agrees_1.cx k) (code := peer_Peers_All_peer_Peers_Agrees_1.body) (TT.of tt_ok pp_ok) (fns_ok ⟨(peer_Peers_Agrees_1.ok k), trivial⟩) mixed Tryz.func82 (by kernel_rfl) (by kernel_rfl) (by kernel_rfl) (by kernel_rfl) (by kernel_rfl) (by kernel_rfl) (fun x => by kernel_rfl)
noncomputable def peer_Peers_Agrees.body : Go.Code := Tryz.f55.body.getD .skip
noncomputable def peer_Peers_Agrees.rs : List Go.ResultVar := Tryz.f55.results.toList
def peer_Peers_Agrees.regs : List (Nat × RInfo) := [(0, ⟨[0, 4, 5], [4, 5, 1000000], [], [], 0, [], [], [], []⟩),
  (1, ⟨[6], [4, 5, 9, 1000000], [], [], 0, [], [], [], []⟩)]
noncomputable def peer_Peers_Agrees.cx (k : Nat) : Cx := ⟨tt, pp, [(108, (peer_Peers_Agrees_1.e k)),
  (82, (peer_Peers_All_peer_Peers_Agrees_1.e k))], peer_Peers_Agrees.regs, k⟩
@[reducible] def peer_Peers_Agrees.sg : Sg := ⟨[.ref, .dat tDot, .dat (.int .i64)], [tPeers], .dat .bool, [tPeers]⟩
noncomputable def peer_Peers_Agrees.f (k : Nat) (a1 : Ty.D tDot) (a2 : Ty.D (.int .i64)) (o0 : Ty.D tPeers) : Option (Sg.Out peer_Peers_Agrees.sg) := Sg.fn peer_Peers_Agrees.sg (peer_Peers_Agrees.cx k) peer_Peers_Agrees.body peer_Peers_Agrees.rs (a1, a2, o0)
set_option maxRecDepth 100000 in
theorem peer_Peers_Agrees.f_eq (k : Nat) (a1 : Ty.D tDot) (a2 : Ty.D (.int .i64)) (o0 : Ty.D tPeers) : peer_Peers_Agrees.f k a1 a2 o0 =
  bnd (peer_Peers_All_peer_Peers_Agrees_1.f k o0 a1 a2) fun r0 =>
  some (r0.1, r0.2.1) := by kernel_rfl
noncomputable def peer_Peers_Agrees.e (k : Nat) : Entry := Sg.entry peer_Peers_Agrees.sg fun x => peer_Peers_Agrees.f k x.1 x.2.1 x.2.2
set_option maxRecDepth 100000 in
theorem peer_Peers_Agrees.ok (k : Nat) : CallOK Tryz.prog 55 (peer_Peers_Agrees.e k) :=
  fn_ok (c := peer_Peers_Agrees.cx k) (code := peer_Peers_Agrees.body) (TT.of tt_ok pp_ok) (fns_ok ⟨(peer_Peers_Agrees_1.ok k), (peer_Peers_All_peer_Peers_Agrees_1.ok k), trivial⟩) mixed Tryz.func55 (by kernel_rfl) (by kernel_rfl) (by kernel_rfl) (by kernel_rfl) (by kernel_rfl) (by kernel_rfl) (fun x => by kernel_rfl)
noncomputable def law29_awake.body : Go.Code := Tryz.f14.body.getD .skip
noncomputable def law29_awake.rs : List Go.ResultVar := Tryz.f14.results.toList
def law29_awake.regs : List (Nat × RInfo) := [(0, ⟨[], [], [], [], 0, [], [], [], []⟩),
  (1, ⟨[1, 2], [11], [], [], 0, [], [], [], []⟩),
  (2, ⟨[1, 2, 3], [3, 11], [], [], 0, [], [], [], []⟩),
  (3, ⟨[1, 2, 3, 4], [3, 4, 11], [10], [], 0, [], [], [], []⟩),
  (4, ⟨[1, 2, 3, 4, 5, 6], [3, 4, 5, 11, 27], [7], [], 0, [], [], [], []⟩),
  (5, ⟨[1, 2, 3, 4, 5, 6, 7], [3, 4, 5, 11, 27, 33], [], [], 0, [], [], [], []⟩),
  (6, ⟨[1, 2, 3, 5, 6, 7, 8, 9], [3, 5, 8, 11, 27, 33, 37], [7], [], 0, [], [], [], []⟩),
  (7, ⟨[0], [69, 74], [], [], 0, [], [], [], []⟩)]
noncomputable def law29_awake.cx (k : Nat) : Cx := ⟨tt, pp, [(27, (peer_New.e k)),
  (29, (peer_Peers_Offer.e k)),
  (31, (delta_Of.e k)),
  (28, (peer_Peers_Heard.e k)),
  (33, (delta_Empty.e k)),
  (55, (peer_Peers_Agrees.e k))], law29_awake.regs, k⟩
@[reducible] def law29_awake.sg : Sg := ⟨[], [], .dat .bool, []⟩
noncomputable def law29_awake.f (k : Nat) : Option (Sg.Out law29_awake.sg) := Sg.fn law29_awake.sg (law29_awake.cx k) law29_awake.body law29_awake.rs ()
noncomputable def law29_awake.e (k : Nat) : Entry := Sg.entry law29_awake.sg fun x => law29_awake.f k
set_option maxRecDepth 100000 in
theorem law29_awake.ok (k : Nat) : CallOK Tryz.prog 14 (law29_awake.e k) :=
  fn_ok (c := law29_awake.cx k) (code := law29_awake.body) (TT.of tt_ok pp_ok) (fns_ok ⟨(peer_New.ok k), (peer_Peers_Offer.ok k), (delta_Of.ok k), (peer_Peers_Heard.ok k), (delta_Empty.ok k), (peer_Peers_Agrees.ok k), trivial⟩) mixed Tryz.func14 (by kernel_rfl) (by kernel_rfl) (by kernel_rfl) (by kernel_rfl) (by kernel_rfl) (by kernel_rfl) (fun x => by kernel_rfl)
noncomputable def ref29_Peers_Other.body : Go.Code := Tryz.f18.body.getD .skip
noncomputable def ref29_Peers_Other.rs : List Go.ResultVar := Tryz.f18.results.toList
def ref29_Peers_Other.regs : List (Nat × RInfo) := [(0, ⟨[0, 1], [1000000], [], [], 0, [], [], [], []⟩),
  (1, ⟨[4], [1000000], [], [], 0, [], [], [], []⟩)]
noncomputable def ref29_Peers_Other.cx (k : Nat) : Cx := ⟨tt, pp, [], ref29_Peers_Other.regs, k⟩
@[reducible] def ref29_Peers_Other.sg : Sg := ⟨[.ref, .dat (.int .i64)], [tPeers], .dat .bool, [tPeers]⟩
noncomputable def ref29_Peers_Other.f (k : Nat) (a1 : Ty.D (.int .i64)) (o0 : Ty.D tPeers) : Option (Sg.Out ref29_Peers_Other.sg) := Sg.fn ref29_Peers_Other.sg (ref29_Peers_Other.cx k) ref29_Peers_Other.body ref29_Peers_Other.rs (a1, o0)
set_option maxRecDepth 100000 in
theorem ref29_Peers_Other.f_eq (k : Nat) (a1 : Ty.D (.int .i64)) (o0 : Ty.D tPeers) : ref29_Peers_Other.f k a1 o0 =
  br (ile 0 a1)
    (br (ilt a1 o0.2.1)
      (some ((bnot (ieq a1 o0.1)), o0))
      (some (false, o0)))
    (some (false, o0)) := by kernel_rfl
noncomputable def ref29_Peers_Other.e (k : Nat) : Entry := Sg.entry ref29_Peers_Other.sg fun x => ref29_Peers_Other.f k x.1 x.2
set_option maxRecDepth 100000 in
theorem ref29_Peers_Other.ok (k : Nat) : CallOK Tryz.prog 18 (ref29_Peers_Other.e k) :=
  fn_ok (c := ref29_Peers_Other.cx k) (code := ref29_Peers_Other.body) (TT.of tt_ok pp_ok) (fns_ok trivial) mixed Tryz.func18 (by kernel_rfl) (by kernel_rfl) (by kernel_rfl) (by kernel_rfl) (by kernel_rfl) (by kernel_rfl) (fun x => by kernel_rfl)
noncomputable def ref24_Right.body : Go.Code := Tryz.f65.body.getD .skip
noncomputable def ref24_Right.rs : List Go.ResultVar := Tryz.f65.results.toList
def ref24_Right.regs : List (Nat × RInfo) := [(0, ⟨[1], [1], [0], [], 0, [], [], [], []⟩),
  (1, ⟨[2], [5, 9, 14], [], [], 0, [], [], [], []⟩)]
noncomputable def ref24_Right.cx (k : Nat) : Cx := ⟨tt, pp, [(95, (ref06_Right.e k)),
  (94, (ref08_Right.e k))], ref24_Right.regs, k⟩
@[reducible] def ref24_Right.sg : Sg := ⟨[.dat tKnow], [], .dat .bool, []⟩
noncomputable def ref24_Right.f (k : Nat) (a0 : Ty.D tKnow) : Option (Sg.Out ref24_Right.sg) := Sg.fn ref24_Right.sg (ref24_Right.cx k) ref24_Right.body ref24_Right.rs a0
set_option maxRecDepth 100000 in
theorem ref24_Right.f_eq (k : Nat) (a0 : Ty.D tKnow) : ref24_Right.f k a0 =
  bnd (ref06_Right.f k a0.1) fun r0 =>
  br r0
    (bnd (ref08_Right.f k a0.2.1) fun r1 =>
    br r1
      (bnd (ref06_Right.f k a0.2.2) fun r2 =>
      some r2)
      (some false))
    (some false) := by kernel_rfl
noncomputable def ref24_Right.e (k : Nat) : Entry := Sg.entry ref24_Right.sg fun x => ref24_Right.f k x
set_option maxRecDepth 100000 in
theorem ref24_Right.ok (k : Nat) : CallOK Tryz.prog 65 (ref24_Right.e k) :=
  fn_ok (c := ref24_Right.cx k) (code := ref24_Right.body) (TT.of tt_ok pp_ok) (fns_ok ⟨(ref06_Right.ok k), (ref08_Right.ok k), trivial⟩) mixed Tryz.func65 (by kernel_rfl) (by kernel_rfl) (by kernel_rfl) (by kernel_rfl) (by kernel_rfl) (by kernel_rfl) (fun x => by kernel_rfl)
noncomputable def ref05_Join.body : Go.Code := Tryz.f172.body.getD .skip
noncomputable def ref05_Join.rs : List Go.ResultVar := Tryz.f172.results.toList
def ref05_Join.regs : List (Nat × RInfo) := [(0, ⟨[2, 3, 4], [2, 3, 4], [], [], 0, [], [], [], []⟩),
  (1, ⟨[2, 3, 4, 5], [2, 3, 4, 5], [], [], 0, [], [], [], []⟩),
  (2, ⟨[2, 3, 4, 5, 6], [2, 3, 4, 5], [], [], 0, [], [], [], []⟩),
  (3, ⟨[2, 3, 4, 5, 6, 9], [2, 3, 4, 5], [], [], 0, [2, 3, 4, 5, 6], [2, 3, 4, 5], [], []⟩),
  (5, ⟨[2, 3, 4, 5, 6, 18], [2, 3, 4, 5], [], [], 7, [], [], [], []⟩),
  (6, ⟨[2, 3, 4, 5, 6], [2, 3, 4, 5], [], [], 0, [], [], [], []⟩),
  (4, ⟨[2, 3, 4, 5, 6], [2, 3, 4, 5], [], [], 0, [], [], [], []⟩),
  (7, ⟨[4], [4], [], [], 0, [], [], [], []⟩)]
noncomputable def ref05_Join.cx (k : Nat) : Cx := ⟨tt, pp, [], ref05_Join.regs, k⟩
@[reducible] def ref05_Join.sg : Sg := ⟨[.dat tVec, .dat tVec], [], .dat tVec, []⟩
noncomputable def ref05_Join.f (k : Nat) (a0 : Ty.D tVec) (a1 : Ty.D tVec) : Option (Sg.Out ref05_Join.sg) := Sg.fn ref05_Join.sg (ref05_Join.cx k) ref05_Join.body ref05_Join.rs (a0, a1)
noncomputable def ref05_Join.l3 (k : Nat) (n : Nat) (x6 : Ty.D (.int .i64)) (m2 : Ty.D tVec) (m3 : Ty.D tVec) (m4 : Ty.D tVec) (m5 : Ty.D tVec) : Option (Sg.Out ref05_Join.sg) := loopAt (ref05_Join.cx k) ref05_Join.body [1, 1, 0, 1, 0] 3 [2, 3, 4, 5, 6] [2, 3, 4, 5] [] (Sg.K ref05_Join.sg (ref05_Join.cx k) ref05_Join.rs) n ⟨[(2, .ref 2 []), (3, .ref 3 []), (4, .ref 4 []), (5, .ref 5 []), (6, .dat (.int .i64) x6)], [(2, .dat tVec m2), (3, .dat tVec m3), (4, .dat tVec m4), (5, .dat tVec m5)]⟩
set_option maxRecDepth 100000 in
theorem ref05_Join.f_eq (k : Nat) (a0 : Ty.D tVec) (a1 : Ty.D tVec) : ref05_Join.f k a0 a1 =
  ref05_Join.l3 k k 0 a0 a1 (zarr 16 0) a0 := by kernel_rfl
set_option maxRecDepth 100000 in
theorem ref05_Join.l3_eq (k : Nat) (n3 : Nat) (x6 : Ty.D (.int .i64)) (m2 : Ty.D tVec) (m3 : Ty.D tVec) (m4 : Ty.D tVec) (m5 : Ty.D tVec) : ref05_Join.l3 k (n3 + 1) x6 m2 m3 m4 m5 =
  br (ilt x6 16)
    (br (inB x6 16)
      (br (inB x6 16)
        (br (ilt (rd (.int .i64) m2 (natOf x6)) (rd (.int .i64) m3 (natOf x6)))
          (br (inB x6 16)
            (br (inB x6 16)
              (ref05_Join.l3 k n3 (iadd .i64 x6 1) m2 m3 m4 (upd m5 (natOf x6) (rd (.int .i64) m3 (natOf x6))))
              (none))
            (none))
          (ref05_Join.l3 k n3 (iadd .i64 x6 1) m2 m3 m4 m5))
        (none))
      (none))
    (some m5) := by kernel_rfl
noncomputable def ref05_Join.e (k : Nat) : Entry := Sg.entry ref05_Join.sg fun x => ref05_Join.f k x.1 x.2
set_option maxRecDepth 100000 in
theorem ref05_Join.ok (k : Nat) : CallOK Tryz.prog 172 (ref05_Join.e k) :=
  fn_ok (c := ref05_Join.cx k) (code := ref05_Join.body) (TT.of tt_ok pp_ok) (fns_ok trivial) mixed Tryz.func172 (by kernel_rfl) (by kernel_rfl) (by kernel_rfl) (by kernel_rfl) (by kernel_rfl) (by kernel_rfl) (fun x => by kernel_rfl)
noncomputable def ref06_Union.body : Go.Code := Tryz.f146.body.getD .skip
noncomputable def ref06_Union.rs : List Go.ResultVar := Tryz.f146.results.toList
def ref06_Union.regs : List (Nat × RInfo) := [(0, ⟨[2, 3, 4], [2, 3, 4], [0, 1], [], 0, [], [], [], []⟩),
  (1, ⟨[3, 4, 5], [3, 4, 5], [10], [], 9, [], [], [], [[], [], [], [], [1, 3], [], [], [1, 3, 6], [1, 3, 6], [], [1, 3, 6]]⟩),
  (2, ⟨[3, 4, 5, 6], [3, 4, 5], [], [], 0, [], [], [], []⟩),
  (3, ⟨[3, 4, 5, 6, 20], [3, 4, 5], [], [], 0, [3, 4, 5, 6], [3, 4, 5], [], []⟩),
  (5, ⟨[3, 4, 5, 6], [3, 4, 5], [7], [], 7, [], [], [], [[], [], [], [], [2], [2], [0, 5, 2], [0, 5, 2]]⟩),
  (4, ⟨[3, 4, 5, 6], [3, 4, 5], [], [], 0, [], [], [], []⟩),
  (6, ⟨[4], [4], [1], [], 0, [], [], [], []⟩)]
noncomputable def ref06_Union.cx (k : Nat) : Cx := ⟨tt, pp, [(172, (ref05_Join.e k)),
  (166, (ref06_filled.e k)),
  (133, (ref06_Put.e k))], ref06_Union.regs, k⟩
@[reducible] def ref06_Union.sg : Sg := ⟨[.dat tDots, .dat tDots], [], .dat tDots, []⟩
noncomputable def ref06_Union.f (k : Nat) (a0 : Ty.D tDots) (a1 : Ty.D tDots) : Option (Sg.Out ref06_Union.sg) := Sg.fn ref06_Union.sg (ref06_Union.cx k) ref06_Union.body ref06_Union.rs (a0, a1)
noncomputable def ref06_Union.l3 (k : Nat) (n : Nat) (x6 : Ty.D (.int .i64)) (m3 : Ty.D tDots) (m4a : Ty.D tVec) (m4b : List (Ty.D tDot)) (m5 : Ty.D tDots) : Option (Sg.Out ref06_Union.sg) := loopAt (ref06_Union.cx k) ref06_Union.body [1, 1, 0, 1, 0] 3 [3, 4, 5, 6] [3, 4, 5] [] (Sg.K ref06_Union.sg (ref06_Union.cx k) ref06_Union.rs) n ⟨[(3, .ref 3 []), (4, .ref 4 []), (5, .ref 5 []), (6, .dat (.int .i64) x6)], [(3, .dat tDots m3), (4, .pr (.dat tVec m4a) (.own tDot m4b)), (5, .dat tDots m5)]⟩
set_option maxRecDepth 100000 in
theorem ref06_Union.f_eq (k : Nat) (a0 : Ty.D tDots) (a1 : Ty.D tDots) : ref06_Union.f k a0 a1 =
  bnd (ref05_Join.f k a0.1 a1.1) fun r0 =>
  bnd (ref06_filled.f k (r0, a0.2)) fun r1 =>
  ref06_Union.l3 k k 0 a1 (zarr 16 0) [] r1 := by kernel_rfl
set_option maxRecDepth 100000 in
theorem ref06_Union.l3_eq (k : Nat) (n3 : Nat) (x6 : Ty.D (.int .i64)) (m3 : Ty.D tDots) (m4a : Ty.D tVec) (m4b : List (Ty.D tDot)) (m5 : Ty.D tDots) : ref06_Union.l3 k (n3 + 1) x6 m3 m4a m4b m5 =
  br (ilt x6 (ilen m3.2))
    (br (inL x6 m3.2)
      (bnd (ref06_Put.f k m5 (rd tDot m3.2 (natOf x6))) fun r0 =>
      ref06_Union.l3 k n3 (iadd .i64 x6 1) m3 m4a m4b r0)
      (none))
    (some m5) := by kernel_rfl
noncomputable def ref06_Union.e (k : Nat) : Entry := Sg.entry ref06_Union.sg fun x => ref06_Union.f k x.1 x.2
set_option maxRecDepth 100000 in
theorem ref06_Union.ok (k : Nat) : CallOK Tryz.prog 146 (ref06_Union.e k) :=
  fn_ok (c := ref06_Union.cx k) (code := ref06_Union.body) (TT.of tt_ok pp_ok) (fns_ok ⟨(ref05_Join.ok k), (ref06_filled.ok k), (ref06_Put.ok k), trivial⟩) mixed Tryz.func146 (by kernel_rfl) (by kernel_rfl) (by kernel_rfl) (by kernel_rfl) (by kernel_rfl) (by kernel_rfl) (fun x => by kernel_rfl)
noncomputable def ref08_Get.body : Go.Code := Tryz.f46.body.getD .skip
noncomputable def ref08_Get.rs : List Go.ResultVar := Tryz.f46.results.toList
def ref08_Get.regs : List (Nat × RInfo) := [(0, ⟨[0, 3], [3], [], [], 0, [], [], [], []⟩),
  (1, ⟨[0, 3, 5], [3], [], [], 0, [], [], [], []⟩),
  (2, ⟨[0, 3, 5, 9], [3], [], [], 0, [0, 3, 5], [3], [], []⟩),
  (4, ⟨[0, 3, 5, 18], [3], [], [], 7, [], [], [], []⟩),
  (5, ⟨[4], [], [], [], 0, [], [], [], []⟩),
  (3, ⟨[0, 3, 5], [3], [], [], 0, [], [], [], []⟩),
  (6, ⟨[4], [], [], [], 0, [], [], [], []⟩)]
noncomputable def ref08_Get.cx (k : Nat) : Cx := ⟨tt, pp, [], ref08_Get.regs, k⟩
@[reducible] def ref08_Get.sg : Sg := ⟨[.dat (.slc tUndo), .dat tDot], [], .dat (.int .i64), []⟩
noncomputable def ref08_Get.f (k : Nat) (a0 : Ty.D (.slc tUndo)) (a1 : Ty.D tDot) : Option (Sg.Out ref08_Get.sg) := Sg.fn ref08_Get.sg (ref08_Get.cx k) ref08_Get.body ref08_Get.rs (a0, a1)
noncomputable def ref08_Get.l2 (k : Nat) (n : Nat) (x0 : Ty.D (.slc tUndo)) (x5 : Ty.D (.int .i64)) (m3 : Ty.D tDot) : Option (Sg.Out ref08_Get.sg) := loopAt (ref08_Get.cx k) ref08_Get.body [1, 0, 1, 0] 2 [0, 3, 5] [3] [] (Sg.K ref08_Get.sg (ref08_Get.cx k) ref08_Get.rs) n ⟨[(0, .dat (.slc tUndo) x0), (3, .ref 3 []), (5, .dat (.int .i64) x5)], [(3, .dat tDot m3)]⟩
set_option maxRecDepth 100000 in
theorem ref08_Get.f_eq (k : Nat) (a0 : Ty.D (.slc tUndo)) (a1 : Ty.D tDot) : ref08_Get.f k a0 a1 =
  ref08_Get.l2 k k a0 0 a1 := by kernel_rfl
set_option maxRecDepth 100000 in
theorem ref08_Get.l2_eq (k : Nat) (n2 : Nat) (x0 : Ty.D (.slc tUndo)) (x5 : Ty.D (.int .i64)) (m3 : Ty.D tDot) : ref08_Get.l2 k (n2 + 1) x0 x5 m3 =
  br (ilt x5 (ilen x0))
    (br (inL x5 x0)
      (br (deq tDot ((rd tUndo x0 (natOf x5)).1) m3)
        (br (inL x5 x0)
          (some ((rd tUndo x0 (natOf x5)).2))
          (none))
        (ref08_Get.l2 k n2 x0 (iadd .i64 x5 1) m3))
      (none))
    (some 0) := by kernel_rfl
noncomputable def ref08_Get.e (k : Nat) : Entry := Sg.entry ref08_Get.sg fun x => ref08_Get.f k x.1 x.2
set_option maxRecDepth 100000 in
theorem ref08_Get.ok (k : Nat) : CallOK Tryz.prog 46 (ref08_Get.e k) :=
  fn_ok (c := ref08_Get.cx k) (code := ref08_Get.body) (TT.of tt_ok pp_ok) (fns_ok trivial) mixed Tryz.func46 (by kernel_rfl) (by kernel_rfl) (by kernel_rfl) (by kernel_rfl) (by kernel_rfl) (by kernel_rfl) (fun x => by kernel_rfl)
noncomputable def ref08_Put.body : Go.Code := Tryz.f173.body.getD .skip
noncomputable def ref08_Put.rs : List Go.ResultVar := Tryz.f173.results.toList
def ref08_Put.regs : List (Nat × RInfo) := [(0, ⟨[0, 3], [3], [], [], 0, [], [], [], []⟩),
  (1, ⟨[0, 3, 20], [3], [], [], 12, [], [], [], []⟩),
  (2, ⟨[4], [], [0, 1], [], 0, [], [], [], []⟩),
  (3, ⟨[0, 3, 5], [3], [], [], 0, [], [], [], []⟩),
  (4, ⟨[0, 3, 5, 6], [3], [], [], 0, [], [], [], []⟩),
  (5, ⟨[0, 3, 5, 6, 7], [3], [], [], 0, [], [], [], []⟩),
  (6, ⟨[0, 3, 5, 6, 7, 25], [3], [], [], 0, [0, 3, 5, 6, 7], [3], [], []⟩),
  (8, ⟨[0, 3, 5, 6, 7, 8], [3, 35], [], [], 8, [], [], [], []⟩),
  (9, ⟨[0, 3, 5, 6, 7, 8, 41], [3, 35], [], [], 0, [], [], [], []⟩),
  (10, ⟨[0, 3, 5, 7, 8], [3, 35], [0, 3, 4], [], 0, [], [], [], []⟩),
  (11, ⟨[0, 3, 5, 6, 7, 8], [3, 35], [], [], 0, [], [], [], []⟩),
  (12, ⟨[0, 3, 5, 6, 7, 47], [3], [], [], 0, [], [], [], []⟩),
  (13, ⟨[0, 3, 5, 6, 7], [3], [0, 6, 7], [], 0, [], [], [], []⟩),
  (7, ⟨[0, 3, 5, 6, 7], [3], [], [], 0, [], [], [], []⟩),
  (14, ⟨[3, 5, 56], [3], [], [], 0, [], [], [], []⟩),
  (15, ⟨[5], [], [0, 3, 4], [], 0, [], [], [], []⟩),
  (16, ⟨[4], [], [0, 1], [], 0, [], [], [], []⟩)]
noncomputable def ref08_Put.cx (k : Nat) : Cx := ⟨tt, pp, [(130, (ref08_one.e k)),
  (46, (ref08_Get.e k)),
  (129, (ref04_Compare.e k))], ref08_Put.regs, k⟩
@[reducible] def ref08_Put.sg : Sg := ⟨[.dat (.slc tUndo), .dat tUndo], [], .dat (.slc tUndo), []⟩
noncomputable def ref08_Put.f (k : Nat) (a0 : Ty.D (.slc tUndo)) (a1 : Ty.D tUndo) : Option (Sg.Out ref08_Put.sg) := Sg.fn ref08_Put.sg (ref08_Put.cx k) ref08_Put.body ref08_Put.rs (a0, a1)
noncomputable def ref08_Put.l6 (k : Nat) (n : Nat) (x0 : Ty.D (.slc tUndo)) (x5 : List (Ty.D tUndo)) (x6 : Ty.D .bool) (x7 : Ty.D (.int .i64)) (m3 : Ty.D tUndo) : Option (Sg.Out ref08_Put.sg) := loopAt (ref08_Put.cx k) ref08_Put.body [1, 1, 1, 1, 0, 1, 0] 6 [0, 3, 5, 6, 7] [3] [] (Sg.K ref08_Put.sg (ref08_Put.cx k) ref08_Put.rs) n ⟨[(0, .dat (.slc tUndo) x0), (3, .ref 3 []), (5, .own tUndo x5), (6, .dat .bool x6), (7, .dat (.int .i64) x7)], [(3, .dat tUndo m3)]⟩
set_option maxRecDepth 100000 in
theorem ref08_Put.f_eq (k : Nat) (a0 : Ty.D (.slc tUndo)) (a1 : Ty.D tUndo) : ref08_Put.f k a0 a1 =
  bnd (ref08_one.f k a1) fun r0 =>
  br (bnot r0)
    (some a0)
    (bnd (ref08_Get.f k a0 a1.1) fun r1 =>
    br (ile a1.2 r1)
      (some a0)
      (ref08_Put.l6 k k a0 [] false 0 a1)) := by kernel_rfl
set_option maxRecDepth 100000 in
theorem ref08_Put.l6_eq (k : Nat) (n6 : Nat) (x0 : Ty.D (.slc tUndo)) (x5 : List (Ty.D tUndo)) (x6 : Ty.D .bool) (x7 : Ty.D (.int .i64)) (m3 : Ty.D tUndo) : ref08_Put.l6 k (n6 + 1) x0 x5 x6 x7 m3 =
  br (ilt x7 (ilen x0))
    (br (inL x7 x0)
      (bnd (ref04_Compare.f k m3.1 ((rd tUndo x0 (natOf x7)).1)) fun r0 =>
      br (bnot x6)
        (br (ile r0 0)
          (br (room x5 (m3 :: []))
            (br (bnot (ieq r0 0))
              (br (inL x7 x0)
                (br (room (app x5 (m3 :: [])) ((rd tUndo x0 (natOf x7)) :: []))
                  (ref08_Put.l6 k n6 x0 (app (app x5 (m3 :: [])) ((rd tUndo x0 (natOf x7)) :: [])) true (iadd .i64 x7 1) m3)
                  (none))
                (none))
              (ref08_Put.l6 k n6 x0 (app x5 (m3 :: [])) true (iadd .i64 x7 1) m3))
            (none))
          (br (bnot (ieq r0 0))
            (br (inL x7 x0)
              (br (room x5 ((rd tUndo x0 (natOf x7)) :: []))
                (ref08_Put.l6 k n6 x0 (app x5 ((rd tUndo x0 (natOf x7)) :: [])) x6 (iadd .i64 x7 1) m3)
                (none))
              (none))
            (ref08_Put.l6 k n6 x0 x5 x6 (iadd .i64 x7 1) m3)))
        (br (bnot (ieq r0 0))
          (br (inL x7 x0)
            (br (room x5 ((rd tUndo x0 (natOf x7)) :: []))
              (ref08_Put.l6 k n6 x0 (app x5 ((rd tUndo x0 (natOf x7)) :: [])) x6 (iadd .i64 x7 1) m3)
              (none))
            (none))
          (ref08_Put.l6 k n6 x0 x5 x6 (iadd .i64 x7 1) m3)))
      (none))
    (br (bnot x6)
      (br (room x5 (m3 :: []))
        (some (app x5 (m3 :: [])))
        (none))
      (some x5)) := by kernel_rfl
noncomputable def ref08_Put.e (k : Nat) : Entry := Sg.entry ref08_Put.sg fun x => ref08_Put.f k x.1 x.2
set_option maxRecDepth 100000 in
theorem ref08_Put.ok (k : Nat) : CallOK Tryz.prog 173 (ref08_Put.e k) :=
  fn_ok (c := ref08_Put.cx k) (code := ref08_Put.body) (TT.of tt_ok pp_ok) (fns_ok ⟨(ref08_one.ok k), (ref08_Get.ok k), (ref04_Compare.ok k), trivial⟩) mixed Tryz.func173 (by kernel_rfl) (by kernel_rfl) (by kernel_rfl) (by kernel_rfl) (by kernel_rfl) (by kernel_rfl) (fun x => by kernel_rfl)
noncomputable def ref08_Join.body : Go.Code := Tryz.f147.body.getD .skip
noncomputable def ref08_Join.rs : List Go.ResultVar := Tryz.f147.results.toList
def ref08_Join.regs : List (Nat × RInfo) := [(0, ⟨[0, 1], [], [], [], 0, [], [], [], []⟩),
  (1, ⟨[1, 5], [19], [0, 1], [], 0, [], [], [], []⟩),
  (2, ⟨[1, 5, 6], [19], [], [], 0, [], [], [], []⟩),
  (3, ⟨[1, 5, 6, 11], [19], [], [], 0, [1, 5, 6], [19], [], []⟩),
  (5, ⟨[1, 5, 6], [19], [6], [], 0, [], [], [], []⟩),
  (4, ⟨[1, 5, 6], [19], [], [], 0, [], [], [], []⟩),
  (6, ⟨[4], [19], [0, 1], [], 0, [], [], [], []⟩)]
noncomputable def ref08_Join.cx (k : Nat) : Cx := ⟨tt, pp, [(173, (ref08_Put.e k))], ref08_Join.regs, k⟩
@[reducible] def ref08_Join.sg : Sg := ⟨[.dat (.slc tUndo), .dat (.slc tUndo)], [], .dat (.slc tUndo), []⟩
noncomputable def ref08_Join.f (k : Nat) (a0 : Ty.D (.slc tUndo)) (a1 : Ty.D (.slc tUndo)) : Option (Sg.Out ref08_Join.sg) := Sg.fn ref08_Join.sg (ref08_Join.cx k) ref08_Join.body ref08_Join.rs (a0, a1)
noncomputable def ref08_Join.l3 (k : Nat) (n : Nat) (x1 : Ty.D (.slc tUndo)) (x5 : Ty.D (.slc tUndo)) (x6 : Ty.D (.int .i64)) : Option (Sg.Out ref08_Join.sg) := loopAt (ref08_Join.cx k) ref08_Join.body [1, 1, 0, 1, 0] 3 [1, 5, 6] [19] [] (Sg.K ref08_Join.sg (ref08_Join.cx k) ref08_Join.rs) n ⟨[(1, .dat (.slc tUndo) x1), (5, .dat (.slc tUndo) x5), (6, .dat (.int .i64) x6)], []⟩
set_option maxRecDepth 100000 in
theorem ref08_Join.f_eq (k : Nat) (a0 : Ty.D (.slc tUndo)) (a1 : Ty.D (.slc tUndo)) : ref08_Join.f k a0 a1 =
  ref08_Join.l3 k k a1 a0 0 := by kernel_rfl
set_option maxRecDepth 100000 in
theorem ref08_Join.l3_eq (k : Nat) (n3 : Nat) (x1 : Ty.D (.slc tUndo)) (x5 : Ty.D (.slc tUndo)) (x6 : Ty.D (.int .i64)) : ref08_Join.l3 k (n3 + 1) x1 x5 x6 =
  br (ilt x6 (ilen x1))
    (br (inL x6 x1)
      (bnd (ref08_Put.f k x5 (rd tUndo x1 (natOf x6))) fun r0 =>
      ref08_Join.l3 k n3 x1 r0 (iadd .i64 x6 1))
      (none))
    (some x5) := by kernel_rfl
noncomputable def ref08_Join.e (k : Nat) : Entry := Sg.entry ref08_Join.sg fun x => ref08_Join.f k x.1 x.2
set_option maxRecDepth 100000 in
theorem ref08_Join.ok (k : Nat) : CallOK Tryz.prog 147 (ref08_Join.e k) :=
  fn_ok (c := ref08_Join.cx k) (code := ref08_Join.body) (TT.of tt_ok pp_ok) (fns_ok ⟨(ref08_Put.ok k), trivial⟩) mixed Tryz.func147 (by kernel_rfl) (by kernel_rfl) (by kernel_rfl) (by kernel_rfl) (by kernel_rfl) (by kernel_rfl) (fun x => by kernel_rfl)
noncomputable def ref24_Join.body : Go.Code := Tryz.f109.body.getD .skip
noncomputable def ref24_Join.rs : List Go.ResultVar := Tryz.f109.results.toList
def ref24_Join.regs : List (Nat × RInfo) := [(0, ⟨[2, 3, 4], [2, 3, 4], [0, 1], [], 0, [], [], [], []⟩),
  (1, ⟨[2, 3, 4, 5], [2, 3, 4, 5], [2], [], 0, [], [], [], []⟩),
  (2, ⟨[2, 3, 4, 5], [2, 3, 4, 5], [6], [], 0, [], [], [], []⟩),
  (3, ⟨[2, 3, 4, 5], [2, 3, 4, 5], [6], [], 0, [], [], [], []⟩),
  (4, ⟨[4, 5], [4, 5], [6], [], 0, [], [], [], []⟩),
  (5, ⟨[4], [4], [1], [], 0, [], [], [], []⟩)]
noncomputable def ref24_Join.cx (k : Nat) : Cx := ⟨tt, pp, [(146, (ref06_Union.e k)),
  (147, (ref08_Join.e k))], ref24_Join.regs, k⟩
@[reducible] def ref24_Join.sg : Sg := ⟨[.dat tKnow, .dat tKnow], [], .dat tKnow, []⟩
noncomputable def ref24_Join.f (k : Nat) (a0 : Ty.D tKnow) (a1 : Ty.D tKnow) : Option (Sg.Out ref24_Join.sg) := Sg.fn ref24_Join.sg (ref24_Join.cx k) ref24_Join.body ref24_Join.rs (a0, a1)
set_option maxRecDepth 100000 in
theorem ref24_Join.f_eq (k : Nat) (a0 : Ty.D tKnow) (a1 : Ty.D tKnow) : ref24_Join.f k a0 a1 =
  bnd (ref06_Union.f k a0.1 a1.1) fun r0 =>
  bnd (ref08_Join.f k a0.2.1 a1.2.1) fun r1 =>
  bnd (ref06_Union.f k a0.2.2 a1.2.2) fun r2 =>
  some (r0, (r1, r2)) := by kernel_rfl
noncomputable def ref24_Join.e (k : Nat) : Entry := Sg.entry ref24_Join.sg fun x => ref24_Join.f k x.1 x.2
set_option maxRecDepth 100000 in
theorem ref24_Join.ok (k : Nat) : CallOK Tryz.prog 109 (ref24_Join.e k) :=
  fn_ok (c := ref24_Join.cx k) (code := ref24_Join.body) (TT.of tt_ok pp_ok) (fns_ok ⟨(ref06_Union.ok k), (ref08_Join.ok k), trivial⟩) mixed Tryz.func109 (by kernel_rfl) (by kernel_rfl) (by kernel_rfl) (by kernel_rfl) (by kernel_rfl) (by kernel_rfl) (fun x => by kernel_rfl)
noncomputable def ref29_Peers_Hear.body : Go.Code := Tryz.f56.body.getD .skip
noncomputable def ref29_Peers_Hear.rs : List Go.ResultVar := Tryz.f56.results.toList
def ref29_Peers_Hear.regs : List (Nat × RInfo) := [(0, ⟨[0, 1, 5], [5, 1000000], [0], [], 0, [], [], [], []⟩),
  (1, ⟨[0, 1, 5, 15], [5, 1000000], [], [], 0, [], [], [], []⟩),
  (2, ⟨[6], [1000000], [], [], 0, [], [], [], []⟩),
  (3, ⟨[], [1000000], [13], [], 14, [], [], [], [[], [], [], [], [], [], [], [], [], [7, 8], [], [], [7, 8], [7, 8]]⟩),
  (4, ⟨[6], [1000000], [], [], 0, [], [], [], []⟩)]
noncomputable def ref29_Peers_Hear.cx (k : Nat) : Cx := ⟨tt, pp, [(18, (ref29_Peers_Other.e k)),
  (65, (ref24_Right.e k)),
  (109, (ref24_Join.e k))], ref29_Peers_Hear.regs, k⟩
@[reducible] def ref29_Peers_Hear.sg : Sg := ⟨[.ref, .dat (.int .i64), .dat tKnow], [tPeers], .dat (.int .i64), [tPeers]⟩
noncomputable def ref29_Peers_Hear.f (k : Nat) (a1 : Ty.D (.int .i64)) (a2 : Ty.D tKnow) (o0 : Ty.D tPeers) : Option (Sg.Out ref29_Peers_Hear.sg) := Sg.fn ref29_Peers_Hear.sg (ref29_Peers_Hear.cx k) ref29_Peers_Hear.body ref29_Peers_Hear.rs (a1, a2, o0)
set_option maxRecDepth 100000 in
theorem ref29_Peers_Hear.f_eq (k : Nat) (a1 : Ty.D (.int .i64)) (a2 : Ty.D tKnow) (o0 : Ty.D tPeers) : ref29_Peers_Hear.f k a1 a2 o0 =
  bnd (ref29_Peers_Other.f k a1 o0) fun r0 =>
  br (bnot r0.1)
    (some (2, r0.2))
    (bnd (ref24_Right.f k a2) fun r1 =>
    br (bnot r1)
      (some (2, r0.2))
      (br (inB a1 16)
        (bnd (ref24_Join.f k (rd tKnow r0.2.2.2 (natOf a1)) a2) fun r2 =>
        br (inB a1 16)
          (some (0, (r0.2.1, (r0.2.2.1, (upd r0.2.2.2 (natOf a1) r2)))))
          (none))
        (none))) := by kernel_rfl
noncomputable def ref29_Peers_Hear.e (k : Nat) : Entry := Sg.entry ref29_Peers_Hear.sg fun x => ref29_Peers_Hear.f k x.1 x.2.1 x.2.2
set_option maxRecDepth 100000 in
theorem ref29_Peers_Hear.ok (k : Nat) : CallOK Tryz.prog 56 (ref29_Peers_Hear.e k) :=
  fn_ok (c := ref29_Peers_Hear.cx k) (code := ref29_Peers_Hear.body) (TT.of tt_ok pp_ok) (fns_ok ⟨(ref29_Peers_Other.ok k), (ref24_Right.ok k), (ref24_Join.ok k), trivial⟩) mixed Tryz.func56 (by kernel_rfl) (by kernel_rfl) (by kernel_rfl) (by kernel_rfl) (by kernel_rfl) (by kernel_rfl) (fun x => by kernel_rfl)
noncomputable def peer_Peers_Forget.body : Go.Code := Tryz.f32.body.getD .skip
noncomputable def peer_Peers_Forget.rs : List Go.ResultVar := Tryz.f32.results.toList
def peer_Peers_Forget.regs : List (Nat × RInfo) := [(0, ⟨[0, 3], [1000000], [], [], 0, [], [], [], []⟩),
  (1, ⟨[], [1000000], [], [], 0, [], [], [], []⟩)]
noncomputable def peer_Peers_Forget.cx (k : Nat) : Cx := ⟨tt, pp, [], peer_Peers_Forget.regs, k⟩
@[reducible] def peer_Peers_Forget.sg : Sg := ⟨[.ref], [tPeers], .unit, [tPeers]⟩
noncomputable def peer_Peers_Forget.f (k : Nat) (o0 : Ty.D tPeers) : Option (Sg.Out peer_Peers_Forget.sg) := Sg.fn peer_Peers_Forget.sg (peer_Peers_Forget.cx k) peer_Peers_Forget.body peer_Peers_Forget.rs o0
set_option maxRecDepth 100000 in
theorem peer_Peers_Forget.f_eq (k : Nat) (o0 : Ty.D tPeers) : peer_Peers_Forget.f k o0 =
  br (inS 0 16 16)
    (some ((), (o0.1, (o0.2.1, (zarr 16 (((zarr 16 0), []), ([], ((zarr 16 0), []))))))))
    (none) := by kernel_rfl
noncomputable def peer_Peers_Forget.e (k : Nat) : Entry := Sg.entry peer_Peers_Forget.sg fun x => peer_Peers_Forget.f k x
set_option maxRecDepth 100000 in
theorem peer_Peers_Forget.ok (k : Nat) : CallOK Tryz.prog 32 (peer_Peers_Forget.e k) :=
  fn_ok (c := peer_Peers_Forget.cx k) (code := peer_Peers_Forget.body) (TT.of tt_ok pp_ok) (fns_ok trivial) mixed Tryz.func32 (by kernel_rfl) (by kernel_rfl) (by kernel_rfl) (by kernel_rfl) (by kernel_rfl) (by kernel_rfl) (fun x => by kernel_rfl)
noncomputable def ref08_Over.body : Go.Code := Tryz.f148.body.getD .skip
noncomputable def ref08_Over.rs : List Go.ResultVar := Tryz.f148.results.toList
def ref08_Over.regs : List (Nat × RInfo) := [(0, ⟨[0, 1], [], [], [], 0, [], [], [], []⟩),
  (1, ⟨[0, 1, 5], [], [], [], 0, [], [], [], []⟩),
  (2, ⟨[0, 1, 5, 6], [], [], [], 0, [], [], [], []⟩),
  (3, ⟨[0, 1, 5, 6, 10], [], [], [], 0, [0, 1, 5, 6], [], [], []⟩),
  (5, ⟨[0, 1, 5, 6, 25], [], [], [], 13, [], [], [], []⟩),
  (6, ⟨[0, 1, 5, 6], [], [0, 6, 7], [], 0, [], [], [], []⟩),
  (4, ⟨[0, 1, 5, 6], [], [], [], 0, [], [], [], []⟩),
  (7, ⟨[4], [], [0, 1], [], 0, [], [], [], []⟩)]
noncomputable def ref08_Over.cx (k : Nat) : Cx := ⟨tt, pp, [(46, (ref08_Get.e k))], ref08_Over.regs, k⟩
@[reducible] def ref08_Over.sg : Sg := ⟨[.dat (.slc tUndo), .dat (.slc tUndo)], [], .own tUndo, []⟩
noncomputable def ref08_Over.f (k : Nat) (a0 : Ty.D (.slc tUndo)) (a1 : Ty.D (.slc tUndo)) : Option (Sg.Out ref08_Over.sg) := Sg.fn ref08_Over.sg (ref08_Over.cx k) ref08_Over.body ref08_Over.rs (a0, a1)
noncomputable def ref08_Over.l3 (k : Nat) (n : Nat) (x0 : Ty.D (.slc tUndo)) (x1 : Ty.D (.slc tUndo)) (x5 : List (Ty.D tUndo)) (x6 : Ty.D (.int .i64)) : Option (Sg.Out ref08_Over.sg) := loopAt (ref08_Over.cx k) ref08_Over.body [1, 1, 0, 1, 0] 3 [0, 1, 5, 6] [] [] (Sg.K ref08_Over.sg (ref08_Over.cx k) ref08_Over.rs) n ⟨[(0, .dat (.slc tUndo) x0), (1, .dat (.slc tUndo) x1), (5, .own tUndo x5), (6, .dat (.int .i64) x6)], []⟩
set_option maxRecDepth 100000 in
theorem ref08_Over.f_eq (k : Nat) (a0 : Ty.D (.slc tUndo)) (a1 : Ty.D (.slc tUndo)) : ref08_Over.f k a0 a1 =
  ref08_Over.l3 k k a0 a1 [] 0 := by kernel_rfl
set_option maxRecDepth 100000 in
theorem ref08_Over.l3_eq (k : Nat) (n3 : Nat) (x0 : Ty.D (.slc tUndo)) (x1 : Ty.D (.slc tUndo)) (x5 : List (Ty.D tUndo)) (x6 : Ty.D (.int .i64)) : ref08_Over.l3 k (n3 + 1) x0 x1 x5 x6 =
  br (ilt x6 (ilen x0))
    (br (inL x6 x0)
      (br (inL x6 x0)
        (bnd (ref08_Get.f k x1 ((rd tUndo x0 (natOf x6)).1)) fun r0 =>
        br (ilt r0 ((rd tUndo x0 (natOf x6)).2))
          (br (inL x6 x0)
            (br (room x5 ((rd tUndo x0 (natOf x6)) :: []))
              (ref08_Over.l3 k n3 x0 x1 (app x5 ((rd tUndo x0 (natOf x6)) :: [])) (iadd .i64 x6 1))
              (none))
            (none))
          (ref08_Over.l3 k n3 x0 x1 x5 (iadd .i64 x6 1)))
        (none))
      (none))
    (some x5) := by kernel_rfl
noncomputable def ref08_Over.e (k : Nat) : Entry := Sg.entry ref08_Over.sg fun x => ref08_Over.f k x.1 x.2
set_option maxRecDepth 100000 in
theorem ref08_Over.ok (k : Nat) : CallOK Tryz.prog 148 (ref08_Over.e k) :=
  fn_ok (c := ref08_Over.cx k) (code := ref08_Over.body) (TT.of tt_ok pp_ok) (fns_ok ⟨(ref08_Get.ok k), trivial⟩) mixed Tryz.func148 (by kernel_rfl) (by kernel_rfl) (by kernel_rfl) (by kernel_rfl) (by kernel_rfl) (by kernel_rfl) (fun x => by kernel_rfl)
noncomputable def ref24_Diff.body : Go.Code := Tryz.f110.body.getD .skip
noncomputable def ref24_Diff.rs : List Go.ResultVar := Tryz.f110.results.toList
def ref24_Diff.regs : List (Nat × RInfo) := [(0, ⟨[2, 3, 4], [2, 3, 4], [0, 1], [], 0, [], [], [], []⟩),
  (1, ⟨[2, 3, 4, 5], [2, 3, 4, 5], [2], [], 0, [], [], [], []⟩),
  (2, ⟨[2, 3, 4, 5, 6], [2, 3, 4, 5], [], [], 0, [], [], [], []⟩),
  (3, ⟨[2, 3, 4, 5, 6, 13], [2, 3, 4, 5], [], [], 0, [2, 3, 4, 5, 6], [2, 3, 4, 5], [], []⟩),
  (5, ⟨[2, 3, 4, 5, 6, 7], [2, 3, 4, 5, 7], [], [], 0, [], [], [], []⟩),
  (6, ⟨[2, 3, 4, 5, 6, 7, 26], [2, 3, 4, 5, 7], [], [], 0, [], [], [], []⟩),
  (7, ⟨[2, 3, 4, 5, 6, 7], [2, 3, 4, 5, 7], [1, 8, 10], [], 9, [], [], [], [[], [], [], [], [], [3], [3], [6, 3], [1, 6, 3], [1, 3, 6], [1, 3, 6]]⟩),
  (8, ⟨[2, 3, 4, 5, 6, 7, 47], [2, 3, 4, 5, 7, 40], [], [], 0, [], [], [], []⟩),
  (9, ⟨[2, 3, 4, 5, 6], [2, 3, 4, 5], [1, 4, 6], [], 0, [], [], [], []⟩),
  (4, ⟨[2, 3, 4, 5, 6], [2, 3, 4, 5], [], [], 0, [], [], [], []⟩),
  (10, ⟨[4, 5], [4, 5], [6], [], 0, [], [], [], []⟩),
  (11, ⟨[4], [4], [1], [], 0, [], [], [], []⟩)]
noncomputable def ref24_Diff.cx (k : Nat) : Cx := ⟨tt, pp, [(23, (ref06_Has.e k)),
  (148, (ref08_Over.e k))], ref24_Diff.regs, k⟩
@[reducible] def ref24_Diff.sg : Sg := ⟨[.dat tState, .dat tKnow], [], .dat tDelta, []⟩
noncomputable def ref24_Diff.f (k : Nat) (a0 : Ty.D tState) (a1 : Ty.D tKnow) : Option (Sg.Out ref24_Diff.sg) := Sg.fn ref24_Diff.sg (ref24_Diff.cx k) ref24_Diff.body ref24_Diff.rs (a0, a1)
noncomputable def ref24_Diff.l3 (k : Nat) (n : Nat) (x6 : Ty.D (.int .i64)) (m2 : Ty.D tState) (m3 : Ty.D tKnow) (m4a : List (Ty.D tTxn)) (m4ba : List (Ty.D tUndo)) (m4bb : List (Ty.D tDot)) (m5a : List (Ty.D tTxn)) (m5ba : List (Ty.D tUndo)) (m5bb : List (Ty.D tDot)) : Option (Sg.Out ref24_Diff.sg) := loopAt (ref24_Diff.cx k) ref24_Diff.body [1, 1, 0, 1, 0] 3 [2, 3, 4, 5, 6] [2, 3, 4, 5] [] (Sg.K ref24_Diff.sg (ref24_Diff.cx k) ref24_Diff.rs) n ⟨[(2, .ref 2 []), (3, .ref 3 []), (4, .ref 4 []), (5, .ref 5 []), (6, .dat (.int .i64) x6)], [(2, .dat tState m2), (3, .dat tKnow m3), (4, .pr (.own tTxn m4a) (.pr (.own tUndo m4ba) (.own tDot m4bb))), (5, .pr (.own tTxn m5a) (.pr (.own tUndo m5ba) (.own tDot m5bb)))]⟩
set_option maxRecDepth 100000 in
theorem ref24_Diff.f_eq (k : Nat) (a0 : Ty.D tState) (a1 : Ty.D tKnow) : ref24_Diff.f k a0 a1 =
  ref24_Diff.l3 k k 0 a0 a1 [] [] [] [] [] [] := by kernel_rfl
set_option maxRecDepth 100000 in
theorem ref24_Diff.l3_eq (k : Nat) (n3 : Nat) (x6 : Ty.D (.int .i64)) (m2 : Ty.D tState) (m3 : Ty.D tKnow) (m4a : List (Ty.D tTxn)) (m4ba : List (Ty.D tUndo)) (m4bb : List (Ty.D tDot)) (m5a : List (Ty.D tTxn)) (m5ba : List (Ty.D tUndo)) (m5bb : List (Ty.D tDot)) : ref24_Diff.l3 k (n3 + 1) x6 m2 m3 m4a m4ba m4bb m5a m5ba m5bb =
  br (ilt x6 (ilen m2.1))
    (br (inL x6 m2.1)
      (bnd (ref06_Has.f k m3.1 ((rd tTxn m2.1 (natOf x6)).1)) fun r0 =>
      br (bnot r0)
        (br (inL x6 m2.1)
          (br (room m5a ((rd tTxn m2.1 (natOf x6)) :: []))
            (bnd (ref06_Has.f k m2.2.2.2.1 ((rd tTxn m2.1 (natOf x6)).1)) fun r1 =>
            br r1
              (bnd (ref06_Has.f k m3.2.2 ((rd tTxn m2.1 (natOf x6)).1)) fun r2 =>
              br (bnot r2)
                (br (room m5bb ((rd tTxn m2.1 (natOf x6)).1 :: []))
                  (ref24_Diff.l3 k n3 (iadd .i64 x6 1) m2 m3 m4a m4ba m4bb (app m5a ((rd tTxn m2.1 (natOf x6)) :: [])) m5ba (app m5bb ((rd tTxn m2.1 (natOf x6)).1 :: [])))
                  (none))
                (ref24_Diff.l3 k n3 (iadd .i64 x6 1) m2 m3 m4a m4ba m4bb (app m5a ((rd tTxn m2.1 (natOf x6)) :: [])) m5ba m5bb))
              (ref24_Diff.l3 k n3 (iadd .i64 x6 1) m2 m3 m4a m4ba m4bb (app m5a ((rd tTxn m2.1 (natOf x6)) :: [])) m5ba m5bb))
            (none))
          (none))
        (bnd (ref06_Has.f k m2.2.2.2.1 ((rd tTxn m2.1 (natOf x6)).1)) fun r3 =>
        br r3
          (bnd (ref06_Has.f k m3.2.2 ((rd tTxn m2.1 (natOf x6)).1)) fun r4 =>
          br (bnot r4)
            (br (room m5bb ((rd tTxn m2.1 (natOf x6)).1 :: []))
              (ref24_Diff.l3 k n3 (iadd .i64 x6 1) m2 m3 m4a m4ba m4bb m5a m5ba (app m5bb ((rd tTxn m2.1 (natOf x6)).1 :: [])))
              (none))
            (ref24_Diff.l3 k n3 (iadd .i64 x6 1) m2 m3 m4a m4ba m4bb m5a m5ba m5bb))
          (ref24_Diff.l3 k n3 (iadd .i64 x6 1) m2 m3 m4a m4ba m4bb m5a m5ba m5bb)))
      (none))
    (bnd (ref08_Over.f k m2.2.1 m3.2.1) fun r5 =>
    some (m5a, (r5, m5bb))) := by kernel_rfl
noncomputable def ref24_Diff.e (k : Nat) : Entry := Sg.entry ref24_Diff.sg fun x => ref24_Diff.f k x.1 x.2
set_option maxRecDepth 100000 in
theorem ref24_Diff.ok (k : Nat) : CallOK Tryz.prog 110 (ref24_Diff.e k) :=
  fn_ok (c := ref24_Diff.cx k) (code := ref24_Diff.body) (TT.of tt_ok pp_ok) (fns_ok ⟨(ref06_Has.ok k), (ref08_Over.ok k), trivial⟩) mixed Tryz.func110 (by kernel_rfl) (by kernel_rfl) (by kernel_rfl) (by kernel_rfl) (by kernel_rfl) (by kernel_rfl) (fun x => by kernel_rfl)
noncomputable def ref29_Peers_Offer.body : Go.Code := Tryz.f57.body.getD .skip
noncomputable def ref29_Peers_Offer.rs : List Go.ResultVar := Tryz.f57.results.toList
def ref29_Peers_Offer.regs : List (Nat × RInfo) := [(0, ⟨[0, 2, 4, 6], [4, 6, 1000000], [0], [], 0, [], [], [], []⟩),
  (1, ⟨[0, 2, 4, 6, 11], [4, 6, 1000000], [], [], 0, [], [], [], []⟩),
  (2, ⟨[6, 7], [6, 1000000], [1], [], 0, [], [], [], []⟩),
  (3, ⟨[6, 7], [6, 1000000], [14], [], 14, [], [], [], [[], [], [], [], [], [], [], [], [], [], [], [], [5, 11], [3, 5, 11], [3, 5, 11], [14, 3, 5, 11]]⟩)]
noncomputable def ref29_Peers_Offer.cx (k : Nat) : Cx := ⟨tt, pp, [(18, (ref29_Peers_Other.e k)),
  (110, (ref24_Diff.e k))], ref29_Peers_Offer.regs, k⟩
@[reducible] def ref29_Peers_Offer.sg : Sg := ⟨[.ref, .dat tState, .dat (.int .i64)], [tPeers], .t2 (.dat tMessage) (.dat (.int .i64)), [tPeers]⟩
noncomputable def ref29_Peers_Offer.f (k : Nat) (a1 : Ty.D tState) (a2 : Ty.D (.int .i64)) (o0 : Ty.D tPeers) : Option (Sg.Out ref29_Peers_Offer.sg) := Sg.fn ref29_Peers_Offer.sg (ref29_Peers_Offer.cx k) ref29_Peers_Offer.body ref29_Peers_Offer.rs (a1, a2, o0)
set_option maxRecDepth 100000 in
theorem ref29_Peers_Offer.f_eq (k : Nat) (a1 : Ty.D tState) (a2 : Ty.D (.int .i64)) (o0 : Ty.D tPeers) : ref29_Peers_Offer.f k a1 a2 o0 =
  bnd (ref29_Peers_Other.f k a2 o0) fun r0 =>
  br (bnot r0.1)
    (some (((0, (0, (0, (([], ([], [])), (((zarr 16 0), []), ([], ((zarr 16 0), []))))))), 2), r0.2))
    (br (inB a2 16)
      (bnd (ref24_Diff.f k a1 (rd tKnow r0.2.2.2 (natOf a2))) fun r1 =>
      some (((1, (r0.2.1, (a2, (r1, (((zarr 16 0), []), ([], ((zarr 16 0), []))))))), 0), r0.2))
      (none)) := by kernel_rfl
noncomputable def ref29_Peers_Offer.e (k : Nat) : Entry := Sg.entry ref29_Peers_Offer.sg fun x => ref29_Peers_Offer.f k x.1 x.2.1 x.2.2
set_option maxRecDepth 100000 in
theorem ref29_Peers_Offer.ok (k : Nat) : CallOK Tryz.prog 57 (ref29_Peers_Offer.e k) :=
  fn_ok (c := ref29_Peers_Offer.cx k) (code := ref29_Peers_Offer.body) (TT.of tt_ok pp_ok) (fns_ok ⟨(ref29_Peers_Other.ok k), (ref24_Diff.ok k), trivial⟩) mixed Tryz.func57 (by kernel_rfl) (by kernel_rfl) (by kernel_rfl) (by kernel_rfl) (by kernel_rfl) (by kernel_rfl) (fun x => by kernel_rfl)
noncomputable def ref03_Same.body : Go.Code := Tryz.f179.body.getD .skip
noncomputable def ref03_Same.rs : List Go.ResultVar := Tryz.f179.results.toList
def ref03_Same.regs : List (Nat × RInfo) := [(0, ⟨[0, 1], [], [], [], 0, [], [], [], []⟩),
  (1, ⟨[0, 1, 10], [], [], [], 0, [], [], [], []⟩),
  (2, ⟨[4], [], [], [], 0, [], [], [], []⟩),
  (3, ⟨[0, 1, 5], [], [], [], 0, [], [], [], []⟩),
  (4, ⟨[0, 1, 5, 14], [], [], [], 0, [0, 1, 5], [], [], []⟩),
  (6, ⟨[0, 1, 5, 25], [], [], [], 9, [], [], [], []⟩),
  (7, ⟨[4], [], [], [], 0, [], [], [], []⟩),
  (5, ⟨[0, 1, 5], [], [], [], 0, [], [], [], []⟩),
  (8, ⟨[4], [], [], [], 0, [], [], [], []⟩)]
noncomputable def ref03_Same.cx (k : Nat) : Cx := ⟨tt, pp, [], ref03_Same.regs, k⟩
@[reducible] def ref03_Same.sg : Sg := ⟨[.dat (.slc .str), .dat (.slc .str)], [], .dat .bool, []⟩
noncomputable def ref03_Same.f (k : Nat) (a0 : Ty.D (.slc .str)) (a1 : Ty.D (.slc .str)) : Option (Sg.Out ref03_Same.sg) := Sg.fn ref03_Same.sg (ref03_Same.cx k) ref03_Same.body ref03_Same.rs (a0, a1)
noncomputable def ref03_Same.l4 (k : Nat) (n : Nat) (x0 : Ty.D (.slc .str)) (x1 : Ty.D (.slc .str)) (x5 : Ty.D (.int .i64)) : Option (Sg.Out ref03_Same.sg) := loopAt (ref03_Same.cx k) ref03_Same.body [1, 1, 0, 1, 0] 4 [0, 1, 5] [] [] (Sg.K ref03_Same.sg (ref03_Same.cx k) ref03_Same.rs) n ⟨[(0, .dat (.slc .str) x0), (1, .dat (.slc .str) x1), (5, .dat (.int .i64) x5)], []⟩
set_option maxRecDepth 100000 in
theorem ref03_Same.f_eq (k : Nat) (a0 : Ty.D (.slc .str)) (a1 : Ty.D (.slc .str)) : ref03_Same.f k a0 a1 =
  br (bnot (ieq (ilen a0) (ilen a1)))
    (some false)
    (ref03_Same.l4 k k a0 a1 0) := by kernel_rfl
set_option maxRecDepth 100000 in
theorem ref03_Same.l4_eq (k : Nat) (n4 : Nat) (x0 : Ty.D (.slc .str)) (x1 : Ty.D (.slc .str)) (x5 : Ty.D (.int .i64)) : ref03_Same.l4 k (n4 + 1) x0 x1 x5 =
  br (ilt x5 (ilen x0))
    (br (inL x5 x0)
      (br (inL x5 x1)
        (br (bnot (seq (rd .str x0 (natOf x5)) (rd .str x1 (natOf x5))))
          (some false)
          (ref03_Same.l4 k n4 x0 x1 (iadd .i64 x5 1)))
        (none))
      (none))
    (some true) := by kernel_rfl
noncomputable def ref03_Same.e (k : Nat) : Entry := Sg.entry ref03_Same.sg fun x => ref03_Same.f k x.1 x.2
set_option maxRecDepth 100000 in
theorem ref03_Same.ok (k : Nat) : CallOK Tryz.prog 179 (ref03_Same.e k) :=
  fn_ok (c := ref03_Same.cx k) (code := ref03_Same.body) (TT.of tt_ok pp_ok) (fns_ok trivial) mixed Tryz.func179 (by kernel_rfl) (by kernel_rfl) (by kernel_rfl) (by kernel_rfl) (by kernel_rfl) (by kernel_rfl) (fun x => by kernel_rfl)
noncomputable def ref11_Same.body : Go.Code := Tryz.f161.body.getD .skip
noncomputable def ref11_Same.rs : List Go.ResultVar := Tryz.f161.results.toList
def ref11_Same.regs : List (Nat × RInfo) := [(0, ⟨[2, 3], [2, 3], [0, 1], [], 0, [], [], [], []⟩),
  (1, ⟨[2, 3, 41], [2, 3], [], [], 0, [], [], [], []⟩),
  (2, ⟨[4], [], [], [], 0, [], [], [], []⟩),
  (3, ⟨[2, 3, 5], [2, 3], [], [], 0, [], [], [], []⟩),
  (4, ⟨[2, 3, 5, 46], [2, 3], [], [], 0, [2, 3, 5], [2, 3], [], []⟩),
  (6, ⟨[2, 3, 5, 59], [2, 3], [], [], 11, [], [], [], []⟩),
  (7, ⟨[4], [], [], [], 0, [], [], [], []⟩),
  (5, ⟨[2, 3, 5], [2, 3], [], [], 0, [], [], [], []⟩),
  (8, ⟨[4], [], [], [], 0, [], [], [], []⟩)]
noncomputable def ref11_Same.cx (k : Nat) : Cx := ⟨tt, pp, [(179, (ref03_Same.e k))], ref11_Same.regs, k⟩
@[reducible] def ref11_Same.sg : Sg := ⟨[.dat tOp, .dat tOp], [], .dat .bool, []⟩
noncomputable def ref11_Same.f (k : Nat) (a0 : Ty.D tOp) (a1 : Ty.D tOp) : Option (Sg.Out ref11_Same.sg) := Sg.fn ref11_Same.sg (ref11_Same.cx k) ref11_Same.body ref11_Same.rs (a0, a1)
noncomputable def ref11_Same.l4 (k : Nat) (n : Nat) (x5 : Ty.D (.int .i64)) (m2 : Ty.D tOp) (m3 : Ty.D tOp) : Option (Sg.Out ref11_Same.sg) := loopAt (ref11_Same.cx k) ref11_Same.body [1, 1, 0, 1, 0] 4 [2, 3, 5] [2, 3] [] (Sg.K ref11_Same.sg (ref11_Same.cx k) ref11_Same.rs) n ⟨[(2, .ref 2 []), (3, .ref 3 []), (5, .dat (.int .i64) x5)], [(2, .dat tOp m2), (3, .dat tOp m3)]⟩
set_option maxRecDepth 100000 in
theorem ref11_Same.f_eq (k : Nat) (a0 : Ty.D tOp) (a1 : Ty.D tOp) : ref11_Same.f k a0 a1 =
  br (bnot (ieq a0.1 a1.1))
    (some false)
    (br (bnot (deq tValue a0.2.2.1 a1.2.2.1))
      (some false)
      (br (bnot (ieq a0.2.2.2.1 a1.2.2.2.1))
        (some false)
        (bnd (ref03_Same.f k a0.2.1 a1.2.1) fun r0 =>
        br (bnot r0)
          (some false)
          (br (bnot (ieq (ilen a0.2.2.2.2) (ilen a1.2.2.2.2)))
            (some false)
            (ref11_Same.l4 k k 0 a0 a1))))) := by kernel_rfl
set_option maxRecDepth 100000 in
theorem ref11_Same.l4_eq (k : Nat) (n4 : Nat) (x5 : Ty.D (.int .i64)) (m2 : Ty.D tOp) (m3 : Ty.D tOp) : ref11_Same.l4 k (n4 + 1) x5 m2 m3 =
  br (ilt x5 (ilen m2.2.2.2.2))
    (br (inL x5 m2.2.2.2.2)
      (br (inL x5 m3.2.2.2.2)
        (br (bnot (deq tUndo (rd tUndo m2.2.2.2.2 (natOf x5)) (rd tUndo m3.2.2.2.2 (natOf x5))))
          (some false)
          (ref11_Same.l4 k n4 (iadd .i64 x5 1) m2 m3))
        (none))
      (none))
    (some true) := by kernel_rfl
noncomputable def ref11_Same.e (k : Nat) : Entry := Sg.entry ref11_Same.sg fun x => ref11_Same.f k x.1 x.2
set_option maxRecDepth 100000 in
theorem ref11_Same.ok (k : Nat) : CallOK Tryz.prog 161 (ref11_Same.e k) :=
  fn_ok (c := ref11_Same.cx k) (code := ref11_Same.body) (TT.of tt_ok pp_ok) (fns_ok ⟨(ref03_Same.ok k), trivial⟩) mixed Tryz.func161 (by kernel_rfl) (by kernel_rfl) (by kernel_rfl) (by kernel_rfl) (by kernel_rfl) (by kernel_rfl) (fun x => by kernel_rfl)
noncomputable def ref12_Same.body : Go.Code := Tryz.f127.body.getD .skip
noncomputable def ref12_Same.rs : List Go.ResultVar := Tryz.f127.results.toList
def ref12_Same.regs : List (Nat × RInfo) := [(0, ⟨[2, 3], [2, 3], [0, 1], [], 0, [], [], [], []⟩),
  (1, ⟨[2, 3, 40], [2, 3], [], [], 0, [], [], [], []⟩),
  (2, ⟨[4], [], [], [], 0, [], [], [], []⟩),
  (3, ⟨[2, 3, 5], [2, 3], [], [], 0, [], [], [], []⟩),
  (4, ⟨[2, 3, 5, 45], [2, 3], [], [], 0, [2, 3, 5], [2, 3], [], []⟩),
  (6, ⟨[2, 3, 5, 59], [2, 3], [], [], 12, [], [], [], []⟩),
  (7, ⟨[4], [], [], [], 0, [], [], [], []⟩),
  (5, ⟨[2, 3, 5], [2, 3], [], [], 0, [], [], [], []⟩),
  (8, ⟨[4], [], [], [], 0, [], [], [], []⟩)]
noncomputable def ref12_Same.cx (k : Nat) : Cx := ⟨tt, pp, [(161, (ref11_Same.e k))], ref12_Same.regs, k⟩
@[reducible] def ref12_Same.sg : Sg := ⟨[.dat tTxn, .dat tTxn], [], .dat .bool, []⟩
noncomputable def ref12_Same.f (k : Nat) (a0 : Ty.D tTxn) (a1 : Ty.D tTxn) : Option (Sg.Out ref12_Same.sg) := Sg.fn ref12_Same.sg (ref12_Same.cx k) ref12_Same.body ref12_Same.rs (a0, a1)
noncomputable def ref12_Same.l4 (k : Nat) (n : Nat) (x5 : Ty.D (.int .i64)) (m2 : Ty.D tTxn) (m3 : Ty.D tTxn) : Option (Sg.Out ref12_Same.sg) := loopAt (ref12_Same.cx k) ref12_Same.body [1, 1, 0, 1, 0] 4 [2, 3, 5] [2, 3] [] (Sg.K ref12_Same.sg (ref12_Same.cx k) ref12_Same.rs) n ⟨[(2, .ref 2 []), (3, .ref 3 []), (5, .dat (.int .i64) x5)], [(2, .dat tTxn m2), (3, .dat tTxn m3)]⟩
set_option maxRecDepth 100000 in
theorem ref12_Same.f_eq (k : Nat) (a0 : Ty.D tTxn) (a1 : Ty.D tTxn) : ref12_Same.f k a0 a1 =
  br (bnot (deq tDot a0.1 a1.1))
    (some false)
    (br (bnot (ieq a0.2.1 a1.2.1))
      (some false)
      (br (bnot (ieq a0.2.2.1 a1.2.2.1))
        (some false)
        (br (bnot (deq .bool a0.2.2.2.1 a1.2.2.2.1))
          (some false)
          (br (bnot (ieq (ilen a0.2.2.2.2) (ilen a1.2.2.2.2)))
            (some false)
            (ref12_Same.l4 k k 0 a0 a1))))) := by kernel_rfl
set_option maxRecDepth 100000 in
theorem ref12_Same.l4_eq (k : Nat) (n4 : Nat) (x5 : Ty.D (.int .i64)) (m2 : Ty.D tTxn) (m3 : Ty.D tTxn) : ref12_Same.l4 k (n4 + 1) x5 m2 m3 =
  br (ilt x5 (ilen m2.2.2.2.2))
    (br (inL x5 m2.2.2.2.2)
      (br (inL x5 m3.2.2.2.2)
        (bnd (ref11_Same.f k (rd tOp m2.2.2.2.2 (natOf x5)) (rd tOp m3.2.2.2.2 (natOf x5))) fun r0 =>
        br (bnot r0)
          (some false)
          (ref12_Same.l4 k n4 (iadd .i64 x5 1) m2 m3))
        (none))
      (none))
    (some true) := by kernel_rfl
noncomputable def ref12_Same.e (k : Nat) : Entry := Sg.entry ref12_Same.sg fun x => ref12_Same.f k x.1 x.2
set_option maxRecDepth 100000 in
theorem ref12_Same.ok (k : Nat) : CallOK Tryz.prog 127 (ref12_Same.e k) :=
  fn_ok (c := ref12_Same.cx k) (code := ref12_Same.body) (TT.of tt_ok pp_ok) (fns_ok ⟨(ref11_Same.ok k), trivial⟩) mixed Tryz.func127 (by kernel_rfl) (by kernel_rfl) (by kernel_rfl) (by kernel_rfl) (by kernel_rfl) (by kernel_rfl) (fun x => by kernel_rfl)
noncomputable def ref12_All.body : Go.Code := Tryz.f89.body.getD .skip
noncomputable def ref12_All.rs : List Go.ResultVar := Tryz.f89.results.toList
def ref12_All.regs : List (Nat × RInfo) := [(0, ⟨[0, 1], [], [], [], 0, [], [], [], []⟩),
  (1, ⟨[0, 1, 10], [], [], [], 0, [], [], [], []⟩),
  (2, ⟨[4], [], [], [], 0, [], [], [], []⟩),
  (3, ⟨[0, 1, 5], [], [], [], 0, [], [], [], []⟩),
  (4, ⟨[0, 1, 5, 14], [], [], [], 0, [0, 1, 5], [], [], []⟩),
  (6, ⟨[0, 1, 5, 26], [], [], [], 10, [], [], [], []⟩),
  (7, ⟨[4], [], [], [], 0, [], [], [], []⟩),
  (5, ⟨[0, 1, 5], [], [], [], 0, [], [], [], []⟩),
  (8, ⟨[4], [], [], [], 0, [], [], [], []⟩)]
noncomputable def ref12_All.cx (k : Nat) : Cx := ⟨tt, pp, [(127, (ref12_Same.e k))], ref12_All.regs, k⟩
@[reducible] def ref12_All.sg : Sg := ⟨[.dat (.slc tTxn), .dat (.slc tTxn)], [], .dat .bool, []⟩
noncomputable def ref12_All.f (k : Nat) (a0 : Ty.D (.slc tTxn)) (a1 : Ty.D (.slc tTxn)) : Option (Sg.Out ref12_All.sg) := Sg.fn ref12_All.sg (ref12_All.cx k) ref12_All.body ref12_All.rs (a0, a1)
noncomputable def ref12_All.l4 (k : Nat) (n : Nat) (x0 : Ty.D (.slc tTxn)) (x1 : Ty.D (.slc tTxn)) (x5 : Ty.D (.int .i64)) : Option (Sg.Out ref12_All.sg) := loopAt (ref12_All.cx k) ref12_All.body [1, 1, 0, 1, 0] 4 [0, 1, 5] [] [] (Sg.K ref12_All.sg (ref12_All.cx k) ref12_All.rs) n ⟨[(0, .dat (.slc tTxn) x0), (1, .dat (.slc tTxn) x1), (5, .dat (.int .i64) x5)], []⟩
set_option maxRecDepth 100000 in
theorem ref12_All.f_eq (k : Nat) (a0 : Ty.D (.slc tTxn)) (a1 : Ty.D (.slc tTxn)) : ref12_All.f k a0 a1 =
  br (bnot (ieq (ilen a0) (ilen a1)))
    (some false)
    (ref12_All.l4 k k a0 a1 0) := by kernel_rfl
set_option maxRecDepth 100000 in
theorem ref12_All.l4_eq (k : Nat) (n4 : Nat) (x0 : Ty.D (.slc tTxn)) (x1 : Ty.D (.slc tTxn)) (x5 : Ty.D (.int .i64)) : ref12_All.l4 k (n4 + 1) x0 x1 x5 =
  br (ilt x5 (ilen x0))
    (br (inL x5 x0)
      (br (inL x5 x1)
        (bnd (ref12_Same.f k (rd tTxn x0 (natOf x5)) (rd tTxn x1 (natOf x5))) fun r0 =>
        br (bnot r0)
          (some false)
          (ref12_All.l4 k n4 x0 x1 (iadd .i64 x5 1)))
        (none))
      (none))
    (some true) := by kernel_rfl
noncomputable def ref12_All.e (k : Nat) : Entry := Sg.entry ref12_All.sg fun x => ref12_All.f k x.1 x.2
set_option maxRecDepth 100000 in
theorem ref12_All.ok (k : Nat) : CallOK Tryz.prog 89 (ref12_All.e k) :=
  fn_ok (c := ref12_All.cx k) (code := ref12_All.body) (TT.of tt_ok pp_ok) (fns_ok ⟨(ref12_Same.ok k), trivial⟩) mixed Tryz.func89 (by kernel_rfl) (by kernel_rfl) (by kernel_rfl) (by kernel_rfl) (by kernel_rfl) (by kernel_rfl) (fun x => by kernel_rfl)
noncomputable def ref08_Same.body : Go.Code := Tryz.f64.body.getD .skip
noncomputable def ref08_Same.rs : List Go.ResultVar := Tryz.f64.results.toList
def ref08_Same.regs : List (Nat × RInfo) := [(0, ⟨[0, 1], [], [], [], 0, [], [], [], []⟩),
  (1, ⟨[0, 1, 10], [], [], [], 0, [], [], [], []⟩),
  (2, ⟨[4], [], [], [], 0, [], [], [], []⟩),
  (3, ⟨[0, 1, 5], [], [], [], 0, [], [], [], []⟩),
  (4, ⟨[0, 1, 5, 14], [], [], [], 0, [0, 1, 5], [], [], []⟩),
  (6, ⟨[0, 1, 5, 25], [], [], [], 9, [], [], [], []⟩),
  (7, ⟨[4], [], [], [], 0, [], [], [], []⟩),
  (5, ⟨[0, 1, 5], [], [], [], 0, [], [], [], []⟩),
  (8, ⟨[4], [], [], [], 0, [], [], [], []⟩)]
noncomputable def ref08_Same.cx (k : Nat) : Cx := ⟨tt, pp, [], ref08_Same.regs, k⟩
@[reducible] def ref08_Same.sg : Sg := ⟨[.dat (.slc tUndo), .dat (.slc tUndo)], [], .dat .bool, []⟩
noncomputable def ref08_Same.f (k : Nat) (a0 : Ty.D (.slc tUndo)) (a1 : Ty.D (.slc tUndo)) : Option (Sg.Out ref08_Same.sg) := Sg.fn ref08_Same.sg (ref08_Same.cx k) ref08_Same.body ref08_Same.rs (a0, a1)
noncomputable def ref08_Same.l4 (k : Nat) (n : Nat) (x0 : Ty.D (.slc tUndo)) (x1 : Ty.D (.slc tUndo)) (x5 : Ty.D (.int .i64)) : Option (Sg.Out ref08_Same.sg) := loopAt (ref08_Same.cx k) ref08_Same.body [1, 1, 0, 1, 0] 4 [0, 1, 5] [] [] (Sg.K ref08_Same.sg (ref08_Same.cx k) ref08_Same.rs) n ⟨[(0, .dat (.slc tUndo) x0), (1, .dat (.slc tUndo) x1), (5, .dat (.int .i64) x5)], []⟩
set_option maxRecDepth 100000 in
theorem ref08_Same.f_eq (k : Nat) (a0 : Ty.D (.slc tUndo)) (a1 : Ty.D (.slc tUndo)) : ref08_Same.f k a0 a1 =
  br (bnot (ieq (ilen a0) (ilen a1)))
    (some false)
    (ref08_Same.l4 k k a0 a1 0) := by kernel_rfl
set_option maxRecDepth 100000 in
theorem ref08_Same.l4_eq (k : Nat) (n4 : Nat) (x0 : Ty.D (.slc tUndo)) (x1 : Ty.D (.slc tUndo)) (x5 : Ty.D (.int .i64)) : ref08_Same.l4 k (n4 + 1) x0 x1 x5 =
  br (ilt x5 (ilen x0))
    (br (inL x5 x0)
      (br (inL x5 x1)
        (br (bnot (deq tUndo (rd tUndo x0 (natOf x5)) (rd tUndo x1 (natOf x5))))
          (some false)
          (ref08_Same.l4 k n4 x0 x1 (iadd .i64 x5 1)))
        (none))
      (none))
    (some true) := by kernel_rfl
noncomputable def ref08_Same.e (k : Nat) : Entry := Sg.entry ref08_Same.sg fun x => ref08_Same.f k x.1 x.2
set_option maxRecDepth 100000 in
theorem ref08_Same.ok (k : Nat) : CallOK Tryz.prog 64 (ref08_Same.e k) :=
  fn_ok (c := ref08_Same.cx k) (code := ref08_Same.body) (TT.of tt_ok pp_ok) (fns_ok trivial) mixed Tryz.func64 (by kernel_rfl) (by kernel_rfl) (by kernel_rfl) (by kernel_rfl) (by kernel_rfl) (by kernel_rfl) (fun x => by kernel_rfl)
noncomputable def ref23_SameDelta.body : Go.Code := Tryz.f111.body.getD .skip
noncomputable def ref23_SameDelta.rs : List Go.ResultVar := Tryz.f111.results.toList
def ref23_SameDelta.regs : List (Nat × RInfo) := [(0, ⟨[2, 3], [2, 3], [0, 1], [], 0, [], [], [], []⟩),
  (1, ⟨[4], [9, 15, 22], [], [], 0, [], [], [], []⟩)]
noncomputable def ref23_SameDelta.cx (k : Nat) : Cx := ⟨tt, pp, [(89, (ref12_All.e k)),
  (64, (ref08_Same.e k)),
  (37, (ref04_Same.e k))], ref23_SameDelta.regs, k⟩
@[reducible] def ref23_SameDelta.sg : Sg := ⟨[.dat tDelta, .dat tDelta], [], .dat .bool, []⟩
noncomputable def ref23_SameDelta.f (k : Nat) (a0 : Ty.D tDelta) (a1 : Ty.D tDelta) : Option (Sg.Out ref23_SameDelta.sg) := Sg.fn ref23_SameDelta.sg (ref23_SameDelta.cx k) ref23_SameDelta.body ref23_SameDelta.rs (a0, a1)
set_option maxRecDepth 100000 in
theorem ref23_SameDelta.f_eq (k : Nat) (a0 : Ty.D tDelta) (a1 : Ty.D tDelta) : ref23_SameDelta.f k a0 a1 =
  bnd (ref12_All.f k a0.1 a1.1) fun r0 =>
  br r0
    (bnd (ref08_Same.f k a0.2.1 a1.2.1) fun r1 =>
    br r1
      (bnd (ref04_Same.f k a0.2.2 a1.2.2) fun r2 =>
      some r2)
      (some false))
    (some false) := by kernel_rfl
noncomputable def ref23_SameDelta.e (k : Nat) : Entry := Sg.entry ref23_SameDelta.sg fun x => ref23_SameDelta.f k x.1 x.2
set_option maxRecDepth 100000 in
theorem ref23_SameDelta.ok (k : Nat) : CallOK Tryz.prog 111 (ref23_SameDelta.e k) :=
  fn_ok (c := ref23_SameDelta.cx k) (code := ref23_SameDelta.body) (TT.of tt_ok pp_ok) (fns_ok ⟨(ref12_All.ok k), (ref08_Same.ok k), (ref04_Same.ok k), trivial⟩) mixed Tryz.func111 (by kernel_rfl) (by kernel_rfl) (by kernel_rfl) (by kernel_rfl) (by kernel_rfl) (by kernel_rfl) (fun x => by kernel_rfl)
noncomputable def ref24_Same.body : Go.Code := Tryz.f19.body.getD .skip
noncomputable def ref24_Same.rs : List Go.ResultVar := Tryz.f19.results.toList
def ref24_Same.regs : List (Nat × RInfo) := [(0, ⟨[2, 3], [2, 3], [0, 1], [], 0, [], [], [], []⟩),
  (1, ⟨[4], [9, 15, 22], [], [], 0, [], [], [], []⟩)]
noncomputable def ref24_Same.cx (k : Nat) : Cx := ⟨tt, pp, [(63, (ref06_Same.e k)),
  (64, (ref08_Same.e k))], ref24_Same.regs, k⟩
@[reducible] def ref24_Same.sg : Sg := ⟨[.dat tKnow, .dat tKnow], [], .dat .bool, []⟩
noncomputable def ref24_Same.f (k : Nat) (a0 : Ty.D tKnow) (a1 : Ty.D tKnow) : Option (Sg.Out ref24_Same.sg) := Sg.fn ref24_Same.sg (ref24_Same.cx k) ref24_Same.body ref24_Same.rs (a0, a1)
set_option maxRecDepth 100000 in
theorem ref24_Same.f_eq (k : Nat) (a0 : Ty.D tKnow) (a1 : Ty.D tKnow) : ref24_Same.f k a0 a1 =
  bnd (ref06_Same.f k a0.1 a1.1) fun r0 =>
  br r0
    (bnd (ref08_Same.f k a0.2.1 a1.2.1) fun r1 =>
    br r1
      (bnd (ref06_Same.f k a0.2.2 a1.2.2) fun r2 =>
      some r2)
      (some false))
    (some false) := by kernel_rfl
noncomputable def ref24_Same.e (k : Nat) : Entry := Sg.entry ref24_Same.sg fun x => ref24_Same.f k x.1 x.2
set_option maxRecDepth 100000 in
theorem ref24_Same.ok (k : Nat) : CallOK Tryz.prog 19 (ref24_Same.e k) :=
  fn_ok (c := ref24_Same.cx k) (code := ref24_Same.body) (TT.of tt_ok pp_ok) (fns_ok ⟨(ref06_Same.ok k), (ref08_Same.ok k), trivial⟩) mixed Tryz.func19 (by kernel_rfl) (by kernel_rfl) (by kernel_rfl) (by kernel_rfl) (by kernel_rfl) (by kernel_rfl) (fun x => by kernel_rfl)
noncomputable def ref28_Same.body : Go.Code := Tryz.f58.body.getD .skip
noncomputable def ref28_Same.rs : List Go.ResultVar := Tryz.f58.results.toList
def ref28_Same.regs : List (Nat × RInfo) := [(0, ⟨[2, 3], [2, 3], [0, 1], [], 0, [], [], [], []⟩),
  (1, ⟨[2, 3, 23], [2, 3], [], [], 0, [], [], [], []⟩),
  (2, ⟨[4], [31, 36], [], [], 0, [], [], [], []⟩),
  (3, ⟨[2, 3, 26], [2, 3], [], [], 0, [], [], [], []⟩),
  (4, ⟨[4], [31, 36], [], [], 0, [], [], [], []⟩),
  (5, ⟨[4], [31, 36], [], [], 0, [], [], [], []⟩)]
noncomputable def ref28_Same.cx (k : Nat) : Cx := ⟨tt, pp, [(111, (ref23_SameDelta.e k)),
  (19, (ref24_Same.e k))], ref28_Same.regs, k⟩
@[reducible] def ref28_Same.sg : Sg := ⟨[.dat tMessage, .dat tMessage], [], .dat .bool, []⟩
noncomputable def ref28_Same.f (k : Nat) (a0 : Ty.D tMessage) (a1 : Ty.D tMessage) : Option (Sg.Out ref28_Same.sg) := Sg.fn ref28_Same.sg (ref28_Same.cx k) ref28_Same.body ref28_Same.rs (a0, a1)
set_option maxRecDepth 100000 in
theorem ref28_Same.f_eq (k : Nat) (a0 : Ty.D tMessage) (a1 : Ty.D tMessage) : ref28_Same.f k a0 a1 =
  br (bnot (ieq a0.1 a1.1))
    (some false)
    (br (bnot (ieq a0.2.1 a1.2.1))
      (some false)
      (br (bnot (ieq a0.2.2.1 a1.2.2.1))
        (some false)
        (br (ieq a0.1 1)
          (bnd (ref23_SameDelta.f k a0.2.2.2.1 a1.2.2.2.1) fun r0 =>
          some r0)
          (bnd (ref24_Same.f k a0.2.2.2.2 a1.2.2.2.2) fun r1 =>
          some r1)))) := by kernel_rfl
noncomputable def ref28_Same.e (k : Nat) : Entry := Sg.entry ref28_Same.sg fun x => ref28_Same.f k x.1 x.2
set_option maxRecDepth 100000 in
theorem ref28_Same.ok (k : Nat) : CallOK Tryz.prog 58 (ref28_Same.e k) :=
  fn_ok (c := ref28_Same.cx k) (code := ref28_Same.body) (TT.of tt_ok pp_ok) (fns_ok ⟨(ref23_SameDelta.ok k), (ref24_Same.ok k), trivial⟩) mixed Tryz.func58 (by kernel_rfl) (by kernel_rfl) (by kernel_rfl) (by kernel_rfl) (by kernel_rfl) (by kernel_rfl) (fun x => by kernel_rfl)
noncomputable def peer_Peers_Of.body : Go.Code := Tryz.f16.body.getD .skip
noncomputable def peer_Peers_Of.rs : List Go.ResultVar := Tryz.f16.results.toList
def peer_Peers_Of.regs : List (Nat × RInfo) := [(0, ⟨[0, 1, 4], [4, 1000000], [], [], 0, [], [], [], []⟩),
  (1, ⟨[0, 1, 4, 8], [4, 1000000], [], [], 0, [], [], [], []⟩),
  (2, ⟨[4], [4, 1000000], [1], [], 0, [], [], [], []⟩),
  (3, ⟨[4], [4, 1000000], [6], [], 0, [], [], [], []⟩)]
noncomputable def peer_Peers_Of.cx (k : Nat) : Cx := ⟨tt, pp, [(61, (peer_Peers_other.e k))], peer_Peers_Of.regs, k⟩
@[reducible] def peer_Peers_Of.sg : Sg := ⟨[.ref, .dat (.int .i64)], [tPeers], .dat tKnow, [tPeers]⟩
noncomputable def peer_Peers_Of.f (k : Nat) (a1 : Ty.D (.int .i64)) (o0 : Ty.D tPeers) : Option (Sg.Out peer_Peers_Of.sg) := Sg.fn peer_Peers_Of.sg (peer_Peers_Of.cx k) peer_Peers_Of.body peer_Peers_Of.rs (a1, o0)
set_option maxRecDepth 100000 in
theorem peer_Peers_Of.f_eq (k : Nat) (a1 : Ty.D (.int .i64)) (o0 : Ty.D tPeers) : peer_Peers_Of.f k a1 o0 =
  bnd (peer_Peers_other.f k a1 o0) fun r0 =>
  br (bnot r0.1)
    (some ((((zarr 16 0), []), ([], ((zarr 16 0), []))), r0.2))
    (br (inB a1 16)
      (some ((rd tKnow r0.2.2.2 (natOf a1)), r0.2))
      (none)) := by kernel_rfl
noncomputable def peer_Peers_Of.e (k : Nat) : Entry := Sg.entry peer_Peers_Of.sg fun x => peer_Peers_Of.f k x.1 x.2
set_option maxRecDepth 100000 in
theorem peer_Peers_Of.ok (k : Nat) : CallOK Tryz.prog 16 (peer_Peers_Of.e k) :=
  fn_ok (c := peer_Peers_Of.cx k) (code := peer_Peers_Of.body) (TT.of tt_ok pp_ok) (fns_ok ⟨(peer_Peers_other.ok k), trivial⟩) mixed Tryz.func16 (by kernel_rfl) (by kernel_rfl) (by kernel_rfl) (by kernel_rfl) (by kernel_rfl) (by kernel_rfl) (fun x => by kernel_rfl)
noncomputable def ref29_Peers_Of.body : Go.Code := Tryz.f59.body.getD .skip
noncomputable def ref29_Peers_Of.rs : List Go.ResultVar := Tryz.f59.results.toList
def ref29_Peers_Of.regs : List (Nat × RInfo) := [(0, ⟨[0, 1, 4], [4, 1000000], [], [], 0, [], [], [], []⟩),
  (1, ⟨[0, 1, 4, 8], [4, 1000000], [], [], 0, [], [], [], []⟩),
  (2, ⟨[4], [4, 1000000], [1], [], 0, [], [], [], []⟩),
  (3, ⟨[4], [4, 1000000], [6], [], 0, [], [], [], []⟩)]
noncomputable def ref29_Peers_Of.cx (k : Nat) : Cx := ⟨tt, pp, [(18, (ref29_Peers_Other.e k))], ref29_Peers_Of.regs, k⟩
@[reducible] def ref29_Peers_Of.sg : Sg := ⟨[.ref, .dat (.int .i64)], [tPeers], .dat tKnow, [tPeers]⟩
noncomputable def ref29_Peers_Of.f (k : Nat) (a1 : Ty.D (.int .i64)) (o0 : Ty.D tPeers) : Option (Sg.Out ref29_Peers_Of.sg) := Sg.fn ref29_Peers_Of.sg (ref29_Peers_Of.cx k) ref29_Peers_Of.body ref29_Peers_Of.rs (a1, o0)
set_option maxRecDepth 100000 in
theorem ref29_Peers_Of.f_eq (k : Nat) (a1 : Ty.D (.int .i64)) (o0 : Ty.D tPeers) : ref29_Peers_Of.f k a1 o0 =
  bnd (ref29_Peers_Other.f k a1 o0) fun r0 =>
  br (bnot r0.1)
    (some ((((zarr 16 0), []), ([], ((zarr 16 0), []))), r0.2))
    (br (inB a1 16)
      (some ((rd tKnow r0.2.2.2 (natOf a1)), r0.2))
      (none)) := by kernel_rfl
noncomputable def ref29_Peers_Of.e (k : Nat) : Entry := Sg.entry ref29_Peers_Of.sg fun x => ref29_Peers_Of.f k x.1 x.2
set_option maxRecDepth 100000 in
theorem ref29_Peers_Of.ok (k : Nat) : CallOK Tryz.prog 59 (ref29_Peers_Of.e k) :=
  fn_ok (c := ref29_Peers_Of.cx k) (code := ref29_Peers_Of.body) (TT.of tt_ok pp_ok) (fns_ok ⟨(ref29_Peers_Other.ok k), trivial⟩) mixed Tryz.func59 (by kernel_rfl) (by kernel_rfl) (by kernel_rfl) (by kernel_rfl) (by kernel_rfl) (by kernel_rfl) (fun x => by kernel_rfl)
noncomputable def ref29_Peers_Agrees.body : Go.Code := Tryz.f60.body.getD .skip
noncomputable def ref29_Peers_Agrees.rs : List Go.ResultVar := Tryz.f60.results.toList
def ref29_Peers_Agrees.regs : List (Nat × RInfo) := [(0, ⟨[0, 2, 4], [4, 1000000], [], [], 0, [], [], [], []⟩),
  (1, ⟨[0, 2, 4, 7], [4, 1000000], [], [], 0, [], [], [], []⟩),
  (2, ⟨[0, 2, 4, 7, 13], [4, 1000000], [], [], 0, [0, 2, 4, 7], [4, 1000000], [], []⟩),
  (4, ⟨[0, 2, 4, 7, 34], [4, 1000000], [], [], 19, [], [], [], []⟩),
  (5, ⟨[6], [1000000], [], [], 0, [], [], [], []⟩),
  (3, ⟨[0, 2, 4, 7], [4, 1000000], [], [], 0, [], [], [], []⟩),
  (6, ⟨[6], [1000000], [], [], 0, [], [], [], []⟩)]
noncomputable def ref29_Peers_Agrees.cx (k : Nat) : Cx := ⟨tt, pp, [(46, (ref08_Get.e k))], ref29_Peers_Agrees.regs, k⟩
@[reducible] def ref29_Peers_Agrees.sg : Sg := ⟨[.ref, .dat tDot, .dat (.int .i64)], [tPeers], .dat .bool, [tPeers]⟩
noncomputable def ref29_Peers_Agrees.f (k : Nat) (a1 : Ty.D tDot) (a2 : Ty.D (.int .i64)) (o0 : Ty.D tPeers) : Option (Sg.Out ref29_Peers_Agrees.sg) := Sg.fn ref29_Peers_Agrees.sg (ref29_Peers_Agrees.cx k) ref29_Peers_Agrees.body ref29_Peers_Agrees.rs (a1, a2, o0)
noncomputable def ref29_Peers_Agrees.l2 (k : Nat) (n : Nat) (x2 : Ty.D (.int .i64)) (x7 : Ty.D (.int .i64)) (m4 : Ty.D tDot) (m1000000 : Ty.D tPeers) : Option (Sg.Out ref29_Peers_Agrees.sg) := loopAt (ref29_Peers_Agrees.cx k) ref29_Peers_Agrees.body [1, 0, 1, 0] 2 [0, 2, 4, 7] [4, 1000000] [] (Sg.K ref29_Peers_Agrees.sg (ref29_Peers_Agrees.cx k) ref29_Peers_Agrees.rs) n ⟨[(0, .ref 1000000 []), (2, .dat (.int .i64) x2), (4, .ref 4 []), (7, .dat (.int .i64) x7)], [(4, .dat tDot m4), (1000000, .dat tPeers m1000000)]⟩
set_option maxRecDepth 100000 in
theorem ref29_Peers_Agrees.f_eq (k : Nat) (a1 : Ty.D tDot) (a2 : Ty.D (.int .i64)) (o0 : Ty.D tPeers) : ref29_Peers_Agrees.f k a1 a2 o0 =
  ref29_Peers_Agrees.l2 k k a2 0 a1 o0 := by kernel_rfl
set_option maxRecDepth 100000 in
theorem ref29_Peers_Agrees.l2_eq (k : Nat) (n2 : Nat) (x2 : Ty.D (.int .i64)) (x7 : Ty.D (.int .i64)) (m4 : Ty.D tDot) (m1000000 : Ty.D tPeers) : ref29_Peers_Agrees.l2 k (n2 + 1) x2 x7 m4 m1000000 =
  br (ilt x7 m1000000.2.1)
    (br (bnot (ieq x7 m1000000.1))
      (br (inB x7 16)
        (bnd (ref08_Get.f k (((rd tKnow m1000000.2.2 (natOf x7)).2).1) m4) fun r0 =>
        br (bnot (ieq r0 x2))
          (some (false, m1000000))
          (ref29_Peers_Agrees.l2 k n2 x2 (iadd .i64 x7 1) m4 m1000000))
        (none))
      (ref29_Peers_Agrees.l2 k n2 x2 (iadd .i64 x7 1) m4 m1000000))
    (some (true, m1000000)) := by kernel_rfl
noncomputable def ref29_Peers_Agrees.e (k : Nat) : Entry := Sg.entry ref29_Peers_Agrees.sg fun x => ref29_Peers_Agrees.f k x.1 x.2.1 x.2.2
set_option maxRecDepth 100000 in
theorem ref29_Peers_Agrees.ok (k : Nat) : CallOK Tryz.prog 60 (ref29_Peers_Agrees.e k) :=
  fn_ok (c := ref29_Peers_Agrees.cx k) (code := ref29_Peers_Agrees.body) (TT.of tt_ok pp_ok) (fns_ok ⟨(ref08_Get.ok k), trivial⟩) mixed Tryz.func60 (by kernel_rfl) (by kernel_rfl) (by kernel_rfl) (by kernel_rfl) (by kernel_rfl) (by kernel_rfl) (fun x => by kernel_rfl)
noncomputable def law29_does.body : Go.Code := Tryz.f15.body.getD .skip
noncomputable def law29_does.rs : List Go.ResultVar := Tryz.f15.results.toList
def law29_does.regs : List (Nat × RInfo) := [(0, ⟨[0, 1, 5], [5, 1000000, 1000001], [0], [], 0, [], [], [], []⟩),
  (1, ⟨[0, 1, 5, 12], [5, 1000000, 1000001], [], [], 0, [], [], [], []⟩),
  (3, ⟨[0, 1, 5, 12, 13], [5, 1000000, 1000001], [], [], 0, [], [], [], []⟩),
  (4, ⟨[0, 1, 5, 12, 13], [5, 1000000, 1000001], [], [], 0, [], [], [], []⟩),
  (5, ⟨[0, 1, 5, 12, 13], [5, 1000000, 1000001], [], [], 0, [], [], [], []⟩),
  (6, ⟨[6], [60, 76, 1000000, 1000001], [], [], 13, [], [], [], [[], [], [], [], [], [2, 4], [], [], [], [], [], [8, 10, 5, 2, 4], [5, 2, 4, 11, 8, 10], [5, 2, 4, 11, 8, 10]]⟩),
  (7, ⟨[0, 1, 5, 12, 30], [5, 1000000, 1000001], [], [], 0, [], [], [], []⟩),
  (8, ⟨[1], [1000000, 1000001], [], [], 0, [], [], [], []⟩),
  (9, ⟨[], [1000000, 1000001], [], [], 0, [], [], [], []⟩),
  (10, ⟨[0, 1, 5, 12, 38], [5, 1000000, 1000001], [], [], 0, [], [], [], []⟩),
  (11, ⟨[1, 5, 7, 8], [5, 7, 46, 1000000, 1000001], [10], [], 0, [], [], [], []⟩),
  (12, ⟨[7, 8, 9, 10], [7, 9, 46, 55, 1000000, 1000001], [10], [], 0, [], [], [], []⟩),
  (13, ⟨[6], [60, 76, 1000000, 1000001], [], [], 0, [], [], [], []⟩),
  (14, ⟨[0, 1, 5, 12, 66], [5, 1000000, 1000001], [], [], 0, [], [], [], []⟩),
  (15, ⟨[6], [60, 76, 1000000, 1000001], [], [], 9, [], [], [], [[], [], [], [2], [], [], [], [6, 3, 2], [3, 2, 7, 6], [3, 2, 7, 6]]⟩),
  (16, ⟨[0, 1, 5, 77], [5, 1000000, 1000001], [], [], 0, [], [], [], []⟩),
  (17, ⟨[6], [60, 76, 1000000, 1000001], [], [], 13, [], [], [], [[], [], [], [], [], [2, 4], [], [], [], [], [], [8, 10, 5, 2, 4], [5, 2, 4, 11, 8, 10], [5, 2, 4, 11, 8, 10]]⟩),
  (2, ⟨[6], [60, 76, 1000000, 1000001], [], [], 0, [], [], [], []⟩),
  (18, ⟨[6], [60, 76, 1000000, 1000001], [], [], 0, [], [], [], []⟩)]
noncomputable def law29_does.cx (k : Nat) : Cx := ⟨tt, pp, [(28, (peer_Peers_Heard.e k)),
  (56, (ref29_Peers_Hear.e k)),
  (32, (peer_Peers_Forget.e k)),
  (29, (peer_Peers_Offer.e k)),
  (57, (ref29_Peers_Offer.e k)),
  (58, (ref28_Same.e k)),
  (16, (peer_Peers_Of.e k)),
  (59, (ref29_Peers_Of.e k)),
  (19, (ref24_Same.e k)),
  (55, (peer_Peers_Agrees.e k)),
  (60, (ref29_Peers_Agrees.e k))], law29_does.regs, k⟩
@[reducible] def law29_does.sg : Sg := ⟨[.ref, .ref, .dat tDeed], [tPeers, tPeers], .dat .bool, [tPeers, tPeers]⟩
noncomputable def law29_does.f (k : Nat) (a2 : Ty.D tDeed) (o0 : Ty.D tPeers) (o1 : Ty.D tPeers) : Option (Sg.Out law29_does.sg) := Sg.fn law29_does.sg (law29_does.cx k) law29_does.body law29_does.rs (a2, o0, o1)
set_option maxRecDepth 100000 in
theorem law29_does.f_eq (k : Nat) (a2 : Ty.D tDeed) (o0 : Ty.D tPeers) (o1 : Ty.D tPeers) : law29_does.f k a2 o0 o1 =
  br (ieq a2.1 0)
    (br (ieq a2.1 0)
      (bnd (peer_Peers_Heard.f k a2.2.1 a2.2.2.1 o0) fun r0 =>
      bnd (ref29_Peers_Hear.f k a2.2.1 a2.2.2.1 o1) fun r1 =>
      some ((ieq r0.1 r1.1), (r0.2, r1.2)))
      (br (ieq a2.1 3)
        (bnd (peer_Peers_Forget.f k o0) fun r2 =>
        some (true, (r2.2, (o1.1, (o1.2.1, (zarr 16 (((zarr 16 0), []), ([], ((zarr 16 0), [])))))))))
        (br (ieq a2.1 4)
          (bnd (peer_Peers_Offer.f k a2.2.2.2.1 a2.2.1 o0) fun r3 =>
          bnd (ref29_Peers_Offer.f k a2.2.2.2.1 a2.2.1 o1) fun r4 =>
          bnd (ref28_Same.f k r3.1.1 r4.1.1) fun r5 =>
          br r5
            (some ((ieq r3.1.2 r4.1.2), (r3.2, r4.2)))
            (some (false, (r3.2, r4.2))))
          (br (ieq a2.1 5)
            (bnd (peer_Peers_Of.f k a2.2.1 o0) fun r6 =>
            bnd (ref29_Peers_Of.f k a2.2.1 o1) fun r7 =>
            bnd (ref24_Same.f k r6.1 r7.1) fun r8 =>
            some (r8, (r6.2, r7.2)))
            (br (ieq a2.1 6)
              (bnd (peer_Peers_Agrees.f k a2.2.2.2.2 a2.2.1 o0) fun r9 =>
              bnd (ref29_Peers_Agrees.f k a2.2.2.2.2 a2.2.1 o1) fun r10 =>
              some ((deq .bool r9.1 r10.1), (r9.2, r10.2)))
              (some (true, (o0, o1))))))))
    (br (ieq a2.1 1)
      (br (ieq a2.1 1)
        (bnd (peer_Peers_Heard.f k a2.2.1 a2.2.2.1 o0) fun r11 =>
        bnd (ref29_Peers_Hear.f k a2.2.1 a2.2.2.1 o1) fun r12 =>
        some ((ieq r11.1 r12.1), (r11.2, r12.2)))
        (br (ieq a2.1 3)
          (bnd (peer_Peers_Forget.f k o0) fun r13 =>
          some (true, (r13.2, (o1.1, (o1.2.1, (zarr 16 (((zarr 16 0), []), ([], ((zarr 16 0), [])))))))))
          (br (ieq a2.1 4)
            (bnd (peer_Peers_Offer.f k a2.2.2.2.1 a2.2.1 o0) fun r14 =>
            bnd (ref29_Peers_Offer.f k a2.2.2.2.1 a2.2.1 o1) fun r15 =>
            bnd (ref28_Same.f k r14.1.1 r15.1.1) fun r16 =>
            br r16
              (some ((ieq r14.1.2 r15.1.2), (r14.2, r15.2)))
              (some (false, (r14.2, r15.2))))
            (br (ieq a2.1 5)
              (bnd (peer_Peers_Of.f k a2.2.1 o0) fun r17 =>
              bnd (ref29_Peers_Of.f k a2.2.1 o1) fun r18 =>
              bnd (ref24_Same.f k r17.1 r18.1) fun r19 =>
              some (r19, (r17.2, r18.2)))
              (br (ieq a2.1 6)
                (bnd (peer_Peers_Agrees.f k a2.2.2.2.2 a2.2.1 o0) fun r20 =>
                bnd (ref29_Peers_Agrees.f k a2.2.2.2.2 a2.2.1 o1) fun r21 =>
                some ((deq .bool r20.1 r21.1), (r20.2, r21.2)))
                (some (true, (o0, o1))))))))
      (br (ieq a2.1 2)
        (bnd (peer_Peers_Heard.f k a2.2.1 a2.2.2.1 o0) fun r22 =>
        bnd (ref29_Peers_Hear.f k a2.2.1 a2.2.2.1 o1) fun r23 =>
        some ((ieq r22.1 r23.1), (r22.2, r23.2)))
        (br (ieq a2.1 3)
          (bnd (peer_Peers_Forget.f k o0) fun r24 =>
          some (true, (r24.2, (o1.1, (o1.2.1, (zarr 16 (((zarr 16 0), []), ([], ((zarr 16 0), [])))))))))
          (br (ieq a2.1 4)
            (bnd (peer_Peers_Offer.f k a2.2.2.2.1 a2.2.1 o0) fun r25 =>
            bnd (ref29_Peers_Offer.f k a2.2.2.2.1 a2.2.1 o1) fun r26 =>
            bnd (ref28_Same.f k r25.1.1 r26.1.1) fun r27 =>
            br r27
              (some ((ieq r25.1.2 r26.1.2), (r25.2, r26.2)))
              (some (false, (r25.2, r26.2))))
            (br (ieq a2.1 5)
              (bnd (peer_Peers_Of.f k a2.2.1 o0) fun r28 =>
              bnd (ref29_Peers_Of.f k a2.2.1 o1) fun r29 =>
              bnd (ref24_Same.f k r28.1 r29.1) fun r30 =>
              some (r30, (r28.2, r29.2)))
              (br (ieq a2.1 6)
                (bnd (peer_Peers_Agrees.f k a2.2.2.2.2 a2.2.1 o0) fun r31 =>
                bnd (ref29_Peers_Agrees.f k a2.2.2.2.2 a2.2.1 o1) fun r32 =>
                some ((deq .bool r31.1 r32.1), (r31.2, r32.2)))
                (some (true, (o0, o1))))))))) := by kernel_rfl
noncomputable def law29_does.e (k : Nat) : Entry := Sg.entry law29_does.sg fun x => law29_does.f k x.1 x.2.1 x.2.2
set_option maxRecDepth 100000 in
theorem law29_does.ok (k : Nat) : CallOK Tryz.prog 15 (law29_does.e k) :=
  fn_ok (c := law29_does.cx k) (code := law29_does.body) (TT.of tt_ok pp_ok) (fns_ok ⟨(peer_Peers_Heard.ok k), (ref29_Peers_Hear.ok k), (peer_Peers_Forget.ok k), (peer_Peers_Offer.ok k), (ref29_Peers_Offer.ok k), (ref28_Same.ok k), (peer_Peers_Of.ok k), (ref29_Peers_Of.ok k), (ref24_Same.ok k), (peer_Peers_Agrees.ok k), (ref29_Peers_Agrees.ok k), trivial⟩) mixed Tryz.func15 (by kernel_rfl) (by kernel_rfl) (by kernel_rfl) (by kernel_rfl) (by kernel_rfl) (by kernel_rfl) (fun x => by kernel_rfl)
noncomputable def law29_PeerPlays.body : Go.Code := Tryz.f3.body.getD .skip
noncomputable def law29_PeerPlays.rs : List Go.ResultVar := Tryz.f3.results.toList
def law29_PeerPlays.regs : List (Nat × RInfo) := [(0, ⟨[0, 1, 2], [], [], [], 0, [], [], [], []⟩),
  (1, ⟨[2, 7, 8, 9], [14, 500014], [], [], 0, [], [], [], []⟩),
  (2, ⟨[2, 7, 8, 19], [14, 500014], [], [], 0, [], [], [], []⟩),
  (3, ⟨[6], [36, 45], [], [], 0, [], [], [], []⟩),
  (4, ⟨[2, 7, 8, 10], [14, 500014], [], [], 0, [], [], [], []⟩),
  (5, ⟨[2, 7, 8, 10, 27], [14, 500014], [], [], 0, [2, 7, 8, 10], [14, 500014], [], []⟩),
  (7, ⟨[2, 7, 8, 10, 35], [14, 500014], [], [], 0, [], [], [], []⟩),
  (8, ⟨[6], [36, 45], [], [], 0, [], [], [], []⟩),
  (9, ⟨[2, 7, 8, 10, 44], [14, 500014], [], [], 0, [], [], [], []⟩),
  (10, ⟨[6], [36, 45], [], [], 0, [], [], [], []⟩),
  (6, ⟨[2, 7, 8, 10], [14, 500014], [], [], 0, [], [], [], []⟩),
  (11, ⟨[6], [36, 45], [], [], 0, [], [], [], []⟩)]
noncomputable def law29_PeerPlays.cx (k : Nat) : Cx := ⟨tt, pp, [(12, (law29_begun.e k)),
  (13, (law29_short.e k)),
  (14, (law29_awake.e k)),
  (15, (law29_does.e k))], law29_PeerPlays.regs, k⟩
@[reducible] def law29_PeerPlays.sg : Sg := ⟨[.dat (.int .u8), .dat (.int .u8), .dat (.slc tDeed)], [], .dat .bool, []⟩
noncomputable def law29_PeerPlays.f (k : Nat) (a0 : Ty.D (.int .u8)) (a1 : Ty.D (.int .u8)) (a2 : Ty.D (.slc tDeed)) : Option (Sg.Out law29_PeerPlays.sg) := Sg.fn law29_PeerPlays.sg (law29_PeerPlays.cx k) law29_PeerPlays.body law29_PeerPlays.rs (a0, a1, a2)
noncomputable def law29_PeerPlays.l5 (k : Nat) (n : Nat) (x2 : Ty.D (.slc tDeed)) (x10 : Ty.D (.int .i64)) (m14 : Ty.D tPeers) (m500014 : Ty.D tPeers) : Option (Sg.Out law29_PeerPlays.sg) := loopAt (law29_PeerPlays.cx k) law29_PeerPlays.body [1, 1, 1, 0, 1, 0] 5 [2, 7, 8, 10] [14, 500014] [] (Sg.K law29_PeerPlays.sg (law29_PeerPlays.cx k) law29_PeerPlays.rs) n ⟨[(2, .dat (.slc tDeed) x2), (7, .ref 14 []), (8, .ref 500014 []), (10, .dat (.int .i64) x10)], [(14, .dat tPeers m14), (500014, .dat tPeers m500014)]⟩
set_option maxRecDepth 100000 in
theorem law29_PeerPlays.f_eq (k : Nat) (a0 : Ty.D (.int .u8)) (a1 : Ty.D (.int .u8)) (a2 : Ty.D (.slc tDeed)) : law29_PeerPlays.f k a0 a1 a2 =
  bnd (law29_begun.f k a0 a1) fun r0 =>
  br (bnot r0.1)
    (some false)
    (law29_PeerPlays.l5 k k a2 0 r0.2.1 r0.2.2) := by kernel_rfl
set_option maxRecDepth 100000 in
theorem law29_PeerPlays.l5_eq (k : Nat) (n5 : Nat) (x2 : Ty.D (.slc tDeed)) (x10 : Ty.D (.int .i64)) (m14 : Ty.D tPeers) (m500014 : Ty.D tPeers) : law29_PeerPlays.l5 k (n5 + 1) x2 x10 m14 m500014 =
  br (ilt x10 (ilen x2))
    (br (ilt x10 20)
      (br (inL x10 x2)
        (bnd (law29_short.f k (rd tDeed x2 (natOf x10))) fun r0 =>
        br (bnot r0)
          (bnd (law29_awake.f k) fun r1 =>
          some r1)
          (br (inL x10 x2)
            (bnd (law29_does.f k (rd tDeed x2 (natOf x10)) m14 m500014) fun r2 =>
            br (bnot r2.1)
              (some false)
              (law29_PeerPlays.l5 k n5 x2 (iadd .i64 x10 1) r2.2.1 r2.2.2))
            (none)))
        (none))
      (bnd (law29_awake.f k) fun r3 =>
      some r3))
    (bnd (law29_awake.f k) fun r4 =>
    some r4) := by kernel_rfl
noncomputable def law29_PeerPlays.e (k : Nat) : Entry := Sg.entry law29_PeerPlays.sg fun x => law29_PeerPlays.f k x.1 x.2.1 x.2.2
set_option maxRecDepth 100000 in
theorem law29_PeerPlays.ok (k : Nat) : CallOK Tryz.prog 3 (law29_PeerPlays.e k) :=
  fn_ok (c := law29_PeerPlays.cx k) (code := law29_PeerPlays.body) (TT.of tt_ok pp_ok) (fns_ok ⟨(law29_begun.ok k), (law29_short.ok k), (law29_awake.ok k), (law29_does.ok k), trivial⟩) mixed Tryz.func3 (by kernel_rfl) (by kernel_rfl) (by kernel_rfl) (by kernel_rfl) (by kernel_rfl) (by kernel_rfl) (fun x => by kernel_rfl)
noncomputable def ref06_Within.body : Go.Code := Tryz.f62.body.getD .skip
noncomputable def ref06_Within.rs : List Go.ResultVar := Tryz.f62.results.toList
def ref06_Within.regs : List (Nat × RInfo) := [(0, ⟨[2, 3], [2, 3], [0, 1], [], 0, [], [], [], []⟩),
  (1, ⟨[2, 3, 5], [2, 3], [], [], 0, [], [], [], []⟩),
  (2, ⟨[2, 3, 5, 13], [2, 3], [], [], 0, [2, 3, 5], [2, 3], [], []⟩),
  (4, ⟨[2, 3, 5, 23], [2, 3], [], [], 8, [], [], [], []⟩),
  (5, ⟨[4], [], [], [], 0, [], [], [], []⟩),
  (3, ⟨[2, 3, 5], [2, 3], [], [], 0, [], [], [], []⟩),
  (6, ⟨[2, 3, 6], [2, 3], [], [], 0, [], [], [], []⟩),
  (7, ⟨[2, 3, 6, 25], [2, 3], [], [], 0, [2, 3, 6], [2, 3], [], []⟩),
  (9, ⟨[2, 3, 6, 7], [2, 3], [], [], 0, [], [], [], []⟩),
  (10, ⟨[2, 3, 6, 7, 8], [2, 3], [], [], 0, [], [], [], []⟩),
  (11, ⟨[2, 3, 6, 7, 8, 36], [2, 3], [], [], 0, [2, 3, 6, 7, 8], [2, 3], [], []⟩),
  (13, ⟨[2, 3, 6, 7, 8, 57], [2, 3], [], [], 0, [], [], [], []⟩),
  (14, ⟨[2, 3, 6, 7, 8], [2, 3], [], [], 0, [], [], [], []⟩),
  (12, ⟨[2, 3, 6, 7, 8], [2, 3], [], [], 0, [], [], [], []⟩),
  (15, ⟨[2, 3, 6, 65], [2, 3], [], [], 0, [], [], [], []⟩),
  (16, ⟨[4], [], [], [], 0, [], [], [], []⟩),
  (8, ⟨[2, 3, 6], [2, 3], [], [], 0, [], [], [], []⟩),
  (17, ⟨[4], [], [], [], 0, [], [], [], []⟩)]
noncomputable def ref06_Within.cx (k : Nat) : Cx := ⟨tt, pp, [(23, (ref06_Has.e k))], ref06_Within.regs, k⟩
@[reducible] def ref06_Within.sg : Sg := ⟨[.dat tDots, .dat tDots], [], .dat .bool, []⟩
noncomputable def ref06_Within.f (k : Nat) (a0 : Ty.D tDots) (a1 : Ty.D tDots) : Option (Sg.Out ref06_Within.sg) := Sg.fn ref06_Within.sg (ref06_Within.cx k) ref06_Within.body ref06_Within.rs (a0, a1)
noncomputable def ref06_Within.l2 (k : Nat) (n : Nat) (x5 : Ty.D (.int .i64)) (m2 : Ty.D tDots) (m3 : Ty.D tDots) : Option (Sg.Out ref06_Within.sg) := loopAt (ref06_Within.cx k) ref06_Within.body [1, 0, 1, 0] 2 [2, 3, 5] [2, 3] [] (Sg.K ref06_Within.sg (ref06_Within.cx k) ref06_Within.rs) n ⟨[(2, .ref 2 []), (3, .ref 3 []), (5, .dat (.int .i64) x5)], [(2, .dat tDots m2), (3, .dat tDots m3)]⟩
noncomputable def ref06_Within.l7 (k : Nat) (n : Nat) (x6 : Ty.D (.int .i64)) (m2 : Ty.D tDots) (m3 : Ty.D tDots) : Option (Sg.Out ref06_Within.sg) := loopAt (ref06_Within.cx k) ref06_Within.body [1, 1, 0, 1, 0] 7 [2, 3, 6] [2, 3] [] (Sg.K ref06_Within.sg (ref06_Within.cx k) ref06_Within.rs) n ⟨[(2, .ref 2 []), (3, .ref 3 []), (6, .dat (.int .i64) x6)], [(2, .dat tDots m2), (3, .dat tDots m3)]⟩
noncomputable def ref06_Within.l11 (k : Nat) (n7 : Nat) (n : Nat) (x6 : Ty.D (.int .i64)) (x7 : Ty.D (.int .i64)) (x8 : Ty.D (.int .i64)) (m2 : Ty.D tDots) (m3 : Ty.D tDots) : Option (Sg.Out ref06_Within.sg) := loopAt (ref06_Within.cx k) ref06_Within.body [1, 1, 0, 1, 0, 0, 1, 0, 0, 1, 0, 1, 0] 11 [2, 3, 6, 7, 8] [2, 3] [n7] (Sg.K ref06_Within.sg (ref06_Within.cx k) ref06_Within.rs) n ⟨[(2, .ref 2 []), (3, .ref 3 []), (6, .dat (.int .i64) x6), (7, .dat (.int .i64) x7), (8, .dat (.int .i64) x8)], [(2, .dat tDots m2), (3, .dat tDots m3)]⟩
set_option maxRecDepth 100000 in
theorem ref06_Within.f_eq (k : Nat) (a0 : Ty.D tDots) (a1 : Ty.D tDots) : ref06_Within.f k a0 a1 =
  ref06_Within.l2 k k 0 a0 a1 := by kernel_rfl
set_option maxRecDepth 100000 in
theorem ref06_Within.l2_eq (k : Nat) (n2 : Nat) (x5 : Ty.D (.int .i64)) (m2 : Ty.D tDots) (m3 : Ty.D tDots) : ref06_Within.l2 k (n2 + 1) x5 m2 m3 =
  br (ilt x5 (ilen m2.2))
    (br (inL x5 m2.2)
      (bnd (ref06_Has.f k m3 (rd tDot m2.2 (natOf x5))) fun r0 =>
      br (bnot r0)
        (some false)
        (ref06_Within.l2 k n2 (iadd .i64 x5 1) m2 m3))
      (none))
    (ref06_Within.l7 k k 0 m2 m3) := by kernel_rfl
set_option maxRecDepth 100000 in
theorem ref06_Within.l7_eq (k : Nat) (n7 : Nat) (x6 : Ty.D (.int .i64)) (m2 : Ty.D tDots) (m3 : Ty.D tDots) : ref06_Within.l7 k (n7 + 1) x6 m2 m3 =
  br (ilt x6 16)
    (br (inB x6 16)
      (ref06_Within.l11 k n7 k x6 (rd (.int .i64) m3.1 (natOf x6)) 0 m2 m3)
      (none))
    (some true) := by kernel_rfl
set_option maxRecDepth 100000 in
theorem ref06_Within.l11_eq (k : Nat) (n7 : Nat) (n11 : Nat) (x6 : Ty.D (.int .i64)) (x7 : Ty.D (.int .i64)) (x8 : Ty.D (.int .i64)) (m2 : Ty.D tDots) (m3 : Ty.D tDots) : ref06_Within.l11 k n7 (n11 + 1) x6 x7 x8 m2 m3 =
  br (ilt x8 (ilen m3.2))
    (br (inL x8 m3.2)
      (br (ieq ((rd tDot m3.2 (natOf x8)).1) x6)
        (br (inL x8 m3.2)
          (br (ieq ((rd tDot m3.2 (natOf x8)).2) (iadd .i64 x7 1))
            (ref06_Within.l11 k n7 n11 x6 (iadd .i64 x7 1) (iadd .i64 x8 1) m2 m3)
            (ref06_Within.l11 k n7 n11 x6 x7 (iadd .i64 x8 1) m2 m3))
          (none))
        (ref06_Within.l11 k n7 n11 x6 x7 (iadd .i64 x8 1) m2 m3))
      (none))
    (br (inB x6 16)
      (br (ilt x7 (rd (.int .i64) m2.1 (natOf x6)))
        (some false)
        (ref06_Within.l7 k n7 (iadd .i64 x6 1) m2 m3))
      (none)) := by kernel_rfl
noncomputable def ref06_Within.e (k : Nat) : Entry := Sg.entry ref06_Within.sg fun x => ref06_Within.f k x.1 x.2
set_option maxRecDepth 100000 in
theorem ref06_Within.ok (k : Nat) : CallOK Tryz.prog 62 (ref06_Within.e k) :=
  fn_ok (c := ref06_Within.cx k) (code := ref06_Within.body) (TT.of tt_ok pp_ok) (fns_ok ⟨(ref06_Has.ok k), trivial⟩) mixed Tryz.func62 (by kernel_rfl) (by kernel_rfl) (by kernel_rfl) (by kernel_rfl) (by kernel_rfl) (by kernel_rfl) (fun x => by kernel_rfl)
noncomputable def ref24_Within.body : Go.Code := Tryz.f17.body.getD .skip
noncomputable def ref24_Within.rs : List Go.ResultVar := Tryz.f17.results.toList
def ref24_Within.regs : List (Nat × RInfo) := [(0, ⟨[2, 3], [2, 3], [0, 1], [], 0, [], [], [], []⟩),
  (1, ⟨[2, 3, 5], [2, 3], [], [], 0, [], [], [], []⟩),
  (2, ⟨[2, 3, 5, 10], [2, 3], [], [], 0, [2, 3, 5], [2, 3], [], []⟩),
  (4, ⟨[2, 3, 5, 28], [2, 3], [], [], 16, [], [], [], []⟩),
  (5, ⟨[4], [33, 39], [], [], 0, [], [], [], []⟩),
  (3, ⟨[2, 3, 5], [2, 3], [], [], 0, [], [], [], []⟩),
  (6, ⟨[4], [33, 39], [], [], 0, [], [], [], []⟩)]
noncomputable def ref24_Within.cx (k : Nat) : Cx := ⟨tt, pp, [(46, (ref08_Get.e k)),
  (62, (ref06_Within.e k))], ref24_Within.regs, k⟩
@[reducible] def ref24_Within.sg : Sg := ⟨[.dat tKnow, .dat tKnow], [], .dat .bool, []⟩
noncomputable def ref24_Within.f (k : Nat) (a0 : Ty.D tKnow) (a1 : Ty.D tKnow) : Option (Sg.Out ref24_Within.sg) := Sg.fn ref24_Within.sg (ref24_Within.cx k) ref24_Within.body ref24_Within.rs (a0, a1)
noncomputable def ref24_Within.l2 (k : Nat) (n : Nat) (x5 : Ty.D (.int .i64)) (m2 : Ty.D tKnow) (m3 : Ty.D tKnow) : Option (Sg.Out ref24_Within.sg) := loopAt (ref24_Within.cx k) ref24_Within.body [1, 0, 1, 0] 2 [2, 3, 5] [2, 3] [] (Sg.K ref24_Within.sg (ref24_Within.cx k) ref24_Within.rs) n ⟨[(2, .ref 2 []), (3, .ref 3 []), (5, .dat (.int .i64) x5)], [(2, .dat tKnow m2), (3, .dat tKnow m3)]⟩
set_option maxRecDepth 100000 in
theorem ref24_Within.f_eq (k : Nat) (a0 : Ty.D tKnow) (a1 : Ty.D tKnow) : ref24_Within.f k a0 a1 =
  ref24_Within.l2 k k 0 a0 a1 := by kernel_rfl
set_option maxRecDepth 100000 in
theorem ref24_Within.l2_eq (k : Nat) (n2 : Nat) (x5 : Ty.D (.int .i64)) (m2 : Ty.D tKnow) (m3 : Ty.D tKnow) : ref24_Within.l2 k (n2 + 1) x5 m2 m3 =
  br (ilt x5 (ilen m2.2.1))
    (br (inL x5 m2.2.1)
      (br (inL x5 m2.2.1)
        (bnd (ref08_Get.f k m3.2.1 ((rd tUndo m2.2.1 (natOf x5)).1)) fun r0 =>
        br (ilt r0 ((rd tUndo m2.2.1 (natOf x5)).2))
          (some false)
          (ref24_Within.l2 k n2 (iadd .i64 x5 1) m2 m3))
        (none))
      (none))
    (bnd (ref06_Within.f k m2.1 m3.1) fun r1 =>
    br r1
      (bnd (ref06_Within.f k m2.2.2 m3.2.2) fun r2 =>
      some r2)
      (some false)) := by kernel_rfl
noncomputable def ref24_Within.e (k : Nat) : Entry := Sg.entry ref24_Within.sg fun x => ref24_Within.f k x.1 x.2
set_option maxRecDepth 100000 in
theorem ref24_Within.ok (k : Nat) : CallOK Tryz.prog 17 (ref24_Within.e k) :=
  fn_ok (c := ref24_Within.cx k) (code := ref24_Within.body) (TT.of tt_ok pp_ok) (fns_ok ⟨(ref08_Get.ok k), (ref06_Within.ok k), trivial⟩) mixed Tryz.func17 (by kernel_rfl) (by kernel_rfl) (by kernel_rfl) (by kernel_rfl) (by kernel_rfl) (by kernel_rfl) (fun x => by kernel_rfl)
noncomputable def law29_PeerGrows.body : Go.Code := Tryz.f4.body.getD .skip
noncomputable def law29_PeerGrows.rs : List Go.ResultVar := Tryz.f4.results.toList
def law29_PeerGrows.regs : List (Nat × RInfo) := [(0, ⟨[0, 1, 2, 3], [], [], [], 0, [], [], [], []⟩),
  (1, ⟨[2, 3, 9, 10, 11], [17, 500017], [], [], 0, [], [], [], []⟩),
  (2, ⟨[2, 3, 9, 10, 22], [17, 500017], [], [], 0, [], [], [], []⟩),
  (3, ⟨[8], [39, 66, 72, 75], [], [], 0, [], [], [], []⟩),
  (4, ⟨[2, 3, 9, 10, 12], [17, 500017], [], [], 0, [], [], [], []⟩),
  (5, ⟨[2, 3, 9, 10, 12, 30], [17, 500017], [], [], 0, [2, 3, 9, 10, 12], [17, 500017], [], []⟩),
  (7, ⟨[2, 3, 9, 10, 12, 38], [17, 500017], [], [], 0, [], [], [], []⟩),
  (8, ⟨[8], [39, 66, 72, 75], [], [], 0, [], [], [], []⟩),
  (9, ⟨[2, 3, 9, 10, 12, 13], [13, 17, 500017], [4], [], 0, [], [], [], []⟩),
  (10, ⟨[2, 3, 9, 10, 12, 13], [13, 17, 500017], [], [], 0, [], [], [], []⟩),
  (11, ⟨[2, 3, 9, 10, 12, 63], [17, 500017], [], [], 14, [], [], [], [[], [], [], [], [], [4], [4], [4], [4], [4], [4], [7, 4, 10], [7, 4, 10], [4, 7, 10]]⟩),
  (12, ⟨[8], [39, 66, 72, 75], [], [], 0, [], [], [], []⟩),
  (6, ⟨[2, 3, 9, 10, 12], [17, 500017], [], [], 0, [], [], [], []⟩),
  (13, ⟨[8], [39, 66, 72, 75], [], [], 0, [], [], [], []⟩)]
noncomputable def law29_PeerGrows.cx (k : Nat) : Cx := ⟨tt, pp, [(12, (law29_begun.e k)),
  (13, (law29_short.e k)),
  (14, (law29_awake.e k)),
  (16, (peer_Peers_Of.e k)),
  (15, (law29_does.e k)),
  (17, (ref24_Within.e k)),
  (18, (ref29_Peers_Other.e k)),
  (19, (ref24_Same.e k))], law29_PeerGrows.regs, k⟩
@[reducible] def law29_PeerGrows.sg : Sg := ⟨[.dat (.int .u8), .dat (.int .u8), .dat (.slc tDeed), .dat (.int .i64)], [], .dat .bool, []⟩
noncomputable def law29_PeerGrows.f (k : Nat) (a0 : Ty.D (.int .u8)) (a1 : Ty.D (.int .u8)) (a2 : Ty.D (.slc tDeed)) (a3 : Ty.D (.int .i64)) : Option (Sg.Out law29_PeerGrows.sg) := Sg.fn law29_PeerGrows.sg (law29_PeerGrows.cx k) law29_PeerGrows.body law29_PeerGrows.rs (a0, a1, a2, a3)
noncomputable def law29_PeerGrows.l5 (k : Nat) (n : Nat) (x2 : Ty.D (.slc tDeed)) (x3 : Ty.D (.int .i64)) (x12 : Ty.D (.int .i64)) (m17 : Ty.D tPeers) (m500017 : Ty.D tPeers) : Option (Sg.Out law29_PeerGrows.sg) := loopAt (law29_PeerGrows.cx k) law29_PeerGrows.body [1, 1, 1, 0, 1, 0] 5 [2, 3, 9, 10, 12] [17, 500017] [] (Sg.K law29_PeerGrows.sg (law29_PeerGrows.cx k) law29_PeerGrows.rs) n ⟨[(2, .dat (.slc tDeed) x2), (3, .dat (.int .i64) x3), (9, .ref 17 []), (10, .ref 500017 []), (12, .dat (.int .i64) x12)], [(17, .dat tPeers m17), (500017, .dat tPeers m500017)]⟩
set_option maxRecDepth 100000 in
theorem law29_PeerGrows.f_eq (k : Nat) (a0 : Ty.D (.int .u8)) (a1 : Ty.D (.int .u8)) (a2 : Ty.D (.slc tDeed)) (a3 : Ty.D (.int .i64)) : law29_PeerGrows.f k a0 a1 a2 a3 =
  bnd (law29_begun.f k a0 a1) fun r0 =>
  br (bnot r0.1)
    (some false)
    (law29_PeerGrows.l5 k k a2 a3 0 r0.2.1 r0.2.2) := by kernel_rfl
set_option maxRecDepth 100000 in
theorem law29_PeerGrows.l5_eq (k : Nat) (n5 : Nat) (x2 : Ty.D (.slc tDeed)) (x3 : Ty.D (.int .i64)) (x12 : Ty.D (.int .i64)) (m17 : Ty.D tPeers) (m500017 : Ty.D tPeers) : law29_PeerGrows.l5 k (n5 + 1) x2 x3 x12 m17 m500017 =
  br (ilt x12 (ilen x2))
    (br (ilt x12 20)
      (br (inL x12 x2)
        (bnd (law29_short.f k (rd tDeed x2 (natOf x12))) fun r0 =>
        br (bnot r0)
          (bnd (law29_awake.f k) fun r1 =>
          some r1)
          (bnd (peer_Peers_Of.f k x3 m17) fun r2 =>
          br (inL x12 x2)
            (bnd (law29_does.f k (rd tDeed x2 (natOf x12)) r2.2 m500017) fun r3 =>
            br (inL x12 x2)
              (br (bnot (ieq ((rd tDeed x2 (natOf x12)).1) 3))
                (bnd (peer_Peers_Of.f k x3 r3.2.1) fun r4 =>
                bnd (ref24_Within.f k r2.1 r4.1) fun r5 =>
                br (bnot r5)
                  (some false)
                  (law29_PeerGrows.l5 k n5 x2 x3 (iadd .i64 x12 1) r4.2 r3.2.2))
                (law29_PeerGrows.l5 k n5 x2 x3 (iadd .i64 x12 1) r3.2.1 r3.2.2))
              (none))
            (none)))
        (none))
      (bnd (ref29_Peers_Other.f k x3 m500017) fun r6 =>
      br r6.1
        (bnd (law29_awake.f k) fun r7 =>
        some r7)
        (bnd (peer_Peers_Of.f k x3 m17) fun r8 =>
        bnd (ref24_Same.f k r8.1 (((zarr 16 0), []), ([], ((zarr 16 0), [])))) fun r9 =>
        br r9
          (bnd (law29_awake.f k) fun r10 =>
          some r10)
          (some false))))
    (bnd (ref29_Peers_Other.f k x3 m500017) fun r11 =>
    br r11.1
      (bnd (law29_awake.f k) fun r12 =>
      some r12)
      (bnd (peer_Peers_Of.f k x3 m17) fun r13 =>
      bnd (ref24_Same.f k r13.1 (((zarr 16 0), []), ([], ((zarr 16 0), [])))) fun r14 =>
      br r14
        (bnd (law29_awake.f k) fun r15 =>
        some r15)
        (some false))) := by kernel_rfl
noncomputable def law29_PeerGrows.e (k : Nat) : Entry := Sg.entry law29_PeerGrows.sg fun x => law29_PeerGrows.f k x.1 x.2.1 x.2.2.1 x.2.2.2
set_option maxRecDepth 100000 in
theorem law29_PeerGrows.ok (k : Nat) : CallOK Tryz.prog 4 (law29_PeerGrows.e k) :=
  fn_ok (c := law29_PeerGrows.cx k) (code := law29_PeerGrows.body) (TT.of tt_ok pp_ok) (fns_ok ⟨(law29_begun.ok k), (law29_short.ok k), (law29_awake.ok k), (peer_Peers_Of.ok k), (law29_does.ok k), (ref24_Within.ok k), (ref29_Peers_Other.ok k), (ref24_Same.ok k), trivial⟩) mixed Tryz.func4 (by kernel_rfl) (by kernel_rfl) (by kernel_rfl) (by kernel_rfl) (by kernel_rfl) (by kernel_rfl) (fun x => by kernel_rfl)
noncomputable def ref24_Good.body : Go.Code := Tryz.f20.body.getD .skip
noncomputable def ref24_Good.rs : List Go.ResultVar := Tryz.f20.results.toList
def ref24_Good.regs : List (Nat × RInfo) := [(0, ⟨[1], [1], [0], [], 0, [], [], [], []⟩),
  (1, ⟨[2], [4, 7], [], [], 0, [], [], [], []⟩)]
noncomputable def ref24_Good.cx (k : Nat) : Cx := ⟨tt, pp, [(54, (ref24_Short.e k)),
  (65, (ref24_Right.e k))], ref24_Good.regs, k⟩
@[reducible] def ref24_Good.sg : Sg := ⟨[.dat tKnow], [], .dat .bool, []⟩
noncomputable def ref24_Good.f (k : Nat) (a0 : Ty.D tKnow) : Option (Sg.Out ref24_Good.sg) := Sg.fn ref24_Good.sg (ref24_Good.cx k) ref24_Good.body ref24_Good.rs a0
set_option maxRecDepth 100000 in
theorem ref24_Good.f_eq (k : Nat) (a0 : Ty.D tKnow) : ref24_Good.f k a0 =
  bnd (ref24_Short.f k a0) fun r0 =>
  br r0
    (bnd (ref24_Right.f k a0) fun r1 =>
    some r1)
    (some false) := by kernel_rfl
noncomputable def ref24_Good.e (k : Nat) : Entry := Sg.entry ref24_Good.sg fun x => ref24_Good.f k x
set_option maxRecDepth 100000 in
theorem ref24_Good.ok (k : Nat) : CallOK Tryz.prog 20 (ref24_Good.e k) :=
  fn_ok (c := ref24_Good.cx k) (code := ref24_Good.body) (TT.of tt_ok pp_ok) (fns_ok ⟨(ref24_Short.ok k), (ref24_Right.ok k), trivial⟩) mixed Tryz.func20 (by kernel_rfl) (by kernel_rfl) (by kernel_rfl) (by kernel_rfl) (by kernel_rfl) (by kernel_rfl) (fun x => by kernel_rfl)
noncomputable def matrix_replica.body : Go.Code := Tryz.f67.body.getD .skip
noncomputable def matrix_replica.rs : List Go.ResultVar := Tryz.f67.results.toList
def matrix_replica.regs : List (Nat × RInfo) := [(0, ⟨[0], [], [], [], 0, [], [], [], []⟩),
  (1, ⟨[2], [], [], [], 0, [], [], [], []⟩)]
noncomputable def matrix_replica.cx (k : Nat) : Cx := ⟨tt, pp, [], matrix_replica.regs, k⟩
@[reducible] def matrix_replica.sg : Sg := ⟨[.dat (.int .i64)], [], .dat .bool, []⟩
noncomputable def matrix_replica.f (k : Nat) (a0 : Ty.D (.int .i64)) : Option (Sg.Out matrix_replica.sg) := Sg.fn matrix_replica.sg (matrix_replica.cx k) matrix_replica.body matrix_replica.rs a0
set_option maxRecDepth 100000 in
theorem matrix_replica.f_eq (k : Nat) (a0 : Ty.D (.int .i64)) : matrix_replica.f k a0 =
  br (ile 0 a0)
    (some (ilt a0 16))
    (some false) := by kernel_rfl
noncomputable def matrix_replica.e (k : Nat) : Entry := Sg.entry matrix_replica.sg fun x => matrix_replica.f k x
set_option maxRecDepth 100000 in
theorem matrix_replica.ok (k : Nat) : CallOK Tryz.prog 67 (matrix_replica.e k) :=
  fn_ok (c := matrix_replica.cx k) (code := matrix_replica.body) (TT.of tt_ok pp_ok) (fns_ok trivial) mixed Tryz.func67 (by kernel_rfl) (by kernel_rfl) (by kernel_rfl) (by kernel_rfl) (by kernel_rfl) (by kernel_rfl) (fun x => by kernel_rfl)
noncomputable def matrix_Matrix_Learn.body : Go.Code := Tryz.f66.body.getD .skip
noncomputable def matrix_Matrix_Learn.rs : List Go.ResultVar := Tryz.f66.results.toList
def matrix_Matrix_Learn.regs : List (Nat × RInfo) := [(0, ⟨[1, 3, 5, 6], [3, 5, 6], [], [], 0, [], [], [], []⟩),
  (1, ⟨[1, 3, 5, 6, 8], [3, 5, 6, 8], [], [], 0, [], [], [], []⟩),
  (2, ⟨[3, 6], [3, 6], [], [], 6, [], [], [], [[], [], [], [], [], [3, 4], [3, 4], [3, 4]]⟩),
  (3, ⟨[6], [6], [], [], 0, [], [], [], []⟩)]
noncomputable def matrix_Matrix_Learn.cx (k : Nat) : Cx := ⟨tt, pp, [(67, (matrix_replica.e k)),
  (112, (vec_Join.e k))], matrix_Matrix_Learn.regs, k⟩
@[reducible] def matrix_Matrix_Learn.sg : Sg := ⟨[.dat tMatrix, .dat (.int .i64), .dat tVec], [], .dat tMatrix, []⟩
noncomputable def matrix_Matrix_Learn.f (k : Nat) (a0 : Ty.D tMatrix) (a1 : Ty.D (.int .i64)) (a2 : Ty.D tVec) : Option (Sg.Out matrix_Matrix_Learn.sg) := Sg.fn matrix_Matrix_Learn.sg (matrix_Matrix_Learn.cx k) matrix_Matrix_Learn.body matrix_Matrix_Learn.rs (a0, a1, a2)
set_option maxRecDepth 100000 in
theorem matrix_Matrix_Learn.f_eq (k : Nat) (a0 : Ty.D tMatrix) (a1 : Ty.D (.int .i64)) (a2 : Ty.D tVec) : matrix_Matrix_Learn.f k a0 a1 a2 =
  bnd (matrix_replica.f k a1) fun r0 =>
  br r0
    (br (inB a1 16)
      (bnd (vec_Join.f k (rd tVec a0 (natOf a1)) a2) fun r1 =>
      br (inB a1 16)
        (some (upd a0 (natOf a1) r1))
        (none))
      (none))
    (some a0) := by kernel_rfl
noncomputable def matrix_Matrix_Learn.e (k : Nat) : Entry := Sg.entry matrix_Matrix_Learn.sg fun x => matrix_Matrix_Learn.f k x.1 x.2.1 x.2.2
set_option maxRecDepth 100000 in
theorem matrix_Matrix_Learn.ok (k : Nat) : CallOK Tryz.prog 66 (matrix_Matrix_Learn.e k) :=
  fn_ok (c := matrix_Matrix_Learn.cx k) (code := matrix_Matrix_Learn.body) (TT.of tt_ok pp_ok) (fns_ok ⟨(matrix_replica.ok k), (vec_Join.ok k), trivial⟩) mixed Tryz.func66 (by kernel_rfl) (by kernel_rfl) (by kernel_rfl) (by kernel_rfl) (by kernel_rfl) (by kernel_rfl) (fun x => by kernel_rfl)
noncomputable def peer_Peers_Matrix.body : Go.Code := Tryz.f21.body.getD .skip
noncomputable def peer_Peers_Matrix.rs : List Go.ResultVar := Tryz.f21.results.toList
def peer_Peers_Matrix.regs : List (Nat × RInfo) := [(0, ⟨[0, 3, 4], [3, 4, 1000000], [0], [], 0, [], [], [], []⟩),
  (1, ⟨[0, 3, 4, 5], [3, 4, 5, 1000000], [], [], 0, [], [], [], []⟩),
  (2, ⟨[0, 3, 4, 5, 10], [3, 4, 5, 1000000], [], [], 0, [], [], [], []⟩),
  (3, ⟨[4], [4, 1000000], [], [], 0, [], [], [], []⟩),
  (4, ⟨[0, 3, 4, 5, 6], [3, 4, 5, 1000000], [], [], 0, [], [], [], []⟩),
  (5, ⟨[0, 3, 4, 5, 6, 15, 16], [3, 4, 5, 1000000], [], [], 0, [], [], [], []⟩),
  (6, ⟨[0, 3, 4, 5, 6, 15, 16, 17], [3, 4, 5, 1000000], [], [], 0, [0, 3, 4, 5, 6, 15, 16], [3, 4, 5, 1000000], [], []⟩),
  (7, ⟨[0, 3, 4, 5, 6, 7, 15, 16], [3, 4, 5, 1000000], [], [], 0, [], [], [], []⟩),
  (8, ⟨[0, 3, 4, 5, 6, 7, 8, 15, 16], [3, 4, 5, 8, 1000000], [7], [], 0, [], [], [], []⟩),
  (9, ⟨[0, 3, 4, 5, 6, 7, 8, 15, 16, 30], [3, 4, 5, 8, 1000000], [], [], 0, [], [], [], []⟩),
  (10, ⟨[0, 3, 4, 5, 6, 7, 8, 15, 16], [3, 4, 5, 8, 1000000], [1], [], 0, [], [], [], []⟩),
  (11, ⟨[0, 3, 4, 5, 6, 15, 16], [3, 4, 5, 1000000], [], [], 0, [], [], [], []⟩),
  (12, ⟨[0, 3, 4, 5, 6, 15, 16], [3, 4, 5, 1000000], [], [], 0, [], [], [], []⟩),
  (13, ⟨[4], [4, 1000000], [], [], 0, [], [], [], []⟩)]
noncomputable def peer_Peers_Matrix.cx (k : Nat) : Cx := ⟨tt, pp, [(66, (matrix_Matrix_Learn.e k))], peer_Peers_Matrix.regs, k⟩
@[reducible] def peer_Peers_Matrix.sg : Sg := ⟨[.ref, .dat tKnow], [tPeers], .dat tMatrix, [tPeers]⟩
noncomputable def peer_Peers_Matrix.f (k : Nat) (a1 : Ty.D tKnow) (o0 : Ty.D tPeers) : Option (Sg.Out peer_Peers_Matrix.sg) := Sg.fn peer_Peers_Matrix.sg (peer_Peers_Matrix.cx k) peer_Peers_Matrix.body peer_Peers_Matrix.rs (a1, o0)
noncomputable def peer_Peers_Matrix.l6 (k : Nat) (n : Nat) (x15 : Ty.D (.int .i64)) (x16 : Ty.D (.int .i64)) (m3 : Ty.D tKnow) (m4 : Ty.D tMatrix) (m5 : Ty.D tMatrix) (m1000000 : Ty.D tPeers) : Option (Sg.Out peer_Peers_Matrix.sg) := loopAt (peer_Peers_Matrix.cx k) peer_Peers_Matrix.body [1, 1, 1, 1, 0, 1, 0] 6 [0, 3, 4, 5, 6, 15, 16] [3, 4, 5, 1000000] [] (Sg.K peer_Peers_Matrix.sg (peer_Peers_Matrix.cx k) peer_Peers_Matrix.rs) n ⟨[(0, .ref 1000000 []), (3, .ref 3 []), (4, .ref 4 []), (5, .ref 5 []), (6, .fn 66 []), (15, .dat (.int .i64) x15), (16, .dat (.int .i64) x16)], [(3, .dat tKnow m3), (4, .dat tMatrix m4), (5, .dat tMatrix m5), (1000000, .dat tPeers m1000000)]⟩
set_option maxRecDepth 100000 in
theorem peer_Peers_Matrix.f_eq (k : Nat) (a1 : Ty.D tKnow) (o0 : Ty.D tPeers) : peer_Peers_Matrix.f k a1 o0 =
  peer_Peers_Matrix.l6 k k o0.2.1 0 a1 (zarr 16 (zarr 16 0)) (zarr 16 (zarr 16 0)) o0 := by kernel_rfl
set_option maxRecDepth 100000 in
theorem peer_Peers_Matrix.l6_eq (k : Nat) (n6 : Nat) (x15 : Ty.D (.int .i64)) (x16 : Ty.D (.int .i64)) (m3 : Ty.D tKnow) (m4 : Ty.D tMatrix) (m5 : Ty.D tMatrix) (m1000000 : Ty.D tPeers) : peer_Peers_Matrix.l6 k (n6 + 1) x15 x16 m3 m4 m5 m1000000 =
  br (ilt x16 x15)
    (br (inB x16 16)
      (br (ieq x16 m1000000.1)
        (bnd (matrix_Matrix_Learn.f k m5 x16 m3.1.1) fun r0 =>
        peer_Peers_Matrix.l6 k n6 x15 (iadd .i64 x16 1) m3 m4 r0 m1000000)
        (bnd (matrix_Matrix_Learn.f k m5 x16 (((rd tKnow m1000000.2.2 (natOf x16)).1).1)) fun r1 =>
        peer_Peers_Matrix.l6 k n6 x15 (iadd .i64 x16 1) m3 m4 r1 m1000000))
      (none))
    (some (m5, m1000000)) := by kernel_rfl
noncomputable def peer_Peers_Matrix.e (k : Nat) : Entry := Sg.entry peer_Peers_Matrix.sg fun x => peer_Peers_Matrix.f k x.1 x.2
set_option maxRecDepth 100000 in
theorem peer_Peers_Matrix.ok (k : Nat) : CallOK Tryz.prog 21 (peer_Peers_Matrix.e k) :=
  fn_ok (c := peer_Peers_Matrix.cx k) (code := peer_Peers_Matrix.body) (TT.of tt_ok pp_ok) (fns_ok ⟨(matrix_Matrix_Learn.ok k), trivial⟩) mixed Tryz.func21 (by kernel_rfl) (by kernel_rfl) (by kernel_rfl) (by kernel_rfl) (by kernel_rfl) (by kernel_rfl) (fun x => by kernel_rfl)
noncomputable def matrix_Matrix_Row.body : Go.Code := Tryz.f22.body.getD .skip
noncomputable def matrix_Matrix_Row.rs : List Go.ResultVar := Tryz.f22.results.toList
def matrix_Matrix_Row.regs : List (Nat × RInfo) := [(0, ⟨[1, 2, 4], [2, 4], [], [], 0, [], [], [], []⟩),
  (1, ⟨[1, 2, 4, 7], [2, 4], [], [], 0, [], [], [], []⟩),
  (2, ⟨[4], [4], [], [], 0, [], [], [], []⟩),
  (3, ⟨[4], [4], [], [], 0, [], [], [], []⟩)]
noncomputable def matrix_Matrix_Row.cx (k : Nat) : Cx := ⟨tt, pp, [(67, (matrix_replica.e k))], matrix_Matrix_Row.regs, k⟩
@[reducible] def matrix_Matrix_Row.sg : Sg := ⟨[.dat tMatrix, .dat (.int .i64)], [], .dat tVec, []⟩
noncomputable def matrix_Matrix_Row.f (k : Nat) (a0 : Ty.D tMatrix) (a1 : Ty.D (.int .i64)) : Option (Sg.Out matrix_Matrix_Row.sg) := Sg.fn matrix_Matrix_Row.sg (matrix_Matrix_Row.cx k) matrix_Matrix_Row.body matrix_Matrix_Row.rs (a0, a1)
set_option maxRecDepth 100000 in
theorem matrix_Matrix_Row.f_eq (k : Nat) (a0 : Ty.D tMatrix) (a1 : Ty.D (.int .i64)) : matrix_Matrix_Row.f k a0 a1 =
  bnd (matrix_replica.f k a1) fun r0 =>
  br (bnot r0)
    (some (zarr 16 0))
    (br (inB a1 16)
      (some (rd tVec a0 (natOf a1)))
      (none)) := by kernel_rfl
noncomputable def matrix_Matrix_Row.e (k : Nat) : Entry := Sg.entry matrix_Matrix_Row.sg fun x => matrix_Matrix_Row.f k x.1 x.2
set_option maxRecDepth 100000 in
theorem matrix_Matrix_Row.ok (k : Nat) : CallOK Tryz.prog 22 (matrix_Matrix_Row.e k) :=
  fn_ok (c := matrix_Matrix_Row.cx k) (code := matrix_Matrix_Row.body) (TT.of tt_ok pp_ok) (fns_ok ⟨(matrix_replica.ok k), trivial⟩) mixed Tryz.func22 (by kernel_rfl) (by kernel_rfl) (by kernel_rfl) (by kernel_rfl) (by kernel_rfl) (by kernel_rfl) (fun x => by kernel_rfl)
noncomputable def vec_Meet_1.body : Go.Code := Tryz.f151.body.getD .skip
noncomputable def vec_Meet_1.rs : List Go.ResultVar := Tryz.f151.results.toList
def vec_Meet_1.regs : List (Nat × RInfo) := [(0, ⟨[0, 1], [], [], [], 0, [], [], [], []⟩),
  (1, ⟨[4], [], [], [], 0, [], [], [], []⟩)]
noncomputable def vec_Meet_1.cx (k : Nat) : Cx := ⟨tt, pp, [], vec_Meet_1.regs, k⟩
@[reducible] def vec_Meet_1.sg : Sg := ⟨[.dat (.int .i64), .dat (.int .i64)], [], .dat (.int .i64), []⟩
noncomputable def vec_Meet_1.f (k : Nat) (a0 : Ty.D (.int .i64)) (a1 : Ty.D (.int .i64)) : Option (Sg.Out vec_Meet_1.sg) := Sg.fn vec_Meet_1.sg (vec_Meet_1.cx k) vec_Meet_1.body vec_Meet_1.rs (a0, a1)
set_option maxRecDepth 100000 in
theorem vec_Meet_1.f_eq (k : Nat) (a0 : Ty.D (.int .i64)) (a1 : Ty.D (.int .i64)) : vec_Meet_1.f k a0 a1 =
  some (imin a0 a1) := by kernel_rfl
noncomputable def vec_Meet_1.e (k : Nat) : Entry := Sg.entry vec_Meet_1.sg fun x => vec_Meet_1.f k x.1 x.2
set_option maxRecDepth 100000 in
theorem vec_Meet_1.ok (k : Nat) : CallOK Tryz.prog 151 (vec_Meet_1.e k) :=
  fn_ok (c := vec_Meet_1.cx k) (code := vec_Meet_1.body) (TT.of tt_ok pp_ok) (fns_ok trivial) mixed Tryz.func151 (by kernel_rfl) (by kernel_rfl) (by kernel_rfl) (by kernel_rfl) (by kernel_rfl) (by kernel_rfl) (fun x => by kernel_rfl)
noncomputable def vec_both_vec_Meet_1.body : Go.Code := Tryz.f149.body.getD .skip
noncomputable def vec_both_vec_Meet_1.rs : List Go.ResultVar := Tryz.f149.results.toList
def vec_both_vec_Meet_1.regs : List (Nat × RInfo) := [(0, ⟨[2, 3, 4, 6], [3, 4, 6], [], [], 0, [], [], [], []⟩),
  (1, ⟨[2, 3, 4, 6, 8], [3, 4, 6], [], [], 0, [], [], [], []⟩),
  (2, ⟨[2, 3, 4, 6, 8, 9], [3, 4, 6], [], [], 0, [2, 3, 4, 6, 8], [3, 4, 6], [], []⟩),
  (3, ⟨[2, 3, 4, 6, 7, 8], [3, 4, 6], [], [], 0, [], [], [], []⟩),
  (4, ⟨[2, 3, 4, 6, 8], [3, 4, 6], [], [], 9, [], [], [], [[], [], [], [], [], [], [], [], [4, 7], [4, 7, 8], [4, 7, 8]]⟩),
  (5, ⟨[2, 3, 4, 6, 8], [3, 4, 6], [], [], 0, [], [], [], []⟩),
  (6, ⟨[6], [6], [], [], 0, [], [], [], []⟩)]
noncomputable def vec_both_vec_Meet_1.cx (k : Nat) : Cx := ⟨tt, pp, [(151, (vec_Meet_1.e k))], vec_both_vec_Meet_1.regs, k⟩
@[reducible] def vec_both_vec_Meet_1.sg : Sg := ⟨[.dat tVec, .dat tVec, .fn 151 0], [], .dat tVec, []⟩
noncomputable def vec_both_vec_Meet_1.f (k : Nat) (a0 : Ty.D tVec) (a1 : Ty.D tVec) : Option (Sg.Out vec_both_vec_Meet_1.sg) := Sg.fn vec_both_vec_Meet_1.sg (vec_both_vec_Meet_1.cx k) vec_both_vec_Meet_1.body vec_both_vec_Meet_1.rs (a0, a1)
noncomputable def vec_both_vec_Meet_1.l2 (k : Nat) (n : Nat) (x8 : Ty.D (.int .i64)) (m3 : Ty.D tVec) (m4 : Ty.D tVec) (m6 : Ty.D tVec) : Option (Sg.Out vec_both_vec_Meet_1.sg) := loopAt (vec_both_vec_Meet_1.cx k) vec_both_vec_Meet_1.body [1, 0, 1, 0] 2 [2, 3, 4, 6, 8] [3, 4, 6] [] (Sg.K vec_both_vec_Meet_1.sg (vec_both_vec_Meet_1.cx k) vec_both_vec_Meet_1.rs) n ⟨[(2, .fn 151 []), (3, .ref 3 []), (4, .ref 4 []), (6, .ref 6 []), (8, .dat (.int .i64) x8)], [(3, .dat tVec m3), (4, .dat tVec m4), (6, .dat tVec m6)]⟩
set_option maxRecDepth 100000 in
theorem vec_both_vec_Meet_1.f_eq (k : Nat) (a0 : Ty.D tVec) (a1 : Ty.D tVec) : vec_both_vec_Meet_1.f k a0 a1 =
  vec_both_vec_Meet_1.l2 k k 0 a0 a1 (zarr 16 0) := by kernel_rfl
set_option maxRecDepth 100000 in
theorem vec_both_vec_Meet_1.l2_eq (k : Nat) (n2 : Nat) (x8 : Ty.D (.int .i64)) (m3 : Ty.D tVec) (m4 : Ty.D tVec) (m6 : Ty.D tVec) : vec_both_vec_Meet_1.l2 k (n2 + 1) x8 m3 m4 m6 =
  br (ilt x8 16)
    (br (inB x8 16)
      (br (inB x8 16)
        (bnd (vec_Meet_1.f k (rd (.int .i64) m3 (natOf x8)) (rd (.int .i64) m4 (natOf x8))) fun r0 =>
        br (inB x8 16)
          (vec_both_vec_Meet_1.l2 k n2 (iadd .i64 x8 1) (upd m3 (natOf x8) r0) m4 m6)
          (none))
        (none))
      (none))
    (some m3) := by kernel_rfl
noncomputable def vec_both_vec_Meet_1.e (k : Nat) : Entry := Sg.entry vec_both_vec_Meet_1.sg fun x => vec_both_vec_Meet_1.f k x.1 x.2
set_option maxRecDepth 100000 in
theorem vec_both_vec_Meet_1.ok (k : Nat) : CallOK Tryz.prog 149 (vec_both_vec_Meet_1.e k) :=
  fn_ok (c := vec_both_vec_Meet_1.cx k) (code := vec_both_vec_Meet_1.body) (TT.of tt_ok pp_ok) (fns_ok ⟨(vec_Meet_1.ok k), trivial⟩) mixed Tryz.func149 (by kernel_rfl) (by kernel_rfl) (by kernel_rfl) (by kernel_rfl) (by kernel_rfl) (by kernel_rfl) (fun x => by kernel_rfl)
noncomputable def vec_Meet.body : Go.Code := Tryz.f114.body.getD .skip
noncomputable def vec_Meet.rs : List Go.ResultVar := Tryz.f114.results.toList
def vec_Meet.regs : List (Nat × RInfo) := [(0, ⟨[2, 3, 4], [2, 3, 4], [], [], 0, [], [], [], []⟩),
  (1, ⟨[4], [4], [], [], 0, [], [], [], []⟩)]
noncomputable def vec_Meet.cx (k : Nat) : Cx := ⟨tt, pp, [(149, (Entry.alt vec_both_vec_Join_1.sg (vec_both_vec_Join_1.e k) (vec_both_vec_Meet_1.e k))),
  (151, (vec_Meet_1.e k))], vec_Meet.regs, k⟩
@[reducible] def vec_Meet.sg : Sg := ⟨[.dat tVec, .dat tVec], [], .dat tVec, []⟩
noncomputable def vec_Meet.f (k : Nat) (a0 : Ty.D tVec) (a1 : Ty.D tVec) : Option (Sg.Out vec_Meet.sg) := Sg.fn vec_Meet.sg (vec_Meet.cx k) vec_Meet.body vec_Meet.rs (a0, a1)
set_option maxRecDepth 100000 in
theorem vec_Meet.f_eq (k : Nat) (a0 : Ty.D tVec) (a1 : Ty.D tVec) : vec_Meet.f k a0 a1 =
  bnd (vec_both_vec_Meet_1.f k a0 a1) fun r0 =>
  some r0 := by kernel_rfl
noncomputable def vec_Meet.e (k : Nat) : Entry := Sg.entry vec_Meet.sg fun x => vec_Meet.f k x.1 x.2
set_option maxRecDepth 100000 in
theorem vec_Meet.ok (k : Nat) : CallOK Tryz.prog 114 (vec_Meet.e k) :=
  fn_ok (c := vec_Meet.cx k) (code := vec_Meet.body) (TT.of tt_ok pp_ok) (fns_ok ⟨(alt_ok (vec_both_vec_Join_1.ok k) (vec_both_vec_Meet_1.ok k)), (vec_Meet_1.ok k), trivial⟩) mixed Tryz.func114 (by kernel_rfl) (by kernel_rfl) (by kernel_rfl) (by kernel_rfl) (by kernel_rfl) (by kernel_rfl) (fun x => by kernel_rfl)
noncomputable def matrix_Matrix_Frontier.body : Go.Code := Tryz.f70.body.getD .skip
noncomputable def matrix_Matrix_Frontier.rs : List Go.ResultVar := Tryz.f70.results.toList
def matrix_Matrix_Frontier.regs : List (Nat × RInfo) := [(0, ⟨[1, 2, 4], [2, 4], [], [], 0, [], [], [], []⟩),
  (1, ⟨[1, 2, 4, 13], [2, 4], [], [], 0, [], [], [], []⟩),
  (2, ⟨[4], [4], [], [], 0, [], [], [], []⟩),
  (3, ⟨[1, 2, 4, 5], [2, 4, 5], [], [], 0, [], [], [], []⟩),
  (4, ⟨[4, 5, 18, 19, 20], [2, 4, 5], [], [], 0, [], [], [], []⟩),
  (5, ⟨[4, 5, 18, 19, 20, 21], [2, 4, 5], [], [], 0, [4, 5, 18, 19, 20], [2, 4, 5], [], []⟩),
  (6, ⟨[4, 5, 7, 18, 19, 20], [2, 4, 5, 7], [], [], 0, [], [], [], []⟩),
  (7, ⟨[4, 5, 18, 19, 20], [2, 4, 5], [], [], 0, [], [], [], []⟩),
  (8, ⟨[4, 5, 18, 19, 20], [2, 4, 5], [], [], 0, [], [], [], []⟩),
  (9, ⟨[4], [4], [], [], 0, [], [], [], []⟩)]
noncomputable def matrix_Matrix_Frontier.cx (k : Nat) : Cx := ⟨tt, pp, [(114, (vec_Meet.e k))], matrix_Matrix_Frontier.regs, k⟩
@[reducible] def matrix_Matrix_Frontier.sg : Sg := ⟨[.dat tMatrix, .dat (.int .i64)], [], .dat tVec, []⟩
noncomputable def matrix_Matrix_Frontier.f (k : Nat) (a0 : Ty.D tMatrix) (a1 : Ty.D (.int .i64)) : Option (Sg.Out matrix_Matrix_Frontier.sg) := Sg.fn matrix_Matrix_Frontier.sg (matrix_Matrix_Frontier.cx k) matrix_Matrix_Frontier.body matrix_Matrix_Frontier.rs (a0, a1)
noncomputable def matrix_Matrix_Frontier.l5 (k : Nat) (n : Nat) (x18l : Int) (x18h : Int) (x19 : Ty.D (.int .i64)) (x20 : Ty.D (.int .i64)) (m2 : Ty.D tMatrix) (m4 : Ty.D tVec) (m5 : Ty.D tVec) : Option (Sg.Out matrix_Matrix_Frontier.sg) := loopAt (matrix_Matrix_Frontier.cx k) matrix_Matrix_Frontier.body [1, 1, 1, 0, 1, 0] 5 [4, 5, 18, 19, 20] [2, 4, 5] [] (Sg.K matrix_Matrix_Frontier.sg (matrix_Matrix_Frontier.cx k) matrix_Matrix_Frontier.rs) n ⟨[(4, .ref 4 []), (5, .ref 5 []), (18, .view 2 [] 16 tVec x18l x18h), (19, .dat (.int .i64) x19), (20, .dat (.int .i64) x20)], [(2, .dat tMatrix m2), (4, .dat tVec m4), (5, .dat tVec m5)]⟩
set_option maxRecDepth 100000 in
theorem matrix_Matrix_Frontier.f_eq (k : Nat) (a0 : Ty.D tMatrix) (a1 : Ty.D (.int .i64)) : matrix_Matrix_Frontier.f k a0 a1 =
  br (ilt a1 1)
    (some (zarr 16 0))
    (br (ilt 16 a1)
      (some (zarr 16 0))
      (br (inB 0 16)
        (br (inS 1 a1 16)
          (matrix_Matrix_Frontier.l5 k k 1 a1 (idif a1 1) 0 a0 (zarr 16 0) (rd tVec a0 (natOf 0)))
          (none))
        (none))) := by kernel_rfl
set_option maxRecDepth 100000 in
theorem matrix_Matrix_Frontier.l5_eq (k : Nat) (n5 : Nat) (x18l : Int) (x18h : Int) (x19 : Ty.D (.int .i64)) (x20 : Ty.D (.int .i64)) (m2 : Ty.D tMatrix) (m4 : Ty.D tVec) (m5 : Ty.D tVec) : matrix_Matrix_Frontier.l5 k (n5 + 1) x18l x18h x19 x20 m2 m4 m5 =
  br (ilt x20 x19)
    (br (inI x20 (idif x18h x18l))
      (bnd (vec_Meet.f k m5 (rd tVec m2 (natOf (isum x18l x20)))) fun r0 =>
      matrix_Matrix_Frontier.l5 k n5 x18l x18h x19 (iadd .i64 x20 1) m2 m4 r0)
      (none))
    (some m5) := by kernel_rfl
noncomputable def matrix_Matrix_Frontier.e (k : Nat) : Entry := Sg.entry matrix_Matrix_Frontier.sg fun x => matrix_Matrix_Frontier.f k x.1 x.2
set_option maxRecDepth 100000 in
theorem matrix_Matrix_Frontier.ok (k : Nat) : CallOK Tryz.prog 70 (matrix_Matrix_Frontier.e k) :=
  fn_ok (c := matrix_Matrix_Frontier.cx k) (code := matrix_Matrix_Frontier.body) (TT.of tt_ok pp_ok) (fns_ok ⟨(vec_Meet.ok k), trivial⟩) mixed Tryz.func70 (by kernel_rfl) (by kernel_rfl) (by kernel_rfl) (by kernel_rfl) (by kernel_rfl) (by kernel_rfl) (fun x => by kernel_rfl)
noncomputable def matrix_Matrix_Stable.body : Go.Code := Tryz.f24.body.getD .skip
noncomputable def matrix_Matrix_Stable.rs : List Go.ResultVar := Tryz.f24.results.toList
def matrix_Matrix_Stable.regs : List (Nat × RInfo) := [(0, ⟨[1, 3, 5], [3, 5], [], [], 0, [], [], [], []⟩),
  (1, ⟨[6], [11], [], [], 5, [], [], [], []⟩)]
noncomputable def matrix_Matrix_Stable.cx (k : Nat) : Cx := ⟨tt, pp, [(70, (matrix_Matrix_Frontier.e k)),
  (69, (vec_Has.e k))], matrix_Matrix_Stable.regs, k⟩
@[reducible] def matrix_Matrix_Stable.sg : Sg := ⟨[.dat tMatrix, .dat (.int .i64), .dat tDot], [], .dat .bool, []⟩
noncomputable def matrix_Matrix_Stable.f (k : Nat) (a0 : Ty.D tMatrix) (a1 : Ty.D (.int .i64)) (a2 : Ty.D tDot) : Option (Sg.Out matrix_Matrix_Stable.sg) := Sg.fn matrix_Matrix_Stable.sg (matrix_Matrix_Stable.cx k) matrix_Matrix_Stable.body matrix_Matrix_Stable.rs (a0, a1, a2)
set_option maxRecDepth 100000 in
theorem matrix_Matrix_Stable.f_eq (k : Nat) (a0 : Ty.D tMatrix) (a1 : Ty.D (.int .i64)) (a2 : Ty.D tDot) : matrix_Matrix_Stable.f k a0 a1 a2 =
  bnd (matrix_Matrix_Frontier.f k a0 a1) fun r0 =>
  bnd (vec_Has.f k r0 a2) fun r1 =>
  some r1 := by kernel_rfl
noncomputable def matrix_Matrix_Stable.e (k : Nat) : Entry := Sg.entry matrix_Matrix_Stable.sg fun x => matrix_Matrix_Stable.f k x.1 x.2.1 x.2.2
set_option maxRecDepth 100000 in
theorem matrix_Matrix_Stable.ok (k : Nat) : CallOK Tryz.prog 24 (matrix_Matrix_Stable.e k) :=
  fn_ok (c := matrix_Matrix_Stable.cx k) (code := matrix_Matrix_Stable.body) (TT.of tt_ok pp_ok) (fns_ok ⟨(matrix_Matrix_Frontier.ok k), (vec_Has.ok k), trivial⟩) mixed Tryz.func24 (by kernel_rfl) (by kernel_rfl) (by kernel_rfl) (by kernel_rfl) (by kernel_rfl) (by kernel_rfl) (fun x => by kernel_rfl)
noncomputable def law29_PeerMatrix.body : Go.Code := Tryz.f5.body.getD .skip
noncomputable def law29_PeerMatrix.rs : List Go.ResultVar := Tryz.f5.results.toList
def law29_PeerMatrix.regs : List (Nat × RInfo) := [(0, ⟨[0, 1, 2, 8, 9], [8, 9], [0], [], 0, [], [], [], []⟩),
  (1, ⟨[2, 8, 9, 11, 12, 13], [8, 9, 22, 500022], [], [], 0, [], [], [], []⟩),
  (2, ⟨[2, 8, 9, 11, 12, 27], [8, 9, 22, 500022], [], [], 0, [], [], [], []⟩),
  (3, ⟨[10], [31, 48, 106], [], [], 0, [], [], [], []⟩),
  (4, ⟨[2, 8, 9, 11, 12, 30], [8, 9, 22, 500022], [], [], 0, [], [], [], []⟩),
  (5, ⟨[10], [31, 48, 106], [], [], 0, [], [], [], []⟩),
  (6, ⟨[2, 8, 9, 11, 12, 14], [8, 9, 22, 500022], [], [], 0, [], [], [], []⟩),
  (7, ⟨[2, 8, 9, 11, 12, 14, 39], [8, 9, 22, 500022], [], [], 0, [2, 8, 9, 11, 12, 14], [8, 9, 22, 500022], [], []⟩),
  (9, ⟨[2, 8, 9, 11, 12, 14, 47], [8, 9, 22, 500022], [], [], 0, [], [], [], []⟩),
  (10, ⟨[10], [31, 48, 106], [], [], 0, [], [], [], []⟩),
  (11, ⟨[2, 8, 9, 11, 12, 14], [8, 9, 22, 500022], [], [], 0, [], [], [], []⟩),
  (8, ⟨[2, 8, 9, 11, 12, 14], [8, 9, 22, 500022], [], [], 0, [], [], [], []⟩),
  (12, ⟨[8, 9, 12, 15], [8, 9, 15, 22, 500022], [], [], 0, [], [], [], []⟩),
  (13, ⟨[8, 9, 12, 15, 16], [8, 9, 15, 22, 94, 500022], [], [], 0, [], [], [], []⟩),
  (14, ⟨[8, 9, 12, 15, 16, 17], [8, 9, 15, 22, 94, 500022], [], [], 0, [], [], [], []⟩),
  (15, ⟨[8, 9, 12, 15, 16, 17, 64], [8, 9, 15, 22, 94, 500022], [], [], 0, [8, 9, 12, 15, 16, 17], [8, 9, 15, 22, 94, 500022], [], []⟩),
  (17, ⟨[8, 9, 12, 15, 16, 17, 18], [8, 9, 15, 18, 22, 94, 500022], [7], [], 0, [], [], [], []⟩),
  (18, ⟨[8, 9, 12, 15, 16, 17, 18, 78], [8, 9, 15, 18, 22, 94, 500022], [], [], 0, [], [], [], []⟩),
  (19, ⟨[8, 9, 12, 15, 16, 17, 18], [8, 9, 15, 18, 22, 94, 500022], [1], [], 0, [], [], [], []⟩),
  (20, ⟨[8, 9, 12, 15, 16, 17, 18, 86], [8, 9, 15, 18, 22, 94, 500022], [], [], 7, [], [], [], []⟩),
  (21, ⟨[10], [31, 48, 106], [], [], 0, [], [], [], []⟩),
  (22, ⟨[8, 9, 12, 15, 16, 17], [8, 9, 15, 22, 94, 500022], [], [], 0, [], [], [], []⟩),
  (16, ⟨[8, 9, 12, 15, 16, 17], [8, 9, 15, 22, 94, 500022], [], [], 0, [], [], [], []⟩),
  (23, ⟨[10], [31, 48, 106], [], [], 12, [], [], [], []⟩)]
noncomputable def law29_PeerMatrix.cx (k : Nat) : Cx := ⟨tt, pp, [(12, (law29_begun.e k)),
  (20, (ref24_Good.e k)),
  (14, (law29_awake.e k)),
  (13, (law29_short.e k)),
  (15, (law29_does.e k)),
  (21, (peer_Peers_Matrix.e k)),
  (22, (matrix_Matrix_Row.e k)),
  (23, (ref06_Has.e k)),
  (24, (matrix_Matrix_Stable.e k))], law29_PeerMatrix.regs, k⟩
@[reducible] def law29_PeerMatrix.sg : Sg := ⟨[.dat (.int .u8), .dat (.int .u8), .dat (.slc tDeed), .dat tKnow, .dat tDot], [], .dat .bool, []⟩
noncomputable def law29_PeerMatrix.f (k : Nat) (a0 : Ty.D (.int .u8)) (a1 : Ty.D (.int .u8)) (a2 : Ty.D (.slc tDeed)) (a3 : Ty.D tKnow) (a4 : Ty.D tDot) : Option (Sg.Out law29_PeerMatrix.sg) := Sg.fn law29_PeerMatrix.sg (law29_PeerMatrix.cx k) law29_PeerMatrix.body law29_PeerMatrix.rs (a0, a1, a2, a3, a4)
noncomputable def law29_PeerMatrix.l7 (k : Nat) (n : Nat) (x2 : Ty.D (.slc tDeed)) (x14 : Ty.D (.int .i64)) (m8 : Ty.D tKnow) (m9 : Ty.D tDot) (m22 : Ty.D tPeers) (m500022 : Ty.D tPeers) : Option (Sg.Out law29_PeerMatrix.sg) := loopAt (law29_PeerMatrix.cx k) law29_PeerMatrix.body [1, 1, 1, 1, 0, 1, 0] 7 [2, 8, 9, 11, 12, 14] [8, 9, 22, 500022] [] (Sg.K law29_PeerMatrix.sg (law29_PeerMatrix.cx k) law29_PeerMatrix.rs) n ⟨[(2, .dat (.slc tDeed) x2), (8, .ref 8 []), (9, .ref 9 []), (11, .ref 22 []), (12, .ref 500022 []), (14, .dat (.int .i64) x14)], [(8, .dat tKnow m8), (9, .dat tDot m9), (22, .dat tPeers m22), (500022, .dat tPeers m500022)]⟩
noncomputable def law29_PeerMatrix.l15 (k : Nat) (n : Nat) (x16 : Ty.D .bool) (x17 : Ty.D (.int .i64)) (m8 : Ty.D tKnow) (m9 : Ty.D tDot) (m15 : Ty.D tMatrix) (m22 : Ty.D tPeers) (m500022 : Ty.D tPeers) : Option (Sg.Out law29_PeerMatrix.sg) := loopAt (law29_PeerMatrix.cx k) law29_PeerMatrix.body [1, 1, 1, 1, 1, 1, 1, 0, 1, 0] 15 [8, 9, 12, 15, 16, 17] [8, 9, 15, 22, 94, 500022] [] (Sg.K law29_PeerMatrix.sg (law29_PeerMatrix.cx k) law29_PeerMatrix.rs) n ⟨[(8, .ref 8 []), (9, .ref 9 []), (12, .ref 500022 []), (15, .ref 15 []), (16, .dat .bool x16), (17, .dat (.int .i64) x17)], [(8, .dat tKnow m8), (9, .dat tDot m9), (15, .dat tMatrix m15), (22, .dat tPeers m22), (500022, .dat tPeers m500022)]⟩
set_option maxRecDepth 100000 in
theorem law29_PeerMatrix.f_eq (k : Nat) (a0 : Ty.D (.int .u8)) (a1 : Ty.D (.int .u8)) (a2 : Ty.D (.slc tDeed)) (a3 : Ty.D tKnow) (a4 : Ty.D tDot) : law29_PeerMatrix.f k a0 a1 a2 a3 a4 =
  bnd (law29_begun.f k a0 a1) fun r0 =>
  br (bnot r0.1)
    (some false)
    (bnd (ref24_Good.f k a3) fun r1 =>
    br (bnot r1)
      (bnd (law29_awake.f k) fun r2 =>
      some r2)
      (law29_PeerMatrix.l7 k k a2 0 a3 a4 r0.2.1 r0.2.2)) := by kernel_rfl
set_option maxRecDepth 100000 in
theorem law29_PeerMatrix.l7_eq (k : Nat) (n7 : Nat) (x2 : Ty.D (.slc tDeed)) (x14 : Ty.D (.int .i64)) (m8 : Ty.D tKnow) (m9 : Ty.D tDot) (m22 : Ty.D tPeers) (m500022 : Ty.D tPeers) : law29_PeerMatrix.l7 k (n7 + 1) x2 x14 m8 m9 m22 m500022 =
  br (ilt x14 (ilen x2))
    (br (ilt x14 20)
      (br (inL x14 x2)
        (bnd (law29_short.f k (rd tDeed x2 (natOf x14))) fun r0 =>
        br (bnot r0)
          (bnd (law29_awake.f k) fun r1 =>
          some r1)
          (br (inL x14 x2)
            (bnd (law29_does.f k (rd tDeed x2 (natOf x14)) m22 m500022) fun r2 =>
            law29_PeerMatrix.l7 k n7 x2 (iadd .i64 x14 1) m8 m9 r2.2.1 r2.2.2)
            (none)))
        (none))
      (bnd (peer_Peers_Matrix.f k m8 m22) fun r3 =>
      law29_PeerMatrix.l15 k k true 0 m8 m9 r3.1 r3.2 m500022))
    (bnd (peer_Peers_Matrix.f k m8 m22) fun r4 =>
    law29_PeerMatrix.l15 k k true 0 m8 m9 r4.1 r4.2 m500022) := by kernel_rfl
set_option maxRecDepth 100000 in
theorem law29_PeerMatrix.l15_eq (k : Nat) (n15 : Nat) (x16 : Ty.D .bool) (x17 : Ty.D (.int .i64)) (m8 : Ty.D tKnow) (m9 : Ty.D tDot) (m15 : Ty.D tMatrix) (m22 : Ty.D tPeers) (m500022 : Ty.D tPeers) : law29_PeerMatrix.l15 k (n15 + 1) x16 x17 m8 m9 m15 m22 m500022 =
  br (ilt x17 m500022.2.1)
    (br (inB x17 16)
      (br (ieq x17 m500022.1)
        (bnd (matrix_Matrix_Row.f k m15 x17) fun r0 =>
        br (bnot (deq tVec r0 m8.1.1))
          (some false)
          (br x16
            (bnd (ref06_Has.f k (m8.1.1, []) m9) fun r1 =>
            law29_PeerMatrix.l15 k n15 r1 (iadd .i64 x17 1) m8 m9 m15 m22 m500022)
            (law29_PeerMatrix.l15 k n15 false (iadd .i64 x17 1) m8 m9 m15 m22 m500022)))
        (bnd (matrix_Matrix_Row.f k m15 x17) fun r2 =>
        br (bnot (deq tVec r2 (((rd tKnow m500022.2.2 (natOf x17)).1).1)))
          (some false)
          (br x16
            (bnd (ref06_Has.f k (((rd tKnow m500022.2.2 (natOf x17)).1).1, []) m9) fun r3 =>
            law29_PeerMatrix.l15 k n15 r3 (iadd .i64 x17 1) m8 m9 m15 m22 m500022)
            (law29_PeerMatrix.l15 k n15 false (iadd .i64 x17 1) m8 m9 m15 m22 m500022))))
      (none))
    (bnd (matrix_Matrix_Stable.f k m15 m500022.2.1 m9) fun r4 =>
    br (deq .bool r4 x16)
      (bnd (law29_awake.f k) fun r5 =>
      some r5)
      (some false)) := by kernel_rfl
noncomputable def law29_PeerMatrix.e (k : Nat) : Entry := Sg.entry law29_PeerMatrix.sg fun x => law29_PeerMatrix.f k x.1 x.2.1 x.2.2.1 x.2.2.2.1 x.2.2.2.2
set_option maxRecDepth 100000 in
theorem law29_PeerMatrix.ok (k : Nat) : CallOK Tryz.prog 5 (law29_PeerMatrix.e k) :=
  fn_ok (c := law29_PeerMatrix.cx k) (code := law29_PeerMatrix.body) (TT.of tt_ok pp_ok) (fns_ok ⟨(law29_begun.ok k), (ref24_Good.ok k), (law29_awake.ok k), (law29_short.ok k), (law29_does.ok k), (peer_Peers_Matrix.ok k), (matrix_Matrix_Row.ok k), (ref06_Has.ok k), (matrix_Matrix_Stable.ok k), trivial⟩) mixed Tryz.func5 (by kernel_rfl) (by kernel_rfl) (by kernel_rfl) (by kernel_rfl) (by kernel_rfl) (by kernel_rfl) (fun x => by kernel_rfl)
noncomputable def ref24_Of.body : Go.Code := Tryz.f26.body.getD .skip
noncomputable def ref24_Of.rs : List Go.ResultVar := Tryz.f26.results.toList
def ref24_Of.regs : List (Nat × RInfo) := [(0, ⟨[1, 2], [1, 2], [0], [], 0, [], [], [], []⟩),
  (1, ⟨[2], [2], [7], [], 0, [], [], [], []⟩)]
noncomputable def ref24_Of.cx (k : Nat) : Cx := ⟨tt, pp, [], ref24_Of.regs, k⟩
@[reducible] def ref24_Of.sg : Sg := ⟨[.dat tState], [], .dat tKnow, []⟩
noncomputable def ref24_Of.f (k : Nat) (a0 : Ty.D tState) : Option (Sg.Out ref24_Of.sg) := Sg.fn ref24_Of.sg (ref24_Of.cx k) ref24_Of.body ref24_Of.rs a0
set_option maxRecDepth 100000 in
theorem ref24_Of.f_eq (k : Nat) (a0 : Ty.D tState) : ref24_Of.f k a0 =
  some (a0.2.2.1, (a0.2.1, a0.2.2.2.1)) := by kernel_rfl
noncomputable def ref24_Of.e (k : Nat) : Entry := Sg.entry ref24_Of.sg fun x => ref24_Of.f k x
set_option maxRecDepth 100000 in
theorem ref24_Of.ok (k : Nat) : CallOK Tryz.prog 26 (ref24_Of.e k) :=
  fn_ok (c := ref24_Of.cx k) (code := ref24_Of.body) (TT.of tt_ok pp_ok) (fns_ok trivial) mixed Tryz.func26 (by kernel_rfl) (by kernel_rfl) (by kernel_rfl) (by kernel_rfl) (by kernel_rfl) (by kernel_rfl) (fun x => by kernel_rfl)
noncomputable def txn_Find_1.body : Go.Code := Tryz.f125.body.getD .skip
noncomputable def txn_Find_1.rs : List Go.ResultVar := Tryz.f125.results.toList
def txn_Find_1.regs : List (Nat × RInfo) := [(0, ⟨[2, 3], [2, 3], [0], [], 0, [], [], [], []⟩),
  (1, ⟨[4], [8], [], [], 0, [], [], [], []⟩)]
noncomputable def txn_Find_1.cx (k : Nat) : Cx := ⟨tt, pp, [(123, (dot_Compare.e k))], txn_Find_1.regs, k⟩
@[reducible] def txn_Find_1.sg : Sg := ⟨[.dat tTxn, .dat tDot], [], .dat (.int .i64), []⟩
noncomputable def txn_Find_1.f (k : Nat) (a0 : Ty.D tTxn) (a1 : Ty.D tDot) : Option (Sg.Out txn_Find_1.sg) := Sg.fn txn_Find_1.sg (txn_Find_1.cx k) txn_Find_1.body txn_Find_1.rs (a0, a1)
set_option maxRecDepth 100000 in
theorem txn_Find_1.f_eq (k : Nat) (a0 : Ty.D tTxn) (a1 : Ty.D tDot) : txn_Find_1.f k a0 a1 =
  bnd (dot_Compare.f k a0.1 a1) fun r0 =>
  some r0 := by kernel_rfl
noncomputable def txn_Find_1.e (k : Nat) : Entry := Sg.entry txn_Find_1.sg fun x => txn_Find_1.f k x.1 x.2
set_option maxRecDepth 100000 in
theorem txn_Find_1.ok (k : Nat) : CallOK Tryz.prog 125 (txn_Find_1.e k) :=
  fn_ok (c := txn_Find_1.cx k) (code := txn_Find_1.body) (TT.of tt_ok pp_ok) (fns_ok ⟨(dot_Compare.ok k), trivial⟩) mixed Tryz.func125 (by kernel_rfl) (by kernel_rfl) (by kernel_rfl) (by kernel_rfl) (by kernel_rfl) (by kernel_rfl) (fun x => by kernel_rfl)
noncomputable def slices_BinarySearchFunc_api_Txn_api_Txn_api_Dot_txn_Find_1.body : Go.Code := Tryz.f124.body.getD .skip
noncomputable def slices_BinarySearchFunc_api_Txn_api_Txn_api_Dot_txn_Find_1.rs : List Go.ResultVar := Tryz.f124.results.toList
def slices_BinarySearchFunc_api_Txn_api_Txn_api_Dot_txn_Find_1.regs : List (Nat × RInfo) := [(0, ⟨[0, 2, 4], [4], [], [], 0, [], [], [], []⟩),
  (1, ⟨[0, 2, 4, 8], [4], [], [], 0, [], [], [], []⟩),
  (2, ⟨[0, 2, 4, 8, 9, 10], [4], [], [], 0, [], [], [], []⟩),
  (3, ⟨[0, 2, 4, 8, 9, 10, 17], [4], [], [], 0, [0, 2, 4, 8, 9, 10], [4], [], []⟩),
  (4, ⟨[0, 2, 4, 8, 9, 10, 11], [4], [], [], 0, [], [], [], []⟩),
  (5, ⟨[0, 2, 4, 8, 9, 10, 11, 31], [4], [], [], 8, [], [], [], [[], [], [], [], [], [], [4, 5], [6, 4, 5]]⟩),
  (6, ⟨[0, 2, 4, 8, 9, 10], [4], [], [], 0, [], [], [], []⟩),
  (7, ⟨[0, 2, 4, 8, 9, 10], [4], [], [], 0, [], [], [], []⟩),
  (8, ⟨[6, 7], [], [], [], 15, [], [], [], [[], [], [], [], [], [], [], [], [], [], [], [9, 10], [11, 9, 10], [11, 9, 10], [11, 9, 10], [11, 9, 10]]⟩)]
noncomputable def slices_BinarySearchFunc_api_Txn_api_Txn_api_Dot_txn_Find_1.cx (k : Nat) : Cx := ⟨tt, pp, [(125, (txn_Find_1.e k))], slices_BinarySearchFunc_api_Txn_api_Txn_api_Dot_txn_Find_1.regs, k⟩
@[reducible] def slices_BinarySearchFunc_api_Txn_api_Txn_api_Dot_txn_Find_1.sg : Sg := ⟨[.dat (.slc tTxn), .dat tDot, .fn 125 0], [], .t2 (.dat (.int .i64)) (.dat .bool), []⟩
noncomputable def slices_BinarySearchFunc_api_Txn_api_Txn_api_Dot_txn_Find_1.f (k : Nat) (a0 : Ty.D (.slc tTxn)) (a1 : Ty.D tDot) : Option (Sg.Out slices_BinarySearchFunc_api_Txn_api_Txn_api_Dot_txn_Find_1.sg) := Sg.fn slices_BinarySearchFunc_api_Txn_api_Txn_api_Dot_txn_Find_1.sg (slices_BinarySearchFunc_api_Txn_api_Txn_api_Dot_txn_Find_1.cx k) slices_BinarySearchFunc_api_Txn_api_Txn_api_Dot_txn_Find_1.body slices_BinarySearchFunc_api_Txn_api_Txn_api_Dot_txn_Find_1.rs (a0, a1)
noncomputable def slices_BinarySearchFunc_api_Txn_api_Txn_api_Dot_txn_Find_1.l3 (k : Nat) (n : Nat) (x0 : Ty.D (.slc tTxn)) (x8 : Ty.D (.int .i64)) (x9 : Ty.D (.int .i64)) (x10 : Ty.D (.int .i64)) (m4 : Ty.D tDot) : Option (Sg.Out slices_BinarySearchFunc_api_Txn_api_Txn_api_Dot_txn_Find_1.sg) := loopAt (slices_BinarySearchFunc_api_Txn_api_Txn_api_Dot_txn_Find_1.cx k) slices_BinarySearchFunc_api_Txn_api_Txn_api_Dot_txn_Find_1.body [1, 1, 1, 0, 0] 3 [0, 2, 4, 8, 9, 10] [4] [] (Sg.K slices_BinarySearchFunc_api_Txn_api_Txn_api_Dot_txn_Find_1.sg (slices_BinarySearchFunc_api_Txn_api_Txn_api_Dot_txn_Find_1.cx k) slices_BinarySearchFunc_api_Txn_api_Txn_api_Dot_txn_Find_1.rs) n ⟨[(0, .dat (.slc tTxn) x0), (2, .fn 125 []), (4, .ref 4 []), (8, .dat (.int .i64) x8), (9, .dat (.int .i64) x9), (10, .dat (.int .i64) x10)], [(4, .dat tDot m4)]⟩
set_option maxRecDepth 100000 in
theorem slices_BinarySearchFunc_api_Txn_api_Txn_api_Dot_txn_Find_1.f_eq (k : Nat) (a0 : Ty.D (.slc tTxn)) (a1 : Ty.D tDot) : slices_BinarySearchFunc_api_Txn_api_Txn_api_Dot_txn_Find_1.f k a0 a1 =
  slices_BinarySearchFunc_api_Txn_api_Txn_api_Dot_txn_Find_1.l3 k k a0 (ilen a0) 0 (ilen a0) a1 := by kernel_rfl
set_option maxRecDepth 100000 in
theorem slices_BinarySearchFunc_api_Txn_api_Txn_api_Dot_txn_Find_1.l3_eq (k : Nat) (n3 : Nat) (x0 : Ty.D (.slc tTxn)) (x8 : Ty.D (.int .i64)) (x9 : Ty.D (.int .i64)) (x10 : Ty.D (.int .i64)) (m4 : Ty.D tDot) : slices_BinarySearchFunc_api_Txn_api_Txn_api_Dot_txn_Find_1.l3 k (n3 + 1) x0 x8 x9 x10 m4 =
  br (ilt x9 x10)
    (br (inL (iwrap .i64 (ishr .u64 (iwrap .u64 (iadd .i64 x9 x10)) 1)) x0)
      (bnd (txn_Find_1.f k (rd tTxn x0 (natOf (iwrap .i64 (ishr .u64 (iwrap .u64 (iadd .i64 x9 x10)) 1)))) m4) fun r0 =>
      br (ilt r0 0)
        (slices_BinarySearchFunc_api_Txn_api_Txn_api_Dot_txn_Find_1.l3 k n3 x0 x8 (iadd .i64 (iwrap .i64 (ishr .u64 (iwrap .u64 (iadd .i64 x9 x10)) 1)) 1) x10 m4)
        (slices_BinarySearchFunc_api_Txn_api_Txn_api_Dot_txn_Find_1.l3 k n3 x0 x8 x9 (iwrap .i64 (ishr .u64 (iwrap .u64 (iadd .i64 x9 x10)) 1)) m4))
      (none))
    (br (ilt x9 x8)
      (br (inL x9 x0)
        (bnd (txn_Find_1.f k (rd tTxn x0 (natOf x9)) m4) fun r1 =>
        some (x9, (ieq r1 0)))
        (none))
      (some (x9, false))) := by kernel_rfl
noncomputable def slices_BinarySearchFunc_api_Txn_api_Txn_api_Dot_txn_Find_1.e (k : Nat) : Entry := Sg.entry slices_BinarySearchFunc_api_Txn_api_Txn_api_Dot_txn_Find_1.sg fun x => slices_BinarySearchFunc_api_Txn_api_Txn_api_Dot_txn_Find_1.f k x.1 x.2
set_option maxRecDepth 100000 in
theorem slices_BinarySearchFunc_api_Txn_api_Txn_api_Dot_txn_Find_1.ok (k : Nat) : CallOK Tryz.prog 124 (slices_BinarySearchFunc_api_Txn_api_Txn_api_Dot_txn_Find_1.e k) :=
  fn_ok (c := slices_BinarySearchFunc_api_Txn_api_Txn_api_Dot_txn_Find_1.cx k) (code := slices_BinarySearchFunc_api_Txn_api_Txn_api_Dot_txn_Find_1.body) (TT.of tt_ok pp_ok) (fns_ok ⟨(txn_Find_1.ok k), trivial⟩) mixed Tryz.func124 (by kernel_rfl) (by kernel_rfl) (by kernel_rfl) (by kernel_rfl) (by kernel_rfl) (by kernel_rfl) (fun x => by kernel_rfl)
noncomputable def txn_Find.body : Go.Code := Tryz.f85.body.getD .skip
noncomputable def txn_Find.rs : List Go.ResultVar := Tryz.f85.results.toList
def txn_Find.regs : List (Nat × RInfo) := [(0, ⟨[0, 3], [3], [], [], 0, [], [], [], []⟩),
  (1, ⟨[5, 6], [10], [], [], 0, [], [], [], []⟩),
  (2, ⟨[5, 14], [10], [], [], 0, [], [], [], []⟩),
  (3, ⟨[4], [10], [], [], 0, [], [], [], []⟩),
  (4, ⟨[4], [10], [], [], 0, [], [], [], []⟩)]
noncomputable def txn_Find.cx (k : Nat) : Cx := ⟨tt, pp, [(124, (slices_BinarySearchFunc_api_Txn_api_Txn_api_Dot_txn_Find_1.e k)),
  (125, (txn_Find_1.e k))], txn_Find.regs, k⟩
@[reducible] def txn_Find.sg : Sg := ⟨[.dat (.slc tTxn), .dat tDot], [], .dat (.int .i64), []⟩
noncomputable def txn_Find.f (k : Nat) (a0 : Ty.D (.slc tTxn)) (a1 : Ty.D tDot) : Option (Sg.Out txn_Find.sg) := Sg.fn txn_Find.sg (txn_Find.cx k) txn_Find.body txn_Find.rs (a0, a1)
set_option maxRecDepth 100000 in
theorem txn_Find.f_eq (k : Nat) (a0 : Ty.D (.slc tTxn)) (a1 : Ty.D tDot) : txn_Find.f k a0 a1 =
  bnd (slices_BinarySearchFunc_api_Txn_api_Txn_api_Dot_txn_Find_1.f k a0 a1) fun r0 =>
  br (bnot r0.2)
    (some (-1))
    (some r0.1) := by kernel_rfl
noncomputable def txn_Find.e (k : Nat) : Entry := Sg.entry txn_Find.sg fun x => txn_Find.f k x.1 x.2
set_option maxRecDepth 100000 in
theorem txn_Find.ok (k : Nat) : CallOK Tryz.prog 85 (txn_Find.e k) :=
  fn_ok (c := txn_Find.cx k) (code := txn_Find.body) (TT.of tt_ok pp_ok) (fns_ok ⟨(slices_BinarySearchFunc_api_Txn_api_Txn_api_Dot_txn_Find_1.ok k), (txn_Find_1.ok k), trivial⟩) mixed Tryz.func85 (by kernel_rfl) (by kernel_rfl) (by kernel_rfl) (by kernel_rfl) (by kernel_rfl) (by kernel_rfl) (fun x => by kernel_rfl)
noncomputable def txn_Put_1.body : Go.Code := Tryz.f154.body.getD .skip
noncomputable def txn_Put_1.rs : List Go.ResultVar := Tryz.f154.results.toList
def txn_Put_1.regs : List (Nat × RInfo) := [(0, ⟨[2, 3], [2, 3], [0], [], 0, [], [], [], []⟩),
  (1, ⟨[4], [8], [], [], 0, [], [], [], []⟩)]
noncomputable def txn_Put_1.cx (k : Nat) : Cx := ⟨tt, pp, [(123, (dot_Compare.e k))], txn_Put_1.regs, k⟩
@[reducible] def txn_Put_1.sg : Sg := ⟨[.dat tTxn, .dat tDot], [], .dat (.int .i64), []⟩
noncomputable def txn_Put_1.f (k : Nat) (a0 : Ty.D tTxn) (a1 : Ty.D tDot) : Option (Sg.Out txn_Put_1.sg) := Sg.fn txn_Put_1.sg (txn_Put_1.cx k) txn_Put_1.body txn_Put_1.rs (a0, a1)
set_option maxRecDepth 100000 in
theorem txn_Put_1.f_eq (k : Nat) (a0 : Ty.D tTxn) (a1 : Ty.D tDot) : txn_Put_1.f k a0 a1 =
  bnd (dot_Compare.f k a0.1 a1) fun r0 =>
  some r0 := by kernel_rfl
noncomputable def txn_Put_1.e (k : Nat) : Entry := Sg.entry txn_Put_1.sg fun x => txn_Put_1.f k x.1 x.2
set_option maxRecDepth 100000 in
theorem txn_Put_1.ok (k : Nat) : CallOK Tryz.prog 154 (txn_Put_1.e k) :=
  fn_ok (c := txn_Put_1.cx k) (code := txn_Put_1.body) (TT.of tt_ok pp_ok) (fns_ok ⟨(dot_Compare.ok k), trivial⟩) mixed Tryz.func154 (by kernel_rfl) (by kernel_rfl) (by kernel_rfl) (by kernel_rfl) (by kernel_rfl) (by kernel_rfl) (fun x => by kernel_rfl)
noncomputable def slices_BinarySearchFunc_api_Txn_api_Txn_api_Dot_txn_Put_1.body : Go.Code := Tryz.f124.body.getD .skip
noncomputable def slices_BinarySearchFunc_api_Txn_api_Txn_api_Dot_txn_Put_1.rs : List Go.ResultVar := Tryz.f124.results.toList
def slices_BinarySearchFunc_api_Txn_api_Txn_api_Dot_txn_Put_1.regs : List (Nat × RInfo) := [(0, ⟨[0, 2, 4], [4], [], [], 0, [], [], [], []⟩),
  (1, ⟨[0, 2, 4, 8], [4], [], [], 0, [], [], [], []⟩),
  (2, ⟨[0, 2, 4, 8, 9, 10], [4], [], [], 0, [], [], [], []⟩),
  (3, ⟨[0, 2, 4, 8, 9, 10, 17], [4], [], [], 0, [0, 2, 4, 8, 9, 10], [4], [], []⟩),
  (4, ⟨[0, 2, 4, 8, 9, 10, 11], [4], [], [], 0, [], [], [], []⟩),
  (5, ⟨[0, 2, 4, 8, 9, 10, 11, 31], [4], [], [], 8, [], [], [], [[], [], [], [], [], [], [4, 5], [6, 4, 5]]⟩),
  (6, ⟨[0, 2, 4, 8, 9, 10], [4], [], [], 0, [], [], [], []⟩),
  (7, ⟨[0, 2, 4, 8, 9, 10], [4], [], [], 0, [], [], [], []⟩),
  (8, ⟨[6, 7], [], [], [], 15, [], [], [], [[], [], [], [], [], [], [], [], [], [], [], [9, 10], [11, 9, 10], [11, 9, 10], [11, 9, 10], [11, 9, 10]]⟩)]
noncomputable def slices_BinarySearchFunc_api_Txn_api_Txn_api_Dot_txn_Put_1.cx (k : Nat) : Cx := ⟨tt, pp, [(154, (txn_Put_1.e k))], slices_BinarySearchFunc_api_Txn_api_Txn_api_Dot_txn_Put_1.regs, k⟩
@[reducible] def slices_BinarySearchFunc_api_Txn_api_Txn_api_Dot_txn_Put_1.sg : Sg := ⟨[.dat (.slc tTxn), .dat tDot, .fn 154 0], [], .t2 (.dat (.int .i64)) (.dat .bool), []⟩
noncomputable def slices_BinarySearchFunc_api_Txn_api_Txn_api_Dot_txn_Put_1.f (k : Nat) (a0 : Ty.D (.slc tTxn)) (a1 : Ty.D tDot) : Option (Sg.Out slices_BinarySearchFunc_api_Txn_api_Txn_api_Dot_txn_Put_1.sg) := Sg.fn slices_BinarySearchFunc_api_Txn_api_Txn_api_Dot_txn_Put_1.sg (slices_BinarySearchFunc_api_Txn_api_Txn_api_Dot_txn_Put_1.cx k) slices_BinarySearchFunc_api_Txn_api_Txn_api_Dot_txn_Put_1.body slices_BinarySearchFunc_api_Txn_api_Txn_api_Dot_txn_Put_1.rs (a0, a1)
noncomputable def slices_BinarySearchFunc_api_Txn_api_Txn_api_Dot_txn_Put_1.l3 (k : Nat) (n : Nat) (x0 : Ty.D (.slc tTxn)) (x8 : Ty.D (.int .i64)) (x9 : Ty.D (.int .i64)) (x10 : Ty.D (.int .i64)) (m4 : Ty.D tDot) : Option (Sg.Out slices_BinarySearchFunc_api_Txn_api_Txn_api_Dot_txn_Put_1.sg) := loopAt (slices_BinarySearchFunc_api_Txn_api_Txn_api_Dot_txn_Put_1.cx k) slices_BinarySearchFunc_api_Txn_api_Txn_api_Dot_txn_Put_1.body [1, 1, 1, 0, 0] 3 [0, 2, 4, 8, 9, 10] [4] [] (Sg.K slices_BinarySearchFunc_api_Txn_api_Txn_api_Dot_txn_Put_1.sg (slices_BinarySearchFunc_api_Txn_api_Txn_api_Dot_txn_Put_1.cx k) slices_BinarySearchFunc_api_Txn_api_Txn_api_Dot_txn_Put_1.rs) n ⟨[(0, .dat (.slc tTxn) x0), (2, .fn 154 []), (4, .ref 4 []), (8, .dat (.int .i64) x8), (9, .dat (.int .i64) x9), (10, .dat (.int .i64) x10)], [(4, .dat tDot m4)]⟩
set_option maxRecDepth 100000 in
theorem slices_BinarySearchFunc_api_Txn_api_Txn_api_Dot_txn_Put_1.f_eq (k : Nat) (a0 : Ty.D (.slc tTxn)) (a1 : Ty.D tDot) : slices_BinarySearchFunc_api_Txn_api_Txn_api_Dot_txn_Put_1.f k a0 a1 =
  slices_BinarySearchFunc_api_Txn_api_Txn_api_Dot_txn_Put_1.l3 k k a0 (ilen a0) 0 (ilen a0) a1 := by kernel_rfl
set_option maxRecDepth 100000 in
theorem slices_BinarySearchFunc_api_Txn_api_Txn_api_Dot_txn_Put_1.l3_eq (k : Nat) (n3 : Nat) (x0 : Ty.D (.slc tTxn)) (x8 : Ty.D (.int .i64)) (x9 : Ty.D (.int .i64)) (x10 : Ty.D (.int .i64)) (m4 : Ty.D tDot) : slices_BinarySearchFunc_api_Txn_api_Txn_api_Dot_txn_Put_1.l3 k (n3 + 1) x0 x8 x9 x10 m4 =
  br (ilt x9 x10)
    (br (inL (iwrap .i64 (ishr .u64 (iwrap .u64 (iadd .i64 x9 x10)) 1)) x0)
      (bnd (txn_Put_1.f k (rd tTxn x0 (natOf (iwrap .i64 (ishr .u64 (iwrap .u64 (iadd .i64 x9 x10)) 1)))) m4) fun r0 =>
      br (ilt r0 0)
        (slices_BinarySearchFunc_api_Txn_api_Txn_api_Dot_txn_Put_1.l3 k n3 x0 x8 (iadd .i64 (iwrap .i64 (ishr .u64 (iwrap .u64 (iadd .i64 x9 x10)) 1)) 1) x10 m4)
        (slices_BinarySearchFunc_api_Txn_api_Txn_api_Dot_txn_Put_1.l3 k n3 x0 x8 x9 (iwrap .i64 (ishr .u64 (iwrap .u64 (iadd .i64 x9 x10)) 1)) m4))
      (none))
    (br (ilt x9 x8)
      (br (inL x9 x0)
        (bnd (txn_Put_1.f k (rd tTxn x0 (natOf x9)) m4) fun r1 =>
        some (x9, (ieq r1 0)))
        (none))
      (some (x9, false))) := by kernel_rfl
noncomputable def slices_BinarySearchFunc_api_Txn_api_Txn_api_Dot_txn_Put_1.e (k : Nat) : Entry := Sg.entry slices_BinarySearchFunc_api_Txn_api_Txn_api_Dot_txn_Put_1.sg fun x => slices_BinarySearchFunc_api_Txn_api_Txn_api_Dot_txn_Put_1.f k x.1 x.2
set_option maxRecDepth 100000 in
theorem slices_BinarySearchFunc_api_Txn_api_Txn_api_Dot_txn_Put_1.ok (k : Nat) : CallOK Tryz.prog 124 (slices_BinarySearchFunc_api_Txn_api_Txn_api_Dot_txn_Put_1.e k) :=
  fn_ok (c := slices_BinarySearchFunc_api_Txn_api_Txn_api_Dot_txn_Put_1.cx k) (code := slices_BinarySearchFunc_api_Txn_api_Txn_api_Dot_txn_Put_1.body) (TT.of tt_ok pp_ok) (fns_ok ⟨(txn_Put_1.ok k), trivial⟩) mixed Tryz.func124 (by kernel_rfl) (by kernel_rfl) (by kernel_rfl) (by kernel_rfl) (by kernel_rfl) (by kernel_rfl) (fun x => by kernel_rfl)
noncomputable def txn_Put.body : Go.Code := Tryz.f119.body.getD .skip
noncomputable def txn_Put.rs : List Go.ResultVar := Tryz.f119.results.toList
def txn_Put.regs : List (Nat × RInfo) := [(0, ⟨[0, 3], [3], [0], [], 0, [], [], [1], []⟩),
  (1, ⟨[0, 3, 5, 6], [3, 11], [], [], 0, [], [], [0, 3], []⟩),
  (2, ⟨[0, 3, 5, 14], [3, 11], [], [], 0, [], [], [6], []⟩),
  (3, ⟨[4], [21], [0, 1], [], 0, [], [], [], []⟩),
  (4, ⟨[4], [21], [5, 6], [], 6, [], [], [0, 5, 3], []⟩)]
noncomputable def txn_Put.cx (k : Nat) : Cx := ⟨tt, pp, [(124, (Entry.alt slices_BinarySearchFunc_api_Txn_api_Txn_api_Dot_txn_Find_1.sg (slices_BinarySearchFunc_api_Txn_api_Txn_api_Dot_txn_Find_1.e k) (slices_BinarySearchFunc_api_Txn_api_Txn_api_Dot_txn_Put_1.e k))),
  (154, (txn_Put_1.e k)),
  (156, (cloneE tTxn)),
  (155, (insE tTxn))], txn_Put.regs, k⟩
@[reducible] def txn_Put.sg : Sg := ⟨[.dat (.slc tTxn), .dat tTxn], [], .dat (.slc tTxn), []⟩
noncomputable def txn_Put.f (k : Nat) (a0 : Ty.D (.slc tTxn)) (a1 : Ty.D tTxn) : Option (Sg.Out txn_Put.sg) := Sg.fn txn_Put.sg (txn_Put.cx k) txn_Put.body txn_Put.rs (a0, a1)
set_option maxRecDepth 100000 in
theorem txn_Put.f_eq (k : Nat) (a0 : Ty.D (.slc tTxn)) (a1 : Ty.D tTxn) : txn_Put.f k a0 a1 =
  bnd (slices_BinarySearchFunc_api_Txn_api_Txn_api_Dot_txn_Put_1.f k a0 a1.1) fun r0 =>
  br r0.2
    (some a0)
    (br (room ([] : List Int) a0)
      (br (inS 0 r0.1 (ilen a0))
        (br (room a0 (a1 :: []))
          (some (insAt a0 r0.1 (a1 :: [])))
          (none))
        (none))
      (none)) := by kernel_rfl
noncomputable def txn_Put.e (k : Nat) : Entry := Sg.entry txn_Put.sg fun x => txn_Put.f k x.1 x.2
set_option maxRecDepth 100000 in
theorem txn_Put.ok (k : Nat) : CallOK Tryz.prog 119 (txn_Put.e k) :=
  fn_ok (c := txn_Put.cx k) (code := txn_Put.body) (TT.of tt_ok pp_ok) (fns_ok ⟨(alt_ok (slices_BinarySearchFunc_api_Txn_api_Txn_api_Dot_txn_Find_1.ok k) (slices_BinarySearchFunc_api_Txn_api_Txn_api_Dot_txn_Put_1.ok k)), (txn_Put_1.ok k), cloneTxn_ok, insTxn_ok, trivial⟩) mixed Tryz.func119 (by kernel_rfl) (by kernel_rfl) (by kernel_rfl) (by kernel_rfl) (by kernel_rfl) (by kernel_rfl) (fun x => by kernel_rfl)
noncomputable def dots_Put.body : Go.Code := Tryz.f120.body.getD .skip
noncomputable def dots_Put.rs : List Go.ResultVar := Tryz.f120.results.toList
def dots_Put.regs : List (Nat × RInfo) := [(0, ⟨[2, 3, 4], [2, 3, 4], [0], [], 0, [], [], [0, 1], []⟩),
  (1, ⟨[2, 3, 4, 14], [2, 3, 4, 13], [], [], 0, [], [], [3, 2], []⟩),
  (2, ⟨[4], [4], [1], [], 0, [], [], [2, 4], []⟩),
  (3, ⟨[2, 3, 4, 5], [2, 3, 4, 20], [], [], 0, [], [], [2, 3], []⟩),
  (4, ⟨[4], [4], [8, 10], [], 10, [], [], [2, 5, 3, 4], [[], [], [], [], [3], [], [], [6], [3, 6], [1, 3, 6], [1, 3, 6]]⟩)]
noncomputable def dots_Put.cx (k : Nat) : Cx := ⟨tt, pp, [(113, (dot_Right.e k)),
  (81, (dots_Has.e k)),
  (122, (slices_BinarySearchFunc_api_Dot_api_Dot_api_Dot_dot_Compare.e k)),
  (123, (dot_Compare.e k)),
  (138, (cloneE tDot)),
  (157, (insE tDot)),
  (136, (dots_made.e k))], dots_Put.regs, k⟩
@[reducible] def dots_Put.sg : Sg := ⟨[.dat tDots, .dat tDot], [], .dat tDots, []⟩
noncomputable def dots_Put.f (k : Nat) (a0 : Ty.D tDots) (a1 : Ty.D tDot) : Option (Sg.Out dots_Put.sg) := Sg.fn dots_Put.sg (dots_Put.cx k) dots_Put.body dots_Put.rs (a0, a1)
set_option maxRecDepth 100000 in
theorem dots_Put.f_eq (k : Nat) (a0 : Ty.D tDots) (a1 : Ty.D tDot) : dots_Put.f k a0 a1 =
  bnd (dot_Right.f k a1) fun r0 =>
  br (bnot r0)
    (some a0)
    (bnd (dots_Has.f k a0 a1) fun r1 =>
    br r1
      (some a0)
      (bnd (slices_BinarySearchFunc_api_Dot_api_Dot_api_Dot_dot_Compare.f k a0.2 a1) fun r2 =>
      br (room ([] : List Int) a0.2)
        (br (inS 0 r2.1 (ilen a0.2))
          (br (room a0.2 (a1 :: []))
            (bnd (dots_made.f k a0.1 (insAt a0.2 r2.1 (a1 :: []))) fun r3 =>
            some r3)
            (none))
          (none))
        (none))) := by kernel_rfl
noncomputable def dots_Put.e (k : Nat) : Entry := Sg.entry dots_Put.sg fun x => dots_Put.f k x.1 x.2
set_option maxRecDepth 100000 in
theorem dots_Put.ok (k : Nat) : CallOK Tryz.prog 120 (dots_Put.e k) :=
  fn_ok (c := dots_Put.cx k) (code := dots_Put.body) (TT.of tt_ok pp_ok) (fns_ok ⟨(dot_Right.ok k), (dots_Has.ok k), (slices_BinarySearchFunc_api_Dot_api_Dot_api_Dot_dot_Compare.ok k), (dot_Compare.ok k), cloneDot_ok, insDot_ok, (dots_made.ok k), trivial⟩) mixed Tryz.func120 (by kernel_rfl) (by kernel_rfl) (by kernel_rfl) (by kernel_rfl) (by kernel_rfl) (by kernel_rfl) (fun x => by kernel_rfl)
noncomputable def state_Put.body : Go.Code := Tryz.f75.body.getD .skip
noncomputable def state_Put.rs : List Go.ResultVar := Tryz.f75.results.toList
def state_Put.regs : List (Nat × RInfo) := [(0, ⟨[2, 3, 4], [2, 3, 4], [0, 1], [], 0, [], [], [], []⟩),
  (1, ⟨[2, 3, 4, 10], [2, 3, 4], [], [], 0, [], [], [], []⟩),
  (2, ⟨[4], [4], [1], [], 0, [], [], [], []⟩),
  (3, ⟨[2, 3, 4], [2, 3, 4], [5], [], 0, [], [], [], []⟩),
  (4, ⟨[2, 4], [2, 4], [6], [], 0, [], [], [], []⟩),
  (5, ⟨[4], [4], [1], [], 0, [], [], [], []⟩)]
noncomputable def state_Put.cx (k : Nat) : Cx := ⟨tt, pp, [(85, (txn_Find.e k)),
  (119, (txn_Put.e k)),
  (120, (dots_Put.e k))], state_Put.regs, k⟩
@[reducible] def state_Put.sg : Sg := ⟨[.dat tState, .dat tTxn], [], .dat tState, []⟩
noncomputable def state_Put.f (k : Nat) (a0 : Ty.D tState) (a1 : Ty.D tTxn) : Option (Sg.Out state_Put.sg) := Sg.fn state_Put.sg (state_Put.cx k) state_Put.body state_Put.rs (a0, a1)
set_option maxRecDepth 100000 in
theorem state_Put.f_eq (k : Nat) (a0 : Ty.D tState) (a1 : Ty.D tTxn) : state_Put.f k a0 a1 =
  bnd (txn_Find.f k a0.1 a1.1) fun r0 =>
  br (ile 0 r0)
    (some a0)
    (bnd (txn_Put.f k a0.1 a1) fun r1 =>
    bnd (dots_Put.f k a0.2.2.1 a1.1) fun r2 =>
    some (r1, (a0.2.1, (r2, a0.2.2.2)))) := by kernel_rfl
noncomputable def state_Put.e (k : Nat) : Entry := Sg.entry state_Put.sg fun x => state_Put.f k x.1 x.2
set_option maxRecDepth 100000 in
theorem state_Put.ok (k : Nat) : CallOK Tryz.prog 75 (state_Put.e k) :=
  fn_ok (c := state_Put.cx k) (code := state_Put.body) (TT.of tt_ok pp_ok) (fns_ok ⟨(txn_Find.ok k), (txn_Put.ok k), (dots_Put.ok k), trivial⟩) mixed Tryz.func75 (by kernel_rfl) (by kernel_rfl) (by kernel_rfl) (by kernel_rfl) (by kernel_rfl) (by kernel_rfl) (fun x => by kernel_rfl)
noncomputable def state_Raise.body : Go.Code := Tryz.f76.body.getD .skip
noncomputable def state_Raise.rs : List Go.ResultVar := Tryz.f76.results.toList
def state_Raise.regs : List (Nat × RInfo) := [(0, ⟨[1, 2, 4], [2, 4], [0], [], 0, [], [], [], []⟩),
  (1, ⟨[2, 4], [2, 4], [5], [], 0, [], [], [], []⟩),
  (2, ⟨[4], [4], [1], [], 0, [], [], [], []⟩)]
noncomputable def state_Raise.cx (k : Nat) : Cx := ⟨tt, pp, [(117, (tally_Join.e k))], state_Raise.regs, k⟩
@[reducible] def state_Raise.sg : Sg := ⟨[.dat tState, .dat (.slc tUndo)], [], .dat tState, []⟩
noncomputable def state_Raise.f (k : Nat) (a0 : Ty.D tState) (a1 : Ty.D (.slc tUndo)) : Option (Sg.Out state_Raise.sg) := Sg.fn state_Raise.sg (state_Raise.cx k) state_Raise.body state_Raise.rs (a0, a1)
set_option maxRecDepth 100000 in
theorem state_Raise.f_eq (k : Nat) (a0 : Ty.D tState) (a1 : Ty.D (.slc tUndo)) : state_Raise.f k a0 a1 =
  bnd (tally_Join.f k a0.2.1 a1) fun r0 =>
  some (a0.1, (r0, a0.2.2)) := by kernel_rfl
noncomputable def state_Raise.e (k : Nat) : Entry := Sg.entry state_Raise.sg fun x => state_Raise.f k x.1 x.2
set_option maxRecDepth 100000 in
theorem state_Raise.ok (k : Nat) : CallOK Tryz.prog 76 (state_Raise.e k) :=
  fn_ok (c := state_Raise.cx k) (code := state_Raise.body) (TT.of tt_ok pp_ok) (fns_ok ⟨(tally_Join.ok k), trivial⟩) mixed Tryz.func76 (by kernel_rfl) (by kernel_rfl) (by kernel_rfl) (by kernel_rfl) (by kernel_rfl) (by kernel_rfl) (fun x => by kernel_rfl)
noncomputable def dots_Of.body : Go.Code := Tryz.f100.body.getD .skip
noncomputable def dots_Of.rs : List Go.ResultVar := Tryz.f100.results.toList
def dots_Of.regs : List (Nat × RInfo) := [(0, ⟨[0, 2], [2, 5], [], [], 0, [], [], [], []⟩),
  (1, ⟨[0, 2], [2, 5], [2, 3], [], 0, [], [], [], []⟩),
  (2, ⟨[0, 2], [2, 5], [0, 1], [0], 0, [], [], [], []⟩),
  (3, ⟨[2], [2], [3], [], 0, [], [], [0, 2], []⟩)]
noncomputable def dots_Of.cx (k : Nat) : Cx := ⟨tt, pp, [(138, (cloneE tDot)),
  (137, (delE tDot 139 dotKeep)),
  (135, (sortE tDot 123 dotLt)),
  (123, (dot_Compare.e k)),
  (136, (dots_made.e k))], dots_Of.regs, k⟩
@[reducible] def dots_Of.sg : Sg := ⟨[.dat (.slc tDot)], [], .dat tDots, []⟩
noncomputable def dots_Of.f (k : Nat) (a0 : Ty.D (.slc tDot)) : Option (Sg.Out dots_Of.sg) := Sg.fn dots_Of.sg (dots_Of.cx k) dots_Of.body dots_Of.rs a0
set_option maxRecDepth 100000 in
theorem dots_Of.f_eq (k : Nat) (a0 : Ty.D (.slc tDot)) : dots_Of.f k a0 =
  br (room ([] : List Int) a0)
    (br (room ([] : List Int) a0)
      (br (room ([] : List Int) (kept dotKeep a0))
        (bnd (dots_made.f k (zarr 16 0) (isort dotLt (kept dotKeep a0))) fun r0 =>
        some r0)
        (none))
      (none))
    (none) := by kernel_rfl
noncomputable def dots_Of.e (k : Nat) : Entry := Sg.entry dots_Of.sg fun x => dots_Of.f k x
set_option maxRecDepth 100000 in
theorem dots_Of.ok (k : Nat) : CallOK Tryz.prog 100 (dots_Of.e k) :=
  fn_ok (c := dots_Of.cx k) (code := dots_Of.body) (TT.of tt_ok pp_ok) (fns_ok ⟨cloneDot_ok, delDot_ok, sortDot_ok, (dot_Compare.ok k), (dots_made.ok k), trivial⟩) mixed Tryz.func100 (by kernel_rfl) (by kernel_rfl) (by kernel_rfl) (by kernel_rfl) (by kernel_rfl) (by kernel_rfl) (fun x => by kernel_rfl)
noncomputable def state_Seal.body : Go.Code := Tryz.f45.body.getD .skip
noncomputable def state_Seal.rs : List Go.ResultVar := Tryz.f45.results.toList
def state_Seal.regs : List (Nat × RInfo) := [(0, ⟨[1, 2, 4], [2, 4], [0], [], 0, [], [], [], []⟩),
  (1, ⟨[2, 4], [2, 4], [6], [], 5, [], [], [], [[], [], [], [], [1], [1], [1]]⟩),
  (2, ⟨[4], [4], [1], [], 0, [], [], [], []⟩)]
noncomputable def state_Seal.cx (k : Nat) : Cx := ⟨tt, pp, [(100, (dots_Of.e k)),
  (99, (dots_Union.e k))], state_Seal.regs, k⟩
@[reducible] def state_Seal.sg : Sg := ⟨[.dat tState, .dat (.slc tDot)], [], .dat tState, []⟩
noncomputable def state_Seal.f (k : Nat) (a0 : Ty.D tState) (a1 : Ty.D (.slc tDot)) : Option (Sg.Out state_Seal.sg) := Sg.fn state_Seal.sg (state_Seal.cx k) state_Seal.body state_Seal.rs (a0, a1)
set_option maxRecDepth 100000 in
theorem state_Seal.f_eq (k : Nat) (a0 : Ty.D tState) (a1 : Ty.D (.slc tDot)) : state_Seal.f k a0 a1 =
  bnd (dots_Of.f k a1) fun r0 =>
  bnd (dots_Union.f k a0.2.2.2.1 r0) fun r1 =>
  some (a0.1, (a0.2.1, (a0.2.2.1, (r1, a0.2.2.2.2)))) := by kernel_rfl
noncomputable def state_Seal.e (k : Nat) : Entry := Sg.entry state_Seal.sg fun x => state_Seal.f k x.1 x.2
set_option maxRecDepth 100000 in
theorem state_Seal.ok (k : Nat) : CallOK Tryz.prog 45 (state_Seal.e k) :=
  fn_ok (c := state_Seal.cx k) (code := state_Seal.body) (TT.of tt_ok pp_ok) (fns_ok ⟨(dots_Of.ok k), (dots_Union.ok k), trivial⟩) mixed Tryz.func45 (by kernel_rfl) (by kernel_rfl) (by kernel_rfl) (by kernel_rfl) (by kernel_rfl) (by kernel_rfl) (fun x => by kernel_rfl)
noncomputable def record_Merged.body : Go.Code := Tryz.f30.body.getD .skip
noncomputable def record_Merged.rs : List Go.ResultVar := Tryz.f30.results.toList
def record_Merged.regs : List (Nat × RInfo) := [(0, ⟨[2, 3, 4], [2, 3, 4], [0, 1], [], 0, [], [], [], []⟩),
  (1, ⟨[2, 3, 4, 8, 9, 10], [2, 3, 4], [], [], 0, [], [], [], []⟩),
  (2, ⟨[2, 3, 4, 8, 9, 10, 11], [2, 3, 4], [], [], 0, [2, 3, 4, 8, 9, 10], [2, 3, 4], [], []⟩),
  (3, ⟨[2, 3, 4, 6, 8, 9, 10], [2, 3, 4, 6], [3], [], 0, [], [], [], []⟩),
  (4, ⟨[2, 3, 4, 8, 9, 10], [2, 3, 4], [3], [], 0, [], [], [], []⟩),
  (5, ⟨[2, 3, 4, 8, 9, 10], [2, 3, 4], [], [], 0, [], [], [], []⟩),
  (6, ⟨[4], [4], [7], [], 7, [], [], [], [[], [], [], [0, 2], [], [], [0, 2, 5], [0, 2, 5]]⟩)]
noncomputable def record_Merged.cx (k : Nat) : Cx := ⟨tt, pp, [(75, (state_Put.e k)),
  (76, (state_Raise.e k)),
  (45, (state_Seal.e k))], record_Merged.regs, k⟩
@[reducible] def record_Merged.sg : Sg := ⟨[.dat tState, .dat tDelta], [], .dat tState, []⟩
noncomputable def record_Merged.f (k : Nat) (a0 : Ty.D tState) (a1 : Ty.D tDelta) : Option (Sg.Out record_Merged.sg) := Sg.fn record_Merged.sg (record_Merged.cx k) record_Merged.body record_Merged.rs (a0, a1)
noncomputable def record_Merged.l2 (k : Nat) (n : Nat) (x8 : Ty.D (.slc tTxn)) (x9 : Ty.D (.int .i64)) (x10 : Ty.D (.int .i64)) (m2 : Ty.D tState) (m3 : Ty.D tDelta) (m4a : List (Ty.D tTxn)) (m4ba : List (Ty.D tUndo)) (m4bbaa : Ty.D tVec) (m4bbab : List (Ty.D tDot)) (m4bbbaa : Ty.D tVec) (m4bbbab : List (Ty.D tDot)) (m4bbbb : Ty.D (.arr 8 (.slc tDot))) : Option (Sg.Out record_Merged.sg) := loopAt (record_Merged.cx k) record_Merged.body [1, 0, 1, 0] 2 [2, 3, 4, 8, 9, 10] [2, 3, 4] [] (Sg.K record_Merged.sg (record_Merged.cx k) record_Merged.rs) n ⟨[(2, .ref 2 []), (3, .ref 3 []), (4, .ref 4 []), (8, .dat (.slc tTxn) x8), (9, .dat (.int .i64) x9), (10, .dat (.int .i64) x10)], [(2, .dat tState m2), (3, .dat tDelta m3), (4, .pr (.own tTxn m4a) (.pr (.own tUndo m4ba) (.pr (.pr (.dat tVec m4bbaa) (.own tDot m4bbab)) (.pr (.pr (.dat tVec m4bbbaa) (.own tDot m4bbbab)) (.dat (.arr 8 (.slc tDot)) m4bbbb)))))]⟩
set_option maxRecDepth 100000 in
theorem record_Merged.f_eq (k : Nat) (a0 : Ty.D tState) (a1 : Ty.D tDelta) : record_Merged.f k a0 a1 =
  record_Merged.l2 k k a1.1 (ilen a1.1) 0 a0 a1 [] [] (zarr 16 0) [] (zarr 16 0) [] (zarr 8 []) := by kernel_rfl
set_option maxRecDepth 100000 in
theorem record_Merged.l2_eq (k : Nat) (n2 : Nat) (x8 : Ty.D (.slc tTxn)) (x9 : Ty.D (.int .i64)) (x10 : Ty.D (.int .i64)) (m2 : Ty.D tState) (m3 : Ty.D tDelta) (m4a : List (Ty.D tTxn)) (m4ba : List (Ty.D tUndo)) (m4bbaa : Ty.D tVec) (m4bbab : List (Ty.D tDot)) (m4bbbaa : Ty.D tVec) (m4bbbab : List (Ty.D tDot)) (m4bbbb : Ty.D (.arr 8 (.slc tDot))) : record_Merged.l2 k (n2 + 1) x8 x9 x10 m2 m3 m4a m4ba m4bbaa m4bbab m4bbbaa m4bbbab m4bbbb =
  br (ilt x10 x9)
    (br (inL x10 x8)
      (bnd (state_Put.f k m2 (rd tTxn x8 (natOf x10))) fun r0 =>
      record_Merged.l2 k n2 x8 x9 (iadd .i64 x10 1) r0 m3 m4a m4ba m4bbaa m4bbab m4bbbaa m4bbbab m4bbbb)
      (none))
    (bnd (state_Raise.f k m2 m3.2.1) fun r1 =>
    bnd (state_Seal.f k r1 m3.2.2) fun r2 =>
    some r2) := by kernel_rfl
noncomputable def record_Merged.e (k : Nat) : Entry := Sg.entry record_Merged.sg fun x => record_Merged.f k x.1 x.2
set_option maxRecDepth 100000 in
theorem record_Merged.ok (k : Nat) : CallOK Tryz.prog 30 (record_Merged.e k) :=
  fn_ok (c := record_Merged.cx k) (code := record_Merged.body) (TT.of tt_ok pp_ok) (fns_ok ⟨(state_Put.ok k), (state_Raise.ok k), (state_Seal.ok k), trivial⟩) mixed Tryz.func30 (by kernel_rfl) (by kernel_rfl) (by kernel_rfl) (by kernel_rfl) (by kernel_rfl) (by kernel_rfl) (fun x => by kernel_rfl)
noncomputable def law29_PeerSettles.body : Go.Code := Tryz.f6.body.getD .skip
noncomputable def law29_PeerSettles.rs : List Go.ResultVar := Tryz.f6.results.toList
def law29_PeerSettles.regs : List (Nat × RInfo) := [(0, ⟨[3, 4, 5], [3, 4, 5], [0, 1, 2], [], 0, [], [], [], []⟩),
  (1, ⟨[3, 4, 5, 35], [3, 4, 5], [], [], 20, [], [], [], []⟩),
  (2, ⟨[6], [36, 87, 114], [], [], 0, [], [], [], []⟩),
  (3, ⟨[3, 4, 5, 7, 8], [3, 4, 5, 38], [], [], 0, [], [], [], []⟩),
  (4, ⟨[3, 4, 7, 48], [3, 4, 38], [], [], 0, [], [], [], []⟩),
  (5, ⟨[6], [36, 87, 114], [], [], 0, [], [], [], []⟩),
  (6, ⟨[3, 4, 7, 9, 10], [3, 4, 9, 38, 52], [7], [], 0, [], [], [], []⟩),
  (7, ⟨[3, 7, 10, 11], [3, 11, 38, 52], [5], [], 0, [], [], [], []⟩),
  (8, ⟨[3, 7, 67], [3, 38], [], [], 0, [], [], [], []⟩),
  (9, ⟨[6], [36, 87, 114], [], [], 0, [], [], [], []⟩),
  (10, ⟨[3, 7, 12, 13], [3, 12, 38, 71], [7], [], 0, [], [], [], []⟩),
  (11, ⟨[3, 7, 12, 13], [3, 12, 38, 71], [], [], 0, [], [], [], []⟩),
  (12, ⟨[3, 12, 13, 14, 15], [3, 12, 14, 71, 79], [7], [], 0, [], [], [], []⟩),
  (13, ⟨[6], [36, 87, 114], [], [], 0, [], [], [], []⟩)]
noncomputable def law29_PeerSettles.cx (k : Nat) : Cx := ⟨tt, pp, [(25, (ref22_Good.e k)),
  (20, (ref24_Good.e k)),
  (26, (ref24_Of.e k)),
  (17, (ref24_Within.e k)),
  (14, (law29_awake.e k)),
  (27, (peer_New.e k)),
  (28, (peer_Peers_Heard.e k)),
  (29, (peer_Peers_Offer.e k)),
  (30, (record_Merged.e k)),
  (31, (delta_Of.e k)),
  (32, (peer_Peers_Forget.e k)),
  (33, (delta_Empty.e k))], law29_PeerSettles.regs, k⟩
@[reducible] def law29_PeerSettles.sg : Sg := ⟨[.dat tState, .dat tState, .dat tKnow], [], .dat .bool, []⟩
noncomputable def law29_PeerSettles.f (k : Nat) (a0 : Ty.D tState) (a1 : Ty.D tState) (a2 : Ty.D tKnow) : Option (Sg.Out law29_PeerSettles.sg) := Sg.fn law29_PeerSettles.sg (law29_PeerSettles.cx k) law29_PeerSettles.body law29_PeerSettles.rs (a0, a1, a2)
set_option maxRecDepth 100000 in
theorem law29_PeerSettles.f_eq (k : Nat) (a0 : Ty.D tState) (a1 : Ty.D tState) (a2 : Ty.D tKnow) : law29_PeerSettles.f k a0 a1 a2 =
  bnd (ref22_Good.f k a0) fun r0 =>
  br (bnot r0)
    (bnd (law29_awake.f k) fun r1 =>
    some r1)
    (bnd (ref22_Good.f k a1) fun r2 =>
    br (bnot r2)
      (bnd (law29_awake.f k) fun r3 =>
      some r3)
      (bnd (ref24_Good.f k a2) fun r4 =>
      br (bnot r4)
        (bnd (law29_awake.f k) fun r5 =>
        some r5)
        (bnd (ref24_Of.f k a1) fun r6 =>
        bnd (ref24_Within.f k a2 r6) fun r7 =>
        br (bnot r7)
          (bnd (law29_awake.f k) fun r8 =>
          some r8)
          (bnd (peer_New.f k 1 4) fun r9 =>
          br (bnot (ieq r9.1 0))
            (some false)
            (bnd (peer_Peers_Heard.f k 3 a2 r9.2) fun r10 =>
            br (bnot (ieq r10.1 0))
              (some false)
              (bnd (peer_Peers_Offer.f k a0 3 r10.2) fun r11 =>
              bnd (record_Merged.f k a1 r11.1.1.2.2.2.1) fun r12 =>
              br (bnot (ieq r11.1.2 0))
                (some false)
                (bnd (delta_Of.f k r12) fun r13 =>
                bnd (peer_Peers_Heard.f k 3 r13 r11.2) fun r14 =>
                br (bnot (ieq r14.1 0))
                  (some false)
                  (bnd (peer_Peers_Offer.f k a0 3 r14.2) fun r15 =>
                  bnd (peer_Peers_Forget.f k r15.2) fun r16 =>
                  bnd (peer_Peers_Offer.f k a0 3 r16.2) fun r17 =>
                  br (ieq r15.1.2 0)
                    (bnd (delta_Empty.f k r15.1.1.2.2.2.1) fun r18 =>
                    br r18
                      (br (ieq r17.1.2 0)
                        (br (ieq (ilen r17.1.1.2.2.2.1.1) (ilen a0.1))
                          (br (ieq (ilen r17.1.1.2.2.2.1.2.1) (ilen a0.2.1))
                            (bnd (law29_awake.f k) fun r19 =>
                            some r19)
                            (some false))
                          (some false))
                        (some false))
                      (some false))
                    (some false))))))))) := by kernel_rfl
noncomputable def law29_PeerSettles.e (k : Nat) : Entry := Sg.entry law29_PeerSettles.sg fun x => law29_PeerSettles.f k x.1 x.2.1 x.2.2
set_option maxRecDepth 100000 in
theorem law29_PeerSettles.ok (k : Nat) : CallOK Tryz.prog 6 (law29_PeerSettles.e k) :=
  fn_ok (c := law29_PeerSettles.cx k) (code := law29_PeerSettles.body) (TT.of tt_ok pp_ok) (fns_ok ⟨(ref22_Good.ok k), (ref24_Good.ok k), (ref24_Of.ok k), (ref24_Within.ok k), (law29_awake.ok k), (peer_New.ok k), (peer_Peers_Heard.ok k), (peer_Peers_Offer.ok k), (record_Merged.ok k), (delta_Of.ok k), (peer_Peers_Forget.ok k), (delta_Empty.ok k), trivial⟩) mixed Tryz.func6 (by kernel_rfl) (by kernel_rfl) (by kernel_rfl) (by kernel_rfl) (by kernel_rfl) (by kernel_rfl) (fun x => by kernel_rfl)
end Go.Proofs.YtoikjekpckhgeaaGreat
end
section
/- Sets of dots: one way to stand. -/
namespace Go.Proofs.YtoikjekpckhgeaaGreat
open Pal
abbrev Vec := List Int
abbrev DSet := Vec × List Dot
def vat (v : Vec) (r : Int) : Int := rd (.int .i64) v (natOf r)
theorem rightD_iff (d : Dot) : rightD d = true ↔ 0 ≤ d.1 ∧ d.1 < 16 ∧ 1 ≤ d.2 ∧ d.2 ≤ 1048576 := by unfold rightD; rw [decide_eq_true_iff]
theorem vat_get {v : Vec} {i : Nat} (h : i < v.length) : vat v (i : Int) = v[i] := by unfold vat; rw [natOf_nat]; exact rd_at' (e := .int .i64) h
theorem vat_upd {v : Vec} {r : Int} {x : Int} (h0 : 0 ≤ r) (h1 : r < v.length) (q : Int) (hq : 0 ≤ q) : vat (upd v (natOf r) x) q = if q = r then x else vat v q := by
  obtain ⟨a, rfl⟩ := Int.eq_ofNat_of_zero_le h0
  obtain ⟨b, rfl⟩ := Int.eq_ofNat_of_zero_le hq
  have ha : a < v.length := by omega
  show ((v.set a x).getD b (0 : Int)) = if ((b : Int) = (a : Int)) then x else v.getD b (0 : Int)
  rw [List.getD_eq_getElem?_getD, List.getD_eq_getElem?_getD, List.getElem?_set]
  by_cases h : a = b
  · subst h; rw [if_pos rfl, if_pos ha, if_pos rfl]; rfl
  · rw [if_neg h, if_neg (by omega)]
structure VOk (v : Vec) : Prop where
  len : v.length = 16
  lo : ∀ r, 0 ≤ r → r < 16 → 0 ≤ vat v r
  hi : ∀ r, 0 ≤ r → r < 16 → vat v r ≤ 1048576
structure Can (s : DSet) : Prop where
  vok : VOk s.1
  rt : ∀ d ∈ s.2, rightD d = true
  gap : ∀ d ∈ s.2, vat s.1 d.1 + 1 < d.2
  srt : s.2.Pairwise (fun a b => dotLt a b = true)
def Mem (s : DSet) (d : Dot) : Prop := rightD d = true ∧ (d.2 ≤ vat s.1 d.1 ∨ d ∈ s.2)
theorem vec_ext {v u : Vec} (h1 : v.length = 16) (h2 : u.length = 16) (h : ∀ r, 0 ≤ r → r < 16 → vat v r = vat u r) : v = u := by
  apply List.ext_getElem (by omega)
  intro i a b
  have := h (i : Int) (by omega) (by omega)
  rwa [vat_get a, vat_get b] at this
theorem dotLt_asym {a b : Dot} (h : dotLt a b = true) : dotLt b a = false := by
  rw [← Bool.not_eq_true, dotLt_iff]; rw [dotLt_iff] at h; omega
theorem srt_nodup {l : List Dot} (h : l.Pairwise (fun a b => dotLt a b = true)) : l.Nodup :=
  h.imp fun {a b} hab e => by subst e; rw [dotLt_swo.irrefl] at hab; cases hab
theorem srt_unique {l m : List Dot} (h1 : l.Pairwise (fun a b => dotLt a b = true)) (h2 : m.Pairwise (fun a b => dotLt a b = true)) (h : ∀ d, d ∈ l ↔ d ∈ m) : l = m :=
  sorted_unique dotLt_tot ((List.perm_ext_iff_of_nodup (srt_nodup h1) (srt_nodup h2)).2 h) (h1.imp dotLt_asym) (h2.imp dotLt_asym)
theorem can_le {s t : DSet} (hs : Can s) (ht : Can t) (h : ∀ d, Mem s d → Mem t d) (r : Int) (h0 : 0 ≤ r) (h1 : r < 16) : vat s.1 r ≤ vat t.1 r := by
  rcases (by omega : vat t.1 r < vat s.1 r ∨ vat s.1 r ≤ vat t.1 r) with hlt | hge
  · exfalso
    have a := ht.vok.lo r h0 h1
    have b := hs.vok.hi r h0 h1
    have hr : rightD (r, vat t.1 r + 1) = true := (rightD_iff _).2 ⟨h0, h1, by show 1 ≤ vat t.1 r + 1; omega, by show vat t.1 r + 1 ≤ 1048576; omega⟩
    have hm := h (r, vat t.1 r + 1) ⟨hr, .inl (by show vat t.1 r + 1 ≤ vat s.1 r; omega)⟩
    rcases hm.2 with c | c
    · have : vat t.1 r + 1 ≤ vat t.1 r := c; omega
    · have : vat t.1 r + 1 < vat t.1 r + 1 := ht.gap _ c; omega
  · exact hge
theorem can_unique {s t : DSet} (hs : Can s) (ht : Can t) (h : ∀ d, Mem s d ↔ Mem t d) : s = t := by
  have hv : ∀ r, 0 ≤ r → r < 16 → vat s.1 r = vat t.1 r := fun r h0 h1 => Int.le_antisymm (can_le hs ht (fun d => (h d).1) r h0 h1) (can_le ht hs (fun d => (h d).2) r h0 h1)
  apply Prod.ext
  · exact vec_ext hs.vok.len ht.vok.len hv
  · refine srt_unique hs.srt ht.srt fun d => ⟨fun hd => ?_, fun hd => ?_⟩
    · have hr := hs.rt d hd
      obtain ⟨a, b, _, _⟩ := (rightD_iff d).1 hr
      rcases ((h d).1 ⟨hr, .inr hd⟩).2 with c | c
      · have := hs.gap d hd; rw [hv d.1 a b] at this; omega
      · exact c
    · have hr := ht.rt d hd
      obtain ⟨a, b, _, _⟩ := (rightD_iff d).1 hr
      rcases ((h d).2 ⟨hr, .inr hd⟩).2 with c | c
      · have := ht.gap d hd; rw [← hv d.1 a b] at this; omega
      · exact c
/-- A dot more, that is behind all that are there. -/
def put1 (s : DSet) (d : Dot) : DSet :=
  if d.2 ≤ vat s.1 d.1 then s else if d.2 = vat s.1 d.1 + 1 then (upd s.1 (natOf d.1) d.2, s.2) else if s.2.getLast? = some d then s else (s.1, s.2 ++ [d])
theorem put1_can {s : DSet} {d : Dot} (hs : Can s) (hd : rightD d = true) (hb : ∀ e ∈ s.2, dotLt d e = false) : Can (put1 s d) ∧ (∀ x, Mem (put1 s d) x ↔ Mem s x ∨ x = d) ∧ (∀ e ∈ (put1 s d).2, e ∈ s.2 ∨ e = d) := by
  obtain ⟨a, b, c1, c2⟩ := (rightD_iff d).1 hd
  have hlen := hs.vok.len
  unfold put1
  by_cases h1 : d.2 ≤ vat s.1 d.1
  · rw [if_pos h1]
    exact ⟨hs, fun x => ⟨.inl, fun h => h.elim id fun e => by subst e; exact ⟨hd, .inl h1⟩⟩, fun e he => .inl he⟩
  · rw [if_neg h1]
    by_cases h2 : d.2 = vat s.1 d.1 + 1
    · rw [if_pos h2]
      have hne : ∀ e ∈ s.2, e.1 ≠ d.1 := fun e he hee => by
        have g := hs.gap e he
        have := hb e he
        rw [← Bool.not_eq_true, dotLt_iff] at this
        rw [hee] at g
        omega
      have hv : ∀ q, 0 ≤ q → q < 16 → vat (upd s.1 (natOf d.1) d.2) q = if q = d.1 then d.2 else vat s.1 q := fun q h0 _ => vat_upd a (by omega) q h0
      refine ⟨⟨⟨by simp [upd, hlen], fun r h0 h1 => ?_, fun r h0 h1 => ?_⟩, hs.rt, fun e he => ?_, hs.srt⟩, fun x => ⟨fun ⟨hr, h⟩ => ?_, fun h => ?_⟩, fun e he => .inl he⟩
      · rw [hv r h0 h1]; split
        · omega
        · exact hs.vok.lo r h0 h1
      · rw [hv r h0 h1]; split
        · omega
        · exact hs.vok.hi r h0 h1
      · obtain ⟨q0, q1, _, _⟩ := (rightD_iff e).1 (hs.rt e he)
        show vat (upd s.1 (natOf d.1) d.2) e.1 + 1 < e.2
        rw [hv e.1 q0 q1, if_neg (hne e he)]; exact hs.gap e he
      · obtain ⟨q0, q1, _, _⟩ := (rightD_iff x).1 hr
        rcases h with h | h
        · have h : x.2 ≤ vat (upd s.1 (natOf d.1) d.2) x.1 := h
          rw [hv x.1 q0 q1] at h
          split at h
          · rename_i hx
            by_cases he : x.2 = d.2
            · exact .inr (Prod.ext hx he)
            · exact .inl ⟨hr, .inl (by rw [hx]; omega)⟩
          · exact .inl ⟨hr, .inl h⟩
        · exact .inl ⟨hr, .inr h⟩
      · rcases h with ⟨hr, h⟩ | rfl
        · obtain ⟨q0, q1, _, _⟩ := (rightD_iff x).1 hr
          rcases h with h | h
          · refine ⟨hr, .inl ?_⟩
            show x.2 ≤ vat (upd s.1 (natOf d.1) d.2) x.1
            rw [hv x.1 q0 q1]; split
            · rename_i hx; rw [hx] at h; omega
            · exact h
          · exact ⟨hr, .inr h⟩
        · refine ⟨hd, .inl ?_⟩
          show x.2 ≤ vat (upd s.1 (natOf x.1) x.2) x.1
          rw [hv x.1 a b, if_pos rfl]; exact Int.le_refl _
    · rw [if_neg h2]
      by_cases h3 : s.2.getLast? = some d
      · rw [if_pos h3]
        have hmem : d ∈ s.2 := List.mem_of_getLast? h3
        exact ⟨hs, fun x => ⟨.inl, fun h => h.elim id fun e => by subst e; exact ⟨hd, .inr hmem⟩⟩, fun e he => .inl he⟩
      · rw [if_neg h3]
        have hlt : ∀ e ∈ s.2, dotLt e d = true := by
          intro e he
          cases hh : dotLt e d with
          | true => rfl
          | false =>
            exfalso
            have heq := dotLt_tot e d hh (hb e he)
            subst heq
            obtain ⟨p, q, hpq⟩ := List.append_of_mem he
            cases q with
            | nil => rw [hpq] at h3; simp at h3
            | cons z zs =>
              have hsr := hs.srt
              rw [hpq] at hsr
              have h5 := (List.pairwise_append.1 hsr).2.1
              have h6 := (List.pairwise_cons.1 h5).1 z (by simp)
              have h7 := hb z (by rw [hpq]; simp)
              rw [h6] at h7; cases h7
        refine ⟨⟨hs.vok, fun e he => ?_, fun e he => ?_, ?_⟩, fun x => ⟨fun ⟨hr, h⟩ => ?_, fun h => ?_⟩, fun e he => ?_⟩
        · rcases List.mem_append.1 he with he | he
          · exact hs.rt e he
          · rw [List.mem_singleton.1 he]; exact hd
        · rcases List.mem_append.1 he with he | he
          · exact hs.gap e he
          · rw [List.mem_singleton.1 he]; show vat s.1 d.1 + 1 < d.2; omega
        · exact List.pairwise_append.2 ⟨hs.srt, List.pairwise_singleton _ _, fun e he f hf => by rw [List.mem_singleton.1 hf]; exact hlt e he⟩
        · rcases h with h | h
          · exact .inl ⟨hr, .inl h⟩
          · rcases List.mem_append.1 h with h | h
            · exact .inl ⟨hr, .inr h⟩
            · exact .inr (List.mem_singleton.1 h)
        · rcases h with ⟨hr, h⟩ | rfl
          · exact ⟨hr, h.imp id fun h => List.mem_append.2 (.inl h)⟩
          · exact ⟨hd, .inr (List.mem_append.2 (.inr (by simp)))⟩
        · rcases List.mem_append.1 he with he | he
          · exact .inl he
          · exact .inr (List.mem_singleton.1 he)
def mk (v : Vec) (l : List Dot) : DSet := l.foldl put1 (v, [])
theorem mk_can {v : Vec} (hv : VOk v) : ∀ (l : List Dot), (∀ d ∈ l, rightD d = true) → l.Pairwise (fun a b => dotLt b a = false) →
    Can (mk v l) ∧ (∀ x, Mem (mk v l) x ↔ rightD x = true ∧ (x.2 ≤ vat v x.1 ∨ x ∈ l)) ∧ (mk v l).2.length ≤ l.length ∧ ∀ e ∈ (mk v l).2, e ∈ l := by
  have key : ∀ (l p : List Dot) (s : DSet), (∀ d ∈ p ++ l, rightD d = true) → (p ++ l).Pairwise (fun a b => dotLt b a = false) → Can s → (∀ x, Mem s x ↔ rightD x = true ∧ (x.2 ≤ vat v x.1 ∨ x ∈ p)) → s.2.length ≤ p.length → (∀ e ∈ s.2, e ∈ p) →
      Can (l.foldl put1 s) ∧ (∀ x, Mem (l.foldl put1 s) x ↔ rightD x = true ∧ (x.2 ≤ vat v x.1 ∨ x ∈ p ++ l)) ∧ (l.foldl put1 s).2.length ≤ (p ++ l).length ∧ ∀ e ∈ (l.foldl put1 s).2, e ∈ p ++ l := by
    intro l
    induction l with
    | nil => intro p s _ _ hc hm hl he; rw [List.append_nil]; exact ⟨hc, hm, hl, he⟩
    | cons d l ih =>
      intro p s hr hp hc hm hl he
      have hd : rightD d = true := hr d (by simp)
      have hbb : ∀ e ∈ s.2, dotLt d e = false := fun e hee => (List.pairwise_append.1 hp).2.2 e (he e hee) d (by simp)
      obtain ⟨c1, c2, c3⟩ := put1_can hc hd hbb
      have := ih (p ++ [d]) (put1 s d) (by simpa using hr) (by simpa using hp) c1 (fun x => by
          rw [c2, hm]
          constructor
          · rintro (⟨h1, h2⟩ | rfl)
            · exact ⟨h1, h2.imp id fun h => List.mem_append.2 (.inl h)⟩
            · exact ⟨hd, .inr (by simp)⟩
          · rintro ⟨h1, h2 | h2⟩
            · exact .inl ⟨h1, .inl h2⟩
            · rcases List.mem_append.1 h2 with h3 | h3
              · exact .inl ⟨h1, .inr h3⟩
              · exact .inr (List.mem_singleton.1 h3)) (by
          unfold put1; simp only [List.length_append, List.length_singleton]
          split
          · omega
          · split
            · show s.2.length ≤ _; omega
            · split
              · omega
              · simp; omega) (fun e hee => by
          rcases c3 e hee with h | h
          · exact List.mem_append.2 (.inl (he e h))
          · exact List.mem_append.2 (.inr (by simp [h])))
      rw [List.append_assoc] at this; exact this
  intro l hr hs
  have h0 : Can (v, []) := ⟨hv, fun d hd => by simp at hd, fun d hd => by simp at hd, List.Pairwise.nil⟩
  have := key l [] (v, []) (by simpa using hr) (by simpa using hs) h0 (fun x => by simp [Mem]) (Nat.le_refl _) (fun e he => he)
  exact this
end Go.Proofs.YtoikjekpckhgeaaGreat
end
section
/- Counts: rows of dots with numbers, in order; joined, put, looked up. Plain facts. -/
namespace Go.Proofs.YtoikjekpckhgeaaGreat
open Pal
abbrev Undo := Dot × Int
def rightU (u : Undo) : Bool := rightD u.1 && decide (1 ≤ u.2 ∧ u.2 ≤ 64)
theorem rightU_iff (u : Undo) : rightU u = true ↔ rightD u.1 = true ∧ 1 ≤ u.2 ∧ u.2 ≤ 64 := by simp [rightU]
structure CanU (l : List Undo) : Prop where
  rt : ∀ u ∈ l, rightU u = true
  srt : l.Pairwise (fun a b => dotLt a.1 b.1 = true)
def getU : List Undo → Dot → Int
  | [], _ => 0
  | u :: r, d => if u.1 = d then u.2 else getU r d
theorem CanU.nil : CanU [] := ⟨fun u hu => by simp at hu, List.Pairwise.nil⟩
theorem CanU.tail {u : Undo} {l : List Undo} (h : CanU (u :: l)) : CanU l := ⟨fun v hv => h.rt v (List.mem_cons_of_mem _ hv), (List.pairwise_cons.1 h.srt).2⟩
theorem CanU.head {u : Undo} {l : List Undo} (h : CanU (u :: l)) : ∀ v ∈ l, dotLt u.1 v.1 = true := (List.pairwise_cons.1 h.srt).1
theorem CanU.cons {u : Undo} {l : List Undo} (h : CanU l) (h1 : rightU u = true) (h2 : ∀ v ∈ l, dotLt u.1 v.1 = true) : CanU (u :: l) :=
  ⟨fun v hv => by rcases List.mem_cons.1 hv with rfl | hv; exact h1; exact h.rt v hv, List.pairwise_cons.2 ⟨h2, h.srt⟩⟩
theorem dotLt_ne {a b : Dot} (h : dotLt a b = true) : a ≠ b := fun e => by subst e; rw [dotLt_swo.irrefl] at h; cases h
theorem getU_none {l : List Undo} {d : Dot} (h : ∀ u ∈ l, u.1 ≠ d) : getU l d = 0 := by
  induction l with
  | nil => rfl
  | cons u l ih =>
    rw [getU, if_neg (h u (by simp))]
    exact ih fun v hv => h v (List.mem_cons_of_mem _ hv)
theorem getU_below {l : List Undo} {d : Dot} (h : ∀ u ∈ l, dotLt d u.1 = true) : getU l d = 0 := getU_none fun u hu e => dotLt_ne (h u hu) e.symm
theorem getU_mem {l : List Undo} {u : Undo} (h : CanU l) (hu : u ∈ l) : getU l u.1 = u.2 := by
  induction l with
  | nil => cases hu
  | cons v l ih =>
    rw [getU]
    rcases List.mem_cons.1 hu with e | hu
    · subst e; rw [if_pos rfl]
    · rw [if_neg (dotLt_ne (h.head u hu))]; exact ih h.tail hu
theorem getU_pos {l : List Undo} {d : Dot} (hp : getU l d ≠ 0) : (d, getU l d) ∈ l := by
  induction l with
  | nil => exact absurd rfl hp
  | cons v l ih =>
    rw [getU] at hp ⊢
    by_cases e : v.1 = d
    · rw [if_pos e]; subst e; simp
    · rw [if_neg e] at hp ⊢; exact List.mem_cons_of_mem _ (ih hp)
theorem getU_range {l : List Undo} (h : CanU l) (d : Dot) : 0 ≤ getU l d ∧ getU l d ≤ 64 := by
  by_cases hp : getU l d = 0
  · omega
  · have := (rightU_iff _).1 (h.rt _ (getU_pos hp))
    simp only at this; omega
theorem memU_iff {l : List Undo} (h : CanU l) (u : Undo) : u ∈ l ↔ getU l u.1 = u.2 ∧ 1 ≤ u.2 := by
  constructor
  · intro hu; exact ⟨getU_mem h hu, ((rightU_iff u).1 (h.rt u hu)).2.1⟩
  · rintro ⟨h1, h2⟩
    have := getU_pos (l := l) (d := u.1) (by omega)
    rwa [h1] at this
def undoLt (a b : Undo) : Bool := dotLt a.1 b.1 || (decide (a.1 = b.1) && decide (a.2 < b.2))
theorem undoLt_of {a b : Undo} (h : dotLt a.1 b.1 = true) : undoLt b a = false := by
  unfold undoLt
  rw [dotLt_asym h]
  have : ¬ b.1 = a.1 := fun e => dotLt_ne h e.symm
  simp [this]
theorem undoLt_tot (x y : Undo) (h1 : undoLt x y = false) (h2 : undoLt y x = false) : x = y := by
  unfold undoLt at h1 h2
  simp only [Bool.or_eq_false_iff, Bool.and_eq_false_iff, decide_eq_false_iff_not] at h1 h2
  have e := dotLt_tot x.1 y.1 h1.1 h2.1
  refine Prod.ext e ?_
  rcases h1.2 with h | h
  · exact absurd e h
  · rcases h2.2 with h' | h'
    · exact absurd e.symm h'
    · omega
theorem canU_nodup {l : List Undo} (h : CanU l) : l.Nodup := h.srt.imp fun {a b} hab e => by subst e; rw [dotLt_swo.irrefl] at hab; cases hab
theorem canU_unique {l m : List Undo} (h1 : CanU l) (h2 : CanU m) (h : ∀ d, getU l d = getU m d) : l = m := by
  refine sorted_unique undoLt_tot ((List.perm_ext_iff_of_nodup (canU_nodup h1) (canU_nodup h2)).2 fun u => ?_) (h1.srt.imp undoLt_of) (h2.srt.imp undoLt_of)
  rw [memU_iff h1, memU_iff h2, h]
/-! ### Joined -/
def joinU : List Undo → List Undo → List Undo
  | [], b => b
  | a, [] => a
  | x :: a, y :: b => if dotLt x.1 y.1 then x :: joinU a (y :: b) else if dotLt y.1 x.1 then y :: joinU (x :: a) b else (x.1, max x.2 y.2) :: joinU a b
termination_by a b => a.length + b.length
theorem joinU_nil (b : List Undo) : joinU [] b = b := by rw [joinU]
theorem joinU_nil' (a : List Undo) : joinU a [] = a := by cases a <;> simp [joinU]
theorem joinU_cons (x : Undo) (a : List Undo) (y : Undo) (b : List Undo) : joinU (x :: a) (y :: b) = if dotLt x.1 y.1 then x :: joinU a (y :: b) else if dotLt y.1 x.1 then y :: joinU (x :: a) b else (x.1, max x.2 y.2) :: joinU a b := by rw [joinU]
theorem dotLt_trans {a b c : Dot} (h1 : dotLt a b = true) (h2 : dotLt b c = true) : dotLt a c = true := dotLt_swo.trans _ _ _ h1 h2
theorem joinU_all : ∀ (n : Nat) (a b : List Undo), a.length + b.length ≤ n → CanU a → CanU b →
    CanU (joinU a b) ∧ (∀ d, getU (joinU a b) d = max (getU a d) (getU b d)) ∧ (∀ e : Dot, (∀ u ∈ a, dotLt e u.1 = true) → (∀ u ∈ b, dotLt e u.1 = true) → ∀ u ∈ joinU a b, dotLt e u.1 = true) ∧ (joinU a b).length ≤ a.length + b.length
  | n, [], b, _, ha, hb => by
    rw [joinU_nil]
    exact ⟨hb, fun d => by have := (getU_range hb d).1; show _ = max 0 (getU b d); omega, fun e _ h => h, by simp⟩
  | n, x :: a, [], _, ha, hb => by
    rw [joinU_nil']
    exact ⟨ha, fun d => by have := (getU_range ha d).1; show _ = max (getU (x :: a) d) 0; omega, fun e h _ => h, by simp⟩
  | 0, x :: a, y :: b, h, _, _ => by simp at h
  | n + 1, x :: a, y :: b, h, ha, hb => by
    simp only [List.length_cons] at h
    rw [joinU_cons]
    have hx := ha.rt x (by simp)
    have hy := hb.rt y (by simp)
    by_cases h1 : dotLt x.1 y.1 = true
    · obtain ⟨c1, c2, c3, c4⟩ := joinU_all n a (y :: b) (by simp only [List.length_cons]; omega) ha.tail hb
      have hb' : ∀ u ∈ y :: b, dotLt x.1 u.1 = true := fun u hu => by
        rcases List.mem_cons.1 hu with rfl | hu
        · exact h1
        · exact dotLt_trans h1 (hb.head u hu)
      rw [if_pos h1]
      refine ⟨c1.cons hx (c3 x.1 ha.head hb'), fun d => ?_, fun e h2 h3 u hu => ?_, by simp only [List.length_cons] at c4 ⊢; omega⟩
      · rw [getU, getU]
        by_cases e : x.1 = d
        · rw [if_pos e, if_pos e]
          subst e
          rw [getU_below hb']
          have := ((rightU_iff x).1 hx).2.1; omega
        · rw [if_neg e, if_neg e]; exact c2 d
      · rcases List.mem_cons.1 hu with rfl | hu
        · exact h2 _ (by simp)
        · exact c3 e (fun v hv => h2 v (List.mem_cons_of_mem _ hv)) h3 u hu
    · rw [if_neg h1]
      by_cases h2 : dotLt y.1 x.1 = true
      · obtain ⟨c1, c2, c3, c4⟩ := joinU_all n (x :: a) b (by simp only [List.length_cons]; omega) ha hb.tail
        have ha' : ∀ u ∈ x :: a, dotLt y.1 u.1 = true := fun u hu => by
          rcases List.mem_cons.1 hu with rfl | hu
          · exact h2
          · exact dotLt_trans h2 (ha.head u hu)
        rw [if_pos h2]
        refine ⟨c1.cons hy (c3 y.1 ha' hb.head), fun d => ?_, fun e h3 h4 u hu => ?_, by simp only [List.length_cons] at c4 ⊢; omega⟩
        · rw [getU]
          by_cases e : y.1 = d
          · rw [if_pos e]
            subst e
            rw [getU_below ha']
            rw [show getU (y :: b) y.1 = y.2 by rw [getU, if_pos rfl]]
            have := ((rightU_iff y).1 hy).2.1; omega
          · rw [if_neg e, c2 d, show getU (y :: b) d = getU b d by rw [getU, if_neg e]]
        · rcases List.mem_cons.1 hu with rfl | hu
          · exact h4 _ (by simp)
          · exact c3 e h3 (fun v hv => h4 v (List.mem_cons_of_mem _ hv)) u hu
      · have hxy : x.1 = y.1 := dotLt_tot _ _ (by simpa using h1) (by simpa using h2)
        obtain ⟨c1, c2, c3, c4⟩ := joinU_all n a b (by omega) ha.tail hb.tail
        rw [if_neg h2]
        refine ⟨c1.cons ?_ (c3 x.1 ha.head (by rw [hxy]; exact hb.head)), fun d => ?_, fun e h3 h4 u hu => ?_, by simp only [List.length_cons] at c4 ⊢; omega⟩
        · rw [rightU_iff] at hx hy ⊢
          exact ⟨hx.1, by show 1 ≤ max x.2 y.2; omega, by show max x.2 y.2 ≤ 64; omega⟩
        · rw [getU, getU, getU, ← hxy]
          by_cases e : x.1 = d
          · rw [if_pos e, if_pos e, if_pos e]
          · rw [if_neg e, if_neg e, if_neg e]; exact c2 d
        · rcases List.mem_cons.1 hu with rfl | hu
          · exact h3 x (by simp)
          · exact c3 e (fun v hv => h3 v (List.mem_cons_of_mem _ hv)) (fun v hv => h4 v (List.mem_cons_of_mem _ hv)) u hu
theorem joinU_can {a b : List Undo} (ha : CanU a) (hb : CanU b) : CanU (joinU a b) := (joinU_all _ a b (Nat.le_refl _) ha hb).1
theorem joinU_get {a b : List Undo} (ha : CanU a) (hb : CanU b) (d : Dot) : getU (joinU a b) d = max (getU a d) (getU b d) := (joinU_all _ a b (Nat.le_refl _) ha hb).2.1 d
theorem joinU_len {a b : List Undo} (ha : CanU a) (hb : CanU b) : (joinU a b).length ≤ a.length + b.length := (joinU_all _ a b (Nat.le_refl _) ha hb).2.2.2
theorem joinU_comm {a b : List Undo} (ha : CanU a) (hb : CanU b) : joinU a b = joinU b a :=
  canU_unique (joinU_can ha hb) (joinU_can hb ha) fun d => by rw [joinU_get ha hb, joinU_get hb ha]; omega
theorem joinU_assoc {a b c : List Undo} (ha : CanU a) (hb : CanU b) (hc : CanU c) : joinU (joinU a b) c = joinU a (joinU b c) :=
  canU_unique (joinU_can (joinU_can ha hb) hc) (joinU_can ha (joinU_can hb hc)) fun d => by
    rw [joinU_get (joinU_can ha hb) hc, joinU_get ha (joinU_can hb hc), joinU_get ha hb, joinU_get hb hc]; omega
theorem joinU_eq {a b : List Undo} (ha : CanU a) (hb : CanU b) : joinU a b = b ↔ ∀ d, getU a d ≤ getU b d := by
  constructor
  · intro h d; have := joinU_get ha hb d; rw [h] at this; omega
  · intro h; exact canU_unique (joinU_can ha hb) hb fun d => by rw [joinU_get ha hb]; have := h d; omega
theorem leU_iff {a b : List Undo} (ha : CanU a) (hb : CanU b) : (∀ d, getU a d ≤ getU b d) ↔ ∀ u ∈ a, u.2 ≤ getU b u.1 := by
  constructor
  · intro h u hu; rw [← getU_mem ha hu]; exact h u.1
  · intro h d
    by_cases hp : getU a d = 0
    · have := (getU_range hb d).1; omega
    · exact h _ (getU_pos hp)
/-! ### Put -/
def putF (u : Undo) : List Undo → List Undo
  | [] => [u]
  | x :: r => if cmpD u.1 x.1 ≤ 0 then u :: (x :: r).filter (fun y => decide (y.1 ≠ u.1)) else x :: putF u r
theorem cmpD_le (a b : Dot) : cmpD a b ≤ 0 ↔ dotLt b a = false := by
  rw [← Bool.not_eq_true, dotLt_iff]
  unfold cmpD
  by_cases h : a.1 = b.1
  · rw [if_pos ((cmpI_eq _ _).2 h)]
    unfold cmpI; split <;> (try split) <;> omega
  · rw [if_neg (fun e => h ((cmpI_eq _ _).1 e))]
    unfold cmpI; split <;> (try split) <;> omega
theorem cmpD_eq (a b : Dot) : cmpD a b = 0 ↔ a = b := by
  unfold cmpD
  by_cases h : a.1 = b.1
  · rw [if_pos ((cmpI_eq _ _).2 h), cmpI_eq]
    exact ⟨fun e => Prod.ext h e, fun e => by rw [e]⟩
  · rw [if_neg (fun e => h ((cmpI_eq _ _).1 e)), cmpI_eq]
    exact ⟨fun e => absurd e h, fun e => by rw [e]⟩
theorem filter_can {l : List Undo} (h : CanU l) (p : Undo → Bool) : CanU (l.filter p) := ⟨fun u hu => h.rt u (List.mem_filter.1 hu).1, h.srt.filter _⟩
theorem filter_get {l : List Undo} {d e : Dot} (h : d ≠ e) : getU (l.filter (fun y => decide (y.1 ≠ e))) d = getU l d := by
  induction l with
  | nil => rfl
  | cons u l ih =>
    rw [getU]
    by_cases hu : u.1 = e
    · rw [List.filter_cons_of_neg (by simp [hu]), if_neg (by rw [hu]; exact h.symm)]; exact ih
    · rw [List.filter_cons_of_pos (by simp [hu]), getU, ih]
theorem putF_all {u : Undo} (hu : rightU u = true) : ∀ (l : List Undo), CanU l → CanU (putF u l) ∧ (∀ d, getU (putF u l) d = if d = u.1 then u.2 else getU l d) ∧ (∀ e : Dot, dotLt e u.1 = true → (∀ v ∈ l, dotLt e v.1 = true) → ∀ v ∈ putF u l, dotLt e v.1 = true) ∧ (putF u l).length ≤ l.length + 1
  | [], _ => by
    refine ⟨CanU.nil.cons hu fun v hv => by simp at hv, fun d => ?_, fun e h _ v hv => ?_, by simp [putF]⟩
    · show (if u.1 = d then u.2 else (0 : Int)) = if d = u.1 then u.2 else 0
      by_cases e : u.1 = d
      · rw [if_pos e, if_pos e.symm]
      · rw [if_neg e, if_neg (fun h => e h.symm)]
    · simp [putF] at hv; subst hv; exact h
  | x :: r, h => by
    rw [putF]
    by_cases hc : cmpD u.1 x.1 ≤ 0
    · rw [if_pos hc]
      have hf : ∀ v ∈ (x :: r).filter (fun y => decide (y.1 ≠ u.1)), dotLt u.1 v.1 = true := fun v hv => by
        obtain ⟨hv, hne⟩ := List.mem_filter.1 hv
        have hne : v.1 ≠ u.1 := by simpa using hne
        have hx := (cmpD_le _ _).1 hc
        rcases List.mem_cons.1 hv with rfl | hv
        · cases hl : dotLt u.1 v.1 with
          | true => rfl
          | false => exact absurd (dotLt_tot _ _ hx hl) hne
        · have h1 := h.head v hv
          cases hl : dotLt u.1 x.1 with
          | true => exact dotLt_trans hl h1
          | false => rw [dotLt_tot _ _ hl hx]; exact h1
      refine ⟨(filter_can h _).cons hu hf, fun d => ?_, fun e h1 h2 v hv => ?_, by have := List.length_filter_le (fun y : Undo => decide (y.1 ≠ u.1)) (x :: r); simp only [List.length_cons] at this ⊢; omega⟩
      · rw [getU]
        by_cases e : u.1 = d
        · rw [if_pos e, if_pos e.symm]
        · rw [if_neg e, if_neg (fun h => e h.symm), filter_get (Ne.symm e)]
      · rcases List.mem_cons.1 hv with rfl | hv
        · exact h1
        · exact h2 v (List.mem_filter.1 hv).1
    · rw [if_neg hc]
      have hx : dotLt x.1 u.1 = true := by
        cases hl : dotLt x.1 u.1 with
        | true => rfl
        | false => exact absurd ((cmpD_le _ _).2 hl) hc
      obtain ⟨c1, c2, c3, c4⟩ := putF_all hu r h.tail
      refine ⟨c1.cons (h.rt x (by simp)) (c3 x.1 hx h.head), fun d => ?_, fun e h1 h2 v hv => ?_, by simp only [List.length_cons]; omega⟩
      · rw [getU, getU, c2]
        by_cases e : x.1 = d
        · rw [if_pos e, if_pos e, if_neg]; rw [← e]; exact dotLt_ne hx
        · rw [if_neg e, if_neg e]
      · rcases List.mem_cons.1 hv with rfl | hv
        · exact h2 _ (by simp)
        · exact c3 e h1 (fun v hv => h2 v (List.mem_cons_of_mem _ hv)) v hv
def putU (l : List Undo) (u : Undo) : List Undo := if rightU u = true ∧ getU l u.1 < u.2 then putF u l else l
theorem putU_can {l : List Undo} (h : CanU l) (u : Undo) : CanU (putU l u) ∧ (rightU u = true → ∀ d, getU (putU l u) d = if d = u.1 then max (getU l d) u.2 else getU l d) ∧ (putU l u).length ≤ l.length + 1 := by
  unfold putU
  by_cases hu : rightU u = true ∧ getU l u.1 < u.2
  · rw [if_pos hu]
    obtain ⟨c1, c2, _, c4⟩ := putF_all hu.1 l h
    refine ⟨c1, fun _ d => ?_, c4⟩
    rw [c2]
    by_cases e : d = u.1
    · rw [if_pos e, if_pos e, e]; omega
    · rw [if_neg e, if_neg e]
  · rw [if_neg hu]
    refine ⟨h, fun hr d => ?_, by omega⟩
    by_cases e : d = u.1
    · rw [if_pos e, e]
      have : ¬ getU l u.1 < u.2 := fun hh => hu ⟨hr, hh⟩
      omega
    · rw [if_neg e]
theorem putUs_can : ∀ (m l : List Undo), CanU l → (∀ u ∈ m, rightU u = true) → m.Pairwise (fun a b => dotLt a.1 b.1 = true) → CanU (m.foldl putU l) ∧ (∀ d, getU (m.foldl putU l) d = max (getU l d) (getU m d)) ∧ (m.foldl putU l).length ≤ l.length + m.length
  | [], l, h, _, _ => ⟨h, fun d => by have := (getU_range h d).1; show getU l d = max (getU l d) 0; omega, by simp⟩
  | u :: m, l, h, hr, hs => by
    obtain ⟨a, b, c⟩ := putU_can h u
    have hu := hr u (by simp)
    have hm := List.pairwise_cons.1 hs
    obtain ⟨p, q, r⟩ := putUs_can m (putU l u) a (fun v hv => hr v (List.mem_cons_of_mem _ hv)) hm.2
    simp only [List.foldl_cons, List.length_cons]
    refine ⟨p, fun d => ?_, by omega⟩
    rw [q, b hu, getU]
    by_cases e : u.1 = d
    · have h0 : getU m d = 0 := by rw [← e]; exact getU_below hm.1
      have h1 := ((rightU_iff u).1 hu).2.1
      have h2 := (getU_range h d).1
      rw [if_pos e, if_pos e.symm, h0]; omega
    · rw [if_neg e, if_neg (fun h => e h.symm)]
theorem rjoin_eq {a b : List Undo} (ha : CanU a) (hb : CanU b) : b.foldl putU a = joinU a b := by
  obtain ⟨p, q, _⟩ := putUs_can b a ha hb.rt hb.srt
  exact canU_unique p (joinU_can ha hb) fun d => by rw [q, joinU_get ha hb]
end Go.Proofs.YtoikjekpckhgeaaGreat
end
section
/- What the functions of the layer of dots compute. -/
namespace Go.Proofs.YtoikjekpckhgeaaGreat
open Pal
theorem iadd_s {a b : Int} (h1 : -1000000000000 ≤ a) (h2 : a ≤ 1000000000000) (h3 : -1000000000000 ≤ b) (h4 : b ≤ 1000000000000) : iadd .i64 a b = a + b := by
  have e1 : ((2 : Int) ^ 63) = 9223372036854775808 := by decide
  show IntKind.wrap .i64 (a + b) = _
  rw [wrap_i64 (by rw [e1]; omega) (by rw [e1]; omega)]
theorem isub_s {a b : Int} (h1 : -1000000000000 ≤ a) (h2 : a ≤ 1000000000000) (h3 : -1000000000000 ≤ b) (h4 : b ≤ 1000000000000) : isub .i64 a b = a - b := by
  have e1 : ((2 : Int) ^ 63) = 9223372036854775808 := by decide
  show IntKind.wrap .i64 (a - b) = _
  rw [wrap_i64 (by rw [e1]; omega) (by rw [e1]; omega)]
theorem inB16 {r : Int} (h0 : 0 ≤ r) (h1 : r < 16) : inB r 16 = true := by simp [inB, h0]; omega
theorem room1 {α : Type} {xs : List α} {x : α} (h : xs.length < 4000000) : room xs (x :: []) = true := by simp [room]; omega
theorem ile_dec (a b : Int) : ile a b = decide (a ≤ b) := rfl
theorem ilt_dec (a b : Int) : ilt a b = decide (a < b) := rfl
theorem deqD (a b : Dot) : deq tDot a b = decide (a = b) := deq_dec (τ := tDot) rfl a b
theorem last_rd {M : List Dot} {m : Nat} (hl : M.length = m + 1) (hb : m < 4000000) : rd tDot M (natOf (isub .i64 (ilen M) 1)) = M[m] := by
  rw [isub_s (by unfold ilen; omega) (by unfold ilen; omega) (by omega) (by omega), show ilen M - 1 = (m : Int) by unfold ilen; omega, natOf_nat]
  exact rd_at' (e := tDot) (by omega)
theorem last_in {M : List Dot} {m : Nat} (hl : M.length = m + 1) (hb : m < 4000000) : inL (isub .i64 (ilen M) 1) M = true := by
  rw [isub_s (by unfold ilen; omega) (by unfold ilen; omega) (by omega) (by omega), show ilen M - 1 = (m : Int) by unfold ilen; omega, inL_nat]
  simp; omega
theorem getLast_is {M : List Dot} {m : Nat} (hl : M.length = m + 1) : M.getLast? = some M[m] := by
  rw [List.getLast?_eq_getElem?]; exact List.getElem?_eq_some_iff.2 ⟨by omega, by simp [hl]⟩
theorem take_next {l : List Dot} {i : Nat} (hi : i < l.length) : l.take (i + 1) = l.take i ++ [l[i]] := by rw [List.take_add_one, List.getElem?_eq_getElem hi]; rfl
theorem made_l (k : Nat) (l : List Dot) (hl : l.length < 1000000) (hr : ∀ d ∈ l, rightD d = true) (hs : l.Pairwise (fun a b => dotLt b a = false)) (v : Vec) (hv : VOk v) (za : Vec) (zb : List Dot) : ∀ (n i : Nat), i ≤ l.length → l.length < n + i →
    dots_made.l3 k n l (ilen l) (i : Int) za zb (mk v (l.take i)).1 (mk v (l.take i)).2 = some (mk v l)
  | 0, i, h, h' => by omega
  | n + 1, i, h, h' => by
    rw [dots_made.l3_eq, ilt_nat, inL_nat, natOf_nat]
    by_cases hi : i < l.length
    · have hstep : mk v (l.take (i + 1)) = put1 (mk v (l.take i)) l[i] := by rw [take_next hi]; unfold mk; rw [List.foldl_append]; rfl
      obtain ⟨hc, hm, hml, _⟩ := mk_can hv (l.take i) (fun d hd => hr d (List.mem_of_mem_take hd)) (hs.sublist (List.take_sublist i l))
      have ih := made_l k l hl hr hs v hv za zb n (i + 1) (by omega) (by omega)
      rw [hstep] at ih
      have hmk : mk v (l.take i) = mk v (l.take i) := rfl
      generalize mk v (l.take i) = s at hc hm hml ih hstep ⊢
      obtain ⟨V, M⟩ := s
      obtain ⟨r0, r1, r2, r3⟩ := (rightD_iff l[i]).1 (hr _ (List.getElem_mem hi))
      rw [rd_at' (e := tDot) hi, iadd_nat (by omega)]
      obtain ⟨d, hd⟩ : ∃ d : Dot, d = l[i] := ⟨_, rfl⟩
      rw [← hd] at r0 r1 r2 r3 ih ⊢
      have hvv : rd (.int .i64) V (natOf d.1) = vat V d.1 := rfl
      have v0 := hc.vok.lo d.1 r0 r1
      have v1 := hc.vok.hi d.1 r0 r1
      have v0' : 0 ≤ vat V d.1 := v0
      have v1' : vat V d.1 ≤ 1048576 := v1
      have hML : M.length ≤ i := by have : M.length ≤ (l.take i).length := hml; rw [List.length_take] at this; omega
      simp only [hi, decide_true, br_true, inB16 r0 r1, hvv, ile_dec]
      rw [iadd_s (by omega) (by omega) (by omega) (by omega), ieq_dec, ieq_dec]
      unfold put1 at ih
      by_cases h1 : d.2 ≤ vat V d.1
      · simp only [h1, decide_true, br_true, if_true] at ih ⊢; exact ih
      · by_cases h2 : d.2 = vat V d.1 + 1
        · rw [if_neg h1, if_pos h2] at ih
          rw [decide_eq_false h1, decide_eq_true h2]; exact ih
        · simp only [h1, h2, decide_false, br_false, if_false] at ih ⊢
          rw [room1 (by omega)]
          cases hM : M.length with
          | zero =>
            have hM0 : M = [] := List.eq_nil_of_length_eq_zero hM
            subst hM0
            simp only [List.getLast?_nil, reduceCtorEq, if_false] at ih
            have : decide (ilen ([] : List Dot) = 0) = true := rfl
            rw [this]; simp only [br_true]; exact ih
          | succ m =>
            have h4 : ¬ (ilen M = 0) := by unfold ilen; omega
            rw [last_in hM (by omega), last_rd hM (by omega), deqD, bnot_dec]
            simp only [h4, decide_false, br_true, br_false]
            rw [getLast_is hM] at ih
            by_cases h5 : M[m] = d
            · simp only [h5, if_true, decide_true, decide_false, not_true, br_false] at ih ⊢; exact ih
            · have h6 : ¬ (some M[m] = some d) := fun e => h5 (Option.some.inj e)
              simp only [h5, h6, if_false, not_false_eq_true, decide_true, br_true] at ih ⊢; exact ih
    · have : i = l.length := by omega
      subst this
      simp only [List.take_length, Nat.lt_irrefl, decide_false, br_false]
theorem made_is (k : Nat) (l : List Dot) (hl : l.length < k) (hk : k < 1000000) (hr : ∀ d ∈ l, rightD d = true) (hs : l.Pairwise (fun a b => dotLt b a = false)) (v : Vec) (hv : VOk v) : dots_made.f k v l = some (mk v l) := by
  rw [dots_made.f_eq]
  exact made_l k l (by omega) hr hs v hv (zarr 16 0) [] k 0 (by omega) (by omega)
theorem vok0 : VOk (zarr 16 0) := ⟨rfl, fun r h0 h1 => by
    obtain ⟨a, rfl⟩ := Int.eq_ofNat_of_zero_le h0
    have : a < 16 := by omega
    have e : vat (zarr 16 0) (a : Int) = 0 := by rw [vat_get (by show a < 16; omega)]; exact List.getElem_replicate ..
    rw [e]; exact Int.le_refl _, fun r h0 h1 => by
    obtain ⟨a, rfl⟩ := Int.eq_ofNat_of_zero_le h0
    have e : vat (zarr 16 0) (a : Int) = 0 := by rw [vat_get (by show a < 16; omega)]; exact List.getElem_replicate ..
    rw [e]; decide⟩
theorem vat0 (r : Int) (h0 : 0 ≤ r) (h1 : r < 16) : vat (zarr 16 0) r = 0 := by
  obtain ⟨a, rfl⟩ := Int.eq_ofNat_of_zero_le h0
  rw [vat_get (by show a < 16; omega)]; exact List.getElem_replicate ..
/-- The set of some dots. -/
def ofD (l : List Dot) : DSet := mk (zarr 16 0) (isort dotLt (kept rightD l))
theorem kept_mem {l : List Dot} {d : Dot} : d ∈ isort dotLt (kept rightD l) ↔ d ∈ l ∧ rightD d = true := by
  rw [(isort_perm dotLt _).mem_iff]; unfold kept; rw [List.mem_filter]
theorem ofD_can (l : List Dot) : Can (ofD l) ∧ (∀ x, Mem (ofD l) x ↔ rightD x = true ∧ x ∈ l) ∧ (ofD l).2.length ≤ l.length := by
  obtain ⟨h1, h2, h3, _⟩ := mk_can vok0 (isort dotLt (kept rightD l)) (fun d hd => (kept_mem.1 hd).2) (isort_sorted dotLt_swo _)
  refine ⟨h1, fun x => ?_, ?_⟩
  · rw [show Mem (ofD l) x ↔ _ from h2 x, kept_mem]
    constructor
    · rintro ⟨a, b | b⟩
      · obtain ⟨q0, q1, q2, _⟩ := (rightD_iff x).1 a
        rw [vat0 x.1 q0 q1] at b; omega
      · exact ⟨a, b.1⟩
    · rintro ⟨a, b⟩; exact ⟨a, .inr ⟨b, a⟩⟩
  · refine Nat.le_trans h3 ?_
    rw [(isort_perm dotLt _).length_eq]; exact List.length_filter_le _ _
theorem of_is (k : Nat) (l : List Dot) (hl : l.length < k) (hk : k < 1000000) : dots_Of.f k l = some (ofD l) := by
  have h1 : room ([] : List Int) l = true := by simp [room]; omega
  have h2 : (kept rightD l).length ≤ l.length := List.length_filter_le _ _
  have h3 : room ([] : List Int) (kept dotKeep l) = true := by simp [room]; have : (kept dotKeep l).length ≤ l.length := h2; omega
  rw [dots_Of.f_eq, h1, h3]
  simp only [br_true]
  rw [made_is k _ (by rw [(isort_perm dotLt _).length_eq]; exact Nat.lt_of_le_of_lt h2 hl) hk (fun d hd => (kept_mem.1 hd).2) (isort_sorted dotLt_swo _) _ vok0]
  rfl
theorem ofD_perm {l m : List Dot} (h : ∀ d, d ∈ l ↔ d ∈ m) : ofD l = ofD m :=
  can_unique (ofD_can l).1 (ofD_can m).1 fun d => by rw [(ofD_can l).2.1, (ofD_can m).2.1, h]
theorem rright_is (k : Nat) (d : Dot) : ref04_Right.f k d = some (rightD d) := by
  rw [ref04_Right.f_eq]
  have : ile d.1 15 = ilt d.1 16 := by unfold ile ilt; congr 1; exact propext ⟨fun h => by omega, fun h => by omega⟩
  rw [this]
  have := right_is k d
  rw [dot_Right.f_eq] at this
  exact this
/-- Is it one of them? -/
def memB (s : DSet) (d : Dot) : Bool := rightD d && (decide (d.2 ≤ vat s.1 d.1) || decide (d ∈ s.2))
theorem memB_iff (s : DSet) (d : Dot) : memB s d = true ↔ Mem s d := by simp [memB, Mem]
theorem vhas_is (k : Nat) (v : Vec) (d : Dot) : vec_Has.f k v d = some (rightD d && decide (d.2 ≤ vat v d.1)) := by
  rw [vec_Has.f_eq, right_is]
  simp only [bnd]
  cases h : rightD d with
  | false => rfl
  | true =>
    obtain ⟨a, b, _, _⟩ := (rightD_iff d).1 h
    rw [inB16 a b]; rfl
theorem rvhas_is (k : Nat) (v : Vec) (d : Dot) : ref05_Has.f k v d = some (rightD d && decide (d.2 ≤ vat v d.1)) := by
  rw [ref05_Has.f_eq, rright_is]
  simp only [bnd]
  cases h : rightD d with
  | false => rfl
  | true =>
    obtain ⟨a, b, _, _⟩ := (rightD_iff d).1 h
    rw [inB16 a b]; rfl
theorem any_step {α : Type} {xs : List α} {i : Nat} (h : i < xs.length) (p : α → Bool) : (xs.drop i).any p = (p xs[i] || (xs.drop (i + 1)).any p) := by
  rw [List.drop_eq_getElem_cons h, List.any_cons]
theorem rhas_l (k : Nat) (s : DSet) (d : Dot) (hl : s.2.length < 1000000) : ∀ (n i : Nat), i ≤ s.2.length → s.2.length < n + i → ref06_Has.l4 k n (i : Int) s d = some ((s.2.drop i).any fun e => decide (e = d))
  | 0, i, h, h' => by omega
  | n + 1, i, h, h' => by
    rw [ref06_Has.l4_eq, ilt_nat, inL_nat, natOf_nat]
    by_cases hi : i < s.2.length
    · rw [any_step hi, rd_at' (e := tDot) hi, deqD, iadd_nat (by omega), rhas_l k s d hl n (i + 1) (by omega) (by omega)]
      by_cases he : s.2[i] = d <;> simp [hi, he, br_true, br_false]
    · rw [List.drop_of_length_le (by omega)]; simp [hi, br_false]
theorem any_mem (l : List Dot) (d : Dot) : (l.any fun e => decide (e = d)) = decide (d ∈ l) := by
  rw [Bool.eq_iff_iff]; simp
theorem rhas_is (k : Nat) (s : DSet) (d : Dot) (hl : s.2.length < k) (hk : k < 1000000) (hr : ∀ e ∈ s.2, rightD e = true) : ref06_Has.f k s d = some (memB s d) := by
  rw [ref06_Has.f_eq, rvhas_is]
  simp only [bnd]
  have := rhas_l k s d (by omega) k 0 (by omega) (by omega)
  rw [List.drop_zero, any_mem] at this
  rw [show ref06_Has.l4 k k 0 s d = _ from this]
  unfold memB
  cases h : rightD d with
  | false =>
    have : d ∉ s.2 := fun hd => by rw [hr d hd] at h; cases h
    simp [this, br_false]
  | true =>
    by_cases h2 : d.2 ≤ vat s.1 d.1 <;> simp [h2, br_true, br_false]
end Go.Proofs.YtoikjekpckhgeaaGreat
end
section
/- What the functions of the layer of dots compute, on. -/
namespace Go.Proofs.YtoikjekpckhgeaaGreat
open Pal
theorem wrap_u64 {n : Int} (h1 : 0 ≤ n) (h2 : n < 2 ^ 63) : IntKind.wrap .u64 n = n := by
  have e1 : ((2 : Int) ^ 63) = 9223372036854775808 := by decide
  rw [e1] at h2
  simp only [IntKind.wrap, IntKind.signed, IntKind.bits]
  simp
  omega
theorem mid_is {i j : Nat} (h : i + j < 1000000000) : iwrap .i64 (ishr .u64 (iwrap .u64 (iadd .i64 (i : Int) (j : Int))) 1) = (((i + j) / 2 : Nat) : Int) := by
  have e1 : ((2 : Int) ^ 63) = 9223372036854775808 := by decide
  rw [iadd_s (by omega) (by omega) (by omega) (by omega)]
  unfold iwrap ishr
  rw [wrap_u64 (by omega) (by rw [e1]; omega)]
  have e2 : (2 : Int) ^ (min (1 : Int).toNat (IntKind.bits .u64)) = 2 := by decide
  rw [e2, show (i : Int) + (j : Int) = ((i + j : Nat) : Int) by omega]
  have e3 : Int.fdiv ((i + j : Nat) : Int) 2 = (((i + j) / 2 : Nat) : Int) := by
    rw [Int.fdiv_eq_ediv_of_nonneg _ (by decide)]; rfl
  rw [e3, wrap_i64 (by rw [e1]; omega) (by rw [e1]; omega)]
/-- Where a dot is laid in, and whether it is there. -/
def Found (l : List Dot) (d : Dot) (p : Nat) (b : Bool) : Prop :=
  p ≤ l.length ∧ (∀ j (h : j < l.length), j < p → dotLt l[j] d = true) ∧ (∀ j (h : j < l.length), p ≤ j → dotLt l[j] d = false) ∧ b = decide (d ∈ l)
theorem srt_get {l : List Dot} (hs : l.Pairwise (fun a b => dotLt a b = true)) {i j : Nat} (hi : i < l.length) (hj : j < l.length) (h : i < j) : dotLt l[i] l[j] = true := List.pairwise_iff_getElem.1 hs i j hi hj h
theorem cmp_lt0 (a b : Dot) : ilt (cmpD a b) 0 = dotLt a b := rfl
theorem cmp_eq0 (a b : Dot) : ieq (cmpD a b) 0 = decide (a = b) := by
  rw [ieq_dec]; congr 1
  unfold cmpD
  apply propext
  by_cases h : a.1 = b.1
  · rw [if_pos ((cmpI_eq _ _).2 h), cmpI_eq]; exact ⟨fun h2 => Prod.ext h h2, fun e => by rw [e]⟩
  · rw [if_neg (fun e => h ((cmpI_eq _ _).1 e)), cmpI_eq]; exact ⟨fun e => absurd e h, fun e => by rw [e]⟩
theorem bs_l (k : Nat) (l : List Dot) (d : Dot) (hl : l.length < 1000000) (hs : l.Pairwise (fun a b => dotLt a b = true)) : ∀ (n i j : Nat), i ≤ j → j ≤ l.length → j < n + i → (∀ t (h : t < l.length), t < i → dotLt l[t] d = true) → (∀ t (h : t < l.length), j ≤ t → dotLt l[t] d = false) →
    ∃ p b, Found l d p b ∧ slices_BinarySearchFunc_api_Dot_api_Dot_api_Dot_dot_Compare.l3 (k + 3) n l (ilen l) (i : Int) (j : Int) d = some ((p : Int), b)
  | 0, i, j, h, _, h', _, _ => by omega
  | n + 1, i, j, hij, hj, hn, h1, h2 => by
    rw [slices_BinarySearchFunc_api_Dot_api_Dot_api_Dot_dot_Compare.l3_eq, ilt_nn, mid_is (by omega)]
    by_cases hlt : i < j
    · have hm : (i + j) / 2 < l.length := by omega
      rw [inL_nat, natOf_nat, rd_at' (e := tDot) hm, cmpD_is]
      simp only [hlt, hm, decide_true, br_true, br_false, bnd, cmp_lt0]
      have hi' : i ≤ (i + j) / 2 := by omega
      have hj' : (i + j) / 2 < j := by omega
      generalize (i + j) / 2 = m at hm hi' hj' ⊢
      cases hc : dotLt l[m] d with
      | true =>
        rw [iadd_nat (by omega)]
        simp only [br_true]
        exact bs_l k l d hl hs n (m + 1) j (by omega) hj (by omega) (fun t ht htm => by
          rcases Nat.lt_or_ge t m with h | h
          · exact dotLt_swo.trans _ _ _ (srt_get hs ht hm h) hc
          · have : t = m := by omega
            subst this; exact hc) h2
      | false =>
        simp only [br_false]
        exact bs_l k l d hl hs n i m hi' (by omega) (by omega) h1 (fun t ht htm => by
          rcases Nat.lt_or_ge m t with h | h
          · cases hh : dotLt l[t] d with
            | false => rfl
            | true => exfalso; have := dotLt_swo.trans _ _ _ (srt_get hs hm ht h) hh; rw [hc] at this; cases this
          · have : t = m := by omega
            subst this; exact hc)
    · have : i = j := by omega
      subst this
      have hge : ∀ t (h : t < l.length), l[t] = d → i ≤ t := fun t h e => by
        rcases Nat.lt_or_ge t i with hh | hh
        · have := h1 t h hh; rw [e, dotLt_swo.irrefl] at this; cases this
        · exact hh
      simp only [Nat.lt_irrefl, decide_false, br_false, ilt_nat, inL_nat, natOf_nat]
      by_cases hil : i < l.length
      · rw [rd_at' (e := tDot) hil, cmpD_is]
        simp only [hil, decide_true, br_true, bnd, cmp_eq0]
        refine ⟨i, _, ⟨hj, h1, h2, ?_⟩, rfl⟩
        congr 1
        apply propext
        constructor
        · intro e; rw [← e]; exact List.getElem_mem hil
        · intro e
          obtain ⟨t, ht, he⟩ := List.getElem_of_mem e
          have h3 := hge t ht he
          rcases Nat.lt_or_ge i t with hh | hh
          · have h4 := srt_get hs hil ht hh
            rw [he] at h4
            have := h2 i hil (Nat.le_refl _)
            rw [h4] at this; cases this
          · have : t = i := by omega
            subst this; exact he
      · simp only [hil, decide_false, br_false]
        refine ⟨i, _, ⟨hj, h1, h2, ?_⟩, rfl⟩
        symm; rw [decide_eq_false_iff_not]
        intro e
        obtain ⟨t, ht, he⟩ := List.getElem_of_mem e
        have := hge t ht he; omega
theorem bs_is (k : Nat) (l : List Dot) (d : Dot) (h3 : 3 ≤ k) (hl : l.length < k) (hk : k < 1000000) (hs : l.Pairwise (fun a b => dotLt a b = true)) : ∃ p b, Found l d p b ∧ slices_BinarySearchFunc_api_Dot_api_Dot_api_Dot_dot_Compare.f k l d = some ((p : Int), b) := by
  obtain ⟨q, rfl⟩ : ∃ q, k = q + 3 := ⟨k - 3, by omega⟩
  rw [slices_BinarySearchFunc_api_Dot_api_Dot_api_Dot_dot_Compare.f_eq]
  exact bs_l q l d (by omega) hs (q + 3) 0 l.length (by omega) (Nat.le_refl _) (by omega) (fun t _ h => by omega) (fun t h h' => by omega)
theorem has_is (k : Nat) (s : DSet) (d : Dot) (h3 : 3 ≤ k) (hl : s.2.length < k) (hk : k < 1000000) (hs : Can s) : dots_Has.f k s d = some (memB s d) := by
  rw [dots_Has.f_eq, vhas_is]
  simp only [bnd]
  obtain ⟨p, b, hf, he⟩ := bs_is k s.2 d h3 hl hk hs.srt
  rw [he, hf.2.2.2]
  unfold memB
  cases h : rightD d with
  | false =>
    have : d ∉ s.2 := fun hd => by rw [hs.rt d hd] at h; cases h
    simp [this, br_false]
  | true =>
    by_cases h2 : d.2 ≤ vat s.1 d.1 <;> simp [h2, br_true, br_false]
/-- A dot laid in its place. -/
def insR (d : Dot) : List Dot → List Dot
  | [] => [d]
  | y :: r => if dotLt d y then d :: y :: r else y :: insR d r
theorem insR_perm (d : Dot) : ∀ l, (insR d l).Perm (d :: l)
  | [] => List.Perm.refl _
  | y :: r => by
    unfold insR
    split
    · exact List.Perm.refl _
    · exact ((insR_perm d r).cons y).trans (List.Perm.swap d y r)
theorem insR_srt {d : Dot} : ∀ {l : List Dot}, l.Pairwise (fun a b => dotLt a b = true) → d ∉ l → (insR d l).Pairwise (fun a b => dotLt a b = true)
  | [], _, _ => List.pairwise_singleton _ _
  | y :: r, h, hd => by
    have h' := List.pairwise_cons.1 h
    unfold insR
    split
    · rename_i hy
      refine List.pairwise_cons.2 ⟨fun z hz => ?_, h⟩
      rcases List.mem_cons.1 hz with rfl | hz
      · exact hy
      · exact dotLt_swo.trans _ _ _ hy (h'.1 z hz)
    · rename_i hy
      have hyd : dotLt y d = true := by
        cases hh : dotLt y d with
        | true => rfl
        | false => exact absurd (by rw [dotLt_tot y d hh (by simpa using hy)]; exact List.mem_cons_self) hd
      refine List.pairwise_cons.2 ⟨fun z hz => ?_, insR_srt h'.2 (fun hh => hd (List.mem_cons_of_mem _ hh))⟩
      rcases List.mem_cons.1 ((insR_perm d r).mem_iff.1 hz) with rfl | hz
      · exact hyd
      · exact h'.1 z hz
theorem insAt_is {l : List Dot} {d : Dot} {p : Nat} {b : Bool} (hf : Found l d p b) (hd : d ∉ l) (hs : l.Pairwise (fun a b => dotLt a b = true)) : insAt l (p : Int) (d :: []) = insR d l := by
  have hlt : ∀ t (h : t < l.length), p ≤ t → dotLt d l[t] = true := fun t h hp => by
    cases hh : dotLt d l[t] with
    | true => rfl
    | false => exact absurd (by rw [dotLt_tot d l[t] hh (hf.2.2.1 t h hp)]; exact List.getElem_mem h) hd
  have e : insAt l (p : Int) (d :: []) = l.take p ++ d :: l.drop p := rfl
  refine srt_unique ?_ (insR_srt hs hd) fun x => ?_
  · rw [e]
    refine List.pairwise_append.2 ⟨hs.sublist (List.take_sublist _ _), List.pairwise_cons.2 ⟨fun z hz => ?_, hs.sublist (List.drop_sublist _ _)⟩, fun x hx y hy => ?_⟩
    · obtain ⟨t, ht, rfl⟩ := List.getElem_of_mem hz
      rw [List.getElem_drop]
      exact hlt _ (by rw [List.length_drop] at ht; omega) (by omega)
    · obtain ⟨t, ht, rfl⟩ := List.getElem_of_mem hx
      rw [List.getElem_take]
      have ht2 : t < p ∧ t < l.length := by rw [List.length_take] at ht; omega
      have h1 := hf.2.1 t ht2.2 ht2.1
      rcases List.mem_cons.1 hy with rfl | hy
      · exact h1
      · obtain ⟨u, hu, rfl⟩ := List.getElem_of_mem hy
        rw [List.getElem_drop]
        exact srt_get hs ht2.2 (by rw [List.length_drop] at hu; omega) (by omega)
  · rw [e, (insR_perm d l).mem_iff, List.mem_append, List.mem_cons, List.mem_cons]
    have : x ∈ l ↔ x ∈ l.take p ∨ x ∈ l.drop p := by rw [← List.mem_append, List.take_append_drop]
    rw [this]
    exact ⟨fun h => h.elim (fun h => .inr (.inl h)) (fun h => h.elim .inl (fun h => .inr (.inr h))), fun h => h.elim (fun h => .inr (.inl h)) (fun h => h.elim .inl (fun h => .inr (.inr h)))⟩
/-- The set with a dot more. -/
def putD (s : DSet) (d : Dot) : DSet := if memB s d = true ∨ rightD d = false then s else mk s.1 (insR d s.2)
theorem insR_weak {d : Dot} {l : List Dot} (hs : l.Pairwise (fun a b => dotLt a b = true)) (hd : d ∉ l) : (insR d l).Pairwise (fun a b => dotLt b a = false) := (insR_srt hs hd).imp dotLt_asym
theorem putD_can {s : DSet} (hs : Can s) (d : Dot) : Can (putD s d) ∧ (∀ x, Mem (putD s d) x ↔ Mem s x ∨ (rightD d = true ∧ x = d)) ∧ (putD s d).2.length ≤ s.2.length + 1 := by
  unfold putD
  by_cases h : memB s d = true ∨ rightD d = false
  · rw [if_pos h]
    refine ⟨hs, fun x => ⟨.inl, fun hh => hh.elim id fun ⟨h1, h2⟩ => ?_⟩, by omega⟩
    subst h2
    rcases h with h | h
    · exact (memB_iff s x).1 h
    · rw [h] at h1; cases h1
  · rw [if_neg h]
    have h1 : ¬ Mem s d := fun hm => h (.inl ((memB_iff s d).2 hm))
    have h2 : rightD d = true := by cases hh : rightD d with
      | true => rfl
      | false => exact absurd (.inr hh) h
    have hn : d ∉ s.2 := fun hd => h1 ⟨h2, .inr hd⟩
    obtain ⟨q1, q2, q3, _⟩ := mk_can hs.vok (insR d s.2) (fun e he => by
      rcases List.mem_cons.1 ((insR_perm d s.2).mem_iff.1 he) with rfl | he
      · exact h2
      · exact hs.rt e he) (insR_weak hs.srt hn)
    refine ⟨q1, fun x => ?_, by rw [(insR_perm d s.2).length_eq] at q3; simpa using q3⟩
    rw [q2, (insR_perm d s.2).mem_iff, List.mem_cons]
    constructor
    · rintro ⟨a, b | b | b⟩
      · exact .inl ⟨a, .inl b⟩
      · exact .inr ⟨h2, b⟩
      · exact .inl ⟨a, .inr b⟩
    · rintro (⟨a, b⟩ | ⟨a, b⟩)
      · exact ⟨a, b.imp id .inr⟩
      · exact ⟨by rw [b]; exact a, .inr (.inl b)⟩
theorem put_is (k : Nat) (s : DSet) (d : Dot) (h3 : 3 ≤ k) (hl : s.2.length + 1 < k) (hk : k < 1000000) (hs : Can s) : dots_Put.f k s d = some (putD s d) := by
  rw [dots_Put.f_eq, right_is, has_is k s d h3 (by omega) hk hs]
  simp only [bnd]
  unfold putD
  cases h : rightD d with
  | false => simp [bnot, br_true]
  | true =>
    cases hm : memB s d with
    | true => simp [bnot, br_true, br_false]
    | false =>
      have hn : d ∉ s.2 := fun hd => by
        have := (memB_iff s d).2 ⟨h, .inr hd⟩
        rw [hm] at this; cases this
      obtain ⟨p, b, hf, he⟩ := bs_is k s.2 d h3 (by omega) hk hs.srt
      rw [he]
      dsimp only
      have e1 : room ([] : List Int) s.2 = true := by simp [room]; omega
      have e2 : inS 0 (p : Int) (ilen s.2) = true := by have := hf.1; simp [inS, ilen]; omega
      have hb0 : bnot true = false := rfl
      rw [e1, e2, room1 (by omega), insAt_is hf hn hs.srt, hb0]
      simp only [br_true, br_false]
      rw [made_is k _ (by rw [(insR_perm d s.2).length_eq]; simpa using hl) hk (fun e he => by
        rcases List.mem_cons.1 ((insR_perm d s.2).mem_iff.1 he) with rfl | he
        · exact h
        · exact hs.rt e he) (insR_weak hs.srt hn) _ hs.vok]
      simp
end Go.Proofs.YtoikjekpckhgeaaGreat
end
section
/- What the document's functions of the layer of dots compute. -/
namespace Go.Proofs.YtoikjekpckhgeaaGreat
open Pal
theorem filled_l (k : Nat) (s : DSet) (hl : s.2.length < 1000000) (hr : ∀ d ∈ s.2, rightD d = true) (hs : s.2.Pairwise (fun a b => dotLt a b = true)) (hv : VOk s.1) (za : Vec) (zb : List Dot) : ∀ (n i : Nat), i ≤ s.2.length → s.2.length < n + i →
    ref06_filled.l3 k n (i : Int) s za zb (mk s.1 (s.2.take i)).1 (mk s.1 (s.2.take i)).2 = some (mk s.1 s.2)
  | 0, i, h, h' => by omega
  | n + 1, i, h, h' => by
    rw [ref06_filled.l3_eq, ilt_nat, inL_nat, natOf_nat]
    by_cases hi : i < s.2.length
    · have hstep : mk s.1 (s.2.take (i + 1)) = put1 (mk s.1 (s.2.take i)) s.2[i] := by rw [take_next hi]; unfold mk; rw [List.foldl_append]; rfl
      have hws : s.2.Pairwise (fun a b => dotLt b a = false) := hs.imp dotLt_asym
      obtain ⟨hc, hm, hml, hin⟩ := mk_can hv (s.2.take i) (fun d hd => hr d (List.mem_of_mem_take hd)) (hws.sublist (List.take_sublist i s.2))
      have ih := filled_l k s hl hr hs hv za zb n (i + 1) (by omega) (by omega)
      rw [hstep] at ih
      have hnl : (mk s.1 (s.2.take i)).2.getLast? ≠ some s.2[i] := fun e => by
        have h1 := hin _ (List.mem_of_getLast? e)
        obtain ⟨t, ht, he⟩ := List.getElem_of_mem h1
        have ht2 : t < i := by rw [List.length_take] at ht; omega
        rw [List.getElem_take] at he
        have := srt_get hs (by omega) hi ht2
        rw [he, dotLt_swo.irrefl] at this; cases this
      generalize mk s.1 (s.2.take i) = t at hc hm hml ih hstep hin hnl ⊢
      obtain ⟨V, M⟩ := t
      obtain ⟨r0, r1, r2, r3⟩ := (rightD_iff s.2[i]).1 (hr _ (List.getElem_mem hi))
      rw [rd_at' (e := tDot) hi, iadd_nat (by omega)]
      obtain ⟨d, hd⟩ : ∃ d : Dot, d = s.2[i] := ⟨_, rfl⟩
      rw [← hd] at r0 r1 r2 r3 ih hnl ⊢
      have hvv : rd (.int .i64) V (natOf d.1) = vat V d.1 := rfl
      have v0 : 0 ≤ vat V d.1 := hc.vok.lo d.1 r0 r1
      have v1 : vat V d.1 ≤ 1048576 := hc.vok.hi d.1 r0 r1
      have hML : M.length ≤ i := by have : M.length ≤ (s.2.take i).length := hml; rw [List.length_take] at this; omega
      simp only [hi, decide_true, br_true, inB16 r0 r1, hvv, ilt_dec]
      rw [iadd_s (by omega) (by omega) (by omega) (by omega), ieq_dec]
      unfold put1 at ih
      by_cases h1 : d.2 ≤ vat V d.1
      · rw [if_pos h1] at ih
        rw [decide_eq_false (show ¬ d.2 = vat V d.1 + 1 by omega), decide_eq_false (show ¬ vat V d.1 < d.2 by omega)]
        exact ih
      · rw [if_neg h1] at ih
        by_cases h2 : d.2 = vat V d.1 + 1
        · rw [if_pos h2] at ih
          rw [decide_eq_true h2]; exact ih
        · rw [if_neg h2, if_neg hnl] at ih
          rw [decide_eq_false h2, decide_eq_true (show vat V d.1 < d.2 by omega), room1 (by omega)]
          exact ih
    · have : i = s.2.length := by omega
      subst this
      simp only [List.take_length, Nat.lt_irrefl, decide_false, br_false]
theorem filled_is (k : Nat) (s : DSet) (hl : s.2.length < k) (hk : k < 1000000) (hr : ∀ d ∈ s.2, rightD d = true) (hs : s.2.Pairwise (fun a b => dotLt a b = true)) (hv : VOk s.1) : ref06_filled.f k s = some (mk s.1 s.2) := by
  rw [ref06_filled.f_eq]
  exact filled_l k s (by omega) hr hs hv (zarr 16 0) [] k 0 (by omega) (by omega)
theorem rcmp_is (k : Nat) (a b : Dot) : ref04_Compare.f k a b = some (cmpD a b) := by
  rw [ref04_Compare.f_eq, ref04_ints.f_eq, ref04_ints.f_eq, ieq_dec, bnot_dec]
  have hI : ∀ x y : Int, br (ilt x y) (some (-1)) (br (ilt y x) (some 1) (some 0)) = some (cmpI x y) := fun x y => by
    unfold cmpI
    by_cases h1 : x < y
    · simp [ilt, h1, br_true]
    · by_cases h2 : y < x <;> simp [ilt, h1, h2, br_true, br_false]
  have hI' : ∀ x y : Int, bnd (br (ilt x y) (some (-1)) (br (ilt y x) (some 1) (some 0))) (fun r => some r) = some (cmpI x y) := fun x y => by rw [hI]; rfl
  rw [hI', hI']
  unfold cmpD
  by_cases h : a.1 = b.1
  · rw [if_pos ((cmpI_eq _ _).2 h)]; simp [h, br_false]
  · rw [if_neg (fun e => h ((cmpI_eq _ _).1 e))]; simp [h, br_true]
theorem rput_l (k : Nat) (s : DSet) (d : Dot) (hl : s.2.length < 1000000) (za : Vec) (zb : List Dot) : ∀ (n i : Nat) (x : List Dot) (b : Bool), i ≤ s.2.length → s.2.length < n + i → x.length ≤ i + b.toNat →
    ref06_Put.l6 k n x b (i : Int) s d za zb = bnd (ref06_filled.f k (s.1, x ++ if b then s.2.drop i else insR d (s.2.drop i))) fun r => some r
  | 0, i, _, _, h, h', _ => by omega
  | n + 1, i, x, b, h, h', hx => by
    rw [ref06_Put.l6_eq, ilt_nat, inL_nat, natOf_nat]
    by_cases hi : i < s.2.length
    · rw [List.drop_eq_getElem_cons hi, rd_at' (e := tDot) hi, iadd_nat (by omega), rcmp_is]
      have hbn : b.toNat ≤ 1 := by cases b <;> decide
      have hrm : ∀ y : Dot, room x (y :: []) = true := fun y => room1 (by omega)
      have hrm2 : ∀ y z : Dot, room (app x (y :: [])) (z :: []) = true := fun y z => room1 (by simp [app]; omega)
      simp only [hi, decide_true, br_true, bnd_some, cmp_lt0, hrm, hrm2]
      cases b with
      | true =>
        have hb : bnot true = false := rfl
        rw [hb]
        simp only [br_false]
        rw [rput_l k s d hl za zb n (i + 1) _ true (by omega) (by omega) (by simp [app] at hx ⊢; omega)]
        simp [app]
      | false =>
        have hb : bnot false = true := rfl
        rw [hb]
        simp only [br_true, Bool.false_eq_true, if_false]
        unfold insR
        cases hc : dotLt d s.2[i] with
        | true =>
          simp only [br_true, if_true]
          rw [rput_l k s d hl za zb n (i + 1) _ true (by omega) (by omega) (by simp [app] at hx ⊢; omega)]
          simp [app]
        | false =>
          simp only [br_false, Bool.false_eq_true, if_false]
          rw [rput_l k s d hl za zb n (i + 1) _ false (by omega) (by omega) (by simp [app] at hx ⊢; omega)]
          simp [app]
    · rw [List.drop_of_length_le (by omega)]
      simp only [hi, decide_false, br_false]
      cases b with
      | true => have hb : bnot true = false := rfl
                rw [hb]; simp [br_false]
      | false => have hb : bnot false = true := rfl
                 have hx' : x.length ≤ i := hx
                 rw [hb, room1 (by omega)]; simp [br_true, insR, app]
theorem rput_is (k : Nat) (s : DSet) (d : Dot) (hl : s.2.length + 1 < k) (hk : k < 1000000) (hs : Can s) : ref06_Put.f k s d = some (putD s d) := by
  rw [ref06_Put.f_eq, rright_is, rhas_is k s d (by omega) hk hs.rt]
  simp only [bnd_some]
  unfold putD
  cases h : rightD d with
  | false => simp [bnot, br_true]
  | true =>
    cases hm : memB s d with
    | true => simp [bnot, br_true, br_false]
    | false =>
      have hn : d ∉ s.2 := fun hd => by
        have := (memB_iff s d).2 ⟨h, .inr hd⟩
        rw [hm] at this; cases this
      have hb0 : bnot true = false := rfl
      rw [hb0]
      simp only [br_false]
      have := rput_l k s d (by omega) (zarr 16 0) [] k 0 [] false (by omega) (by omega) (by simp)
      rw [show ref06_Put.l6 k k [] false 0 s d (zarr 16 0) [] = _ from this]
      simp only [List.drop_zero, List.nil_append, Bool.false_eq_true, if_false]
      rw [filled_is k (s.1, insR d s.2) (by show (insR d s.2).length < k; rw [(insR_perm d s.2).length_eq]; simpa using hl) hk (fun e he => by
        rcases List.mem_cons.1 ((insR_perm d s.2).mem_iff.1 he) with rfl | he
        · exact h
        · exact hs.rt e he) (insR_srt hs.srt hn) hs.vok]
      simp [bnd]
end Go.Proofs.YtoikjekpckhgeaaGreat
end
section
/- The same, and right, among sets of dots. -/
namespace Go.Proofs.YtoikjekpckhgeaaGreat
open Pal
theorem reqD_l (k : Nat) (xs ys : List Dot) (hl : xs.length = ys.length) (hb : xs.length < 1000000) : ∀ (n i : Nat), i ≤ xs.length → xs.length < n + i →
    ref04_Same.l4 k n xs ys (i : Int) = some (zall (fun x y => decide (x = y)) (xs.drop i) (ys.drop i))
  | 0, i, h, h' => by omega
  | n + 1, i, h, h' => by
    rw [ref04_Same.l4_eq, ilt_nat, inL_nat, inL_nat, natOf_nat]
    by_cases hi : i < xs.length
    · have hi' : i < ys.length := by omega
      rw [zall_step hi hi', rd_at' (e := tDot) hi, rd_at' (e := tDot) hi', deqD, bnot_dec, iadd_nat (by omega)]
      simp only [hi, hi', decide_true, br_true]
      by_cases he : xs[i] = ys[i]
      · simp only [he, not_true, decide_true, decide_false, br_false, Bool.true_and]
        exact reqD_l k xs ys hl hb n (i + 1) (by omega) (by omega)
      · simp only [he, not_false_eq_true, decide_false, decide_true, br_true, Bool.false_and]
    · rw [zall_end (by omega)]
      simp only [hi, decide_false, br_false]
theorem reqD (k : Nat) (xs ys : List Dot) (hb : xs.length < k) (hk : k < 1000000) : ref04_Same.f k xs ys = some (decide (xs = ys)) := by
  rw [ref04_Same.f_eq, ieq_len, bnot_dec]
  by_cases hl : xs.length = ys.length
  · simp only [hl, not_true, decide_false, br_false]
    have := reqD_l k xs ys hl (by omega) k 0 (by omega) (by omega)
    simp only [List.drop_zero, zall_eq xs ys hl] at this
    exact this
  · have : xs ≠ ys := fun e => hl (by rw [e])
    simp only [hl, this, not_false_eq_true, decide_true, decide_false, br_true]
theorem deqV (a b : Vec) : deq tVec a b = decide (a = b) := by
  have h := deq_iff tVec rfl a b
  by_cases he : a = b
  · rw [decide_eq_true he]; exact h.2 he
  · rw [decide_eq_false he, ← Bool.not_eq_true, h]; exact he
theorem rsame_is (k : Nat) (s t : DSet) (hb : s.2.length < k) (hk : k < 1000000) : ref06_Same.f k s t = some (decide (s = t)) := by
  rw [ref06_Same.f_eq, deqV, reqD k _ _ hb hk]
  obtain ⟨a, b⟩ := s
  obtain ⟨c, d⟩ := t
  by_cases h1 : a = c <;> by_cases h2 : b = d <;> simp [h1, h2, br_true, br_false, bnd]
/-! ### Right -/
def vin (v : Vec) (r : Int) : Prop := 0 ≤ vat v r ∧ vat v r ≤ 1048576
theorem rvr_l (k : Nat) (v : Vec) : ∀ (n i : Nat), i ≤ 16 → 16 < n + i → ∃ b, ref05_Right.l2 k n (i : Int) v = some b ∧ (b = true ↔ ∀ r : Nat, i ≤ r → r < 16 → vin v r)
  | 0, i, h, h' => by omega
  | n + 1, i, h, h' => by
    rw [ref05_Right.l2_eq, natOf_nat]
    have e1 : ilt (i : Int) 16 = decide (i < 16) := ilt_nn i 16
    rw [e1, inB_nat]
    by_cases hi : i < 16
    · have hv : rd (.int .i64) v i = vat v (i : Int) := rfl
      rw [hv, iadd_nat (by omega), ilt_dec, ilt_dec]
      simp only [hi, decide_true, br_true]
      by_cases h1 : vat v (i : Int) < 0
      · simp only [h1, decide_true, br_true]
        exact ⟨false, rfl, ⟨fun h => (by cases h), fun h => by have := (h i (Nat.le_refl _) hi).1; omega⟩⟩
      · simp only [h1, decide_false, br_false]
        by_cases h2 : 1048576 < vat v (i : Int)
        · simp only [h2, decide_true, br_true]
          exact ⟨false, rfl, ⟨fun h => (by cases h), fun h => by have := (h i (Nat.le_refl _) hi).2; omega⟩⟩
        · simp only [h2, decide_false, br_false]
          obtain ⟨b, hb, hbi⟩ := rvr_l k v n (i + 1) (by omega) (by omega)
          refine ⟨b, hb, hbi.trans ⟨fun h r hr hr2 => ?_, fun h r hr hr2 => h r (by omega) hr2⟩⟩
          by_cases he : r = i
          · subst he; exact ⟨by omega, by omega⟩
          · exact h r (by omega) hr2
    · simp only [hi, decide_false, br_false]
      exact ⟨true, rfl, ⟨fun _ r hr hr2 => by omega, fun _ => rfl⟩⟩
theorem vok_iff {v : Vec} (hl : v.length = 16) : VOk v ↔ ∀ r : Nat, 0 ≤ r → r < 16 → vin v r := by
  constructor
  · intro h r _ hr; exact ⟨h.lo r (by omega) (by omega), h.hi r (by omega) (by omega)⟩
  · intro h
    refine ⟨hl, fun r h0 h1 => ?_, fun r h0 h1 => ?_⟩
    · obtain ⟨a, rfl⟩ := Int.eq_ofNat_of_zero_le h0; exact (h a (by omega) (by omega)).1
    · obtain ⟨a, rfl⟩ := Int.eq_ofNat_of_zero_le h0; exact (h a (by omega) (by omega)).2
theorem rvr_is (k : Nat) (v : Vec) (hl : v.length = 16) (hk : 17 < k) : ∃ b, ref05_Right.f k v = some b ∧ (b = true ↔ VOk v) := by
  rw [ref05_Right.f_eq, vok_iff hl]
  exact rvr_l k v k 0 (by omega) (by omega)
theorem vr_l (k : Nat) (v : Vec) : ∀ (n i : Nat), i ≤ 16 → 16 < n + i → ∃ b, vec_Right.l2 k n v (i : Int) = some b ∧ (b = true ↔ ∀ r : Nat, i ≤ r → r < 16 → vin v r)
  | 0, i, h, h' => by omega
  | n + 1, i, h, h' => by
    rw [vec_Right.l2_eq, natOf_nat]
    have e1 : ilt (i : Int) 16 = decide (i < 16) := ilt_nn i 16
    rw [e1, inB_nat]
    by_cases hi : i < 16
    · have hv : rd (.int .i64) v i = vat v (i : Int) := rfl
      rw [hv, iadd_nat (by omega), ilt_dec, ilt_dec]
      simp only [hi, decide_true, br_true]
      by_cases h1 : vat v (i : Int) < 0
      · simp only [h1, decide_true, br_true]
        exact ⟨false, rfl, ⟨fun h => (by cases h), fun h => by have := (h i (Nat.le_refl _) hi).1; omega⟩⟩
      · simp only [h1, decide_false, br_false]
        by_cases h2 : 1048576 < vat v (i : Int)
        · simp only [h2, decide_true, br_true]
          exact ⟨false, rfl, ⟨fun h => (by cases h), fun h => by have := (h i (Nat.le_refl _) hi).2; omega⟩⟩
        · simp only [h2, decide_false, br_false]
          obtain ⟨b, hb, hbi⟩ := vr_l k v n (i + 1) (by omega) (by omega)
          refine ⟨b, hb, hbi.trans ⟨fun h r hr hr2 => ?_, fun h r hr hr2 => h r (by omega) hr2⟩⟩
          by_cases he : r = i
          · subst he; exact ⟨by omega, by omega⟩
          · exact h r (by omega) hr2
    · simp only [hi, decide_false, br_false]
      exact ⟨true, rfl, ⟨fun _ r hr hr2 => by omega, fun _ => rfl⟩⟩
theorem vr_is (k : Nat) (v : Vec) (hl : v.length = 16) (hk : 17 < k) : ∃ b, vec_Right.f k v = some b ∧ (b = true ↔ VOk v) := by
  rw [vec_Right.f_eq, vok_iff hl]
  exact vr_l k v k 0 (by omega) (by omega)
/-- One of a set's dots behind gaps, and the one ahead of it. -/
def okAt (s : DSet) (j : Nat) (h : j < s.2.length) : Prop := rightD s.2[j] = true ∧ vat s.1 s.2[j].1 + 1 < s.2[j].2 ∧ (∀ h0 : 0 < j, dotLt (s.2[j - 1]'(by omega)) s.2[j] = true)
theorem can_iff {s : DSet} (hv : VOk s.1) : Can s ↔ ∀ j (h : j < s.2.length), 0 ≤ j → okAt s j h := by
  constructor
  · intro hs j h _
    exact ⟨hs.rt _ (List.getElem_mem h), hs.gap _ (List.getElem_mem h), fun h0 => srt_get hs.srt (by omega) h (by omega)⟩
  · intro h
    refine ⟨hv, fun d hd => ?_, fun d hd => ?_, ?_⟩
    · obtain ⟨j, hj, rfl⟩ := List.getElem_of_mem hd; exact (h j hj (Nat.zero_le _)).1
    · obtain ⟨j, hj, rfl⟩ := List.getElem_of_mem hd; exact (h j hj (Nat.zero_le _)).2.1
    · have key : ∀ t i (hi : i < s.2.length) (hj : i + 1 + t < s.2.length), dotLt s.2[i] s.2[i + 1 + t] = true := by
        intro t
        induction t with
        | zero => intro i hi hj; exact (h (i + 1) hj (Nat.zero_le _)).2.2 (by omega)
        | succ t ih =>
          intro i hi hj
          have h1 := ih i hi (by omega)
          have h2 := (h (i + 1 + (t + 1)) hj (Nat.zero_le _)).2.2 (by omega)
          exact dotLt_swo.trans _ _ _ h1 h2
      rw [List.pairwise_iff_getElem]
      intro i j hi hj hij
      have := key (j - i - 1) i hi (by omega)
      have e : i + 1 + (j - i - 1) = j := by omega
      simp only [e] at this; exact this
theorem cmp_m1 (a b : Dot) : bnot (ieq (cmpD a b) (-1)) = !dotLt a b := by
  have h1 : ∀ x y : Int, cmpI x y = -1 ∨ cmpI x y = 0 ∨ cmpI x y = 1 := fun x y => by unfold cmpI; split <;> (try split) <;> simp
  have h : cmpD a b = -1 ∨ cmpD a b = 0 ∨ cmpD a b = 1 := by unfold cmpD; split <;> exact h1 _ _
  show bnot (ieq (cmpD a b) (-1)) = !decide (cmpD a b < 0)
  rcases h with h | h | h <;> rw [h] <;> rfl
theorem rr_l (k : Nat) (s : DSet) (hl : s.2.length < 1000000) (hv : VOk s.1) : ∀ (n i : Nat), i ≤ s.2.length → s.2.length < n + i → ∃ b, ref06_Right.l4 k n (i : Int) s = some b ∧ (b = true ↔ ∀ j (h : j < s.2.length), i ≤ j → okAt s j h)
  | 0, i, h, h' => by omega
  | n + 1, i, h, h' => by
    rw [ref06_Right.l4_eq, ilt_nat, inL_nat, natOf_nat]
    by_cases hi : i < s.2.length
    · rw [rd_at' (e := tDot) hi, rright_is, iadd_nat (by omega)]
      simp only [hi, decide_true, br_true, bnd_some]
      cases hr : rightD s.2[i] with
      | false =>
        have e : bnot false = true := rfl
        rw [e]
        exact ⟨false, rfl, ⟨fun h => (by cases h), fun h => by rw [(h i hi (Nat.le_refl _)).1] at hr; cases hr⟩⟩
      | true =>
        have e : bnot true = false := rfl
        obtain ⟨r0, r1, r2, r3⟩ := (rightD_iff s.2[i]).1 hr
        have hvv : rd (.int .i64) s.1 (natOf s.2[i].1) = vat s.1 s.2[i].1 := rfl
        rw [e, inB16 r0 r1, hvv, isub_s (by omega) (by omega) (by omega) (by omega), ile_dec]
        simp only [br_true, br_false]
        by_cases hg : s.2[i].2 - 1 ≤ vat s.1 s.2[i].1
        · simp only [hg, decide_true, br_true]
          exact ⟨false, rfl, ⟨fun h => (by cases h), fun h => by have := (h i hi (Nat.le_refl _)).2.1; omega⟩⟩
        · simp only [hg, decide_false, br_false]
          obtain ⟨b, hb, hbi⟩ := rr_l k s hl hv n (i + 1) (by omega) (by omega)
          have step : (∀ h0 : 0 < i, dotLt (s.2[i - 1]'(by omega)) s.2[i] = true) → (b = true ↔ ∀ j (h : j < s.2.length), i ≤ j → okAt s j h) := fun hlt => hbi.trans ⟨fun h j hj hij => by
            by_cases he : j = i
            · subst he; exact ⟨hr, by omega, hlt⟩
            · exact h j hj (by omega), fun h j hj hij => h j hj (by omega)⟩
          by_cases h0 : 0 < i
          · have e2 : ilt 0 (i : Int) = true := by simp [ilt]; omega
            have e3 : isub .i64 (i : Int) 1 = ((i - 1 : Nat) : Int) := by rw [isub_s (by omega) (by omega) (by omega) (by omega)]; omega
            have hi1 : i - 1 < s.2.length := by omega
            rw [e2, e3, inL_nat, natOf_nat, rd_at' (e := tDot) hi1, rcmp_is]
            simp only [hi1, decide_true, br_true, bnd_some, cmp_m1]
            cases hc : dotLt s.2[i - 1] s.2[i] with
            | true => exact ⟨b, hb, step fun _ => hc⟩
            | false => exact ⟨false, rfl, ⟨fun h => (by cases h), fun h => by have := (h i hi (Nat.le_refl _)).2.2 h0; rw [hc] at this; cases this⟩⟩
          · have e2 : ilt 0 (i : Int) = false := by simp [ilt]; omega
            rw [e2]
            exact ⟨b, hb, step fun h => absurd h h0⟩
    · simp only [hi, decide_false, br_false]
      exact ⟨true, rfl, ⟨fun _ j hj hij => by omega, fun _ => rfl⟩⟩
theorem rr_is (k : Nat) (s : DSet) (hl : s.1.length = 16) (hk : 5000 < k) (hk2 : k < 1000000) : ∃ b, ref06_Right.f k s = some b ∧ (b = true ↔ Can s ∧ s.2.length ≤ 4096) := by
  obtain ⟨b, hb, hbi⟩ := rvr_is k s.1 hl (by omega)
  rw [ref06_Right.f_eq, hb]
  simp only [bnd_some]
  cases b with
  | false => exact ⟨false, rfl, ⟨fun h => (by cases h), fun h => hbi.2 h.1.vok⟩⟩
  | true =>
    have hv := hbi.1 rfl
    have e : bnot true = false := rfl
    have e2 : ilt 4096 (ilen s.2) = decide (4096 < s.2.length) := ilt_nat 4096 s.2
    rw [e, e2]
    simp only [br_false]
    by_cases h : 4096 < s.2.length
    · simp only [h, decide_true, br_true]
      exact ⟨false, rfl, ⟨fun h => (by cases h), fun h => by omega⟩⟩
    · simp only [h, decide_false, br_false]
      obtain ⟨b, hb, hbi⟩ := rr_l k s (by omega) hv k 0 (by omega) (by omega)
      exact ⟨b, hb, hbi.trans ⟨fun h2 => ⟨(can_iff hv).2 h2, by omega⟩, fun h2 => (can_iff hv).1 h2.1⟩⟩
theorem rr_true (k : Nat) {s : DSet} (hs : Can s) (hl : s.2.length ≤ 4096) (hk : 5000 < k) (hk2 : k < 1000000) : ref06_Right.f k s = some true := by
  obtain ⟨b, hb, hbi⟩ := rr_is k s hs.vok.len hk hk2
  rw [hb, hbi.2 ⟨hs, hl⟩]
end Go.Proofs.YtoikjekpckhgeaaGreat
end
section
/- Whether a set is right, how many dots there are, and the next one's number. -/
namespace Go.Proofs.YtoikjekpckhgeaaGreat
open Pal
theorem dr_l (k : Nat) (s : DSet) (hl : s.2.length < 1000000) (hv : VOk s.1) : ∀ (n i : Nat), i ≤ s.2.length → s.2.length < n + i → ∃ b, dots_Right.l4 (k + 3) n s.2 (ilen s.2) (i : Int) s = some b ∧ (b = true ↔ ∀ j (h : j < s.2.length), i ≤ j → okAt s j h)
  | 0, i, h, h' => by omega
  | n + 1, i, h, h' => by
    rw [dots_Right.l4_eq, ilt_nat, inL_nat, natOf_nat]
    by_cases hi : i < s.2.length
    · rw [rd_at' (e := tDot) hi, right_is, iadd_nat (by omega)]
      simp only [hi, decide_true, br_true, bnd_some]
      cases hr : rightD s.2[i] with
      | false =>
        have e : bnot false = true := rfl
        rw [e]
        exact ⟨false, rfl, ⟨fun h => (by cases h), fun h => by rw [(h i hi (Nat.le_refl _)).1] at hr; cases hr⟩⟩
      | true =>
        have e : bnot true = false := rfl
        obtain ⟨r0, r1, r2, r3⟩ := (rightD_iff s.2[i]).1 hr
        have hvv : rd (.int .i64) s.1 (natOf s.2[i].1) = vat s.1 s.2[i].1 := rfl
        have v0 := hv.lo s.2[i].1 r0 r1
        have v1 := hv.hi s.2[i].1 r0 r1
        rw [e, inB16 r0 r1, hvv, iadd_s (by omega) (by omega) (by omega) (by omega), ile_dec]
        simp only [br_true, br_false]
        by_cases hg : s.2[i].2 ≤ vat s.1 s.2[i].1 + 1
        · simp only [hg, decide_true, br_true]
          exact ⟨false, rfl, ⟨fun h => (by cases h), fun h => by have := (h i hi (Nat.le_refl _)).2.1; omega⟩⟩
        · simp only [hg, decide_false, br_false]
          obtain ⟨b, hb, hbi⟩ := dr_l k s hl hv n (i + 1) (by omega) (by omega)
          have step : (∀ h0 : 0 < i, dotLt (s.2[i - 1]'(by omega)) s.2[i] = true) → (b = true ↔ ∀ j (h : j < s.2.length), i ≤ j → okAt s j h) := fun hlt => hbi.trans ⟨fun h j hj hij => by
            by_cases he : j = i
            · subst he; exact ⟨hr, by omega, hlt⟩
            · exact h j hj (by omega), fun h j hj hij => h j hj (by omega)⟩
          by_cases h0 : 0 < i
          · have e2 : ilt 0 (i : Int) = true := by simp [ilt]; omega
            have e3 : isub .i64 (i : Int) 1 = ((i - 1 : Nat) : Int) := by rw [isub_s (by omega) (by omega) (by omega) (by omega)]; omega
            have hi1 : i - 1 < s.2.length := by omega
            have e4 : ∀ a b : Dot, ile 0 (cmpD a b) = !dotLt a b := fun a b => by
              show decide (0 ≤ cmpD a b) = !decide (cmpD a b < 0)
              by_cases h : cmpD a b < 0
              · rw [decide_eq_true h, decide_eq_false (by omega)]; rfl
              · rw [decide_eq_false h, decide_eq_true (by omega)]; rfl
            rw [e2, e3, inL_nat, natOf_nat, rd_at' (e := tDot) hi1, cmpD_is]
            simp only [hi1, decide_true, br_true, bnd_some, e4]
            cases hc : dotLt s.2[i - 1] s.2[i] with
            | true => exact ⟨b, hb, step fun _ => hc⟩
            | false => exact ⟨false, rfl, ⟨fun h => (by cases h), fun h => by have := (h i hi (Nat.le_refl _)).2.2 h0; rw [hc] at this; cases this⟩⟩
          · have e2 : ilt 0 (i : Int) = false := by simp [ilt]; omega
            rw [e2]
            exact ⟨b, hb, step fun h => absurd h h0⟩
    · simp only [hi, decide_false, br_false]
      exact ⟨true, rfl, ⟨fun _ j hj hij => by omega, fun _ => rfl⟩⟩
theorem dr_is (k : Nat) (s : DSet) (hl : s.1.length = 16) (hk : 5000 < k) (hk2 : k < 1000000) : ∃ b, dots_Right.f k s = some b ∧ (b = true ↔ Can s ∧ s.2.length ≤ 4096) := by
  obtain ⟨b, hb, hbi⟩ := vr_is k s.1 hl (by omega)
  rw [dots_Right.f_eq, hb]
  simp only [bnd_some]
  cases b with
  | false => exact ⟨false, rfl, ⟨fun h => (by cases h), fun h => hbi.2 h.1.vok⟩⟩
  | true =>
    have hv := hbi.1 rfl
    have e : bnot true = false := rfl
    have e2 : ilt 4096 (ilen s.2) = decide (4096 < s.2.length) := ilt_nat 4096 s.2
    rw [e, e2]
    simp only [br_false]
    by_cases h : 4096 < s.2.length
    · simp only [h, decide_true, br_true]
      exact ⟨false, rfl, ⟨fun h => (by cases h), fun h => by omega⟩⟩
    · simp only [h, decide_false, br_false]
      obtain ⟨q, rfl⟩ : ∃ q, k = q + 3 := ⟨k - 3, by omega⟩
      obtain ⟨b, hb, hbi⟩ := dr_l q s (by omega) hv (q + 3) 0 (by omega) (by omega)
      exact ⟨b, hb, hbi.trans ⟨fun h2 => ⟨(can_iff hv).2 h2, by omega⟩, fun h2 => (can_iff hv).1 h2.1⟩⟩
/-! ### The next one's number -/
def lastN (r : Int) (n : Int) (l : List Dot) : Int := l.foldl (fun n d => if d.1 = r then d.2 else n) n
def maxN (r : Int) (n : Int) (l : List Dot) : Int := l.foldl (fun n d => if d.1 = r ∧ n < d.2 then d.2 else n) n
theorem last_max (r : Int) : ∀ (l : List Dot) (n : Int), l.Pairwise (fun a b => dotLt a b = true) → (∀ d ∈ l, d.1 = r → n < d.2) → lastN r n l = maxN r n l
  | [], _, _, _ => rfl
  | d :: l, n, hs, hn => by
    have hs' := List.pairwise_cons.1 hs
    show lastN r (if d.1 = r then d.2 else n) l = maxN r (if d.1 = r ∧ n < d.2 then d.2 else n) l
    by_cases h : d.1 = r
    · have h2 := hn d (by simp) h
      rw [if_pos h, if_pos ⟨h, h2⟩]
      refine last_max r l _ hs'.2 fun e he her => ?_
      have := (dotLt_iff d e).1 (hs'.1 e he)
      omega
    · rw [if_neg h, if_neg (fun hh => h hh.1)]
      exact last_max r l n hs'.2 fun e he her => hn e (List.mem_cons_of_mem _ he) her
/-! ### How many -/
theorem sum_step {v : Vec} {i : Nat} (h : i < v.length) : (v.drop i).sum = v[i] + (v.drop (i + 1)).sum := by rw [List.drop_eq_getElem_cons h, List.sum_cons]
end Go.Proofs.YtoikjekpckhgeaaGreat
end
