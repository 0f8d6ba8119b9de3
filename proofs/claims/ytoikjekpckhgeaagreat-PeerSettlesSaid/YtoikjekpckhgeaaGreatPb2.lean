/- The functions that the statement reaches, and what they come to. Part 2. -/
import Derived.Test.YtoikjekpckhgeaaGreatFw1
import Derived.Test.YtoikjekpckhgeaaGreatFw2
import Derived.Test.YtoikjekpckhgeaaGreatFw3
import Derived.Test.YtoikjekpckhgeaaGreatPb1
set_option linter.unusedVariables false
set_option linter.unusedSimpArgs false
set_option linter.unusedSectionVars false
section
/- The program's functions, as plain equations. -/
namespace Go.Proofs.YtoikjekpckhgeaaGreat
open Pal
noncomputable def peer_New.body : Go.Code := Tryz.f27.body.getD .skip
noncomputable def peer_New.rs : List Go.ResultVar := Tryz.f27.results.toList
def peer_New.regs : List (Nat × RInfo) := [(0, ⟨[0, 1], [], [], [], 0, [], [], [], []⟩),
  (1, ⟨[0, 1, 20], [], [], [], 0, [], [], [], []⟩),
  (2, ⟨[4, 5], [24], [], [], 0, [], [], [], []⟩),
  (3, ⟨[4, 5], [24], [], [], 0, [], [], [], []⟩)]
noncomputable def peer_New.cx (k : Nat) : Cx := ⟨tt, pp, [], peer_New.regs, k⟩
@[reducible] def peer_New.sg : Sg := ⟨[.dat (.int .i64), .dat (.int .i64)], [], .t2 (.new) (.dat (.int .i64)), [tPeers]⟩
noncomputable def peer_New.f (k : Nat) (a0 : Ty.D (.int .i64)) (a1 : Ty.D (.int .i64)) : Option (Sg.Out peer_New.sg) := Sg.fn peer_New.sg (peer_New.cx k) peer_New.body peer_New.rs (a0, a1)
set_option maxRecDepth 100000 in
theorem peer_New.f_eq (k : Nat) (a0 : Ty.D (.int .i64)) (a1 : Ty.D (.int .i64)) : peer_New.f k a0 a1 =
  br (ilt a1 1)
    (none)
    (br (ilt 16 a1)
      (none)
      (br (ilt a0 0)
        (none)
        (br (ile a1 a0)
          (none)
          (some (0, (a0, (a1, (zarr 16 (((zarr 16 0), []), ([], ((zarr 16 0), []))))))))))) := by kernel_rfl
noncomputable def peer_New.e (k : Nat) : Entry := Sg.entry peer_New.sg fun x => peer_New.f k x.1 x.2
set_option maxRecDepth 100000 in
theorem peer_New.ok (k : Nat) : CallOK Tryz.prog 27 (peer_New.e k) :=
  fn_ok (c := peer_New.cx k) (code := peer_New.body) (TT.of tt_ok pp_ok) (fns_ok trivial) mixed Tryz.func27 (by kernel_rfl) (by kernel_rfl) (by kernel_rfl) (by kernel_rfl) (by kernel_rfl) (by kernel_rfl) (fun x => by kernel_rfl)
noncomputable def law29_begun.body : Go.Code := Tryz.f12.body.getD .skip
noncomputable def law29_begun.rs : List Go.ResultVar := Tryz.f12.results.toList
def law29_begun.regs : List (Nat × RInfo) := [(0, ⟨[0, 1], [], [], [], 0, [], [], [], []⟩),
  (1, ⟨[0, 7], [], [], [], 0, [], [], [], []⟩),
  (2, ⟨[7, 8], [], [], [], 0, [], [], [], []⟩),
  (3, ⟨[7, 8, 9, 10], [22], [], [], 0, [], [], [], []⟩),
  (4, ⟨[4, 5, 6], [22, 29], [], [], 0, [], [], [], []⟩)]
noncomputable def law29_begun.cx (k : Nat) : Cx := ⟨tt, pp, [(27, (peer_New.e k))], law29_begun.regs, k⟩
@[reducible] def law29_begun.sg : Sg := ⟨[.dat (.int .u8), .dat (.int .u8)], [], .n2 (.dat .bool), [tPeers, tPeers]⟩
noncomputable def law29_begun.f (k : Nat) (a0 : Ty.D (.int .u8)) (a1 : Ty.D (.int .u8)) : Option (Sg.Out law29_begun.sg) := Sg.fn law29_begun.sg (law29_begun.cx k) law29_begun.body law29_begun.rs (a0, a1)
set_option maxRecDepth 100000 in
theorem law29_begun.f_eq (k : Nat) (a0 : Ty.D (.int .u8)) (a1 : Ty.D (.int .u8)) : law29_begun.f k a0 a1 =
  br (ieq (iadd .i64 1 (iwrap .i64 (irem a1 16))) 0)
    (none)
    (bnd (peer_New.f k (irem (iwrap .i64 a0) (iadd .i64 1 (iwrap .i64 (irem a1 16)))) (iadd .i64 1 (iwrap .i64 (irem a1 16)))) fun r0 =>
    some ((ieq r0.1 0), (r0.2, ((irem (iwrap .i64 a0) (iadd .i64 1 (iwrap .i64 (irem a1 16)))), ((iadd .i64 1 (iwrap .i64 (irem a1 16))), (zarr 16 (((zarr 16 0), []), ([], ((zarr 16 0), []))))))))) := by kernel_rfl
noncomputable def law29_begun.e (k : Nat) : Entry := Sg.entry law29_begun.sg fun x => law29_begun.f k x.1 x.2
set_option maxRecDepth 100000 in
theorem law29_begun.ok (k : Nat) : CallOK Tryz.prog 12 (law29_begun.e k) :=
  fn_ok (c := law29_begun.cx k) (code := law29_begun.body) (TT.of tt_ok pp_ok) (fns_ok ⟨(peer_New.ok k), trivial⟩) mixed Tryz.func12 (by kernel_rfl) (by kernel_rfl) (by kernel_rfl) (by kernel_rfl) (by kernel_rfl) (by kernel_rfl) (fun x => by kernel_rfl)
noncomputable def ref24_Short.body : Go.Code := Tryz.f54.body.getD .skip
noncomputable def ref24_Short.rs : List Go.ResultVar := Tryz.f54.results.toList
def ref24_Short.regs : List (Nat × RInfo) := [(0, ⟨[1], [1], [0], [], 0, [], [], [], []⟩),
  (1, ⟨[2], [], [], [], 0, [], [], [], []⟩)]
noncomputable def ref24_Short.cx (k : Nat) : Cx := ⟨tt, pp, [], ref24_Short.regs, k⟩
@[reducible] def ref24_Short.sg : Sg := ⟨[.dat tKnow], [], .dat .bool, []⟩
noncomputable def ref24_Short.f (k : Nat) (a0 : Ty.D tKnow) : Option (Sg.Out ref24_Short.sg) := Sg.fn ref24_Short.sg (ref24_Short.cx k) ref24_Short.body ref24_Short.rs a0
set_option maxRecDepth 100000 in
theorem ref24_Short.f_eq (k : Nat) (a0 : Ty.D tKnow) : ref24_Short.f k a0 =
  br (ile (ilen a0.1.2) 100)
    (br (ile (ilen a0.2.1) 100)
      (some (ile (ilen a0.2.2.2) 100))
      (some false))
    (some false) := by kernel_rfl
noncomputable def ref24_Short.e (k : Nat) : Entry := Sg.entry ref24_Short.sg fun x => ref24_Short.f k x
set_option maxRecDepth 100000 in
theorem ref24_Short.ok (k : Nat) : CallOK Tryz.prog 54 (ref24_Short.e k) :=
  fn_ok (c := ref24_Short.cx k) (code := ref24_Short.body) (TT.of tt_ok pp_ok) (fns_ok trivial) mixed Tryz.func54 (by kernel_rfl) (by kernel_rfl) (by kernel_rfl) (by kernel_rfl) (by kernel_rfl) (by kernel_rfl) (fun x => by kernel_rfl)
noncomputable def ref10_Short.body : Go.Code := Tryz.f171.body.getD .skip
noncomputable def ref10_Short.rs : List Go.ResultVar := Tryz.f171.results.toList
def ref10_Short.regs : List (Nat × RInfo) := [(0, ⟨[0], [], [], [], 0, [], [], [], []⟩),
  (1, ⟨[0, 6], [], [], [], 0, [], [], [], []⟩),
  (2, ⟨[2], [], [], [], 0, [], [], [], []⟩),
  (3, ⟨[0, 3], [], [], [], 0, [], [], [], []⟩),
  (4, ⟨[0, 3, 10], [], [], [], 0, [0, 3], [], [], []⟩),
  (6, ⟨[0, 3, 18], [], [], [], 0, [], [], [], []⟩),
  (7, ⟨[2], [], [], [], 0, [], [], [], []⟩),
  (5, ⟨[0, 3], [], [], [], 0, [], [], [], []⟩),
  (8, ⟨[2], [], [], [], 0, [], [], [], []⟩)]
noncomputable def ref10_Short.cx (k : Nat) : Cx := ⟨tt, pp, [], ref10_Short.regs, k⟩
@[reducible] def ref10_Short.sg : Sg := ⟨[.dat (.slc .str)], [], .dat .bool, []⟩
noncomputable def ref10_Short.f (k : Nat) (a0 : Ty.D (.slc .str)) : Option (Sg.Out ref10_Short.sg) := Sg.fn ref10_Short.sg (ref10_Short.cx k) ref10_Short.body ref10_Short.rs a0
noncomputable def ref10_Short.l4 (k : Nat) (n : Nat) (x0 : Ty.D (.slc .str)) (x3 : Ty.D (.int .i64)) : Option (Sg.Out ref10_Short.sg) := loopAt (ref10_Short.cx k) ref10_Short.body [1, 1, 0, 1, 0] 4 [0, 3] [] [] (Sg.K ref10_Short.sg (ref10_Short.cx k) ref10_Short.rs) n ⟨[(0, .dat (.slc .str) x0), (3, .dat (.int .i64) x3)], []⟩
set_option maxRecDepth 100000 in
theorem ref10_Short.f_eq (k : Nat) (a0 : Ty.D (.slc .str)) : ref10_Short.f k a0 =
  br (ilt 12 (ilen a0))
    (some false)
    (ref10_Short.l4 k k a0 0) := by kernel_rfl
set_option maxRecDepth 100000 in
theorem ref10_Short.l4_eq (k : Nat) (n4 : Nat) (x0 : Ty.D (.slc .str)) (x3 : Ty.D (.int .i64)) : ref10_Short.l4 k (n4 + 1) x0 x3 =
  br (ilt x3 (ilen x0))
    (br (inL x3 x0)
      (br (ilt 120 (ilen (rd .str x0 (natOf x3))))
        (some false)
        (ref10_Short.l4 k n4 x0 (iadd .i64 x3 1)))
      (none))
    (some true) := by kernel_rfl
noncomputable def ref10_Short.e (k : Nat) : Entry := Sg.entry ref10_Short.sg fun x => ref10_Short.f k x
set_option maxRecDepth 100000 in
theorem ref10_Short.ok (k : Nat) : CallOK Tryz.prog 171 (ref10_Short.e k) :=
  fn_ok (c := ref10_Short.cx k) (code := ref10_Short.body) (TT.of tt_ok pp_ok) (fns_ok trivial) mixed Tryz.func171 (by kernel_rfl) (by kernel_rfl) (by kernel_rfl) (by kernel_rfl) (by kernel_rfl) (by kernel_rfl) (fun x => by kernel_rfl)
noncomputable def ref11_Short.body : Go.Code := Tryz.f140.body.getD .skip
noncomputable def ref11_Short.rs : List Go.ResultVar := Tryz.f140.results.toList
def ref11_Short.regs : List (Nat × RInfo) := [(0, ⟨[1], [1], [0], [], 0, [], [], [], []⟩),
  (1, ⟨[2], [5], [], [], 0, [], [], [], []⟩)]
noncomputable def ref11_Short.cx (k : Nat) : Cx := ⟨tt, pp, [(171, (ref10_Short.e k))], ref11_Short.regs, k⟩
@[reducible] def ref11_Short.sg : Sg := ⟨[.dat tOp], [], .dat .bool, []⟩
noncomputable def ref11_Short.f (k : Nat) (a0 : Ty.D tOp) : Option (Sg.Out ref11_Short.sg) := Sg.fn ref11_Short.sg (ref11_Short.cx k) ref11_Short.body ref11_Short.rs a0
set_option maxRecDepth 100000 in
theorem ref11_Short.f_eq (k : Nat) (a0 : Ty.D tOp) : ref11_Short.f k a0 =
  bnd (ref10_Short.f k a0.2.1) fun r0 =>
  br r0
    (br (ile (ilen a0.2.2.1.2.2) 200)
      (some (ile (ilen a0.2.2.2.2) 300))
      (some false))
    (some false) := by kernel_rfl
noncomputable def ref11_Short.e (k : Nat) : Entry := Sg.entry ref11_Short.sg fun x => ref11_Short.f k x
set_option maxRecDepth 100000 in
theorem ref11_Short.ok (k : Nat) : CallOK Tryz.prog 140 (ref11_Short.e k) :=
  fn_ok (c := ref11_Short.cx k) (code := ref11_Short.body) (TT.of tt_ok pp_ok) (fns_ok ⟨(ref10_Short.ok k), trivial⟩) mixed Tryz.func140 (by kernel_rfl) (by kernel_rfl) (by kernel_rfl) (by kernel_rfl) (by kernel_rfl) (by kernel_rfl) (fun x => by kernel_rfl)
noncomputable def ref12_Short.body : Go.Code := Tryz.f101.body.getD .skip
noncomputable def ref12_Short.rs : List Go.ResultVar := Tryz.f101.results.toList
def ref12_Short.regs : List (Nat × RInfo) := [(0, ⟨[1], [1], [0], [], 0, [], [], [], []⟩),
  (1, ⟨[1, 7], [1], [], [], 0, [], [], [], []⟩),
  (2, ⟨[2], [], [], [], 0, [], [], [], []⟩),
  (3, ⟨[1, 3], [1], [], [], 0, [], [], [], []⟩),
  (4, ⟨[1, 3, 12], [1], [], [], 0, [1, 3], [1], [], []⟩),
  (6, ⟨[1, 3, 21], [1], [], [], 0, [], [], [], []⟩),
  (7, ⟨[2], [], [], [], 0, [], [], [], []⟩),
  (5, ⟨[1, 3], [1], [], [], 0, [], [], [], []⟩),
  (8, ⟨[2], [], [], [], 0, [], [], [], []⟩)]
noncomputable def ref12_Short.cx (k : Nat) : Cx := ⟨tt, pp, [(140, (ref11_Short.e k))], ref12_Short.regs, k⟩
@[reducible] def ref12_Short.sg : Sg := ⟨[.dat tTxn], [], .dat .bool, []⟩
noncomputable def ref12_Short.f (k : Nat) (a0 : Ty.D tTxn) : Option (Sg.Out ref12_Short.sg) := Sg.fn ref12_Short.sg (ref12_Short.cx k) ref12_Short.body ref12_Short.rs a0
noncomputable def ref12_Short.l4 (k : Nat) (n : Nat) (x3 : Ty.D (.int .i64)) (m1 : Ty.D tTxn) : Option (Sg.Out ref12_Short.sg) := loopAt (ref12_Short.cx k) ref12_Short.body [1, 1, 0, 1, 0] 4 [1, 3] [1] [] (Sg.K ref12_Short.sg (ref12_Short.cx k) ref12_Short.rs) n ⟨[(1, .ref 1 []), (3, .dat (.int .i64) x3)], [(1, .dat tTxn m1)]⟩
set_option maxRecDepth 100000 in
theorem ref12_Short.f_eq (k : Nat) (a0 : Ty.D tTxn) : ref12_Short.f k a0 =
  br (ilt 20 (ilen a0.2.2.2.2))
    (some false)
    (ref12_Short.l4 k k 0 a0) := by kernel_rfl
set_option maxRecDepth 100000 in
theorem ref12_Short.l4_eq (k : Nat) (n4 : Nat) (x3 : Ty.D (.int .i64)) (m1 : Ty.D tTxn) : ref12_Short.l4 k (n4 + 1) x3 m1 =
  br (ilt x3 (ilen m1.2.2.2.2))
    (br (inL x3 m1.2.2.2.2)
      (bnd (ref11_Short.f k (rd tOp m1.2.2.2.2 (natOf x3))) fun r0 =>
      br (bnot r0)
        (some false)
        (ref12_Short.l4 k n4 (iadd .i64 x3 1) m1))
      (none))
    (some true) := by kernel_rfl
noncomputable def ref12_Short.e (k : Nat) : Entry := Sg.entry ref12_Short.sg fun x => ref12_Short.f k x
set_option maxRecDepth 100000 in
theorem ref12_Short.ok (k : Nat) : CallOK Tryz.prog 101 (ref12_Short.e k) :=
  fn_ok (c := ref12_Short.cx k) (code := ref12_Short.body) (TT.of tt_ok pp_ok) (fns_ok ⟨(ref11_Short.ok k), trivial⟩) mixed Tryz.func101 (by kernel_rfl) (by kernel_rfl) (by kernel_rfl) (by kernel_rfl) (by kernel_rfl) (by kernel_rfl) (fun x => by kernel_rfl)
noncomputable def ref22_Short.body : Go.Code := Tryz.f71.body.getD .skip
noncomputable def ref22_Short.rs : List Go.ResultVar := Tryz.f71.results.toList
def ref22_Short.regs : List (Nat × RInfo) := [(0, ⟨[1], [1], [0], [], 0, [], [], [], []⟩),
  (1, ⟨[1, 28], [1], [], [], 0, [], [], [], []⟩),
  (2, ⟨[2], [], [], [], 0, [], [], [], []⟩),
  (3, ⟨[1, 3], [1], [], [], 0, [], [], [], []⟩),
  (4, ⟨[1, 3, 33], [1], [], [], 0, [1, 3], [1], [], []⟩),
  (6, ⟨[1, 3, 42], [1], [], [], 0, [], [], [], []⟩),
  (7, ⟨[2], [], [], [], 0, [], [], [], []⟩),
  (5, ⟨[1, 3], [1], [], [], 0, [], [], [], []⟩),
  (8, ⟨[1, 4], [1], [], [], 0, [], [], [], []⟩),
  (9, ⟨[1, 4, 44], [1], [], [], 0, [1, 4], [1], [], []⟩),
  (11, ⟨[1, 4, 52], [1], [], [], 0, [], [], [], []⟩),
  (12, ⟨[2], [], [], [], 0, [], [], [], []⟩),
  (10, ⟨[1, 4], [1], [], [], 0, [], [], [], []⟩),
  (13, ⟨[2], [], [], [], 0, [], [], [], []⟩)]
noncomputable def ref22_Short.cx (k : Nat) : Cx := ⟨tt, pp, [(101, (ref12_Short.e k))], ref22_Short.regs, k⟩
@[reducible] def ref22_Short.sg : Sg := ⟨[.dat tState], [], .dat .bool, []⟩
noncomputable def ref22_Short.f (k : Nat) (a0 : Ty.D tState) : Option (Sg.Out ref22_Short.sg) := Sg.fn ref22_Short.sg (ref22_Short.cx k) ref22_Short.body ref22_Short.rs a0
noncomputable def ref22_Short.l4 (k : Nat) (n : Nat) (x3 : Ty.D (.int .i64)) (m1 : Ty.D tState) : Option (Sg.Out ref22_Short.sg) := loopAt (ref22_Short.cx k) ref22_Short.body [1, 1, 0, 1, 0] 4 [1, 3] [1] [] (Sg.K ref22_Short.sg (ref22_Short.cx k) ref22_Short.rs) n ⟨[(1, .ref 1 []), (3, .dat (.int .i64) x3)], [(1, .dat tState m1)]⟩
noncomputable def ref22_Short.l9 (k : Nat) (n : Nat) (x4 : Ty.D (.int .i64)) (m1 : Ty.D tState) : Option (Sg.Out ref22_Short.sg) := loopAt (ref22_Short.cx k) ref22_Short.body [1, 1, 1, 0, 1, 0] 9 [1, 4] [1] [] (Sg.K ref22_Short.sg (ref22_Short.cx k) ref22_Short.rs) n ⟨[(1, .ref 1 []), (4, .dat (.int .i64) x4)], [(1, .dat tState m1)]⟩
set_option maxRecDepth 100000 in
theorem ref22_Short.f_eq (k : Nat) (a0 : Ty.D tState) : ref22_Short.f k a0 =
  br (ilt 20 (ilen a0.1))
    (some false)
    (br (ilt 100 (ilen a0.2.1))
      (some false)
      (br (ilt 100 (ilen a0.2.2.1.2))
        (some false)
        (br (ilt 100 (ilen a0.2.2.2.1.2))
          (some false)
          (ref22_Short.l4 k k 0 a0)))) := by kernel_rfl
set_option maxRecDepth 100000 in
theorem ref22_Short.l4_eq (k : Nat) (n4 : Nat) (x3 : Ty.D (.int .i64)) (m1 : Ty.D tState) : ref22_Short.l4 k (n4 + 1) x3 m1 =
  br (ilt x3 (ilen m1.1))
    (br (inL x3 m1.1)
      (bnd (ref12_Short.f k (rd tTxn m1.1 (natOf x3))) fun r0 =>
      br (bnot r0)
        (some false)
        (ref22_Short.l4 k n4 (iadd .i64 x3 1) m1))
      (none))
    (ref22_Short.l9 k k 0 m1) := by kernel_rfl
set_option maxRecDepth 100000 in
theorem ref22_Short.l9_eq (k : Nat) (n9 : Nat) (x4 : Ty.D (.int .i64)) (m1 : Ty.D tState) : ref22_Short.l9 k (n9 + 1) x4 m1 =
  br (ilt x4 8)
    (br (inB x4 8)
      (br (ilt 40 (ilen (rd (.slc tDot) m1.2.2.2.2 (natOf x4))))
        (some false)
        (ref22_Short.l9 k n9 (iadd .i64 x4 1) m1))
      (none))
    (some true) := by kernel_rfl
noncomputable def ref22_Short.e (k : Nat) : Entry := Sg.entry ref22_Short.sg fun x => ref22_Short.f k x
set_option maxRecDepth 100000 in
theorem ref22_Short.ok (k : Nat) : CallOK Tryz.prog 71 (ref22_Short.e k) :=
  fn_ok (c := ref22_Short.cx k) (code := ref22_Short.body) (TT.of tt_ok pp_ok) (fns_ok ⟨(ref12_Short.ok k), trivial⟩) mixed Tryz.func71 (by kernel_rfl) (by kernel_rfl) (by kernel_rfl) (by kernel_rfl) (by kernel_rfl) (by kernel_rfl) (fun x => by kernel_rfl)
noncomputable def ref04_ints.body : Go.Code := Tryz.f162.body.getD .skip
noncomputable def ref04_ints.rs : List Go.ResultVar := Tryz.f162.results.toList
def ref04_ints.regs : List (Nat × RInfo) := [(0, ⟨[0, 1], [], [], [], 0, [], [], [], []⟩),
  (1, ⟨[0, 1, 7], [], [], [], 0, [], [], [], []⟩),
  (2, ⟨[4], [], [], [], 0, [], [], [], []⟩),
  (3, ⟨[10], [], [], [], 0, [], [], [], []⟩),
  (4, ⟨[4], [], [], [], 0, [], [], [], []⟩),
  (5, ⟨[4], [], [], [], 0, [], [], [], []⟩)]
noncomputable def ref04_ints.cx (k : Nat) : Cx := ⟨tt, pp, [], ref04_ints.regs, k⟩
@[reducible] def ref04_ints.sg : Sg := ⟨[.dat (.int .i64), .dat (.int .i64)], [], .dat (.int .i64), []⟩
noncomputable def ref04_ints.f (k : Nat) (a0 : Ty.D (.int .i64)) (a1 : Ty.D (.int .i64)) : Option (Sg.Out ref04_ints.sg) := Sg.fn ref04_ints.sg (ref04_ints.cx k) ref04_ints.body ref04_ints.rs (a0, a1)
set_option maxRecDepth 100000 in
theorem ref04_ints.f_eq (k : Nat) (a0 : Ty.D (.int .i64)) (a1 : Ty.D (.int .i64)) : ref04_ints.f k a0 a1 =
  br (ilt a0 a1)
    (some (-1))
    (br (ilt a1 a0)
      (some 1)
      (some 0)) := by kernel_rfl
noncomputable def ref04_ints.e (k : Nat) : Entry := Sg.entry ref04_ints.sg fun x => ref04_ints.f k x.1 x.2
set_option maxRecDepth 100000 in
theorem ref04_ints.ok (k : Nat) : CallOK Tryz.prog 162 (ref04_ints.e k) :=
  fn_ok (c := ref04_ints.cx k) (code := ref04_ints.body) (TT.of tt_ok pp_ok) (fns_ok trivial) mixed Tryz.func162 (by kernel_rfl) (by kernel_rfl) (by kernel_rfl) (by kernel_rfl) (by kernel_rfl) (by kernel_rfl) (fun x => by kernel_rfl)
noncomputable def ref04_Compare.body : Go.Code := Tryz.f129.body.getD .skip
noncomputable def ref04_Compare.rs : List Go.ResultVar := Tryz.f129.results.toList
def ref04_Compare.regs : List (Nat × RInfo) := [(0, ⟨[2, 3], [2, 3], [], [], 0, [], [], [], []⟩),
  (1, ⟨[2, 3, 9], [2, 3], [], [], 0, [], [], [], []⟩),
  (2, ⟨[4], [14, 19], [], [], 0, [], [], [], []⟩),
  (3, ⟨[4], [14, 19], [], [], 0, [], [], [], []⟩)]
noncomputable def ref04_Compare.cx (k : Nat) : Cx := ⟨tt, pp, [(162, (ref04_ints.e k))], ref04_Compare.regs, k⟩
@[reducible] def ref04_Compare.sg : Sg := ⟨[.dat tDot, .dat tDot], [], .dat (.int .i64), []⟩
noncomputable def ref04_Compare.f (k : Nat) (a0 : Ty.D tDot) (a1 : Ty.D tDot) : Option (Sg.Out ref04_Compare.sg) := Sg.fn ref04_Compare.sg (ref04_Compare.cx k) ref04_Compare.body ref04_Compare.rs (a0, a1)
set_option maxRecDepth 100000 in
theorem ref04_Compare.f_eq (k : Nat) (a0 : Ty.D tDot) (a1 : Ty.D tDot) : ref04_Compare.f k a0 a1 =
  br (bnot (ieq a0.1 a1.1))
    (bnd (ref04_ints.f k a0.1 a1.1) fun r0 =>
    some r0)
    (bnd (ref04_ints.f k a0.2 a1.2) fun r1 =>
    some r1) := by kernel_rfl
noncomputable def ref04_Compare.e (k : Nat) : Entry := Sg.entry ref04_Compare.sg fun x => ref04_Compare.f k x.1 x.2
set_option maxRecDepth 100000 in
theorem ref04_Compare.ok (k : Nat) : CallOK Tryz.prog 129 (ref04_Compare.e k) :=
  fn_ok (c := ref04_Compare.cx k) (code := ref04_Compare.body) (TT.of tt_ok pp_ok) (fns_ok ⟨(ref04_ints.ok k), trivial⟩) mixed Tryz.func129 (by kernel_rfl) (by kernel_rfl) (by kernel_rfl) (by kernel_rfl) (by kernel_rfl) (by kernel_rfl) (fun x => by kernel_rfl)
noncomputable def ref12_Rises.body : Go.Code := Tryz.f93.body.getD .skip
noncomputable def ref12_Rises.rs : List Go.ResultVar := Tryz.f93.results.toList
def ref12_Rises.regs : List (Nat × RInfo) := [(0, ⟨[0], [], [], [], 0, [], [], [], []⟩),
  (1, ⟨[0, 3], [], [], [], 0, [], [], [], []⟩),
  (2, ⟨[0, 3, 7], [], [], [], 0, [0, 3], [], [], []⟩),
  (4, ⟨[0, 3, 22], [], [], [], 13, [], [], [], []⟩),
  (5, ⟨[2], [], [], [], 0, [], [], [], []⟩),
  (3, ⟨[0, 3], [], [], [], 0, [], [], [], []⟩),
  (6, ⟨[2], [], [], [], 0, [], [], [], []⟩)]
noncomputable def ref12_Rises.cx (k : Nat) : Cx := ⟨tt, pp, [(129, (ref04_Compare.e k))], ref12_Rises.regs, k⟩
@[reducible] def ref12_Rises.sg : Sg := ⟨[.dat (.slc tTxn)], [], .dat .bool, []⟩
noncomputable def ref12_Rises.f (k : Nat) (a0 : Ty.D (.slc tTxn)) : Option (Sg.Out ref12_Rises.sg) := Sg.fn ref12_Rises.sg (ref12_Rises.cx k) ref12_Rises.body ref12_Rises.rs a0
noncomputable def ref12_Rises.l2 (k : Nat) (n : Nat) (x0 : Ty.D (.slc tTxn)) (x3 : Ty.D (.int .i64)) : Option (Sg.Out ref12_Rises.sg) := loopAt (ref12_Rises.cx k) ref12_Rises.body [1, 0, 1, 0] 2 [0, 3] [] [] (Sg.K ref12_Rises.sg (ref12_Rises.cx k) ref12_Rises.rs) n ⟨[(0, .dat (.slc tTxn) x0), (3, .dat (.int .i64) x3)], []⟩
set_option maxRecDepth 100000 in
theorem ref12_Rises.f_eq (k : Nat) (a0 : Ty.D (.slc tTxn)) : ref12_Rises.f k a0 =
  ref12_Rises.l2 k k a0 1 := by kernel_rfl
set_option maxRecDepth 100000 in
theorem ref12_Rises.l2_eq (k : Nat) (n2 : Nat) (x0 : Ty.D (.slc tTxn)) (x3 : Ty.D (.int .i64)) : ref12_Rises.l2 k (n2 + 1) x0 x3 =
  br (ilt x3 (ilen x0))
    (br (inL (isub .i64 x3 1) x0)
      (br (inL x3 x0)
        (bnd (ref04_Compare.f k ((rd tTxn x0 (natOf (isub .i64 x3 1))).1) ((rd tTxn x0 (natOf x3)).1)) fun r0 =>
        br (bnot (ieq r0 (-1)))
          (some false)
          (ref12_Rises.l2 k n2 x0 (iadd .i64 x3 1)))
        (none))
      (none))
    (some true) := by kernel_rfl
noncomputable def ref12_Rises.e (k : Nat) : Entry := Sg.entry ref12_Rises.sg fun x => ref12_Rises.f k x
set_option maxRecDepth 100000 in
theorem ref12_Rises.ok (k : Nat) : CallOK Tryz.prog 93 (ref12_Rises.e k) :=
  fn_ok (c := ref12_Rises.cx k) (code := ref12_Rises.body) (TT.of tt_ok pp_ok) (fns_ok ⟨(ref04_Compare.ok k), trivial⟩) mixed Tryz.func93 (by kernel_rfl) (by kernel_rfl) (by kernel_rfl) (by kernel_rfl) (by kernel_rfl) (by kernel_rfl) (fun x => by kernel_rfl)
noncomputable def ref04_Right.body : Go.Code := Tryz.f97.body.getD .skip
noncomputable def ref04_Right.rs : List Go.ResultVar := Tryz.f97.results.toList
def ref04_Right.regs : List (Nat × RInfo) := [(0, ⟨[1], [1], [], [], 0, [], [], [], []⟩),
  (1, ⟨[2], [], [], [], 0, [], [], [], []⟩)]
noncomputable def ref04_Right.cx (k : Nat) : Cx := ⟨tt, pp, [], ref04_Right.regs, k⟩
@[reducible] def ref04_Right.sg : Sg := ⟨[.dat tDot], [], .dat .bool, []⟩
noncomputable def ref04_Right.f (k : Nat) (a0 : Ty.D tDot) : Option (Sg.Out ref04_Right.sg) := Sg.fn ref04_Right.sg (ref04_Right.cx k) ref04_Right.body ref04_Right.rs a0
set_option maxRecDepth 100000 in
theorem ref04_Right.f_eq (k : Nat) (a0 : Ty.D tDot) : ref04_Right.f k a0 =
  br (ile 0 a0.1)
    (br (ile a0.1 15)
      (br (ile 1 a0.2)
        (some (ile a0.2 1048576))
        (some false))
      (some false))
    (some false) := by kernel_rfl
noncomputable def ref04_Right.e (k : Nat) : Entry := Sg.entry ref04_Right.sg fun x => ref04_Right.f k x
set_option maxRecDepth 100000 in
theorem ref04_Right.ok (k : Nat) : CallOK Tryz.prog 97 (ref04_Right.e k) :=
  fn_ok (c := ref04_Right.cx k) (code := ref04_Right.body) (TT.of tt_ok pp_ok) (fns_ok trivial) mixed Tryz.func97 (by kernel_rfl) (by kernel_rfl) (by kernel_rfl) (by kernel_rfl) (by kernel_rfl) (by kernel_rfl) (fun x => by kernel_rfl)
noncomputable def ref08_one.body : Go.Code := Tryz.f130.body.getD .skip
noncomputable def ref08_one.rs : List Go.ResultVar := Tryz.f130.results.toList
def ref08_one.regs : List (Nat × RInfo) := [(0, ⟨[1], [1], [], [], 0, [], [], [], []⟩),
  (1, ⟨[2], [5], [], [], 0, [], [], [], []⟩)]
noncomputable def ref08_one.cx (k : Nat) : Cx := ⟨tt, pp, [(97, (ref04_Right.e k))], ref08_one.regs, k⟩
@[reducible] def ref08_one.sg : Sg := ⟨[.dat tUndo], [], .dat .bool, []⟩
noncomputable def ref08_one.f (k : Nat) (a0 : Ty.D tUndo) : Option (Sg.Out ref08_one.sg) := Sg.fn ref08_one.sg (ref08_one.cx k) ref08_one.body ref08_one.rs a0
set_option maxRecDepth 100000 in
theorem ref08_one.f_eq (k : Nat) (a0 : Ty.D tUndo) : ref08_one.f k a0 =
  bnd (ref04_Right.f k a0.1) fun r0 =>
  br r0
    (br (ile 1 a0.2)
      (some (ile a0.2 64))
      (some false))
    (some false) := by kernel_rfl
noncomputable def ref08_one.e (k : Nat) : Entry := Sg.entry ref08_one.sg fun x => ref08_one.f k x
set_option maxRecDepth 100000 in
theorem ref08_one.ok (k : Nat) : CallOK Tryz.prog 130 (ref08_one.e k) :=
  fn_ok (c := ref08_one.cx k) (code := ref08_one.body) (TT.of tt_ok pp_ok) (fns_ok ⟨(ref04_Right.ok k), trivial⟩) mixed Tryz.func130 (by kernel_rfl) (by kernel_rfl) (by kernel_rfl) (by kernel_rfl) (by kernel_rfl) (by kernel_rfl) (fun x => by kernel_rfl)
noncomputable def ref08_Right.body : Go.Code := Tryz.f94.body.getD .skip
noncomputable def ref08_Right.rs : List Go.ResultVar := Tryz.f94.results.toList
def ref08_Right.regs : List (Nat × RInfo) := [(0, ⟨[0], [], [], [], 0, [], [], [], []⟩),
  (1, ⟨[0, 3], [], [], [], 0, [], [], [], []⟩),
  (2, ⟨[0, 3, 7], [], [], [], 0, [0, 3], [], [], []⟩),
  (4, ⟨[0, 3, 34], [], [], [], 25, [], [], [], []⟩),
  (5, ⟨[2], [], [], [], 0, [], [], [], []⟩),
  (3, ⟨[0, 3], [], [], [], 0, [], [], [], []⟩),
  (6, ⟨[2], [], [], [], 0, [], [], [], []⟩)]
noncomputable def ref08_Right.cx (k : Nat) : Cx := ⟨tt, pp, [(130, (ref08_one.e k)),
  (129, (ref04_Compare.e k))], ref08_Right.regs, k⟩
@[reducible] def ref08_Right.sg : Sg := ⟨[.dat (.slc tUndo)], [], .dat .bool, []⟩
noncomputable def ref08_Right.f (k : Nat) (a0 : Ty.D (.slc tUndo)) : Option (Sg.Out ref08_Right.sg) := Sg.fn ref08_Right.sg (ref08_Right.cx k) ref08_Right.body ref08_Right.rs a0
noncomputable def ref08_Right.l2 (k : Nat) (n : Nat) (x0 : Ty.D (.slc tUndo)) (x3 : Ty.D (.int .i64)) : Option (Sg.Out ref08_Right.sg) := loopAt (ref08_Right.cx k) ref08_Right.body [1, 0, 1, 0] 2 [0, 3] [] [] (Sg.K ref08_Right.sg (ref08_Right.cx k) ref08_Right.rs) n ⟨[(0, .dat (.slc tUndo) x0), (3, .dat (.int .i64) x3)], []⟩
set_option maxRecDepth 100000 in
theorem ref08_Right.f_eq (k : Nat) (a0 : Ty.D (.slc tUndo)) : ref08_Right.f k a0 =
  ref08_Right.l2 k k a0 0 := by kernel_rfl
set_option maxRecDepth 100000 in
theorem ref08_Right.l2_eq (k : Nat) (n2 : Nat) (x0 : Ty.D (.slc tUndo)) (x3 : Ty.D (.int .i64)) : ref08_Right.l2 k (n2 + 1) x0 x3 =
  br (ilt x3 (ilen x0))
    (br (inL x3 x0)
      (bnd (ref08_one.f k (rd tUndo x0 (natOf x3))) fun r0 =>
      br (bnot r0)
        (some false)
        (br (ilt 0 x3)
          (br (inL (isub .i64 x3 1) x0)
            (br (inL x3 x0)
              (bnd (ref04_Compare.f k ((rd tUndo x0 (natOf (isub .i64 x3 1))).1) ((rd tUndo x0 (natOf x3)).1)) fun r1 =>
              br (bnot (ieq r1 (-1)))
                (some false)
                (ref08_Right.l2 k n2 x0 (iadd .i64 x3 1)))
              (none))
            (none))
          (ref08_Right.l2 k n2 x0 (iadd .i64 x3 1))))
      (none))
    (some true) := by kernel_rfl
noncomputable def ref08_Right.e (k : Nat) : Entry := Sg.entry ref08_Right.sg fun x => ref08_Right.f k x
set_option maxRecDepth 100000 in
theorem ref08_Right.ok (k : Nat) : CallOK Tryz.prog 94 (ref08_Right.e k) :=
  fn_ok (c := ref08_Right.cx k) (code := ref08_Right.body) (TT.of tt_ok pp_ok) (fns_ok ⟨(ref08_one.ok k), (ref04_Compare.ok k), trivial⟩) mixed Tryz.func94 (by kernel_rfl) (by kernel_rfl) (by kernel_rfl) (by kernel_rfl) (by kernel_rfl) (by kernel_rfl) (fun x => by kernel_rfl)
noncomputable def ref05_Right.body : Go.Code := Tryz.f131.body.getD .skip
noncomputable def ref05_Right.rs : List Go.ResultVar := Tryz.f131.results.toList
def ref05_Right.regs : List (Nat × RInfo) := [(0, ⟨[1], [1], [], [], 0, [], [], [], []⟩),
  (1, ⟨[1, 3], [1], [], [], 0, [], [], [], []⟩),
  (2, ⟨[1, 3, 5], [1], [], [], 0, [1, 3], [1], [], []⟩),
  (4, ⟨[1, 3, 17], [1], [], [], 0, [], [], [], []⟩),
  (5, ⟨[2], [], [], [], 0, [], [], [], []⟩),
  (3, ⟨[1, 3], [1], [], [], 0, [], [], [], []⟩),
  (6, ⟨[2], [], [], [], 0, [], [], [], []⟩)]
noncomputable def ref05_Right.cx (k : Nat) : Cx := ⟨tt, pp, [], ref05_Right.regs, k⟩
@[reducible] def ref05_Right.sg : Sg := ⟨[.dat tVec], [], .dat .bool, []⟩
noncomputable def ref05_Right.f (k : Nat) (a0 : Ty.D tVec) : Option (Sg.Out ref05_Right.sg) := Sg.fn ref05_Right.sg (ref05_Right.cx k) ref05_Right.body ref05_Right.rs a0
noncomputable def ref05_Right.l2 (k : Nat) (n : Nat) (x3 : Ty.D (.int .i64)) (m1 : Ty.D tVec) : Option (Sg.Out ref05_Right.sg) := loopAt (ref05_Right.cx k) ref05_Right.body [1, 0, 1, 0] 2 [1, 3] [1] [] (Sg.K ref05_Right.sg (ref05_Right.cx k) ref05_Right.rs) n ⟨[(1, .ref 1 []), (3, .dat (.int .i64) x3)], [(1, .dat tVec m1)]⟩
set_option maxRecDepth 100000 in
theorem ref05_Right.f_eq (k : Nat) (a0 : Ty.D tVec) : ref05_Right.f k a0 =
  ref05_Right.l2 k k 0 a0 := by kernel_rfl
set_option maxRecDepth 100000 in
theorem ref05_Right.l2_eq (k : Nat) (n2 : Nat) (x3 : Ty.D (.int .i64)) (m1 : Ty.D tVec) : ref05_Right.l2 k (n2 + 1) x3 m1 =
  br (ilt x3 16)
    (br (inB x3 16)
      (br (ilt (rd (.int .i64) m1 (natOf x3)) 0)
        (some false)
        (br (inB x3 16)
          (br (ilt 1048576 (rd (.int .i64) m1 (natOf x3)))
            (some false)
            (ref05_Right.l2 k n2 (iadd .i64 x3 1) m1))
          (none)))
      (none))
    (some true) := by kernel_rfl
noncomputable def ref05_Right.e (k : Nat) : Entry := Sg.entry ref05_Right.sg fun x => ref05_Right.f k x
set_option maxRecDepth 100000 in
theorem ref05_Right.ok (k : Nat) : CallOK Tryz.prog 131 (ref05_Right.e k) :=
  fn_ok (c := ref05_Right.cx k) (code := ref05_Right.body) (TT.of tt_ok pp_ok) (fns_ok trivial) mixed Tryz.func131 (by kernel_rfl) (by kernel_rfl) (by kernel_rfl) (by kernel_rfl) (by kernel_rfl) (by kernel_rfl) (fun x => by kernel_rfl)
noncomputable def ref06_Right.body : Go.Code := Tryz.f95.body.getD .skip
noncomputable def ref06_Right.rs : List Go.ResultVar := Tryz.f95.results.toList
def ref06_Right.regs : List (Nat × RInfo) := [(0, ⟨[1], [1], [0], [], 0, [], [], [], []⟩),
  (1, ⟨[1, 14], [1], [], [], 0, [], [], [], []⟩),
  (2, ⟨[2], [], [], [], 0, [], [], [], []⟩),
  (3, ⟨[1, 3], [1], [], [], 0, [], [], [], []⟩),
  (4, ⟨[1, 3, 19], [1], [], [], 0, [1, 3], [1], [], []⟩),
  (6, ⟨[1, 3, 4], [1, 4], [], [], 0, [], [], [], []⟩),
  (7, ⟨[1, 3, 4, 40], [1, 4], [], [], 14, [], [], [], []⟩),
  (8, ⟨[2], [], [], [], 0, [], [], [], []⟩),
  (9, ⟨[1, 3, 53], [1], [], [], 13, [], [], [], []⟩),
  (10, ⟨[2], [], [], [], 0, [], [], [], []⟩),
  (5, ⟨[1, 3], [1], [], [], 0, [], [], [], []⟩),
  (11, ⟨[2], [], [], [], 0, [], [], [], []⟩)]
noncomputable def ref06_Right.cx (k : Nat) : Cx := ⟨tt, pp, [(131, (ref05_Right.e k)),
  (97, (ref04_Right.e k)),
  (129, (ref04_Compare.e k))], ref06_Right.regs, k⟩
@[reducible] def ref06_Right.sg : Sg := ⟨[.dat tDots], [], .dat .bool, []⟩
noncomputable def ref06_Right.f (k : Nat) (a0 : Ty.D tDots) : Option (Sg.Out ref06_Right.sg) := Sg.fn ref06_Right.sg (ref06_Right.cx k) ref06_Right.body ref06_Right.rs a0
noncomputable def ref06_Right.l4 (k : Nat) (n : Nat) (x3 : Ty.D (.int .i64)) (m1 : Ty.D tDots) : Option (Sg.Out ref06_Right.sg) := loopAt (ref06_Right.cx k) ref06_Right.body [1, 1, 0, 1, 0] 4 [1, 3] [1] [] (Sg.K ref06_Right.sg (ref06_Right.cx k) ref06_Right.rs) n ⟨[(1, .ref 1 []), (3, .dat (.int .i64) x3)], [(1, .dat tDots m1)]⟩
set_option maxRecDepth 100000 in
theorem ref06_Right.f_eq (k : Nat) (a0 : Ty.D tDots) : ref06_Right.f k a0 =
  bnd (ref05_Right.f k a0.1) fun r0 =>
  br (bnot r0)
    (some false)
    (br (ilt 4096 (ilen a0.2))
      (some false)
      (ref06_Right.l4 k k 0 a0)) := by kernel_rfl
set_option maxRecDepth 100000 in
theorem ref06_Right.l4_eq (k : Nat) (n4 : Nat) (x3 : Ty.D (.int .i64)) (m1 : Ty.D tDots) : ref06_Right.l4 k (n4 + 1) x3 m1 =
  br (ilt x3 (ilen m1.2))
    (br (inL x3 m1.2)
      (bnd (ref04_Right.f k (rd tDot m1.2 (natOf x3))) fun r0 =>
      br (bnot r0)
        (some false)
        (br (inB ((rd tDot m1.2 (natOf x3)).1) 16)
          (br (ile (isub .i64 ((rd tDot m1.2 (natOf x3)).2) 1) (rd (.int .i64) m1.1 (natOf ((rd tDot m1.2 (natOf x3)).1))))
            (some false)
            (br (ilt 0 x3)
              (br (inL (isub .i64 x3 1) m1.2)
                (bnd (ref04_Compare.f k (rd tDot m1.2 (natOf (isub .i64 x3 1))) (rd tDot m1.2 (natOf x3))) fun r1 =>
                br (bnot (ieq r1 (-1)))
                  (some false)
                  (ref06_Right.l4 k n4 (iadd .i64 x3 1) m1))
                (none))
              (ref06_Right.l4 k n4 (iadd .i64 x3 1) m1)))
          (none)))
      (none))
    (some true) := by kernel_rfl
noncomputable def ref06_Right.e (k : Nat) : Entry := Sg.entry ref06_Right.sg fun x => ref06_Right.f k x
set_option maxRecDepth 100000 in
theorem ref06_Right.ok (k : Nat) : CallOK Tryz.prog 95 (ref06_Right.e k) :=
  fn_ok (c := ref06_Right.cx k) (code := ref06_Right.body) (TT.of tt_ok pp_ok) (fns_ok ⟨(ref05_Right.ok k), (ref04_Right.ok k), (ref04_Compare.ok k), trivial⟩) mixed Tryz.func95 (by kernel_rfl) (by kernel_rfl) (by kernel_rfl) (by kernel_rfl) (by kernel_rfl) (by kernel_rfl) (fun x => by kernel_rfl)
noncomputable def ref03_Char.body : Go.Code := Tryz.f196.body.getD .skip
noncomputable def ref03_Char.rs : List Go.ResultVar := Tryz.f196.results.toList
def ref03_Char.regs : List (Nat × RInfo) := [(0, ⟨[0], [], [], [], 0, [], [], [], []⟩),
  (1, ⟨[0, 10], [], [], [], 0, [], [], [], []⟩),
  (2, ⟨[2, 3], [], [], [], 0, [], [], [], []⟩),
  (3, ⟨[0, 4], [], [], [], 0, [], [], [], []⟩),
  (4, ⟨[0, 4], [], [], [], 0, [], [], [], []⟩),
  (6, ⟨[0, 4, 14], [], [], [], 0, [], [], [], []⟩),
  (7, ⟨[2, 3], [], [], [], 0, [], [], [], []⟩),
  (8, ⟨[0, 4, 18], [], [], [], 0, [], [], [], []⟩),
  (9, ⟨[0, 4, 5, 6], [], [], [], 0, [], [], [], []⟩),
  (10, ⟨[0, 4, 27], [], [], [], 0, [], [], [], []⟩),
  (11, ⟨[0, 4, 5, 6], [], [], [], 0, [], [], [], []⟩),
  (12, ⟨[0, 4, 36], [], [], [], 0, [], [], [], []⟩),
  (13, ⟨[0, 4, 5, 6], [], [], [], 0, [], [], [], []⟩),
  (5, ⟨[2, 3], [], [], [], 0, [], [], [], []⟩),
  (14, ⟨[0, 4, 5, 6, 48], [], [], [], 0, [], [], [], []⟩),
  (15, ⟨[2, 3], [], [], [], 0, [], [], [], []⟩),
  (16, ⟨[0, 4, 5, 6, 7], [], [], [], 0, [], [], [], []⟩),
  (17, ⟨[0, 4, 5, 6, 7, 51], [], [], [], 0, [0, 4, 5, 6, 7], [], [], []⟩),
  (19, ⟨[0, 4, 5, 6, 7, 63], [], [], [], 0, [], [], [], []⟩),
  (20, ⟨[2, 3], [], [], [], 0, [], [], [], []⟩),
  (21, ⟨[0, 4, 5, 6, 7], [], [], [], 0, [], [], [], []⟩),
  (18, ⟨[0, 4, 5, 6, 7], [], [], [], 0, [], [], [], []⟩),
  (22, ⟨[4, 5, 86], [], [], [], 0, [], [], [], []⟩),
  (23, ⟨[2, 3], [], [], [], 0, [], [], [], []⟩),
  (24, ⟨[2, 3], [], [], [], 0, [], [], [], []⟩)]
noncomputable def ref03_Char.cx (k : Nat) : Cx := ⟨tt, pp, [], ref03_Char.regs, k⟩
@[reducible] def ref03_Char.sg : Sg := ⟨[.dat .str], [], .t2 (.dat (.int .i64)) (.dat (.int .i64)), []⟩
noncomputable def ref03_Char.f (k : Nat) (a0 : Ty.D .str) : Option (Sg.Out ref03_Char.sg) := Sg.fn ref03_Char.sg (ref03_Char.cx k) ref03_Char.body ref03_Char.rs a0
noncomputable def ref03_Char.l17 (k : Nat) (n : Nat) (x0 : Ty.D .str) (x4 : Ty.D (.int .i64)) (x5 : Ty.D (.int .i64)) (x6 : Ty.D (.int .i64)) (x7 : Ty.D (.int .i64)) : Option (Sg.Out ref03_Char.sg) := loopAt (ref03_Char.cx k) ref03_Char.body [1, 1, 1, 1, 1, 1, 0, 1, 0] 17 [0, 4, 5, 6, 7] [] [] (Sg.K ref03_Char.sg (ref03_Char.cx k) ref03_Char.rs) n ⟨[(0, .dat .str x0), (4, .dat (.int .i64) x4), (5, .dat (.int .i64) x5), (6, .dat (.int .i64) x6), (7, .dat (.int .i64) x7)], []⟩
set_option maxRecDepth 100000 in
theorem ref03_Char.f_eq (k : Nat) (a0 : Ty.D .str) : ref03_Char.f k a0 =
  br (ieq (ilen a0) 0)
    (some (0, 0))
    (br (inL 0 a0)
      (br (ilt (iwrap .i64 (byteAt a0 0)) 128)
        (some ((iwrap .i64 (byteAt a0 0)), 1))
        (br (ile 194 (iwrap .i64 (byteAt a0 0)))
          (br (ilt (iwrap .i64 (byteAt a0 0)) 224)
            (br (ilt (ilen a0) 2)
              (some (0, 0))
              (ref03_Char.l17 k k a0 (isub .i64 (iwrap .i64 (byteAt a0 0)) 192) 2 128 1))
            (br (ile 224 (iwrap .i64 (byteAt a0 0)))
              (br (ilt (iwrap .i64 (byteAt a0 0)) 240)
                (br (ilt (ilen a0) 3)
                  (some (0, 0))
                  (ref03_Char.l17 k k a0 (isub .i64 (iwrap .i64 (byteAt a0 0)) 224) 3 2048 1))
                (br (ile 240 (iwrap .i64 (byteAt a0 0)))
                  (br (ilt (iwrap .i64 (byteAt a0 0)) 245)
                    (br (ilt (ilen a0) 4)
                      (some (0, 0))
                      (ref03_Char.l17 k k a0 (isub .i64 (iwrap .i64 (byteAt a0 0)) 240) 4 65536 1))
                    (some (0, 0)))
                  (some (0, 0))))
              (br (ile 240 (iwrap .i64 (byteAt a0 0)))
                (br (ilt (iwrap .i64 (byteAt a0 0)) 245)
                  (br (ilt (ilen a0) 4)
                    (some (0, 0))
                    (ref03_Char.l17 k k a0 (isub .i64 (iwrap .i64 (byteAt a0 0)) 240) 4 65536 1))
                  (some (0, 0)))
                (some (0, 0)))))
          (br (ile 224 (iwrap .i64 (byteAt a0 0)))
            (br (ilt (iwrap .i64 (byteAt a0 0)) 240)
              (br (ilt (ilen a0) 3)
                (some (0, 0))
                (ref03_Char.l17 k k a0 (isub .i64 (iwrap .i64 (byteAt a0 0)) 224) 3 2048 1))
              (br (ile 240 (iwrap .i64 (byteAt a0 0)))
                (br (ilt (iwrap .i64 (byteAt a0 0)) 245)
                  (br (ilt (ilen a0) 4)
                    (some (0, 0))
                    (ref03_Char.l17 k k a0 (isub .i64 (iwrap .i64 (byteAt a0 0)) 240) 4 65536 1))
                  (some (0, 0)))
                (some (0, 0))))
            (br (ile 240 (iwrap .i64 (byteAt a0 0)))
              (br (ilt (iwrap .i64 (byteAt a0 0)) 245)
                (br (ilt (ilen a0) 4)
                  (some (0, 0))
                  (ref03_Char.l17 k k a0 (isub .i64 (iwrap .i64 (byteAt a0 0)) 240) 4 65536 1))
                (some (0, 0)))
              (some (0, 0))))))
      (none)) := by kernel_rfl
set_option maxRecDepth 100000 in
theorem ref03_Char.l17_eq (k : Nat) (n17 : Nat) (x0 : Ty.D .str) (x4 : Ty.D (.int .i64)) (x5 : Ty.D (.int .i64)) (x6 : Ty.D (.int .i64)) (x7 : Ty.D (.int .i64)) : ref03_Char.l17 k (n17 + 1) x0 x4 x5 x6 x7 =
  br (ilt x7 x5)
    (br (inL x7 x0)
      (br (ilt (byteAt x0 x7) 128)
        (some (0, 0))
        (br (inL x7 x0)
          (br (ilt 191 (byteAt x0 x7))
            (some (0, 0))
            (br (inL x7 x0)
              (ref03_Char.l17 k n17 x0 (isub .i64 (iadd .i64 (imul .i64 64 x4) (iwrap .i64 (byteAt x0 x7))) 128) x5 x6 (iadd .i64 x7 1))
              (none)))
          (none)))
      (none))
    (br (ilt x4 x6)
      (some (0, 0))
      (br (ilt 1114111 x4)
        (some (0, 0))
        (br (ile 55296 x4)
          (br (ile x4 57343)
            (some (0, 0))
            (some (x4, x5)))
          (some (x4, x5))))) := by kernel_rfl
noncomputable def ref03_Char.e (k : Nat) : Entry := Sg.entry ref03_Char.sg fun x => ref03_Char.f k x
set_option maxRecDepth 100000 in
theorem ref03_Char.ok (k : Nat) : CallOK Tryz.prog 196 (ref03_Char.e k) :=
  fn_ok (c := ref03_Char.cx k) (code := ref03_Char.body) (TT.of tt_ok pp_ok) (fns_ok trivial) mixed Tryz.func196 (by kernel_rfl) (by kernel_rfl) (by kernel_rfl) (by kernel_rfl) (by kernel_rfl) (by kernel_rfl) (fun x => by kernel_rfl)
noncomputable def ref03_Runes.body : Go.Code := Tryz.f181.body.getD .skip
noncomputable def ref03_Runes.rs : List Go.ResultVar := Tryz.f181.results.toList
def ref03_Runes.regs : List (Nat × RInfo) := [(0, ⟨[0], [], [], [], 0, [], [], [], []⟩),
  (1, ⟨[0, 4], [], [], [], 0, [], [], [], []⟩),
  (2, ⟨[0, 4, 5], [], [], [], 0, [], [], [], []⟩),
  (3, ⟨[0, 4, 5, 11], [], [], [], 0, [0, 4, 5], [], [], []⟩),
  (4, ⟨[0, 4, 5, 6, 7], [16], [], [], 0, [], [], [], []⟩),
  (5, ⟨[0, 4, 5, 6, 7, 20], [16], [], [], 0, [], [], [], []⟩),
  (6, ⟨[2, 3], [], [], [], 0, [], [], [], []⟩),
  (7, ⟨[0, 4, 5, 7], [16], [0, 3, 4], [], 0, [], [], [], []⟩),
  (8, ⟨[0, 4, 5], [], [], [], 0, [], [], [], []⟩),
  (9, ⟨[2, 3], [], [0, 1], [], 0, [], [], [], []⟩)]
noncomputable def ref03_Runes.cx (k : Nat) : Cx := ⟨tt, pp, [(196, (ref03_Char.e k))], ref03_Runes.regs, k⟩
@[reducible] def ref03_Runes.sg : Sg := ⟨[.dat .str], [], .t2 (.dat (.slc (.int .i64))) (.dat .bool), []⟩
noncomputable def ref03_Runes.f (k : Nat) (a0 : Ty.D .str) : Option (Sg.Out ref03_Runes.sg) := Sg.fn ref03_Runes.sg (ref03_Runes.cx k) ref03_Runes.body ref03_Runes.rs a0
noncomputable def ref03_Runes.l3 (k : Nat) (n : Nat) (x0 : Ty.D .str) (x4 : List (Ty.D (.int .i64))) (x5 : Ty.D (.int .i64)) : Option (Sg.Out ref03_Runes.sg) := loopAt (ref03_Runes.cx k) ref03_Runes.body [1, 1, 0, 1, 0] 3 [0, 4, 5] [] [] (Sg.K ref03_Runes.sg (ref03_Runes.cx k) ref03_Runes.rs) n ⟨[(0, .dat .str x0), (4, .own (.int .i64) x4), (5, .dat (.int .i64) x5)], []⟩
set_option maxRecDepth 100000 in
theorem ref03_Runes.f_eq (k : Nat) (a0 : Ty.D .str) : ref03_Runes.f k a0 =
  ref03_Runes.l3 k k a0 [] 0 := by kernel_rfl
set_option maxRecDepth 100000 in
theorem ref03_Runes.l3_eq (k : Nat) (n3 : Nat) (x0 : Ty.D .str) (x4 : List (Ty.D (.int .i64))) (x5 : Ty.D (.int .i64)) : ref03_Runes.l3 k (n3 + 1) x0 x4 x5 =
  br (ilt x5 (ilen x0))
    (br (inS x5 (ilen x0) (ilen x0))
      (bnd (ref03_Char.f k (piece x0 x5 (ilen x0))) fun r0 =>
      br (ieq r0.2 0)
        (some ([], false))
        (br (room x4 (r0.1 :: []))
          (ref03_Runes.l3 k n3 x0 (app x4 (r0.1 :: [])) (iadd .i64 x5 r0.2))
          (none)))
      (none))
    (some (x4, true)) := by kernel_rfl
noncomputable def ref03_Runes.e (k : Nat) : Entry := Sg.entry ref03_Runes.sg fun x => ref03_Runes.f k x
set_option maxRecDepth 100000 in
theorem ref03_Runes.ok (k : Nat) : CallOK Tryz.prog 181 (ref03_Runes.e k) :=
  fn_ok (c := ref03_Runes.cx k) (code := ref03_Runes.body) (TT.of tt_ok pp_ok) (fns_ok ⟨(ref03_Char.ok k), trivial⟩) mixed Tryz.func181 (by kernel_rfl) (by kernel_rfl) (by kernel_rfl) (by kernel_rfl) (by kernel_rfl) (by kernel_rfl) (fun x => by kernel_rfl)
noncomputable def ref03_may.body : Go.Code := Tryz.f195.body.getD .skip
noncomputable def ref03_may.rs : List Go.ResultVar := Tryz.f195.results.toList
def ref03_may.regs : List (Nat × RInfo) := [(0, ⟨[0], [], [], [], 0, [], [], [], []⟩),
  (1, ⟨[2], [], [], [], 0, [], [], [], []⟩)]
noncomputable def ref03_may.cx (k : Nat) : Cx := ⟨tt, pp, [], ref03_may.regs, k⟩
@[reducible] def ref03_may.sg : Sg := ⟨[.dat (.int .i64)], [], .dat .bool, []⟩
noncomputable def ref03_may.f (k : Nat) (a0 : Ty.D (.int .i64)) : Option (Sg.Out ref03_may.sg) := Sg.fn ref03_may.sg (ref03_may.cx k) ref03_may.body ref03_may.rs a0
set_option maxRecDepth 100000 in
theorem ref03_may.f_eq (k : Nat) (a0 : Ty.D (.int .i64)) : ref03_may.f k a0 =
  br (ile 32 a0)
    (br (ilt a0 127)
      (some (bnot (ieq a0 65533)))
      (br (ilt 159 a0)
        (some (bnot (ieq a0 65533)))
        (some false)))
    (some false) := by kernel_rfl
noncomputable def ref03_may.e (k : Nat) : Entry := Sg.entry ref03_may.sg fun x => ref03_may.f k x
set_option maxRecDepth 100000 in
theorem ref03_may.ok (k : Nat) : CallOK Tryz.prog 195 (ref03_may.e k) :=
  fn_ok (c := ref03_may.cx k) (code := ref03_may.body) (TT.of tt_ok pp_ok) (fns_ok trivial) mixed Tryz.func195 (by kernel_rfl) (by kernel_rfl) (by kernel_rfl) (by kernel_rfl) (by kernel_rfl) (by kernel_rfl) (fun x => by kernel_rfl)
noncomputable def ref03_Right.body : Go.Code := Tryz.f180.body.getD .skip
noncomputable def ref03_Right.rs : List Go.ResultVar := Tryz.f180.results.toList
def ref03_Right.regs : List (Nat × RInfo) := [(0, ⟨[0], [], [], [], 0, [], [], [], []⟩),
  (1, ⟨[3, 4], [8], [5], [], 0, [], [], [], []⟩),
  (2, ⟨[3, 4, 5], [8], [], [], 0, [], [], [], []⟩),
  (3, ⟨[3, 4, 5, 14], [8], [], [], 0, [3, 4, 5], [8], [], []⟩),
  (5, ⟨[3, 4, 5, 22], [8], [], [], 0, [], [], [], []⟩),
  (6, ⟨[2], [8], [], [], 0, [], [], [], []⟩),
  (4, ⟨[3, 4, 5], [8], [], [], 0, [], [], [], []⟩),
  (7, ⟨[2], [8], [], [], 0, [], [], [], []⟩)]
noncomputable def ref03_Right.cx (k : Nat) : Cx := ⟨tt, pp, [(181, (ref03_Runes.e k)),
  (195, (ref03_may.e k))], ref03_Right.regs, k⟩
@[reducible] def ref03_Right.sg : Sg := ⟨[.dat .str], [], .dat .bool, []⟩
noncomputable def ref03_Right.f (k : Nat) (a0 : Ty.D .str) : Option (Sg.Out ref03_Right.sg) := Sg.fn ref03_Right.sg (ref03_Right.cx k) ref03_Right.body ref03_Right.rs a0
noncomputable def ref03_Right.l3 (k : Nat) (n : Nat) (x3 : Ty.D (.slc (.int .i64))) (x4 : Ty.D .bool) (x5 : Ty.D (.int .i64)) : Option (Sg.Out ref03_Right.sg) := loopAt (ref03_Right.cx k) ref03_Right.body [1, 1, 0, 1, 0] 3 [3, 4, 5] [8] [] (Sg.K ref03_Right.sg (ref03_Right.cx k) ref03_Right.rs) n ⟨[(3, .dat (.slc (.int .i64)) x3), (4, .dat .bool x4), (5, .dat (.int .i64) x5)], []⟩
set_option maxRecDepth 100000 in
theorem ref03_Right.f_eq (k : Nat) (a0 : Ty.D .str) : ref03_Right.f k a0 =
  bnd (ref03_Runes.f k a0) fun r0 =>
  ref03_Right.l3 k k r0.1 r0.2 0 := by kernel_rfl
set_option maxRecDepth 100000 in
theorem ref03_Right.l3_eq (k : Nat) (n3 : Nat) (x3 : Ty.D (.slc (.int .i64))) (x4 : Ty.D .bool) (x5 : Ty.D (.int .i64)) : ref03_Right.l3 k (n3 + 1) x3 x4 x5 =
  br (ilt x5 (ilen x3))
    (br (inL x5 x3)
      (bnd (ref03_may.f k (rd (.int .i64) x3 (natOf x5))) fun r0 =>
      br (bnot r0)
        (some false)
        (ref03_Right.l3 k n3 x3 x4 (iadd .i64 x5 1)))
      (none))
    (br x4
      (br (ile 1 (ilen x3))
        (some (ile (ilen x3) 24))
        (some false))
      (some false)) := by kernel_rfl
noncomputable def ref03_Right.e (k : Nat) : Entry := Sg.entry ref03_Right.sg fun x => ref03_Right.f k x
set_option maxRecDepth 100000 in
theorem ref03_Right.ok (k : Nat) : CallOK Tryz.prog 180 (ref03_Right.e k) :=
  fn_ok (c := ref03_Right.cx k) (code := ref03_Right.body) (TT.of tt_ok pp_ok) (fns_ok ⟨(ref03_Runes.ok k), (ref03_may.ok k), trivial⟩) mixed Tryz.func180 (by kernel_rfl) (by kernel_rfl) (by kernel_rfl) (by kernel_rfl) (by kernel_rfl) (by kernel_rfl) (fun x => by kernel_rfl)
noncomputable def ref10_Check.body : Go.Code := Tryz.f163.body.getD .skip
noncomputable def ref10_Check.rs : List Go.ResultVar := Tryz.f163.results.toList
def ref10_Check.regs : List (Nat × RInfo) := [(0, ⟨[0], [], [], [], 0, [], [], [], []⟩),
  (1, ⟨[0, 6], [], [], [], 0, [], [], [], []⟩),
  (2, ⟨[2], [], [], [], 0, [], [], [], []⟩),
  (3, ⟨[0, 9], [], [], [], 0, [], [], [], []⟩),
  (4, ⟨[2], [], [], [], 0, [], [], [], []⟩),
  (5, ⟨[0, 3], [], [], [], 0, [], [], [], []⟩),
  (6, ⟨[0, 3, 13], [], [], [], 0, [0, 3], [], [], []⟩),
  (8, ⟨[0, 3, 21], [], [], [], 0, [], [], [], []⟩),
  (9, ⟨[2], [], [], [], 0, [], [], [], []⟩),
  (7, ⟨[0, 3], [], [], [], 0, [], [], [], []⟩),
  (10, ⟨[2], [], [], [], 0, [], [], [], []⟩)]
noncomputable def ref10_Check.cx (k : Nat) : Cx := ⟨tt, pp, [(180, (ref03_Right.e k))], ref10_Check.regs, k⟩
@[reducible] def ref10_Check.sg : Sg := ⟨[.dat (.slc .str)], [], .dat (.int .i64), []⟩
noncomputable def ref10_Check.f (k : Nat) (a0 : Ty.D (.slc .str)) : Option (Sg.Out ref10_Check.sg) := Sg.fn ref10_Check.sg (ref10_Check.cx k) ref10_Check.body ref10_Check.rs a0
noncomputable def ref10_Check.l6 (k : Nat) (n : Nat) (x0 : Ty.D (.slc .str)) (x3 : Ty.D (.int .i64)) : Option (Sg.Out ref10_Check.sg) := loopAt (ref10_Check.cx k) ref10_Check.body [1, 1, 1, 0, 1, 0] 6 [0, 3] [] [] (Sg.K ref10_Check.sg (ref10_Check.cx k) ref10_Check.rs) n ⟨[(0, .dat (.slc .str) x0), (3, .dat (.int .i64) x3)], []⟩
set_option maxRecDepth 100000 in
theorem ref10_Check.f_eq (k : Nat) (a0 : Ty.D (.slc .str)) : ref10_Check.f k a0 =
  br (ieq (ilen a0) 0)
    (some 8)
    (br (ilt 8 (ilen a0))
      (some 9)
      (ref10_Check.l6 k k a0 0)) := by kernel_rfl
set_option maxRecDepth 100000 in
theorem ref10_Check.l6_eq (k : Nat) (n6 : Nat) (x0 : Ty.D (.slc .str)) (x3 : Ty.D (.int .i64)) : ref10_Check.l6 k (n6 + 1) x0 x3 =
  br (ilt x3 (ilen x0))
    (br (inL x3 x0)
      (bnd (ref03_Right.f k (rd .str x0 (natOf x3))) fun r0 =>
      br (bnot r0)
        (some 8)
        (ref10_Check.l6 k n6 x0 (iadd .i64 x3 1)))
      (none))
    (some 0) := by kernel_rfl
noncomputable def ref10_Check.e (k : Nat) : Entry := Sg.entry ref10_Check.sg fun x => ref10_Check.f k x
set_option maxRecDepth 100000 in
theorem ref10_Check.ok (k : Nat) : CallOK Tryz.prog 163 (ref10_Check.e k) :=
  fn_ok (c := ref10_Check.cx k) (code := ref10_Check.body) (TT.of tt_ok pp_ok) (fns_ok ⟨(ref03_Right.ok k), trivial⟩) mixed Tryz.func163 (by kernel_rfl) (by kernel_rfl) (by kernel_rfl) (by kernel_rfl) (by kernel_rfl) (by kernel_rfl) (fun x => by kernel_rfl)
noncomputable def ref09_Right.body : Go.Code := Tryz.f164.body.getD .skip
noncomputable def ref09_Right.rs : List Go.ResultVar := Tryz.f164.results.toList
def ref09_Right.regs : List (Nat × RInfo) := [(0, ⟨[1], [1], [], [], 0, [], [], [], []⟩),
  (1, ⟨[1, 7], [1], [], [], 0, [], [], [], []⟩),
  (2, ⟨[2], [27], [], [], 0, [], [], [], []⟩),
  (3, ⟨[1, 23], [1], [], [], 0, [], [], [], []⟩),
  (4, ⟨[1, 4], [1, 27], [6], [], 0, [], [], [], []⟩),
  (5, ⟨[2], [27], [], [], 0, [], [], [], []⟩),
  (6, ⟨[2], [27], [], [], 0, [], [], [], []⟩)]
noncomputable def ref09_Right.cx (k : Nat) : Cx := ⟨tt, pp, [(181, (ref03_Runes.e k))], ref09_Right.regs, k⟩
@[reducible] def ref09_Right.sg : Sg := ⟨[.dat tValue], [], .dat .bool, []⟩
noncomputable def ref09_Right.f (k : Nat) (a0 : Ty.D tValue) : Option (Sg.Out ref09_Right.sg) := Sg.fn ref09_Right.sg (ref09_Right.cx k) ref09_Right.body ref09_Right.rs a0
set_option maxRecDepth 100000 in
theorem ref09_Right.f_eq (k : Nat) (a0 : Ty.D tValue) : ref09_Right.f k a0 =
  br (ieq a0.1 1)
    (br (seq a0.2.2 [])
      (br (ile (-2147483647) a0.2.1)
        (some (ile a0.2.1 2147483647))
        (some false))
      (some false))
    (br (ieq a0.1 2)
      (bnd (ref03_Runes.f k a0.2.2) fun r0 =>
      br (ieq a0.2.1 0)
        (br r0.2
          (some (ile (ilen a0.2.2) 64))
          (some false))
        (some false))
      (br (ieq a0.1 3)
        (br (seq a0.2.2 [])
          (br (ile 0 a0.2.1)
            (some (ile a0.2.1 1))
            (some false))
          (some false))
        (some false))) := by kernel_rfl
noncomputable def ref09_Right.e (k : Nat) : Entry := Sg.entry ref09_Right.sg fun x => ref09_Right.f k x
set_option maxRecDepth 100000 in
theorem ref09_Right.ok (k : Nat) : CallOK Tryz.prog 164 (ref09_Right.e k) :=
  fn_ok (c := ref09_Right.cx k) (code := ref09_Right.body) (TT.of tt_ok pp_ok) (fns_ok ⟨(ref03_Runes.ok k), trivial⟩) mixed Tryz.func164 (by kernel_rfl) (by kernel_rfl) (by kernel_rfl) (by kernel_rfl) (by kernel_rfl) (by kernel_rfl) (fun x => by kernel_rfl)
noncomputable def ref04_Refs.body : Go.Code := Tryz.f182.body.getD .skip
noncomputable def ref04_Refs.rs : List Go.ResultVar := Tryz.f182.results.toList
def ref04_Refs.regs : List (Nat × RInfo) := [(0, ⟨[2, 3], [2, 3], [], [], 0, [], [], [], []⟩),
  (1, ⟨[2, 3, 10], [2, 3], [], [], 0, [], [], [], []⟩),
  (2, ⟨[4], [15, 20], [], [], 0, [], [], [], []⟩),
  (3, ⟨[4], [15, 20], [], [], 0, [], [], [], []⟩)]
noncomputable def ref04_Refs.cx (k : Nat) : Cx := ⟨tt, pp, [(129, (ref04_Compare.e k)),
  (162, (ref04_ints.e k))], ref04_Refs.regs, k⟩
@[reducible] def ref04_Refs.sg : Sg := ⟨[.dat tUndo, .dat tUndo], [], .dat (.int .i64), []⟩
noncomputable def ref04_Refs.f (k : Nat) (a0 : Ty.D tUndo) (a1 : Ty.D tUndo) : Option (Sg.Out ref04_Refs.sg) := Sg.fn ref04_Refs.sg (ref04_Refs.cx k) ref04_Refs.body ref04_Refs.rs (a0, a1)
set_option maxRecDepth 100000 in
theorem ref04_Refs.f_eq (k : Nat) (a0 : Ty.D tUndo) (a1 : Ty.D tUndo) : ref04_Refs.f k a0 a1 =
  bnd (ref04_Compare.f k a0.1 a1.1) fun r0 =>
  br (bnot (ieq r0 0))
    (bnd (ref04_Compare.f k a0.1 a1.1) fun r1 =>
    some r1)
    (bnd (ref04_ints.f k a0.2 a1.2) fun r2 =>
    some r2) := by kernel_rfl
noncomputable def ref04_Refs.e (k : Nat) : Entry := Sg.entry ref04_Refs.sg fun x => ref04_Refs.f k x.1 x.2
set_option maxRecDepth 100000 in
theorem ref04_Refs.ok (k : Nat) : CallOK Tryz.prog 182 (ref04_Refs.e k) :=
  fn_ok (c := ref04_Refs.cx k) (code := ref04_Refs.body) (TT.of tt_ok pp_ok) (fns_ok ⟨(ref04_Compare.ok k), (ref04_ints.ok k), trivial⟩) mixed Tryz.func182 (by kernel_rfl) (by kernel_rfl) (by kernel_rfl) (by kernel_rfl) (by kernel_rfl) (by kernel_rfl) (fun x => by kernel_rfl)
noncomputable def ref11_Refs.body : Go.Code := Tryz.f165.body.getD .skip
noncomputable def ref11_Refs.rs : List Go.ResultVar := Tryz.f165.results.toList
def ref11_Refs.regs : List (Nat × RInfo) := [(0, ⟨[0], [], [], [], 0, [], [], [], []⟩),
  (1, ⟨[0, 3], [], [], [], 0, [], [], [], []⟩),
  (2, ⟨[0, 3, 7], [], [], [], 0, [0, 3], [], [], []⟩),
  (4, ⟨[0, 3, 32], [], [], [], 0, [], [], [], []⟩),
  (5, ⟨[2], [], [], [], 0, [], [], [], []⟩),
  (6, ⟨[0, 3, 47], [], [], [], 15, [], [], [], []⟩),
  (7, ⟨[2], [], [], [], 0, [], [], [], []⟩),
  (3, ⟨[0, 3], [], [], [], 0, [], [], [], []⟩),
  (8, ⟨[2], [], [], [], 0, [], [], [], []⟩)]
noncomputable def ref11_Refs.cx (k : Nat) : Cx := ⟨tt, pp, [(97, (ref04_Right.e k)),
  (182, (ref04_Refs.e k))], ref11_Refs.regs, k⟩
@[reducible] def ref11_Refs.sg : Sg := ⟨[.dat (.slc tUndo)], [], .dat .bool, []⟩
noncomputable def ref11_Refs.f (k : Nat) (a0 : Ty.D (.slc tUndo)) : Option (Sg.Out ref11_Refs.sg) := Sg.fn ref11_Refs.sg (ref11_Refs.cx k) ref11_Refs.body ref11_Refs.rs a0
noncomputable def ref11_Refs.l2 (k : Nat) (n : Nat) (x0 : Ty.D (.slc tUndo)) (x3 : Ty.D (.int .i64)) : Option (Sg.Out ref11_Refs.sg) := loopAt (ref11_Refs.cx k) ref11_Refs.body [1, 0, 1, 0] 2 [0, 3] [] [] (Sg.K ref11_Refs.sg (ref11_Refs.cx k) ref11_Refs.rs) n ⟨[(0, .dat (.slc tUndo) x0), (3, .dat (.int .i64) x3)], []⟩
set_option maxRecDepth 100000 in
theorem ref11_Refs.f_eq (k : Nat) (a0 : Ty.D (.slc tUndo)) : ref11_Refs.f k a0 =
  ref11_Refs.l2 k k a0 0 := by kernel_rfl
set_option maxRecDepth 100000 in
theorem ref11_Refs.l2_eq (k : Nat) (n2 : Nat) (x0 : Ty.D (.slc tUndo)) (x3 : Ty.D (.int .i64)) : ref11_Refs.l2 k (n2 + 1) x0 x3 =
  br (ilt x3 (ilen x0))
    (br (inL x3 x0)
      (bnd (ref04_Right.f k ((rd tUndo x0 (natOf x3)).1)) fun r0 =>
      br (bnot r0)
        (some false)
        (br (inL x3 x0)
          (br (ilt ((rd tUndo x0 (natOf x3)).2) 0)
            (some false)
            (br (inL x3 x0)
              (br (ilt 15 ((rd tUndo x0 (natOf x3)).2))
                (some false)
                (br (ilt 0 x3)
                  (br (inL (isub .i64 x3 1) x0)
                    (br (inL x3 x0)
                      (bnd (ref04_Refs.f k (rd tUndo x0 (natOf (isub .i64 x3 1))) (rd tUndo x0 (natOf x3))) fun r1 =>
                      br (bnot (ieq r1 (-1)))
                        (some false)
                        (ref11_Refs.l2 k n2 x0 (iadd .i64 x3 1)))
                      (none))
                    (none))
                  (ref11_Refs.l2 k n2 x0 (iadd .i64 x3 1))))
              (none)))
          (none)))
      (none))
    (some true) := by kernel_rfl
noncomputable def ref11_Refs.e (k : Nat) : Entry := Sg.entry ref11_Refs.sg fun x => ref11_Refs.f k x
set_option maxRecDepth 100000 in
theorem ref11_Refs.ok (k : Nat) : CallOK Tryz.prog 165 (ref11_Refs.e k) :=
  fn_ok (c := ref11_Refs.cx k) (code := ref11_Refs.body) (TT.of tt_ok pp_ok) (fns_ok ⟨(ref04_Right.ok k), (ref04_Refs.ok k), trivial⟩) mixed Tryz.func165 (by kernel_rfl) (by kernel_rfl) (by kernel_rfl) (by kernel_rfl) (by kernel_rfl) (by kernel_rfl) (fun x => by kernel_rfl)
noncomputable def ref11_Check.body : Go.Code := Tryz.f132.body.getD .skip
noncomputable def ref11_Check.rs : List Go.ResultVar := Tryz.f132.results.toList
def ref11_Check.regs : List (Nat × RInfo) := [(0, ⟨[1], [1], [0], [], 0, [], [], [], []⟩),
  (1, ⟨[1, 12], [1], [], [], 0, [], [], [], []⟩),
  (2, ⟨[2], [15], [], [], 0, [], [], [], []⟩),
  (3, ⟨[1, 3], [1, 15], [], [], 0, [], [], [], []⟩),
  (4, ⟨[1, 3, 17], [1, 15], [], [], 0, [], [], [], []⟩),
  (5, ⟨[2], [15], [], [], 0, [], [], [], []⟩),
  (6, ⟨[1, 4], [1, 4], [], [], 0, [], [], [], []⟩),
  (7, ⟨[1, 33], [1], [], [], 0, [], [], [], []⟩),
  (8, ⟨[2], [15], [], [], 0, [], [], [], []⟩),
  (9, ⟨[1, 47], [1], [], [], 0, [], [], [], []⟩),
  (10, ⟨[2], [15], [], [], 0, [], [], [], []⟩),
  (11, ⟨[1, 75], [1], [], [], 0, [], [], [], []⟩),
  (12, ⟨[2], [15], [], [], 0, [], [], [], []⟩),
  (13, ⟨[1, 89], [1], [], [], 0, [], [], [], []⟩),
  (14, ⟨[2], [15], [], [], 0, [], [], [], []⟩),
  (15, ⟨[1, 93], [1], [], [], 0, [], [], [], []⟩),
  (16, ⟨[2], [15], [], [], 0, [], [], [], []⟩),
  (17, ⟨[97], [], [], [], 0, [], [], [], []⟩),
  (18, ⟨[2], [15], [], [], 0, [], [], [], []⟩),
  (19, ⟨[2], [15], [], [], 0, [], [], [], []⟩)]
noncomputable def ref11_Check.cx (k : Nat) : Cx := ⟨tt, pp, [(163, (ref10_Check.e k)),
  (164, (ref09_Right.e k)),
  (165, (ref11_Refs.e k))], ref11_Check.regs, k⟩
@[reducible] def ref11_Check.sg : Sg := ⟨[.dat tOp], [], .dat (.int .i64), []⟩
noncomputable def ref11_Check.f (k : Nat) (a0 : Ty.D tOp) : Option (Sg.Out ref11_Check.sg) := Sg.fn ref11_Check.sg (ref11_Check.cx k) ref11_Check.body ref11_Check.rs a0
set_option maxRecDepth 100000 in
theorem ref11_Check.f_eq (k : Nat) (a0 : Ty.D tOp) : ref11_Check.f k a0 =
  br (ilt a0.1 1)
    (some 18)
    (br (ilt 5 a0.1)
      (some 18)
      (bnd (ref10_Check.f k a0.2.1) fun r0 =>
      br (bnot (ieq r0 0))
        (some r0)
        (br (ieq a0.1 3)
          (br (bnot (deq tValue a0.2.2.1 (0, (0, []))))
            (some 2)
            (br (bnot (ieq a0.1 3))
              (br (bnot (ieq a0.1 5))
                (bnd (ref09_Right.f k a0.2.2.1) fun r1 =>
                br (bnot r1)
                  (some 2)
                  (br (bnot (ieq a0.1 3))
                    (br (bnot (ieq a0.2.2.2.1 0))
                      (some 2)
                      (br (ieq a0.1 3)
                        (br (ieq a0.2.2.2.1 0)
                          (some 2)
                          (br (ilt 2147483647 a0.2.2.2.1)
                            (some 2)
                            (br (ilt a0.2.2.2.1 (-2147483647))
                              (some 2)
                              (br (ieq a0.1 2)
                                (br (ilt 0 (ilen a0.2.2.2.2))
                                  (some 2)
                                  (br (ilt 256 (ilen a0.2.2.2.2))
                                    (some 7)
                                    (bnd (ref11_Refs.f k a0.2.2.2.2) fun r2 =>
                                    br (bnot r2)
                                      (some 2)
                                      (some 0))))
                                (br (ieq a0.1 3)
                                  (br (ilt 0 (ilen a0.2.2.2.2))
                                    (some 2)
                                    (br (ilt 256 (ilen a0.2.2.2.2))
                                      (some 7)
                                      (bnd (ref11_Refs.f k a0.2.2.2.2) fun r3 =>
                                      br (bnot r3)
                                        (some 2)
                                        (some 0))))
                                  (br (ilt 256 (ilen a0.2.2.2.2))
                                    (some 7)
                                    (bnd (ref11_Refs.f k a0.2.2.2.2) fun r4 =>
                                    br (bnot r4)
                                      (some 2)
                                      (some 0))))))))
                        (br (ieq a0.1 2)
                          (br (ilt 0 (ilen a0.2.2.2.2))
                            (some 2)
                            (br (ilt 256 (ilen a0.2.2.2.2))
                              (some 7)
                              (bnd (ref11_Refs.f k a0.2.2.2.2) fun r5 =>
                              br (bnot r5)
                                (some 2)
                                (some 0))))
                          (br (ieq a0.1 3)
                            (br (ilt 0 (ilen a0.2.2.2.2))
                              (some 2)
                              (br (ilt 256 (ilen a0.2.2.2.2))
                                (some 7)
                                (bnd (ref11_Refs.f k a0.2.2.2.2) fun r6 =>
                                br (bnot r6)
                                  (some 2)
                                  (some 0))))
                            (br (ilt 256 (ilen a0.2.2.2.2))
                              (some 7)
                              (bnd (ref11_Refs.f k a0.2.2.2.2) fun r7 =>
                              br (bnot r7)
                                (some 2)
                                (some 0)))))))
                    (br (ieq a0.1 3)
                      (br (ieq a0.2.2.2.1 0)
                        (some 2)
                        (br (ilt 2147483647 a0.2.2.2.1)
                          (some 2)
                          (br (ilt a0.2.2.2.1 (-2147483647))
                            (some 2)
                            (br (ieq a0.1 2)
                              (br (ilt 0 (ilen a0.2.2.2.2))
                                (some 2)
                                (br (ilt 256 (ilen a0.2.2.2.2))
                                  (some 7)
                                  (bnd (ref11_Refs.f k a0.2.2.2.2) fun r8 =>
                                  br (bnot r8)
                                    (some 2)
                                    (some 0))))
                              (br (ieq a0.1 3)
                                (br (ilt 0 (ilen a0.2.2.2.2))
                                  (some 2)
                                  (br (ilt 256 (ilen a0.2.2.2.2))
                                    (some 7)
                                    (bnd (ref11_Refs.f k a0.2.2.2.2) fun r9 =>
                                    br (bnot r9)
                                      (some 2)
                                      (some 0))))
                                (br (ilt 256 (ilen a0.2.2.2.2))
                                  (some 7)
                                  (bnd (ref11_Refs.f k a0.2.2.2.2) fun r10 =>
                                  br (bnot r10)
                                    (some 2)
                                    (some 0))))))))
                      (br (ieq a0.1 2)
                        (br (ilt 0 (ilen a0.2.2.2.2))
                          (some 2)
                          (br (ilt 256 (ilen a0.2.2.2.2))
                            (some 7)
                            (bnd (ref11_Refs.f k a0.2.2.2.2) fun r11 =>
                            br (bnot r11)
                              (some 2)
                              (some 0))))
                        (br (ieq a0.1 3)
                          (br (ilt 0 (ilen a0.2.2.2.2))
                            (some 2)
                            (br (ilt 256 (ilen a0.2.2.2.2))
                              (some 7)
                              (bnd (ref11_Refs.f k a0.2.2.2.2) fun r12 =>
                              br (bnot r12)
                                (some 2)
                                (some 0))))
                          (br (ilt 256 (ilen a0.2.2.2.2))
                            (some 7)
                            (bnd (ref11_Refs.f k a0.2.2.2.2) fun r13 =>
                            br (bnot r13)
                              (some 2)
                              (some 0))))))))
                (br (bnot (ieq a0.1 3))
                  (br (bnot (ieq a0.2.2.2.1 0))
                    (some 2)
                    (br (ieq a0.1 3)
                      (br (ieq a0.2.2.2.1 0)
                        (some 2)
                        (br (ilt 2147483647 a0.2.2.2.1)
                          (some 2)
                          (br (ilt a0.2.2.2.1 (-2147483647))
                            (some 2)
                            (br (ieq a0.1 2)
                              (br (ilt 0 (ilen a0.2.2.2.2))
                                (some 2)
                                (br (ilt 256 (ilen a0.2.2.2.2))
                                  (some 7)
                                  (bnd (ref11_Refs.f k a0.2.2.2.2) fun r14 =>
                                  br (bnot r14)
                                    (some 2)
                                    (some 0))))
                              (br (ieq a0.1 3)
                                (br (ilt 0 (ilen a0.2.2.2.2))
                                  (some 2)
                                  (br (ilt 256 (ilen a0.2.2.2.2))
                                    (some 7)
                                    (bnd (ref11_Refs.f k a0.2.2.2.2) fun r15 =>
                                    br (bnot r15)
                                      (some 2)
                                      (some 0))))
                                (br (ilt 256 (ilen a0.2.2.2.2))
                                  (some 7)
                                  (bnd (ref11_Refs.f k a0.2.2.2.2) fun r16 =>
                                  br (bnot r16)
                                    (some 2)
                                    (some 0))))))))
                      (br (ieq a0.1 2)
                        (br (ilt 0 (ilen a0.2.2.2.2))
                          (some 2)
                          (br (ilt 256 (ilen a0.2.2.2.2))
                            (some 7)
                            (bnd (ref11_Refs.f k a0.2.2.2.2) fun r17 =>
                            br (bnot r17)
                              (some 2)
                              (some 0))))
                        (br (ieq a0.1 3)
                          (br (ilt 0 (ilen a0.2.2.2.2))
                            (some 2)
                            (br (ilt 256 (ilen a0.2.2.2.2))
                              (some 7)
                              (bnd (ref11_Refs.f k a0.2.2.2.2) fun r18 =>
                              br (bnot r18)
                                (some 2)
                                (some 0))))
                          (br (ilt 256 (ilen a0.2.2.2.2))
                            (some 7)
                            (bnd (ref11_Refs.f k a0.2.2.2.2) fun r19 =>
                            br (bnot r19)
                              (some 2)
                              (some 0)))))))
                  (br (ieq a0.1 3)
                    (br (ieq a0.2.2.2.1 0)
                      (some 2)
                      (br (ilt 2147483647 a0.2.2.2.1)
                        (some 2)
                        (br (ilt a0.2.2.2.1 (-2147483647))
                          (some 2)
                          (br (ieq a0.1 2)
                            (br (ilt 0 (ilen a0.2.2.2.2))
                              (some 2)
                              (br (ilt 256 (ilen a0.2.2.2.2))
                                (some 7)
                                (bnd (ref11_Refs.f k a0.2.2.2.2) fun r20 =>
                                br (bnot r20)
                                  (some 2)
                                  (some 0))))
                            (br (ieq a0.1 3)
                              (br (ilt 0 (ilen a0.2.2.2.2))
                                (some 2)
                                (br (ilt 256 (ilen a0.2.2.2.2))
                                  (some 7)
                                  (bnd (ref11_Refs.f k a0.2.2.2.2) fun r21 =>
                                  br (bnot r21)
                                    (some 2)
                                    (some 0))))
                              (br (ilt 256 (ilen a0.2.2.2.2))
                                (some 7)
                                (bnd (ref11_Refs.f k a0.2.2.2.2) fun r22 =>
                                br (bnot r22)
                                  (some 2)
                                  (some 0))))))))
                    (br (ieq a0.1 2)
                      (br (ilt 0 (ilen a0.2.2.2.2))
                        (some 2)
                        (br (ilt 256 (ilen a0.2.2.2.2))
                          (some 7)
                          (bnd (ref11_Refs.f k a0.2.2.2.2) fun r23 =>
                          br (bnot r23)
                            (some 2)
                            (some 0))))
                      (br (ieq a0.1 3)
                        (br (ilt 0 (ilen a0.2.2.2.2))
                          (some 2)
                          (br (ilt 256 (ilen a0.2.2.2.2))
                            (some 7)
                            (bnd (ref11_Refs.f k a0.2.2.2.2) fun r24 =>
                            br (bnot r24)
                              (some 2)
                              (some 0))))
                        (br (ilt 256 (ilen a0.2.2.2.2))
                          (some 7)
                          (bnd (ref11_Refs.f k a0.2.2.2.2) fun r25 =>
                          br (bnot r25)
                            (some 2)
                            (some 0))))))))
              (br (bnot (ieq a0.1 3))
                (br (bnot (ieq a0.2.2.2.1 0))
                  (some 2)
                  (br (ieq a0.1 3)
                    (br (ieq a0.2.2.2.1 0)
                      (some 2)
                      (br (ilt 2147483647 a0.2.2.2.1)
                        (some 2)
                        (br (ilt a0.2.2.2.1 (-2147483647))
                          (some 2)
                          (br (ieq a0.1 2)
                            (br (ilt 0 (ilen a0.2.2.2.2))
                              (some 2)
                              (br (ilt 256 (ilen a0.2.2.2.2))
                                (some 7)
                                (bnd (ref11_Refs.f k a0.2.2.2.2) fun r26 =>
                                br (bnot r26)
                                  (some 2)
                                  (some 0))))
                            (br (ieq a0.1 3)
                              (br (ilt 0 (ilen a0.2.2.2.2))
                                (some 2)
                                (br (ilt 256 (ilen a0.2.2.2.2))
                                  (some 7)
                                  (bnd (ref11_Refs.f k a0.2.2.2.2) fun r27 =>
                                  br (bnot r27)
                                    (some 2)
                                    (some 0))))
                              (br (ilt 256 (ilen a0.2.2.2.2))
                                (some 7)
                                (bnd (ref11_Refs.f k a0.2.2.2.2) fun r28 =>
                                br (bnot r28)
                                  (some 2)
                                  (some 0))))))))
                    (br (ieq a0.1 2)
                      (br (ilt 0 (ilen a0.2.2.2.2))
                        (some 2)
                        (br (ilt 256 (ilen a0.2.2.2.2))
                          (some 7)
                          (bnd (ref11_Refs.f k a0.2.2.2.2) fun r29 =>
                          br (bnot r29)
                            (some 2)
                            (some 0))))
                      (br (ieq a0.1 3)
                        (br (ilt 0 (ilen a0.2.2.2.2))
                          (some 2)
                          (br (ilt 256 (ilen a0.2.2.2.2))
                            (some 7)
                            (bnd (ref11_Refs.f k a0.2.2.2.2) fun r30 =>
                            br (bnot r30)
                              (some 2)
                              (some 0))))
                        (br (ilt 256 (ilen a0.2.2.2.2))
                          (some 7)
                          (bnd (ref11_Refs.f k a0.2.2.2.2) fun r31 =>
                          br (bnot r31)
                            (some 2)
                            (some 0)))))))
                (br (ieq a0.1 3)
                  (br (ieq a0.2.2.2.1 0)
                    (some 2)
                    (br (ilt 2147483647 a0.2.2.2.1)
                      (some 2)
                      (br (ilt a0.2.2.2.1 (-2147483647))
                        (some 2)
                        (br (ieq a0.1 2)
                          (br (ilt 0 (ilen a0.2.2.2.2))
                            (some 2)
                            (br (ilt 256 (ilen a0.2.2.2.2))
                              (some 7)
                              (bnd (ref11_Refs.f k a0.2.2.2.2) fun r32 =>
                              br (bnot r32)
                                (some 2)
                                (some 0))))
                          (br (ieq a0.1 3)
                            (br (ilt 0 (ilen a0.2.2.2.2))
                              (some 2)
                              (br (ilt 256 (ilen a0.2.2.2.2))
                                (some 7)
                                (bnd (ref11_Refs.f k a0.2.2.2.2) fun r33 =>
                                br (bnot r33)
                                  (some 2)
                                  (some 0))))
                            (br (ilt 256 (ilen a0.2.2.2.2))
                              (some 7)
                              (bnd (ref11_Refs.f k a0.2.2.2.2) fun r34 =>
                              br (bnot r34)
                                (some 2)
                                (some 0))))))))
                  (br (ieq a0.1 2)
                    (br (ilt 0 (ilen a0.2.2.2.2))
                      (some 2)
                      (br (ilt 256 (ilen a0.2.2.2.2))
                        (some 7)
                        (bnd (ref11_Refs.f k a0.2.2.2.2) fun r35 =>
                        br (bnot r35)
                          (some 2)
                          (some 0))))
                    (br (ieq a0.1 3)
                      (br (ilt 0 (ilen a0.2.2.2.2))
                        (some 2)
                        (br (ilt 256 (ilen a0.2.2.2.2))
                          (some 7)
                          (bnd (ref11_Refs.f k a0.2.2.2.2) fun r36 =>
                          br (bnot r36)
                            (some 2)
                            (some 0))))
                      (br (ilt 256 (ilen a0.2.2.2.2))
                        (some 7)
                        (bnd (ref11_Refs.f k a0.2.2.2.2) fun r37 =>
                        br (bnot r37)
                          (some 2)
                          (some 0)))))))))
          (br (ieq a0.1 5)
            (br (bnot (deq tValue a0.2.2.1 (0, (0, []))))
              (some 2)
              (br (bnot (ieq a0.1 3))
                (br (bnot (ieq a0.1 5))
                  (bnd (ref09_Right.f k a0.2.2.1) fun r38 =>
                  br (bnot r38)
                    (some 2)
                    (br (bnot (ieq a0.1 3))
                      (br (bnot (ieq a0.2.2.2.1 0))
                        (some 2)
                        (br (ieq a0.1 3)
                          (br (ieq a0.2.2.2.1 0)
                            (some 2)
                            (br (ilt 2147483647 a0.2.2.2.1)
                              (some 2)
                              (br (ilt a0.2.2.2.1 (-2147483647))
                                (some 2)
                                (br (ieq a0.1 2)
                                  (br (ilt 0 (ilen a0.2.2.2.2))
                                    (some 2)
                                    (br (ilt 256 (ilen a0.2.2.2.2))
                                      (some 7)
                                      (bnd (ref11_Refs.f k a0.2.2.2.2) fun r39 =>
                                      br (bnot r39)
                                        (some 2)
                                        (some 0))))
                                  (br (ieq a0.1 3)
                                    (br (ilt 0 (ilen a0.2.2.2.2))
                                      (some 2)
                                      (br (ilt 256 (ilen a0.2.2.2.2))
                                        (some 7)
                                        (bnd (ref11_Refs.f k a0.2.2.2.2) fun r40 =>
                                        br (bnot r40)
                                          (some 2)
                                          (some 0))))
                                    (br (ilt 256 (ilen a0.2.2.2.2))
                                      (some 7)
                                      (bnd (ref11_Refs.f k a0.2.2.2.2) fun r41 =>
                                      br (bnot r41)
                                        (some 2)
                                        (some 0))))))))
                          (br (ieq a0.1 2)
                            (br (ilt 0 (ilen a0.2.2.2.2))
                              (some 2)
                              (br (ilt 256 (ilen a0.2.2.2.2))
                                (some 7)
                                (bnd (ref11_Refs.f k a0.2.2.2.2) fun r42 =>
                                br (bnot r42)
                                  (some 2)
                                  (some 0))))
                            (br (ieq a0.1 3)
                              (br (ilt 0 (ilen a0.2.2.2.2))
                                (some 2)
                                (br (ilt 256 (ilen a0.2.2.2.2))
                                  (some 7)
                                  (bnd (ref11_Refs.f k a0.2.2.2.2) fun r43 =>
                                  br (bnot r43)
                                    (some 2)
                                    (some 0))))
                              (br (ilt 256 (ilen a0.2.2.2.2))
                                (some 7)
                                (bnd (ref11_Refs.f k a0.2.2.2.2) fun r44 =>
                                br (bnot r44)
                                  (some 2)
                                  (some 0)))))))
                      (br (ieq a0.1 3)
                        (br (ieq a0.2.2.2.1 0)
                          (some 2)
                          (br (ilt 2147483647 a0.2.2.2.1)
                            (some 2)
                            (br (ilt a0.2.2.2.1 (-2147483647))
                              (some 2)
                              (br (ieq a0.1 2)
                                (br (ilt 0 (ilen a0.2.2.2.2))
                                  (some 2)
                                  (br (ilt 256 (ilen a0.2.2.2.2))
                                    (some 7)
                                    (bnd (ref11_Refs.f k a0.2.2.2.2) fun r45 =>
                                    br (bnot r45)
                                      (some 2)
                                      (some 0))))
                                (br (ieq a0.1 3)
                                  (br (ilt 0 (ilen a0.2.2.2.2))
                                    (some 2)
                                    (br (ilt 256 (ilen a0.2.2.2.2))
                                      (some 7)
                                      (bnd (ref11_Refs.f k a0.2.2.2.2) fun r46 =>
                                      br (bnot r46)
                                        (some 2)
                                        (some 0))))
                                  (br (ilt 256 (ilen a0.2.2.2.2))
                                    (some 7)
                                    (bnd (ref11_Refs.f k a0.2.2.2.2) fun r47 =>
                                    br (bnot r47)
                                      (some 2)
                                      (some 0))))))))
                        (br (ieq a0.1 2)
                          (br (ilt 0 (ilen a0.2.2.2.2))
                            (some 2)
                            (br (ilt 256 (ilen a0.2.2.2.2))
                              (some 7)
                              (bnd (ref11_Refs.f k a0.2.2.2.2) fun r48 =>
                              br (bnot r48)
                                (some 2)
                                (some 0))))
                          (br (ieq a0.1 3)
                            (br (ilt 0 (ilen a0.2.2.2.2))
                              (some 2)
                              (br (ilt 256 (ilen a0.2.2.2.2))
                                (some 7)
                                (bnd (ref11_Refs.f k a0.2.2.2.2) fun r49 =>
                                br (bnot r49)
                                  (some 2)
                                  (some 0))))
                            (br (ilt 256 (ilen a0.2.2.2.2))
                              (some 7)
                              (bnd (ref11_Refs.f k a0.2.2.2.2) fun r50 =>
                              br (bnot r50)
                                (some 2)
                                (some 0))))))))
                  (br (bnot (ieq a0.1 3))
                    (br (bnot (ieq a0.2.2.2.1 0))
                      (some 2)
                      (br (ieq a0.1 3)
                        (br (ieq a0.2.2.2.1 0)
                          (some 2)
                          (br (ilt 2147483647 a0.2.2.2.1)
                            (some 2)
                            (br (ilt a0.2.2.2.1 (-2147483647))
                              (some 2)
                              (br (ieq a0.1 2)
                                (br (ilt 0 (ilen a0.2.2.2.2))
                                  (some 2)
                                  (br (ilt 256 (ilen a0.2.2.2.2))
                                    (some 7)
                                    (bnd (ref11_Refs.f k a0.2.2.2.2) fun r51 =>
                                    br (bnot r51)
                                      (some 2)
                                      (some 0))))
                                (br (ieq a0.1 3)
                                  (br (ilt 0 (ilen a0.2.2.2.2))
                                    (some 2)
                                    (br (ilt 256 (ilen a0.2.2.2.2))
                                      (some 7)
                                      (bnd (ref11_Refs.f k a0.2.2.2.2) fun r52 =>
                                      br (bnot r52)
                                        (some 2)
                                        (some 0))))
                                  (br (ilt 256 (ilen a0.2.2.2.2))
                                    (some 7)
                                    (bnd (ref11_Refs.f k a0.2.2.2.2) fun r53 =>
                                    br (bnot r53)
                                      (some 2)
                                      (some 0))))))))
                        (br (ieq a0.1 2)
                          (br (ilt 0 (ilen a0.2.2.2.2))
                            (some 2)
                            (br (ilt 256 (ilen a0.2.2.2.2))
                              (some 7)
                              (bnd (ref11_Refs.f k a0.2.2.2.2) fun r54 =>
                              br (bnot r54)
                                (some 2)
                                (some 0))))
                          (br (ieq a0.1 3)
                            (br (ilt 0 (ilen a0.2.2.2.2))
                              (some 2)
                              (br (ilt 256 (ilen a0.2.2.2.2))
                                (some 7)
                                (bnd (ref11_Refs.f k a0.2.2.2.2) fun r55 =>
                                br (bnot r55)
                                  (some 2)
                                  (some 0))))
                            (br (ilt 256 (ilen a0.2.2.2.2))
                              (some 7)
                              (bnd (ref11_Refs.f k a0.2.2.2.2) fun r56 =>
                              br (bnot r56)
                                (some 2)
                                (some 0)))))))
                    (br (ieq a0.1 3)
                      (br (ieq a0.2.2.2.1 0)
                        (some 2)
                        (br (ilt 2147483647 a0.2.2.2.1)
                          (some 2)
                          (br (ilt a0.2.2.2.1 (-2147483647))
                            (some 2)
                            (br (ieq a0.1 2)
                              (br (ilt 0 (ilen a0.2.2.2.2))
                                (some 2)
                                (br (ilt 256 (ilen a0.2.2.2.2))
                                  (some 7)
                                  (bnd (ref11_Refs.f k a0.2.2.2.2) fun r57 =>
                                  br (bnot r57)
                                    (some 2)
                                    (some 0))))
                              (br (ieq a0.1 3)
                                (br (ilt 0 (ilen a0.2.2.2.2))
                                  (some 2)
                                  (br (ilt 256 (ilen a0.2.2.2.2))
                                    (some 7)
                                    (bnd (ref11_Refs.f k a0.2.2.2.2) fun r58 =>
                                    br (bnot r58)
                                      (some 2)
                                      (some 0))))
                                (br (ilt 256 (ilen a0.2.2.2.2))
                                  (some 7)
                                  (bnd (ref11_Refs.f k a0.2.2.2.2) fun r59 =>
                                  br (bnot r59)
                                    (some 2)
                                    (some 0))))))))
                      (br (ieq a0.1 2)
                        (br (ilt 0 (ilen a0.2.2.2.2))
                          (some 2)
                          (br (ilt 256 (ilen a0.2.2.2.2))
                            (some 7)
                            (bnd (ref11_Refs.f k a0.2.2.2.2) fun r60 =>
                            br (bnot r60)
                              (some 2)
                              (some 0))))
                        (br (ieq a0.1 3)
                          (br (ilt 0 (ilen a0.2.2.2.2))
                            (some 2)
                            (br (ilt 256 (ilen a0.2.2.2.2))
                              (some 7)
                              (bnd (ref11_Refs.f k a0.2.2.2.2) fun r61 =>
                              br (bnot r61)
                                (some 2)
                                (some 0))))
                          (br (ilt 256 (ilen a0.2.2.2.2))
                            (some 7)
                            (bnd (ref11_Refs.f k a0.2.2.2.2) fun r62 =>
                            br (bnot r62)
                              (some 2)
                              (some 0))))))))
                (br (bnot (ieq a0.1 3))
                  (br (bnot (ieq a0.2.2.2.1 0))
                    (some 2)
                    (br (ieq a0.1 3)
                      (br (ieq a0.2.2.2.1 0)
                        (some 2)
                        (br (ilt 2147483647 a0.2.2.2.1)
                          (some 2)
                          (br (ilt a0.2.2.2.1 (-2147483647))
                            (some 2)
                            (br (ieq a0.1 2)
                              (br (ilt 0 (ilen a0.2.2.2.2))
                                (some 2)
                                (br (ilt 256 (ilen a0.2.2.2.2))
                                  (some 7)
                                  (bnd (ref11_Refs.f k a0.2.2.2.2) fun r63 =>
                                  br (bnot r63)
                                    (some 2)
                                    (some 0))))
                              (br (ieq a0.1 3)
                                (br (ilt 0 (ilen a0.2.2.2.2))
                                  (some 2)
                                  (br (ilt 256 (ilen a0.2.2.2.2))
                                    (some 7)
                                    (bnd (ref11_Refs.f k a0.2.2.2.2) fun r64 =>
                                    br (bnot r64)
                                      (some 2)
                                      (some 0))))
                                (br (ilt 256 (ilen a0.2.2.2.2))
                                  (some 7)
                                  (bnd (ref11_Refs.f k a0.2.2.2.2) fun r65 =>
                                  br (bnot r65)
                                    (some 2)
                                    (some 0))))))))
                      (br (ieq a0.1 2)
                        (br (ilt 0 (ilen a0.2.2.2.2))
                          (some 2)
                          (br (ilt 256 (ilen a0.2.2.2.2))
                            (some 7)
                            (bnd (ref11_Refs.f k a0.2.2.2.2) fun r66 =>
                            br (bnot r66)
                              (some 2)
                              (some 0))))
                        (br (ieq a0.1 3)
                          (br (ilt 0 (ilen a0.2.2.2.2))
                            (some 2)
                            (br (ilt 256 (ilen a0.2.2.2.2))
                              (some 7)
                              (bnd (ref11_Refs.f k a0.2.2.2.2) fun r67 =>
                              br (bnot r67)
                                (some 2)
                                (some 0))))
                          (br (ilt 256 (ilen a0.2.2.2.2))
                            (some 7)
                            (bnd (ref11_Refs.f k a0.2.2.2.2) fun r68 =>
                            br (bnot r68)
                              (some 2)
                              (some 0)))))))
                  (br (ieq a0.1 3)
                    (br (ieq a0.2.2.2.1 0)
                      (some 2)
                      (br (ilt 2147483647 a0.2.2.2.1)
                        (some 2)
                        (br (ilt a0.2.2.2.1 (-2147483647))
                          (some 2)
                          (br (ieq a0.1 2)
                            (br (ilt 0 (ilen a0.2.2.2.2))
                              (some 2)
                              (br (ilt 256 (ilen a0.2.2.2.2))
                                (some 7)
                                (bnd (ref11_Refs.f k a0.2.2.2.2) fun r69 =>
                                br (bnot r69)
                                  (some 2)
                                  (some 0))))
                            (br (ieq a0.1 3)
                              (br (ilt 0 (ilen a0.2.2.2.2))
                                (some 2)
                                (br (ilt 256 (ilen a0.2.2.2.2))
                                  (some 7)
                                  (bnd (ref11_Refs.f k a0.2.2.2.2) fun r70 =>
                                  br (bnot r70)
                                    (some 2)
                                    (some 0))))
                              (br (ilt 256 (ilen a0.2.2.2.2))
                                (some 7)
                                (bnd (ref11_Refs.f k a0.2.2.2.2) fun r71 =>
                                br (bnot r71)
                                  (some 2)
                                  (some 0))))))))
                    (br (ieq a0.1 2)
                      (br (ilt 0 (ilen a0.2.2.2.2))
                        (some 2)
                        (br (ilt 256 (ilen a0.2.2.2.2))
                          (some 7)
                          (bnd (ref11_Refs.f k a0.2.2.2.2) fun r72 =>
                          br (bnot r72)
                            (some 2)
                            (some 0))))
                      (br (ieq a0.1 3)
                        (br (ilt 0 (ilen a0.2.2.2.2))
                          (some 2)
                          (br (ilt 256 (ilen a0.2.2.2.2))
                            (some 7)
                            (bnd (ref11_Refs.f k a0.2.2.2.2) fun r73 =>
                            br (bnot r73)
                              (some 2)
                              (some 0))))
                        (br (ilt 256 (ilen a0.2.2.2.2))
                          (some 7)
                          (bnd (ref11_Refs.f k a0.2.2.2.2) fun r74 =>
                          br (bnot r74)
                            (some 2)
                            (some 0)))))))))
            (br (bnot (ieq a0.1 3))
              (br (bnot (ieq a0.1 5))
                (bnd (ref09_Right.f k a0.2.2.1) fun r75 =>
                br (bnot r75)
                  (some 2)
                  (br (bnot (ieq a0.1 3))
                    (br (bnot (ieq a0.2.2.2.1 0))
                      (some 2)
                      (br (ieq a0.1 3)
                        (br (ieq a0.2.2.2.1 0)
                          (some 2)
                          (br (ilt 2147483647 a0.2.2.2.1)
                            (some 2)
                            (br (ilt a0.2.2.2.1 (-2147483647))
                              (some 2)
                              (br (ieq a0.1 2)
                                (br (ilt 0 (ilen a0.2.2.2.2))
                                  (some 2)
                                  (br (ilt 256 (ilen a0.2.2.2.2))
                                    (some 7)
                                    (bnd (ref11_Refs.f k a0.2.2.2.2) fun r76 =>
                                    br (bnot r76)
                                      (some 2)
                                      (some 0))))
                                (br (ieq a0.1 3)
                                  (br (ilt 0 (ilen a0.2.2.2.2))
                                    (some 2)
                                    (br (ilt 256 (ilen a0.2.2.2.2))
                                      (some 7)
                                      (bnd (ref11_Refs.f k a0.2.2.2.2) fun r77 =>
                                      br (bnot r77)
                                        (some 2)
                                        (some 0))))
                                  (br (ilt 256 (ilen a0.2.2.2.2))
                                    (some 7)
                                    (bnd (ref11_Refs.f k a0.2.2.2.2) fun r78 =>
                                    br (bnot r78)
                                      (some 2)
                                      (some 0))))))))
                        (br (ieq a0.1 2)
                          (br (ilt 0 (ilen a0.2.2.2.2))
                            (some 2)
                            (br (ilt 256 (ilen a0.2.2.2.2))
                              (some 7)
                              (bnd (ref11_Refs.f k a0.2.2.2.2) fun r79 =>
                              br (bnot r79)
                                (some 2)
                                (some 0))))
                          (br (ieq a0.1 3)
                            (br (ilt 0 (ilen a0.2.2.2.2))
                              (some 2)
                              (br (ilt 256 (ilen a0.2.2.2.2))
                                (some 7)
                                (bnd (ref11_Refs.f k a0.2.2.2.2) fun r80 =>
                                br (bnot r80)
                                  (some 2)
                                  (some 0))))
                            (br (ilt 256 (ilen a0.2.2.2.2))
                              (some 7)
                              (bnd (ref11_Refs.f k a0.2.2.2.2) fun r81 =>
                              br (bnot r81)
                                (some 2)
                                (some 0)))))))
                    (br (ieq a0.1 3)
                      (br (ieq a0.2.2.2.1 0)
                        (some 2)
                        (br (ilt 2147483647 a0.2.2.2.1)
                          (some 2)
                          (br (ilt a0.2.2.2.1 (-2147483647))
                            (some 2)
                            (br (ieq a0.1 2)
                              (br (ilt 0 (ilen a0.2.2.2.2))
                                (some 2)
                                (br (ilt 256 (ilen a0.2.2.2.2))
                                  (some 7)
                                  (bnd (ref11_Refs.f k a0.2.2.2.2) fun r82 =>
                                  br (bnot r82)
                                    (some 2)
                                    (some 0))))
                              (br (ieq a0.1 3)
                                (br (ilt 0 (ilen a0.2.2.2.2))
                                  (some 2)
                                  (br (ilt 256 (ilen a0.2.2.2.2))
                                    (some 7)
                                    (bnd (ref11_Refs.f k a0.2.2.2.2) fun r83 =>
                                    br (bnot r83)
                                      (some 2)
                                      (some 0))))
                                (br (ilt 256 (ilen a0.2.2.2.2))
                                  (some 7)
                                  (bnd (ref11_Refs.f k a0.2.2.2.2) fun r84 =>
                                  br (bnot r84)
                                    (some 2)
                                    (some 0))))))))
                      (br (ieq a0.1 2)
                        (br (ilt 0 (ilen a0.2.2.2.2))
                          (some 2)
                          (br (ilt 256 (ilen a0.2.2.2.2))
                            (some 7)
                            (bnd (ref11_Refs.f k a0.2.2.2.2) fun r85 =>
                            br (bnot r85)
                              (some 2)
                              (some 0))))
                        (br (ieq a0.1 3)
                          (br (ilt 0 (ilen a0.2.2.2.2))
                            (some 2)
                            (br (ilt 256 (ilen a0.2.2.2.2))
                              (some 7)
                              (bnd (ref11_Refs.f k a0.2.2.2.2) fun r86 =>
                              br (bnot r86)
                                (some 2)
                                (some 0))))
                          (br (ilt 256 (ilen a0.2.2.2.2))
                            (some 7)
                            (bnd (ref11_Refs.f k a0.2.2.2.2) fun r87 =>
                            br (bnot r87)
                              (some 2)
                              (some 0))))))))
                (br (bnot (ieq a0.1 3))
                  (br (bnot (ieq a0.2.2.2.1 0))
                    (some 2)
                    (br (ieq a0.1 3)
                      (br (ieq a0.2.2.2.1 0)
                        (some 2)
                        (br (ilt 2147483647 a0.2.2.2.1)
                          (some 2)
                          (br (ilt a0.2.2.2.1 (-2147483647))
                            (some 2)
                            (br (ieq a0.1 2)
                              (br (ilt 0 (ilen a0.2.2.2.2))
                                (some 2)
                                (br (ilt 256 (ilen a0.2.2.2.2))
                                  (some 7)
                                  (bnd (ref11_Refs.f k a0.2.2.2.2) fun r88 =>
                                  br (bnot r88)
                                    (some 2)
                                    (some 0))))
                              (br (ieq a0.1 3)
                                (br (ilt 0 (ilen a0.2.2.2.2))
                                  (some 2)
                                  (br (ilt 256 (ilen a0.2.2.2.2))
                                    (some 7)
                                    (bnd (ref11_Refs.f k a0.2.2.2.2) fun r89 =>
                                    br (bnot r89)
                                      (some 2)
                                      (some 0))))
                                (br (ilt 256 (ilen a0.2.2.2.2))
                                  (some 7)
                                  (bnd (ref11_Refs.f k a0.2.2.2.2) fun r90 =>
                                  br (bnot r90)
                                    (some 2)
                                    (some 0))))))))
                      (br (ieq a0.1 2)
                        (br (ilt 0 (ilen a0.2.2.2.2))
                          (some 2)
                          (br (ilt 256 (ilen a0.2.2.2.2))
                            (some 7)
                            (bnd (ref11_Refs.f k a0.2.2.2.2) fun r91 =>
                            br (bnot r91)
                              (some 2)
                              (some 0))))
                        (br (ieq a0.1 3)
                          (br (ilt 0 (ilen a0.2.2.2.2))
                            (some 2)
                            (br (ilt 256 (ilen a0.2.2.2.2))
                              (some 7)
                              (bnd (ref11_Refs.f k a0.2.2.2.2) fun r92 =>
                              br (bnot r92)
                                (some 2)
                                (some 0))))
                          (br (ilt 256 (ilen a0.2.2.2.2))
                            (some 7)
                            (bnd (ref11_Refs.f k a0.2.2.2.2) fun r93 =>
                            br (bnot r93)
                              (some 2)
                              (some 0)))))))
                  (br (ieq a0.1 3)
                    (br (ieq a0.2.2.2.1 0)
                      (some 2)
                      (br (ilt 2147483647 a0.2.2.2.1)
                        (some 2)
                        (br (ilt a0.2.2.2.1 (-2147483647))
                          (some 2)
                          (br (ieq a0.1 2)
                            (br (ilt 0 (ilen a0.2.2.2.2))
                              (some 2)
                              (br (ilt 256 (ilen a0.2.2.2.2))
                                (some 7)
                                (bnd (ref11_Refs.f k a0.2.2.2.2) fun r94 =>
                                br (bnot r94)
                                  (some 2)
                                  (some 0))))
                            (br (ieq a0.1 3)
                              (br (ilt 0 (ilen a0.2.2.2.2))
                                (some 2)
                                (br (ilt 256 (ilen a0.2.2.2.2))
                                  (some 7)
                                  (bnd (ref11_Refs.f k a0.2.2.2.2) fun r95 =>
                                  br (bnot r95)
                                    (some 2)
                                    (some 0))))
                              (br (ilt 256 (ilen a0.2.2.2.2))
                                (some 7)
                                (bnd (ref11_Refs.f k a0.2.2.2.2) fun r96 =>
                                br (bnot r96)
                                  (some 2)
                                  (some 0))))))))
                    (br (ieq a0.1 2)
                      (br (ilt 0 (ilen a0.2.2.2.2))
                        (some 2)
                        (br (ilt 256 (ilen a0.2.2.2.2))
                          (some 7)
                          (bnd (ref11_Refs.f k a0.2.2.2.2) fun r97 =>
                          br (bnot r97)
                            (some 2)
                            (some 0))))
                      (br (ieq a0.1 3)
                        (br (ilt 0 (ilen a0.2.2.2.2))
                          (some 2)
                          (br (ilt 256 (ilen a0.2.2.2.2))
                            (some 7)
                            (bnd (ref11_Refs.f k a0.2.2.2.2) fun r98 =>
                            br (bnot r98)
                              (some 2)
                              (some 0))))
                        (br (ilt 256 (ilen a0.2.2.2.2))
                          (some 7)
                          (bnd (ref11_Refs.f k a0.2.2.2.2) fun r99 =>
                          br (bnot r99)
                            (some 2)
                            (some 0))))))))
              (br (bnot (ieq a0.1 3))
                (br (bnot (ieq a0.2.2.2.1 0))
                  (some 2)
                  (br (ieq a0.1 3)
                    (br (ieq a0.2.2.2.1 0)
                      (some 2)
                      (br (ilt 2147483647 a0.2.2.2.1)
                        (some 2)
                        (br (ilt a0.2.2.2.1 (-2147483647))
                          (some 2)
                          (br (ieq a0.1 2)
                            (br (ilt 0 (ilen a0.2.2.2.2))
                              (some 2)
                              (br (ilt 256 (ilen a0.2.2.2.2))
                                (some 7)
                                (bnd (ref11_Refs.f k a0.2.2.2.2) fun r100 =>
                                br (bnot r100)
                                  (some 2)
                                  (some 0))))
                            (br (ieq a0.1 3)
                              (br (ilt 0 (ilen a0.2.2.2.2))
                                (some 2)
                                (br (ilt 256 (ilen a0.2.2.2.2))
                                  (some 7)
                                  (bnd (ref11_Refs.f k a0.2.2.2.2) fun r101 =>
                                  br (bnot r101)
                                    (some 2)
                                    (some 0))))
                              (br (ilt 256 (ilen a0.2.2.2.2))
                                (some 7)
                                (bnd (ref11_Refs.f k a0.2.2.2.2) fun r102 =>
                                br (bnot r102)
                                  (some 2)
                                  (some 0))))))))
                    (br (ieq a0.1 2)
                      (br (ilt 0 (ilen a0.2.2.2.2))
                        (some 2)
                        (br (ilt 256 (ilen a0.2.2.2.2))
                          (some 7)
                          (bnd (ref11_Refs.f k a0.2.2.2.2) fun r103 =>
                          br (bnot r103)
                            (some 2)
                            (some 0))))
                      (br (ieq a0.1 3)
                        (br (ilt 0 (ilen a0.2.2.2.2))
                          (some 2)
                          (br (ilt 256 (ilen a0.2.2.2.2))
                            (some 7)
                            (bnd (ref11_Refs.f k a0.2.2.2.2) fun r104 =>
                            br (bnot r104)
                              (some 2)
                              (some 0))))
                        (br (ilt 256 (ilen a0.2.2.2.2))
                          (some 7)
                          (bnd (ref11_Refs.f k a0.2.2.2.2) fun r105 =>
                          br (bnot r105)
                            (some 2)
                            (some 0)))))))
                (br (ieq a0.1 3)
                  (br (ieq a0.2.2.2.1 0)
                    (some 2)
                    (br (ilt 2147483647 a0.2.2.2.1)
                      (some 2)
                      (br (ilt a0.2.2.2.1 (-2147483647))
                        (some 2)
                        (br (ieq a0.1 2)
                          (br (ilt 0 (ilen a0.2.2.2.2))
                            (some 2)
                            (br (ilt 256 (ilen a0.2.2.2.2))
                              (some 7)
                              (bnd (ref11_Refs.f k a0.2.2.2.2) fun r106 =>
                              br (bnot r106)
                                (some 2)
                                (some 0))))
                          (br (ieq a0.1 3)
                            (br (ilt 0 (ilen a0.2.2.2.2))
                              (some 2)
                              (br (ilt 256 (ilen a0.2.2.2.2))
                                (some 7)
                                (bnd (ref11_Refs.f k a0.2.2.2.2) fun r107 =>
                                br (bnot r107)
                                  (some 2)
                                  (some 0))))
                            (br (ilt 256 (ilen a0.2.2.2.2))
                              (some 7)
                              (bnd (ref11_Refs.f k a0.2.2.2.2) fun r108 =>
                              br (bnot r108)
                                (some 2)
                                (some 0))))))))
                  (br (ieq a0.1 2)
                    (br (ilt 0 (ilen a0.2.2.2.2))
                      (some 2)
                      (br (ilt 256 (ilen a0.2.2.2.2))
                        (some 7)
                        (bnd (ref11_Refs.f k a0.2.2.2.2) fun r109 =>
                        br (bnot r109)
                          (some 2)
                          (some 0))))
                    (br (ieq a0.1 3)
                      (br (ilt 0 (ilen a0.2.2.2.2))
                        (some 2)
                        (br (ilt 256 (ilen a0.2.2.2.2))
                          (some 7)
                          (bnd (ref11_Refs.f k a0.2.2.2.2) fun r110 =>
                          br (bnot r110)
                            (some 2)
                            (some 0))))
                      (br (ilt 256 (ilen a0.2.2.2.2))
                        (some 7)
                        (bnd (ref11_Refs.f k a0.2.2.2.2) fun r111 =>
                        br (bnot r111)
                          (some 2)
                          (some 0)))))))))))) := by kernel_rfl
noncomputable def ref11_Check.e (k : Nat) : Entry := Sg.entry ref11_Check.sg fun x => ref11_Check.f k x
set_option maxRecDepth 100000 in
theorem ref11_Check.ok (k : Nat) : CallOK Tryz.prog 132 (ref11_Check.e k) :=
  fn_ok (c := ref11_Check.cx k) (code := ref11_Check.body) (TT.of tt_ok pp_ok) (fns_ok ⟨(ref10_Check.ok k), (ref09_Right.ok k), (ref11_Refs.ok k), trivial⟩) mixed Tryz.func132 (by kernel_rfl) (by kernel_rfl) (by kernel_rfl) (by kernel_rfl) (by kernel_rfl) (by kernel_rfl) (fun x => by kernel_rfl)
noncomputable def ref11_Gone.body : Go.Code := Tryz.f90.body.getD .skip
noncomputable def ref11_Gone.rs : List Go.ResultVar := Tryz.f90.results.toList
def ref11_Gone.regs : List (Nat × RInfo) := [(0, ⟨[1], [1], [0], [], 0, [], [], [], []⟩),
  (1, ⟨[1, 3], [1, 3], [], [], 0, [], [], [], []⟩),
  (2, ⟨[2], [], [], [], 0, [], [], [], []⟩)]
noncomputable def ref11_Gone.cx (k : Nat) : Cx := ⟨tt, pp, [], ref11_Gone.regs, k⟩
@[reducible] def ref11_Gone.sg : Sg := ⟨[.dat tOp], [], .dat .bool, []⟩
noncomputable def ref11_Gone.f (k : Nat) (a0 : Ty.D tOp) : Option (Sg.Out ref11_Gone.sg) := Sg.fn ref11_Gone.sg (ref11_Gone.cx k) ref11_Gone.body ref11_Gone.rs a0
set_option maxRecDepth 100000 in
theorem ref11_Gone.f_eq (k : Nat) (a0 : Ty.D tOp) : ref11_Gone.f k a0 =
  br (ieq a0.1 0)
    (br (ieq (ilen a0.2.1) 0)
      (br (deq tValue a0.2.2.1 (0, (0, [])))
        (br (ieq a0.2.2.2.1 0)
          (some (ieq (ilen a0.2.2.2.2) 0))
          (some false))
        (some false))
      (some false))
    (some false) := by kernel_rfl
noncomputable def ref11_Gone.e (k : Nat) : Entry := Sg.entry ref11_Gone.sg fun x => ref11_Gone.f k x
set_option maxRecDepth 100000 in
theorem ref11_Gone.ok (k : Nat) : CallOK Tryz.prog 90 (ref11_Gone.e k) :=
  fn_ok (c := ref11_Gone.cx k) (code := ref11_Gone.body) (TT.of tt_ok pp_ok) (fns_ok trivial) mixed Tryz.func90 (by kernel_rfl) (by kernel_rfl) (by kernel_rfl) (by kernel_rfl) (by kernel_rfl) (by kernel_rfl) (fun x => by kernel_rfl)
noncomputable def ref12_Check.body : Go.Code := Tryz.f96.body.getD .skip
noncomputable def ref12_Check.rs : List Go.ResultVar := Tryz.f96.results.toList
def ref12_Check.regs : List (Nat × RInfo) := [(0, ⟨[1], [1], [0], [], 0, [], [], [], []⟩),
  (1, ⟨[1, 28], [1], [], [], 0, [], [], [], []⟩),
  (2, ⟨[2], [49], [], [], 0, [], [], [], []⟩),
  (3, ⟨[1, 32], [1], [], [], 0, [], [], [], []⟩),
  (4, ⟨[2], [49], [], [], 0, [], [], [], []⟩),
  (5, ⟨[1, 36], [1], [], [], 0, [], [], [], []⟩),
  (6, ⟨[2], [49], [], [], 0, [], [], [], []⟩),
  (7, ⟨[1, 3], [1], [], [], 0, [], [], [], []⟩),
  (8, ⟨[1, 3, 41], [1], [], [], 0, [1, 3], [1], [], []⟩),
  (10, ⟨[1, 3, 4], [1, 49], [], [], 0, [], [], [], []⟩),
  (11, ⟨[1, 3, 4, 64], [1, 49], [], [], 0, [], [], [], []⟩),
  (12, ⟨[2], [49], [], [], 0, [], [], [], []⟩),
  (9, ⟨[1, 3], [1], [], [], 0, [], [], [], []⟩),
  (13, ⟨[2], [49], [], [], 0, [], [], [], []⟩)]
noncomputable def ref12_Check.cx (k : Nat) : Cx := ⟨tt, pp, [(97, (ref04_Right.e k)),
  (132, (ref11_Check.e k)),
  (90, (ref11_Gone.e k))], ref12_Check.regs, k⟩
@[reducible] def ref12_Check.sg : Sg := ⟨[.dat tTxn], [], .dat (.int .i64), []⟩
noncomputable def ref12_Check.f (k : Nat) (a0 : Ty.D tTxn) : Option (Sg.Out ref12_Check.sg) := Sg.fn ref12_Check.sg (ref12_Check.cx k) ref12_Check.body ref12_Check.rs a0
noncomputable def ref12_Check.l8 (k : Nat) (n : Nat) (x3 : Ty.D (.int .i64)) (m1 : Ty.D tTxn) : Option (Sg.Out ref12_Check.sg) := loopAt (ref12_Check.cx k) ref12_Check.body [1, 1, 1, 1, 0, 1, 0] 8 [1, 3] [1] [] (Sg.K ref12_Check.sg (ref12_Check.cx k) ref12_Check.rs) n ⟨[(1, .ref 1 []), (3, .dat (.int .i64) x3)], [(1, .dat tTxn m1)]⟩
set_option maxRecDepth 100000 in
theorem ref12_Check.f_eq (k : Nat) (a0 : Ty.D tTxn) : ref12_Check.f k a0 =
  bnd (ref04_Right.f k a0.1) fun r0 =>
  br (bnot r0)
    (some 2)
    (br (ilt a0.2.1 0)
      (some 2)
      (br (ilt 7 a0.2.1)
        (some 2)
        (br (ilt a0.2.2.1 1)
          (some 2)
          (br (ilt 1099511627776 a0.2.2.1)
            (some 2)
            (br (ieq (ilen a0.2.2.2.2) 0)
              (some 11)
              (br (ilt 16 (ilen a0.2.2.2.2))
                (some 7)
                (ref12_Check.l8 k k 0 a0))))))) := by kernel_rfl
set_option maxRecDepth 100000 in
theorem ref12_Check.l8_eq (k : Nat) (n8 : Nat) (x3 : Ty.D (.int .i64)) (m1 : Ty.D tTxn) : ref12_Check.l8 k (n8 + 1) x3 m1 =
  br (ilt x3 (ilen m1.2.2.2.2))
    (br (inL x3 m1.2.2.2.2)
      (bnd (ref11_Check.f k (rd tOp m1.2.2.2.2 (natOf x3))) fun r0 =>
      br (bnot (ieq r0 0))
        (br m1.2.2.2.1
          (br (inL x3 m1.2.2.2.2)
            (bnd (ref11_Gone.f k (rd tOp m1.2.2.2.2 (natOf x3))) fun r1 =>
            br (bnot r1)
              (some r0)
              (ref12_Check.l8 k n8 (iadd .i64 x3 1) m1))
            (none))
          (br (bnot false)
            (some r0)
            (ref12_Check.l8 k n8 (iadd .i64 x3 1) m1)))
        (ref12_Check.l8 k n8 (iadd .i64 x3 1) m1))
      (none))
    (some 0) := by kernel_rfl
noncomputable def ref12_Check.e (k : Nat) : Entry := Sg.entry ref12_Check.sg fun x => ref12_Check.f k x
set_option maxRecDepth 100000 in
theorem ref12_Check.ok (k : Nat) : CallOK Tryz.prog 96 (ref12_Check.e k) :=
  fn_ok (c := ref12_Check.cx k) (code := ref12_Check.body) (TT.of tt_ok pp_ok) (fns_ok ⟨(ref04_Right.ok k), (ref11_Check.ok k), (ref11_Gone.ok k), trivial⟩) mixed Tryz.func96 (by kernel_rfl) (by kernel_rfl) (by kernel_rfl) (by kernel_rfl) (by kernel_rfl) (by kernel_rfl) (fun x => by kernel_rfl)
noncomputable def ref05_Has.body : Go.Code := Tryz.f68.body.getD .skip
noncomputable def ref05_Has.rs : List Go.ResultVar := Tryz.f68.results.toList
def ref05_Has.regs : List (Nat × RInfo) := [(0, ⟨[2, 3], [2, 3], [], [], 0, [], [], [], []⟩),
  (1, ⟨[4], [6], [], [], 11, [], [], [], []⟩)]
noncomputable def ref05_Has.cx (k : Nat) : Cx := ⟨tt, pp, [(97, (ref04_Right.e k))], ref05_Has.regs, k⟩
@[reducible] def ref05_Has.sg : Sg := ⟨[.dat tVec, .dat tDot], [], .dat .bool, []⟩
noncomputable def ref05_Has.f (k : Nat) (a0 : Ty.D tVec) (a1 : Ty.D tDot) : Option (Sg.Out ref05_Has.sg) := Sg.fn ref05_Has.sg (ref05_Has.cx k) ref05_Has.body ref05_Has.rs (a0, a1)
set_option maxRecDepth 100000 in
theorem ref05_Has.f_eq (k : Nat) (a0 : Ty.D tVec) (a1 : Ty.D tDot) : ref05_Has.f k a0 a1 =
  bnd (ref04_Right.f k a1) fun r0 =>
  br r0
    (br (inB a1.1 16)
      (some (ile a1.2 (rd (.int .i64) a0 (natOf a1.1))))
      (none))
    (some false) := by kernel_rfl
noncomputable def ref05_Has.e (k : Nat) : Entry := Sg.entry ref05_Has.sg fun x => ref05_Has.f k x.1 x.2
set_option maxRecDepth 100000 in
theorem ref05_Has.ok (k : Nat) : CallOK Tryz.prog 68 (ref05_Has.e k) :=
  fn_ok (c := ref05_Has.cx k) (code := ref05_Has.body) (TT.of tt_ok pp_ok) (fns_ok ⟨(ref04_Right.ok k), trivial⟩) mixed Tryz.func68 (by kernel_rfl) (by kernel_rfl) (by kernel_rfl) (by kernel_rfl) (by kernel_rfl) (by kernel_rfl) (fun x => by kernel_rfl)
noncomputable def ref06_Has.body : Go.Code := Tryz.f23.body.getD .skip
noncomputable def ref06_Has.rs : List Go.ResultVar := Tryz.f23.results.toList
def ref06_Has.regs : List (Nat × RInfo) := [(0, ⟨[2, 3], [2, 3], [0], [], 0, [], [], [], []⟩),
  (1, ⟨[2, 3, 9], [2, 3, 9], [], [], 0, [], [], [], []⟩),
  (2, ⟨[4], [], [], [], 0, [], [], [], []⟩),
  (3, ⟨[2, 3, 5], [2, 3], [], [], 0, [], [], [], []⟩),
  (4, ⟨[2, 3, 5, 14], [2, 3], [], [], 0, [2, 3, 5], [2, 3], [], []⟩),
  (6, ⟨[2, 3, 5, 23], [2, 3], [], [], 7, [], [], [], []⟩),
  (7, ⟨[4], [], [], [], 0, [], [], [], []⟩),
  (5, ⟨[2, 3, 5], [2, 3], [], [], 0, [], [], [], []⟩),
  (8, ⟨[4], [], [], [], 0, [], [], [], []⟩)]
noncomputable def ref06_Has.cx (k : Nat) : Cx := ⟨tt, pp, [(68, (ref05_Has.e k))], ref06_Has.regs, k⟩
@[reducible] def ref06_Has.sg : Sg := ⟨[.dat tDots, .dat tDot], [], .dat .bool, []⟩
noncomputable def ref06_Has.f (k : Nat) (a0 : Ty.D tDots) (a1 : Ty.D tDot) : Option (Sg.Out ref06_Has.sg) := Sg.fn ref06_Has.sg (ref06_Has.cx k) ref06_Has.body ref06_Has.rs (a0, a1)
noncomputable def ref06_Has.l4 (k : Nat) (n : Nat) (x5 : Ty.D (.int .i64)) (m2 : Ty.D tDots) (m3 : Ty.D tDot) : Option (Sg.Out ref06_Has.sg) := loopAt (ref06_Has.cx k) ref06_Has.body [1, 1, 0, 1, 0] 4 [2, 3, 5] [2, 3] [] (Sg.K ref06_Has.sg (ref06_Has.cx k) ref06_Has.rs) n ⟨[(2, .ref 2 []), (3, .ref 3 []), (5, .dat (.int .i64) x5)], [(2, .dat tDots m2), (3, .dat tDot m3)]⟩
set_option maxRecDepth 100000 in
theorem ref06_Has.f_eq (k : Nat) (a0 : Ty.D tDots) (a1 : Ty.D tDot) : ref06_Has.f k a0 a1 =
  bnd (ref05_Has.f k a0.1 a1) fun r0 =>
  br r0
    (some true)
    (ref06_Has.l4 k k 0 a0 a1) := by kernel_rfl
set_option maxRecDepth 100000 in
theorem ref06_Has.l4_eq (k : Nat) (n4 : Nat) (x5 : Ty.D (.int .i64)) (m2 : Ty.D tDots) (m3 : Ty.D tDot) : ref06_Has.l4 k (n4 + 1) x5 m2 m3 =
  br (ilt x5 (ilen m2.2))
    (br (inL x5 m2.2)
      (br (deq tDot (rd tDot m2.2 (natOf x5)) m3)
        (some true)
        (ref06_Has.l4 k n4 (iadd .i64 x5 1) m2 m3))
      (none))
    (some false) := by kernel_rfl
noncomputable def ref06_Has.e (k : Nat) : Entry := Sg.entry ref06_Has.sg fun x => ref06_Has.f k x.1 x.2
set_option maxRecDepth 100000 in
theorem ref06_Has.ok (k : Nat) : CallOK Tryz.prog 23 (ref06_Has.e k) :=
  fn_ok (c := ref06_Has.cx k) (code := ref06_Has.body) (TT.of tt_ok pp_ok) (fns_ok ⟨(ref05_Has.ok k), trivial⟩) mixed Tryz.func23 (by kernel_rfl) (by kernel_rfl) (by kernel_rfl) (by kernel_rfl) (by kernel_rfl) (by kernel_rfl) (fun x => by kernel_rfl)
noncomputable def ref06_filled.body : Go.Code := Tryz.f166.body.getD .skip
noncomputable def ref06_filled.rs : List Go.ResultVar := Tryz.f166.results.toList
def ref06_filled.regs : List (Nat × RInfo) := [(0, ⟨[1, 2], [1, 2], [0], [], 0, [], [], [], []⟩),
  (1, ⟨[1, 2, 3], [1, 2, 3], [4], [], 0, [], [], [], []⟩),
  (2, ⟨[1, 2, 3, 4], [1, 2, 3], [], [], 0, [], [], [], []⟩),
  (3, ⟨[1, 2, 3, 4, 13], [1, 2, 3], [], [], 0, [1, 2, 3, 4], [1, 2, 3], [], []⟩),
  (5, ⟨[1, 2, 3, 4, 5], [1, 2, 3, 5], [], [], 0, [], [], [], []⟩),
  (6, ⟨[1, 2, 3, 4, 5, 29], [1, 2, 3, 5], [], [], 9, [], [], [], []⟩),
  (7, ⟨[1, 2, 3, 4], [1, 2, 3], [], [], 0, [], [], [], []⟩),
  (8, ⟨[1, 2, 3, 4, 5, 43], [1, 2, 3, 5], [], [], 8, [], [], [], []⟩),
  (9, ⟨[1, 2, 3, 4], [1, 2, 3], [1, 4, 6], [], 0, [], [], [], []⟩),
  (4, ⟨[1, 2, 3, 4], [1, 2, 3], [], [], 0, [], [], [], []⟩),
  (10, ⟨[2], [2], [1], [], 0, [], [], [], []⟩)]
noncomputable def ref06_filled.cx (k : Nat) : Cx := ⟨tt, pp, [], ref06_filled.regs, k⟩
@[reducible] def ref06_filled.sg : Sg := ⟨[.dat tDots], [], .dat tDots, []⟩
noncomputable def ref06_filled.f (k : Nat) (a0 : Ty.D tDots) : Option (Sg.Out ref06_filled.sg) := Sg.fn ref06_filled.sg (ref06_filled.cx k) ref06_filled.body ref06_filled.rs a0
noncomputable def ref06_filled.l3 (k : Nat) (n : Nat) (x4 : Ty.D (.int .i64)) (m1 : Ty.D tDots) (m2a : Ty.D tVec) (m2b : List (Ty.D tDot)) (m3a : Ty.D tVec) (m3b : List (Ty.D tDot)) : Option (Sg.Out ref06_filled.sg) := loopAt (ref06_filled.cx k) ref06_filled.body [1, 1, 0, 1, 0] 3 [1, 2, 3, 4] [1, 2, 3] [] (Sg.K ref06_filled.sg (ref06_filled.cx k) ref06_filled.rs) n ⟨[(1, .ref 1 []), (2, .ref 2 []), (3, .ref 3 []), (4, .dat (.int .i64) x4)], [(1, .dat tDots m1), (2, .pr (.dat tVec m2a) (.own tDot m2b)), (3, .pr (.dat tVec m3a) (.own tDot m3b))]⟩
set_option maxRecDepth 100000 in
theorem ref06_filled.f_eq (k : Nat) (a0 : Ty.D tDots) : ref06_filled.f k a0 =
  ref06_filled.l3 k k 0 a0 (zarr 16 0) [] a0.1 [] := by kernel_rfl
set_option maxRecDepth 100000 in
theorem ref06_filled.l3_eq (k : Nat) (n3 : Nat) (x4 : Ty.D (.int .i64)) (m1 : Ty.D tDots) (m2a : Ty.D tVec) (m2b : List (Ty.D tDot)) (m3a : Ty.D tVec) (m3b : List (Ty.D tDot)) : ref06_filled.l3 k (n3 + 1) x4 m1 m2a m2b m3a m3b =
  br (ilt x4 (ilen m1.2))
    (br (inL x4 m1.2)
      (br (inB ((rd tDot m1.2 (natOf x4)).1) 16)
        (br (ieq ((rd tDot m1.2 (natOf x4)).2) (iadd .i64 (rd (.int .i64) m3a (natOf ((rd tDot m1.2 (natOf x4)).1))) 1))
          (br (inB ((rd tDot m1.2 (natOf x4)).1) 16)
            (ref06_filled.l3 k n3 (iadd .i64 x4 1) m1 m2a m2b (upd m3a (natOf ((rd tDot m1.2 (natOf x4)).1)) ((rd tDot m1.2 (natOf x4)).2)) m3b)
            (none))
          (br (inB ((rd tDot m1.2 (natOf x4)).1) 16)
            (br (ilt (rd (.int .i64) m3a (natOf ((rd tDot m1.2 (natOf x4)).1))) ((rd tDot m1.2 (natOf x4)).2))
              (br (room m3b ((rd tDot m1.2 (natOf x4)) :: []))
                (ref06_filled.l3 k n3 (iadd .i64 x4 1) m1 m2a m2b m3a (app m3b ((rd tDot m1.2 (natOf x4)) :: [])))
                (none))
              (ref06_filled.l3 k n3 (iadd .i64 x4 1) m1 m2a m2b m3a m3b))
            (none)))
        (none))
      (none))
    (some (m3a, m3b)) := by kernel_rfl
noncomputable def ref06_filled.e (k : Nat) : Entry := Sg.entry ref06_filled.sg fun x => ref06_filled.f k x
set_option maxRecDepth 100000 in
theorem ref06_filled.ok (k : Nat) : CallOK Tryz.prog 166 (ref06_filled.e k) :=
  fn_ok (c := ref06_filled.cx k) (code := ref06_filled.body) (TT.of tt_ok pp_ok) (fns_ok trivial) mixed Tryz.func166 (by kernel_rfl) (by kernel_rfl) (by kernel_rfl) (by kernel_rfl) (by kernel_rfl) (by kernel_rfl) (fun x => by kernel_rfl)
noncomputable def ref06_Put.body : Go.Code := Tryz.f133.body.getD .skip
noncomputable def ref06_Put.rs : List Go.ResultVar := Tryz.f133.results.toList
def ref06_Put.regs : List (Nat × RInfo) := [(0, ⟨[2, 3, 4], [2, 3, 4], [0], [], 0, [], [], [], []⟩),
  (1, ⟨[2, 3, 4, 15], [2, 3, 4, 14], [], [], 0, [], [], [], []⟩),
  (2, ⟨[4], [4], [1], [], 0, [], [], [], []⟩),
  (3, ⟨[2, 3, 4, 5], [2, 3, 4], [], [], 0, [], [], [], []⟩),
  (4, ⟨[2, 3, 4, 5, 6], [2, 3, 4], [], [], 0, [], [], [], []⟩),
  (5, ⟨[2, 3, 4, 5, 6, 7], [2, 3, 4], [], [], 0, [], [], [], []⟩),
  (6, ⟨[2, 3, 4, 5, 6, 7, 21], [2, 3, 4], [], [], 0, [2, 3, 4, 5, 6, 7], [2, 3, 4], [], []⟩),
  (8, ⟨[2, 3, 4, 5, 6, 7, 35], [2, 3, 4], [], [], 12, [], [], [], []⟩),
  (9, ⟨[2, 3, 4, 5, 7], [2, 3, 4], [0, 3, 4], [], 0, [], [], [], []⟩),
  (10, ⟨[2, 3, 4, 5, 6, 7], [2, 3, 4], [], [], 0, [], [], [], []⟩),
  (11, ⟨[2, 3, 4, 5, 6, 7], [2, 3, 4], [0, 7, 8], [], 0, [], [], [], []⟩),
  (7, ⟨[2, 3, 4, 5, 6, 7], [2, 3, 4], [], [], 0, [], [], [], []⟩),
  (12, ⟨[2, 3, 4, 5, 49], [2, 3, 4], [], [], 0, [], [], [], []⟩),
  (13, ⟨[2, 4, 5], [2, 4], [0, 3, 4], [], 0, [], [], [], []⟩),
  (14, ⟨[4], [4], [5], [], 0, [], [], [], []⟩)]
noncomputable def ref06_Put.cx (k : Nat) : Cx := ⟨tt, pp, [(97, (ref04_Right.e k)),
  (23, (ref06_Has.e k)),
  (129, (ref04_Compare.e k)),
  (166, (ref06_filled.e k))], ref06_Put.regs, k⟩
@[reducible] def ref06_Put.sg : Sg := ⟨[.dat tDots, .dat tDot], [], .dat tDots, []⟩
noncomputable def ref06_Put.f (k : Nat) (a0 : Ty.D tDots) (a1 : Ty.D tDot) : Option (Sg.Out ref06_Put.sg) := Sg.fn ref06_Put.sg (ref06_Put.cx k) ref06_Put.body ref06_Put.rs (a0, a1)
noncomputable def ref06_Put.l6 (k : Nat) (n : Nat) (x5 : List (Ty.D tDot)) (x6 : Ty.D .bool) (x7 : Ty.D (.int .i64)) (m2 : Ty.D tDots) (m3 : Ty.D tDot) (m4a : Ty.D tVec) (m4b : List (Ty.D tDot)) : Option (Sg.Out ref06_Put.sg) := loopAt (ref06_Put.cx k) ref06_Put.body [1, 1, 1, 1, 0, 1, 0] 6 [2, 3, 4, 5, 6, 7] [2, 3, 4] [] (Sg.K ref06_Put.sg (ref06_Put.cx k) ref06_Put.rs) n ⟨[(2, .ref 2 []), (3, .ref 3 []), (4, .ref 4 []), (5, .own tDot x5), (6, .dat .bool x6), (7, .dat (.int .i64) x7)], [(2, .dat tDots m2), (3, .dat tDot m3), (4, .pr (.dat tVec m4a) (.own tDot m4b))]⟩
set_option maxRecDepth 100000 in
theorem ref06_Put.f_eq (k : Nat) (a0 : Ty.D tDots) (a1 : Ty.D tDot) : ref06_Put.f k a0 a1 =
  bnd (ref04_Right.f k a1) fun r0 =>
  br (bnot r0)
    (some a0)
    (bnd (ref06_Has.f k a0 a1) fun r1 =>
    br r1
      (some a0)
      (ref06_Put.l6 k k [] false 0 a0 a1 (zarr 16 0) [])) := by kernel_rfl
set_option maxRecDepth 100000 in
theorem ref06_Put.l6_eq (k : Nat) (n6 : Nat) (x5 : List (Ty.D tDot)) (x6 : Ty.D .bool) (x7 : Ty.D (.int .i64)) (m2 : Ty.D tDots) (m3 : Ty.D tDot) (m4a : Ty.D tVec) (m4b : List (Ty.D tDot)) : ref06_Put.l6 k (n6 + 1) x5 x6 x7 m2 m3 m4a m4b =
  br (ilt x7 (ilen m2.2))
    (br (bnot x6)
      (br (inL x7 m2.2)
        (bnd (ref04_Compare.f k m3 (rd tDot m2.2 (natOf x7))) fun r0 =>
        br (ilt r0 0)
          (br (room x5 (m3 :: []))
            (br (inL x7 m2.2)
              (br (room (app x5 (m3 :: [])) ((rd tDot m2.2 (natOf x7)) :: []))
                (ref06_Put.l6 k n6 (app (app x5 (m3 :: [])) ((rd tDot m2.2 (natOf x7)) :: [])) true (iadd .i64 x7 1) m2 m3 m4a m4b)
                (none))
              (none))
            (none))
          (br (inL x7 m2.2)
            (br (room x5 ((rd tDot m2.2 (natOf x7)) :: []))
              (ref06_Put.l6 k n6 (app x5 ((rd tDot m2.2 (natOf x7)) :: [])) x6 (iadd .i64 x7 1) m2 m3 m4a m4b)
              (none))
            (none)))
        (none))
      (br (inL x7 m2.2)
        (br (room x5 ((rd tDot m2.2 (natOf x7)) :: []))
          (ref06_Put.l6 k n6 (app x5 ((rd tDot m2.2 (natOf x7)) :: [])) x6 (iadd .i64 x7 1) m2 m3 m4a m4b)
          (none))
        (none)))
    (br (bnot x6)
      (br (room x5 (m3 :: []))
        (bnd (ref06_filled.f k (m2.1, (app x5 (m3 :: [])))) fun r1 =>
        some r1)
        (none))
      (bnd (ref06_filled.f k (m2.1, x5)) fun r2 =>
      some r2)) := by kernel_rfl
noncomputable def ref06_Put.e (k : Nat) : Entry := Sg.entry ref06_Put.sg fun x => ref06_Put.f k x.1 x.2
set_option maxRecDepth 100000 in
theorem ref06_Put.ok (k : Nat) : CallOK Tryz.prog 133 (ref06_Put.e k) :=
  fn_ok (c := ref06_Put.cx k) (code := ref06_Put.body) (TT.of tt_ok pp_ok) (fns_ok ⟨(ref04_Right.ok k), (ref06_Has.ok k), (ref04_Compare.ok k), (ref06_filled.ok k), trivial⟩) mixed Tryz.func133 (by kernel_rfl) (by kernel_rfl) (by kernel_rfl) (by kernel_rfl) (by kernel_rfl) (by kernel_rfl) (fun x => by kernel_rfl)
noncomputable def ref22_Known.body : Go.Code := Tryz.f98.body.getD .skip
noncomputable def ref22_Known.rs : List Go.ResultVar := Tryz.f98.results.toList
def ref22_Known.regs : List (Nat × RInfo) := [(0, ⟨[0, 2], [2], [], [], 0, [], [], [], []⟩),
  (1, ⟨[0, 2, 3], [2, 3], [2], [], 0, [], [], [], []⟩),
  (2, ⟨[0, 2, 3, 4], [2, 3], [], [], 0, [], [], [], []⟩),
  (3, ⟨[0, 2, 3, 4, 9], [2, 3], [], [], 0, [0, 2, 10000003, 4], [2, 10000003], [], []⟩),
  (5, ⟨[0, 2, 3, 4], [2, 3], [7], [], 7, [], [], [], [[], [], [], [], [], [], [0, 5], [0, 5]]⟩),
  (4, ⟨[0, 2, 3, 4], [2, 3], [], [], 0, [], [], [], []⟩),
  (6, ⟨[2], [2], [1], [], 0, [], [], [], []⟩)]
noncomputable def ref22_Known.cx (k : Nat) : Cx := ⟨tt, pp, [(133, (ref06_Put.e k))], ref22_Known.regs, k⟩
@[reducible] def ref22_Known.sg : Sg := ⟨[.dat (.slc tTxn)], [], .dat tDots, []⟩
noncomputable def ref22_Known.f (k : Nat) (a0 : Ty.D (.slc tTxn)) : Option (Sg.Out ref22_Known.sg) := Sg.fn ref22_Known.sg (ref22_Known.cx k) ref22_Known.body ref22_Known.rs a0
noncomputable def ref22_Known.l3 (k : Nat) (n : Nat) (x0 : Ty.D (.slc tTxn)) (x4 : Ty.D (.int .i64)) (m2a : Ty.D tVec) (m2b : List (Ty.D tDot)) (m3 : Ty.D tDots) : Option (Sg.Out ref22_Known.sg) := loopAt (ref22_Known.cx k) ref22_Known.body [1, 1, 0, 1, 0] 3 [0, 2, 10000003, 4] [2, 10000003] [] (Sg.K ref22_Known.sg (ref22_Known.cx k) ref22_Known.rs) n ⟨[(0, .dat (.slc tTxn) x0), (2, .ref 2 []), (3, .ref 3 []), (4, .dat (.int .i64) x4)], [(2, .pr (.dat tVec m2a) (.own tDot m2b)), (3, .dat tDots m3)]⟩
set_option maxRecDepth 100000 in
theorem ref22_Known.f_eq (k : Nat) (a0 : Ty.D (.slc tTxn)) : ref22_Known.f k a0 =
  ref22_Known.l3 k k a0 0 (zarr 16 0) [] ((zarr 16 0), []) := by kernel_rfl
set_option maxRecDepth 100000 in
theorem ref22_Known.l3_eq (k : Nat) (n3 : Nat) (x0 : Ty.D (.slc tTxn)) (x4 : Ty.D (.int .i64)) (m2a : Ty.D tVec) (m2b : List (Ty.D tDot)) (m3 : Ty.D tDots) : ref22_Known.l3 k (n3 + 1) x0 x4 m2a m2b m3 =
  br (ilt x4 (ilen x0))
    (br (inL x4 x0)
      (bnd (ref06_Put.f k m3 ((rd tTxn x0 (natOf x4)).1)) fun r0 =>
      ref22_Known.l3 k n3 x0 (iadd .i64 x4 1) m2a m2b r0)
      (none))
    (some m3) := by kernel_rfl
noncomputable def ref22_Known.e (k : Nat) : Entry := Sg.entry ref22_Known.sg fun x => ref22_Known.f k x
set_option maxRecDepth 100000 in
theorem ref22_Known.ok (k : Nat) : CallOK Tryz.prog 98 (ref22_Known.e k) :=
  fn_ok (c := ref22_Known.cx k) (code := ref22_Known.body) (TT.of tt_ok pp_ok) (fns_ok ⟨(ref06_Put.ok k), trivial⟩) mixed Tryz.func98 (by kernel_rfl) (by kernel_rfl) (by kernel_rfl) (by kernel_rfl) (by kernel_rfl) (by kernel_rfl) (fun x => by kernel_rfl)
noncomputable def ref04_Same.body : Go.Code := Tryz.f37.body.getD .skip
noncomputable def ref04_Same.rs : List Go.ResultVar := Tryz.f37.results.toList
def ref04_Same.regs : List (Nat × RInfo) := [(0, ⟨[0, 1], [], [], [], 0, [], [], [], []⟩),
  (1, ⟨[0, 1, 10], [], [], [], 0, [], [], [], []⟩),
  (2, ⟨[4], [], [], [], 0, [], [], [], []⟩),
  (3, ⟨[0, 1, 5], [], [], [], 0, [], [], [], []⟩),
  (4, ⟨[0, 1, 5, 14], [], [], [], 0, [0, 1, 5], [], [], []⟩),
  (6, ⟨[0, 1, 5, 25], [], [], [], 9, [], [], [], []⟩),
  (7, ⟨[4], [], [], [], 0, [], [], [], []⟩),
  (5, ⟨[0, 1, 5], [], [], [], 0, [], [], [], []⟩),
  (8, ⟨[4], [], [], [], 0, [], [], [], []⟩)]
noncomputable def ref04_Same.cx (k : Nat) : Cx := ⟨tt, pp, [], ref04_Same.regs, k⟩
@[reducible] def ref04_Same.sg : Sg := ⟨[.dat (.slc tDot), .dat (.slc tDot)], [], .dat .bool, []⟩
noncomputable def ref04_Same.f (k : Nat) (a0 : Ty.D (.slc tDot)) (a1 : Ty.D (.slc tDot)) : Option (Sg.Out ref04_Same.sg) := Sg.fn ref04_Same.sg (ref04_Same.cx k) ref04_Same.body ref04_Same.rs (a0, a1)
noncomputable def ref04_Same.l4 (k : Nat) (n : Nat) (x0 : Ty.D (.slc tDot)) (x1 : Ty.D (.slc tDot)) (x5 : Ty.D (.int .i64)) : Option (Sg.Out ref04_Same.sg) := loopAt (ref04_Same.cx k) ref04_Same.body [1, 1, 0, 1, 0] 4 [0, 1, 5] [] [] (Sg.K ref04_Same.sg (ref04_Same.cx k) ref04_Same.rs) n ⟨[(0, .dat (.slc tDot) x0), (1, .dat (.slc tDot) x1), (5, .dat (.int .i64) x5)], []⟩
set_option maxRecDepth 100000 in
theorem ref04_Same.f_eq (k : Nat) (a0 : Ty.D (.slc tDot)) (a1 : Ty.D (.slc tDot)) : ref04_Same.f k a0 a1 =
  br (bnot (ieq (ilen a0) (ilen a1)))
    (some false)
    (ref04_Same.l4 k k a0 a1 0) := by kernel_rfl
set_option maxRecDepth 100000 in
theorem ref04_Same.l4_eq (k : Nat) (n4 : Nat) (x0 : Ty.D (.slc tDot)) (x1 : Ty.D (.slc tDot)) (x5 : Ty.D (.int .i64)) : ref04_Same.l4 k (n4 + 1) x0 x1 x5 =
  br (ilt x5 (ilen x0))
    (br (inL x5 x0)
      (br (inL x5 x1)
        (br (bnot (deq tDot (rd tDot x0 (natOf x5)) (rd tDot x1 (natOf x5))))
          (some false)
          (ref04_Same.l4 k n4 x0 x1 (iadd .i64 x5 1)))
        (none))
      (none))
    (some true) := by kernel_rfl
noncomputable def ref04_Same.e (k : Nat) : Entry := Sg.entry ref04_Same.sg fun x => ref04_Same.f k x.1 x.2
set_option maxRecDepth 100000 in
theorem ref04_Same.ok (k : Nat) : CallOK Tryz.prog 37 (ref04_Same.e k) :=
  fn_ok (c := ref04_Same.cx k) (code := ref04_Same.body) (TT.of tt_ok pp_ok) (fns_ok trivial) mixed Tryz.func37 (by kernel_rfl) (by kernel_rfl) (by kernel_rfl) (by kernel_rfl) (by kernel_rfl) (by kernel_rfl) (fun x => by kernel_rfl)
noncomputable def ref06_Same.body : Go.Code := Tryz.f63.body.getD .skip
noncomputable def ref06_Same.rs : List Go.ResultVar := Tryz.f63.results.toList
def ref06_Same.regs : List (Nat × RInfo) := [(0, ⟨[2, 3], [2, 3], [0, 1], [], 0, [], [], [], []⟩),
  (1, ⟨[4], [15], [], [], 0, [], [], [], []⟩)]
noncomputable def ref06_Same.cx (k : Nat) : Cx := ⟨tt, pp, [(37, (ref04_Same.e k))], ref06_Same.regs, k⟩
@[reducible] def ref06_Same.sg : Sg := ⟨[.dat tDots, .dat tDots], [], .dat .bool, []⟩
noncomputable def ref06_Same.f (k : Nat) (a0 : Ty.D tDots) (a1 : Ty.D tDots) : Option (Sg.Out ref06_Same.sg) := Sg.fn ref06_Same.sg (ref06_Same.cx k) ref06_Same.body ref06_Same.rs (a0, a1)
set_option maxRecDepth 100000 in
theorem ref06_Same.f_eq (k : Nat) (a0 : Ty.D tDots) (a1 : Ty.D tDots) : ref06_Same.f k a0 a1 =
  br (deq tVec a0.1 a1.1)
    (bnd (ref04_Same.f k a0.2 a1.2) fun r0 =>
    some r0)
    (some false) := by kernel_rfl
noncomputable def ref06_Same.e (k : Nat) : Entry := Sg.entry ref06_Same.sg fun x => ref06_Same.f k x.1 x.2
set_option maxRecDepth 100000 in
theorem ref06_Same.ok (k : Nat) : CallOK Tryz.prog 63 (ref06_Same.e k) :=
  fn_ok (c := ref06_Same.cx k) (code := ref06_Same.body) (TT.of tt_ok pp_ok) (fns_ok ⟨(ref04_Same.ok k), trivial⟩) mixed Tryz.func63 (by kernel_rfl) (by kernel_rfl) (by kernel_rfl) (by kernel_rfl) (by kernel_rfl) (by kernel_rfl) (fun x => by kernel_rfl)
noncomputable def ref22_Right.body : Go.Code := Tryz.f44.body.getD .skip
noncomputable def ref22_Right.rs : List Go.ResultVar := Tryz.f44.results.toList
def ref22_Right.regs : List (Nat × RInfo) := [(0, ⟨[1], [1], [0], [], 0, [], [], [], []⟩),
  (1, ⟨[1, 27], [1], [], [], 0, [], [], [], []⟩),
  (2, ⟨[2], [72, 79], [], [], 0, [], [], [], []⟩),
  (3, ⟨[1, 3], [1], [], [], 0, [], [], [], []⟩),
  (4, ⟨[1, 3, 32], [1], [], [], 0, [1, 3], [1], [], []⟩),
  (6, ⟨[1, 3, 41], [1], [], [], 0, [], [], [], []⟩),
  (7, ⟨[2], [72, 79], [], [], 0, [], [], [], []⟩),
  (5, ⟨[1, 3], [1], [], [], 0, [], [], [], []⟩),
  (8, ⟨[1, 4], [1], [], [], 0, [], [], [], []⟩),
  (9, ⟨[1, 4, 43], [1], [], [], 0, [1, 4], [1], [], []⟩),
  (11, ⟨[1, 4, 51], [1], [], [], 0, [], [], [], []⟩),
  (12, ⟨[2], [72, 79], [], [], 0, [], [], [], []⟩),
  (13, ⟨[1, 4, 5], [1], [], [], 0, [], [], [], []⟩),
  (14, ⟨[1, 4, 5, 58], [1], [], [], 0, [1, 4, 5], [1], [], []⟩),
  (16, ⟨[1, 4, 5, 69], [1], [], [], 0, [], [], [], []⟩),
  (17, ⟨[2], [72, 79], [], [], 0, [], [], [], []⟩),
  (15, ⟨[1, 4, 5], [1], [], [], 0, [], [], [], []⟩),
  (10, ⟨[1, 4], [1], [], [], 0, [], [], [], []⟩),
  (18, ⟨[2], [72, 79], [], [], 11, [], [], [], []⟩)]
noncomputable def ref22_Right.cx (k : Nat) : Cx := ⟨tt, pp, [(93, (ref12_Rises.e k)),
  (94, (ref08_Right.e k)),
  (95, (ref06_Right.e k)),
  (96, (ref12_Check.e k)),
  (97, (ref04_Right.e k)),
  (98, (ref22_Known.e k)),
  (63, (ref06_Same.e k))], ref22_Right.regs, k⟩
@[reducible] def ref22_Right.sg : Sg := ⟨[.dat tState], [], .dat .bool, []⟩
noncomputable def ref22_Right.f (k : Nat) (a0 : Ty.D tState) : Option (Sg.Out ref22_Right.sg) := Sg.fn ref22_Right.sg (ref22_Right.cx k) ref22_Right.body ref22_Right.rs a0
noncomputable def ref22_Right.l4 (k : Nat) (n : Nat) (x3 : Ty.D (.int .i64)) (m1 : Ty.D tState) : Option (Sg.Out ref22_Right.sg) := loopAt (ref22_Right.cx k) ref22_Right.body [1, 1, 0, 1, 0] 4 [1, 3] [1] [] (Sg.K ref22_Right.sg (ref22_Right.cx k) ref22_Right.rs) n ⟨[(1, .ref 1 []), (3, .dat (.int .i64) x3)], [(1, .dat tState m1)]⟩
noncomputable def ref22_Right.l9 (k : Nat) (n : Nat) (x4 : Ty.D (.int .i64)) (m1 : Ty.D tState) : Option (Sg.Out ref22_Right.sg) := loopAt (ref22_Right.cx k) ref22_Right.body [1, 1, 1, 0, 1, 0] 9 [1, 4] [1] [] (Sg.K ref22_Right.sg (ref22_Right.cx k) ref22_Right.rs) n ⟨[(1, .ref 1 []), (4, .dat (.int .i64) x4)], [(1, .dat tState m1)]⟩
noncomputable def ref22_Right.l14 (k : Nat) (n9 : Nat) (n : Nat) (x4 : Ty.D (.int .i64)) (x5 : Ty.D (.int .i64)) (m1 : Ty.D tState) : Option (Sg.Out ref22_Right.sg) := loopAt (ref22_Right.cx k) ref22_Right.body [1, 1, 1, 0, 1, 0, 0, 1, 0, 0, 1, 1, 0] 14 [1, 4, 5] [1] [n9] (Sg.K ref22_Right.sg (ref22_Right.cx k) ref22_Right.rs) n ⟨[(1, .ref 1 []), (4, .dat (.int .i64) x4), (5, .dat (.int .i64) x5)], [(1, .dat tState m1)]⟩
set_option maxRecDepth 100000 in
theorem ref22_Right.f_eq (k : Nat) (a0 : Ty.D tState) : ref22_Right.f k a0 =
  br (ilt 1000 (ilen a0.1))
    (some false)
    (bnd (ref12_Rises.f k a0.1) fun r0 =>
    br (bnot r0)
      (some false)
      (bnd (ref08_Right.f k a0.2.1) fun r1 =>
      br (bnot r1)
        (some false)
        (bnd (ref06_Right.f k a0.2.2.2.1) fun r2 =>
        br (bnot r2)
          (some false)
          (ref22_Right.l4 k k 0 a0)))) := by kernel_rfl
set_option maxRecDepth 100000 in
theorem ref22_Right.l4_eq (k : Nat) (n4 : Nat) (x3 : Ty.D (.int .i64)) (m1 : Ty.D tState) : ref22_Right.l4 k (n4 + 1) x3 m1 =
  br (ilt x3 (ilen m1.1))
    (br (inL x3 m1.1)
      (bnd (ref12_Check.f k (rd tTxn m1.1 (natOf x3))) fun r0 =>
      br (bnot (ieq r0 0))
        (some false)
        (ref22_Right.l4 k n4 (iadd .i64 x3 1) m1))
      (none))
    (ref22_Right.l9 k k 0 m1) := by kernel_rfl
set_option maxRecDepth 100000 in
theorem ref22_Right.l9_eq (k : Nat) (n9 : Nat) (x4 : Ty.D (.int .i64)) (m1 : Ty.D tState) : ref22_Right.l9 k (n9 + 1) x4 m1 =
  br (ilt x4 8)
    (br (inB x4 8)
      (br (ilt 1000 (ilen (rd (.slc tDot) m1.2.2.2.2 (natOf x4))))
        (some false)
        (ref22_Right.l14 k n9 k x4 0 m1))
      (none))
    (bnd (ref06_Right.f k m1.2.2.1) fun r0 =>
    br r0
      (bnd (ref22_Known.f k m1.1) fun r1 =>
      bnd (ref06_Same.f k m1.2.2.1 r1) fun r2 =>
      some r2)
      (some false)) := by kernel_rfl
set_option maxRecDepth 100000 in
theorem ref22_Right.l14_eq (k : Nat) (n9 : Nat) (n14 : Nat) (x4 : Ty.D (.int .i64)) (x5 : Ty.D (.int .i64)) (m1 : Ty.D tState) : ref22_Right.l14 k n9 (n14 + 1) x4 x5 m1 =
  br (inB x4 8)
    (br (ilt x5 (ilen (rd (.slc tDot) m1.2.2.2.2 (natOf x4))))
      (br (inB x4 8)
        (br (inL x5 (rd (.slc tDot) m1.2.2.2.2 (natOf x4)))
          (bnd (ref04_Right.f k (rd tDot (rd (.slc tDot) m1.2.2.2.2 (natOf x4)) (natOf x5))) fun r0 =>
          br (bnot r0)
            (some false)
            (ref22_Right.l14 k n9 n14 x4 (iadd .i64 x5 1) m1))
          (none))
        (none))
      (ref22_Right.l9 k n9 (iadd .i64 x4 1) m1))
    (none) := by kernel_rfl
noncomputable def ref22_Right.e (k : Nat) : Entry := Sg.entry ref22_Right.sg fun x => ref22_Right.f k x
set_option maxRecDepth 100000 in
theorem ref22_Right.ok (k : Nat) : CallOK Tryz.prog 44 (ref22_Right.e k) :=
  fn_ok (c := ref22_Right.cx k) (code := ref22_Right.body) (TT.of tt_ok pp_ok) (fns_ok ⟨(ref12_Rises.ok k), (ref08_Right.ok k), (ref06_Right.ok k), (ref12_Check.ok k), (ref04_Right.ok k), (ref22_Known.ok k), (ref06_Same.ok k), trivial⟩) mixed Tryz.func44 (by kernel_rfl) (by kernel_rfl) (by kernel_rfl) (by kernel_rfl) (by kernel_rfl) (by kernel_rfl) (fun x => by kernel_rfl)
noncomputable def ref22_Good.body : Go.Code := Tryz.f25.body.getD .skip
noncomputable def ref22_Good.rs : List Go.ResultVar := Tryz.f25.results.toList
def ref22_Good.regs : List (Nat × RInfo) := [(0, ⟨[1], [1], [0], [], 0, [], [], [], []⟩),
  (1, ⟨[2], [4, 7], [], [], 0, [], [], [], []⟩)]
noncomputable def ref22_Good.cx (k : Nat) : Cx := ⟨tt, pp, [(71, (ref22_Short.e k)),
  (44, (ref22_Right.e k))], ref22_Good.regs, k⟩
@[reducible] def ref22_Good.sg : Sg := ⟨[.dat tState], [], .dat .bool, []⟩
noncomputable def ref22_Good.f (k : Nat) (a0 : Ty.D tState) : Option (Sg.Out ref22_Good.sg) := Sg.fn ref22_Good.sg (ref22_Good.cx k) ref22_Good.body ref22_Good.rs a0
set_option maxRecDepth 100000 in
theorem ref22_Good.f_eq (k : Nat) (a0 : Ty.D tState) : ref22_Good.f k a0 =
  bnd (ref22_Short.f k a0) fun r0 =>
  br r0
    (bnd (ref22_Right.f k a0) fun r1 =>
    some r1)
    (some false) := by kernel_rfl
noncomputable def ref22_Good.e (k : Nat) : Entry := Sg.entry ref22_Good.sg fun x => ref22_Good.f k x
set_option maxRecDepth 100000 in
theorem ref22_Good.ok (k : Nat) : CallOK Tryz.prog 25 (ref22_Good.e k) :=
  fn_ok (c := ref22_Good.cx k) (code := ref22_Good.body) (TT.of tt_ok pp_ok) (fns_ok ⟨(ref22_Short.ok k), (ref22_Right.ok k), trivial⟩) mixed Tryz.func25 (by kernel_rfl) (by kernel_rfl) (by kernel_rfl) (by kernel_rfl) (by kernel_rfl) (by kernel_rfl) (fun x => by kernel_rfl)
noncomputable def law29_short.body : Go.Code := Tryz.f13.body.getD .skip
noncomputable def law29_short.rs : List Go.ResultVar := Tryz.f13.results.toList
def law29_short.regs : List (Nat × RInfo) := [(0, ⟨[1], [1], [0], [], 0, [], [], [], []⟩),
  (1, ⟨[2], [5, 9], [], [], 0, [], [], [], []⟩)]
noncomputable def law29_short.cx (k : Nat) : Cx := ⟨tt, pp, [(54, (ref24_Short.e k)),
  (25, (ref22_Good.e k))], law29_short.regs, k⟩
@[reducible] def law29_short.sg : Sg := ⟨[.dat tDeed], [], .dat .bool, []⟩
noncomputable def law29_short.f (k : Nat) (a0 : Ty.D tDeed) : Option (Sg.Out law29_short.sg) := Sg.fn law29_short.sg (law29_short.cx k) law29_short.body law29_short.rs a0
set_option maxRecDepth 100000 in
theorem law29_short.f_eq (k : Nat) (a0 : Ty.D tDeed) : law29_short.f k a0 =
  bnd (ref24_Short.f k a0.2.2.1) fun r0 =>
  br r0
    (bnd (ref22_Good.f k a0.2.2.2.1) fun r1 =>
    some r1)
    (some false) := by kernel_rfl
noncomputable def law29_short.e (k : Nat) : Entry := Sg.entry law29_short.sg fun x => law29_short.f k x
set_option maxRecDepth 100000 in
theorem law29_short.ok (k : Nat) : CallOK Tryz.prog 13 (law29_short.e k) :=
  fn_ok (c := law29_short.cx k) (code := law29_short.body) (TT.of tt_ok pp_ok) (fns_ok ⟨(ref24_Short.ok k), (ref22_Good.ok k), trivial⟩) mixed Tryz.func13 (by kernel_rfl) (by kernel_rfl) (by kernel_rfl) (by kernel_rfl) (by kernel_rfl) (by kernel_rfl) (fun x => by kernel_rfl)
noncomputable def peer_Peers_other.body : Go.Code := Tryz.f61.body.getD .skip
noncomputable def peer_Peers_other.rs : List Go.ResultVar := Tryz.f61.results.toList
def peer_Peers_other.regs : List (Nat × RInfo) := [(0, ⟨[0, 1], [1000000], [], [], 0, [], [], [], []⟩),
  (1, ⟨[4], [1000000], [], [], 0, [], [], [], []⟩)]
noncomputable def peer_Peers_other.cx (k : Nat) : Cx := ⟨tt, pp, [], peer_Peers_other.regs, k⟩
@[reducible] def peer_Peers_other.sg : Sg := ⟨[.ref, .dat (.int .i64)], [tPeers], .dat .bool, [tPeers]⟩
noncomputable def peer_Peers_other.f (k : Nat) (a1 : Ty.D (.int .i64)) (o0 : Ty.D tPeers) : Option (Sg.Out peer_Peers_other.sg) := Sg.fn peer_Peers_other.sg (peer_Peers_other.cx k) peer_Peers_other.body peer_Peers_other.rs (a1, o0)
set_option maxRecDepth 100000 in
theorem peer_Peers_other.f_eq (k : Nat) (a1 : Ty.D (.int .i64)) (o0 : Ty.D tPeers) : peer_Peers_other.f k a1 o0 =
  br (ile 0 a1)
    (br (ilt a1 o0.2.1)
      (some ((bnot (ieq a1 o0.1)), o0))
      (some (false, o0)))
    (some (false, o0)) := by kernel_rfl
noncomputable def peer_Peers_other.e (k : Nat) : Entry := Sg.entry peer_Peers_other.sg fun x => peer_Peers_other.f k x.1 x.2
set_option maxRecDepth 100000 in
theorem peer_Peers_other.ok (k : Nat) : CallOK Tryz.prog 61 (peer_Peers_other.e k) :=
  fn_ok (c := peer_Peers_other.cx k) (code := peer_Peers_other.body) (TT.of tt_ok pp_ok) (fns_ok trivial) mixed Tryz.func61 (by kernel_rfl) (by kernel_rfl) (by kernel_rfl) (by kernel_rfl) (by kernel_rfl) (by kernel_rfl) (fun x => by kernel_rfl)
noncomputable def vec_Has.body : Go.Code := Tryz.f69.body.getD .skip
noncomputable def vec_Has.rs : List Go.ResultVar := Tryz.f69.results.toList
def vec_Has.regs : List (Nat × RInfo) := [(0, ⟨[2, 3], [2, 3], [], [], 0, [], [], [], []⟩),
  (1, ⟨[4], [6], [], [], 11, [], [], [], []⟩)]
noncomputable def vec_Has.cx (k : Nat) : Cx := ⟨tt, pp, [(113, (dot_Right.e k))], vec_Has.regs, k⟩
@[reducible] def vec_Has.sg : Sg := ⟨[.dat tVec, .dat tDot], [], .dat .bool, []⟩
noncomputable def vec_Has.f (k : Nat) (a0 : Ty.D tVec) (a1 : Ty.D tDot) : Option (Sg.Out vec_Has.sg) := Sg.fn vec_Has.sg (vec_Has.cx k) vec_Has.body vec_Has.rs (a0, a1)
set_option maxRecDepth 100000 in
theorem vec_Has.f_eq (k : Nat) (a0 : Ty.D tVec) (a1 : Ty.D tDot) : vec_Has.f k a0 a1 =
  bnd (dot_Right.f k a1) fun r0 =>
  br r0
    (br (inB a1.1 16)
      (some (ile a1.2 (rd (.int .i64) a0 (natOf a1.1))))
      (none))
    (some false) := by kernel_rfl
noncomputable def vec_Has.e (k : Nat) : Entry := Sg.entry vec_Has.sg fun x => vec_Has.f k x.1 x.2
set_option maxRecDepth 100000 in
theorem vec_Has.ok (k : Nat) : CallOK Tryz.prog 69 (vec_Has.e k) :=
  fn_ok (c := vec_Has.cx k) (code := vec_Has.body) (TT.of tt_ok pp_ok) (fns_ok ⟨(dot_Right.ok k), trivial⟩) mixed Tryz.func69 (by kernel_rfl) (by kernel_rfl) (by kernel_rfl) (by kernel_rfl) (by kernel_rfl) (by kernel_rfl) (fun x => by kernel_rfl)
noncomputable def slices_BinarySearchFunc_api_Dot_api_Dot_api_Dot_dot_Compare.body : Go.Code := Tryz.f122.body.getD .skip
noncomputable def slices_BinarySearchFunc_api_Dot_api_Dot_api_Dot_dot_Compare.rs : List Go.ResultVar := Tryz.f122.results.toList
def slices_BinarySearchFunc_api_Dot_api_Dot_api_Dot_dot_Compare.regs : List (Nat × RInfo) := [(0, ⟨[0, 2, 4], [4], [], [], 0, [], [], [], []⟩),
  (1, ⟨[0, 2, 4, 8], [4], [], [], 0, [], [], [], []⟩),
  (2, ⟨[0, 2, 4, 8, 9, 10], [4], [], [], 0, [], [], [], []⟩),
  (3, ⟨[0, 2, 4, 8, 9, 10, 17], [4], [], [], 0, [0, 2, 4, 8, 9, 10], [4], [], []⟩),
  (4, ⟨[0, 2, 4, 8, 9, 10, 11], [4], [], [], 0, [], [], [], []⟩),
  (5, ⟨[0, 2, 4, 8, 9, 10, 11, 31], [4], [], [], 8, [], [], [], [[], [], [], [], [], [], [4, 5], [6, 4, 5]]⟩),
  (6, ⟨[0, 2, 4, 8, 9, 10], [4], [], [], 0, [], [], [], []⟩),
  (7, ⟨[0, 2, 4, 8, 9, 10], [4], [], [], 0, [], [], [], []⟩),
  (8, ⟨[6, 7], [], [], [], 15, [], [], [], [[], [], [], [], [], [], [], [], [], [], [], [9, 10], [11, 9, 10], [11, 9, 10], [11, 9, 10], [11, 9, 10]]⟩)]
noncomputable def slices_BinarySearchFunc_api_Dot_api_Dot_api_Dot_dot_Compare.cx (k : Nat) : Cx := ⟨tt, pp, [(123, (dot_Compare.e k))], slices_BinarySearchFunc_api_Dot_api_Dot_api_Dot_dot_Compare.regs, k⟩
@[reducible] def slices_BinarySearchFunc_api_Dot_api_Dot_api_Dot_dot_Compare.sg : Sg := ⟨[.dat (.slc tDot), .dat tDot, .fn 123 0], [], .t2 (.dat (.int .i64)) (.dat .bool), []⟩
noncomputable def slices_BinarySearchFunc_api_Dot_api_Dot_api_Dot_dot_Compare.f (k : Nat) (a0 : Ty.D (.slc tDot)) (a1 : Ty.D tDot) : Option (Sg.Out slices_BinarySearchFunc_api_Dot_api_Dot_api_Dot_dot_Compare.sg) := Sg.fn slices_BinarySearchFunc_api_Dot_api_Dot_api_Dot_dot_Compare.sg (slices_BinarySearchFunc_api_Dot_api_Dot_api_Dot_dot_Compare.cx k) slices_BinarySearchFunc_api_Dot_api_Dot_api_Dot_dot_Compare.body slices_BinarySearchFunc_api_Dot_api_Dot_api_Dot_dot_Compare.rs (a0, a1)
noncomputable def slices_BinarySearchFunc_api_Dot_api_Dot_api_Dot_dot_Compare.l3 (k : Nat) (n : Nat) (x0 : Ty.D (.slc tDot)) (x8 : Ty.D (.int .i64)) (x9 : Ty.D (.int .i64)) (x10 : Ty.D (.int .i64)) (m4 : Ty.D tDot) : Option (Sg.Out slices_BinarySearchFunc_api_Dot_api_Dot_api_Dot_dot_Compare.sg) := loopAt (slices_BinarySearchFunc_api_Dot_api_Dot_api_Dot_dot_Compare.cx k) slices_BinarySearchFunc_api_Dot_api_Dot_api_Dot_dot_Compare.body [1, 1, 1, 0, 0] 3 [0, 2, 4, 8, 9, 10] [4] [] (Sg.K slices_BinarySearchFunc_api_Dot_api_Dot_api_Dot_dot_Compare.sg (slices_BinarySearchFunc_api_Dot_api_Dot_api_Dot_dot_Compare.cx k) slices_BinarySearchFunc_api_Dot_api_Dot_api_Dot_dot_Compare.rs) n ⟨[(0, .dat (.slc tDot) x0), (2, .fn 123 []), (4, .ref 4 []), (8, .dat (.int .i64) x8), (9, .dat (.int .i64) x9), (10, .dat (.int .i64) x10)], [(4, .dat tDot m4)]⟩
set_option maxRecDepth 100000 in
theorem slices_BinarySearchFunc_api_Dot_api_Dot_api_Dot_dot_Compare.f_eq (k : Nat) (a0 : Ty.D (.slc tDot)) (a1 : Ty.D tDot) : slices_BinarySearchFunc_api_Dot_api_Dot_api_Dot_dot_Compare.f k a0 a1 =
  slices_BinarySearchFunc_api_Dot_api_Dot_api_Dot_dot_Compare.l3 k k a0 (ilen a0) 0 (ilen a0) a1 := by kernel_rfl
set_option maxRecDepth 100000 in
theorem slices_BinarySearchFunc_api_Dot_api_Dot_api_Dot_dot_Compare.l3_eq (k : Nat) (n3 : Nat) (x0 : Ty.D (.slc tDot)) (x8 : Ty.D (.int .i64)) (x9 : Ty.D (.int .i64)) (x10 : Ty.D (.int .i64)) (m4 : Ty.D tDot) : slices_BinarySearchFunc_api_Dot_api_Dot_api_Dot_dot_Compare.l3 k (n3 + 1) x0 x8 x9 x10 m4 =
  br (ilt x9 x10)
    (br (inL (iwrap .i64 (ishr .u64 (iwrap .u64 (iadd .i64 x9 x10)) 1)) x0)
      (bnd (dot_Compare.f k (rd tDot x0 (natOf (iwrap .i64 (ishr .u64 (iwrap .u64 (iadd .i64 x9 x10)) 1)))) m4) fun r0 =>
      br (ilt r0 0)
        (slices_BinarySearchFunc_api_Dot_api_Dot_api_Dot_dot_Compare.l3 k n3 x0 x8 (iadd .i64 (iwrap .i64 (ishr .u64 (iwrap .u64 (iadd .i64 x9 x10)) 1)) 1) x10 m4)
        (slices_BinarySearchFunc_api_Dot_api_Dot_api_Dot_dot_Compare.l3 k n3 x0 x8 x9 (iwrap .i64 (ishr .u64 (iwrap .u64 (iadd .i64 x9 x10)) 1)) m4))
      (none))
    (br (ilt x9 x8)
      (br (inL x9 x0)
        (bnd (dot_Compare.f k (rd tDot x0 (natOf x9)) m4) fun r1 =>
        some (x9, (ieq r1 0)))
        (none))
      (some (x9, false))) := by kernel_rfl
noncomputable def slices_BinarySearchFunc_api_Dot_api_Dot_api_Dot_dot_Compare.e (k : Nat) : Entry := Sg.entry slices_BinarySearchFunc_api_Dot_api_Dot_api_Dot_dot_Compare.sg fun x => slices_BinarySearchFunc_api_Dot_api_Dot_api_Dot_dot_Compare.f k x.1 x.2
set_option maxRecDepth 100000 in
theorem slices_BinarySearchFunc_api_Dot_api_Dot_api_Dot_dot_Compare.ok (k : Nat) : CallOK Tryz.prog 122 (slices_BinarySearchFunc_api_Dot_api_Dot_api_Dot_dot_Compare.e k) :=
  fn_ok (c := slices_BinarySearchFunc_api_Dot_api_Dot_api_Dot_dot_Compare.cx k) (code := slices_BinarySearchFunc_api_Dot_api_Dot_api_Dot_dot_Compare.body) (TT.of tt_ok pp_ok) (fns_ok ⟨(dot_Compare.ok k), trivial⟩) mixed Tryz.func122 (by kernel_rfl) (by kernel_rfl) (by kernel_rfl) (by kernel_rfl) (by kernel_rfl) (by kernel_rfl) (fun x => by kernel_rfl)
noncomputable def dots_Has.body : Go.Code := Tryz.f81.body.getD .skip
noncomputable def dots_Has.rs : List Go.ResultVar := Tryz.f81.results.toList
def dots_Has.regs : List (Nat × RInfo) := [(0, ⟨[2, 3], [2, 3], [0], [], 0, [], [], [], []⟩),
  (1, ⟨[2, 3, 10], [2, 3, 10], [], [], 0, [], [], [], []⟩),
  (2, ⟨[4], [15], [], [], 0, [], [], [], []⟩),
  (3, ⟨[6], [15], [], [], 0, [], [], [], []⟩),
  (4, ⟨[4], [15], [], [], 0, [], [], [], []⟩)]
noncomputable def dots_Has.cx (k : Nat) : Cx := ⟨tt, pp, [(69, (vec_Has.e k)),
  (122, (slices_BinarySearchFunc_api_Dot_api_Dot_api_Dot_dot_Compare.e k)),
  (123, (dot_Compare.e k))], dots_Has.regs, k⟩
@[reducible] def dots_Has.sg : Sg := ⟨[.dat tDots, .dat tDot], [], .dat .bool, []⟩
noncomputable def dots_Has.f (k : Nat) (a0 : Ty.D tDots) (a1 : Ty.D tDot) : Option (Sg.Out dots_Has.sg) := Sg.fn dots_Has.sg (dots_Has.cx k) dots_Has.body dots_Has.rs (a0, a1)
set_option maxRecDepth 100000 in
theorem dots_Has.f_eq (k : Nat) (a0 : Ty.D tDots) (a1 : Ty.D tDot) : dots_Has.f k a0 a1 =
  bnd (vec_Has.f k a0.1 a1) fun r0 =>
  br r0
    (some true)
    (bnd (slices_BinarySearchFunc_api_Dot_api_Dot_api_Dot_dot_Compare.f k a0.2 a1) fun r1 =>
    some r1.2) := by kernel_rfl
noncomputable def dots_Has.e (k : Nat) : Entry := Sg.entry dots_Has.sg fun x => dots_Has.f k x.1 x.2
set_option maxRecDepth 100000 in
theorem dots_Has.ok (k : Nat) : CallOK Tryz.prog 81 (dots_Has.e k) :=
  fn_ok (c := dots_Has.cx k) (code := dots_Has.body) (TT.of tt_ok pp_ok) (fns_ok ⟨(vec_Has.ok k), (slices_BinarySearchFunc_api_Dot_api_Dot_api_Dot_dot_Compare.ok k), (dot_Compare.ok k), trivial⟩) mixed Tryz.func81 (by kernel_rfl) (by kernel_rfl) (by kernel_rfl) (by kernel_rfl) (by kernel_rfl) (by kernel_rfl) (fun x => by kernel_rfl)
noncomputable def tally_compare.body : Go.Code := Tryz.f153.body.getD .skip
noncomputable def tally_compare.rs : List Go.ResultVar := Tryz.f153.results.toList
def tally_compare.regs : List (Nat × RInfo) := [(0, ⟨[2, 3], [2, 3], [], [], 0, [], [], [], []⟩),
  (1, ⟨[4], [9], [], [], 0, [], [], [], []⟩)]
noncomputable def tally_compare.cx (k : Nat) : Cx := ⟨tt, pp, [(123, (dot_Compare.e k))], tally_compare.regs, k⟩
@[reducible] def tally_compare.sg : Sg := ⟨[.dat tUndo, .dat tUndo], [], .dat (.int .i64), []⟩
noncomputable def tally_compare.f (k : Nat) (a0 : Ty.D tUndo) (a1 : Ty.D tUndo) : Option (Sg.Out tally_compare.sg) := Sg.fn tally_compare.sg (tally_compare.cx k) tally_compare.body tally_compare.rs (a0, a1)
set_option maxRecDepth 100000 in
theorem tally_compare.f_eq (k : Nat) (a0 : Ty.D tUndo) (a1 : Ty.D tUndo) : tally_compare.f k a0 a1 =
  bnd (dot_Compare.f k a0.1 a1.1) fun r0 =>
  some r0 := by kernel_rfl
noncomputable def tally_compare.e (k : Nat) : Entry := Sg.entry tally_compare.sg fun x => tally_compare.f k x.1 x.2
set_option maxRecDepth 100000 in
theorem tally_compare.ok (k : Nat) : CallOK Tryz.prog 153 (tally_compare.e k) :=
  fn_ok (c := tally_compare.cx k) (code := tally_compare.body) (TT.of tt_ok pp_ok) (fns_ok ⟨(dot_Compare.ok k), trivial⟩) mixed Tryz.func153 (by kernel_rfl) (by kernel_rfl) (by kernel_rfl) (by kernel_rfl) (by kernel_rfl) (by kernel_rfl) (fun x => by kernel_rfl)
noncomputable def slices_BinarySearchFunc_api_Undo_api_Undo_api_Undo_tally_compare.body : Go.Code := Tryz.f160.body.getD .skip
noncomputable def slices_BinarySearchFunc_api_Undo_api_Undo_api_Undo_tally_compare.rs : List Go.ResultVar := Tryz.f160.results.toList
def slices_BinarySearchFunc_api_Undo_api_Undo_api_Undo_tally_compare.regs : List (Nat × RInfo) := [(0, ⟨[0, 2, 4], [4], [], [], 0, [], [], [], []⟩),
  (1, ⟨[0, 2, 4, 8], [4], [], [], 0, [], [], [], []⟩),
  (2, ⟨[0, 2, 4, 8, 9, 10], [4], [], [], 0, [], [], [], []⟩),
  (3, ⟨[0, 2, 4, 8, 9, 10, 17], [4], [], [], 0, [0, 2, 4, 8, 9, 10], [4], [], []⟩),
  (4, ⟨[0, 2, 4, 8, 9, 10, 11], [4], [], [], 0, [], [], [], []⟩),
  (5, ⟨[0, 2, 4, 8, 9, 10, 11, 31], [4], [], [], 8, [], [], [], [[], [], [], [], [], [], [4, 5], [6, 4, 5]]⟩),
  (6, ⟨[0, 2, 4, 8, 9, 10], [4], [], [], 0, [], [], [], []⟩),
  (7, ⟨[0, 2, 4, 8, 9, 10], [4], [], [], 0, [], [], [], []⟩),
  (8, ⟨[6, 7], [], [], [], 15, [], [], [], [[], [], [], [], [], [], [], [], [], [], [], [9, 10], [11, 9, 10], [11, 9, 10], [11, 9, 10], [11, 9, 10]]⟩)]
noncomputable def slices_BinarySearchFunc_api_Undo_api_Undo_api_Undo_tally_compare.cx (k : Nat) : Cx := ⟨tt, pp, [(153, (tally_compare.e k))], slices_BinarySearchFunc_api_Undo_api_Undo_api_Undo_tally_compare.regs, k⟩
@[reducible] def slices_BinarySearchFunc_api_Undo_api_Undo_api_Undo_tally_compare.sg : Sg := ⟨[.dat (.slc tUndo), .dat tUndo, .fn 153 0], [], .t2 (.dat (.int .i64)) (.dat .bool), []⟩
noncomputable def slices_BinarySearchFunc_api_Undo_api_Undo_api_Undo_tally_compare.f (k : Nat) (a0 : Ty.D (.slc tUndo)) (a1 : Ty.D tUndo) : Option (Sg.Out slices_BinarySearchFunc_api_Undo_api_Undo_api_Undo_tally_compare.sg) := Sg.fn slices_BinarySearchFunc_api_Undo_api_Undo_api_Undo_tally_compare.sg (slices_BinarySearchFunc_api_Undo_api_Undo_api_Undo_tally_compare.cx k) slices_BinarySearchFunc_api_Undo_api_Undo_api_Undo_tally_compare.body slices_BinarySearchFunc_api_Undo_api_Undo_api_Undo_tally_compare.rs (a0, a1)
noncomputable def slices_BinarySearchFunc_api_Undo_api_Undo_api_Undo_tally_compare.l3 (k : Nat) (n : Nat) (x0 : Ty.D (.slc tUndo)) (x8 : Ty.D (.int .i64)) (x9 : Ty.D (.int .i64)) (x10 : Ty.D (.int .i64)) (m4 : Ty.D tUndo) : Option (Sg.Out slices_BinarySearchFunc_api_Undo_api_Undo_api_Undo_tally_compare.sg) := loopAt (slices_BinarySearchFunc_api_Undo_api_Undo_api_Undo_tally_compare.cx k) slices_BinarySearchFunc_api_Undo_api_Undo_api_Undo_tally_compare.body [1, 1, 1, 0, 0] 3 [0, 2, 4, 8, 9, 10] [4] [] (Sg.K slices_BinarySearchFunc_api_Undo_api_Undo_api_Undo_tally_compare.sg (slices_BinarySearchFunc_api_Undo_api_Undo_api_Undo_tally_compare.cx k) slices_BinarySearchFunc_api_Undo_api_Undo_api_Undo_tally_compare.rs) n ⟨[(0, .dat (.slc tUndo) x0), (2, .fn 153 []), (4, .ref 4 []), (8, .dat (.int .i64) x8), (9, .dat (.int .i64) x9), (10, .dat (.int .i64) x10)], [(4, .dat tUndo m4)]⟩
set_option maxRecDepth 100000 in
theorem slices_BinarySearchFunc_api_Undo_api_Undo_api_Undo_tally_compare.f_eq (k : Nat) (a0 : Ty.D (.slc tUndo)) (a1 : Ty.D tUndo) : slices_BinarySearchFunc_api_Undo_api_Undo_api_Undo_tally_compare.f k a0 a1 =
  slices_BinarySearchFunc_api_Undo_api_Undo_api_Undo_tally_compare.l3 k k a0 (ilen a0) 0 (ilen a0) a1 := by kernel_rfl
set_option maxRecDepth 100000 in
theorem slices_BinarySearchFunc_api_Undo_api_Undo_api_Undo_tally_compare.l3_eq (k : Nat) (n3 : Nat) (x0 : Ty.D (.slc tUndo)) (x8 : Ty.D (.int .i64)) (x9 : Ty.D (.int .i64)) (x10 : Ty.D (.int .i64)) (m4 : Ty.D tUndo) : slices_BinarySearchFunc_api_Undo_api_Undo_api_Undo_tally_compare.l3 k (n3 + 1) x0 x8 x9 x10 m4 =
  br (ilt x9 x10)
    (br (inL (iwrap .i64 (ishr .u64 (iwrap .u64 (iadd .i64 x9 x10)) 1)) x0)
      (bnd (tally_compare.f k (rd tUndo x0 (natOf (iwrap .i64 (ishr .u64 (iwrap .u64 (iadd .i64 x9 x10)) 1)))) m4) fun r0 =>
      br (ilt r0 0)
        (slices_BinarySearchFunc_api_Undo_api_Undo_api_Undo_tally_compare.l3 k n3 x0 x8 (iadd .i64 (iwrap .i64 (ishr .u64 (iwrap .u64 (iadd .i64 x9 x10)) 1)) 1) x10 m4)
        (slices_BinarySearchFunc_api_Undo_api_Undo_api_Undo_tally_compare.l3 k n3 x0 x8 x9 (iwrap .i64 (ishr .u64 (iwrap .u64 (iadd .i64 x9 x10)) 1)) m4))
      (none))
    (br (ilt x9 x8)
      (br (inL x9 x0)
        (bnd (tally_compare.f k (rd tUndo x0 (natOf x9)) m4) fun r1 =>
        some (x9, (ieq r1 0)))
        (none))
      (some (x9, false))) := by kernel_rfl
noncomputable def slices_BinarySearchFunc_api_Undo_api_Undo_api_Undo_tally_compare.e (k : Nat) : Entry := Sg.entry slices_BinarySearchFunc_api_Undo_api_Undo_api_Undo_tally_compare.sg fun x => slices_BinarySearchFunc_api_Undo_api_Undo_api_Undo_tally_compare.f k x.1 x.2
set_option maxRecDepth 100000 in
theorem slices_BinarySearchFunc_api_Undo_api_Undo_api_Undo_tally_compare.ok (k : Nat) : CallOK Tryz.prog 160 (slices_BinarySearchFunc_api_Undo_api_Undo_api_Undo_tally_compare.e k) :=
  fn_ok (c := slices_BinarySearchFunc_api_Undo_api_Undo_api_Undo_tally_compare.cx k) (code := slices_BinarySearchFunc_api_Undo_api_Undo_api_Undo_tally_compare.body) (TT.of tt_ok pp_ok) (fns_ok ⟨(tally_compare.ok k), trivial⟩) mixed Tryz.func160 (by kernel_rfl) (by kernel_rfl) (by kernel_rfl) (by kernel_rfl) (by kernel_rfl) (by kernel_rfl) (fun x => by kernel_rfl)
noncomputable def tally_at.body : Go.Code := Tryz.f126.body.getD .skip
noncomputable def tally_at.rs : List Go.ResultVar := Tryz.f126.results.toList
def tally_at.regs : List (Nat × RInfo) := [(0, ⟨[0, 3], [3], [], [], 0, [], [], [], []⟩),
  (1, ⟨[4, 5], [9], [], [], 0, [], [], [], []⟩)]
noncomputable def tally_at.cx (k : Nat) : Cx := ⟨tt, pp, [(160, (slices_BinarySearchFunc_api_Undo_api_Undo_api_Undo_tally_compare.e k)),
  (153, (tally_compare.e k))], tally_at.regs, k⟩
@[reducible] def tally_at.sg : Sg := ⟨[.dat (.slc tUndo), .dat tDot], [], .t2 (.dat (.int .i64)) (.dat .bool), []⟩
noncomputable def tally_at.f (k : Nat) (a0 : Ty.D (.slc tUndo)) (a1 : Ty.D tDot) : Option (Sg.Out tally_at.sg) := Sg.fn tally_at.sg (tally_at.cx k) tally_at.body tally_at.rs (a0, a1)
set_option maxRecDepth 100000 in
theorem tally_at.f_eq (k : Nat) (a0 : Ty.D (.slc tUndo)) (a1 : Ty.D tDot) : tally_at.f k a0 a1 =
  bnd (slices_BinarySearchFunc_api_Undo_api_Undo_api_Undo_tally_compare.f k a0 (a1, 0)) fun r0 =>
  some (r0.1, r0.2) := by kernel_rfl
noncomputable def tally_at.e (k : Nat) : Entry := Sg.entry tally_at.sg fun x => tally_at.f k x.1 x.2
set_option maxRecDepth 100000 in
theorem tally_at.ok (k : Nat) : CallOK Tryz.prog 126 (tally_at.e k) :=
  fn_ok (c := tally_at.cx k) (code := tally_at.body) (TT.of tt_ok pp_ok) (fns_ok ⟨(slices_BinarySearchFunc_api_Undo_api_Undo_api_Undo_tally_compare.ok k), (tally_compare.ok k), trivial⟩) mixed Tryz.func126 (by kernel_rfl) (by kernel_rfl) (by kernel_rfl) (by kernel_rfl) (by kernel_rfl) (by kernel_rfl) (fun x => by kernel_rfl)
noncomputable def tally_Get.body : Go.Code := Tryz.f86.body.getD .skip
noncomputable def tally_Get.rs : List Go.ResultVar := Tryz.f86.results.toList
def tally_Get.regs : List (Nat × RInfo) := [(0, ⟨[0, 3], [3], [], [], 0, [], [], [], []⟩),
  (1, ⟨[0, 5, 6], [10], [], [], 0, [], [], [], []⟩),
  (2, ⟨[0, 5, 13], [10], [], [], 0, [], [], [], []⟩),
  (3, ⟨[4], [], [], [], 0, [], [], [], []⟩),
  (4, ⟨[4], [], [], [], 0, [], [], [], []⟩)]
noncomputable def tally_Get.cx (k : Nat) : Cx := ⟨tt, pp, [(126, (tally_at.e k))], tally_Get.regs, k⟩
@[reducible] def tally_Get.sg : Sg := ⟨[.dat (.slc tUndo), .dat tDot], [], .dat (.int .i64), []⟩
noncomputable def tally_Get.f (k : Nat) (a0 : Ty.D (.slc tUndo)) (a1 : Ty.D tDot) : Option (Sg.Out tally_Get.sg) := Sg.fn tally_Get.sg (tally_Get.cx k) tally_Get.body tally_Get.rs (a0, a1)
set_option maxRecDepth 100000 in
theorem tally_Get.f_eq (k : Nat) (a0 : Ty.D (.slc tUndo)) (a1 : Ty.D tDot) : tally_Get.f k a0 a1 =
  bnd (tally_at.f k a0 a1) fun r0 =>
  br r0.2
    (br (inL r0.1 a0)
      (some ((rd tUndo a0 (natOf r0.1)).2))
      (none))
    (some 0) := by kernel_rfl
noncomputable def tally_Get.e (k : Nat) : Entry := Sg.entry tally_Get.sg fun x => tally_Get.f k x.1 x.2
set_option maxRecDepth 100000 in
theorem tally_Get.ok (k : Nat) : CallOK Tryz.prog 86 (tally_Get.e k) :=
  fn_ok (c := tally_Get.cx k) (code := tally_Get.body) (TT.of tt_ok pp_ok) (fns_ok ⟨(tally_at.ok k), trivial⟩) mixed Tryz.func86 (by kernel_rfl) (by kernel_rfl) (by kernel_rfl) (by kernel_rfl) (by kernel_rfl) (by kernel_rfl) (fun x => by kernel_rfl)
noncomputable def tally_Over.body : Go.Code := Tryz.f118.body.getD .skip
noncomputable def tally_Over.rs : List Go.ResultVar := Tryz.f118.results.toList
def tally_Over.regs : List (Nat × RInfo) := [(0, ⟨[0, 1], [], [], [], 0, [], [], [], []⟩),
  (1, ⟨[0, 1, 5], [], [], [], 0, [], [], [], []⟩),
  (2, ⟨[1, 5, 8, 9, 10], [], [], [], 0, [], [], [], []⟩),
  (3, ⟨[1, 5, 8, 9, 10, 11], [], [], [], 0, [1, 5, 8, 9, 10], [], [], []⟩),
  (4, ⟨[1, 5, 7, 8, 9, 10], [7], [], [], 0, [], [], [], []⟩),
  (5, ⟨[1, 5, 7, 8, 9, 10, 20], [7], [], [], 7, [], [], [], []⟩),
  (6, ⟨[1, 5, 8, 9, 10], [], [0, 3, 4], [], 0, [], [], [], []⟩),
  (7, ⟨[1, 5, 8, 9, 10], [], [], [], 0, [], [], [], []⟩),
  (8, ⟨[4], [], [0, 1], [], 0, [], [], [], []⟩)]
noncomputable def tally_Over.cx (k : Nat) : Cx := ⟨tt, pp, [(86, (tally_Get.e k))], tally_Over.regs, k⟩
@[reducible] def tally_Over.sg : Sg := ⟨[.dat (.slc tUndo), .dat (.slc tUndo)], [], .own tUndo, []⟩
noncomputable def tally_Over.f (k : Nat) (a0 : Ty.D (.slc tUndo)) (a1 : Ty.D (.slc tUndo)) : Option (Sg.Out tally_Over.sg) := Sg.fn tally_Over.sg (tally_Over.cx k) tally_Over.body tally_Over.rs (a0, a1)
noncomputable def tally_Over.l3 (k : Nat) (n : Nat) (x1 : Ty.D (.slc tUndo)) (x5 : List (Ty.D tUndo)) (x8 : Ty.D (.slc tUndo)) (x9 : Ty.D (.int .i64)) (x10 : Ty.D (.int .i64)) : Option (Sg.Out tally_Over.sg) := loopAt (tally_Over.cx k) tally_Over.body [1, 1, 0, 1, 0] 3 [1, 5, 8, 9, 10] [] [] (Sg.K tally_Over.sg (tally_Over.cx k) tally_Over.rs) n ⟨[(1, .dat (.slc tUndo) x1), (5, .own tUndo x5), (8, .dat (.slc tUndo) x8), (9, .dat (.int .i64) x9), (10, .dat (.int .i64) x10)], []⟩
set_option maxRecDepth 100000 in
theorem tally_Over.f_eq (k : Nat) (a0 : Ty.D (.slc tUndo)) (a1 : Ty.D (.slc tUndo)) : tally_Over.f k a0 a1 =
  tally_Over.l3 k k a1 [] a0 (ilen a0) 0 := by kernel_rfl
set_option maxRecDepth 100000 in
theorem tally_Over.l3_eq (k : Nat) (n3 : Nat) (x1 : Ty.D (.slc tUndo)) (x5 : List (Ty.D tUndo)) (x8 : Ty.D (.slc tUndo)) (x9 : Ty.D (.int .i64)) (x10 : Ty.D (.int .i64)) : tally_Over.l3 k (n3 + 1) x1 x5 x8 x9 x10 =
  br (ilt x10 x9)
    (br (inL x10 x8)
      (bnd (tally_Get.f k x1 ((rd tUndo x8 (natOf x10)).1)) fun r0 =>
      br (ilt r0 ((rd tUndo x8 (natOf x10)).2))
        (br (room x5 ((rd tUndo x8 (natOf x10)) :: []))
          (tally_Over.l3 k n3 x1 (app x5 ((rd tUndo x8 (natOf x10)) :: [])) x8 x9 (iadd .i64 x10 1))
          (none))
        (tally_Over.l3 k n3 x1 x5 x8 x9 (iadd .i64 x10 1)))
      (none))
    (some x5) := by kernel_rfl
noncomputable def tally_Over.e (k : Nat) : Entry := Sg.entry tally_Over.sg fun x => tally_Over.f k x.1 x.2
set_option maxRecDepth 100000 in
theorem tally_Over.ok (k : Nat) : CallOK Tryz.prog 118 (tally_Over.e k) :=
  fn_ok (c := tally_Over.cx k) (code := tally_Over.body) (TT.of tt_ok pp_ok) (fns_ok ⟨(tally_Get.ok k), trivial⟩) mixed Tryz.func118 (by kernel_rfl) (by kernel_rfl) (by kernel_rfl) (by kernel_rfl) (by kernel_rfl) (by kernel_rfl) (fun x => by kernel_rfl)
noncomputable def delta_Diff.body : Go.Code := Tryz.f74.body.getD .skip
noncomputable def delta_Diff.rs : List Go.ResultVar := Tryz.f74.results.toList
def delta_Diff.regs : List (Nat × RInfo) := [(0, ⟨[2, 3, 4], [2, 3, 4], [0, 1], [], 0, [], [], [], []⟩),
  (1, ⟨[2, 3, 4, 5], [2, 3, 4, 5], [], [], 0, [], [], [], []⟩),
  (2, ⟨[2, 3, 4, 5, 9, 10, 11], [2, 3, 4, 5], [], [], 0, [], [], [], []⟩),
  (3, ⟨[2, 3, 4, 5, 9, 10, 11, 12], [2, 3, 4, 5], [], [], 0, [2, 3, 4, 5, 9, 10, 11], [2, 3, 4, 5], [], []⟩),
  (4, ⟨[2, 3, 4, 5, 7, 9, 10, 11], [2, 3, 4, 5, 7], [3], [], 0, [], [], [], []⟩),
  (5, ⟨[2, 3, 4, 5, 7, 9, 10, 11, 20], [2, 3, 4, 5, 7], [], [], 0, [], [], [], []⟩),
  (6, ⟨[2, 3, 4, 5, 7, 9, 10, 11], [2, 3, 4, 5, 7], [1, 4, 6], [], 0, [], [], [], []⟩),
  (7, ⟨[2, 3, 4, 5, 7, 9, 10, 11, 39], [2, 3, 4, 5, 7, 31], [], [], 0, [], [], [], []⟩),
  (8, ⟨[2, 3, 4, 5, 9, 10, 11], [2, 3, 4, 5], [1, 5, 7], [], 0, [], [], [], []⟩),
  (9, ⟨[2, 3, 4, 5, 9, 10, 11], [2, 3, 4, 5], [], [], 0, [], [], [], []⟩),
  (10, ⟨[4, 5], [4, 5], [6], [], 0, [], [], [], []⟩),
  (11, ⟨[4], [4], [1], [], 0, [], [], [], []⟩)]
noncomputable def delta_Diff.cx (k : Nat) : Cx := ⟨tt, pp, [(81, (dots_Has.e k)),
  (118, (tally_Over.e k))], delta_Diff.regs, k⟩
@[reducible] def delta_Diff.sg : Sg := ⟨[.dat tState, .dat tKnow], [], .dat tDelta, []⟩
noncomputable def delta_Diff.f (k : Nat) (a0 : Ty.D tState) (a1 : Ty.D tKnow) : Option (Sg.Out delta_Diff.sg) := Sg.fn delta_Diff.sg (delta_Diff.cx k) delta_Diff.body delta_Diff.rs (a0, a1)
noncomputable def delta_Diff.l3 (k : Nat) (n : Nat) (x9 : Ty.D (.slc tTxn)) (x10 : Ty.D (.int .i64)) (x11 : Ty.D (.int .i64)) (m2 : Ty.D tState) (m3 : Ty.D tKnow) (m4a : List (Ty.D tTxn)) (m4ba : List (Ty.D tUndo)) (m4bb : List (Ty.D tDot)) (m5a : List (Ty.D tTxn)) (m5ba : List (Ty.D tUndo)) (m5bb : List (Ty.D tDot)) : Option (Sg.Out delta_Diff.sg) := loopAt (delta_Diff.cx k) delta_Diff.body [1, 1, 0, 1, 0] 3 [2, 3, 4, 5, 9, 10, 11] [2, 3, 4, 5] [] (Sg.K delta_Diff.sg (delta_Diff.cx k) delta_Diff.rs) n ⟨[(2, .ref 2 []), (3, .ref 3 []), (4, .ref 4 []), (5, .ref 5 []), (9, .dat (.slc tTxn) x9), (10, .dat (.int .i64) x10), (11, .dat (.int .i64) x11)], [(2, .dat tState m2), (3, .dat tKnow m3), (4, .pr (.own tTxn m4a) (.pr (.own tUndo m4ba) (.own tDot m4bb))), (5, .pr (.own tTxn m5a) (.pr (.own tUndo m5ba) (.own tDot m5bb)))]⟩
set_option maxRecDepth 100000 in
theorem delta_Diff.f_eq (k : Nat) (a0 : Ty.D tState) (a1 : Ty.D tKnow) : delta_Diff.f k a0 a1 =
  delta_Diff.l3 k k a0.1 (ilen a0.1) 0 a0 a1 [] [] [] [] [] [] := by kernel_rfl
set_option maxRecDepth 100000 in
theorem delta_Diff.l3_eq (k : Nat) (n3 : Nat) (x9 : Ty.D (.slc tTxn)) (x10 : Ty.D (.int .i64)) (x11 : Ty.D (.int .i64)) (m2 : Ty.D tState) (m3 : Ty.D tKnow) (m4a : List (Ty.D tTxn)) (m4ba : List (Ty.D tUndo)) (m4bb : List (Ty.D tDot)) (m5a : List (Ty.D tTxn)) (m5ba : List (Ty.D tUndo)) (m5bb : List (Ty.D tDot)) : delta_Diff.l3 k (n3 + 1) x9 x10 x11 m2 m3 m4a m4ba m4bb m5a m5ba m5bb =
  br (ilt x11 x10)
    (br (inL x11 x9)
      (bnd (dots_Has.f k m3.1 ((rd tTxn x9 (natOf x11)).1)) fun r0 =>
      br (bnot r0)
        (br (room m5a ((rd tTxn x9 (natOf x11)) :: []))
          (bnd (dots_Has.f k m2.2.2.2.1 ((rd tTxn x9 (natOf x11)).1)) fun r1 =>
          br r1
            (bnd (dots_Has.f k m3.2.2 ((rd tTxn x9 (natOf x11)).1)) fun r2 =>
            br (bnot r2)
              (br (room m5bb ((rd tTxn x9 (natOf x11)).1 :: []))
                (delta_Diff.l3 k n3 x9 x10 (iadd .i64 x11 1) m2 m3 m4a m4ba m4bb (app m5a ((rd tTxn x9 (natOf x11)) :: [])) m5ba (app m5bb ((rd tTxn x9 (natOf x11)).1 :: [])))
                (none))
              (delta_Diff.l3 k n3 x9 x10 (iadd .i64 x11 1) m2 m3 m4a m4ba m4bb (app m5a ((rd tTxn x9 (natOf x11)) :: [])) m5ba m5bb))
            (delta_Diff.l3 k n3 x9 x10 (iadd .i64 x11 1) m2 m3 m4a m4ba m4bb (app m5a ((rd tTxn x9 (natOf x11)) :: [])) m5ba m5bb))
          (none))
        (bnd (dots_Has.f k m2.2.2.2.1 ((rd tTxn x9 (natOf x11)).1)) fun r3 =>
        br r3
          (bnd (dots_Has.f k m3.2.2 ((rd tTxn x9 (natOf x11)).1)) fun r4 =>
          br (bnot r4)
            (br (room m5bb ((rd tTxn x9 (natOf x11)).1 :: []))
              (delta_Diff.l3 k n3 x9 x10 (iadd .i64 x11 1) m2 m3 m4a m4ba m4bb m5a m5ba (app m5bb ((rd tTxn x9 (natOf x11)).1 :: [])))
              (none))
            (delta_Diff.l3 k n3 x9 x10 (iadd .i64 x11 1) m2 m3 m4a m4ba m4bb m5a m5ba m5bb))
          (delta_Diff.l3 k n3 x9 x10 (iadd .i64 x11 1) m2 m3 m4a m4ba m4bb m5a m5ba m5bb)))
      (none))
    (bnd (tally_Over.f k m2.2.1 m3.2.1) fun r5 =>
    some (m5a, (r5, m5bb))) := by kernel_rfl
noncomputable def delta_Diff.e (k : Nat) : Entry := Sg.entry delta_Diff.sg fun x => delta_Diff.f k x.1 x.2
set_option maxRecDepth 100000 in
theorem delta_Diff.ok (k : Nat) : CallOK Tryz.prog 74 (delta_Diff.e k) :=
  fn_ok (c := delta_Diff.cx k) (code := delta_Diff.body) (TT.of tt_ok pp_ok) (fns_ok ⟨(dots_Has.ok k), (tally_Over.ok k), trivial⟩) mixed Tryz.func74 (by kernel_rfl) (by kernel_rfl) (by kernel_rfl) (by kernel_rfl) (by kernel_rfl) (by kernel_rfl) (fun x => by kernel_rfl)
noncomputable def peer_Peers_Offer.body : Go.Code := Tryz.f29.body.getD .skip
noncomputable def peer_Peers_Offer.rs : List Go.ResultVar := Tryz.f29.results.toList
def peer_Peers_Offer.regs : List (Nat × RInfo) := [(0, ⟨[0, 2, 4, 6], [4, 6, 1000000], [0], [], 0, [], [], [], []⟩),
  (1, ⟨[0, 2, 4, 6, 8], [4, 6, 1000000], [], [], 0, [], [], [], []⟩),
  (2, ⟨[6, 7], [6, 1000000], [1], [], 0, [], [], [], []⟩),
  (3, ⟨[0, 2, 4, 6, 12], [4, 6, 1000000], [], [], 0, [], [], [], []⟩),
  (4, ⟨[6, 7], [6, 1000000], [1], [], 0, [], [], [], []⟩),
  (5, ⟨[6, 7], [6, 1000000], [14], [], 14, [], [], [], [[], [], [], [], [], [], [], [], [], [], [], [], [5, 11], [3, 5, 11], [3, 5, 11], [14, 3, 5, 11]]⟩)]
noncomputable def peer_Peers_Offer.cx (k : Nat) : Cx := ⟨tt, pp, [(61, (peer_Peers_other.e k)),
  (74, (delta_Diff.e k))], peer_Peers_Offer.regs, k⟩
@[reducible] def peer_Peers_Offer.sg : Sg := ⟨[.ref, .dat tState, .dat (.int .i64)], [tPeers], .t2 (.dat tMessage) (.dat (.int .i64)), [tPeers]⟩
noncomputable def peer_Peers_Offer.f (k : Nat) (a1 : Ty.D tState) (a2 : Ty.D (.int .i64)) (o0 : Ty.D tPeers) : Option (Sg.Out peer_Peers_Offer.sg) := Sg.fn peer_Peers_Offer.sg (peer_Peers_Offer.cx k) peer_Peers_Offer.body peer_Peers_Offer.rs (a1, a2, o0)
set_option maxRecDepth 100000 in
theorem peer_Peers_Offer.f_eq (k : Nat) (a1 : Ty.D tState) (a2 : Ty.D (.int .i64)) (o0 : Ty.D tPeers) : peer_Peers_Offer.f k a1 a2 o0 =
  bnd (peer_Peers_other.f k a2 o0) fun r0 =>
  br (bnot r0.1)
    (some (((0, (0, (0, (([], ([], [])), (((zarr 16 0), []), ([], ((zarr 16 0), []))))))), 2), r0.2))
    (br (inB a2 16)
      (bnd (delta_Diff.f k a1 (rd tKnow r0.2.2.2 (natOf a2))) fun r1 =>
      some (((1, (r0.2.1, (a2, (r1, (((zarr 16 0), []), ([], ((zarr 16 0), []))))))), 0), r0.2))
      (none)) := by kernel_rfl
noncomputable def peer_Peers_Offer.e (k : Nat) : Entry := Sg.entry peer_Peers_Offer.sg fun x => peer_Peers_Offer.f k x.1 x.2.1 x.2.2
set_option maxRecDepth 100000 in
theorem peer_Peers_Offer.ok (k : Nat) : CallOK Tryz.prog 29 (peer_Peers_Offer.e k) :=
  fn_ok (c := peer_Peers_Offer.cx k) (code := peer_Peers_Offer.body) (TT.of tt_ok pp_ok) (fns_ok ⟨(peer_Peers_other.ok k), (delta_Diff.ok k), trivial⟩) mixed Tryz.func29 (by kernel_rfl) (by kernel_rfl) (by kernel_rfl) (by kernel_rfl) (by kernel_rfl) (by kernel_rfl) (fun x => by kernel_rfl)
noncomputable def delta_Of.body : Go.Code := Tryz.f31.body.getD .skip
noncomputable def delta_Of.rs : List Go.ResultVar := Tryz.f31.results.toList
def delta_Of.regs : List (Nat × RInfo) := [(0, ⟨[1, 2], [1, 2], [0], [], 0, [], [], [], []⟩),
  (1, ⟨[2], [2], [8], [], 8, [], [], [], [[], [], [], [], [3], [], [], [1, 3, 6], [1, 3, 6]]⟩)]
noncomputable def delta_Of.cx (k : Nat) : Cx := ⟨tt, pp, [(77, (cloneO tUndo))], delta_Of.regs, k⟩
@[reducible] def delta_Of.sg : Sg := ⟨[.dat tState], [], .dat tKnow, []⟩
noncomputable def delta_Of.f (k : Nat) (a0 : Ty.D tState) : Option (Sg.Out delta_Of.sg) := Sg.fn delta_Of.sg (delta_Of.cx k) delta_Of.body delta_Of.rs a0
set_option maxRecDepth 100000 in
theorem delta_Of.f_eq (k : Nat) (a0 : Ty.D tState) : delta_Of.f k a0 =
  br (room ([] : List Int) a0.2.1)
    (some (a0.2.2.1, (a0.2.1, a0.2.2.2.1)))
    (none) := by kernel_rfl
noncomputable def delta_Of.e (k : Nat) : Entry := Sg.entry delta_Of.sg fun x => delta_Of.f k x
set_option maxRecDepth 100000 in
theorem delta_Of.ok (k : Nat) : CallOK Tryz.prog 31 (delta_Of.e k) :=
  fn_ok (c := delta_Of.cx k) (code := delta_Of.body) (TT.of tt_ok pp_ok) (fns_ok ⟨cloneOUndo_ok, trivial⟩) mixed Tryz.func31 (by kernel_rfl) (by kernel_rfl) (by kernel_rfl) (by kernel_rfl) (by kernel_rfl) (by kernel_rfl) (fun x => by kernel_rfl)
noncomputable def vec_Right.body : Go.Code := Tryz.f152.body.getD .skip
noncomputable def vec_Right.rs : List Go.ResultVar := Tryz.f152.results.toList
def vec_Right.regs : List (Nat × RInfo) := [(0, ⟨[1], [1], [], [], 0, [], [], [], []⟩),
  (1, ⟨[5, 6], [], [], [], 0, [], [], [], []⟩),
  (2, ⟨[5, 6, 7], [], [], [], 0, [5, 6], [], [], []⟩),
  (3, ⟨[4, 5, 6], [], [], [], 0, [], [], [], []⟩),
  (4, ⟨[5, 6, 14], [], [], [], 0, [], [], [], []⟩),
  (5, ⟨[2], [], [], [], 0, [], [], [], []⟩),
  (6, ⟨[5, 6], [], [], [], 0, [], [], [], []⟩),
  (7, ⟨[2], [], [], [], 0, [], [], [], []⟩)]
noncomputable def vec_Right.cx (k : Nat) : Cx := ⟨tt, pp, [], vec_Right.regs, k⟩
@[reducible] def vec_Right.sg : Sg := ⟨[.dat tVec], [], .dat .bool, []⟩
noncomputable def vec_Right.f (k : Nat) (a0 : Ty.D tVec) : Option (Sg.Out vec_Right.sg) := Sg.fn vec_Right.sg (vec_Right.cx k) vec_Right.body vec_Right.rs a0
noncomputable def vec_Right.l2 (k : Nat) (n : Nat) (x5 : Ty.D tVec) (x6 : Ty.D (.int .i64)) : Option (Sg.Out vec_Right.sg) := loopAt (vec_Right.cx k) vec_Right.body [1, 0, 1, 0] 2 [5, 6] [] [] (Sg.K vec_Right.sg (vec_Right.cx k) vec_Right.rs) n ⟨[(5, .dat tVec x5), (6, .dat (.int .i64) x6)], []⟩
set_option maxRecDepth 100000 in
theorem vec_Right.f_eq (k : Nat) (a0 : Ty.D tVec) : vec_Right.f k a0 =
  vec_Right.l2 k k a0 0 := by kernel_rfl
set_option maxRecDepth 100000 in
theorem vec_Right.l2_eq (k : Nat) (n2 : Nat) (x5 : Ty.D tVec) (x6 : Ty.D (.int .i64)) : vec_Right.l2 k (n2 + 1) x5 x6 =
  br (ilt x6 16)
    (br (inB x6 16)
      (br (ilt (rd (.int .i64) x5 (natOf x6)) 0)
        (some false)
        (br (ilt 1048576 (rd (.int .i64) x5 (natOf x6)))
          (some false)
          (vec_Right.l2 k n2 x5 (iadd .i64 x6 1))))
      (none))
    (some true) := by kernel_rfl
noncomputable def vec_Right.e (k : Nat) : Entry := Sg.entry vec_Right.sg fun x => vec_Right.f k x
set_option maxRecDepth 100000 in
theorem vec_Right.ok (k : Nat) : CallOK Tryz.prog 152 (vec_Right.e k) :=
  fn_ok (c := vec_Right.cx k) (code := vec_Right.body) (TT.of tt_ok pp_ok) (fns_ok trivial) mixed Tryz.func152 (by kernel_rfl) (by kernel_rfl) (by kernel_rfl) (by kernel_rfl) (by kernel_rfl) (by kernel_rfl) (fun x => by kernel_rfl)
noncomputable def dots_Right.body : Go.Code := Tryz.f115.body.getD .skip
noncomputable def dots_Right.rs : List Go.ResultVar := Tryz.f115.results.toList
def dots_Right.regs : List (Nat × RInfo) := [(0, ⟨[1], [1], [0], [], 0, [], [], [], []⟩),
  (1, ⟨[1, 14], [1], [], [], 0, [], [], [], []⟩),
  (2, ⟨[2], [], [], [], 0, [], [], [], []⟩),
  (3, ⟨[1, 16, 17, 18], [1], [], [], 0, [], [], [], []⟩),
  (4, ⟨[1, 16, 17, 18, 19], [1], [], [], 0, [1, 16, 17, 18], [1], [], []⟩),
  (5, ⟨[1, 3, 4, 16, 17, 18], [1, 4], [], [], 0, [], [], [], []⟩),
  (6, ⟨[1, 16, 17, 18, 51], [1], [], [], 29, [], [], [], []⟩),
  (7, ⟨[2], [], [], [], 0, [], [], [], []⟩),
  (8, ⟨[1, 16, 17, 18], [1], [], [], 0, [], [], [], []⟩),
  (9, ⟨[2], [], [], [], 0, [], [], [], []⟩)]
noncomputable def dots_Right.cx (k : Nat) : Cx := ⟨tt, pp, [(152, (vec_Right.e k)),
  (113, (dot_Right.e k)),
  (123, (dot_Compare.e k))], dots_Right.regs, k⟩
@[reducible] def dots_Right.sg : Sg := ⟨[.dat tDots], [], .dat .bool, []⟩
noncomputable def dots_Right.f (k : Nat) (a0 : Ty.D tDots) : Option (Sg.Out dots_Right.sg) := Sg.fn dots_Right.sg (dots_Right.cx k) dots_Right.body dots_Right.rs a0
noncomputable def dots_Right.l4 (k : Nat) (n : Nat) (x16 : Ty.D (.slc tDot)) (x17 : Ty.D (.int .i64)) (x18 : Ty.D (.int .i64)) (m1 : Ty.D tDots) : Option (Sg.Out dots_Right.sg) := loopAt (dots_Right.cx k) dots_Right.body [1, 1, 0, 1, 0] 4 [1, 16, 17, 18] [1] [] (Sg.K dots_Right.sg (dots_Right.cx k) dots_Right.rs) n ⟨[(1, .ref 1 []), (16, .dat (.slc tDot) x16), (17, .dat (.int .i64) x17), (18, .dat (.int .i64) x18)], [(1, .dat tDots m1)]⟩
set_option maxRecDepth 100000 in
theorem dots_Right.f_eq (k : Nat) (a0 : Ty.D tDots) : dots_Right.f k a0 =
  bnd (vec_Right.f k a0.1) fun r0 =>
  br (bnot r0)
    (some false)
    (br (ilt 4096 (ilen a0.2))
      (some false)
      (dots_Right.l4 k k a0.2 (ilen a0.2) 0 a0)) := by kernel_rfl
set_option maxRecDepth 100000 in
theorem dots_Right.l4_eq (k : Nat) (n4 : Nat) (x16 : Ty.D (.slc tDot)) (x17 : Ty.D (.int .i64)) (x18 : Ty.D (.int .i64)) (m1 : Ty.D tDots) : dots_Right.l4 k (n4 + 1) x16 x17 x18 m1 =
  br (ilt x18 x17)
    (br (inL x18 x16)
      (bnd (dot_Right.f k (rd tDot x16 (natOf x18))) fun r0 =>
      br (bnot r0)
        (some false)
        (br (inB ((rd tDot x16 (natOf x18)).1) 16)
          (br (ile ((rd tDot x16 (natOf x18)).2) (iadd .i64 (rd (.int .i64) m1.1 (natOf ((rd tDot x16 (natOf x18)).1))) 1))
            (some false)
            (br (ilt 0 x18)
              (br (inL (isub .i64 x18 1) m1.2)
                (bnd (dot_Compare.f k (rd tDot m1.2 (natOf (isub .i64 x18 1))) (rd tDot x16 (natOf x18))) fun r1 =>
                br (ile 0 r1)
                  (some false)
                  (dots_Right.l4 k n4 x16 x17 (iadd .i64 x18 1) m1))
                (none))
              (dots_Right.l4 k n4 x16 x17 (iadd .i64 x18 1) m1)))
          (none)))
      (none))
    (some true) := by kernel_rfl
noncomputable def dots_Right.e (k : Nat) : Entry := Sg.entry dots_Right.sg fun x => dots_Right.f k x
set_option maxRecDepth 100000 in
theorem dots_Right.ok (k : Nat) : CallOK Tryz.prog 115 (dots_Right.e k) :=
  fn_ok (c := dots_Right.cx k) (code := dots_Right.body) (TT.of tt_ok pp_ok) (fns_ok ⟨(vec_Right.ok k), (dot_Right.ok k), (dot_Compare.ok k), trivial⟩) mixed Tryz.func115 (by kernel_rfl) (by kernel_rfl) (by kernel_rfl) (by kernel_rfl) (by kernel_rfl) (by kernel_rfl) (fun x => by kernel_rfl)
noncomputable def tally_Right.body : Go.Code := Tryz.f116.body.getD .skip
noncomputable def tally_Right.rs : List Go.ResultVar := Tryz.f116.results.toList
def tally_Right.regs : List (Nat × RInfo) := [(0, ⟨[0], [], [], [], 0, [], [], [], []⟩),
  (1, ⟨[0, 5, 6, 7], [], [], [], 0, [], [], [], []⟩),
  (2, ⟨[0, 5, 6, 7, 8], [], [], [], 0, [0, 5, 6, 7], [], [], []⟩),
  (3, ⟨[0, 3, 4, 5, 6, 7], [4], [], [], 0, [], [], [], []⟩),
  (4, ⟨[0, 5, 6, 7, 39], [], [], [], 28, [], [], [], []⟩),
  (5, ⟨[2], [], [], [], 0, [], [], [], []⟩),
  (6, ⟨[0, 5, 6, 7], [], [], [], 0, [], [], [], []⟩),
  (7, ⟨[2], [], [], [], 0, [], [], [], []⟩)]
noncomputable def tally_Right.cx (k : Nat) : Cx := ⟨tt, pp, [(113, (dot_Right.e k)),
  (153, (tally_compare.e k))], tally_Right.regs, k⟩
@[reducible] def tally_Right.sg : Sg := ⟨[.dat (.slc tUndo)], [], .dat .bool, []⟩
noncomputable def tally_Right.f (k : Nat) (a0 : Ty.D (.slc tUndo)) : Option (Sg.Out tally_Right.sg) := Sg.fn tally_Right.sg (tally_Right.cx k) tally_Right.body tally_Right.rs a0
noncomputable def tally_Right.l2 (k : Nat) (n : Nat) (x0 : Ty.D (.slc tUndo)) (x5 : Ty.D (.slc tUndo)) (x6 : Ty.D (.int .i64)) (x7 : Ty.D (.int .i64)) : Option (Sg.Out tally_Right.sg) := loopAt (tally_Right.cx k) tally_Right.body [1, 0, 1, 0] 2 [0, 5, 6, 7] [] [] (Sg.K tally_Right.sg (tally_Right.cx k) tally_Right.rs) n ⟨[(0, .dat (.slc tUndo) x0), (5, .dat (.slc tUndo) x5), (6, .dat (.int .i64) x6), (7, .dat (.int .i64) x7)], []⟩
set_option maxRecDepth 100000 in
theorem tally_Right.f_eq (k : Nat) (a0 : Ty.D (.slc tUndo)) : tally_Right.f k a0 =
  tally_Right.l2 k k a0 a0 (ilen a0) 0 := by kernel_rfl
set_option maxRecDepth 100000 in
theorem tally_Right.l2_eq (k : Nat) (n2 : Nat) (x0 : Ty.D (.slc tUndo)) (x5 : Ty.D (.slc tUndo)) (x6 : Ty.D (.int .i64)) (x7 : Ty.D (.int .i64)) : tally_Right.l2 k (n2 + 1) x0 x5 x6 x7 =
  br (ilt x7 x6)
    (br (inL x7 x5)
      (bnd (dot_Right.f k ((rd tUndo x5 (natOf x7)).1)) fun r0 =>
      br (bnot r0)
        (some false)
        (br (ilt ((rd tUndo x5 (natOf x7)).2) 1)
          (some false)
          (br (ilt 64 ((rd tUndo x5 (natOf x7)).2))
            (some false)
            (br (ilt 0 x7)
              (br (inL (isub .i64 x7 1) x0)
                (bnd (tally_compare.f k (rd tUndo x0 (natOf (isub .i64 x7 1))) (rd tUndo x5 (natOf x7))) fun r1 =>
                br (ile 0 r1)
                  (some false)
                  (tally_Right.l2 k n2 x0 x5 x6 (iadd .i64 x7 1)))
                (none))
              (tally_Right.l2 k n2 x0 x5 x6 (iadd .i64 x7 1))))))
      (none))
    (some true) := by kernel_rfl
noncomputable def tally_Right.e (k : Nat) : Entry := Sg.entry tally_Right.sg fun x => tally_Right.f k x
set_option maxRecDepth 100000 in
theorem tally_Right.ok (k : Nat) : CallOK Tryz.prog 116 (tally_Right.e k) :=
  fn_ok (c := tally_Right.cx k) (code := tally_Right.body) (TT.of tt_ok pp_ok) (fns_ok ⟨(dot_Right.ok k), (tally_compare.ok k), trivial⟩) mixed Tryz.func116 (by kernel_rfl) (by kernel_rfl) (by kernel_rfl) (by kernel_rfl) (by kernel_rfl) (by kernel_rfl) (fun x => by kernel_rfl)
noncomputable def delta_Right.body : Go.Code := Tryz.f72.body.getD .skip
noncomputable def delta_Right.rs : List Go.ResultVar := Tryz.f72.results.toList
def delta_Right.regs : List (Nat × RInfo) := [(0, ⟨[1], [1], [0], [], 0, [], [], [], []⟩),
  (1, ⟨[2], [5, 9, 14], [], [], 0, [], [], [], []⟩)]
noncomputable def delta_Right.cx (k : Nat) : Cx := ⟨tt, pp, [(115, (dots_Right.e k)),
  (116, (tally_Right.e k))], delta_Right.regs, k⟩
@[reducible] def delta_Right.sg : Sg := ⟨[.dat tKnow], [], .dat .bool, []⟩
noncomputable def delta_Right.f (k : Nat) (a0 : Ty.D tKnow) : Option (Sg.Out delta_Right.sg) := Sg.fn delta_Right.sg (delta_Right.cx k) delta_Right.body delta_Right.rs a0
set_option maxRecDepth 100000 in
theorem delta_Right.f_eq (k : Nat) (a0 : Ty.D tKnow) : delta_Right.f k a0 =
  bnd (dots_Right.f k a0.1) fun r0 =>
  br r0
    (bnd (tally_Right.f k a0.2.1) fun r1 =>
    br r1
      (bnd (dots_Right.f k a0.2.2) fun r2 =>
      some r2)
      (some false))
    (some false) := by kernel_rfl
noncomputable def delta_Right.e (k : Nat) : Entry := Sg.entry delta_Right.sg fun x => delta_Right.f k x
set_option maxRecDepth 100000 in
theorem delta_Right.ok (k : Nat) : CallOK Tryz.prog 72 (delta_Right.e k) :=
  fn_ok (c := delta_Right.cx k) (code := delta_Right.body) (TT.of tt_ok pp_ok) (fns_ok ⟨(dots_Right.ok k), (tally_Right.ok k), trivial⟩) mixed Tryz.func72 (by kernel_rfl) (by kernel_rfl) (by kernel_rfl) (by kernel_rfl) (by kernel_rfl) (by kernel_rfl) (fun x => by kernel_rfl)
noncomputable def slices_Concat_api_Dot_api_Dot.body : Go.Code := Tryz.f134.body.getD .skip
noncomputable def slices_Concat_api_Dot_api_Dot.rs : List Go.ResultVar := Tryz.f134.results.toList
def slices_Concat_api_Dot_api_Dot.regs : List (Nat × RInfo) := [(0, ⟨[0], [], [], [], 0, [], [], [], []⟩),
  (1, ⟨[0, 3], [], [], [], 0, [], [], [], []⟩),
  (2, ⟨[0, 3, 9, 10, 11], [], [], [], 0, [], [], [], []⟩),
  (3, ⟨[0, 3, 9, 10, 11, 12], [], [], [], 0, [0, 3, 9, 10, 11], [], [], []⟩),
  (4, ⟨[0, 3, 5, 9, 10, 11], [], [2], [], 0, [], [], [], []⟩),
  (5, ⟨[0, 3, 9, 10, 11], [], [], [], 0, [], [], [], []⟩),
  (6, ⟨[0, 3, 9, 10, 11, 20], [], [], [], 0, [], [], [], []⟩),
  (7, ⟨[0, 3, 9, 10, 11], [], [], [], 0, [], [], [], []⟩),
  (8, ⟨[0, 3, 9, 10, 11], [], [], [], 0, [], [], [], []⟩),
  (9, ⟨[0, 6], [24], [2], [], 0, [], [], [], []⟩),
  (10, ⟨[6, 25, 26, 27], [24], [], [], 0, [], [], [], []⟩),
  (11, ⟨[6, 25, 26, 27, 28], [24], [], [], 0, [6, 25, 26, 27], [24], [], []⟩),
  (12, ⟨[6, 8, 25, 26, 27], [24], [2], [], 0, [], [], [], []⟩),
  (13, ⟨[6, 25, 26, 27], [24], [0, 2, 3], [], 0, [], [], [], []⟩),
  (14, ⟨[6, 25, 26, 27], [24], [], [], 0, [], [], [], []⟩),
  (15, ⟨[2], [24], [0, 1], [], 0, [], [], [], []⟩)]
noncomputable def slices_Concat_api_Dot_api_Dot.cx (k : Nat) : Cx := ⟨tt, pp, [(167, (growE tDot))], slices_Concat_api_Dot_api_Dot.regs, k⟩
@[reducible] def slices_Concat_api_Dot_api_Dot.sg : Sg := ⟨[.dat (.slc (.slc tDot))], [], .raw tDot, []⟩
noncomputable def slices_Concat_api_Dot_api_Dot.f (k : Nat) (a0 : Ty.D (.slc (.slc tDot))) : Option (Sg.Out slices_Concat_api_Dot_api_Dot.sg) := Sg.fn slices_Concat_api_Dot_api_Dot.sg (slices_Concat_api_Dot_api_Dot.cx k) slices_Concat_api_Dot_api_Dot.body slices_Concat_api_Dot_api_Dot.rs a0
noncomputable def slices_Concat_api_Dot_api_Dot.l3 (k : Nat) (n : Nat) (x0 : Ty.D (.slc (.slc tDot))) (x3 : Ty.D (.int .i64)) (x9 : Ty.D (.slc (.slc tDot))) (x10 : Ty.D (.int .i64)) (x11 : Ty.D (.int .i64)) : Option (Sg.Out slices_Concat_api_Dot_api_Dot.sg) := loopAt (slices_Concat_api_Dot_api_Dot.cx k) slices_Concat_api_Dot_api_Dot.body [1, 1, 0, 1, 0] 3 [0, 3, 9, 10, 11] [] [] (Sg.K slices_Concat_api_Dot_api_Dot.sg (slices_Concat_api_Dot_api_Dot.cx k) slices_Concat_api_Dot_api_Dot.rs) n ⟨[(0, .dat (.slc (.slc tDot)) x0), (3, .dat (.int .i64) x3), (9, .dat (.slc (.slc tDot)) x9), (10, .dat (.int .i64) x10), (11, .dat (.int .i64) x11)], []⟩
noncomputable def slices_Concat_api_Dot_api_Dot.l11 (k : Nat) (n : Nat) (x6 : List (Ty.D tDot)) (x25 : Ty.D (.slc (.slc tDot))) (x26 : Ty.D (.int .i64)) (x27 : Ty.D (.int .i64)) : Option (Sg.Out slices_Concat_api_Dot_api_Dot.sg) := loopAt (slices_Concat_api_Dot_api_Dot.cx k) slices_Concat_api_Dot_api_Dot.body [1, 1, 1, 1, 0, 1, 0] 11 [6, 25, 26, 27] [24] [] (Sg.K slices_Concat_api_Dot_api_Dot.sg (slices_Concat_api_Dot_api_Dot.cx k) slices_Concat_api_Dot_api_Dot.rs) n ⟨[(6, .own tDot x6), (25, .dat (.slc (.slc tDot)) x25), (26, .dat (.int .i64) x26), (27, .dat (.int .i64) x27)], []⟩
set_option maxRecDepth 100000 in
theorem slices_Concat_api_Dot_api_Dot.f_eq (k : Nat) (a0 : Ty.D (.slc (.slc tDot))) : slices_Concat_api_Dot_api_Dot.f k a0 =
  slices_Concat_api_Dot_api_Dot.l3 k k a0 0 a0 (ilen a0) 0 := by kernel_rfl
set_option maxRecDepth 100000 in
theorem slices_Concat_api_Dot_api_Dot.l3_eq (k : Nat) (n3 : Nat) (x0 : Ty.D (.slc (.slc tDot))) (x3 : Ty.D (.int .i64)) (x9 : Ty.D (.slc (.slc tDot))) (x10 : Ty.D (.int .i64)) (x11 : Ty.D (.int .i64)) : slices_Concat_api_Dot_api_Dot.l3 k (n3 + 1) x0 x3 x9 x10 x11 =
  br (ilt x11 x10)
    (br (inL x11 x9)
      (br (ilt (iadd .i64 x3 (ilen (rd (.slc tDot) x9 (natOf x11)))) 0)
        (none)
        (slices_Concat_api_Dot_api_Dot.l3 k n3 x0 (iadd .i64 x3 (ilen (rd (.slc tDot) x9 (natOf x11)))) x9 x10 (iadd .i64 x11 1)))
      (none))
    (br (ilt x3 0)
      (none)
      (br (ilt 4294967296 x3)
        (none)
        (br (room ([] : List Int) ([] : List Int))
          (slices_Concat_api_Dot_api_Dot.l11 k k [] x0 (ilen x0) 0)
          (none)))) := by kernel_rfl
set_option maxRecDepth 100000 in
theorem slices_Concat_api_Dot_api_Dot.l11_eq (k : Nat) (n11 : Nat) (x6 : List (Ty.D tDot)) (x25 : Ty.D (.slc (.slc tDot))) (x26 : Ty.D (.int .i64)) (x27 : Ty.D (.int .i64)) : slices_Concat_api_Dot_api_Dot.l11 k (n11 + 1) x6 x25 x26 x27 =
  br (ilt x27 x26)
    (br (inL x27 x25)
      (br (room x6 (rd (.slc tDot) x25 (natOf x27)))
        (slices_Concat_api_Dot_api_Dot.l11 k n11 (app x6 (rd (.slc tDot) x25 (natOf x27))) x25 x26 (iadd .i64 x27 1))
        (none))
      (none))
    (some x6) := by kernel_rfl
noncomputable def slices_Concat_api_Dot_api_Dot.e (k : Nat) : Entry := Sg.entry slices_Concat_api_Dot_api_Dot.sg fun x => slices_Concat_api_Dot_api_Dot.f k x
set_option maxRecDepth 100000 in
theorem slices_Concat_api_Dot_api_Dot.ok (k : Nat) : CallOK Tryz.prog 134 (slices_Concat_api_Dot_api_Dot.e k) :=
  fn_ok (c := slices_Concat_api_Dot_api_Dot.cx k) (code := slices_Concat_api_Dot_api_Dot.body) (TT.of tt_ok pp_ok) (fns_ok ⟨growDot_ok, trivial⟩) mixed Tryz.func134 (by kernel_rfl) (by kernel_rfl) (by kernel_rfl) (by kernel_rfl) (by kernel_rfl) (by kernel_rfl) (fun x => by kernel_rfl)
noncomputable def vec_Join_1.body : Go.Code := Tryz.f150.body.getD .skip
noncomputable def vec_Join_1.rs : List Go.ResultVar := Tryz.f150.results.toList
def vec_Join_1.regs : List (Nat × RInfo) := [(0, ⟨[0, 1], [], [], [], 0, [], [], [], []⟩),
  (1, ⟨[4], [], [], [], 0, [], [], [], []⟩)]
noncomputable def vec_Join_1.cx (k : Nat) : Cx := ⟨tt, pp, [], vec_Join_1.regs, k⟩
@[reducible] def vec_Join_1.sg : Sg := ⟨[.dat (.int .i64), .dat (.int .i64)], [], .dat (.int .i64), []⟩
noncomputable def vec_Join_1.f (k : Nat) (a0 : Ty.D (.int .i64)) (a1 : Ty.D (.int .i64)) : Option (Sg.Out vec_Join_1.sg) := Sg.fn vec_Join_1.sg (vec_Join_1.cx k) vec_Join_1.body vec_Join_1.rs (a0, a1)
set_option maxRecDepth 100000 in
theorem vec_Join_1.f_eq (k : Nat) (a0 : Ty.D (.int .i64)) (a1 : Ty.D (.int .i64)) : vec_Join_1.f k a0 a1 =
  some (imax a0 a1) := by kernel_rfl
noncomputable def vec_Join_1.e (k : Nat) : Entry := Sg.entry vec_Join_1.sg fun x => vec_Join_1.f k x.1 x.2
set_option maxRecDepth 100000 in
theorem vec_Join_1.ok (k : Nat) : CallOK Tryz.prog 150 (vec_Join_1.e k) :=
  fn_ok (c := vec_Join_1.cx k) (code := vec_Join_1.body) (TT.of tt_ok pp_ok) (fns_ok trivial) mixed Tryz.func150 (by kernel_rfl) (by kernel_rfl) (by kernel_rfl) (by kernel_rfl) (by kernel_rfl) (by kernel_rfl) (fun x => by kernel_rfl)
end Go.Proofs.YtoikjekpckhgeaaGreat
end
