/- The functions that the statement reaches, and what they come to. Part 3. -/
import Derived.Test.YtoikjekpckhgeaaGreatFw1
import Derived.Test.YtoikjekpckhgeaaGreatFw2
import Derived.Test.YtoikjekpckhgeaaGreatFw3
import Derived.Test.YtoikjekpckhgeaaGreatSealGrows1
import Derived.Test.YtoikjekpckhgeaaGreatSealGrows2
set_option linter.unusedVariables false
set_option linter.unusedSimpArgs false
set_option linter.unusedSectionVars false
section
/- The program's functions, as plain equations. -/
namespace Go.Proofs.YtoikjekpckhgeaaGreat
open Pal
set_option maxRecDepth 100000
@[reducible] def ref30_covered.sg : Sg := ⟨[.ref, .dat tState, .dat tUndo], [tPeers], .dat .bool, [tPeers]⟩
@[reducible] def ref30_Compact.sg : Sg := ⟨[.ref, .dat tState], [tPeers], .dat tState, [tPeers]⟩
noncomputable def ref03_Same.body : Go.Code := Tryz.f179.body.getD .skip
noncomputable def ref03_Same.rs : List Go.ResultVar := Tryz.f179.results.toList
def ref03_Same.regs : List (Nat × RInfo) := [(0, ri [0,1] []), (1, ri [0,1,10] []), (2, ri [4] []), (3, ri [0,1,5] []), (4, ⟨[0, 1, 5, 14], [], [], [], 0, [0, 1, 5], [], [], [], []⟩), (6, rq [0,1,5,25] [] 9), (7, ri [4] []), (5, ri [0,1,5] []), (8, ri [4] [])]
noncomputable def ref03_Same.cx (k : Nat) : Cx := ⟨tt, pp, [], ref03_Same.regs, k, mm⟩
@[reducible] def ref03_Same.sg : Sg := ⟨[.dat (.slc .str), .dat (.slc .str)], [], .dat .bool, []⟩
noncomputable def ref03_Same.f (k : Nat) (a0 : Ty.D (.slc .str)) (a1 : Ty.D (.slc .str)) : Option (Sg.Out ref03_Same.sg) := Sg.fn ref03_Same.sg (ref03_Same.cx k) ref03_Same.body ref03_Same.rs (a0, a1)
noncomputable def ref03_Same.l4 (k : Nat) (n : Nat) (x0 : Ty.D (.slc .str)) (x1 : Ty.D (.slc .str)) (x5 : Ty.D (.int .i64)) : Option (Sg.Out ref03_Same.sg) := loopAt (ref03_Same.cx k) ref03_Same.body [1, 1, 0, 1, 0] 4 [0, 1, 5] [] [] (Sg.K ref03_Same.sg (ref03_Same.cx k) ref03_Same.rs) n ⟨[(0, .dat (.slc .str) x0), (1, .dat (.slc .str) x1), (5, .dat (.int .i64) x5)], []⟩
theorem ref03_Same.f_eq (k : Nat) (a0 : Ty.D (.slc .str)) (a1 : Ty.D (.slc .str)) : ref03_Same.f k a0 a1 = br (bnot (ieq (ilen a0) (ilen a1))) (some false) (ref03_Same.l4 k k a0 a1 0) := by kernel_rfl
theorem ref03_Same.l4_eq (k : Nat) (n4 : Nat) (x0 : Ty.D (.slc .str)) (x1 : Ty.D (.slc .str)) (x5 : Ty.D (.int .i64)) : ref03_Same.l4 k (n4 + 1) x0 x1 x5 = br (ilt x5 (ilen x0)) (br (inL x5 x0) (br (inL x5 x1) (br (bnot (seq (rd .str x0 (natOf x5)) (rd .str x1 (natOf x5)))) (some false) (ref03_Same.l4 k n4 x0 x1 (iadd .i64 x5 1))) none) none) (some true) := by kernel_rfl
noncomputable def ref03_Same.e (k : Nat) : Entry := Sg.entry ref03_Same.sg fun x => ref03_Same.f k x.1 x.2
theorem ref03_Same.ok (k : Nat) : CallOK Tryz.prog 179 (ref03_Same.e k) := fn_ok (c := ref03_Same.cx k) (code := ref03_Same.body) (TT.of tt_ok pp_ok mm_ok) (fns_ok trivial) mixed Tryz.func179 (by kernel_rfl) (by kernel_rfl) (by kernel_rfl) (by kernel_rfl) (by kernel_rfl) (by kernel_rfl) (fun x => by kernel_rfl)
noncomputable def ref11_Same.body : Go.Code := Tryz.f161.body.getD .skip
noncomputable def ref11_Same.rs : List Go.ResultVar := Tryz.f161.results.toList
def ref11_Same.regs : List (Nat × RInfo) := [(0, ⟨[2, 3], [2, 3], [0, 1], [], 0, [], [], [], [], []⟩), (1, ri [2,3,41] [2,3]), (2, ri [4] []), (3, ri [2,3,5] [2,3]), (4, ⟨[2, 3, 5, 46], [2, 3], [], [], 0, [2, 3, 5], [2, 3], [], [], []⟩), (6, rq [2,3,5,59] [2,3] 11), (7, ri [4] []), (5, ri [2,3,5] [2,3]), (8, ri [4] [])]
noncomputable def ref11_Same.cx (k : Nat) : Cx := ⟨tt, pp, [(179, (ref03_Same.e k))], ref11_Same.regs, k, mm⟩
@[reducible] def ref11_Same.sg : Sg := ⟨[.dat tOp, .dat tOp], [], .dat .bool, []⟩
noncomputable def ref11_Same.f (k : Nat) (a0 : Ty.D tOp) (a1 : Ty.D tOp) : Option (Sg.Out ref11_Same.sg) := Sg.fn ref11_Same.sg (ref11_Same.cx k) ref11_Same.body ref11_Same.rs (a0, a1)
noncomputable def ref11_Same.l4 (k : Nat) (n : Nat) (x5 : Ty.D (.int .i64)) (m2 : Ty.D tOp) (m3 : Ty.D tOp) : Option (Sg.Out ref11_Same.sg) := loopAt (ref11_Same.cx k) ref11_Same.body [1, 1, 0, 1, 0] 4 [2, 3, 5] [2, 3] [] (Sg.K ref11_Same.sg (ref11_Same.cx k) ref11_Same.rs) n ⟨[(2, .ref 2 []), (3, .ref 3 []), (5, .dat (.int .i64) x5)], [(2, .dat tOp m2), (3, .dat tOp m3)]⟩
theorem ref11_Same.f_eq (k : Nat) (a0 : Ty.D tOp) (a1 : Ty.D tOp) : ref11_Same.f k a0 a1 = br (bnot (ieq a0.1 a1.1)) (some false) (br (bnot (deq tValue a0.2.2.1 a1.2.2.1)) (some false) (br (bnot (ieq a0.2.2.2.1 a1.2.2.2.1)) (some false) (bnd (ref03_Same.f k a0.2.1 a1.2.1) fun r0 => br (bnot r0) (some false) (br (bnot (ieq (ilen a0.2.2.2.2) (ilen a1.2.2.2.2))) (some false) (ref11_Same.l4 k k 0 a0 a1))))) := by kernel_rfl
theorem ref11_Same.l4_eq (k : Nat) (n4 : Nat) (x5 : Ty.D (.int .i64)) (m2 : Ty.D tOp) (m3 : Ty.D tOp) : ref11_Same.l4 k (n4 + 1) x5 m2 m3 = br (ilt x5 (ilen m2.2.2.2.2)) (br (inL x5 m2.2.2.2.2) (br (inL x5 m3.2.2.2.2) (br (bnot (deq tUndo (rd tUndo m2.2.2.2.2 (natOf x5)) (rd tUndo m3.2.2.2.2 (natOf x5)))) (some false) (ref11_Same.l4 k n4 (iadd .i64 x5 1) m2 m3)) none) none) (some true) := by kernel_rfl
noncomputable def ref11_Same.e (k : Nat) : Entry := Sg.entry ref11_Same.sg fun x => ref11_Same.f k x.1 x.2
theorem ref11_Same.ok (k : Nat) : CallOK Tryz.prog 161 (ref11_Same.e k) := fn_ok (c := ref11_Same.cx k) (code := ref11_Same.body) (TT.of tt_ok pp_ok mm_ok) (fns_ok ⟨(ref03_Same.ok k), trivial⟩) mixed Tryz.func161 (by kernel_rfl) (by kernel_rfl) (by kernel_rfl) (by kernel_rfl) (by kernel_rfl) (by kernel_rfl) (fun x => by kernel_rfl)
noncomputable def ref12_Same.body : Go.Code := Tryz.f127.body.getD .skip
noncomputable def ref12_Same.rs : List Go.ResultVar := Tryz.f127.results.toList
def ref12_Same.regs : List (Nat × RInfo) := [(0, ⟨[2, 3], [2, 3], [0, 1], [], 0, [], [], [], [], []⟩), (1, ri [2,3,40] [2,3]), (2, ri [4] []), (3, ri [2,3,5] [2,3]), (4, ⟨[2, 3, 5, 45], [2, 3], [], [], 0, [2, 3, 5], [2, 3], [], [], []⟩), (6, rq [2,3,5,59] [2,3] 12), (7, ri [4] []), (5, ri [2,3,5] [2,3]), (8, ri [4] [])]
noncomputable def ref12_Same.cx (k : Nat) : Cx := ⟨tt, pp, [(161, (ref11_Same.e k))], ref12_Same.regs, k, mm⟩
@[reducible] def ref12_Same.sg : Sg := ⟨[.dat tTxn, .dat tTxn], [], .dat .bool, []⟩
noncomputable def ref12_Same.f (k : Nat) (a0 : Ty.D tTxn) (a1 : Ty.D tTxn) : Option (Sg.Out ref12_Same.sg) := Sg.fn ref12_Same.sg (ref12_Same.cx k) ref12_Same.body ref12_Same.rs (a0, a1)
noncomputable def ref12_Same.l4 (k : Nat) (n : Nat) (x5 : Ty.D (.int .i64)) (m2 : Ty.D tTxn) (m3 : Ty.D tTxn) : Option (Sg.Out ref12_Same.sg) := loopAt (ref12_Same.cx k) ref12_Same.body [1, 1, 0, 1, 0] 4 [2, 3, 5] [2, 3] [] (Sg.K ref12_Same.sg (ref12_Same.cx k) ref12_Same.rs) n ⟨[(2, .ref 2 []), (3, .ref 3 []), (5, .dat (.int .i64) x5)], [(2, .dat tTxn m2), (3, .dat tTxn m3)]⟩
theorem ref12_Same.f_eq (k : Nat) (a0 : Ty.D tTxn) (a1 : Ty.D tTxn) : ref12_Same.f k a0 a1 = br (bnot (deq tDot a0.1 a1.1)) (some false) (br (bnot (ieq a0.2.1 a1.2.1)) (some false) (br (bnot (ieq a0.2.2.1 a1.2.2.1)) (some false) (br (bnot (deq .bool a0.2.2.2.1 a1.2.2.2.1)) (some false) (br (bnot (ieq (ilen a0.2.2.2.2) (ilen a1.2.2.2.2))) (some false) (ref12_Same.l4 k k 0 a0 a1))))) := by kernel_rfl
theorem ref12_Same.l4_eq (k : Nat) (n4 : Nat) (x5 : Ty.D (.int .i64)) (m2 : Ty.D tTxn) (m3 : Ty.D tTxn) : ref12_Same.l4 k (n4 + 1) x5 m2 m3 = br (ilt x5 (ilen m2.2.2.2.2)) (br (inL x5 m2.2.2.2.2) (br (inL x5 m3.2.2.2.2) (bnd (ref11_Same.f k (rd tOp m2.2.2.2.2 (natOf x5)) (rd tOp m3.2.2.2.2 (natOf x5))) fun r0 => br (bnot r0) (some false) (ref12_Same.l4 k n4 (iadd .i64 x5 1) m2 m3)) none) none) (some true) := by kernel_rfl
noncomputable def ref12_Same.e (k : Nat) : Entry := Sg.entry ref12_Same.sg fun x => ref12_Same.f k x.1 x.2
theorem ref12_Same.ok (k : Nat) : CallOK Tryz.prog 127 (ref12_Same.e k) := fn_ok (c := ref12_Same.cx k) (code := ref12_Same.body) (TT.of tt_ok pp_ok mm_ok) (fns_ok ⟨(ref11_Same.ok k), trivial⟩) mixed Tryz.func127 (by kernel_rfl) (by kernel_rfl) (by kernel_rfl) (by kernel_rfl) (by kernel_rfl) (by kernel_rfl) (fun x => by kernel_rfl)
noncomputable def ref12_All.body : Go.Code := Tryz.f89.body.getD .skip
noncomputable def ref12_All.rs : List Go.ResultVar := Tryz.f89.results.toList
def ref12_All.regs : List (Nat × RInfo) := [(0, ri [0,1] []), (1, ri [0,1,10] []), (2, ri [4] []), (3, ri [0,1,5] []), (4, ⟨[0, 1, 5, 14], [], [], [], 0, [0, 1, 5], [], [], [], []⟩), (6, rq [0,1,5,26] [] 10), (7, ri [4] []), (5, ri [0,1,5] []), (8, ri [4] [])]
noncomputable def ref12_All.cx (k : Nat) : Cx := ⟨tt, pp, [(127, (ref12_Same.e k))], ref12_All.regs, k, mm⟩
@[reducible] def ref12_All.sg : Sg := ⟨[.dat (.slc tTxn), .dat (.slc tTxn)], [], .dat .bool, []⟩
noncomputable def ref12_All.f (k : Nat) (a0 : Ty.D (.slc tTxn)) (a1 : Ty.D (.slc tTxn)) : Option (Sg.Out ref12_All.sg) := Sg.fn ref12_All.sg (ref12_All.cx k) ref12_All.body ref12_All.rs (a0, a1)
noncomputable def ref12_All.l4 (k : Nat) (n : Nat) (x0 : Ty.D (.slc tTxn)) (x1 : Ty.D (.slc tTxn)) (x5 : Ty.D (.int .i64)) : Option (Sg.Out ref12_All.sg) := loopAt (ref12_All.cx k) ref12_All.body [1, 1, 0, 1, 0] 4 [0, 1, 5] [] [] (Sg.K ref12_All.sg (ref12_All.cx k) ref12_All.rs) n ⟨[(0, .dat (.slc tTxn) x0), (1, .dat (.slc tTxn) x1), (5, .dat (.int .i64) x5)], []⟩
theorem ref12_All.f_eq (k : Nat) (a0 : Ty.D (.slc tTxn)) (a1 : Ty.D (.slc tTxn)) : ref12_All.f k a0 a1 = br (bnot (ieq (ilen a0) (ilen a1))) (some false) (ref12_All.l4 k k a0 a1 0) := by kernel_rfl
theorem ref12_All.l4_eq (k : Nat) (n4 : Nat) (x0 : Ty.D (.slc tTxn)) (x1 : Ty.D (.slc tTxn)) (x5 : Ty.D (.int .i64)) : ref12_All.l4 k (n4 + 1) x0 x1 x5 = br (ilt x5 (ilen x0)) (br (inL x5 x0) (br (inL x5 x1) (bnd (ref12_Same.f k (rd tTxn x0 (natOf x5)) (rd tTxn x1 (natOf x5))) fun r0 => br (bnot r0) (some false) (ref12_All.l4 k n4 x0 x1 (iadd .i64 x5 1))) none) none) (some true) := by kernel_rfl
noncomputable def ref12_All.e (k : Nat) : Entry := Sg.entry ref12_All.sg fun x => ref12_All.f k x.1 x.2
theorem ref12_All.ok (k : Nat) : CallOK Tryz.prog 89 (ref12_All.e k) := fn_ok (c := ref12_All.cx k) (code := ref12_All.body) (TT.of tt_ok pp_ok mm_ok) (fns_ok ⟨(ref12_Same.ok k), trivial⟩) mixed Tryz.func89 (by kernel_rfl) (by kernel_rfl) (by kernel_rfl) (by kernel_rfl) (by kernel_rfl) (by kernel_rfl) (fun x => by kernel_rfl)
noncomputable def ref08_Same.body : Go.Code := Tryz.f64.body.getD .skip
noncomputable def ref08_Same.rs : List Go.ResultVar := Tryz.f64.results.toList
def ref08_Same.regs : List (Nat × RInfo) := [(0, ri [0,1] []), (1, ri [0,1,10] []), (2, ri [4] []), (3, ri [0,1,5] []), (4, ⟨[0, 1, 5, 14], [], [], [], 0, [0, 1, 5], [], [], [], []⟩), (6, rq [0,1,5,25] [] 9), (7, ri [4] []), (5, ri [0,1,5] []), (8, ri [4] [])]
noncomputable def ref08_Same.cx (k : Nat) : Cx := ⟨tt, pp, [], ref08_Same.regs, k, mm⟩
@[reducible] def ref08_Same.sg : Sg := ⟨[.dat (.slc tUndo), .dat (.slc tUndo)], [], .dat .bool, []⟩
noncomputable def ref08_Same.f (k : Nat) (a0 : Ty.D (.slc tUndo)) (a1 : Ty.D (.slc tUndo)) : Option (Sg.Out ref08_Same.sg) := Sg.fn ref08_Same.sg (ref08_Same.cx k) ref08_Same.body ref08_Same.rs (a0, a1)
noncomputable def ref08_Same.l4 (k : Nat) (n : Nat) (x0 : Ty.D (.slc tUndo)) (x1 : Ty.D (.slc tUndo)) (x5 : Ty.D (.int .i64)) : Option (Sg.Out ref08_Same.sg) := loopAt (ref08_Same.cx k) ref08_Same.body [1, 1, 0, 1, 0] 4 [0, 1, 5] [] [] (Sg.K ref08_Same.sg (ref08_Same.cx k) ref08_Same.rs) n ⟨[(0, .dat (.slc tUndo) x0), (1, .dat (.slc tUndo) x1), (5, .dat (.int .i64) x5)], []⟩
theorem ref08_Same.f_eq (k : Nat) (a0 : Ty.D (.slc tUndo)) (a1 : Ty.D (.slc tUndo)) : ref08_Same.f k a0 a1 = br (bnot (ieq (ilen a0) (ilen a1))) (some false) (ref08_Same.l4 k k a0 a1 0) := by kernel_rfl
theorem ref08_Same.l4_eq (k : Nat) (n4 : Nat) (x0 : Ty.D (.slc tUndo)) (x1 : Ty.D (.slc tUndo)) (x5 : Ty.D (.int .i64)) : ref08_Same.l4 k (n4 + 1) x0 x1 x5 = br (ilt x5 (ilen x0)) (br (inL x5 x0) (br (inL x5 x1) (br (bnot (deq tUndo (rd tUndo x0 (natOf x5)) (rd tUndo x1 (natOf x5)))) (some false) (ref08_Same.l4 k n4 x0 x1 (iadd .i64 x5 1))) none) none) (some true) := by kernel_rfl
noncomputable def ref08_Same.e (k : Nat) : Entry := Sg.entry ref08_Same.sg fun x => ref08_Same.f k x.1 x.2
theorem ref08_Same.ok (k : Nat) : CallOK Tryz.prog 64 (ref08_Same.e k) := fn_ok (c := ref08_Same.cx k) (code := ref08_Same.body) (TT.of tt_ok pp_ok mm_ok) (fns_ok trivial) mixed Tryz.func64 (by kernel_rfl) (by kernel_rfl) (by kernel_rfl) (by kernel_rfl) (by kernel_rfl) (by kernel_rfl) (fun x => by kernel_rfl)
noncomputable def ref22_Same.body : Go.Code := Tryz.f42.body.getD .skip
noncomputable def ref22_Same.rs : List Go.ResultVar := Tryz.f42.results.toList
def ref22_Same.regs : List (Nat × RInfo) := [(0, ⟨[2, 3], [2, 3], [0, 1], [], 0, [], [], [], [], []⟩), (1, ri [2,3,5] [2,3]), (2, ⟨[2, 3, 5, 7], [2, 3], [], [], 0, [2, 3, 5], [2, 3], [], [], []⟩), (4, rq [2,3,5,19] [2,3] 10), (5, ri [4] [24,30,37,44]), (3, ri [2,3,5] [2,3]), (6, ri [4] [24,30,37,44])]
noncomputable def ref22_Same.cx (k : Nat) : Cx := ⟨tt, pp, [(37, (ref04_Same.e k)), (89, (ref12_All.e k)), (64, (ref08_Same.e k)), (63, (ref06_Same.e k))], ref22_Same.regs, k, mm⟩
@[reducible] def ref22_Same.sg : Sg := ⟨[.dat tState, .dat tState], [], .dat .bool, []⟩
noncomputable def ref22_Same.f (k : Nat) (a0 : Ty.D tState) (a1 : Ty.D tState) : Option (Sg.Out ref22_Same.sg) := Sg.fn ref22_Same.sg (ref22_Same.cx k) ref22_Same.body ref22_Same.rs (a0, a1)
noncomputable def ref22_Same.l2 (k : Nat) (n : Nat) (x5 : Ty.D (.int .i64)) (m2 : Ty.D tState) (m3 : Ty.D tState) : Option (Sg.Out ref22_Same.sg) := loopAt (ref22_Same.cx k) ref22_Same.body [1, 0, 1, 0] 2 [2, 3, 5] [2, 3] [] (Sg.K ref22_Same.sg (ref22_Same.cx k) ref22_Same.rs) n ⟨[(2, .ref 2 []), (3, .ref 3 []), (5, .dat (.int .i64) x5)], [(2, .dat tState m2), (3, .dat tState m3)]⟩
theorem ref22_Same.f_eq (k : Nat) (a0 : Ty.D tState) (a1 : Ty.D tState) : ref22_Same.f k a0 a1 = ref22_Same.l2 k k 0 a0 a1 := by kernel_rfl
theorem ref22_Same.l2_eq (k : Nat) (n2 : Nat) (x5 : Ty.D (.int .i64)) (m2 : Ty.D tState) (m3 : Ty.D tState) : ref22_Same.l2 k (n2 + 1) x5 m2 m3 = br (ilt x5 8) (br (inB x5 8) (br (inB x5 8) (bnd (ref04_Same.f k (rd (.slc tDot) m2.2.2.2.2 (natOf x5)) (rd (.slc tDot) m3.2.2.2.2 (natOf x5))) fun r0 => br (bnot r0) (some false) (ref22_Same.l2 k n2 (iadd .i64 x5 1) m2 m3)) none) none) (bnd (ref12_All.f k m2.1 m3.1) fun r1 => br r1 (bnd (ref08_Same.f k m2.2.1 m3.2.1) fun r2 => br r2 (bnd (ref06_Same.f k m2.2.2.1 m3.2.2.1) fun r3 => br r3 (bnd (ref06_Same.f k m2.2.2.2.1 m3.2.2.2.1) fun r4 => some r4) (some false)) (some false)) (some false)) := by kernel_rfl
noncomputable def ref22_Same.e (k : Nat) : Entry := Sg.entry ref22_Same.sg fun x => ref22_Same.f k x.1 x.2
theorem ref22_Same.ok (k : Nat) : CallOK Tryz.prog 42 (ref22_Same.e k) := fn_ok (c := ref22_Same.cx k) (code := ref22_Same.body) (TT.of tt_ok pp_ok mm_ok) (fns_ok ⟨(ref04_Same.ok k), (ref12_All.ok k), (ref08_Same.ok k), (ref06_Same.ok k), trivial⟩) mixed Tryz.func42 (by kernel_rfl) (by kernel_rfl) (by kernel_rfl) (by kernel_rfl) (by kernel_rfl) (by kernel_rfl) (fun x => by kernel_rfl)
@[reducible] def law30_SealTells.sg : Sg := ⟨[.dat (.int .u8), .dat (.int .u8), .dat (.slc tKnow), .dat tState, .dat tDot], [], .dat .bool, []⟩
@[reducible] def law30_SealReady.sg : Sg := ⟨[.dat (.int .u8), .dat (.int .u8), .dat (.slc tKnow), .dat tState], [], .dat .bool, []⟩
@[reducible] def live_covered.sg : Sg := ⟨[.dat (.slc tTxn), .dat (.slc tUndo)], [], .newm, [(.map tUndo .bool)]⟩
@[reducible] def live_All.sg : Sg := ⟨[.dat (.slc tTxn), .dat (.slc tUndo)], [], .own tItem, []⟩
@[reducible] def state_Items.sg : Sg := ⟨[.dat tState], [], .own tItem, []⟩
@[reducible] def slices_Equal_string_string.sg : Sg := ⟨[.dat (.slc .str), .dat (.slc .str)], [], .dat .bool, []⟩
@[reducible] def slices_Equal_api_Ref_api_Ref.sg : Sg := ⟨[.dat (.slc tUndo), .dat (.slc tUndo)], [], .dat .bool, []⟩
@[reducible] def op_Same.sg : Sg := ⟨[.dat tOp, .dat tOp], [], .dat .bool, []⟩
@[reducible] def live_Same_1.sg : Sg := ⟨[.dat tItem, .dat tItem], [], .dat .bool, []⟩
@[reducible] def slices_EqualFunc_live_Item_live_Item_live_Item_live_Item_live_Same_1.sg : Sg := ⟨[.dat (.slc tItem), .dat (.slc tItem), .fn 103 0], [], .dat .bool, []⟩
@[reducible] def live_Same.sg : Sg := ⟨[.dat (.slc tItem), .dat (.slc tItem)], [], .dat .bool, []⟩
@[reducible] def slices_Equal_api_Dot_api_Dot.sg : Sg := ⟨[.dat (.slc tDot), .dat (.slc tDot)], [], .dat .bool, []⟩
@[reducible] def dots_Same.sg : Sg := ⟨[.dat tDots, .dat tDots], [], .dat .bool, []⟩
@[reducible] def slices_Equal_api_Undo_api_Undo.sg : Sg := ⟨[.dat (.slc tUndo), .dat (.slc tUndo)], [], .dat .bool, []⟩
@[reducible] def tally_Same.sg : Sg := ⟨[.dat (.slc tUndo), .dat (.slc tUndo)], [], .dat .bool, []⟩
@[reducible] def delta_Same.sg : Sg := ⟨[.dat tKnow, .dat tKnow], [], .dat .bool, []⟩
@[reducible] def state_Time.sg : Sg := ⟨[.dat tState], [], .dat (.int .i64), []⟩
@[reducible] def law30_SealReads.sg : Sg := ⟨[.dat (.int .u8), .dat (.int .u8), .dat (.slc tKnow), .dat tState], [], .dat .bool, []⟩
@[reducible] def ref23_ShortDelta.sg : Sg := ⟨[.dat tDelta], [], .dat .bool, []⟩
@[reducible] def ref23_DeltaRight.sg : Sg := ⟨[.dat tDelta], [], .dat .bool, []⟩
@[reducible] def record_Merged.sg : Sg := ⟨[.dat tState, .dat tDelta], [], .dat tState, []⟩
noncomputable def peer_Peers_All_nil_seal_Ready_1.body : Go.Code := Tryz.f82.body.getD .skip
noncomputable def peer_Peers_All_nil_seal_Ready_1.rs : List Go.ResultVar := Tryz.f82.results.toList
def peer_Peers_All_nil_seal_Ready_1.regs : List (Nat × RInfo) := [(0, ri [0,1] [1000000]), (1, ri [0,1,7] [1000000]), (2, ri [4] [1000000]), (3, ri [0,1,11,12] [1000000]), (4, ⟨[0, 1, 11, 12, 13], [1000000], [], [], 0, [0, 1, 11, 12], [1000000], [], [], []⟩), (5, ri [0,1,5,11,12] [1000000]), (6, ri [0,1,11,12,31] [1000000]), (7, ri [4] [1000000]), (8, ri [0,1,11,12] [1000000]), (9, ri [4] [1000000])]
noncomputable def peer_Peers_All_nil_seal_Ready_1.cx (k : Nat) : Cx := ⟨tt, pp, [(83, (seal_Ready_1.e k))], peer_Peers_All_nil_seal_Ready_1.regs, k, mm⟩
@[reducible] def peer_Peers_All_nil_seal_Ready_1.sg : Sg := ⟨[.nil, .fn 83 1], [tTxn], .dat .bool, [tTxn]⟩
noncomputable def peer_Peers_All_nil_seal_Ready_1.f (k : Nat) (o0 : Ty.D tTxn) : Option (Sg.Out peer_Peers_All_nil_seal_Ready_1.sg) := Sg.fn peer_Peers_All_nil_seal_Ready_1.sg (peer_Peers_All_nil_seal_Ready_1.cx k) peer_Peers_All_nil_seal_Ready_1.body peer_Peers_All_nil_seal_Ready_1.rs o0
theorem peer_Peers_All_nil_seal_Ready_1.f_eq (k : Nat) (o0 : Ty.D tTxn) : peer_Peers_All_nil_seal_Ready_1.f k o0 = some (false, o0) := by kernel_rfl
noncomputable def peer_Peers_All_nil_seal_Ready_1.e (k : Nat) : Entry := Sg.entry peer_Peers_All_nil_seal_Ready_1.sg fun x => peer_Peers_All_nil_seal_Ready_1.f k x
theorem peer_Peers_All_nil_seal_Ready_1.ok (k : Nat) : CallOK Tryz.prog 82 (peer_Peers_All_nil_seal_Ready_1.e k) := fn_ok (c := peer_Peers_All_nil_seal_Ready_1.cx k) (code := peer_Peers_All_nil_seal_Ready_1.body) (TT.of tt_ok pp_ok mm_ok) (fns_ok ⟨(seal_Ready_1.ok k), trivial⟩) mixed Tryz.func82 (by kernel_rfl) (by kernel_rfl) (by kernel_rfl) (by kernel_rfl) (by kernel_rfl) (by kernel_rfl) (fun x => by kernel_rfl)
noncomputable def seal_Ready_nil.body : Go.Code := Tryz.f38.body.getD .skip
noncomputable def seal_Ready_nil.rs : List Go.ResultVar := Tryz.f38.results.toList
def seal_Ready_nil.regs : List (Nat × RInfo) := [(0, ⟨[0, 3], [3], [0], [], 0, [], [], [], [], []⟩), (1, ri [0,3,5] [3]), (2, ri [0,3,5,9,10,11] [3]), (3, ⟨[0, 3, 5, 9, 10, 11, 12], [3], [], [], 0, [0, 3, 5, 9, 10, 11], [3], [], [], []⟩), (4, ⟨[0, 3, 5, 7, 9, 10, 11], [3, 7], [3], [], 0, [], [], [], [], []⟩), (5, ri [0,3,5,7,9,10,11,25] [3,7,24]), (6, ⟨[0, 3, 5, 9, 10, 11], [3], [0, 4, 5], [], 0, [], [], [], [], []⟩), (7, ri [0,3,5,9,10,11] [3]), (8, ⟨[4], [], [0, 1], [], 0, [], [], [], [], []⟩)]
noncomputable def seal_Ready_nil.cx (k : Nat) : Cx := ⟨tt, pp, [(81, (dots_Has.e k)), (83, (seal_Ready_1.e k)), (82, (Entry.alt peer_Peers_All_seal_Ready_1.sg (peer_Peers_All_seal_Ready_1.e k) (Entry.alt peer_Peers_All_peer_Peers_Agrees_1.sg (peer_Peers_All_peer_Peers_Agrees_1.e k) (Entry.alt peer_Peers_All_seal_Final_1.sg (peer_Peers_All_seal_Final_1.e k) (peer_Peers_All_nil_seal_Ready_1.e k)))))], seal_Ready_nil.regs, k, mm⟩
@[reducible] def seal_Ready_nil.sg : Sg := ⟨[.nil, .dat tState], [], .own tDot, []⟩
noncomputable def seal_Ready_nil.f (k : Nat) (a1 : Ty.D tState) : Option (Sg.Out seal_Ready_nil.sg) := Sg.fn seal_Ready_nil.sg (seal_Ready_nil.cx k) seal_Ready_nil.body seal_Ready_nil.rs a1
noncomputable def seal_Ready_nil.l3 (k : Nat) (n : Nat) (x5 : List (Ty.D tDot)) (x9 : Ty.D (.slc tTxn)) (x10 : Ty.D (.int .i64)) (x11 : Ty.D (.int .i64)) (m3 : Ty.D tState) : Option (Sg.Out seal_Ready_nil.sg) := loopAt (seal_Ready_nil.cx k) seal_Ready_nil.body [1, 1, 0, 1, 0] 3 [0, 3, 5, 9, 10, 11] [3] [] (Sg.K seal_Ready_nil.sg (seal_Ready_nil.cx k) seal_Ready_nil.rs) n ⟨[(0, .nilp), (3, .ref 3 []), (5, .own tDot x5), (9, .dat (.slc tTxn) x9), (10, .dat (.int .i64) x10), (11, .dat (.int .i64) x11)], [(3, .dat tState m3)]⟩
theorem seal_Ready_nil.f_eq (k : Nat) (a1 : Ty.D tState) : seal_Ready_nil.f k a1 = seal_Ready_nil.l3 k k [] a1.1 (ilen a1.1) 0 a1 := by kernel_rfl
theorem seal_Ready_nil.l3_eq (k : Nat) (n3 : Nat) (x5 : List (Ty.D tDot)) (x9 : Ty.D (.slc tTxn)) (x10 : Ty.D (.int .i64)) (x11 : Ty.D (.int .i64)) (m3 : Ty.D tState) : seal_Ready_nil.l3 k (n3 + 1) x5 x9 x10 x11 m3 = br (ilt x11 x10) (br (inL x11 x9) (bnd (dots_Has.f k m3.2.2.2.1 ((rd tTxn x9 (natOf x11)).1)) fun r0 => br (bnot r0) (bnd (peer_Peers_All_nil_seal_Ready_1.f k (rd tTxn x9 (natOf x11))) fun r1 => br r1.1 (br (room x5 (r1.2.1 :: [])) (seal_Ready_nil.l3 k n3 (app x5 (r1.2.1 :: [])) x9 x10 (iadd .i64 x11 1) m3) none) (seal_Ready_nil.l3 k n3 x5 x9 x10 (iadd .i64 x11 1) m3)) (seal_Ready_nil.l3 k n3 x5 x9 x10 (iadd .i64 x11 1) m3)) none) (some x5) := by kernel_rfl
noncomputable def seal_Ready_nil.e (k : Nat) : Entry := Sg.entry seal_Ready_nil.sg fun x => seal_Ready_nil.f k x
theorem seal_Ready_nil.ok (k : Nat) : CallOK Tryz.prog 38 (seal_Ready_nil.e k) := fn_ok (c := seal_Ready_nil.cx k) (code := seal_Ready_nil.body) (TT.of tt_ok pp_ok mm_ok) (fns_ok ⟨(dots_Has.ok k), (seal_Ready_1.ok k), (alt_ok (peer_Peers_All_seal_Ready_1.ok k) (alt_ok (peer_Peers_All_peer_Peers_Agrees_1.ok k) (alt_ok (peer_Peers_All_seal_Final_1.ok k) (peer_Peers_All_nil_seal_Ready_1.ok k)))), trivial⟩) mixed Tryz.func38 (by kernel_rfl) (by kernel_rfl) (by kernel_rfl) (by kernel_rfl) (by kernel_rfl) (by kernel_rfl) (fun x => by kernel_rfl)
noncomputable def peer_Peers_All_nil_peer_Peers_Agrees_1.body : Go.Code := Tryz.f82.body.getD .skip
noncomputable def peer_Peers_All_nil_peer_Peers_Agrees_1.rs : List Go.ResultVar := Tryz.f82.results.toList
def peer_Peers_All_nil_peer_Peers_Agrees_1.regs : List (Nat × RInfo) := [(0, ri [0,1] [1000000,1000001]), (1, ri [0,1,7] [1000000,1000001]), (2, ri [4] [1000000,1000001]), (3, ri [0,1,11,12] [1000000,1000001]), (4, ⟨[0, 1, 11, 12, 13], [1000000, 1000001], [], [], 0, [0, 1, 11, 12], [1000000, 1000001], [], [], []⟩), (5, ri [0,1,5,11,12] [1000000,1000001]), (6, ri [0,1,11,12,31] [1000000,1000001]), (7, ri [4] [1000000,1000001]), (8, ri [0,1,11,12] [1000000,1000001]), (9, ri [4] [1000000,1000001])]
noncomputable def peer_Peers_All_nil_peer_Peers_Agrees_1.cx (k : Nat) : Cx := ⟨tt, pp, [(108, (peer_Peers_Agrees_1.e k))], peer_Peers_All_nil_peer_Peers_Agrees_1.regs, k, mm⟩
@[reducible] def peer_Peers_All_nil_peer_Peers_Agrees_1.sg : Sg := ⟨[.nil, .fn 108 2], [tDot, (.int .i64)], .dat .bool, [tDot, (.int .i64)]⟩
noncomputable def peer_Peers_All_nil_peer_Peers_Agrees_1.f (k : Nat) (o0 : Ty.D tDot) (o1 : Ty.D (.int .i64)) : Option (Sg.Out peer_Peers_All_nil_peer_Peers_Agrees_1.sg) := Sg.fn peer_Peers_All_nil_peer_Peers_Agrees_1.sg (peer_Peers_All_nil_peer_Peers_Agrees_1.cx k) peer_Peers_All_nil_peer_Peers_Agrees_1.body peer_Peers_All_nil_peer_Peers_Agrees_1.rs (o0, o1)
theorem peer_Peers_All_nil_peer_Peers_Agrees_1.f_eq (k : Nat) (o0 : Ty.D tDot) (o1 : Ty.D (.int .i64)) : peer_Peers_All_nil_peer_Peers_Agrees_1.f k o0 o1 = some (false, (o0, o1)) := by kernel_rfl
noncomputable def peer_Peers_All_nil_peer_Peers_Agrees_1.e (k : Nat) : Entry := Sg.entry peer_Peers_All_nil_peer_Peers_Agrees_1.sg fun x => peer_Peers_All_nil_peer_Peers_Agrees_1.f k x.1 x.2
theorem peer_Peers_All_nil_peer_Peers_Agrees_1.ok (k : Nat) : CallOK Tryz.prog 82 (peer_Peers_All_nil_peer_Peers_Agrees_1.e k) := fn_ok (c := peer_Peers_All_nil_peer_Peers_Agrees_1.cx k) (code := peer_Peers_All_nil_peer_Peers_Agrees_1.body) (TT.of tt_ok pp_ok mm_ok) (fns_ok ⟨(peer_Peers_Agrees_1.ok k), trivial⟩) mixed Tryz.func82 (by kernel_rfl) (by kernel_rfl) (by kernel_rfl) (by kernel_rfl) (by kernel_rfl) (by kernel_rfl) (fun x => by kernel_rfl)
noncomputable def peer_Peers_Agrees_nil.body : Go.Code := Tryz.f55.body.getD .skip
noncomputable def peer_Peers_Agrees_nil.rs : List Go.ResultVar := Tryz.f55.results.toList
def peer_Peers_Agrees_nil.regs : List (Nat × RInfo) := [(0, ri [0,4,5] [4,5]), (1, ri [6] [9])]
noncomputable def peer_Peers_Agrees_nil.cx (k : Nat) : Cx := ⟨tt, pp, [(108, (peer_Peers_Agrees_1.e k)), (82, (Entry.alt peer_Peers_All_seal_Ready_1.sg (peer_Peers_All_seal_Ready_1.e k) (Entry.alt peer_Peers_All_peer_Peers_Agrees_1.sg (peer_Peers_All_peer_Peers_Agrees_1.e k) (Entry.alt peer_Peers_All_seal_Final_1.sg (peer_Peers_All_seal_Final_1.e k) (Entry.alt peer_Peers_All_nil_seal_Ready_1.sg (peer_Peers_All_nil_seal_Ready_1.e k) (peer_Peers_All_nil_peer_Peers_Agrees_1.e k))))))], peer_Peers_Agrees_nil.regs, k, mm⟩
@[reducible] def peer_Peers_Agrees_nil.sg : Sg := ⟨[.nil, .dat tDot, .dat (.int .i64)], [], .dat .bool, []⟩
noncomputable def peer_Peers_Agrees_nil.f (k : Nat) (a1 : Ty.D tDot) (a2 : Ty.D (.int .i64)) : Option (Sg.Out peer_Peers_Agrees_nil.sg) := Sg.fn peer_Peers_Agrees_nil.sg (peer_Peers_Agrees_nil.cx k) peer_Peers_Agrees_nil.body peer_Peers_Agrees_nil.rs (a1, a2)
theorem peer_Peers_Agrees_nil.f_eq (k : Nat) (a1 : Ty.D tDot) (a2 : Ty.D (.int .i64)) : peer_Peers_Agrees_nil.f k a1 a2 = bnd (peer_Peers_All_nil_peer_Peers_Agrees_1.f k a1 a2) fun r0 => some r0.1 := by kernel_rfl
noncomputable def peer_Peers_Agrees_nil.e (k : Nat) : Entry := Sg.entry peer_Peers_Agrees_nil.sg fun x => peer_Peers_Agrees_nil.f k x.1 x.2
theorem peer_Peers_Agrees_nil.ok (k : Nat) : CallOK Tryz.prog 55 (peer_Peers_Agrees_nil.e k) := fn_ok (c := peer_Peers_Agrees_nil.cx k) (code := peer_Peers_Agrees_nil.body) (TT.of tt_ok pp_ok mm_ok) (fns_ok ⟨(peer_Peers_Agrees_1.ok k), (alt_ok (peer_Peers_All_seal_Ready_1.ok k) (alt_ok (peer_Peers_All_peer_Peers_Agrees_1.ok k) (alt_ok (peer_Peers_All_seal_Final_1.ok k) (alt_ok (peer_Peers_All_nil_seal_Ready_1.ok k) (peer_Peers_All_nil_peer_Peers_Agrees_1.ok k))))), trivial⟩) mixed Tryz.func55 (by kernel_rfl) (by kernel_rfl) (by kernel_rfl) (by kernel_rfl) (by kernel_rfl) (by kernel_rfl) (fun x => by kernel_rfl)
noncomputable def peer_Peers_All_nil_seal_Final_1.body : Go.Code := Tryz.f82.body.getD .skip
noncomputable def peer_Peers_All_nil_seal_Final_1.rs : List Go.ResultVar := Tryz.f82.results.toList
def peer_Peers_All_nil_seal_Final_1.regs : List (Nat × RInfo) := [(0, ri [0,1] [1000000]), (1, ri [0,1,7] [1000000]), (2, ri [4] [1000000]), (3, ri [0,1,11,12] [1000000]), (4, ⟨[0, 1, 11, 12, 13], [1000000], [], [], 0, [0, 1, 11, 12], [1000000], [], [], []⟩), (5, ri [0,1,5,11,12] [1000000]), (6, ri [0,1,11,12,31] [1000000]), (7, ri [4] [1000000]), (8, ri [0,1,11,12] [1000000]), (9, ri [4] [1000000])]
noncomputable def peer_Peers_All_nil_seal_Final_1.cx (k : Nat) : Cx := ⟨tt, pp, [(87, (seal_Final_1.e k))], peer_Peers_All_nil_seal_Final_1.regs, k, mm⟩
@[reducible] def peer_Peers_All_nil_seal_Final_1.sg : Sg := ⟨[.nil, .fn 87 1], [tDot], .dat .bool, [tDot]⟩
noncomputable def peer_Peers_All_nil_seal_Final_1.f (k : Nat) (o0 : Ty.D tDot) : Option (Sg.Out peer_Peers_All_nil_seal_Final_1.sg) := Sg.fn peer_Peers_All_nil_seal_Final_1.sg (peer_Peers_All_nil_seal_Final_1.cx k) peer_Peers_All_nil_seal_Final_1.body peer_Peers_All_nil_seal_Final_1.rs o0
noncomputable def peer_Peers_All_nil_seal_Final_1.e (k : Nat) : Entry := Sg.entry peer_Peers_All_nil_seal_Final_1.sg fun x => peer_Peers_All_nil_seal_Final_1.f k x
theorem peer_Peers_All_nil_seal_Final_1.ok (k : Nat) : CallOK Tryz.prog 82 (peer_Peers_All_nil_seal_Final_1.e k) := fn_ok (c := peer_Peers_All_nil_seal_Final_1.cx k) (code := peer_Peers_All_nil_seal_Final_1.body) (TT.of tt_ok pp_ok mm_ok) (fns_ok ⟨(seal_Final_1.ok k), trivial⟩) mixed Tryz.func82 (by kernel_rfl) (by kernel_rfl) (by kernel_rfl) (by kernel_rfl) (by kernel_rfl) (by kernel_rfl) (fun x => by kernel_rfl)
noncomputable def seal_Final_nil.body : Go.Code := Tryz.f40.body.getD .skip
noncomputable def seal_Final_nil.rs : List Go.ResultVar := Tryz.f40.results.toList
def seal_Final_nil.regs : List (Nat × RInfo) := [(0, ⟨[0, 4, 5], [4, 5], [0], [], 0, [], [], [], [], []⟩), (1, ⟨[0, 5, 28], [5], [], [], 22, [], [], [], [[], [], [], [1, 2], [1, 2], [1, 2], [1, 2], [1, 2], [1, 2], [7, 1, 2, 8], [7, 1, 2, 8], [1, 2, 7, 8], [1, 2, 7, 8], [1, 2, 7, 8], [1, 2, 7, 8], [1, 2, 7, 8], [1, 2, 7, 8], [1, 2, 7, 8], [16, 1, 2, 7, 8, 17], [1, 2, 7, 8, 14, 16, 17], [19, 1, 2, 7, 8, 14, 16, 17], [1, 2, 7, 8, 19, 14, 16, 17]], []⟩), (2, ri [6] [31]), (3, ri [6] [31])]
noncomputable def seal_Final_nil.cx (k : Nat) : Cx := ⟨tt, pp, [(85, (txn_Find.e k)), (81, (dots_Has.e k)), (86, (tally_Get.e k)), (55, (Entry.alt peer_Peers_Agrees.sg (peer_Peers_Agrees.e k) (peer_Peers_Agrees_nil.e k))), (87, (seal_Final_1.e k)), (82, (Entry.alt peer_Peers_All_seal_Ready_1.sg (peer_Peers_All_seal_Ready_1.e k) (Entry.alt peer_Peers_All_peer_Peers_Agrees_1.sg (peer_Peers_All_peer_Peers_Agrees_1.e k) (Entry.alt peer_Peers_All_seal_Final_1.sg (peer_Peers_All_seal_Final_1.e k) (Entry.alt peer_Peers_All_nil_seal_Ready_1.sg (peer_Peers_All_nil_seal_Ready_1.e k) (Entry.alt peer_Peers_All_nil_peer_Peers_Agrees_1.sg (peer_Peers_All_nil_peer_Peers_Agrees_1.e k) (peer_Peers_All_nil_seal_Final_1.e k)))))))], seal_Final_nil.regs, k, mm⟩
@[reducible] def seal_Final_nil.sg : Sg := ⟨[.nil, .dat tState, .dat tDot], [], .dat .bool, []⟩
noncomputable def seal_Final_nil.f (k : Nat) (a1 : Ty.D tState) (a2 : Ty.D tDot) : Option (Sg.Out seal_Final_nil.sg) := Sg.fn seal_Final_nil.sg (seal_Final_nil.cx k) seal_Final_nil.body seal_Final_nil.rs (a1, a2)
theorem seal_Final_nil.f_eq (k : Nat) (a1 : Ty.D tState) (a2 : Ty.D tDot) : seal_Final_nil.f k a1 a2 = bnd (txn_Find.f k a1.1 a2) fun r0 => br (ilt r0 0) (some false) (bnd (dots_Has.f k a1.2.2.2.1 a2) fun r1 => br (bnot r1) (some false) (bnd (tally_Get.f k a1.2.1 a2) fun r2 => bnd (peer_Peers_Agrees_nil.f k a2 r2) fun r3 => br (bnot r3) (some false) (bnd (peer_Peers_All_nil_seal_Final_1.f k a2) fun r4 => some r4.1))) := by kernel_rfl
noncomputable def seal_Final_nil.e (k : Nat) : Entry := Sg.entry seal_Final_nil.sg fun x => seal_Final_nil.f k x.1 x.2
theorem seal_Final_nil.ok (k : Nat) : CallOK Tryz.prog 40 (seal_Final_nil.e k) := fn_ok (c := seal_Final_nil.cx k) (code := seal_Final_nil.body) (TT.of tt_ok pp_ok mm_ok) (fns_ok ⟨(txn_Find.ok k), (dots_Has.ok k), (tally_Get.ok k), (alt_ok (peer_Peers_Agrees.ok k) (peer_Peers_Agrees_nil.ok k)), (seal_Final_1.ok k), (alt_ok (peer_Peers_All_seal_Ready_1.ok k) (alt_ok (peer_Peers_All_peer_Peers_Agrees_1.ok k) (alt_ok (peer_Peers_All_seal_Final_1.ok k) (alt_ok (peer_Peers_All_nil_seal_Ready_1.ok k) (alt_ok (peer_Peers_All_nil_peer_Peers_Agrees_1.ok k) (peer_Peers_All_nil_seal_Final_1.ok k)))))), trivial⟩) mixed Tryz.func40 (by kernel_rfl) (by kernel_rfl) (by kernel_rfl) (by kernel_rfl) (by kernel_rfl) (by kernel_rfl) (fun x => by kernel_rfl)
noncomputable def seal_finals_nil.body : Go.Code := Tryz.f78.body.getD .skip
noncomputable def seal_finals_nil.rs : List Go.ResultVar := Tryz.f78.results.toList
def seal_finals_nil.regs : List (Nat × RInfo) := [(0, ⟨[0, 3], [3], [0], [], 0, [], [], [], [], []⟩), (1, ri [0,3,6,7] [3,10,11]), (2, ri [0,3,6,7,13,14,15] [3,10,11]), (3, ⟨[0, 3, 6, 7, 13, 14, 15, 16], [3, 10, 11], [], [], 0, [0, 3, 6, 7, 13, 14, 15], [3, 10, 11], [], [], []⟩), (4, ⟨[0, 3, 6, 7, 9, 13, 14, 15], [3, 9, 10, 11], [3], [], 0, [], [], [], [], []⟩), (6, ri [0,3,6,7,9,13,14,15,22] [3,9,10,11]), (7, ri [0,3,6,7,9,13,14,15,29] [3,9,10,11,34]), (8, ri [0,3,6,7,13,14,15] [3,10,11]), (5, ri [0,3,6,7,13,14,15] [3,10,11]), (9, ri [0,3,6,7,13,14,15] [3,10,11]), (10, ri [4,5] [10,11])]
noncomputable def seal_finals_nil.cx (k : Nat) : Cx := ⟨tt, pp, [(40, (Entry.alt seal_Final.sg (seal_Final.e k) (seal_Final_nil.e k))), (121, (tally_Seen.e k))], seal_finals_nil.regs, k, mm⟩
@[reducible] def seal_finals_nil.sg : Sg := ⟨[.nil, .dat tState], [], .n2m, [(.map tDot .bool), (.map tDot .bool)]⟩
noncomputable def seal_finals_nil.f (k : Nat) (a1 : Ty.D tState) : Option (Sg.Out seal_finals_nil.sg) := Sg.fn seal_finals_nil.sg (seal_finals_nil.cx k) seal_finals_nil.body seal_finals_nil.rs a1
noncomputable def seal_finals_nil.l3 (k : Nat) (n : Nat) (x13 : Ty.D (.slc tTxn)) (x14 : Ty.D (.int .i64)) (x15 : Ty.D (.int .i64)) (m3 : Ty.D tState) (m10 : Ty.D (.map tDot .bool)) (m11 : Ty.D (.map tDot .bool)) : Option (Sg.Out seal_finals_nil.sg) := loopAt (seal_finals_nil.cx k) seal_finals_nil.body [1, 1, 0, 1, 0] 3 [0, 3, 6, 7, 13, 14, 15] [3, 10, 11] [] (Sg.K seal_finals_nil.sg (seal_finals_nil.cx k) seal_finals_nil.rs) n ⟨[(0, .nilp), (3, .ref 3 []), (6, .mref 10), (7, .mref 11), (13, .dat (.slc tTxn) x13), (14, .dat (.int .i64) x14), (15, .dat (.int .i64) x15)], [(3, .dat tState m3), (10, .dat (.map tDot .bool) m10), (11, .dat (.map tDot .bool) m11)]⟩
theorem seal_finals_nil.f_eq (k : Nat) (a1 : Ty.D tState) : seal_finals_nil.f k a1 = seal_finals_nil.l3 k k a1.1 (ilen a1.1) 0 a1 [] [] := by kernel_rfl
theorem seal_finals_nil.l3_eq (k : Nat) (n3 : Nat) (x13 : Ty.D (.slc tTxn)) (x14 : Ty.D (.int .i64)) (x15 : Ty.D (.int .i64)) (m3 : Ty.D tState) (m10 : Ty.D (.map tDot .bool)) (m11 : Ty.D (.map tDot .bool)) : seal_finals_nil.l3 k (n3 + 1) x13 x14 x15 m3 m10 m11 = br (ilt x15 x14) (br (inL x15 x13) (bnd (seal_Final_nil.f k m3 ((rd tTxn x13 (natOf x15)).1)) fun r0 => br (bnot r0) (seal_finals_nil.l3 k n3 x13 x14 (iadd .i64 x15 1) m3 m10 m11) (bnd (tally_Seen.f k m3.2.1 ((rd tTxn x13 (natOf x15)).1)) fun r1 => br r1 (seal_finals_nil.l3 k n3 x13 x14 (iadd .i64 x15 1) m3 (mput tDot .bool m10 ((rd tTxn x13 (natOf x15)).1) true) m11) (seal_finals_nil.l3 k n3 x13 x14 (iadd .i64 x15 1) m3 m10 (mput tDot .bool m11 ((rd tTxn x13 (natOf x15)).1) true)))) none) (some ((), (m10, m11))) := by kernel_rfl
noncomputable def seal_finals_nil.e (k : Nat) : Entry := Sg.entry seal_finals_nil.sg fun x => seal_finals_nil.f k x
theorem seal_finals_nil.ok (k : Nat) : CallOK Tryz.prog 78 (seal_finals_nil.e k) := fn_ok (c := seal_finals_nil.cx k) (code := seal_finals_nil.body) (TT.of tt_ok pp_ok mm_ok) (fns_ok ⟨(alt_ok (seal_Final.ok k) (seal_Final_nil.ok k)), (tally_Seen.ok k), trivial⟩) mixed Tryz.func78 (by kernel_rfl) (by kernel_rfl) (by kernel_rfl) (by kernel_rfl) (by kernel_rfl) (by kernel_rfl) (fun x => by kernel_rfl)
noncomputable def seal_Compact_nil.body : Go.Code := Tryz.f36.body.getD .skip
noncomputable def seal_Compact_nil.rs : List Go.ResultVar := Tryz.f36.results.toList
def seal_Compact_nil.regs : List (Nat × RInfo) := [(0, ⟨[0, 3, 4], [3, 4, 74], [0], [], 0, [], [], [], [], []⟩), (1, ri [3,4,5,6] [3,4,24,74,500024]), (2, ri [3,4,5,6,7] [3,4,24,27,74,500024]), (3, ri [3,4,5,6,7,29,30,31] [3,4,24,27,74,500024]), (4, ⟨[3, 4, 5, 6, 7, 29, 30, 31, 32], [3, 4, 24, 27, 74, 500024], [], [], 0, [3, 4, 5, 6, 7, 29, 30, 31], [3, 4, 24, 27, 74, 500024], [], [], []⟩), (5, ⟨[3, 4, 5, 6, 7, 9, 29, 30, 31], [3, 4, 9, 24, 27, 74, 500024], [3], [], 0, [], [], [], [], []⟩), (6, ri [3,4,5,6,7,9,29,30,31,36,37,38] [3,4,9,24,27,74,500024]), (7, ⟨[3, 4, 5, 6, 7, 9, 29, 30, 31, 36, 37, 38, 39], [3, 4, 9, 24, 27, 74, 500024], [], [], 0, [3, 4, 5, 6, 7, 9, 29, 30, 31, 36, 37, 38], [3, 4, 9, 24, 27, 74, 500024], [], [], []⟩), (8, ⟨[3, 4, 5, 6, 7, 9, 11, 29, 30, 31, 36, 37, 38], [3, 4, 9, 11, 24, 27, 74, 500024], [3], [], 0, [], [], [], [], []⟩), (9, ri [3,4,5,6,7,9,29,30,31,36,37,38,43,44,45] [3,4,9,24,27,74,500024]), (10, ⟨[3, 4, 5, 6, 7, 9, 29, 30, 31, 36, 37, 38, 43, 44, 45, 46], [3, 4, 9, 24, 27, 74, 500024], [], [], 0, [3, 4, 5, 6, 7, 9, 29, 30, 31, 36, 37, 38, 43, 44, 45], [3, 4, 9, 24, 27, 74, 500024], [], [], []⟩), (11, ri [3,4,5,6,7,9,13,29,30,31,36,37,38,43,44,45] [3,4,9,13,24,27,74,500024]), (12, ⟨[3, 4, 5, 6, 7, 9, 29, 30, 31, 36, 37, 38, 43, 44, 45], [3, 4, 9, 24, 27, 74, 500024], [], [], 11, [], [], [], [[], [], [], [], [3], [4, 3], [4, 3], [4, 3], [4, 3], [4, 3, 8], [4, 3, 9, 8], [1, 4, 3, 9, 8]], []⟩), (13, ri [3,4,5,6,7,9,29,30,31,36,37,38,43,44,45] [3,4,9,24,27,74,500024]), (14, ri [3,4,5,6,7,9,29,30,31,36,37,38] [3,4,9,24,27,74,500024]), (15, ri [3,4,5,6,7,29,30,31] [3,4,24,27,74,500024]), (16, ⟨[3, 4, 5, 6, 7, 14], [3, 4, 14, 24, 27, 74, 500024], [2], [], 0, [], [], [], [], []⟩), (17, ri [3,4,5,6,7,14] [3,4,14,24,27,74,500024]), (18, ri [4,5,6,7,14,66,67,68] [4,14,24,27,74,500024]), (19, ⟨[4, 5, 6, 7, 14, 66, 67, 68, 69], [4, 14, 24, 27, 74, 500024], [], [], 0, [4, 5, 6, 7, 14, 66, 67, 68], [4, 14, 24, 27, 74, 500024], [], [], []⟩), (20, ⟨[4, 5, 6, 7, 14, 16, 66, 67, 68], [4, 14, 16, 24, 27, 74, 500024], [3], [], 0, [], [], [], [], []⟩), (21, ⟨[4, 5, 6, 7, 14, 16, 66, 67, 68], [4, 14, 16, 24, 27, 74, 500024], [4], [2], 0, [], [], [], [], []⟩), (22, ri [4,5,6,7,14,16,66,67,68,77,78,79] [4,14,16,24,27,74,500024]), (23, ⟨[4, 5, 6, 7, 14, 16, 66, 67, 68, 77, 78, 79, 80], [4, 14, 16, 24, 27, 74, 500024], [], [], 0, [4, 5, 6, 7, 14, 16, 66, 67, 68, 77, 78, 79], [4, 14, 16, 24, 27, 74, 500024], [], [], []⟩), (24, ⟨[4, 5, 6, 7, 14, 16, 17, 18, 66, 67, 68, 77, 78, 79], [4, 14, 16, 18, 24, 27, 74, 500024], [5], [], 0, [], [], [], [], []⟩), (25, ri [4,5,6,7,14,16,17,18,19,66,67,68,77,78,79] [4,14,16,18,24,27,74,500024]), (26, ri [4,5,6,7,14,16,17,18,20,66,67,68,77,78,79] [4,14,16,18,24,27,74,500024]), (27, ri [4,5,6,7,14,16,17,66,67,68,77,78,79,129] [4,14,16,24,27,74,500024]), (28, ⟨[4, 5, 6, 7, 14, 16, 66, 67, 68, 77, 78, 79], [4, 14, 16, 24, 27, 74, 500024], [5], [], 0, [], [], [], [], []⟩), (29, ri [4,5,6,7,14,16,66,67,68,77,78,79] [4,14,16,24,27,74,500024]), (30, ⟨[4, 5, 6, 7, 14, 66, 67, 68], [4, 14, 24, 27, 74, 500024], [1, 4, 6], [], 0, [], [], [], [], [74]⟩), (31, ⟨[4, 5, 6, 7, 14, 66, 67, 68], [4, 14, 24, 27, 74, 500024], [], [], 0, [], [], [], [], [74]⟩), (32, ⟨[4], [4, 74], [1], [], 0, [], [], [], [], [74]⟩)]
noncomputable def seal_Compact_nil.cx (k : Nat) : Cx := ⟨tt, pp, [(78, (Entry.alt seal_finals.sg (seal_finals.e k) (seal_finals_nil.e k))), (79, (cloneE tOp)), (80, (op_Gone.e k))], seal_Compact_nil.regs, k, mm⟩
@[reducible] def seal_Compact_nil.sg : Sg := ⟨[.nil, .dat tState], [], .dat tState, []⟩
noncomputable def seal_Compact_nil.f (k : Nat) (a1 : Ty.D tState) : Option (Sg.Out seal_Compact_nil.sg) := Sg.fn seal_Compact_nil.sg (seal_Compact_nil.cx k) seal_Compact_nil.body seal_Compact_nil.rs a1
noncomputable def seal_Compact_nil.l4 (k : Nat) (n : Nat) (x29 : Ty.D (.slc tTxn)) (x30 : Ty.D (.int .i64)) (x31 : Ty.D (.int .i64)) (m3 : Ty.D tState) (m4a : List (Ty.D tTxn)) (m4ba : List (Ty.D tUndo)) (m4bbaa : Ty.D tVec) (m4bbab : List (Ty.D tDot)) (m4bbbaa : Ty.D tVec) (m4bbbab : List (Ty.D tDot)) (m4bbbb : Ty.D (.arr 8 (.slc tDot))) (m24 : Ty.D (.map tDot .bool)) (m27 : Ty.D (.map tUndo .bool)) (m500024 : Ty.D (.map tDot .bool)) : Option (Sg.Out seal_Compact_nil.sg) := loopAt (seal_Compact_nil.cx k) seal_Compact_nil.body [1, 1, 1, 0, 1, 0] 4 [3, 4, 5, 6, 7, 29, 30, 31] [3, 4, 24, 27, 74, 500024] [] (Sg.K seal_Compact_nil.sg (seal_Compact_nil.cx k) seal_Compact_nil.rs) n ⟨[(3, .ref 3 []), (4, .ref 4 []), (5, .mref 24), (6, .mref 500024), (7, .mref 27), (29, .dat (.slc tTxn) x29), (30, .dat (.int .i64) x30), (31, .dat (.int .i64) x31)], [(3, .dat tState m3), (4, .pr (.own tTxn m4a) (.pr (.own tUndo m4ba) (.pr (.pr (.dat tVec m4bbaa) (.own tDot m4bbab)) (.pr (.pr (.dat tVec m4bbbaa) (.own tDot m4bbbab)) (.dat (.arr 8 (.slc tDot)) m4bbbb))))), (24, .dat (.map tDot .bool) m24), (27, .dat (.map tUndo .bool) m27), (500024, .dat (.map tDot .bool) m500024)]⟩
noncomputable def seal_Compact_nil.l7 (k : Nat) (n4 : Nat) (n : Nat) (x29 : Ty.D (.slc tTxn)) (x30 : Ty.D (.int .i64)) (x31 : Ty.D (.int .i64)) (x36 : Ty.D (.slc tOp)) (x37 : Ty.D (.int .i64)) (x38 : Ty.D (.int .i64)) (m3 : Ty.D tState) (m4a : List (Ty.D tTxn)) (m4ba : List (Ty.D tUndo)) (m4bbaa : Ty.D tVec) (m4bbab : List (Ty.D tDot)) (m4bbbaa : Ty.D tVec) (m4bbbab : List (Ty.D tDot)) (m4bbbb : Ty.D (.arr 8 (.slc tDot))) (m9 : Ty.D tTxn) (m24 : Ty.D (.map tDot .bool)) (m27 : Ty.D (.map tUndo .bool)) (m500024 : Ty.D (.map tDot .bool)) : Option (Sg.Out seal_Compact_nil.sg) := loopAt (seal_Compact_nil.cx k) seal_Compact_nil.body [1, 1, 1, 0, 1, 0, 0, 1, 1, 0, 0, 1, 1, 0] 7 [3, 4, 5, 6, 7, 9, 29, 30, 31, 36, 37, 38] [3, 4, 9, 24, 27, 74, 500024] [n4] (Sg.K seal_Compact_nil.sg (seal_Compact_nil.cx k) seal_Compact_nil.rs) n ⟨[(3, .ref 3 []), (4, .ref 4 []), (5, .mref 24), (6, .mref 500024), (7, .mref 27), (9, .ref 9 []), (29, .dat (.slc tTxn) x29), (30, .dat (.int .i64) x30), (31, .dat (.int .i64) x31), (36, .dat (.slc tOp) x36), (37, .dat (.int .i64) x37), (38, .dat (.int .i64) x38)], [(3, .dat tState m3), (4, .pr (.own tTxn m4a) (.pr (.own tUndo m4ba) (.pr (.pr (.dat tVec m4bbaa) (.own tDot m4bbab)) (.pr (.pr (.dat tVec m4bbbaa) (.own tDot m4bbbab)) (.dat (.arr 8 (.slc tDot)) m4bbbb))))), (9, .dat tTxn m9), (24, .dat (.map tDot .bool) m24), (27, .dat (.map tUndo .bool) m27), (500024, .dat (.map tDot .bool) m500024)]⟩
noncomputable def seal_Compact_nil.l19 (k : Nat) (n : Nat) (x66 : Ty.D (.slc tTxn)) (x67 : Ty.D (.int .i64)) (x68 : Ty.D (.int .i64)) (m4a : List (Ty.D tTxn)) (m4ba : List (Ty.D tUndo)) (m4bbaa : Ty.D tVec) (m4bbab : List (Ty.D tDot)) (m4bbbaa : Ty.D tVec) (m4bbbab : List (Ty.D tDot)) (m4bbbb : Ty.D (.arr 8 (.slc tDot))) (m14a : List (Ty.D tTxn)) (m14b : Ty.D (.pair (.slc tUndo) (.pair tDots (.pair tDots (.arr 8 (.slc tDot)))))) (m24 : Ty.D (.map tDot .bool)) (m27 : Ty.D (.map tUndo .bool)) (m500024 : Ty.D (.map tDot .bool)) : Option (Sg.Out seal_Compact_nil.sg) := loopAt (seal_Compact_nil.cx k) seal_Compact_nil.body [1, 1, 1, 1, 1, 1, 0, 1, 0] 19 [4, 5, 6, 7, 14, 66, 67, 68] [4, 14, 24, 27, 74, 500024] [] (Sg.K seal_Compact_nil.sg (seal_Compact_nil.cx k) seal_Compact_nil.rs) n ⟨[(4, .ref 4 []), (5, .mref 24), (6, .mref 500024), (7, .mref 27), (14, .ref 14 []), (66, .dat (.slc tTxn) x66), (67, .dat (.int .i64) x67), (68, .dat (.int .i64) x68)], [(4, .pr (.own tTxn m4a) (.pr (.own tUndo m4ba) (.pr (.pr (.dat tVec m4bbaa) (.own tDot m4bbab)) (.pr (.pr (.dat tVec m4bbbaa) (.own tDot m4bbbab)) (.dat (.arr 8 (.slc tDot)) m4bbbb))))), (14, .pr (.own tTxn m14a) (.dat (.pair (.slc tUndo) (.pair tDots (.pair tDots (.arr 8 (.slc tDot))))) m14b)), (24, .dat (.map tDot .bool) m24), (27, .dat (.map tUndo .bool) m27), (500024, .dat (.map tDot .bool) m500024)]⟩
noncomputable def seal_Compact_nil.l10 (k : Nat) (n4 : Nat) (n7 : Nat) (n : Nat) (x29 : Ty.D (.slc tTxn)) (x30 : Ty.D (.int .i64)) (x31 : Ty.D (.int .i64)) (x36 : Ty.D (.slc tOp)) (x37 : Ty.D (.int .i64)) (x38 : Ty.D (.int .i64)) (x43 : Ty.D (.slc tUndo)) (x44 : Ty.D (.int .i64)) (x45 : Ty.D (.int .i64)) (m3 : Ty.D tState) (m4a : List (Ty.D tTxn)) (m4ba : List (Ty.D tUndo)) (m4bbaa : Ty.D tVec) (m4bbab : List (Ty.D tDot)) (m4bbbaa : Ty.D tVec) (m4bbbab : List (Ty.D tDot)) (m4bbbb : Ty.D (.arr 8 (.slc tDot))) (m9 : Ty.D tTxn) (m24 : Ty.D (.map tDot .bool)) (m27 : Ty.D (.map tUndo .bool)) (m500024 : Ty.D (.map tDot .bool)) : Option (Sg.Out seal_Compact_nil.sg) := loopAt (seal_Compact_nil.cx k) seal_Compact_nil.body [1, 1, 1, 0, 1, 0, 0, 1, 1, 0, 0, 1, 1, 0, 0, 1, 1, 0, 0, 1, 1, 0] 10 [3, 4, 5, 6, 7, 9, 29, 30, 31, 36, 37, 38, 43, 44, 45] [3, 4, 9, 24, 27, 74, 500024] [n4, n7] (Sg.K seal_Compact_nil.sg (seal_Compact_nil.cx k) seal_Compact_nil.rs) n ⟨[(3, .ref 3 []), (4, .ref 4 []), (5, .mref 24), (6, .mref 500024), (7, .mref 27), (9, .ref 9 []), (29, .dat (.slc tTxn) x29), (30, .dat (.int .i64) x30), (31, .dat (.int .i64) x31), (36, .dat (.slc tOp) x36), (37, .dat (.int .i64) x37), (38, .dat (.int .i64) x38), (43, .dat (.slc tUndo) x43), (44, .dat (.int .i64) x44), (45, .dat (.int .i64) x45)], [(3, .dat tState m3), (4, .pr (.own tTxn m4a) (.pr (.own tUndo m4ba) (.pr (.pr (.dat tVec m4bbaa) (.own tDot m4bbab)) (.pr (.pr (.dat tVec m4bbbaa) (.own tDot m4bbbab)) (.dat (.arr 8 (.slc tDot)) m4bbbb))))), (9, .dat tTxn m9), (24, .dat (.map tDot .bool) m24), (27, .dat (.map tUndo .bool) m27), (500024, .dat (.map tDot .bool) m500024)]⟩
noncomputable def seal_Compact_nil.l23 (k : Nat) (n19 : Nat) (n : Nat) (x66 : Ty.D (.slc tTxn)) (x67 : Ty.D (.int .i64)) (x68 : Ty.D (.int .i64)) (x77n : Int) (x78 : Ty.D (.int .i64)) (x79 : Ty.D (.int .i64)) (m4a : List (Ty.D tTxn)) (m4ba : List (Ty.D tUndo)) (m4bbaa : Ty.D tVec) (m4bbab : List (Ty.D tDot)) (m4bbbaa : Ty.D tVec) (m4bbbab : List (Ty.D tDot)) (m4bbbb : Ty.D (.arr 8 (.slc tDot))) (m14a : List (Ty.D tTxn)) (m14b : Ty.D (.pair (.slc tUndo) (.pair tDots (.pair tDots (.arr 8 (.slc tDot)))))) (m16a : Ty.D tDot) (m16ba : Ty.D (.int .i64)) (m16bba : Ty.D (.int .i64)) (m16bbba : Ty.D .bool) (m16bbbbn : Int) (m24 : Ty.D (.map tDot .bool)) (m27 : Ty.D (.map tUndo .bool)) (m74 : List (Ty.D tOp)) (m500024 : Ty.D (.map tDot .bool)) : Option (Sg.Out seal_Compact_nil.sg) := loopAt (seal_Compact_nil.cx k) seal_Compact_nil.body [1, 1, 1, 1, 1, 1, 0, 1, 0, 0, 1, 1, 0, 0, 1, 1, 0, 1, 0] 23 [4, 5, 6, 7, 14, 16, 66, 67, 68, 77, 78, 79] [4, 14, 16, 24, 27, 74, 500024] [n19] (Sg.K seal_Compact_nil.sg (seal_Compact_nil.cx k) seal_Compact_nil.rs) n ⟨[(4, .ref 4 []), (5, .mref 24), (6, .mref 500024), (7, .mref 27), (14, .ref 14 []), (16, .ref 16 []), (66, .dat (.slc tTxn) x66), (67, .dat (.int .i64) x67), (68, .dat (.int .i64) x68), (77, .vref 74 tOp x77n), (78, .dat (.int .i64) x78), (79, .dat (.int .i64) x79)], [(4, .pr (.own tTxn m4a) (.pr (.own tUndo m4ba) (.pr (.pr (.dat tVec m4bbaa) (.own tDot m4bbab)) (.pr (.pr (.dat tVec m4bbbaa) (.own tDot m4bbbab)) (.dat (.arr 8 (.slc tDot)) m4bbbb))))), (14, .pr (.own tTxn m14a) (.dat (.pair (.slc tUndo) (.pair tDots (.pair tDots (.arr 8 (.slc tDot))))) m14b)), (16, .pr (.dat tDot m16a) (.pr (.dat (.int .i64) m16ba) (.pr (.dat (.int .i64) m16bba) (.pr (.dat .bool m16bbba) (.vref 74 tOp m16bbbbn))))), (24, .dat (.map tDot .bool) m24), (27, .dat (.map tUndo .bool) m27), (74, .vec 74 tOp m74), (500024, .dat (.map tDot .bool) m500024)]⟩
theorem seal_Compact_nil.f_eq (k : Nat) (a1 : Ty.D tState) : seal_Compact_nil.f k a1 = bnd (seal_finals_nil.f k a1) fun r0 => seal_Compact_nil.l4 k k a1.1 (ilen a1.1) 0 a1 [] [] (zarr 16 0) [] (zarr 16 0) [] (zarr 8 []) r0.2.1 [] r0.2.2 := by kernel_rfl
theorem seal_Compact_nil.l4_eq (k : Nat) (n4 : Nat) (x29 : Ty.D (.slc tTxn)) (x30 : Ty.D (.int .i64)) (x31 : Ty.D (.int .i64)) (m3 : Ty.D tState) (m4a : List (Ty.D tTxn)) (m4ba : List (Ty.D tUndo)) (m4bbaa : Ty.D tVec) (m4bbab : List (Ty.D tDot)) (m4bbbaa : Ty.D tVec) (m4bbbab : List (Ty.D tDot)) (m4bbbb : Ty.D (.arr 8 (.slc tDot))) (m24 : Ty.D (.map tDot .bool)) (m27 : Ty.D (.map tUndo .bool)) (m500024 : Ty.D (.map tDot .bool)) : seal_Compact_nil.l4 k (n4 + 1) x29 x30 x31 m3 m4a m4ba m4bbaa m4bbab m4bbbaa m4bbbab m4bbbb m24 m27 m500024 = br (ilt x31 x30) (br (inL x31 x29) (seal_Compact_nil.l7 k n4 k x29 x30 x31 (((((rd tTxn x29 (natOf x31)).2).2).2).2) (ilen (((((rd tTxn x29 (natOf x31)).2).2).2).2)) 0 m3 m4a m4ba m4bbaa m4bbab m4bbbaa m4bbbab m4bbbb (rd tTxn x29 (natOf x31)) m24 m27 m500024) none) (seal_Compact_nil.l19 k k m3.1 (ilen m3.1) 0 m4a m4ba m4bbaa m4bbab m4bbbaa m4bbbab m4bbbb [] m3.2 m24 m27 m500024) := by kernel_rfl
theorem seal_Compact_nil.l7_eq (k : Nat) (n4 : Nat) (n7 : Nat) (x29 : Ty.D (.slc tTxn)) (x30 : Ty.D (.int .i64)) (x31 : Ty.D (.int .i64)) (x36 : Ty.D (.slc tOp)) (x37 : Ty.D (.int .i64)) (x38 : Ty.D (.int .i64)) (m3 : Ty.D tState) (m4a : List (Ty.D tTxn)) (m4ba : List (Ty.D tUndo)) (m4bbaa : Ty.D tVec) (m4bbab : List (Ty.D tDot)) (m4bbbaa : Ty.D tVec) (m4bbbab : List (Ty.D tDot)) (m4bbbb : Ty.D (.arr 8 (.slc tDot))) (m9 : Ty.D tTxn) (m24 : Ty.D (.map tDot .bool)) (m27 : Ty.D (.map tUndo .bool)) (m500024 : Ty.D (.map tDot .bool)) : seal_Compact_nil.l7 k n4 (n7 + 1) x29 x30 x31 x36 x37 x38 m3 m4a m4ba m4bbaa m4bbab m4bbbaa m4bbbab m4bbbb m9 m24 m27 m500024 = br (ilt x38 x37) (br (inL x38 x36) (seal_Compact_nil.l10 k n4 n7 k x29 x30 x31 x36 x37 x38 (((((rd tOp x36 (natOf x38)).2).2).2).2) (ilen (((((rd tOp x36 (natOf x38)).2).2).2).2)) 0 m3 m4a m4ba m4bbaa m4bbab m4bbbaa m4bbbab m4bbbb m9 m24 m27 m500024) none) (seal_Compact_nil.l4 k n4 x29 x30 (iadd .i64 x31 1) m3 m4a m4ba m4bbaa m4bbab m4bbbaa m4bbbab m4bbbb m24 m27 m500024) := by kernel_rfl
theorem seal_Compact_nil.l19_eq (k : Nat) (n19 : Nat) (x66 : Ty.D (.slc tTxn)) (x67 : Ty.D (.int .i64)) (x68 : Ty.D (.int .i64)) (m4a : List (Ty.D tTxn)) (m4ba : List (Ty.D tUndo)) (m4bbaa : Ty.D tVec) (m4bbab : List (Ty.D tDot)) (m4bbbaa : Ty.D tVec) (m4bbbab : List (Ty.D tDot)) (m4bbbb : Ty.D (.arr 8 (.slc tDot))) (m14a : List (Ty.D tTxn)) (m14b : Ty.D (.pair (.slc tUndo) (.pair tDots (.pair tDots (.arr 8 (.slc tDot)))))) (m24 : Ty.D (.map tDot .bool)) (m27 : Ty.D (.map tUndo .bool)) (m500024 : Ty.D (.map tDot .bool)) : seal_Compact_nil.l19 k (n19 + 1) x66 x67 x68 m4a m4ba m4bbaa m4bbab m4bbbaa m4bbbab m4bbbb m14a m14b m24 m27 m500024 = br (ilt x68 x67) (br (inL x68 x66) (br (room ([] : List Int) (((((rd tTxn x66 (natOf x68)).2).2).2).2)) (seal_Compact_nil.l23 k n19 k x66 x67 x68 (ilen (((((rd tTxn x66 (natOf x68)).2).2).2).2)) (ilen (((((rd tTxn x66 (natOf x68)).2).2).2).2)) 0 m4a m4ba m4bbaa m4bbab m4bbbaa m4bbbab m4bbbb m14a m14b ((rd tTxn x66 (natOf x68)).1) (((rd tTxn x66 (natOf x68)).2).1) ((((rd tTxn x66 (natOf x68)).2).2).1) (((((rd tTxn x66 (natOf x68)).2).2).2).1) (ilen (((((rd tTxn x66 (natOf x68)).2).2).2).2)) m24 m27 (((((rd tTxn x66 (natOf x68)).2).2).2).2) m500024) none) none) (some (m14a, m14b)) := by kernel_rfl
theorem seal_Compact_nil.l10_eq (k : Nat) (n4 : Nat) (n7 : Nat) (n10 : Nat) (x29 : Ty.D (.slc tTxn)) (x30 : Ty.D (.int .i64)) (x31 : Ty.D (.int .i64)) (x36 : Ty.D (.slc tOp)) (x37 : Ty.D (.int .i64)) (x38 : Ty.D (.int .i64)) (x43 : Ty.D (.slc tUndo)) (x44 : Ty.D (.int .i64)) (x45 : Ty.D (.int .i64)) (m3 : Ty.D tState) (m4a : List (Ty.D tTxn)) (m4ba : List (Ty.D tUndo)) (m4bbaa : Ty.D tVec) (m4bbab : List (Ty.D tDot)) (m4bbbaa : Ty.D tVec) (m4bbbab : List (Ty.D tDot)) (m4bbbb : Ty.D (.arr 8 (.slc tDot))) (m9 : Ty.D tTxn) (m24 : Ty.D (.map tDot .bool)) (m27 : Ty.D (.map tUndo .bool)) (m500024 : Ty.D (.map tDot .bool)) : seal_Compact_nil.l10 k n4 n7 (n10 + 1) x29 x30 x31 x36 x37 x38 x43 x44 x45 m3 m4a m4ba m4bbaa m4bbab m4bbbaa m4bbbab m4bbbb m9 m24 m27 m500024 = br (ilt x45 x44) (br (inL x45 x43) (br (mget tUndo .bool m27 (rd tUndo x43 (natOf x45))) (seal_Compact_nil.l10 k n4 n7 n10 x29 x30 x31 x36 x37 x38 x43 x44 (iadd .i64 x45 1) m3 m4a m4ba m4bbaa m4bbab m4bbbaa m4bbbab m4bbbb m9 m24 (mput tUndo .bool m27 (rd tUndo x43 (natOf x45)) true) m500024) (seal_Compact_nil.l10 k n4 n7 n10 x29 x30 x31 x36 x37 x38 x43 x44 (iadd .i64 x45 1) m3 m4a m4ba m4bbaa m4bbab m4bbbaa m4bbbab m4bbbb m9 m24 (mput tUndo .bool m27 (rd tUndo x43 (natOf x45)) (mget tDot .bool m24 m9.1)) m500024)) none) (seal_Compact_nil.l7 k n4 n7 x29 x30 x31 x36 x37 (iadd .i64 x38 1) m3 m4a m4ba m4bbaa m4bbab m4bbbaa m4bbbab m4bbbb m9 m24 m27 m500024) := by kernel_rfl
theorem seal_Compact_nil.l23_eq (k : Nat) (n19 : Nat) (n23 : Nat) (x66 : Ty.D (.slc tTxn)) (x67 : Ty.D (.int .i64)) (x68 : Ty.D (.int .i64)) (x77n : Int) (x78 : Ty.D (.int .i64)) (x79 : Ty.D (.int .i64)) (m4a : List (Ty.D tTxn)) (m4ba : List (Ty.D tUndo)) (m4bbaa : Ty.D tVec) (m4bbab : List (Ty.D tDot)) (m4bbbaa : Ty.D tVec) (m4bbbab : List (Ty.D tDot)) (m4bbbb : Ty.D (.arr 8 (.slc tDot))) (m14a : List (Ty.D tTxn)) (m14b : Ty.D (.pair (.slc tUndo) (.pair tDots (.pair tDots (.arr 8 (.slc tDot)))))) (m16a : Ty.D tDot) (m16ba : Ty.D (.int .i64)) (m16bba : Ty.D (.int .i64)) (m16bbba : Ty.D .bool) (m16bbbbn : Int) (m24 : Ty.D (.map tDot .bool)) (m27 : Ty.D (.map tUndo .bool)) (m74 : List (Ty.D tOp)) (m500024 : Ty.D (.map tDot .bool)) : seal_Compact_nil.l23 k n19 (n23 + 1) x66 x67 x68 x77n x78 x79 m4a m4ba m4bbaa m4bbab m4bbbaa m4bbbab m4bbbb m14a m14b m16a m16ba m16bba m16bbba m16bbbbn m24 m27 m74 m500024 = br (ilt x79 x78) (br (inI x79 x77n) (br (inL x79 m74) (br (ieq ((rd tOp m74 (natOf x79)).1) 1) (br (mget tDot .bool m24 m16a) (br (mget tUndo .bool m27 (m16a, x79)) (bnd (op_Gone.f k (rd tOp m74 (natOf x79))) fun r0 => br (bnot r0) (br (mget tDot .bool m500024 m16a) (br (inI x79 m16bbbbn) (br (inL x79 m74) (seal_Compact_nil.l23 k n19 n23 x66 x67 x68 x77n x78 (iadd .i64 x79 1) m4a m4ba m4bbaa m4bbab m4bbbaa m4bbbab m4bbbb m14a m14b m16a m16ba m16bba true m16bbbbn m24 m27 (upd m74 (natOf x79) (0, ([], ((0, (0, [])), (0, []))))) m500024) none) none) (br (ieq (ilen (((((rd tOp m74 (natOf x79)).2).2).2).2)) 0) (br (inI x79 m16bbbbn) (br (inL x79 m74) (seal_Compact_nil.l23 k n19 n23 x66 x67 x68 x77n x78 (iadd .i64 x79 1) m4a m4ba m4bbaa m4bbab m4bbbaa m4bbbab m4bbbb m14a m14b m16a m16ba m16bba true m16bbbbn m24 m27 (upd m74 (natOf x79) (0, ([], ((0, (0, [])), (0, []))))) m500024) none) none) (seal_Compact_nil.l23 k n19 n23 x66 x67 x68 x77n x78 (iadd .i64 x79 1) m4a m4ba m4bbaa m4bbab m4bbbaa m4bbbab m4bbbb m14a m14b m16a m16ba m16bba m16bbba m16bbbbn m24 m27 m74 m500024))) (seal_Compact_nil.l23 k n19 n23 x66 x67 x68 x77n x78 (iadd .i64 x79 1) m4a m4ba m4bbaa m4bbab m4bbbaa m4bbbab m4bbbb m14a m14b m16a m16ba m16bba m16bbba m16bbbbn m24 m27 m74 m500024)) (bnd (op_Gone.f k (rd tOp m74 (natOf x79))) fun r1 => br (bnot r1) (br (mget tDot .bool m500024 m16a) (br (inI x79 m16bbbbn) (br (inL x79 m74) (seal_Compact_nil.l23 k n19 n23 x66 x67 x68 x77n x78 (iadd .i64 x79 1) m4a m4ba m4bbaa m4bbab m4bbbaa m4bbbab m4bbbb m14a m14b m16a m16ba m16bba true m16bbbbn m24 m27 (upd m74 (natOf x79) (0, ([], ((0, (0, [])), (0, []))))) m500024) none) none) (seal_Compact_nil.l23 k n19 n23 x66 x67 x68 x77n x78 (iadd .i64 x79 1) m4a m4ba m4bbaa m4bbab m4bbbaa m4bbbab m4bbbb m14a m14b m16a m16ba m16bba m16bbba m16bbbbn m24 m27 m74 m500024)) (seal_Compact_nil.l23 k n19 n23 x66 x67 x68 x77n x78 (iadd .i64 x79 1) m4a m4ba m4bbaa m4bbab m4bbbaa m4bbbab m4bbbb m14a m14b m16a m16ba m16bba m16bbba m16bbbbn m24 m27 m74 m500024))) (bnd (op_Gone.f k (rd tOp m74 (natOf x79))) fun r2 => br (bnot r2) (br (mget tDot .bool m500024 m16a) (br (inI x79 m16bbbbn) (br (inL x79 m74) (seal_Compact_nil.l23 k n19 n23 x66 x67 x68 x77n x78 (iadd .i64 x79 1) m4a m4ba m4bbaa m4bbab m4bbbaa m4bbbab m4bbbb m14a m14b m16a m16ba m16bba true m16bbbbn m24 m27 (upd m74 (natOf x79) (0, ([], ((0, (0, [])), (0, []))))) m500024) none) none) (seal_Compact_nil.l23 k n19 n23 x66 x67 x68 x77n x78 (iadd .i64 x79 1) m4a m4ba m4bbaa m4bbab m4bbbaa m4bbbab m4bbbb m14a m14b m16a m16ba m16bba m16bbba m16bbbbn m24 m27 m74 m500024)) (seal_Compact_nil.l23 k n19 n23 x66 x67 x68 x77n x78 (iadd .i64 x79 1) m4a m4ba m4bbaa m4bbab m4bbbaa m4bbbab m4bbbb m14a m14b m16a m16ba m16bba m16bbba m16bbbbn m24 m27 m74 m500024))) (br (ieq ((rd tOp m74 (natOf x79)).1) 2) (br (mget tDot .bool m24 m16a) (br (mget tUndo .bool m27 (m16a, x79)) (bnd (op_Gone.f k (rd tOp m74 (natOf x79))) fun r3 => br (bnot r3) (br (mget tDot .bool m500024 m16a) (br (inI x79 m16bbbbn) (br (inL x79 m74) (seal_Compact_nil.l23 k n19 n23 x66 x67 x68 x77n x78 (iadd .i64 x79 1) m4a m4ba m4bbaa m4bbab m4bbbaa m4bbbab m4bbbb m14a m14b m16a m16ba m16bba true m16bbbbn m24 m27 (upd m74 (natOf x79) (0, ([], ((0, (0, [])), (0, []))))) m500024) none) none) (br (ieq (ilen (((((rd tOp m74 (natOf x79)).2).2).2).2)) 0) (br (inI x79 m16bbbbn) (br (inL x79 m74) (seal_Compact_nil.l23 k n19 n23 x66 x67 x68 x77n x78 (iadd .i64 x79 1) m4a m4ba m4bbaa m4bbab m4bbbaa m4bbbab m4bbbb m14a m14b m16a m16ba m16bba true m16bbbbn m24 m27 (upd m74 (natOf x79) (0, ([], ((0, (0, [])), (0, []))))) m500024) none) none) (seal_Compact_nil.l23 k n19 n23 x66 x67 x68 x77n x78 (iadd .i64 x79 1) m4a m4ba m4bbaa m4bbab m4bbbaa m4bbbab m4bbbb m14a m14b m16a m16ba m16bba m16bbba m16bbbbn m24 m27 m74 m500024))) (seal_Compact_nil.l23 k n19 n23 x66 x67 x68 x77n x78 (iadd .i64 x79 1) m4a m4ba m4bbaa m4bbab m4bbbaa m4bbbab m4bbbb m14a m14b m16a m16ba m16bba m16bbba m16bbbbn m24 m27 m74 m500024)) (bnd (op_Gone.f k (rd tOp m74 (natOf x79))) fun r4 => br (bnot r4) (br (mget tDot .bool m500024 m16a) (br (inI x79 m16bbbbn) (br (inL x79 m74) (seal_Compact_nil.l23 k n19 n23 x66 x67 x68 x77n x78 (iadd .i64 x79 1) m4a m4ba m4bbaa m4bbab m4bbbaa m4bbbab m4bbbb m14a m14b m16a m16ba m16bba true m16bbbbn m24 m27 (upd m74 (natOf x79) (0, ([], ((0, (0, [])), (0, []))))) m500024) none) none) (seal_Compact_nil.l23 k n19 n23 x66 x67 x68 x77n x78 (iadd .i64 x79 1) m4a m4ba m4bbaa m4bbab m4bbbaa m4bbbab m4bbbb m14a m14b m16a m16ba m16bba m16bbba m16bbbbn m24 m27 m74 m500024)) (seal_Compact_nil.l23 k n19 n23 x66 x67 x68 x77n x78 (iadd .i64 x79 1) m4a m4ba m4bbaa m4bbab m4bbbaa m4bbbab m4bbbb m14a m14b m16a m16ba m16bba m16bbba m16bbbbn m24 m27 m74 m500024))) (bnd (op_Gone.f k (rd tOp m74 (natOf x79))) fun r5 => br (bnot r5) (br (mget tDot .bool m500024 m16a) (br (inI x79 m16bbbbn) (br (inL x79 m74) (seal_Compact_nil.l23 k n19 n23 x66 x67 x68 x77n x78 (iadd .i64 x79 1) m4a m4ba m4bbaa m4bbab m4bbbaa m4bbbab m4bbbb m14a m14b m16a m16ba m16bba true m16bbbbn m24 m27 (upd m74 (natOf x79) (0, ([], ((0, (0, [])), (0, []))))) m500024) none) none) (seal_Compact_nil.l23 k n19 n23 x66 x67 x68 x77n x78 (iadd .i64 x79 1) m4a m4ba m4bbaa m4bbab m4bbbaa m4bbbab m4bbbb m14a m14b m16a m16ba m16bba m16bbba m16bbbbn m24 m27 m74 m500024)) (seal_Compact_nil.l23 k n19 n23 x66 x67 x68 x77n x78 (iadd .i64 x79 1) m4a m4ba m4bbaa m4bbab m4bbbaa m4bbbab m4bbbb m14a m14b m16a m16ba m16bba m16bbba m16bbbbn m24 m27 m74 m500024))) (br (mget tDot .bool m24 m16a) (br (ieq ((rd tOp m74 (natOf x79)).1) 3) (br (mget tUndo .bool m27 (m16a, x79)) (bnd (op_Gone.f k (rd tOp m74 (natOf x79))) fun r6 => br (bnot r6) (br (mget tDot .bool m500024 m16a) (br (inI x79 m16bbbbn) (br (inL x79 m74) (seal_Compact_nil.l23 k n19 n23 x66 x67 x68 x77n x78 (iadd .i64 x79 1) m4a m4ba m4bbaa m4bbab m4bbbaa m4bbbab m4bbbb m14a m14b m16a m16ba m16bba true m16bbbbn m24 m27 (upd m74 (natOf x79) (0, ([], ((0, (0, [])), (0, []))))) m500024) none) none) (br (ieq (ilen (((((rd tOp m74 (natOf x79)).2).2).2).2)) 0) (br (inI x79 m16bbbbn) (br (inL x79 m74) (seal_Compact_nil.l23 k n19 n23 x66 x67 x68 x77n x78 (iadd .i64 x79 1) m4a m4ba m4bbaa m4bbab m4bbbaa m4bbbab m4bbbb m14a m14b m16a m16ba m16bba true m16bbbbn m24 m27 (upd m74 (natOf x79) (0, ([], ((0, (0, [])), (0, []))))) m500024) none) none) (seal_Compact_nil.l23 k n19 n23 x66 x67 x68 x77n x78 (iadd .i64 x79 1) m4a m4ba m4bbaa m4bbab m4bbbaa m4bbbab m4bbbb m14a m14b m16a m16ba m16bba m16bbba m16bbbbn m24 m27 m74 m500024))) (seal_Compact_nil.l23 k n19 n23 x66 x67 x68 x77n x78 (iadd .i64 x79 1) m4a m4ba m4bbaa m4bbab m4bbbaa m4bbbab m4bbbb m14a m14b m16a m16ba m16bba m16bbba m16bbbbn m24 m27 m74 m500024)) (bnd (op_Gone.f k (rd tOp m74 (natOf x79))) fun r7 => br (bnot r7) (br (mget tDot .bool m500024 m16a) (br (inI x79 m16bbbbn) (br (inL x79 m74) (seal_Compact_nil.l23 k n19 n23 x66 x67 x68 x77n x78 (iadd .i64 x79 1) m4a m4ba m4bbaa m4bbab m4bbbaa m4bbbab m4bbbb m14a m14b m16a m16ba m16bba true m16bbbbn m24 m27 (upd m74 (natOf x79) (0, ([], ((0, (0, [])), (0, []))))) m500024) none) none) (seal_Compact_nil.l23 k n19 n23 x66 x67 x68 x77n x78 (iadd .i64 x79 1) m4a m4ba m4bbaa m4bbab m4bbbaa m4bbbab m4bbbb m14a m14b m16a m16ba m16bba m16bbba m16bbbbn m24 m27 m74 m500024)) (seal_Compact_nil.l23 k n19 n23 x66 x67 x68 x77n x78 (iadd .i64 x79 1) m4a m4ba m4bbaa m4bbab m4bbbaa m4bbbab m4bbbb m14a m14b m16a m16ba m16bba m16bbba m16bbbbn m24 m27 m74 m500024))) (bnd (op_Gone.f k (rd tOp m74 (natOf x79))) fun r8 => br (bnot r8) (br (mget tDot .bool m500024 m16a) (br (inI x79 m16bbbbn) (br (inL x79 m74) (seal_Compact_nil.l23 k n19 n23 x66 x67 x68 x77n x78 (iadd .i64 x79 1) m4a m4ba m4bbaa m4bbab m4bbbaa m4bbbab m4bbbb m14a m14b m16a m16ba m16bba true m16bbbbn m24 m27 (upd m74 (natOf x79) (0, ([], ((0, (0, [])), (0, []))))) m500024) none) none) (seal_Compact_nil.l23 k n19 n23 x66 x67 x68 x77n x78 (iadd .i64 x79 1) m4a m4ba m4bbaa m4bbab m4bbbaa m4bbbab m4bbbb m14a m14b m16a m16ba m16bba m16bbba m16bbbbn m24 m27 m74 m500024)) (seal_Compact_nil.l23 k n19 n23 x66 x67 x68 x77n x78 (iadd .i64 x79 1) m4a m4ba m4bbaa m4bbab m4bbbaa m4bbbab m4bbbb m14a m14b m16a m16ba m16bba m16bbba m16bbbbn m24 m27 m74 m500024))) (bnd (op_Gone.f k (rd tOp m74 (natOf x79))) fun r9 => br (bnot r9) (br (mget tDot .bool m500024 m16a) (br (inI x79 m16bbbbn) (br (inL x79 m74) (seal_Compact_nil.l23 k n19 n23 x66 x67 x68 x77n x78 (iadd .i64 x79 1) m4a m4ba m4bbaa m4bbab m4bbbaa m4bbbab m4bbbb m14a m14b m16a m16ba m16bba true m16bbbbn m24 m27 (upd m74 (natOf x79) (0, ([], ((0, (0, [])), (0, []))))) m500024) none) none) (seal_Compact_nil.l23 k n19 n23 x66 x67 x68 x77n x78 (iadd .i64 x79 1) m4a m4ba m4bbaa m4bbab m4bbbaa m4bbbab m4bbbb m14a m14b m16a m16ba m16bba m16bbba m16bbbbn m24 m27 m74 m500024)) (seal_Compact_nil.l23 k n19 n23 x66 x67 x68 x77n x78 (iadd .i64 x79 1) m4a m4ba m4bbaa m4bbab m4bbbaa m4bbbab m4bbbb m14a m14b m16a m16ba m16bba m16bbba m16bbbbn m24 m27 m74 m500024))))) none) none) (br (ieq x77n (ilen m74)) (br (ieq m16bbbbn (ilen m74)) (br (room m14a ((m16a, (m16ba, (m16bba, (m16bbba, m74)))) :: [])) (seal_Compact_nil.l19 k n19 x66 x67 (iadd .i64 x68 1) m4a m4ba m4bbaa m4bbab m4bbbaa m4bbbab m4bbbb (app m14a ((m16a, (m16ba, (m16bba, (m16bbba, m74)))) :: [])) m14b m24 m27 m500024) none) none) none) := by kernel_rfl
noncomputable def seal_Compact_nil.e (k : Nat) : Entry := Sg.entry seal_Compact_nil.sg fun x => seal_Compact_nil.f k x
theorem seal_Compact_nil.ok (k : Nat) : CallOK Tryz.prog 36 (seal_Compact_nil.e k) := fn_ok (c := seal_Compact_nil.cx k) (code := seal_Compact_nil.body) (TT.of tt_ok pp_ok mm_ok) (fns_ok ⟨(alt_ok (seal_finals.ok k) (seal_finals_nil.ok k)), cloneOp_ok, (op_Gone.ok k), trivial⟩) mixed Tryz.func36 (by kernel_rfl) (by kernel_rfl) (by kernel_rfl) (by kernel_rfl) (by kernel_rfl) (by kernel_rfl) (fun x => by kernel_rfl)
noncomputable def law30_SealGrows.body : Go.Code := Tryz.f9.body.getD .skip
noncomputable def law30_SealGrows.rs : List Go.ResultVar := Tryz.f9.results.toList
def law30_SealGrows.regs : List (Nat × RInfo) := [(0, ⟨[0, 1, 2, 4, 9, 11], [9, 11], [0, 1], [], 0, [], [], [], [], []⟩), (1, ri [4,9,11,13,15] [9,11,26,500026]), (2, ri [4,9,11,13,41] [9,11,26,500026]), (3, ri [12] [42,126,129]), (4, ⟨[4, 9, 11, 13, 16], [9, 11, 26, 45, 500026], [3], [], 0, [], [], [], [], []⟩), (5, ri [4,9,11,13,16,17] [9,11,26,45,500026]), (6, ri [4,9,11,13,16,17,18] [9,11,26,45,500026]), (7, ⟨[4, 9, 11, 13, 16, 17, 18, 50], [9, 11, 26, 45, 500026], [], [], 0, [4, 9, 11, 13, 16, 17, 18], [9, 11, 26, 45, 500026], [], [], []⟩), (9, ⟨[4, 9, 11, 13, 16, 17, 18, 61], [9, 11, 26, 45, 61, 500026], [], [], 9, [], [], [], [[], [], [], [], [], [3], [3], [3], [1, 7, 3]], []⟩), (10, ⟨[4, 9, 11, 13, 16, 17, 18], [9, 11, 26, 45, 500026], [0, 8, 9], [], 0, [], [], [], [], []⟩), (8, ri [4,9,11,13,16,17,18] [9,11,26,45,500026]), (11, ri [9,11,13,16,17] [9,11,26,45,500026]), (12, ri [9,11,13,16,17,19] [9,11,26,45,500026]), (13, ⟨[9, 11, 13, 16, 17, 19, 78], [9, 11, 26, 45, 500026], [], [], 0, [9, 11, 13, 16, 17, 19], [9, 11, 26, 45, 500026], [], [], []⟩), (15, ⟨[9, 11, 13, 16, 17, 19, 105], [9, 11, 26, 45, 500026], [], [], 25, [], [], [], [[], [], [], [], [], [], [1, 5], [], [], [], [], [], [], [8, 12, 1, 5], [1, 5, 8, 12], [1, 5, 8, 12], [1, 5, 8, 12], [1, 5, 8, 12], [1, 5, 8, 12], [1, 5, 8, 12], [1, 5, 8, 12], [1, 5, 8, 12], [1, 5, 8, 12, 17, 21], [22, 1, 5, 8, 12, 17, 21], [1, 5, 8, 12, 22, 17, 21]], []⟩), (16, ri [12] [42,126,129]), (14, ri [9,11,13,16,17,19] [9,11,26,45,500026]), (17, ⟨[9, 16, 20], [9, 45, 108], [3], [], 0, [], [], [], [], []⟩), (18, ri [9,16,20,21] [9,45,108]), (19, ⟨[12], [42, 126, 129], [], [], 22, [], [], [], [[], [], [], [], [], [], [], [], [7], [8, 7], [8, 7], [8, 7], [8, 7], [8, 7], [8, 7], [8, 7, 14], [8, 7], [15, 8, 7, 14, 16], [8, 7, 15, 14, 16], [8, 7, 15, 14, 16], [8, 7, 15, 14, 16], [8, 7, 15, 14, 16], [8, 7, 15, 14, 16]], []⟩)]
noncomputable def law30_SealGrows.cx (k : Nat) : Cx := ⟨tt, pp, [(34, (law30_begun.e k)), (25, (ref22_Good.e k)), (20, (ref24_Good.e k)), (35, (law30_awake.e k)), (38, (Entry.alt seal_Ready.sg (seal_Ready.e k) (seal_Ready_nil.e k))), (40, (Entry.alt seal_Final.sg (seal_Final.e k) (seal_Final_nil.e k))), (28, (peer_Peers_Heard.e k)), (46, (ref08_Get.e k)), (36, (Entry.alt seal_Compact.sg (seal_Compact.e k) (seal_Compact_nil.e k))), (42, (ref22_Same.e k))], law30_SealGrows.regs, k, mm⟩
@[reducible] def law30_SealGrows.sg : Sg := ⟨[.dat (.int .u8), .dat (.int .u8), .dat (.slc tKnow), .dat tState, .dat (.int .i64), .dat tKnow], [], .dat .bool, []⟩
noncomputable def law30_SealGrows.f (k : Nat) (a0 : Ty.D (.int .u8)) (a1 : Ty.D (.int .u8)) (a2 : Ty.D (.slc tKnow)) (a3 : Ty.D tState) (a4 : Ty.D (.int .i64)) (a5 : Ty.D tKnow) : Option (Sg.Out law30_SealGrows.sg) := Sg.fn law30_SealGrows.sg (law30_SealGrows.cx k) law30_SealGrows.body law30_SealGrows.rs (a0, a1, a2, a3, a4, a5)
noncomputable def law30_SealGrows.l7 (k : Nat) (n : Nat) (x4 : Ty.D (.int .i64)) (x16 : List (Ty.D tDot)) (x17 : List (Ty.D tDot)) (x18 : Ty.D (.int .i64)) (m9 : Ty.D tState) (m11 : Ty.D tKnow) (m26 : Ty.D tPeers) (m500026 : Ty.D tPeers) : Option (Sg.Out law30_SealGrows.sg) := loopAt (law30_SealGrows.cx k) law30_SealGrows.body [1, 1, 1, 1, 1, 0, 1, 0] 7 [4, 9, 11, 13, 16, 17, 18] [9, 11, 26, 45, 500026] [] (Sg.K law30_SealGrows.sg (law30_SealGrows.cx k) law30_SealGrows.rs) n ⟨[(4, .dat (.int .i64) x4), (9, .ref 9 []), (11, .ref 11 []), (13, .ref 26 []), (16, .own tDot x16), (17, .own tDot x17), (18, .dat (.int .i64) x18)], [(9, .dat tState m9), (11, .dat tKnow m11), (26, .dat tPeers m26), (500026, .dat tPeers m500026)]⟩
noncomputable def law30_SealGrows.l13 (k : Nat) (n : Nat) (x16 : List (Ty.D tDot)) (x17 : List (Ty.D tDot)) (x19 : Ty.D (.int .i64)) (m9 : Ty.D tState) (m11 : Ty.D tKnow) (m26 : Ty.D tPeers) (m500026 : Ty.D tPeers) : Option (Sg.Out law30_SealGrows.sg) := loopAt (law30_SealGrows.cx k) law30_SealGrows.body [1, 1, 1, 1, 1, 1, 1, 0, 1, 0] 13 [9, 11, 13, 16, 17, 19] [9, 11, 26, 45, 500026] [] (Sg.K law30_SealGrows.sg (law30_SealGrows.cx k) law30_SealGrows.rs) n ⟨[(9, .ref 9 []), (11, .ref 11 []), (13, .ref 26 []), (16, .own tDot x16), (17, .own tDot x17), (19, .dat (.int .i64) x19)], [(9, .dat tState m9), (11, .dat tKnow m11), (26, .dat tPeers m26), (500026, .dat tPeers m500026)]⟩
theorem law30_SealGrows.f_eq (k : Nat) (a0 : Ty.D (.int .u8)) (a1 : Ty.D (.int .u8)) (a2 : Ty.D (.slc tKnow)) (a3 : Ty.D tState) (a4 : Ty.D (.int .i64)) (a5 : Ty.D tKnow) : law30_SealGrows.f k a0 a1 a2 a3 a4 a5 = bnd (law30_begun.f k a0 a1 a2) fun r0 => br (bnot r0.1) (bnd (law30_awake.f k) fun r1 => some r1) (bnd (ref22_Good.f k a3) fun r2 => br (bnot r2) (bnd (law30_awake.f k) fun r3 => some r3) (bnd (ref24_Good.f k a5) fun r4 => br (bnot r4) (bnd (law30_awake.f k) fun r5 => some r5) (bnd (seal_Ready.f k a3 r0.2.1) fun r6 => law30_SealGrows.l7 k k a4 r6.1 [] 0 a3 a5 r6.2 r0.2.2))) := by kernel_rfl
theorem law30_SealGrows.l7_eq (k : Nat) (n7 : Nat) (x4 : Ty.D (.int .i64)) (x16 : List (Ty.D tDot)) (x17 : List (Ty.D tDot)) (x18 : Ty.D (.int .i64)) (m9 : Ty.D tState) (m11 : Ty.D tKnow) (m26 : Ty.D tPeers) (m500026 : Ty.D tPeers) : law30_SealGrows.l7 k (n7 + 1) x4 x16 x17 x18 m9 m11 m26 m500026 = br (ilt x18 (ilen m9.1)) (br (inL x18 m9.1) (bnd (seal_Final.f k m9 ((rd tTxn m9.1 (natOf x18)).1) m26) fun r0 => br r0.1 (br (inL x18 m9.1) (br (room x17 ((rd tTxn m9.1 (natOf x18)).1 :: [])) (law30_SealGrows.l7 k n7 x4 x16 (app x17 ((rd tTxn m9.1 (natOf x18)).1 :: [])) (iadd .i64 x18 1) m9 m11 r0.2 m500026) none) none) (law30_SealGrows.l7 k n7 x4 x16 x17 (iadd .i64 x18 1) m9 m11 r0.2 m500026)) none) (bnd (peer_Peers_Heard.f k x4 m11 m26) fun r1 => law30_SealGrows.l13 k k x16 x17 0 m9 m11 r1.2 m500026) := by kernel_rfl
theorem law30_SealGrows.l13_eq (k : Nat) (n13 : Nat) (x16 : List (Ty.D tDot)) (x17 : List (Ty.D tDot)) (x19 : Ty.D (.int .i64)) (m9 : Ty.D tState) (m11 : Ty.D tKnow) (m26 : Ty.D tPeers) (m500026 : Ty.D tPeers) : law30_SealGrows.l13 k (n13 + 1) x16 x17 x19 m9 m11 m26 m500026 = br (ilt x19 (ilen x17)) (br (inL x19 x17) (bnd (ref08_Get.f k m11.2.1 (rd tDot x17 (natOf x19))) fun r0 => br (inL x19 x17) (bnd (ref08_Get.f k m9.2.1 (rd tDot x17 (natOf x19))) fun r1 => br (ile r0 r1) (br (inL x19 x17) (bnd (seal_Final.f k m9 (rd tDot x17 (natOf x19)) m26) fun r2 => br (bnot r2.1) (some false) (law30_SealGrows.l13 k n13 x16 x17 (iadd .i64 x19 1) m9 m11 r2.2 m500026)) none) (law30_SealGrows.l13 k n13 x16 x17 (iadd .i64 x19 1) m9 m11 m26 m500026)) none) none) (bnd (seal_Ready.f k m9 m26) fun r3 => br (ile (ilen x16) (ilen r3.1)) (bnd (seal_Ready_nil.f k m9) fun r4 => br (ieq (ilen r4) 0) (bnd (seal_Compact_nil.f k m9) fun r5 => bnd (ref22_Same.f k r5 m9) fun r6 => br r6 (bnd (law30_awake.f k) fun r7 => some r7) (some false)) (some false)) (some false)) := by kernel_rfl
noncomputable def law30_SealGrows.e (k : Nat) : Entry := Sg.entry law30_SealGrows.sg fun x => law30_SealGrows.f k x.1 x.2.1 x.2.2.1 x.2.2.2.1 x.2.2.2.2.1 x.2.2.2.2.2
theorem law30_SealGrows.ok (k : Nat) : CallOK Tryz.prog 9 (law30_SealGrows.e k) := fn_ok (c := law30_SealGrows.cx k) (code := law30_SealGrows.body) (TT.of tt_ok pp_ok mm_ok) (fns_ok ⟨(law30_begun.ok k), (ref22_Good.ok k), (ref24_Good.ok k), (law30_awake.ok k), (alt_ok (seal_Ready.ok k) (seal_Ready_nil.ok k)), (alt_ok (seal_Final.ok k) (seal_Final_nil.ok k)), (peer_Peers_Heard.ok k), (ref08_Get.ok k), (alt_ok (seal_Compact.ok k) (seal_Compact_nil.ok k)), (ref22_Same.ok k), trivial⟩) mixed Tryz.func9 (by kernel_rfl) (by kernel_rfl) (by kernel_rfl) (by kernel_rfl) (by kernel_rfl) (by kernel_rfl) (fun x => by kernel_rfl)
@[reducible] def law30_SealFuture.sg : Sg := ⟨[.dat (.int .u8), .dat (.int .u8), .dat (.slc tKnow), .dat tState, .dat tDelta], [], .dat .bool, []⟩
end Go.Proofs.YtoikjekpckhgeaaGreat
end
section
/- Sets of dots: one way to stand. -/
namespace Go.Proofs.YtoikjekpckhgeaaGreat
open Pal
abbrev Vec := List Int
abbrev DSet := Vec × List Dot
def vat (v : Vec) (r : Int) : Int := rd (.int .i64) v (natOf r)
theorem rightD_iff (d : Dot) : rightD d = true ↔ 0 ≤ d.1 ∧ d.1 < 16 ∧ 1 ≤ d.2 ∧ d.2 ≤ 1048576 := by unfold rightD; rw [decide_eq_true_iff]
theorem vat_get {v : Vec} {i : Nat} (h : i < v.length) : vat v (i : Int) = v[i] := by unfold vat; rw [natOf_nat]; exact rd_at' (e := .int .i64) h
theorem vat_upd {v : Vec} {r : Int} {x : Int} (h0 : 0 ≤ r) (h1 : r < v.length) (q : Int) (hq : 0 ≤ q) : vat (upd v (natOf r) x) q = if q = r then x else vat v q := by
  obtain ⟨a, rfl⟩ := Int.eq_ofNat_of_zero_le h0
  obtain ⟨b, rfl⟩ := Int.eq_ofNat_of_zero_le hq
  have ha : a < v.length := by omega
  show ((v.set a x).getD b (0 : Int)) = if ((b : Int) = (a : Int)) then x else v.getD b (0 : Int)
  rw [List.getD_eq_getElem?_getD, List.getD_eq_getElem?_getD, List.getElem?_set]
  by_cases h : a = b
  · subst h; rw [if_pos rfl, if_pos ha, if_pos rfl]; rfl
  · rw [if_neg h, if_neg (by omega)]
structure VOk (v : Vec) : Prop where
  len : v.length = 16
  lo : ∀ r, 0 ≤ r → r < 16 → 0 ≤ vat v r
  hi : ∀ r, 0 ≤ r → r < 16 → vat v r ≤ 1048576
structure Can (s : DSet) : Prop where
  vok : VOk s.1
  rt : ∀ d ∈ s.2, rightD d = true
  gap : ∀ d ∈ s.2, vat s.1 d.1 + 1 < d.2
  srt : s.2.Pairwise (fun a b => dotLt a b = true)
def Mem (s : DSet) (d : Dot) : Prop := rightD d = true ∧ (d.2 ≤ vat s.1 d.1 ∨ d ∈ s.2)
theorem vec_ext {v u : Vec} (h1 : v.length = 16) (h2 : u.length = 16) (h : ∀ r, 0 ≤ r → r < 16 → vat v r = vat u r) : v = u := by
  apply List.ext_getElem (by omega)
  intro i a b
  have := h (i : Int) (by omega) (by omega)
  rwa [vat_get a, vat_get b] at this
theorem dotLt_asym {a b : Dot} (h : dotLt a b = true) : dotLt b a = false := by
  rw [← Bool.not_eq_true, dotLt_iff]; rw [dotLt_iff] at h; omega
theorem srt_nodup {l : List Dot} (h : l.Pairwise (fun a b => dotLt a b = true)) : l.Nodup :=
  h.imp fun {a b} hab e => by subst e; rw [dotLt_swo.irrefl] at hab; cases hab
theorem srt_unique {l m : List Dot} (h1 : l.Pairwise (fun a b => dotLt a b = true)) (h2 : m.Pairwise (fun a b => dotLt a b = true)) (h : ∀ d, d ∈ l ↔ d ∈ m) : l = m :=
  sorted_unique dotLt_tot ((List.perm_ext_iff_of_nodup (srt_nodup h1) (srt_nodup h2)).2 h) (h1.imp dotLt_asym) (h2.imp dotLt_asym)
theorem can_le {s t : DSet} (hs : Can s) (ht : Can t) (h : ∀ d, Mem s d → Mem t d) (r : Int) (h0 : 0 ≤ r) (h1 : r < 16) : vat s.1 r ≤ vat t.1 r := by
  rcases (by omega : vat t.1 r < vat s.1 r ∨ vat s.1 r ≤ vat t.1 r) with hlt | hge
  · exfalso
    have a := ht.vok.lo r h0 h1
    have b := hs.vok.hi r h0 h1
    have hr : rightD (r, vat t.1 r + 1) = true := (rightD_iff _).2 ⟨h0, h1, by show 1 ≤ vat t.1 r + 1; omega, by show vat t.1 r + 1 ≤ 1048576; omega⟩
    have hm := h (r, vat t.1 r + 1) ⟨hr, .inl (by show vat t.1 r + 1 ≤ vat s.1 r; omega)⟩
    rcases hm.2 with c | c
    · have : vat t.1 r + 1 ≤ vat t.1 r := c; omega
    · have : vat t.1 r + 1 < vat t.1 r + 1 := ht.gap _ c; omega
  · exact hge
theorem can_unique {s t : DSet} (hs : Can s) (ht : Can t) (h : ∀ d, Mem s d ↔ Mem t d) : s = t := by
  have hv : ∀ r, 0 ≤ r → r < 16 → vat s.1 r = vat t.1 r := fun r h0 h1 => Int.le_antisymm (can_le hs ht (fun d => (h d).1) r h0 h1) (can_le ht hs (fun d => (h d).2) r h0 h1)
  apply Prod.ext
  · exact vec_ext hs.vok.len ht.vok.len hv
  · refine srt_unique hs.srt ht.srt fun d => ⟨fun hd => ?_, fun hd => ?_⟩
    · have hr := hs.rt d hd
      obtain ⟨a, b, _, _⟩ := (rightD_iff d).1 hr
      rcases ((h d).1 ⟨hr, .inr hd⟩).2 with c | c
      · have := hs.gap d hd; rw [hv d.1 a b] at this; omega
      · exact c
    · have hr := ht.rt d hd
      obtain ⟨a, b, _, _⟩ := (rightD_iff d).1 hr
      rcases ((h d).2 ⟨hr, .inr hd⟩).2 with c | c
      · have := ht.gap d hd; rw [← hv d.1 a b] at this; omega
      · exact c
def put1 (s : DSet) (d : Dot) : DSet :=
  if d.2 ≤ vat s.1 d.1 then s else if d.2 = vat s.1 d.1 + 1 then (upd s.1 (natOf d.1) d.2, s.2) else if s.2.getLast? = some d then s else (s.1, s.2 ++ [d])
theorem put1_can {s : DSet} {d : Dot} (hs : Can s) (hd : rightD d = true) (hb : ∀ e ∈ s.2, dotLt d e = false) : Can (put1 s d) ∧ (∀ x, Mem (put1 s d) x ↔ Mem s x ∨ x = d) ∧ (∀ e ∈ (put1 s d).2, e ∈ s.2 ∨ e = d) := by
  obtain ⟨a, b, c1, c2⟩ := (rightD_iff d).1 hd
  have hlen := hs.vok.len
  unfold put1
  by_cases h1 : d.2 ≤ vat s.1 d.1
  · rw [if_pos h1]
    exact ⟨hs, fun x => ⟨.inl, fun h => h.elim id fun e => by subst e; exact ⟨hd, .inl h1⟩⟩, fun e he => .inl he⟩
  · rw [if_neg h1]
    by_cases h2 : d.2 = vat s.1 d.1 + 1
    · rw [if_pos h2]
      have hne : ∀ e ∈ s.2, e.1 ≠ d.1 := fun e he hee => by
        have g := hs.gap e he
        have := hb e he
        rw [← Bool.not_eq_true, dotLt_iff] at this
        rw [hee] at g
        omega
      have hv : ∀ q, 0 ≤ q → q < 16 → vat (upd s.1 (natOf d.1) d.2) q = if q = d.1 then d.2 else vat s.1 q := fun q h0 _ => vat_upd a (by omega) q h0
      refine ⟨⟨⟨by simp [upd, hlen], fun r h0 h1 => ?_, fun r h0 h1 => ?_⟩, hs.rt, fun e he => ?_, hs.srt⟩, fun x => ⟨fun ⟨hr, h⟩ => ?_, fun h => ?_⟩, fun e he => .inl he⟩
      · rw [hv r h0 h1]; split
        · omega
        · exact hs.vok.lo r h0 h1
      · rw [hv r h0 h1]; split
        · omega
        · exact hs.vok.hi r h0 h1
      · obtain ⟨q0, q1, _, _⟩ := (rightD_iff e).1 (hs.rt e he)
        show vat (upd s.1 (natOf d.1) d.2) e.1 + 1 < e.2
        rw [hv e.1 q0 q1, if_neg (hne e he)]; exact hs.gap e he
      · obtain ⟨q0, q1, _, _⟩ := (rightD_iff x).1 hr
        rcases h with h | h
        · have h : x.2 ≤ vat (upd s.1 (natOf d.1) d.2) x.1 := h
          rw [hv x.1 q0 q1] at h
          split at h
          · rename_i hx
            by_cases he : x.2 = d.2
            · exact .inr (Prod.ext hx he)
            · exact .inl ⟨hr, .inl (by rw [hx]; omega)⟩
          · exact .inl ⟨hr, .inl h⟩
        · exact .inl ⟨hr, .inr h⟩
      · rcases h with ⟨hr, h⟩ | rfl
        · obtain ⟨q0, q1, _, _⟩ := (rightD_iff x).1 hr
          rcases h with h | h
          · refine ⟨hr, .inl ?_⟩
            show x.2 ≤ vat (upd s.1 (natOf d.1) d.2) x.1
            rw [hv x.1 q0 q1]; split
            · rename_i hx; rw [hx] at h; omega
            · exact h
          · exact ⟨hr, .inr h⟩
        · refine ⟨hd, .inl ?_⟩
          show x.2 ≤ vat (upd s.1 (natOf x.1) x.2) x.1
          rw [hv x.1 a b, if_pos rfl]; exact Int.le_refl _
    · rw [if_neg h2]
      by_cases h3 : s.2.getLast? = some d
      · rw [if_pos h3]
        have hmem : d ∈ s.2 := List.mem_of_getLast? h3
        exact ⟨hs, fun x => ⟨.inl, fun h => h.elim id fun e => by subst e; exact ⟨hd, .inr hmem⟩⟩, fun e he => .inl he⟩
      · rw [if_neg h3]
        have hlt : ∀ e ∈ s.2, dotLt e d = true := by
          intro e he
          cases hh : dotLt e d with
          | true => rfl
          | false =>
            exfalso
            have heq := dotLt_tot e d hh (hb e he)
            subst heq
            obtain ⟨p, q, hpq⟩ := List.append_of_mem he
            cases q with
            | nil => rw [hpq] at h3; simp at h3
            | cons z zs =>
              have hsr := hs.srt
              rw [hpq] at hsr
              have h5 := (List.pairwise_append.1 hsr).2.1
              have h6 := (List.pairwise_cons.1 h5).1 z (by simp)
              have h7 := hb z (by rw [hpq]; simp)
              rw [h6] at h7; cases h7
        refine ⟨⟨hs.vok, fun e he => ?_, fun e he => ?_, ?_⟩, fun x => ⟨fun ⟨hr, h⟩ => ?_, fun h => ?_⟩, fun e he => ?_⟩
        · rcases List.mem_append.1 he with he | he
          · exact hs.rt e he
          · rw [List.mem_singleton.1 he]; exact hd
        · rcases List.mem_append.1 he with he | he
          · exact hs.gap e he
          · rw [List.mem_singleton.1 he]; show vat s.1 d.1 + 1 < d.2; omega
        · exact List.pairwise_append.2 ⟨hs.srt, List.pairwise_singleton _ _, fun e he f hf => by rw [List.mem_singleton.1 hf]; exact hlt e he⟩
        · rcases h with h | h
          · exact .inl ⟨hr, .inl h⟩
          · rcases List.mem_append.1 h with h | h
            · exact .inl ⟨hr, .inr h⟩
            · exact .inr (List.mem_singleton.1 h)
        · rcases h with ⟨hr, h⟩ | rfl
          · exact ⟨hr, h.imp id fun h => List.mem_append.2 (.inl h)⟩
          · exact ⟨hd, .inr (List.mem_append.2 (.inr (by simp)))⟩
        · rcases List.mem_append.1 he with he | he
          · exact .inl he
          · exact .inr (List.mem_singleton.1 he)
def mk (v : Vec) (l : List Dot) : DSet := l.foldl put1 (v, [])
theorem mk_can {v : Vec} (hv : VOk v) : ∀ (l : List Dot), (∀ d ∈ l, rightD d = true) → l.Pairwise (fun a b => dotLt b a = false) →
    Can (mk v l) ∧ (∀ x, Mem (mk v l) x ↔ rightD x = true ∧ (x.2 ≤ vat v x.1 ∨ x ∈ l)) ∧ (mk v l).2.length ≤ l.length ∧ ∀ e ∈ (mk v l).2, e ∈ l := by
  have key : ∀ (l p : List Dot) (s : DSet), (∀ d ∈ p ++ l, rightD d = true) → (p ++ l).Pairwise (fun a b => dotLt b a = false) → Can s → (∀ x, Mem s x ↔ rightD x = true ∧ (x.2 ≤ vat v x.1 ∨ x ∈ p)) → s.2.length ≤ p.length → (∀ e ∈ s.2, e ∈ p) →
      Can (l.foldl put1 s) ∧ (∀ x, Mem (l.foldl put1 s) x ↔ rightD x = true ∧ (x.2 ≤ vat v x.1 ∨ x ∈ p ++ l)) ∧ (l.foldl put1 s).2.length ≤ (p ++ l).length ∧ ∀ e ∈ (l.foldl put1 s).2, e ∈ p ++ l := by
    intro l
    induction l with
    | nil => intro p s _ _ hc hm hl he; rw [List.append_nil]; exact ⟨hc, hm, hl, he⟩
    | cons d l ih =>
      intro p s hr hp hc hm hl he
      have hd : rightD d = true := hr d (by simp)
      have hbb : ∀ e ∈ s.2, dotLt d e = false := fun e hee => (List.pairwise_append.1 hp).2.2 e (he e hee) d (by simp)
      obtain ⟨c1, c2, c3⟩ := put1_can hc hd hbb
      have := ih (p ++ [d]) (put1 s d) (by simpa using hr) (by simpa using hp) c1 (fun x => by
          rw [c2, hm]
          constructor
          · rintro (⟨h1, h2⟩ | rfl)
            · exact ⟨h1, h2.imp id fun h => List.mem_append.2 (.inl h)⟩
            · exact ⟨hd, .inr (by simp)⟩
          · rintro ⟨h1, h2 | h2⟩
            · exact .inl ⟨h1, .inl h2⟩
            · rcases List.mem_append.1 h2 with h3 | h3
              · exact .inl ⟨h1, .inr h3⟩
              · exact .inr (List.mem_singleton.1 h3)) (by
          unfold put1; simp only [List.length_append, List.length_singleton]
          split
          · omega
          · split
            · show s.2.length ≤ _; omega
            · split
              · omega
              · simp; omega) (fun e hee => by
          rcases c3 e hee with h | h
          · exact List.mem_append.2 (.inl (he e h))
          · exact List.mem_append.2 (.inr (by simp [h])))
      rw [List.append_assoc] at this; exact this
  intro l hr hs
  have h0 : Can (v, []) := ⟨hv, fun d hd => by simp at hd, fun d hd => by simp at hd, List.Pairwise.nil⟩
  have := key l [] (v, []) (by simpa using hr) (by simpa using hs) h0 (fun x => by simp [Mem]) (Nat.le_refl _) (fun e he => he)
  exact this
end Go.Proofs.YtoikjekpckhgeaaGreat
end
section
/- Counts: rows of dots with numbers, in order; joined, put, looked up. Plain facts. -/
namespace Go.Proofs.YtoikjekpckhgeaaGreat
open Pal
abbrev Undo := Dot × Int
def rightU (u : Undo) : Bool := rightD u.1 && decide (1 ≤ u.2 ∧ u.2 ≤ 64)
theorem rightU_iff (u : Undo) : rightU u = true ↔ rightD u.1 = true ∧ 1 ≤ u.2 ∧ u.2 ≤ 64 := by simp [rightU]
structure CanU (l : List Undo) : Prop where
  rt : ∀ u ∈ l, rightU u = true
  srt : l.Pairwise (fun a b => dotLt a.1 b.1 = true)
def getU : List Undo → Dot → Int
  | [], _ => 0
  | u :: r, d => if u.1 = d then u.2 else getU r d
theorem CanU.nil : CanU [] := ⟨fun u hu => by simp at hu, List.Pairwise.nil⟩
theorem CanU.tail {u : Undo} {l : List Undo} (h : CanU (u :: l)) : CanU l := ⟨fun v hv => h.rt v (List.mem_cons_of_mem _ hv), (List.pairwise_cons.1 h.srt).2⟩
theorem CanU.head {u : Undo} {l : List Undo} (h : CanU (u :: l)) : ∀ v ∈ l, dotLt u.1 v.1 = true := (List.pairwise_cons.1 h.srt).1
theorem CanU.cons {u : Undo} {l : List Undo} (h : CanU l) (h1 : rightU u = true) (h2 : ∀ v ∈ l, dotLt u.1 v.1 = true) : CanU (u :: l) :=
  ⟨fun v hv => by rcases List.mem_cons.1 hv with rfl | hv; exact h1; exact h.rt v hv, List.pairwise_cons.2 ⟨h2, h.srt⟩⟩
theorem dotLt_ne {a b : Dot} (h : dotLt a b = true) : a ≠ b := fun e => by subst e; rw [dotLt_swo.irrefl] at h; cases h
theorem getU_none {l : List Undo} {d : Dot} (h : ∀ u ∈ l, u.1 ≠ d) : getU l d = 0 := by
  induction l with
  | nil => rfl
  | cons u l ih =>
    rw [getU, if_neg (h u (by simp))]
    exact ih fun v hv => h v (List.mem_cons_of_mem _ hv)
theorem getU_below {l : List Undo} {d : Dot} (h : ∀ u ∈ l, dotLt d u.1 = true) : getU l d = 0 := getU_none fun u hu e => dotLt_ne (h u hu) e.symm
theorem getU_mem {l : List Undo} {u : Undo} (h : CanU l) (hu : u ∈ l) : getU l u.1 = u.2 := by
  induction l with
  | nil => cases hu
  | cons v l ih =>
    rw [getU]
    rcases List.mem_cons.1 hu with e | hu
    · subst e; rw [if_pos rfl]
    · rw [if_neg (dotLt_ne (h.head u hu))]; exact ih h.tail hu
theorem getU_pos {l : List Undo} {d : Dot} (hp : getU l d ≠ 0) : (d, getU l d) ∈ l := by
  induction l with
  | nil => exact absurd rfl hp
  | cons v l ih =>
    rw [getU] at hp ⊢
    by_cases e : v.1 = d
    · rw [if_pos e]; subst e; simp
    · rw [if_neg e] at hp ⊢; exact List.mem_cons_of_mem _ (ih hp)
theorem getU_range {l : List Undo} (h : CanU l) (d : Dot) : 0 ≤ getU l d ∧ getU l d ≤ 64 := by
  by_cases hp : getU l d = 0
  · omega
  · have := (rightU_iff _).1 (h.rt _ (getU_pos hp))
    simp only at this; omega
theorem memU_iff {l : List Undo} (h : CanU l) (u : Undo) : u ∈ l ↔ getU l u.1 = u.2 ∧ 1 ≤ u.2 := by
  constructor
  · intro hu; exact ⟨getU_mem h hu, ((rightU_iff u).1 (h.rt u hu)).2.1⟩
  · rintro ⟨h1, h2⟩
    have := getU_pos (l := l) (d := u.1) (by omega)
    rwa [h1] at this
def undoLt (a b : Undo) : Bool := dotLt a.1 b.1 || (decide (a.1 = b.1) && decide (a.2 < b.2))
theorem undoLt_of {a b : Undo} (h : dotLt a.1 b.1 = true) : undoLt b a = false := by
  unfold undoLt
  rw [dotLt_asym h]
  have : ¬ b.1 = a.1 := fun e => dotLt_ne h e.symm
  simp [this]
theorem undoLt_tot (x y : Undo) (h1 : undoLt x y = false) (h2 : undoLt y x = false) : x = y := by
  unfold undoLt at h1 h2
  simp only [Bool.or_eq_false_iff, Bool.and_eq_false_iff, decide_eq_false_iff_not] at h1 h2
  have e := dotLt_tot x.1 y.1 h1.1 h2.1
  refine Prod.ext e ?_
  rcases h1.2 with h | h
  · exact absurd e h
  · rcases h2.2 with h' | h'
    · exact absurd e.symm h'
    · omega
theorem canU_nodup {l : List Undo} (h : CanU l) : l.Nodup := h.srt.imp fun {a b} hab e => by subst e; rw [dotLt_swo.irrefl] at hab; cases hab
theorem canU_unique {l m : List Undo} (h1 : CanU l) (h2 : CanU m) (h : ∀ d, getU l d = getU m d) : l = m := by
  refine sorted_unique undoLt_tot ((List.perm_ext_iff_of_nodup (canU_nodup h1) (canU_nodup h2)).2 fun u => ?_) (h1.srt.imp undoLt_of) (h2.srt.imp undoLt_of)
  rw [memU_iff h1, memU_iff h2, h]
def joinU : List Undo → List Undo → List Undo
  | [], b => b
  | a, [] => a
  | x :: a, y :: b => if dotLt x.1 y.1 then x :: joinU a (y :: b) else if dotLt y.1 x.1 then y :: joinU (x :: a) b else (x.1, max x.2 y.2) :: joinU a b
termination_by a b => a.length + b.length
theorem joinU_nil (b : List Undo) : joinU [] b = b := by rw [joinU]
theorem joinU_nil' (a : List Undo) : joinU a [] = a := by cases a <;> simp [joinU]
theorem joinU_cons (x : Undo) (a : List Undo) (y : Undo) (b : List Undo) : joinU (x :: a) (y :: b) = if dotLt x.1 y.1 then x :: joinU a (y :: b) else if dotLt y.1 x.1 then y :: joinU (x :: a) b else (x.1, max x.2 y.2) :: joinU a b := by rw [joinU]
theorem dotLt_trans {a b c : Dot} (h1 : dotLt a b = true) (h2 : dotLt b c = true) : dotLt a c = true := dotLt_swo.trans _ _ _ h1 h2
theorem joinU_all : ∀ (n : Nat) (a b : List Undo), a.length + b.length ≤ n → CanU a → CanU b →
    CanU (joinU a b) ∧ (∀ d, getU (joinU a b) d = max (getU a d) (getU b d)) ∧ (∀ e : Dot, (∀ u ∈ a, dotLt e u.1 = true) → (∀ u ∈ b, dotLt e u.1 = true) → ∀ u ∈ joinU a b, dotLt e u.1 = true) ∧ (joinU a b).length ≤ a.length + b.length
  | n, [], b, _, ha, hb => by
    rw [joinU_nil]
    exact ⟨hb, fun d => by have := (getU_range hb d).1; show _ = max 0 (getU b d); omega, fun e _ h => h, by simp⟩
  | n, x :: a, [], _, ha, hb => by
    rw [joinU_nil']
    exact ⟨ha, fun d => by have := (getU_range ha d).1; show _ = max (getU (x :: a) d) 0; omega, fun e h _ => h, by simp⟩
  | 0, x :: a, y :: b, h, _, _ => by simp at h
  | n + 1, x :: a, y :: b, h, ha, hb => by
    simp only [List.length_cons] at h
    rw [joinU_cons]
    have hx := ha.rt x (by simp)
    have hy := hb.rt y (by simp)
    by_cases h1 : dotLt x.1 y.1 = true
    · obtain ⟨c1, c2, c3, c4⟩ := joinU_all n a (y :: b) (by simp only [List.length_cons]; omega) ha.tail hb
      have hb' : ∀ u ∈ y :: b, dotLt x.1 u.1 = true := fun u hu => by
        rcases List.mem_cons.1 hu with rfl | hu
        · exact h1
        · exact dotLt_trans h1 (hb.head u hu)
      rw [if_pos h1]
      refine ⟨c1.cons hx (c3 x.1 ha.head hb'), fun d => ?_, fun e h2 h3 u hu => ?_, by simp only [List.length_cons] at c4 ⊢; omega⟩
      · rw [getU, getU]
        by_cases e : x.1 = d
        · rw [if_pos e, if_pos e]
          subst e
          rw [getU_below hb']
          have := ((rightU_iff x).1 hx).2.1; omega
        · rw [if_neg e, if_neg e]; exact c2 d
      · rcases List.mem_cons.1 hu with rfl | hu
        · exact h2 _ (by simp)
        · exact c3 e (fun v hv => h2 v (List.mem_cons_of_mem _ hv)) h3 u hu
    · rw [if_neg h1]
      by_cases h2 : dotLt y.1 x.1 = true
      · obtain ⟨c1, c2, c3, c4⟩ := joinU_all n (x :: a) b (by simp only [List.length_cons]; omega) ha hb.tail
        have ha' : ∀ u ∈ x :: a, dotLt y.1 u.1 = true := fun u hu => by
          rcases List.mem_cons.1 hu with rfl | hu
          · exact h2
          · exact dotLt_trans h2 (ha.head u hu)
        rw [if_pos h2]
        refine ⟨c1.cons hy (c3 y.1 ha' hb.head), fun d => ?_, fun e h3 h4 u hu => ?_, by simp only [List.length_cons] at c4 ⊢; omega⟩
        · rw [getU]
          by_cases e : y.1 = d
          · rw [if_pos e]
            subst e
            rw [getU_below ha']
            rw [show getU (y :: b) y.1 = y.2 by rw [getU, if_pos rfl]]
            have := ((rightU_iff y).1 hy).2.1; omega
          · rw [if_neg e, c2 d, show getU (y :: b) d = getU b d by rw [getU, if_neg e]]
        · rcases List.mem_cons.1 hu with rfl | hu
          · exact h4 _ (by simp)
          · exact c3 e h3 (fun v hv => h4 v (List.mem_cons_of_mem _ hv)) u hu
      · have hxy : x.1 = y.1 := dotLt_tot _ _ (by simpa using h1) (by simpa using h2)
        obtain ⟨c1, c2, c3, c4⟩ := joinU_all n a b (by omega) ha.tail hb.tail
        rw [if_neg h2]
        refine ⟨c1.cons ?_ (c3 x.1 ha.head (by rw [hxy]; exact hb.head)), fun d => ?_, fun e h3 h4 u hu => ?_, by simp only [List.length_cons] at c4 ⊢; omega⟩
        · rw [rightU_iff] at hx hy ⊢
          exact ⟨hx.1, by show 1 ≤ max x.2 y.2; omega, by show max x.2 y.2 ≤ 64; omega⟩
        · rw [getU, getU, getU, ← hxy]
          by_cases e : x.1 = d
          · rw [if_pos e, if_pos e, if_pos e]
          · rw [if_neg e, if_neg e, if_neg e]; exact c2 d
        · rcases List.mem_cons.1 hu with rfl | hu
          · exact h3 x (by simp)
          · exact c3 e (fun v hv => h3 v (List.mem_cons_of_mem _ hv)) (fun v hv => h4 v (List.mem_cons_of_mem _ hv)) u hu
theorem joinU_can {a b : List Undo} (ha : CanU a) (hb : CanU b) : CanU (joinU a b) := (joinU_all _ a b (Nat.le_refl _) ha hb).1
theorem joinU_get {a b : List Undo} (ha : CanU a) (hb : CanU b) (d : Dot) : getU (joinU a b) d = max (getU a d) (getU b d) := (joinU_all _ a b (Nat.le_refl _) ha hb).2.1 d
theorem joinU_len {a b : List Undo} (ha : CanU a) (hb : CanU b) : (joinU a b).length ≤ a.length + b.length := (joinU_all _ a b (Nat.le_refl _) ha hb).2.2.2
def putF (u : Undo) : List Undo → List Undo
  | [] => [u]
  | x :: r => if cmpD u.1 x.1 ≤ 0 then u :: (x :: r).filter (fun y => decide (y.1 ≠ u.1)) else x :: putF u r
theorem cmpD_le (a b : Dot) : cmpD a b ≤ 0 ↔ dotLt b a = false := by
  rw [← Bool.not_eq_true, dotLt_iff]
  unfold cmpD
  by_cases h : a.1 = b.1
  · rw [if_pos ((cmpI_eq _ _).2 h)]
    unfold cmpI; split <;> (try split) <;> omega
  · rw [if_neg (fun e => h ((cmpI_eq _ _).1 e))]
    unfold cmpI; split <;> (try split) <;> omega
theorem cmpD_eq (a b : Dot) : cmpD a b = 0 ↔ a = b := by
  unfold cmpD
  by_cases h : a.1 = b.1
  · rw [if_pos ((cmpI_eq _ _).2 h), cmpI_eq]
    exact ⟨fun e => Prod.ext h e, fun e => by rw [e]⟩
  · rw [if_neg (fun e => h ((cmpI_eq _ _).1 e)), cmpI_eq]
    exact ⟨fun e => absurd e h, fun e => by rw [e]⟩
theorem filter_can {l : List Undo} (h : CanU l) (p : Undo → Bool) : CanU (l.filter p) := ⟨fun u hu => h.rt u (List.mem_filter.1 hu).1, h.srt.filter _⟩
theorem filter_get {l : List Undo} {d e : Dot} (h : d ≠ e) : getU (l.filter (fun y => decide (y.1 ≠ e))) d = getU l d := by
  induction l with
  | nil => rfl
  | cons u l ih =>
    rw [getU]
    by_cases hu : u.1 = e
    · rw [List.filter_cons_of_neg (by simp [hu]), if_neg (by rw [hu]; exact h.symm)]; exact ih
    · rw [List.filter_cons_of_pos (by simp [hu]), getU, ih]
theorem putF_all {u : Undo} (hu : rightU u = true) : ∀ (l : List Undo), CanU l → CanU (putF u l) ∧ (∀ d, getU (putF u l) d = if d = u.1 then u.2 else getU l d) ∧ (∀ e : Dot, dotLt e u.1 = true → (∀ v ∈ l, dotLt e v.1 = true) → ∀ v ∈ putF u l, dotLt e v.1 = true) ∧ (putF u l).length ≤ l.length + 1
  | [], _ => by
    refine ⟨CanU.nil.cons hu fun v hv => by simp at hv, fun d => ?_, fun e h _ v hv => ?_, by simp [putF]⟩
    · show (if u.1 = d then u.2 else (0 : Int)) = if d = u.1 then u.2 else 0
      by_cases e : u.1 = d
      · rw [if_pos e, if_pos e.symm]
      · rw [if_neg e, if_neg (fun h => e h.symm)]
    · simp [putF] at hv; subst hv; exact h
  | x :: r, h => by
    rw [putF]
    by_cases hc : cmpD u.1 x.1 ≤ 0
    · rw [if_pos hc]
      have hf : ∀ v ∈ (x :: r).filter (fun y => decide (y.1 ≠ u.1)), dotLt u.1 v.1 = true := fun v hv => by
        obtain ⟨hv, hne⟩ := List.mem_filter.1 hv
        have hne : v.1 ≠ u.1 := by simpa using hne
        have hx := (cmpD_le _ _).1 hc
        rcases List.mem_cons.1 hv with rfl | hv
        · cases hl : dotLt u.1 v.1 with
          | true => rfl
          | false => exact absurd (dotLt_tot _ _ hx hl) hne
        · have h1 := h.head v hv
          cases hl : dotLt u.1 x.1 with
          | true => exact dotLt_trans hl h1
          | false => rw [dotLt_tot _ _ hl hx]; exact h1
      refine ⟨(filter_can h _).cons hu hf, fun d => ?_, fun e h1 h2 v hv => ?_, by have := List.length_filter_le (fun y : Undo => decide (y.1 ≠ u.1)) (x :: r); simp only [List.length_cons] at this ⊢; omega⟩
      · rw [getU]
        by_cases e : u.1 = d
        · rw [if_pos e, if_pos e.symm]
        · rw [if_neg e, if_neg (fun h => e h.symm), filter_get (Ne.symm e)]
      · rcases List.mem_cons.1 hv with rfl | hv
        · exact h1
        · exact h2 v (List.mem_filter.1 hv).1
    · rw [if_neg hc]
      have hx : dotLt x.1 u.1 = true := by
        cases hl : dotLt x.1 u.1 with
        | true => rfl
        | false => exact absurd ((cmpD_le _ _).2 hl) hc
      obtain ⟨c1, c2, c3, c4⟩ := putF_all hu r h.tail
      refine ⟨c1.cons (h.rt x (by simp)) (c3 x.1 hx h.head), fun d => ?_, fun e h1 h2 v hv => ?_, by simp only [List.length_cons]; omega⟩
      · rw [getU, getU, c2]
        by_cases e : x.1 = d
        · rw [if_pos e, if_pos e, if_neg]; rw [← e]; exact dotLt_ne hx
        · rw [if_neg e, if_neg e]
      · rcases List.mem_cons.1 hv with rfl | hv
        · exact h2 _ (by simp)
        · exact c3 e h1 (fun v hv => h2 v (List.mem_cons_of_mem _ hv)) v hv
def putU (l : List Undo) (u : Undo) : List Undo := if rightU u = true ∧ getU l u.1 < u.2 then putF u l else l
theorem putU_can {l : List Undo} (h : CanU l) (u : Undo) : CanU (putU l u) ∧ (rightU u = true → ∀ d, getU (putU l u) d = if d = u.1 then max (getU l d) u.2 else getU l d) ∧ (putU l u).length ≤ l.length + 1 := by
  unfold putU
  by_cases hu : rightU u = true ∧ getU l u.1 < u.2
  · rw [if_pos hu]
    obtain ⟨c1, c2, _, c4⟩ := putF_all hu.1 l h
    refine ⟨c1, fun _ d => ?_, c4⟩
    rw [c2]
    by_cases e : d = u.1
    · rw [if_pos e, if_pos e, e]; omega
    · rw [if_neg e, if_neg e]
  · rw [if_neg hu]
    refine ⟨h, fun hr d => ?_, by omega⟩
    by_cases e : d = u.1
    · rw [if_pos e, e]
      have : ¬ getU l u.1 < u.2 := fun hh => hu ⟨hr, hh⟩
      omega
    · rw [if_neg e]
theorem putUs_can : ∀ (m l : List Undo), CanU l → (∀ u ∈ m, rightU u = true) → m.Pairwise (fun a b => dotLt a.1 b.1 = true) → CanU (m.foldl putU l) ∧ (∀ d, getU (m.foldl putU l) d = max (getU l d) (getU m d)) ∧ (m.foldl putU l).length ≤ l.length + m.length
  | [], l, h, _, _ => ⟨h, fun d => by have := (getU_range h d).1; show getU l d = max (getU l d) 0; omega, by simp⟩
  | u :: m, l, h, hr, hs => by
    obtain ⟨a, b, c⟩ := putU_can h u
    have hu := hr u (by simp)
    have hm := List.pairwise_cons.1 hs
    obtain ⟨p, q, r⟩ := putUs_can m (putU l u) a (fun v hv => hr v (List.mem_cons_of_mem _ hv)) hm.2
    simp only [List.foldl_cons, List.length_cons]
    refine ⟨p, fun d => ?_, by omega⟩
    rw [q, b hu, getU]
    by_cases e : u.1 = d
    · have h0 : getU m d = 0 := by rw [← e]; exact getU_below hm.1
      have h1 := ((rightU_iff u).1 hu).2.1
      have h2 := (getU_range h d).1
      rw [if_pos e, if_pos e.symm, h0]; omega
    · rw [if_neg e, if_neg (fun h => e h.symm)]
theorem rjoin_eq {a b : List Undo} (ha : CanU a) (hb : CanU b) : b.foldl putU a = joinU a b := by
  obtain ⟨p, q, _⟩ := putUs_can b a ha hb.rt hb.srt
  exact canU_unique p (joinU_can ha hb) fun d => by rw [q, joinU_get ha hb]
end Go.Proofs.YtoikjekpckhgeaaGreat
end
section
/- What the functions of the layer of dots compute. -/
namespace Go.Proofs.YtoikjekpckhgeaaGreat
open Pal
theorem iadd_s {a b : Int} (h1 : -1000000000000 ≤ a) (h2 : a ≤ 1000000000000) (h3 : -1000000000000 ≤ b) (h4 : b ≤ 1000000000000) : iadd .i64 a b = a + b := by
  have e1 : ((2 : Int) ^ 63) = 9223372036854775808 := by decide
  show IntKind.wrap .i64 (a + b) = _
  rw [wrap_i64 (by rw [e1]; omega) (by rw [e1]; omega)]
theorem isub_s {a b : Int} (h1 : -1000000000000 ≤ a) (h2 : a ≤ 1000000000000) (h3 : -1000000000000 ≤ b) (h4 : b ≤ 1000000000000) : isub .i64 a b = a - b := by
  have e1 : ((2 : Int) ^ 63) = 9223372036854775808 := by decide
  show IntKind.wrap .i64 (a - b) = _
  rw [wrap_i64 (by rw [e1]; omega) (by rw [e1]; omega)]
theorem inB16 {r : Int} (h0 : 0 ≤ r) (h1 : r < 16) : inB r 16 = true := by simp [inB, h0]; omega
theorem room1 {α : Type} {xs : List α} {x : α} (h : xs.length < 4000000) : room xs (x :: []) = true := by simp [room]; omega
theorem ile_dec (a b : Int) : ile a b = decide (a ≤ b) := rfl
theorem ilt_dec (a b : Int) : ilt a b = decide (a < b) := rfl
theorem deqD (a b : Dot) : deq tDot a b = decide (a = b) := deq_dec (τ := tDot) rfl a b
theorem last_rd {M : List Dot} {m : Nat} (hl : M.length = m + 1) (hb : m < 4000000) : rd tDot M (natOf (isub .i64 (ilen M) 1)) = M[m] := by
  rw [isub_s (by unfold ilen; omega) (by unfold ilen; omega) (by omega) (by omega), show ilen M - 1 = (m : Int) by unfold ilen; omega, natOf_nat]
  exact rd_at' (e := tDot) (by omega)
theorem last_in {M : List Dot} {m : Nat} (hl : M.length = m + 1) (hb : m < 4000000) : inL (isub .i64 (ilen M) 1) M = true := by
  rw [isub_s (by unfold ilen; omega) (by unfold ilen; omega) (by omega) (by omega), show ilen M - 1 = (m : Int) by unfold ilen; omega, inL_nat]
  simp; omega
theorem getLast_is {M : List Dot} {m : Nat} (hl : M.length = m + 1) : M.getLast? = some M[m] := by
  rw [List.getLast?_eq_getElem?]; exact List.getElem?_eq_some_iff.2 ⟨by omega, by simp [hl]⟩
theorem take_next {l : List Dot} {i : Nat} (hi : i < l.length) : l.take (i + 1) = l.take i ++ [l[i]] := by rw [List.take_add_one, List.getElem?_eq_getElem hi]; rfl
theorem made_l (k : Nat) (l : List Dot) (hl : l.length < 1000000) (hr : ∀ d ∈ l, rightD d = true) (hs : l.Pairwise (fun a b => dotLt b a = false)) (v : Vec) (hv : VOk v) (za : Vec) (zb : List Dot) : ∀ (n i : Nat), i ≤ l.length → l.length < n + i →
    dots_made.l3 k n l (ilen l) (i : Int) za zb (mk v (l.take i)).1 (mk v (l.take i)).2 = some (mk v l)
  | 0, i, h, h' => by omega
  | n + 1, i, h, h' => by
    rw [dots_made.l3_eq, ilt_nat, inL_nat, natOf_nat]
    by_cases hi : i < l.length
    · have hstep : mk v (l.take (i + 1)) = put1 (mk v (l.take i)) l[i] := by rw [take_next hi]; unfold mk; rw [List.foldl_append]; rfl
      obtain ⟨hc, hm, hml, _⟩ := mk_can hv (l.take i) (fun d hd => hr d (List.mem_of_mem_take hd)) (hs.sublist (List.take_sublist i l))
      have ih := made_l k l hl hr hs v hv za zb n (i + 1) (by omega) (by omega)
      rw [hstep] at ih
      have hmk : mk v (l.take i) = mk v (l.take i) := rfl
      generalize mk v (l.take i) = s at hc hm hml ih hstep ⊢
      obtain ⟨V, M⟩ := s
      obtain ⟨r0, r1, r2, r3⟩ := (rightD_iff l[i]).1 (hr _ (List.getElem_mem hi))
      rw [rd_at' (e := tDot) hi, iadd_nat (by omega)]
      obtain ⟨d, hd⟩ : ∃ d : Dot, d = l[i] := ⟨_, rfl⟩
      rw [← hd] at r0 r1 r2 r3 ih ⊢
      have hvv : rd (.int .i64) V (natOf d.1) = vat V d.1 := rfl
      have v0 := hc.vok.lo d.1 r0 r1
      have v1 := hc.vok.hi d.1 r0 r1
      have v0' : 0 ≤ vat V d.1 := v0
      have v1' : vat V d.1 ≤ 1048576 := v1
      have hML : M.length ≤ i := by have : M.length ≤ (l.take i).length := hml; rw [List.length_take] at this; omega
      simp only [hi, decide_true, br_true, inB16 r0 r1, hvv, ile_dec]
      rw [iadd_s (by omega) (by omega) (by omega) (by omega), ieq_dec, ieq_dec]
      unfold put1 at ih
      by_cases h1 : d.2 ≤ vat V d.1
      · simp only [h1, decide_true, br_true, if_true] at ih ⊢; exact ih
      · by_cases h2 : d.2 = vat V d.1 + 1
        · rw [if_neg h1, if_pos h2] at ih
          rw [decide_eq_false h1, decide_eq_true h2]; exact ih
        · simp only [h1, h2, decide_false, br_false, if_false] at ih ⊢
          rw [room1 (by omega)]
          cases hM : M.length with
          | zero =>
            have hM0 : M = [] := List.eq_nil_of_length_eq_zero hM
            subst hM0
            simp only [List.getLast?_nil, reduceCtorEq, if_false] at ih
            have : decide (ilen ([] : List Dot) = 0) = true := rfl
            rw [this]; simp only [br_true]; exact ih
          | succ m =>
            have h4 : ¬ (ilen M = 0) := by unfold ilen; omega
            rw [last_in hM (by omega), last_rd hM (by omega), deqD, bnot_dec]
            simp only [h4, decide_false, br_true, br_false]
            rw [getLast_is hM] at ih
            by_cases h5 : M[m] = d
            · simp only [h5, if_true, decide_true, decide_false, not_true, br_false] at ih ⊢; exact ih
            · have h6 : ¬ (some M[m] = some d) := fun e => h5 (Option.some.inj e)
              simp only [h5, h6, if_false, not_false_eq_true, decide_true, br_true] at ih ⊢; exact ih
    · have : i = l.length := by omega
      subst this
      simp only [List.take_length, Nat.lt_irrefl, decide_false, br_false]
theorem made_is (k : Nat) (l : List Dot) (hl : l.length < k) (hk : k < 1000000) (hr : ∀ d ∈ l, rightD d = true) (hs : l.Pairwise (fun a b => dotLt b a = false)) (v : Vec) (hv : VOk v) : dots_made.f k v l = some (mk v l) := by
  rw [dots_made.f_eq]
  exact made_l k l (by omega) hr hs v hv (zarr 16 0) [] k 0 (by omega) (by omega)
theorem vok0 : VOk (zarr 16 0) := ⟨rfl, fun r h0 h1 => by
    obtain ⟨a, rfl⟩ := Int.eq_ofNat_of_zero_le h0
    have : a < 16 := by omega
    have e : vat (zarr 16 0) (a : Int) = 0 := by rw [vat_get (by show a < 16; omega)]; exact List.getElem_replicate ..
    rw [e]; exact Int.le_refl _, fun r h0 h1 => by
    obtain ⟨a, rfl⟩ := Int.eq_ofNat_of_zero_le h0
    have e : vat (zarr 16 0) (a : Int) = 0 := by rw [vat_get (by show a < 16; omega)]; exact List.getElem_replicate ..
    rw [e]; decide⟩
theorem vat0 (r : Int) (h0 : 0 ≤ r) (h1 : r < 16) : vat (zarr 16 0) r = 0 := by
  obtain ⟨a, rfl⟩ := Int.eq_ofNat_of_zero_le h0
  rw [vat_get (by show a < 16; omega)]; exact List.getElem_replicate ..
def ofD (l : List Dot) : DSet := mk (zarr 16 0) (isort dotLt (kept rightD l))
theorem kept_mem {l : List Dot} {d : Dot} : d ∈ isort dotLt (kept rightD l) ↔ d ∈ l ∧ rightD d = true := by
  rw [(isort_perm dotLt _).mem_iff]; unfold kept; rw [List.mem_filter]
theorem ofD_can (l : List Dot) : Can (ofD l) ∧ (∀ x, Mem (ofD l) x ↔ rightD x = true ∧ x ∈ l) ∧ (ofD l).2.length ≤ l.length := by
  obtain ⟨h1, h2, h3, _⟩ := mk_can vok0 (isort dotLt (kept rightD l)) (fun d hd => (kept_mem.1 hd).2) (isort_sorted dotLt_swo _)
  refine ⟨h1, fun x => ?_, ?_⟩
  · rw [show Mem (ofD l) x ↔ _ from h2 x, kept_mem]
    constructor
    · rintro ⟨a, b | b⟩
      · obtain ⟨q0, q1, q2, _⟩ := (rightD_iff x).1 a
        rw [vat0 x.1 q0 q1] at b; omega
      · exact ⟨a, b.1⟩
    · rintro ⟨a, b⟩; exact ⟨a, .inr ⟨b, a⟩⟩
  · refine Nat.le_trans h3 ?_
    rw [(isort_perm dotLt _).length_eq]; exact List.length_filter_le _ _
theorem rright_is (k : Nat) (d : Dot) : ref04_Right.f k d = some (rightD d) := by
  rw [ref04_Right.f_eq]
  have : ile d.1 15 = ilt d.1 16 := by unfold ile ilt; congr 1; exact propext ⟨fun h => by omega, fun h => by omega⟩
  rw [this]
  have := right_is k d
  rw [dot_Right.f_eq] at this
  exact this
def memB (s : DSet) (d : Dot) : Bool := rightD d && (decide (d.2 ≤ vat s.1 d.1) || decide (d ∈ s.2))
theorem memB_iff (s : DSet) (d : Dot) : memB s d = true ↔ Mem s d := by simp [memB, Mem]
theorem vhas_is (k : Nat) (v : Vec) (d : Dot) : vec_Has.f k v d = some (rightD d && decide (d.2 ≤ vat v d.1)) := by
  rw [vec_Has.f_eq, right_is]
  simp only [bnd]
  cases h : rightD d with
  | false => rfl
  | true =>
    obtain ⟨a, b, _, _⟩ := (rightD_iff d).1 h
    rw [inB16 a b]; rfl
theorem rvhas_is (k : Nat) (v : Vec) (d : Dot) : ref05_Has.f k v d = some (rightD d && decide (d.2 ≤ vat v d.1)) := by
  rw [ref05_Has.f_eq, rright_is]
  simp only [bnd]
  cases h : rightD d with
  | false => rfl
  | true =>
    obtain ⟨a, b, _, _⟩ := (rightD_iff d).1 h
    rw [inB16 a b]; rfl
theorem any_step {α : Type} {xs : List α} {i : Nat} (h : i < xs.length) (p : α → Bool) : (xs.drop i).any p = (p xs[i] || (xs.drop (i + 1)).any p) := by
  rw [List.drop_eq_getElem_cons h, List.any_cons]
theorem rhas_l (k : Nat) (s : DSet) (d : Dot) (hl : s.2.length < 1000000) : ∀ (n i : Nat), i ≤ s.2.length → s.2.length < n + i → ref06_Has.l4 k n (i : Int) s d = some ((s.2.drop i).any fun e => decide (e = d))
  | 0, i, h, h' => by omega
  | n + 1, i, h, h' => by
    rw [ref06_Has.l4_eq, ilt_nat, inL_nat, natOf_nat]
    by_cases hi : i < s.2.length
    · rw [any_step hi, rd_at' (e := tDot) hi, deqD, iadd_nat (by omega), rhas_l k s d hl n (i + 1) (by omega) (by omega)]
      by_cases he : s.2[i] = d <;> simp [hi, he, br_true, br_false]
    · rw [List.drop_of_length_le (by omega)]; simp [hi, br_false]
theorem any_mem (l : List Dot) (d : Dot) : (l.any fun e => decide (e = d)) = decide (d ∈ l) := by
  rw [Bool.eq_iff_iff]; simp
theorem rhas_is (k : Nat) (s : DSet) (d : Dot) (hl : s.2.length < k) (hk : k < 1000000) (hr : ∀ e ∈ s.2, rightD e = true) : ref06_Has.f k s d = some (memB s d) := by
  rw [ref06_Has.f_eq, rvhas_is]
  simp only [bnd]
  have := rhas_l k s d (by omega) k 0 (by omega) (by omega)
  rw [List.drop_zero, any_mem] at this
  rw [show ref06_Has.l4 k k 0 s d = _ from this]
  unfold memB
  cases h : rightD d with
  | false =>
    have : d ∉ s.2 := fun hd => by rw [hr d hd] at h; cases h
    simp [this, br_false]
  | true =>
    by_cases h2 : d.2 ≤ vat s.1 d.1 <;> simp [h2, br_true, br_false]
end Go.Proofs.YtoikjekpckhgeaaGreat
end
section
/- What the functions of the layer of dots compute, on. -/
namespace Go.Proofs.YtoikjekpckhgeaaGreat
open Pal
theorem wrap_u64 {n : Int} (h1 : 0 ≤ n) (h2 : n < 2 ^ 63) : IntKind.wrap .u64 n = n := by
  have e1 : ((2 : Int) ^ 63) = 9223372036854775808 := by decide
  rw [e1] at h2
  simp only [IntKind.wrap, IntKind.signed, IntKind.bits]
  simp
  omega
theorem mid_is {i j : Nat} (h : i + j < 1000000000) : iwrap .i64 (ishr .u64 (iwrap .u64 (iadd .i64 (i : Int) (j : Int))) 1) = (((i + j) / 2 : Nat) : Int) := by
  have e1 : ((2 : Int) ^ 63) = 9223372036854775808 := by decide
  rw [iadd_s (by omega) (by omega) (by omega) (by omega)]
  unfold iwrap ishr
  rw [wrap_u64 (by omega) (by rw [e1]; omega)]
  have e2 : (2 : Int) ^ (min (1 : Int).toNat (IntKind.bits .u64)) = 2 := by decide
  rw [e2, show (i : Int) + (j : Int) = ((i + j : Nat) : Int) by omega]
  have e3 : Int.fdiv ((i + j : Nat) : Int) 2 = (((i + j) / 2 : Nat) : Int) := by
    rw [Int.fdiv_eq_ediv_of_nonneg _ (by decide)]; rfl
  rw [e3, wrap_i64 (by rw [e1]; omega) (by rw [e1]; omega)]
def Found (l : List Dot) (d : Dot) (p : Nat) (b : Bool) : Prop :=
  p ≤ l.length ∧ (∀ j (h : j < l.length), j < p → dotLt l[j] d = true) ∧ (∀ j (h : j < l.length), p ≤ j → dotLt l[j] d = false) ∧ b = decide (d ∈ l)
theorem srt_get {l : List Dot} (hs : l.Pairwise (fun a b => dotLt a b = true)) {i j : Nat} (hi : i < l.length) (hj : j < l.length) (h : i < j) : dotLt l[i] l[j] = true := List.pairwise_iff_getElem.1 hs i j hi hj h
theorem cmp_lt0 (a b : Dot) : ilt (cmpD a b) 0 = dotLt a b := rfl
theorem cmp_eq0 (a b : Dot) : ieq (cmpD a b) 0 = decide (a = b) := by
  rw [ieq_dec]; congr 1
  unfold cmpD
  apply propext
  by_cases h : a.1 = b.1
  · rw [if_pos ((cmpI_eq _ _).2 h), cmpI_eq]; exact ⟨fun h2 => Prod.ext h h2, fun e => by rw [e]⟩
  · rw [if_neg (fun e => h ((cmpI_eq _ _).1 e)), cmpI_eq]; exact ⟨fun e => absurd e h, fun e => by rw [e]⟩
theorem bs_l (k : Nat) (l : List Dot) (d : Dot) (hl : l.length < 1000000) (hs : l.Pairwise (fun a b => dotLt a b = true)) : ∀ (n i j : Nat), i ≤ j → j ≤ l.length → j < n + i → (∀ t (h : t < l.length), t < i → dotLt l[t] d = true) → (∀ t (h : t < l.length), j ≤ t → dotLt l[t] d = false) →
    ∃ p b, Found l d p b ∧ slices_BinarySearchFunc_api_Dot_api_Dot_api_Dot_dot_Compare.l3 (k + 3) n l (ilen l) (i : Int) (j : Int) d = some ((p : Int), b)
  | 0, i, j, h, _, h', _, _ => by omega
  | n + 1, i, j, hij, hj, hn, h1, h2 => by
    rw [slices_BinarySearchFunc_api_Dot_api_Dot_api_Dot_dot_Compare.l3_eq, ilt_nn, mid_is (by omega)]
    by_cases hlt : i < j
    · have hm : (i + j) / 2 < l.length := by omega
      rw [inL_nat, natOf_nat, rd_at' (e := tDot) hm, cmpD_is]
      simp only [hlt, hm, decide_true, br_true, br_false, bnd, cmp_lt0]
      have hi' : i ≤ (i + j) / 2 := by omega
      have hj' : (i + j) / 2 < j := by omega
      generalize (i + j) / 2 = m at hm hi' hj' ⊢
      cases hc : dotLt l[m] d with
      | true =>
        rw [iadd_nat (by omega)]
        simp only [br_true]
        exact bs_l k l d hl hs n (m + 1) j (by omega) hj (by omega) (fun t ht htm => by
          rcases Nat.lt_or_ge t m with h | h
          · exact dotLt_swo.trans _ _ _ (srt_get hs ht hm h) hc
          · have : t = m := by omega
            subst this; exact hc) h2
      | false =>
        simp only [br_false]
        exact bs_l k l d hl hs n i m hi' (by omega) (by omega) h1 (fun t ht htm => by
          rcases Nat.lt_or_ge m t with h | h
          · cases hh : dotLt l[t] d with
            | false => rfl
            | true => exfalso; have := dotLt_swo.trans _ _ _ (srt_get hs hm ht h) hh; rw [hc] at this; cases this
          · have : t = m := by omega
            subst this; exact hc)
    · have : i = j := by omega
      subst this
      have hge : ∀ t (h : t < l.length), l[t] = d → i ≤ t := fun t h e => by
        rcases Nat.lt_or_ge t i with hh | hh
        · have := h1 t h hh; rw [e, dotLt_swo.irrefl] at this; cases this
        · exact hh
      simp only [Nat.lt_irrefl, decide_false, br_false, ilt_nat, inL_nat, natOf_nat]
      by_cases hil : i < l.length
      · rw [rd_at' (e := tDot) hil, cmpD_is]
        simp only [hil, decide_true, br_true, bnd, cmp_eq0]
        refine ⟨i, _, ⟨hj, h1, h2, ?_⟩, rfl⟩
        congr 1
        apply propext
        constructor
        · intro e; rw [← e]; exact List.getElem_mem hil
        · intro e
          obtain ⟨t, ht, he⟩ := List.getElem_of_mem e
          have h3 := hge t ht he
          rcases Nat.lt_or_ge i t with hh | hh
          · have h4 := srt_get hs hil ht hh
            rw [he] at h4
            have := h2 i hil (Nat.le_refl _)
            rw [h4] at this; cases this
          · have : t = i := by omega
            subst this; exact he
      · simp only [hil, decide_false, br_false]
        refine ⟨i, _, ⟨hj, h1, h2, ?_⟩, rfl⟩
        symm; rw [decide_eq_false_iff_not]
        intro e
        obtain ⟨t, ht, he⟩ := List.getElem_of_mem e
        have := hge t ht he; omega
theorem bs_is (k : Nat) (l : List Dot) (d : Dot) (h3 : 3 ≤ k) (hl : l.length < k) (hk : k < 1000000) (hs : l.Pairwise (fun a b => dotLt a b = true)) : ∃ p b, Found l d p b ∧ slices_BinarySearchFunc_api_Dot_api_Dot_api_Dot_dot_Compare.f k l d = some ((p : Int), b) := by
  obtain ⟨q, rfl⟩ : ∃ q, k = q + 3 := ⟨k - 3, by omega⟩
  rw [slices_BinarySearchFunc_api_Dot_api_Dot_api_Dot_dot_Compare.f_eq]
  exact bs_l q l d (by omega) hs (q + 3) 0 l.length (by omega) (Nat.le_refl _) (by omega) (fun t _ h => by omega) (fun t h h' => by omega)
theorem has_is (k : Nat) (s : DSet) (d : Dot) (h3 : 3 ≤ k) (hl : s.2.length < k) (hk : k < 1000000) (hs : Can s) : dots_Has.f k s d = some (memB s d) := by
  rw [dots_Has.f_eq, vhas_is]
  simp only [bnd]
  obtain ⟨p, b, hf, he⟩ := bs_is k s.2 d h3 hl hk hs.srt
  rw [he, hf.2.2.2]
  unfold memB
  cases h : rightD d with
  | false =>
    have : d ∉ s.2 := fun hd => by rw [hs.rt d hd] at h; cases h
    simp [this, br_false]
  | true =>
    by_cases h2 : d.2 ≤ vat s.1 d.1 <;> simp [h2, br_true, br_false]
def insR (d : Dot) : List Dot → List Dot
  | [] => [d]
  | y :: r => if dotLt d y then d :: y :: r else y :: insR d r
theorem insR_perm (d : Dot) : ∀ l, (insR d l).Perm (d :: l)
  | [] => List.Perm.refl _
  | y :: r => by
    unfold insR
    split
    · exact List.Perm.refl _
    · exact ((insR_perm d r).cons y).trans (List.Perm.swap d y r)
theorem insR_srt {d : Dot} : ∀ {l : List Dot}, l.Pairwise (fun a b => dotLt a b = true) → d ∉ l → (insR d l).Pairwise (fun a b => dotLt a b = true)
  | [], _, _ => List.pairwise_singleton _ _
  | y :: r, h, hd => by
    have h' := List.pairwise_cons.1 h
    unfold insR
    split
    · rename_i hy
      refine List.pairwise_cons.2 ⟨fun z hz => ?_, h⟩
      rcases List.mem_cons.1 hz with rfl | hz
      · exact hy
      · exact dotLt_swo.trans _ _ _ hy (h'.1 z hz)
    · rename_i hy
      have hyd : dotLt y d = true := by
        cases hh : dotLt y d with
        | true => rfl
        | false => exact absurd (by rw [dotLt_tot y d hh (by simpa using hy)]; exact List.mem_cons_self) hd
      refine List.pairwise_cons.2 ⟨fun z hz => ?_, insR_srt h'.2 (fun hh => hd (List.mem_cons_of_mem _ hh))⟩
      rcases List.mem_cons.1 ((insR_perm d r).mem_iff.1 hz) with rfl | hz
      · exact hyd
      · exact h'.1 z hz
def putD (s : DSet) (d : Dot) : DSet := if memB s d = true ∨ rightD d = false then s else mk s.1 (insR d s.2)
theorem insR_weak {d : Dot} {l : List Dot} (hs : l.Pairwise (fun a b => dotLt a b = true)) (hd : d ∉ l) : (insR d l).Pairwise (fun a b => dotLt b a = false) := (insR_srt hs hd).imp dotLt_asym
theorem putD_can {s : DSet} (hs : Can s) (d : Dot) : Can (putD s d) ∧ (∀ x, Mem (putD s d) x ↔ Mem s x ∨ (rightD d = true ∧ x = d)) ∧ (putD s d).2.length ≤ s.2.length + 1 := by
  unfold putD
  by_cases h : memB s d = true ∨ rightD d = false
  · rw [if_pos h]
    refine ⟨hs, fun x => ⟨.inl, fun hh => hh.elim id fun ⟨h1, h2⟩ => ?_⟩, by omega⟩
    subst h2
    rcases h with h | h
    · exact (memB_iff s x).1 h
    · rw [h] at h1; cases h1
  · rw [if_neg h]
    have h1 : ¬ Mem s d := fun hm => h (.inl ((memB_iff s d).2 hm))
    have h2 : rightD d = true := by cases hh : rightD d with
      | true => rfl
      | false => exact absurd (.inr hh) h
    have hn : d ∉ s.2 := fun hd => h1 ⟨h2, .inr hd⟩
    obtain ⟨q1, q2, q3, _⟩ := mk_can hs.vok (insR d s.2) (fun e he => by
      rcases List.mem_cons.1 ((insR_perm d s.2).mem_iff.1 he) with rfl | he
      · exact h2
      · exact hs.rt e he) (insR_weak hs.srt hn)
    refine ⟨q1, fun x => ?_, by rw [(insR_perm d s.2).length_eq] at q3; simpa using q3⟩
    rw [q2, (insR_perm d s.2).mem_iff, List.mem_cons]
    constructor
    · rintro ⟨a, b | b | b⟩
      · exact .inl ⟨a, .inl b⟩
      · exact .inr ⟨h2, b⟩
      · exact .inl ⟨a, .inr b⟩
    · rintro (⟨a, b⟩ | ⟨a, b⟩)
      · exact ⟨a, b.imp id .inr⟩
      · exact ⟨by rw [b]; exact a, .inr (.inl b)⟩
end Go.Proofs.YtoikjekpckhgeaaGreat
end
section
/- What the document's functions of the layer of dots compute. -/
namespace Go.Proofs.YtoikjekpckhgeaaGreat
open Pal
theorem filled_l (k : Nat) (s : DSet) (hl : s.2.length < 1000000) (hr : ∀ d ∈ s.2, rightD d = true) (hs : s.2.Pairwise (fun a b => dotLt a b = true)) (hv : VOk s.1) (za : Vec) (zb : List Dot) : ∀ (n i : Nat), i ≤ s.2.length → s.2.length < n + i →
    ref06_filled.l3 k n (i : Int) s za zb (mk s.1 (s.2.take i)).1 (mk s.1 (s.2.take i)).2 = some (mk s.1 s.2)
  | 0, i, h, h' => by omega
  | n + 1, i, h, h' => by
    rw [ref06_filled.l3_eq, ilt_nat, inL_nat, natOf_nat]
    by_cases hi : i < s.2.length
    · have hstep : mk s.1 (s.2.take (i + 1)) = put1 (mk s.1 (s.2.take i)) s.2[i] := by rw [take_next hi]; unfold mk; rw [List.foldl_append]; rfl
      have hws : s.2.Pairwise (fun a b => dotLt b a = false) := hs.imp dotLt_asym
      obtain ⟨hc, hm, hml, hin⟩ := mk_can hv (s.2.take i) (fun d hd => hr d (List.mem_of_mem_take hd)) (hws.sublist (List.take_sublist i s.2))
      have ih := filled_l k s hl hr hs hv za zb n (i + 1) (by omega) (by omega)
      rw [hstep] at ih
      have hnl : (mk s.1 (s.2.take i)).2.getLast? ≠ some s.2[i] := fun e => by
        have h1 := hin _ (List.mem_of_getLast? e)
        obtain ⟨t, ht, he⟩ := List.getElem_of_mem h1
        have ht2 : t < i := by rw [List.length_take] at ht; omega
        rw [List.getElem_take] at he
        have := srt_get hs (by omega) hi ht2
        rw [he, dotLt_swo.irrefl] at this; cases this
      generalize mk s.1 (s.2.take i) = t at hc hm hml ih hstep hin hnl ⊢
      obtain ⟨V, M⟩ := t
      obtain ⟨r0, r1, r2, r3⟩ := (rightD_iff s.2[i]).1 (hr _ (List.getElem_mem hi))
      rw [rd_at' (e := tDot) hi, iadd_nat (by omega)]
      obtain ⟨d, hd⟩ : ∃ d : Dot, d = s.2[i] := ⟨_, rfl⟩
      rw [← hd] at r0 r1 r2 r3 ih hnl ⊢
      have hvv : rd (.int .i64) V (natOf d.1) = vat V d.1 := rfl
      have v0 : 0 ≤ vat V d.1 := hc.vok.lo d.1 r0 r1
      have v1 : vat V d.1 ≤ 1048576 := hc.vok.hi d.1 r0 r1
      have hML : M.length ≤ i := by have : M.length ≤ (s.2.take i).length := hml; rw [List.length_take] at this; omega
      simp only [hi, decide_true, br_true, inB16 r0 r1, hvv, ilt_dec]
      rw [iadd_s (by omega) (by omega) (by omega) (by omega), ieq_dec]
      unfold put1 at ih
      by_cases h1 : d.2 ≤ vat V d.1
      · rw [if_pos h1] at ih
        rw [decide_eq_false (show ¬ d.2 = vat V d.1 + 1 by omega), decide_eq_false (show ¬ vat V d.1 < d.2 by omega)]
        exact ih
      · rw [if_neg h1] at ih
        by_cases h2 : d.2 = vat V d.1 + 1
        · rw [if_pos h2] at ih
          rw [decide_eq_true h2]; exact ih
        · rw [if_neg h2, if_neg hnl] at ih
          rw [decide_eq_false h2, decide_eq_true (show vat V d.1 < d.2 by omega), room1 (by omega)]
          exact ih
    · have : i = s.2.length := by omega
      subst this
      simp only [List.take_length, Nat.lt_irrefl, decide_false, br_false]
theorem filled_is (k : Nat) (s : DSet) (hl : s.2.length < k) (hk : k < 1000000) (hr : ∀ d ∈ s.2, rightD d = true) (hs : s.2.Pairwise (fun a b => dotLt a b = true)) (hv : VOk s.1) : ref06_filled.f k s = some (mk s.1 s.2) := by
  rw [ref06_filled.f_eq]
  exact filled_l k s (by omega) hr hs hv (zarr 16 0) [] k 0 (by omega) (by omega)
theorem rcmp_is (k : Nat) (a b : Dot) : ref04_Compare.f k a b = some (cmpD a b) := by
  rw [ref04_Compare.f_eq, ref04_ints.f_eq, ref04_ints.f_eq, ieq_dec, bnot_dec]
  have hI : ∀ x y : Int, br (ilt x y) (some (-1)) (br (ilt y x) (some 1) (some 0)) = some (cmpI x y) := fun x y => by
    unfold cmpI
    by_cases h1 : x < y
    · simp [ilt, h1, br_true]
    · by_cases h2 : y < x <;> simp [ilt, h1, h2, br_true, br_false]
  have hI' : ∀ x y : Int, bnd (br (ilt x y) (some (-1)) (br (ilt y x) (some 1) (some 0))) (fun r => some r) = some (cmpI x y) := fun x y => by rw [hI]; rfl
  rw [hI', hI']
  unfold cmpD
  by_cases h : a.1 = b.1
  · rw [if_pos ((cmpI_eq _ _).2 h)]; simp [h, br_false]
  · rw [if_neg (fun e => h ((cmpI_eq _ _).1 e))]; simp [h, br_true]
theorem rput_l (k : Nat) (s : DSet) (d : Dot) (hl : s.2.length < 1000000) (za : Vec) (zb : List Dot) : ∀ (n i : Nat) (x : List Dot) (b : Bool), i ≤ s.2.length → s.2.length < n + i → x.length ≤ i + b.toNat →
    ref06_Put.l6 k n x b (i : Int) s d za zb = bnd (ref06_filled.f k (s.1, x ++ if b then s.2.drop i else insR d (s.2.drop i))) fun r => some r
  | 0, i, _, _, h, h', _ => by omega
  | n + 1, i, x, b, h, h', hx => by
    rw [ref06_Put.l6_eq, ilt_nat, inL_nat, natOf_nat]
    by_cases hi : i < s.2.length
    · rw [List.drop_eq_getElem_cons hi, rd_at' (e := tDot) hi, iadd_nat (by omega), rcmp_is]
      have hbn : b.toNat ≤ 1 := by cases b <;> decide
      have hrm : ∀ y : Dot, room x (y :: []) = true := fun y => room1 (by omega)
      have hrm2 : ∀ y z : Dot, room (app x (y :: [])) (z :: []) = true := fun y z => room1 (by simp [app]; omega)
      simp only [hi, decide_true, br_true, bnd_some, cmp_lt0, hrm, hrm2]
      cases b with
      | true =>
        have hb : bnot true = false := rfl
        rw [hb]
        simp only [br_false]
        rw [rput_l k s d hl za zb n (i + 1) _ true (by omega) (by omega) (by simp [app] at hx ⊢; omega)]
        simp [app]
      | false =>
        have hb : bnot false = true := rfl
        rw [hb]
        simp only [br_true, Bool.false_eq_true, if_false]
        unfold insR
        cases hc : dotLt d s.2[i] with
        | true =>
          simp only [br_true, if_true]
          rw [rput_l k s d hl za zb n (i + 1) _ true (by omega) (by omega) (by simp [app] at hx ⊢; omega)]
          simp [app]
        | false =>
          simp only [br_false, Bool.false_eq_true, if_false]
          rw [rput_l k s d hl za zb n (i + 1) _ false (by omega) (by omega) (by simp [app] at hx ⊢; omega)]
          simp [app]
    · rw [List.drop_of_length_le (by omega)]
      simp only [hi, decide_false, br_false]
      cases b with
      | true => have hb : bnot true = false := rfl
                rw [hb]; simp [br_false]
      | false => have hb : bnot false = true := rfl
                 have hx' : x.length ≤ i := hx
                 rw [hb, room1 (by omega)]; simp [br_true, insR, app]
theorem rput_is (k : Nat) (s : DSet) (d : Dot) (hl : s.2.length + 1 < k) (hk : k < 1000000) (hs : Can s) : ref06_Put.f k s d = some (putD s d) := by
  rw [ref06_Put.f_eq, rright_is, rhas_is k s d (by omega) hk hs.rt]
  simp only [bnd_some]
  unfold putD
  cases h : rightD d with
  | false => simp [bnot, br_true]
  | true =>
    cases hm : memB s d with
    | true => simp [bnot, br_true, br_false]
    | false =>
      have hn : d ∉ s.2 := fun hd => by
        have := (memB_iff s d).2 ⟨h, .inr hd⟩
        rw [hm] at this; cases this
      have hb0 : bnot true = false := rfl
      rw [hb0]
      simp only [br_false]
      have := rput_l k s d (by omega) (zarr 16 0) [] k 0 [] false (by omega) (by omega) (by simp)
      rw [show ref06_Put.l6 k k [] false 0 s d (zarr 16 0) [] = _ from this]
      simp only [List.drop_zero, List.nil_append, Bool.false_eq_true, if_false]
      rw [filled_is k (s.1, insR d s.2) (by show (insR d s.2).length < k; rw [(insR_perm d s.2).length_eq]; simpa using hl) hk (fun e he => by
        rcases List.mem_cons.1 ((insR_perm d s.2).mem_iff.1 he) with rfl | he
        · exact h
        · exact hs.rt e he) (insR_srt hs.srt hn) hs.vok]
      simp [bnd]
end Go.Proofs.YtoikjekpckhgeaaGreat
end
section
/- The same, and right, among sets of dots. -/
namespace Go.Proofs.YtoikjekpckhgeaaGreat
open Pal
theorem reqD_l (k : Nat) (xs ys : List Dot) (hl : xs.length = ys.length) (hb : xs.length < 1000000) : ∀ (n i : Nat), i ≤ xs.length → xs.length < n + i →
    ref04_Same.l4 k n xs ys (i : Int) = some (zall (fun x y => decide (x = y)) (xs.drop i) (ys.drop i))
  | 0, i, h, h' => by omega
  | n + 1, i, h, h' => by
    rw [ref04_Same.l4_eq, ilt_nat, inL_nat, inL_nat, natOf_nat]
    by_cases hi : i < xs.length
    · have hi' : i < ys.length := by omega
      rw [zall_step hi hi', rd_at' (e := tDot) hi, rd_at' (e := tDot) hi', deqD, bnot_dec, iadd_nat (by omega)]
      simp only [hi, hi', decide_true, br_true]
      by_cases he : xs[i] = ys[i]
      · simp only [he, not_true, decide_true, decide_false, br_false, Bool.true_and]
        exact reqD_l k xs ys hl hb n (i + 1) (by omega) (by omega)
      · simp only [he, not_false_eq_true, decide_false, decide_true, br_true, Bool.false_and]
    · rw [zall_end (by omega)]
      simp only [hi, decide_false, br_false]
theorem reqD (k : Nat) (xs ys : List Dot) (hb : xs.length < k) (hk : k < 1000000) : ref04_Same.f k xs ys = some (decide (xs = ys)) := by
  rw [ref04_Same.f_eq, ieq_len, bnot_dec]
  by_cases hl : xs.length = ys.length
  · simp only [hl, not_true, decide_false, br_false]
    have := reqD_l k xs ys hl (by omega) k 0 (by omega) (by omega)
    simp only [List.drop_zero, zall_eq xs ys hl] at this
    exact this
  · have : xs ≠ ys := fun e => hl (by rw [e])
    simp only [hl, this, not_false_eq_true, decide_true, decide_false, br_true]
theorem deqV (a b : Vec) : deq tVec a b = decide (a = b) := by
  have h := deq_iff tVec rfl a b
  by_cases he : a = b
  · rw [decide_eq_true he]; exact h.2 he
  · rw [decide_eq_false he, ← Bool.not_eq_true, h]; exact he
theorem rsame_is (k : Nat) (s t : DSet) (hb : s.2.length < k) (hk : k < 1000000) : ref06_Same.f k s t = some (decide (s = t)) := by
  rw [ref06_Same.f_eq, deqV, reqD k _ _ hb hk]
  obtain ⟨a, b⟩ := s
  obtain ⟨c, d⟩ := t
  by_cases h1 : a = c <;> by_cases h2 : b = d <;> simp [h1, h2, br_true, br_false, bnd]
def vin (v : Vec) (r : Int) : Prop := 0 ≤ vat v r ∧ vat v r ≤ 1048576
theorem rvr_l (k : Nat) (v : Vec) : ∀ (n i : Nat), i ≤ 16 → 16 < n + i → ∃ b, ref05_Right.l2 k n (i : Int) v = some b ∧ (b = true ↔ ∀ r : Nat, i ≤ r → r < 16 → vin v r)
  | 0, i, h, h' => by omega
  | n + 1, i, h, h' => by
    rw [ref05_Right.l2_eq, natOf_nat]
    have e1 : ilt (i : Int) 16 = decide (i < 16) := ilt_nn i 16
    rw [e1, inB_nat]
    by_cases hi : i < 16
    · have hv : rd (.int .i64) v i = vat v (i : Int) := rfl
      rw [hv, iadd_nat (by omega), ilt_dec, ilt_dec]
      simp only [hi, decide_true, br_true]
      by_cases h1 : vat v (i : Int) < 0
      · simp only [h1, decide_true, br_true]
        exact ⟨false, rfl, ⟨fun h => (by cases h), fun h => by have := (h i (Nat.le_refl _) hi).1; omega⟩⟩
      · simp only [h1, decide_false, br_false]
        by_cases h2 : 1048576 < vat v (i : Int)
        · simp only [h2, decide_true, br_true]
          exact ⟨false, rfl, ⟨fun h => (by cases h), fun h => by have := (h i (Nat.le_refl _) hi).2; omega⟩⟩
        · simp only [h2, decide_false, br_false]
          obtain ⟨b, hb, hbi⟩ := rvr_l k v n (i + 1) (by omega) (by omega)
          refine ⟨b, hb, hbi.trans ⟨fun h r hr hr2 => ?_, fun h r hr hr2 => h r (by omega) hr2⟩⟩
          by_cases he : r = i
          · subst he; exact ⟨by omega, by omega⟩
          · exact h r (by omega) hr2
    · simp only [hi, decide_false, br_false]
      exact ⟨true, rfl, ⟨fun _ r hr hr2 => by omega, fun _ => rfl⟩⟩
theorem vok_iff {v : Vec} (hl : v.length = 16) : VOk v ↔ ∀ r : Nat, 0 ≤ r → r < 16 → vin v r := by
  constructor
  · intro h r _ hr; exact ⟨h.lo r (by omega) (by omega), h.hi r (by omega) (by omega)⟩
  · intro h
    refine ⟨hl, fun r h0 h1 => ?_, fun r h0 h1 => ?_⟩
    · obtain ⟨a, rfl⟩ := Int.eq_ofNat_of_zero_le h0; exact (h a (by omega) (by omega)).1
    · obtain ⟨a, rfl⟩ := Int.eq_ofNat_of_zero_le h0; exact (h a (by omega) (by omega)).2
theorem rvr_is (k : Nat) (v : Vec) (hl : v.length = 16) (hk : 17 < k) : ∃ b, ref05_Right.f k v = some b ∧ (b = true ↔ VOk v) := by
  rw [ref05_Right.f_eq, vok_iff hl]
  exact rvr_l k v k 0 (by omega) (by omega)
theorem vr_l (k : Nat) (v : Vec) : ∀ (n i : Nat), i ≤ 16 → 16 < n + i → ∃ b, vec_Right.l2 k n v (i : Int) = some b ∧ (b = true ↔ ∀ r : Nat, i ≤ r → r < 16 → vin v r)
  | 0, i, h, h' => by omega
  | n + 1, i, h, h' => by
    rw [vec_Right.l2_eq, natOf_nat]
    have e1 : ilt (i : Int) 16 = decide (i < 16) := ilt_nn i 16
    rw [e1, inB_nat]
    by_cases hi : i < 16
    · have hv : rd (.int .i64) v i = vat v (i : Int) := rfl
      rw [hv, iadd_nat (by omega), ilt_dec, ilt_dec]
      simp only [hi, decide_true, br_true]
      by_cases h1 : vat v (i : Int) < 0
      · simp only [h1, decide_true, br_true]
        exact ⟨false, rfl, ⟨fun h => (by cases h), fun h => by have := (h i (Nat.le_refl _) hi).1; omega⟩⟩
      · simp only [h1, decide_false, br_false]
        by_cases h2 : 1048576 < vat v (i : Int)
        · simp only [h2, decide_true, br_true]
          exact ⟨false, rfl, ⟨fun h => (by cases h), fun h => by have := (h i (Nat.le_refl _) hi).2; omega⟩⟩
        · simp only [h2, decide_false, br_false]
          obtain ⟨b, hb, hbi⟩ := vr_l k v n (i + 1) (by omega) (by omega)
          refine ⟨b, hb, hbi.trans ⟨fun h r hr hr2 => ?_, fun h r hr hr2 => h r (by omega) hr2⟩⟩
          by_cases he : r = i
          · subst he; exact ⟨by omega, by omega⟩
          · exact h r (by omega) hr2
    · simp only [hi, decide_false, br_false]
      exact ⟨true, rfl, ⟨fun _ r hr hr2 => by omega, fun _ => rfl⟩⟩
theorem vr_is (k : Nat) (v : Vec) (hl : v.length = 16) (hk : 17 < k) : ∃ b, vec_Right.f k v = some b ∧ (b = true ↔ VOk v) := by
  rw [vec_Right.f_eq, vok_iff hl]
  exact vr_l k v k 0 (by omega) (by omega)
def okAt (s : DSet) (j : Nat) (h : j < s.2.length) : Prop := rightD s.2[j] = true ∧ vat s.1 s.2[j].1 + 1 < s.2[j].2 ∧ (∀ h0 : 0 < j, dotLt (s.2[j - 1]'(by omega)) s.2[j] = true)
theorem can_iff {s : DSet} (hv : VOk s.1) : Can s ↔ ∀ j (h : j < s.2.length), 0 ≤ j → okAt s j h := by
  constructor
  · intro hs j h _
    exact ⟨hs.rt _ (List.getElem_mem h), hs.gap _ (List.getElem_mem h), fun h0 => srt_get hs.srt (by omega) h (by omega)⟩
  · intro h
    refine ⟨hv, fun d hd => ?_, fun d hd => ?_, ?_⟩
    · obtain ⟨j, hj, rfl⟩ := List.getElem_of_mem hd; exact (h j hj (Nat.zero_le _)).1
    · obtain ⟨j, hj, rfl⟩ := List.getElem_of_mem hd; exact (h j hj (Nat.zero_le _)).2.1
    · have key : ∀ t i (hi : i < s.2.length) (hj : i + 1 + t < s.2.length), dotLt s.2[i] s.2[i + 1 + t] = true := by
        intro t
        induction t with
        | zero => intro i hi hj; exact (h (i + 1) hj (Nat.zero_le _)).2.2 (by omega)
        | succ t ih =>
          intro i hi hj
          have h1 := ih i hi (by omega)
          have h2 := (h (i + 1 + (t + 1)) hj (Nat.zero_le _)).2.2 (by omega)
          exact dotLt_swo.trans _ _ _ h1 h2
      rw [List.pairwise_iff_getElem]
      intro i j hi hj hij
      have := key (j - i - 1) i hi (by omega)
      have e : i + 1 + (j - i - 1) = j := by omega
      simp only [e] at this; exact this
theorem cmp_m1 (a b : Dot) : bnot (ieq (cmpD a b) (-1)) = !dotLt a b := by
  have h1 : ∀ x y : Int, cmpI x y = -1 ∨ cmpI x y = 0 ∨ cmpI x y = 1 := fun x y => by unfold cmpI; split <;> (try split) <;> simp
  have h : cmpD a b = -1 ∨ cmpD a b = 0 ∨ cmpD a b = 1 := by unfold cmpD; split <;> exact h1 _ _
  show bnot (ieq (cmpD a b) (-1)) = !decide (cmpD a b < 0)
  rcases h with h | h | h <;> rw [h] <;> rfl
theorem rr_l (k : Nat) (s : DSet) (hl : s.2.length < 1000000) (hv : VOk s.1) : ∀ (n i : Nat), i ≤ s.2.length → s.2.length < n + i → ∃ b, ref06_Right.l4 k n (i : Int) s = some b ∧ (b = true ↔ ∀ j (h : j < s.2.length), i ≤ j → okAt s j h)
  | 0, i, h, h' => by omega
  | n + 1, i, h, h' => by
    rw [ref06_Right.l4_eq, ilt_nat, inL_nat, natOf_nat]
    by_cases hi : i < s.2.length
    · rw [rd_at' (e := tDot) hi, rright_is, iadd_nat (by omega)]
      simp only [hi, decide_true, br_true, bnd_some]
      cases hr : rightD s.2[i] with
      | false =>
        have e : bnot false = true := rfl
        rw [e]
        exact ⟨false, rfl, ⟨fun h => (by cases h), fun h => by rw [(h i hi (Nat.le_refl _)).1] at hr; cases hr⟩⟩
      | true =>
        have e : bnot true = false := rfl
        obtain ⟨r0, r1, r2, r3⟩ := (rightD_iff s.2[i]).1 hr
        have hvv : rd (.int .i64) s.1 (natOf s.2[i].1) = vat s.1 s.2[i].1 := rfl
        rw [e, inB16 r0 r1, hvv, isub_s (by omega) (by omega) (by omega) (by omega), ile_dec]
        simp only [br_true, br_false]
        by_cases hg : s.2[i].2 - 1 ≤ vat s.1 s.2[i].1
        · simp only [hg, decide_true, br_true]
          exact ⟨false, rfl, ⟨fun h => (by cases h), fun h => by have := (h i hi (Nat.le_refl _)).2.1; omega⟩⟩
        · simp only [hg, decide_false, br_false]
          obtain ⟨b, hb, hbi⟩ := rr_l k s hl hv n (i + 1) (by omega) (by omega)
          have step : (∀ h0 : 0 < i, dotLt (s.2[i - 1]'(by omega)) s.2[i] = true) → (b = true ↔ ∀ j (h : j < s.2.length), i ≤ j → okAt s j h) := fun hlt => hbi.trans ⟨fun h j hj hij => by
            by_cases he : j = i
            · subst he; exact ⟨hr, by omega, hlt⟩
            · exact h j hj (by omega), fun h j hj hij => h j hj (by omega)⟩
          by_cases h0 : 0 < i
          · have e2 : ilt 0 (i : Int) = true := by simp [ilt]; omega
            have e3 : isub .i64 (i : Int) 1 = ((i - 1 : Nat) : Int) := by rw [isub_s (by omega) (by omega) (by omega) (by omega)]; omega
            have hi1 : i - 1 < s.2.length := by omega
            rw [e2, e3, inL_nat, natOf_nat, rd_at' (e := tDot) hi1, rcmp_is]
            simp only [hi1, decide_true, br_true, bnd_some, cmp_m1]
            cases hc : dotLt s.2[i - 1] s.2[i] with
            | true => exact ⟨b, hb, step fun _ => hc⟩
            | false => exact ⟨false, rfl, ⟨fun h => (by cases h), fun h => by have := (h i hi (Nat.le_refl _)).2.2 h0; rw [hc] at this; cases this⟩⟩
          · have e2 : ilt 0 (i : Int) = false := by simp [ilt]; omega
            rw [e2]
            exact ⟨b, hb, step fun h => absurd h h0⟩
    · simp only [hi, decide_false, br_false]
      exact ⟨true, rfl, ⟨fun _ j hj hij => by omega, fun _ => rfl⟩⟩
theorem rr_is (k : Nat) (s : DSet) (hl : s.1.length = 16) (hk : 5000 < k) (hk2 : k < 1000000) : ∃ b, ref06_Right.f k s = some b ∧ (b = true ↔ Can s ∧ s.2.length ≤ 4096) := by
  obtain ⟨b, hb, hbi⟩ := rvr_is k s.1 hl (by omega)
  rw [ref06_Right.f_eq, hb]
  simp only [bnd_some]
  cases b with
  | false => exact ⟨false, rfl, ⟨fun h => (by cases h), fun h => hbi.2 h.1.vok⟩⟩
  | true =>
    have hv := hbi.1 rfl
    have e : bnot true = false := rfl
    have e2 : ilt 4096 (ilen s.2) = decide (4096 < s.2.length) := ilt_nat 4096 s.2
    rw [e, e2]
    simp only [br_false]
    by_cases h : 4096 < s.2.length
    · simp only [h, decide_true, br_true]
      exact ⟨false, rfl, ⟨fun h => (by cases h), fun h => by omega⟩⟩
    · simp only [h, decide_false, br_false]
      obtain ⟨b, hb, hbi⟩ := rr_l k s (by omega) hv k 0 (by omega) (by omega)
      exact ⟨b, hb, hbi.trans ⟨fun h2 => ⟨(can_iff hv).2 h2, by omega⟩, fun h2 => (can_iff hv).1 h2.1⟩⟩
end Go.Proofs.YtoikjekpckhgeaaGreat
end
section
/- Whether a set is right, how many dots there are, and the next one's number. -/
namespace Go.Proofs.YtoikjekpckhgeaaGreat
open Pal
theorem dr_l (k : Nat) (s : DSet) (hl : s.2.length < 1000000) (hv : VOk s.1) : ∀ (n i : Nat), i ≤ s.2.length → s.2.length < n + i → ∃ b, dots_Right.l4 (k + 3) n s.2 (ilen s.2) (i : Int) s = some b ∧ (b = true ↔ ∀ j (h : j < s.2.length), i ≤ j → okAt s j h)
  | 0, i, h, h' => by omega
  | n + 1, i, h, h' => by
    rw [dots_Right.l4_eq, ilt_nat, inL_nat, natOf_nat]
    by_cases hi : i < s.2.length
    · rw [rd_at' (e := tDot) hi, right_is, iadd_nat (by omega)]
      simp only [hi, decide_true, br_true, bnd_some]
      cases hr : rightD s.2[i] with
      | false =>
        have e : bnot false = true := rfl
        rw [e]
        exact ⟨false, rfl, ⟨fun h => (by cases h), fun h => by rw [(h i hi (Nat.le_refl _)).1] at hr; cases hr⟩⟩
      | true =>
        have e : bnot true = false := rfl
        obtain ⟨r0, r1, r2, r3⟩ := (rightD_iff s.2[i]).1 hr
        have hvv : rd (.int .i64) s.1 (natOf s.2[i].1) = vat s.1 s.2[i].1 := rfl
        have v0 := hv.lo s.2[i].1 r0 r1
        have v1 := hv.hi s.2[i].1 r0 r1
        rw [e, inB16 r0 r1, hvv, iadd_s (by omega) (by omega) (by omega) (by omega), ile_dec]
        simp only [br_true, br_false]
        by_cases hg : s.2[i].2 ≤ vat s.1 s.2[i].1 + 1
        · simp only [hg, decide_true, br_true]
          exact ⟨false, rfl, ⟨fun h => (by cases h), fun h => by have := (h i hi (Nat.le_refl _)).2.1; omega⟩⟩
        · simp only [hg, decide_false, br_false]
          obtain ⟨b, hb, hbi⟩ := dr_l k s hl hv n (i + 1) (by omega) (by omega)
          have step : (∀ h0 : 0 < i, dotLt (s.2[i - 1]'(by omega)) s.2[i] = true) → (b = true ↔ ∀ j (h : j < s.2.length), i ≤ j → okAt s j h) := fun hlt => hbi.trans ⟨fun h j hj hij => by
            by_cases he : j = i
            · subst he; exact ⟨hr, by omega, hlt⟩
            · exact h j hj (by omega), fun h j hj hij => h j hj (by omega)⟩
          by_cases h0 : 0 < i
          · have e2 : ilt 0 (i : Int) = true := by simp [ilt]; omega
            have e3 : isub .i64 (i : Int) 1 = ((i - 1 : Nat) : Int) := by rw [isub_s (by omega) (by omega) (by omega) (by omega)]; omega
            have hi1 : i - 1 < s.2.length := by omega
            have e4 : ∀ a b : Dot, ile 0 (cmpD a b) = !dotLt a b := fun a b => by
              show decide (0 ≤ cmpD a b) = !decide (cmpD a b < 0)
              by_cases h : cmpD a b < 0
              · rw [decide_eq_true h, decide_eq_false (by omega)]; rfl
              · rw [decide_eq_false h, decide_eq_true (by omega)]; rfl
            rw [e2, e3, inL_nat, natOf_nat, rd_at' (e := tDot) hi1, cmpD_is]
            simp only [hi1, decide_true, br_true, bnd_some, e4]
            cases hc : dotLt s.2[i - 1] s.2[i] with
            | true => exact ⟨b, hb, step fun _ => hc⟩
            | false => exact ⟨false, rfl, ⟨fun h => (by cases h), fun h => by have := (h i hi (Nat.le_refl _)).2.2 h0; rw [hc] at this; cases this⟩⟩
          · have e2 : ilt 0 (i : Int) = false := by simp [ilt]; omega
            rw [e2]
            exact ⟨b, hb, step fun h => absurd h h0⟩
    · simp only [hi, decide_false, br_false]
      exact ⟨true, rfl, ⟨fun _ j hj hij => by omega, fun _ => rfl⟩⟩
theorem dr_is (k : Nat) (s : DSet) (hl : s.1.length = 16) (hk : 5000 < k) (hk2 : k < 1000000) : ∃ b, dots_Right.f k s = some b ∧ (b = true ↔ Can s ∧ s.2.length ≤ 4096) := by
  obtain ⟨b, hb, hbi⟩ := vr_is k s.1 hl (by omega)
  rw [dots_Right.f_eq, hb]
  simp only [bnd_some]
  cases b with
  | false => exact ⟨false, rfl, ⟨fun h => (by cases h), fun h => hbi.2 h.1.vok⟩⟩
  | true =>
    have hv := hbi.1 rfl
    have e : bnot true = false := rfl
    have e2 : ilt 4096 (ilen s.2) = decide (4096 < s.2.length) := ilt_nat 4096 s.2
    rw [e, e2]
    simp only [br_false]
    by_cases h : 4096 < s.2.length
    · simp only [h, decide_true, br_true]
      exact ⟨false, rfl, ⟨fun h => (by cases h), fun h => by omega⟩⟩
    · simp only [h, decide_false, br_false]
      obtain ⟨q, rfl⟩ : ∃ q, k = q + 3 := ⟨k - 3, by omega⟩
      obtain ⟨b, hb, hbi⟩ := dr_l q s (by omega) hv (q + 3) 0 (by omega) (by omega)
      exact ⟨b, hb, hbi.trans ⟨fun h2 => ⟨(can_iff hv).2 h2, by omega⟩, fun h2 => (can_iff hv).1 h2.1⟩⟩
end Go.Proofs.YtoikjekpckhgeaaGreat
end
section
/- Unions, and what is within what. -/
namespace Go.Proofs.YtoikjekpckhgeaaGreat
open Pal
def vmax (v u : Vec) : Vec := (List.range 16).map fun (i : Nat) => max (vat v (i : Int)) (vat u (i : Int))
theorem vmax_len (v u : Vec) : (vmax v u).length = 16 := by simp [vmax]
theorem vmax_at (v u : Vec) (r : Int) (h0 : 0 ≤ r) (h1 : r < 16) : vat (vmax v u) r = max (vat v r) (vat u r) := by
  obtain ⟨a, rfl⟩ := Int.eq_ofNat_of_zero_le h0
  rw [vat_get (by rw [vmax_len]; omega)]
  simp [vmax]
theorem vmax_ok {v u : Vec} (hv : VOk v) (hu : VOk u) : VOk (vmax v u) :=
  ⟨vmax_len v u, fun r h0 h1 => by rw [vmax_at v u r h0 h1]; have := hv.lo r h0 h1; omega, fun r h0 h1 => by rw [vmax_at v u r h0 h1]; have := hv.hi r h0 h1; have := hu.hi r h0 h1; omega⟩
def upTo (v u m : Vec) (i : Nat) : Prop := m.length = 16 ∧ ∀ r : Int, 0 ≤ r → r < 16 → vat m r = if r < (i : Int) then max (vat v r) (vat u r) else vat v r
theorem upTo_end {v u m : Vec} (h : upTo v u m 16) : m = vmax v u := vec_ext h.1 (vmax_len v u) fun r h0 h1 => by rw [h.2 r h0 h1, if_pos (by omega), vmax_at v u r h0 h1]
theorem upTo_step {v u m : Vec} {i : Nat} {x : Int} (h : upTo v u m i) (hi : i < 16) (hx : x = max (vat v (i : Int)) (vat u (i : Int))) : upTo v u (upd m i x) (i + 1) := by
  refine ⟨by simp [upd, h.1], fun r h0 h1 => ?_⟩
  have := vat_upd (v := m) (r := (i : Int)) (x := x) (by omega) (by rw [h.1]; omega) r h0
  rw [natOf_nat] at this
  rw [this]
  by_cases e : r = (i : Int)
  · rw [if_pos e, if_pos (by omega), hx, e]
  · rw [if_neg e, h.2 r h0 h1]
    by_cases e2 : r < (i : Int)
    · rw [if_pos e2, if_pos (by omega)]
    · rw [if_neg e2, if_neg (by omega)]
theorem upTo_skip {v u m : Vec} {i : Nat} (h : upTo v u m i) (hx : vat v (i : Int) = max (vat v (i : Int)) (vat u (i : Int))) : upTo v u m (i + 1) := by
  refine ⟨h.1, fun r h0 h1 => ?_⟩
  rw [h.2 r h0 h1]
  by_cases e : r = (i : Int)
  · subst e; rw [if_neg (by omega), if_pos (by omega)]; exact hx
  · by_cases e2 : r < (i : Int)
    · rw [if_pos e2, if_pos (by omega)]
    · rw [if_neg e2, if_neg (by omega)]
theorem imax_is (a b : Int) : imax a b = max a b := by unfold imax; split <;> omega
theorem both_l (k : Nat) (v u za : Vec) : ∀ (n i : Nat) (m : Vec), i ≤ 16 → 16 < n + i → upTo v u m i → vec_both_vec_Join_1.l2 k n (i : Int) m u za = some (vmax v u)
  | 0, i, _, h, h', _ => by omega
  | n + 1, i, m, h, h', hm => by
    rw [vec_both_vec_Join_1.l2_eq, natOf_nat]
    have e1 : ilt (i : Int) 16 = decide (i < 16) := ilt_nn i 16
    rw [e1, inB_nat]
    by_cases hi : i < 16
    · have h1 : rd (.int .i64) m i = vat m (i : Int) := rfl
      have h2 : rd (.int .i64) u i = vat u (i : Int) := rfl
      have h3 : vat m (i : Int) = vat v (i : Int) := by rw [hm.2 i (by omega) (by omega), if_neg (by omega)]
      rw [h1, h2, h3, vec_Join_1.f_eq, imax_is, iadd_nat (by omega)]
      simp only [hi, decide_true, br_true, bnd_some]
      exact both_l k v u za n (i + 1) _ (by omega) (by omega) (upTo_step hm hi rfl)
    · have : i = 16 := by omega
      subst this
      simp only [Nat.lt_irrefl, decide_false, br_false]
      rw [upTo_end hm]
theorem join_is (k : Nat) (v u : Vec) (hv : v.length = 16) (hk : 17 < k) : vec_Join.f k v u = some (vmax v u) := by
  rw [vec_Join.f_eq, vec_both_vec_Join_1.f_eq]
  have := both_l k v u (zarr 16 0) k 0 v (by omega) (by omega) ⟨hv, fun r h0 _ => by rw [if_neg (by omega)]⟩
  rw [show vec_both_vec_Join_1.l2 k k 0 v u (zarr 16 0) = _ from this]; rfl
theorem rjoin_l (k : Nat) (v u za : Vec) : ∀ (n i : Nat) (m : Vec), i ≤ 16 → 16 < n + i → upTo v u m i → ref05_Join.l3 k n (i : Int) v u za m = some (vmax v u)
  | 0, i, _, h, h', _ => by omega
  | n + 1, i, m, h, h', hm => by
    rw [ref05_Join.l3_eq, natOf_nat]
    have e1 : ilt (i : Int) 16 = decide (i < 16) := ilt_nn i 16
    rw [e1, inB_nat]
    by_cases hi : i < 16
    · have h1 : rd (.int .i64) v i = vat v (i : Int) := rfl
      have h2 : rd (.int .i64) u i = vat u (i : Int) := rfl
      rw [h1, h2, iadd_nat (by omega), ilt_dec]
      simp only [hi, decide_true, br_true]
      by_cases hlt : vat v (i : Int) < vat u (i : Int)
      · simp only [hlt, decide_true, br_true]
        exact rjoin_l k v u za n (i + 1) _ (by omega) (by omega) (upTo_step hm hi (by omega))
      · simp only [hlt, decide_false, br_false]
        exact rjoin_l k v u za n (i + 1) _ (by omega) (by omega) (upTo_skip hm (by omega))
    · have : i = 16 := by omega
      subst this
      simp only [Nat.lt_irrefl, decide_false, br_false]
      rw [upTo_end hm]
theorem rjoin_is (k : Nat) (v u : Vec) (hv : v.length = 16) (hk : 17 < k) : ref05_Join.f k v u = some (vmax v u) := by
  rw [ref05_Join.f_eq]
  exact rjoin_l k v u (zarr 16 0) k 0 v (by omega) (by omega) ⟨hv, fun r h0 _ => by rw [if_neg (by omega)]⟩
def unionD (s t : DSet) : DSet := mk (vmax s.1 t.1) (isort dotLt (s.2 ++ t.2))
theorem unionD_can {s t : DSet} (hs : Can s) (ht : Can t) : Can (unionD s t) ∧ (∀ x, Mem (unionD s t) x ↔ Mem s x ∨ Mem t x) ∧ (unionD s t).2.length ≤ s.2.length + t.2.length := by
  have hmem : ∀ d, d ∈ isort dotLt (s.2 ++ t.2) ↔ d ∈ s.2 ∨ d ∈ t.2 := fun d => by rw [(isort_perm dotLt _).mem_iff, List.mem_append]
  obtain ⟨h1, h2, h3, _⟩ := mk_can (vmax_ok hs.vok ht.vok) (isort dotLt (s.2 ++ t.2)) (fun d hd => ((hmem d).1 hd).elim (hs.rt d) (ht.rt d)) (isort_sorted dotLt_swo _)
  refine ⟨h1, fun x => ?_, ?_⟩
  · rw [show Mem (unionD s t) x ↔ _ from h2 x, hmem]
    constructor
    · rintro ⟨a, b | b | b⟩
      · obtain ⟨q0, q1, _, _⟩ := (rightD_iff x).1 a
        rw [vmax_at _ _ x.1 q0 q1] at b
        rcases (by omega : x.2 ≤ vat s.1 x.1 ∨ x.2 ≤ vat t.1 x.1) with h | h
        · exact .inl ⟨a, .inl h⟩
        · exact .inr ⟨a, .inl h⟩
      · exact .inl ⟨a, .inr b⟩
      · exact .inr ⟨a, .inr b⟩
    · rintro (⟨a, b⟩ | ⟨a, b⟩)
      · obtain ⟨q0, q1, _, _⟩ := (rightD_iff x).1 a
        refine ⟨a, b.imp (fun h => ?_) .inl⟩
        rw [vmax_at _ _ x.1 q0 q1]; omega
      · obtain ⟨q0, q1, _, _⟩ := (rightD_iff x).1 a
        refine ⟨a, b.imp (fun h => ?_) .inr⟩
        rw [vmax_at _ _ x.1 q0 q1]; omega
  · refine Nat.le_trans h3 ?_
    rw [(isort_perm dotLt _).length_eq, List.length_append]; exact Nat.le_refl _
theorem concat_is (k : Nat) (a b : List Dot) (ha : a.length ≤ 1000000) (hb : b.length ≤ 1000000) (hk : 3 ≤ k) : slices_Concat_api_Dot_api_Dot.f k (a :: (b :: [])) = some (a ++ b) := by
  obtain ⟨q, rfl⟩ : ∃ q, k = q + 1 + 1 + 1 := ⟨k - 3, by omega⟩
  rw [slices_Concat_api_Dot_api_Dot.f_eq, slices_Concat_api_Dot_api_Dot.l3_eq, slices_Concat_api_Dot_api_Dot.l3_eq, slices_Concat_api_Dot_api_Dot.l3_eq]
  rw [slices_Concat_api_Dot_api_Dot.l11_eq, slices_Concat_api_Dot_api_Dot.l11_eq, slices_Concat_api_Dot_api_Dot.l11_eq]
  have i1 : iadd .i64 0 1 = 1 := rfl
  have i2 : iadd .i64 1 1 = 2 := rfl
  have l2 : ilen (a :: (b :: [])) = 2 := rfl
  have r0 : rd (.slc tDot) (a :: (b :: [])) (natOf 0) = a := rfl
  have r1 : rd (.slc tDot) (a :: (b :: [])) (natOf 1) = b := rfl
  have n0 : inL 0 (a :: (b :: [])) = true := rfl
  have n1 : inL 1 (a :: (b :: [])) = true := rfl
  have t0 : ilt 0 2 = true := rfl
  have t1 : ilt 1 2 = true := rfl
  have t2 : ilt 2 2 = false := rfl
  have s0 : iadd .i64 0 (ilen a) = ilen a := by rw [iadd_s (by omega) (by omega) (by unfold ilen; omega) (by unfold ilen; omega), Int.zero_add]
  have s1 : iadd .i64 (ilen a) (ilen b) = ilen a + ilen b := iadd_s (by unfold ilen; omega) (by unfold ilen; omega) (by unfold ilen; omega) (by unfold ilen; omega)
  have g0 : ilt (ilen a) 0 = false := decide_eq_false (by unfold ilen; omega)
  have g1 : ilt (ilen a + ilen b) 0 = false := decide_eq_false (by unfold ilen; omega)
  have g2 : ilt 4294967296 (ilen a + ilen b) = false := decide_eq_false (by unfold ilen; omega)
  have m0 : room ([] : List Int) ([] : List Int) = true := rfl
  have m1 : room ([] : List Dot) a = true := decide_eq_true (by show 0 + a.length ≤ 4294967296; omega)
  have m2 : room (app ([] : List Dot) a) b = true := decide_eq_true (by show a.length + b.length ≤ 4294967296; omega)
  rw [i1, l2, i2, r0, r1, n0, n1, t0, t1, t2, s0, s1, g0, g1, g2, m0, m1, m2]
  simp only [br_true, br_false, app, List.nil_append]
theorem union_is (k : Nat) (s t : DSet) (hs : Can s) (ht : Can t) (hl : s.2.length + t.2.length < k) (h17 : 17 < k) (hk : k < 1000000) : dots_Union.f k s t = some (unionD s t) := by
  have hmem : ∀ d, d ∈ isort dotLt (s.2 ++ t.2) ↔ d ∈ s.2 ∨ d ∈ t.2 := fun d => by rw [(isort_perm dotLt _).mem_iff, List.mem_append]
  rw [dots_Union.f_eq, concat_is k _ _ (by omega) (by omega) (by omega)]
  simp only [bnd_some]
  have e : room ([] : List Int) (s.2 ++ t.2) = true := by simp [room]; omega
  rw [e, join_is k _ _ hs.vok.len h17]
  simp only [br_true, bnd_some]
  rw [made_is k _ (by rw [(isort_perm dotLt _).length_eq, List.length_append]; exact hl) hk (fun d hd => ((hmem d).1 hd).elim (hs.rt d) (ht.rt d)) (isort_sorted dotLt_swo _) _ (vmax_ok hs.vok ht.vok)]
  rfl
theorem puts_can : ∀ (l : List Dot) (s : DSet), Can s → (∀ d ∈ l, rightD d = true) → Can (l.foldl putD s) ∧ (∀ x, Mem (l.foldl putD s) x ↔ Mem s x ∨ x ∈ l) ∧ (l.foldl putD s).2.length ≤ s.2.length + l.length
  | [], s, hs, _ => ⟨hs, fun x => by simp, Nat.le_refl _⟩
  | d :: l, s, hs, hr => by
    obtain ⟨a, b, c⟩ := putD_can hs d
    obtain ⟨p, q, r⟩ := puts_can l (putD s d) a (fun e he => hr e (List.mem_cons_of_mem _ he))
    refine ⟨p, fun x => ?_, by simp only [List.length_cons]; show ((d :: l).foldl putD s).2.length ≤ _; simp only [List.foldl_cons]; omega⟩
    show Mem (l.foldl putD (putD s d)) x ↔ _
    rw [q, b, List.mem_cons]
    have hd := hr d (by simp)
    constructor
    · rintro ((h | ⟨_, h⟩) | h)
      · exact .inl h
      · exact .inr (.inl h)
      · exact .inr (.inr h)
    · rintro (h | h | h)
      · exact .inl (.inl h)
      · exact .inl (.inr ⟨hd, h⟩)
      · exact .inr h
theorem runion_l (k : Nat) (t : DSet) (hk : k < 1000000) (htl : t.2.length < 1000000) (hr : ∀ d ∈ t.2, rightD d = true) (za : Vec) (zb : List Dot) : ∀ (n i : Nat) (s : DSet), Can s → i ≤ t.2.length → t.2.length < n + i → s.2.length + (t.2.length - i) < k → ref06_Union.l3 k n (i : Int) t za zb s = some ((t.2.drop i).foldl putD s)
  | 0, i, _, _, h, h', _ => by omega
  | n + 1, i, s, hs, h, h', hl => by
    rw [ref06_Union.l3_eq, ilt_nat, inL_nat, natOf_nat]
    by_cases hi : i < t.2.length
    · rw [rd_at' (e := tDot) hi, iadd_nat (by omega), rput_is k s t.2[i] (by omega) hk hs, List.drop_eq_getElem_cons hi]
      simp only [hi, decide_true, br_true, bnd_some, List.foldl_cons]
      obtain ⟨a, _, c⟩ := putD_can hs t.2[i]
      exact runion_l k t hk htl hr za zb n (i + 1) _ a (by omega) (by omega) (by omega)
    · rw [List.drop_of_length_le (by omega)]
      simp only [hi, decide_false, br_false, List.foldl_nil]
theorem runion_is (k : Nat) (s t : DSet) (hs : Can s) (ht : Can t) (hl : s.2.length + t.2.length < k) (h17 : 17 < k) (hk : k < 1000000) : ref06_Union.f k s t = some (unionD s t) := by
  obtain ⟨h1, h2, h3, _⟩ := mk_can (vmax_ok hs.vok ht.vok) s.2 hs.rt (hs.srt.imp dotLt_asym)
  obtain ⟨p, q, _⟩ := puts_can t.2 _ h1 ht.rt
  obtain ⟨u1, u2, _⟩ := unionD_can hs ht
  rw [ref06_Union.f_eq, rjoin_is k _ _ hs.vok.len h17]
  simp only [bnd_some]
  rw [filled_is k (vmax s.1 t.1, s.2) (by show s.2.length < k; omega) hk hs.rt hs.srt (vmax_ok hs.vok ht.vok)]
  simp only [bnd_some]
  have := runion_l k t hk (by omega) ht.rt (zarr 16 0) [] k 0 _ h1 (by omega) (by omega) (by omega)
  rw [List.drop_zero] at this
  rw [show ref06_Union.l3 k k 0 t (zarr 16 0) [] (mk (vmax s.1 t.1) s.2) = _ from this]
  congr 1
  refine can_unique p u1 fun x => ?_
  rw [q, h2, u2]
  constructor
  · rintro (⟨a, b | b⟩ | b)
    · obtain ⟨q0, q1, _, _⟩ := (rightD_iff x).1 a
      rw [vmax_at _ _ x.1 q0 q1] at b
      rcases (by omega : x.2 ≤ vat s.1 x.1 ∨ x.2 ≤ vat t.1 x.1) with h | h
      · exact .inl ⟨a, .inl h⟩
      · exact .inr ⟨a, .inl h⟩
    · exact .inl ⟨a, .inr b⟩
    · exact .inr ⟨ht.rt x b, .inr b⟩
  · rintro (⟨a, b⟩ | ⟨a, b⟩)
    · obtain ⟨q0, q1, _, _⟩ := (rightD_iff x).1 a
      refine .inl ⟨a, b.imp (fun h => ?_) id⟩
      rw [vmax_at _ _ x.1 q0 q1]; omega
    · obtain ⟨q0, q1, _, _⟩ := (rightD_iff x).1 a
      rcases b with h | h
      · refine .inl ⟨a, .inl ?_⟩
        rw [vmax_at _ _ x.1 q0 q1]; omega
      · exact .inr h
end Go.Proofs.YtoikjekpckhgeaaGreat
end
section
/- What the program's tally, and the document's, come to. -/
namespace Go.Proofs.YtoikjekpckhgeaaGreat
open Pal
theorem cmp_gt0 (a b : Dot) : ilt 0 (cmpD a b) = dotLt b a := by
  rw [Bool.eq_iff_iff]
  show decide (0 < cmpD a b) = true ↔ _
  rw [decide_eq_true_iff]
  have := cmpD_le a b
  constructor
  · intro h; cases hl : dotLt b a with
    | true => rfl
    | false => have := this.2 hl; omega
  · intro h
    by_cases h1 : 0 < cmpD a b
    · exact h1
    · have := this.1 (by omega); rw [h] at this; cases this
theorem rone_is (k : Nat) (u : Undo) : ref08_one.f k u = some (rightU u) := by
  rw [ref08_one.f_eq, rright_is]
  simp only [bnd_some]
  unfold rightU
  cases rightD u.1 with
  | false => rfl
  | true =>
    simp only [br_true, ile_dec, br_dec, Bool.true_and]
    by_cases h : 1 ≤ u.2
    · rw [if_pos h]; simp [h]
    · rw [if_neg h]; simp [h]
theorem deqU (a b : Undo) : deq tUndo a b = decide (a = b) := deq_dec (τ := tUndo) rfl a b
theorem canU_iff {l : List Undo} : CanU l ↔ ∀ j (h : j < l.length), rightU l[j] = true ∧ ∀ h0 : 0 < j, dotLt (l[j - 1]'(by omega)).1 l[j].1 = true := by
  constructor
  · intro h j hj
    exact ⟨h.rt _ (List.getElem_mem hj), fun h0 => List.pairwise_iff_getElem.1 h.srt (j - 1) j (by omega) hj (by omega)⟩
  · intro h
    refine ⟨fun u hu => ?_, List.pairwise_iff_getElem.2 fun i j hi hj hij => ?_⟩
    · obtain ⟨j, hj, rfl⟩ := List.mem_iff_getElem.1 hu
      exact (h j hj).1
    · have key : ∀ d j (hj : j < l.length) (hd : d + 1 ≤ j), dotLt (l[j - (d + 1)]'(by omega)).1 l[j].1 = true := by
        intro d
        induction d with
        | zero => intro j hj hd; exact (h j hj).2 (by omega)
        | succ d ih =>
          intro j hj hd
          have h1 := ih j hj (by omega)
          have h2 := (h (j - (d + 1)) (by omega)).2 (by omega)
          have e : j - (d + 1) - 1 = j - (d + 1 + 1) := by omega
          simp only [e] at h2
          exact dotLt_trans h2 h1
      have := key (j - i - 1) j hj (by omega)
      have e : j - (j - i - 1 + 1) = i := by omega
      simpa only [e] using this
def okU (l : List Undo) (j : Nat) : Prop := ∀ h : j < l.length, rightU l[j] = true ∧ ∀ h0 : 0 < j, dotLt (l[j - 1]'(by omega)).1 l[j].1 = true
theorem rrightU_is (k : Nat) (l : List Undo) (hl : l.length < k) (hk : k < 1000000) : ∃ b, ref08_Right.f k l = some b ∧ (b = true ↔ CanU l) := by
  obtain ⟨b, hb, hbi⟩ := loop_all' l.length (fun n i => ref08_Right.l2 k n l (i : Int)) (okU l) (fun n i hi => by
    simp only [ref08_Right.l2_eq, ilt_nat, inL_nat, natOf_nat, hi, decide_true, br_true, rd_at' (e := tUndo) hi, rone_is, bnd_some]
    cases hu : rightU l[i] with
    | false => exact .inr ⟨fun h => (by have := (h hi).1; rw [hu] at this; cases this), rfl⟩
    | true =>
      have e1 : bnot true = false := rfl
      have e2 : ilt 0 (i : Int) = decide (0 < i) := ilt_nn 0 i
      rw [e1, e2, iadd_nat (by omega)]
      simp only [br_false]
      by_cases h0 : 0 < i
      · have hi1 : i - 1 < l.length := by omega
        have e3 : isub .i64 (i : Int) 1 = ((i - 1 : Nat) : Int) := by rw [isub_s (by omega) (by omega) (by omega) (by omega)]; omega
        rw [e3, inL_nat, natOf_nat, rd_at' (e := tUndo) hi1, rcmp_is]
        simp only [h0, hi1, decide_true, br_true, bnd_some, cmp_m1]
        cases hd : dotLt l[i - 1].1 l[i].1 with
        | true => exact .inl ⟨fun _ => ⟨hu, fun _ => hd⟩, rfl⟩
        | false => exact .inr ⟨fun h => (by have := (h hi).2 h0; rw [hd] at this; cases this), rfl⟩
      · simp only [h0, decide_false, br_false]
        exact .inl ⟨fun _ => ⟨hu, fun h => absurd h h0⟩, trivial⟩) (fun n => by
    simp only [ref08_Right.l2_eq, ilt_nat, Nat.lt_irrefl, decide_false, br_false]) k 0 (by omega) (by omega)
  rw [ref08_Right.f_eq]
  refine ⟨b, hb, hbi.trans ?_⟩
  rw [canU_iff]
  exact ⟨fun h j hj => h j (by omega) hj hj, fun h j _ _ hj => h j hj⟩
theorem rget_is (k : Nat) (l : List Undo) (d : Dot) (hl : l.length < k) (hk : k < 1000000) : ref08_Get.f k l d = some (getU l d) := by
  rw [ref08_Get.f_eq]
  have key : ∀ n i, i ≤ l.length → l.length < n + i → ref08_Get.l2 k n l (i : Int) d = some (getU (l.drop i) d) := by
    intro n
    induction n with
    | zero => intro i h h'; omega
    | succ n ih =>
      intro i h h'
      rw [ref08_Get.l2_eq, ilt_nat, inL_nat, natOf_nat]
      by_cases hi : i < l.length
      · rw [rd_at' (e := tUndo) hi, List.drop_eq_getElem_cons hi, getU, iadd_nat (by omega), deqD]
        simp only [hi, decide_true, br_true, br_dec]
        by_cases e : l[i].1 = d
        · rw [if_pos e, if_pos e]
        · rw [if_neg e, if_neg e]; exact ih (i + 1) (by omega) (by omega)
      · rw [List.drop_of_length_le (by omega)]
        simp only [hi, decide_false, br_false]; rfl
  exact key k 0 (by omega) (by omega)
theorem tcmp_is (k : Nat) (u v : Undo) (h3 : 3 ≤ k) : tally_compare.f k u v = some (cmpD u.1 v.1) := by
  obtain ⟨q, rfl⟩ : ∃ q, k = q + 3 := ⟨k - 3, by omega⟩
  rw [tally_compare.f_eq, cmpD_is]; rfl
theorem tjoin_l (k : Nat) (h3 : 3 ≤ k) : ∀ (n : Nat) (a b x : List Undo), a.length + b.length < n → x.length + a.length + b.length < 4000000 → tally_Join.l2 k n a b x = some (x ++ joinU a b)
  | 0, a, b, x, h, _ => by omega
  | n + 1, [], [], x, h, hx => by
    rw [tally_Join.l2_eq, joinU_nil]
    simp only [ilt0, List.length_nil, Nat.lt_irrefl, decide_false, br_false, List.append_nil]
  | n + 1, [], y :: b, x, h, hx => by
    simp only [List.length_nil, List.length_cons, Nat.zero_add] at h hx
    have hr : room x (y :: []) = true := room_le (by simp only [List.length_cons, List.length_nil]; omega)
    rw [tally_Join.l2_eq]
    simp only [ilt0, ieq0, List.length_nil, Nat.lt_irrefl, decide_false, br_false, List.length_cons, Nat.zero_lt_succ, decide_true, br_true, inL0, rd0 (e := tUndo), hr, inS_tail, piece_tail]
    rw [tjoin_l k h3 n [] b _ (by simp only [List.length_nil]; omega) (by simp only [app, List.length_append, List.length_cons, List.length_nil]; omega), joinU_nil, joinU_nil]
    simp [app]
  | n + 1, y :: a, [], x, h, hx => by
    simp only [List.length_nil, List.length_cons, Nat.add_zero] at h hx
    have hr : room x (y :: []) = true := room_le (by simp only [List.length_cons, List.length_nil]; omega)
    have e0 : (a.length + 1 = 0) = False := by simp
    rw [tally_Join.l2_eq]
    simp only [ilt0, ieq0, e0, List.length_nil, Nat.lt_irrefl, decide_false, br_false, List.length_cons, Nat.zero_lt_succ, decide_true, br_true, inL0, rd0 (e := tUndo), hr, inS_tail, piece_tail]
    rw [tjoin_l k h3 n a [] _ (by simp only [List.length_nil]; omega) (by simp only [app, List.length_append, List.length_cons, List.length_nil]; omega), joinU_nil', joinU_nil']
    simp [app]
  | n + 1, u :: a, v :: b, x, h, hx => by
    simp only [List.length_cons] at h hx
    have hr : ∀ y : Undo, room x (y :: []) = true := fun y => room_le (by simp only [List.length_cons, List.length_nil]; omega)
    have e0 : (a.length + 1 = 0) = False := by simp
    have e1 : (b.length + 1 = 0) = False := by simp
    rw [tally_Join.l2_eq, joinU_cons]
    simp only [ilt0, ieq0, e0, e1, decide_false, br_false, List.length_cons, Nat.zero_lt_succ, decide_true, br_true, inL0, rd0 (e := tUndo), hr, inS_tail, piece_tail, tcmp_is k _ _ h3, bnd_some, cmp_lt0, cmp_gt0, imax_is]
    cases h1 : dotLt u.1 v.1 with
    | true =>
      simp only [br_true, if_true]
      rw [tjoin_l k h3 n a (v :: b) _ (by simp only [List.length_cons]; omega) (by simp only [app, List.length_append, List.length_cons, List.length_nil]; omega)]
      simp [app]
    | false =>
      cases h2 : dotLt v.1 u.1 with
      | true =>
        simp only [br_true, br_false, if_true]
        rw [tjoin_l k h3 n (u :: a) b _ (by simp only [List.length_cons]; omega) (by simp only [app, List.length_append, List.length_cons, List.length_nil]; omega)]
        simp [app]
      | false =>
        simp only [br_false]
        rw [tjoin_l k h3 n a b _ (by omega) (by simp only [app, List.length_append, List.length_cons, List.length_nil]; omega)]
        simp [app]
theorem tjoin_is (k : Nat) (a b : List Undo) (h3 : 3 ≤ k) (hl : a.length + b.length < k) (hk : k < 1000000) : tally_Join.f k a b = some (joinU a b) := by
  rw [tally_Join.f_eq, tjoin_l k h3 k a b [] hl (by simp only [List.length_nil]; omega)]; rfl
theorem rputU_l (k : Nat) (l : List Undo) (u : Undo) (hl : l.length < 1000000) : ∀ (n i : Nat) (x : List Undo) (b : Bool), i ≤ l.length → l.length < n + i → x.length ≤ i + b.toNat →
    ref08_Put.l6 k n l x b (i : Int) u = some (x ++ if b then (l.drop i).filter (fun y => decide (y.1 ≠ u.1)) else putF u (l.drop i))
  | 0, i, _, _, h, h', _ => by omega
  | n + 1, i, x, b, h, h', hx => by
    rw [ref08_Put.l6_eq, ilt_nat, inL_nat, natOf_nat]
    have hb : b.toNat ≤ 1 := by cases b <;> decide
    have t1 : true.toNat = 1 := rfl
    have t0 : false.toNat = 0 := rfl
    have hr : ∀ y : Undo, room x (y :: []) = true := fun y => room_le (by simp only [List.length_cons, List.length_nil]; omega)
    have hr2 : ∀ y z : Undo, room (app x (y :: [])) (z :: []) = true := fun y z => room_le (by simp only [app, List.length_append, List.length_cons, List.length_nil]; omega)
    by_cases hi : i < l.length
    · rw [rd_at' (e := tUndo) hi, rcmp_is, List.drop_eq_getElem_cons hi, iadd_nat (by omega)]
      simp only [hi, decide_true, br_true, bnd_some, hr, hr2, ieq_dec, cmpD_eq, bnot_dec, ile_dec]
      have hlen : ∀ y : Undo, (app x (y :: [])).length = x.length + 1 := fun y => by simp [app]
      cases b with
      | true =>
        have e : bnot true = false := rfl
        simp only [e, br_false, if_true, br_dec]
        by_cases he : u.1 = l[i].1
        · rw [if_neg (by simpa using he), rputU_l k l u hl n (i + 1) x true (by omega) (by omega) (by simp only [t1] at hx ⊢; omega), List.filter_cons_of_neg (by simp [he])]
          rfl
        · rw [if_pos he, rputU_l k l u hl n (i + 1) _ true (by omega) (by omega) (by rw [hlen]; simp only [t0, t1] at hx ⊢; omega), List.filter_cons_of_pos (by simpa using fun h => he h.symm)]
          simp [app]
      | false =>
        have e : bnot false = true := rfl
        simp only [e, br_true, br_dec]
        rw [putF]
        by_cases hc : cmpD u.1 l[i].1 ≤ 0
        · rw [if_pos hc, if_pos hc]
          by_cases he : u.1 = l[i].1
          · rw [if_neg (by simpa using he), rputU_l k l u hl n (i + 1) _ true (by omega) (by omega) (by rw [hlen]; simp only [t0, t1] at hx ⊢; omega), List.filter_cons_of_neg (by simp [he])]
            simp [app]
          · rw [if_pos he, rputU_l k l u hl n (i + 1) _ true (by omega) (by omega) (by simp only [app, List.length_append, List.length_cons, List.length_nil, t0, t1] at hx ⊢; omega), List.filter_cons_of_pos (by simpa using fun h => he h.symm)]
            simp [app]
        · have he : ¬ u.1 = l[i].1 := fun e => hc (by rw [(cmpD_eq _ _).2 e]; omega)
          rw [if_neg hc, if_neg hc, if_pos he, rputU_l k l u hl n (i + 1) _ false (by omega) (by omega) (by rw [hlen]; simp only [t0, t1] at hx ⊢; omega)]
          simp [app]
    · rw [List.drop_of_length_le (by omega)]
      simp only [hi, decide_false, br_false, hr]
      cases b with
      | true => have e : bnot true = false := rfl
                simp [e, br_false]
      | false => have e : bnot false = true := rfl
                 simp [e, br_true, app, putF]
theorem rputU_is (k : Nat) (l : List Undo) (u : Undo) (hl : l.length < k) (hk : k < 1000000) : ref08_Put.f k l u = some (putU l u) := by
  rw [ref08_Put.f_eq, rone_is]
  simp only [bnd_some]
  unfold putU
  cases hu : rightU u with
  | false => simp [bnot, br_true]
  | true =>
    have e : bnot true = false := rfl
    rw [e, rget_is k l _ hl hk]
    simp only [br_false, bnd_some, ile_dec, br_dec, true_and]
    by_cases h : u.2 ≤ getU l u.1
    · rw [if_pos h, if_neg (by omega)]
    · rw [if_neg h, if_pos (by omega)]
      have := rputU_l k l u (by omega) k 0 [] false (by omega) (by omega) (by simp)
      simpa using this
theorem rjoinU_is (k : Nat) (a b : List Undo) (ha : CanU a) (hl : a.length + b.length < k) (hk : k < 1000000) : ref08_Join.f k a b = some (b.foldl putU a) := by
  rw [ref08_Join.f_eq]
  have key : ∀ n i (x : List Undo), i ≤ b.length → b.length < n + i → CanU x → x.length + (b.length - i) < k → ref08_Join.l3 k n b x (i : Int) = some ((b.drop i).foldl putU x) := by
    intro n
    induction n with
    | zero => intro i x h h'; omega
    | succ n ih =>
      intro i x h h' hx hxl
      rw [ref08_Join.l3_eq, ilt_nat, inL_nat, natOf_nat]
      by_cases hi : i < b.length
      · rw [rd_at' (e := tUndo) hi, rputU_is k x _ (by omega) hk, List.drop_eq_getElem_cons hi, iadd_nat (by omega)]
        simp only [hi, decide_true, br_true, bnd_some, List.foldl_cons]
        obtain ⟨c1, _, c3⟩ := putU_can hx b[i]
        exact ih (i + 1) _ (by omega) (by omega) c1 (by omega)
      · rw [List.drop_of_length_le (by omega)]
        simp only [hi, decide_false, br_false, List.foldl_nil]
  exact key k 0 a (by omega) (by omega) ha (by omega)
theorem rsameU_is (k : Nat) (a b : List Undo) (hl : a.length < k) (hk : k < 1000000) : ref08_Same.f k a b = some (decide (a = b)) := by
  rw [ref08_Same.f_eq, ieq_len, bnot_dec]
  by_cases h : a.length = b.length
  · simp only [h, not_true, decide_false, br_false]
    exact loop_same a b h (fun n i => ref08_Same.l4 k n a b (i : Int)) (fun n i hi hi' => by
      simp only [ref08_Same.l4_eq, ilt_nat, inL_nat, natOf_nat, hi, hi', decide_true, br_true, rd_at' (e := tUndo) hi, rd_at' (e := tUndo) hi', deqU, bnot_dec, br_dec, iadd_nat (show i < 4611686018427387904 by omega)]
      by_cases e : a[i] = b[i] <;> simp [e]) (fun n => by simp only [ref08_Same.l4_eq, ilt_nat, Nat.lt_irrefl, decide_false, br_false]) k (by omega)
  · have : a ≠ b := fun e => h (by rw [e])
    simp only [h, this, not_false_eq_true, decide_true, decide_false, br_true]
end Go.Proofs.YtoikjekpckhgeaaGreat
end
section
/- What is known: joined, the same, within. -/
namespace Go.Proofs.YtoikjekpckhgeaaGreat
open Pal
abbrev Know := DSet × (List Undo × DSet)
structure CanK (a : Know) : Prop where
  kn : Can a.1
  un : CanU a.2.1
  se : Can a.2.2
structure LenK (n : Nat) (a : Know) : Prop where
  kn : a.1.2.length ≤ n
  un : a.2.1.length ≤ n
  se : a.2.2.2.length ≤ n
def joinK (a b : Know) : Know := (unionD a.1 b.1, (joinU a.2.1 b.2.1, unionD a.2.2 b.2.2))
theorem joinK_can {a b : Know} (ha : CanK a) (hb : CanK b) : CanK (joinK a b) := ⟨(unionD_can ha.kn hb.kn).1, joinU_can ha.un hb.un, (unionD_can ha.se hb.se).1⟩
theorem joinK_len {a b : Know} {n m : Nat} (ha : CanK a) (hb : CanK b) (h1 : LenK n a) (h2 : LenK m b) : LenK (n + m) (joinK a b) :=
  ⟨Nat.le_trans (unionD_can ha.kn hb.kn).2.2 (Nat.add_le_add h1.kn h2.kn), Nat.le_trans (joinU_len ha.un hb.un) (Nat.add_le_add h1.un h2.un), Nat.le_trans (unionD_can ha.se hb.se).2.2 (Nat.add_le_add h1.se h2.se)⟩
theorem goodK_is (k : Nat) (a : Ty.D tKnow) (fa : Fits tKnow a) (hk : 5000 < k) (hk2 : k < 1000000) : ∃ b, ref24_Good.f k a = some b ∧ (b = true → CanK a ∧ LenK 100 a) := by
  have e : ∀ {α : Type} (xs : List α), ile (ilen xs) 100 = decide (xs.length ≤ 100) := fun xs => by unfold ile ilen; congr 1; exact propext ⟨fun h => by omega, fun h => by omega⟩
  rw [ref24_Good.f_eq, ref24_Short.f_eq, e, e, e]
  simp only [br_dec]
  by_cases h1 : List.length a.1.2 ≤ 100
  · rw [if_pos h1]
    by_cases h2 : List.length a.2.1 ≤ 100
    · rw [if_pos h2]
      by_cases h3 : List.length a.2.2.2 ≤ 100
      · rw [decide_eq_true h3, bnd_some]
        simp only [br_true]
        obtain ⟨b1, g1, i1⟩ := rr_is k a.1 fa.1.1.1 hk hk2
        obtain ⟨b2, g2, i2⟩ := rrightU_is k a.2.1 (Nat.lt_of_le_of_lt h2 (by omega)) hk2
        obtain ⟨b3, g3, i3⟩ := rr_is k a.2.2 fa.2.2.1.1 hk hk2
        rw [ref24_Right.f_eq, g1, g2, g3]
        simp only [bnd_some]
        cases b1 with
        | false => exact ⟨false, rfl, fun h => by cases h⟩
        | true =>
          cases b2 with
          | false => exact ⟨false, rfl, fun h => by cases h⟩
          | true => exact ⟨b3, rfl, fun h => ⟨⟨(i1.1 rfl).1, i2.1 rfl, (i3.1 h).1⟩, ⟨h1, h2, h3⟩⟩⟩
      · rw [decide_eq_false h3]; exact ⟨false, rfl, fun h => by cases h⟩
    · rw [if_neg h2]; exact ⟨false, rfl, fun h => by cases h⟩
  · rw [if_neg h1]; exact ⟨false, rfl, fun h => by cases h⟩
theorem djoin_is (k : Nat) (a b : Know) {n m : Nat} (ha : CanK a) (hb : CanK b) (h1 : LenK n a) (h2 : LenK m b) (hl : n + m < k) (h17 : 17 < k) (hk : k < 1000000) : delta_Join.f k a b = some (joinK a b) := by
  have := h1.kn; have := h1.un; have := h1.se; have := h2.kn; have := h2.un; have := h2.se
  rw [delta_Join.f_eq, union_is k _ _ ha.kn hb.kn (by omega) h17 hk, tjoin_is k _ _ (by omega) (by omega) hk, union_is k _ _ ha.se hb.se (by omega) h17 hk]
  rfl
theorem rdjoin_is (k : Nat) (a b : Know) {n m : Nat} (ha : CanK a) (hb : CanK b) (h1 : LenK n a) (h2 : LenK m b) (hl : n + m < k) (h17 : 17 < k) (hk : k < 1000000) : ref24_Join.f k a b = some (joinK a b) := by
  have := h1.kn; have := h1.un; have := h1.se; have := h2.kn; have := h2.un; have := h2.se
  rw [ref24_Join.f_eq, runion_is k _ _ ha.kn hb.kn (by omega) h17 hk, rjoinU_is k _ _ ha.un (by omega) hk, runion_is k _ _ ha.se hb.se (by omega) h17 hk, rjoin_eq ha.un hb.un]
  rfl
end Go.Proofs.YtoikjekpckhgeaaGreat
end
section
/- That runs answer; binary search. -/
namespace Go.Proofs.YtoikjekpckhgeaaGreat.Pal
open Go
def Tot {α : Type} (x : Option α) : Prop := ∃ r, x = some r
theorem some_tot {α : Type} (a : α) : Tot (some a) := ⟨a, rfl⟩
theorem br_tot {α : Type} {b : Bool} {x y : Option α} (h1 : Tot x) (h2 : Tot y) : Tot (br b x y) := by cases b <;> assumption
theorem bnd_tot {α β : Type} {x : Option α} {f : α → Option β} (h1 : Tot x) (h2 : ∀ r, x = some r → Tot (f r)) : Tot (bnd x f) := by
  obtain ⟨r, rfl⟩ := h1
  exact h2 r rfl
theorem bnd_tot' {α β : Type} {x : Option α} {f : α → Option β} (h1 : Tot x) (h2 : ∀ r, Tot (f r)) : Tot (bnd x f) := bnd_tot h1 fun r _ => h2 r
theorem loop_tot {ρ : Type} (N : Nat) (L : Nat → Nat → Option ρ) (hs : ∀ n i, i < N → Tot (L n (i + 1)) → Tot (L (n + 1) i)) (he : ∀ n, Tot (L (n + 1) N)) : ∀ n i, i ≤ N → N < n + i → Tot (L n i)
  | 0, i, h, h' => by omega
  | n + 1, i, h, h' => by
    by_cases hi : i < N
    · exact hs n i hi (loop_tot N L hs he n (i + 1) (by omega) (by omega))
    · have : i = N := by omega
      subst this; exact he n
theorem bs_gen {α ρ : Type} (l : List α) (lt : α → Bool) (hm : l.Pairwise (fun a b => lt b = true → lt a = true)) (L : Nat → Nat → Nat → Option ρ) (E : Nat → Option ρ)
    (hs : ∀ n i j, i < j → j ≤ l.length → ∀ h : (i + j) / 2 < l.length, L (n + 1) i j = if lt l[(i + j) / 2] = true then L n ((i + j) / 2 + 1) j else L n i ((i + j) / 2)) (he : ∀ n i, i ≤ l.length → L (n + 1) i i = E i) :
    ∀ n i j, i ≤ j → j ≤ l.length → j < n + i → (∀ t (h : t < l.length), t < i → lt l[t] = true) → (∀ t (h : t < l.length), j ≤ t → lt l[t] = false) →
      ∃ p, p ≤ l.length ∧ (∀ t (h : t < l.length), t < p → lt l[t] = true) ∧ (∀ t (h : t < l.length), p ≤ t → lt l[t] = false) ∧ L n i j = E p
  | 0, i, j, h, _, h', _, _ => by omega
  | n + 1, i, j, hij, hj, hn, h1, h2 => by
    have mono : ∀ s t (hs : s < l.length) (ht : t < l.length), s < t → lt l[t] = true → lt l[s] = true := fun s t hs ht hst => List.pairwise_iff_getElem.1 hm s t hs ht hst
    by_cases e : i = j
    · subst e
      exact ⟨i, hj, h1, h2, he n i hj⟩
    · have hlt : i < j := by omega
      have hm' : (i + j) / 2 < l.length := by omega
      have := hs n i j hlt hj hm'
      cases hc : lt l[(i + j) / 2] with
      | true =>
        rw [hc, if_pos rfl] at this
        rw [this]
        exact bs_gen l lt hm L E hs he n ((i + j) / 2 + 1) j (by omega) hj (by omega) (fun t ht htm => by
          rcases Nat.lt_or_ge t ((i + j) / 2) with h | h
          · exact mono t _ ht hm' h hc
          · have : t = (i + j) / 2 := by omega
            subst this; exact hc) h2
      | false =>
        rw [hc] at this
        simp only [Bool.false_eq_true, if_false] at this
        rw [this]
        exact bs_gen l lt hm L E hs he n i ((i + j) / 2) (by omega) (by omega) (by omega) h1 (fun t ht htm => by
          rcases Nat.lt_or_ge ((i + j) / 2) t with h | h
          · cases hh : lt l[t] with
            | false => rfl
            | true => have := mono _ t hm' ht h hh; rw [hc] at this; cases this
          · have : t = (i + j) / 2 := by omega
            subst this; exact hc)
end Go.Proofs.YtoikjekpckhgeaaGreat.Pal
end
section
/- The document's checks of names, paths, values, operations and transactions answer, of short ones. -/
namespace Go.Proofs.YtoikjekpckhgeaaGreat
open Pal
abbrev Str := List UInt8
abbrev Val := Int × (Int × Str)
abbrev Op := Int × (List Str × (Val × (Int × List (Dot × Int))))
abbrev Txn := Dot × (Int × (Int × (Bool × List Op)))
noncomputable instance decOp : DecidableEq Op := fun a b => Classical.propDecidable (a = b)
noncomputable instance decTxn : DecidableEq Txn := fun a b => Classical.propDecidable (a = b)
theorem ilt_lenR {α : Type} (c : Nat) (xs : List α) : ilt (c : Int) (ilen xs) = decide (c < xs.length) := by unfold ilt ilen; exact decide_eq_decide.2 ⟨fun h => by omega, fun h => by omega⟩
theorem ile_len {α : Type} (c : Nat) (xs : List α) : ile (ilen xs) (c : Int) = decide (xs.length ≤ c) := by unfold ile ilen; exact decide_eq_decide.2 ⟨fun h => by omega, fun h => by omega⟩
theorem rchar_is (k : Nat) (s : Str) (hk : 10 < k) (hs : s.length < 4000000) : ∃ (c n : Int), ref03_Char.f k s = some (c, n) ∧ 0 ≤ n ∧ n ≤ (s.length : Int) := by
  rw [ref03_Char.f_eq]
  have e0 : ieq (ilen s) 0 = decide (s.length = 0) := ieq0 s
  rw [e0]
  by_cases h0 : s.length = 0
  · rw [decide_eq_true h0]; exact ⟨0, 0, rfl, by decide, by omega⟩
  rw [decide_eq_false h0]
  have e1 : inL 0 s = true := by
    have := inL_nat 0 s
    rw [show inL 0 s = decide (0 < s.length) from this]; exact decide_eq_true (by omega)
  have l2 : ∀ c : Nat, ilt (ilen s) (c : Int) = decide (s.length < c) := fun c => by unfold ilt ilen; exact decide_eq_decide.2 ⟨fun h => by omega, fun h => by omega⟩
  have key : ∀ (N : Nat) (m x : Int), 1 ≤ N → N ≤ s.length → N ≤ 4 → ∃ (c n : Int), ref03_Char.l17 k k s x (N : Int) m 1 = some (c, n) ∧ 0 ≤ n ∧ n ≤ (s.length : Int) := by
    intro N m x hN1 hN hN4
    have : ∀ n i (x : Int), 1 ≤ i → N < n + i → i ≤ N → ∃ (c q : Int), ref03_Char.l17 k n s x (N : Int) m (i : Int) = some (c, q) ∧ 0 ≤ q ∧ q ≤ (s.length : Int) := by
      intro n
      induction n with
      | zero =>
        intro i x h1 h2 h3
        omega
      | succ n ih =>
        intro i x h1 h2 h3
        rw [ref03_Char.l17_eq, ilt_nn]
        by_cases hi : i < N
        · have e2 : inL (i : Int) s = true := by rw [inL_nat]; exact decide_eq_true (by omega)
          have e3 : iadd .i64 (i : Int) 1 = ((i + 1 : Nat) : Int) := iadd_nat (by omega)
          rw [decide_eq_true hi, e2, e3]
          simp only [br_true]
          have z : ∃ (c q : Int), (some ((0 : Int), (0 : Int))) = some (c, q) ∧ 0 ≤ q ∧ q ≤ (s.length : Int) := ⟨0, 0, rfl, by decide, by omega⟩
          have y := ih (i + 1) (isub .i64 (iadd .i64 (imul .i64 64 x) (iwrap .i64 (byteAt s (i : Int)))) 128) (by omega) (by omega) (by omega)
          cases ilt (byteAt s (i : Int)) 128 with
          | true => exact z
          | false =>
            cases ilt 191 (byteAt s (i : Int)) with
            | true => exact z
            | false => exact y
        · rw [decide_eq_false hi]
          simp only [br_false]
          have z : ∃ (c q : Int), (some ((0 : Int), (0 : Int))) = some (c, q) ∧ 0 ≤ q ∧ q ≤ (s.length : Int) := ⟨0, 0, rfl, by decide, by omega⟩
          have y : ∃ (c q : Int), (some (x, (N : Int))) = some (c, q) ∧ 0 ≤ q ∧ q ≤ (s.length : Int) := ⟨x, N, rfl, by omega, by omega⟩
          cases ilt x m with
          | true => exact z
          | false =>
            cases ilt 1114111 x with
            | true => exact z
            | false =>
              cases ile 55296 x with
              | false => exact y
              | true => cases ile x 57343 with
                | true => exact z
                | false => exact y
    exact this k 1 x (by omega) (by omega) (by omega)
  have z : ∃ (c q : Int), (some ((0 : Int), (0 : Int))) = some (c, q) ∧ 0 ≤ q ∧ q ≤ (s.length : Int) := ⟨0, 0, rfl, by decide, by omega⟩
  have kk : ∀ (N : Nat) (m x : Int), 1 ≤ N → N ≤ 4 → ∃ (c n : Int), br (ilt (ilen s) (N : Int)) (some ((0 : Int), (0 : Int))) (ref03_Char.l17 k k s x (N : Int) m 1) = some (c, n) ∧ 0 ≤ n ∧ n ≤ (s.length : Int) := by
    intro N m x hN1 hN
    rw [l2]
    by_cases h : s.length < N
    · rw [decide_eq_true h]; exact z
    · rw [decide_eq_false h]; exact key N m x hN1 (by omega) hN
  have k2 := fun m x => kk 2 m x (by decide) (by decide)
  have k3 := fun m x => kk 3 m x (by decide) (by decide)
  have k4 := fun m x => kk 4 m x (by decide) (by decide)
  rw [e1]
  simp only [br_true, br_false]
  generalize iwrap .i64 (byteAt s 0) = b
  cases ilt b 128 with
  | true => exact ⟨b, 1, rfl, by decide, by omega⟩
  | false =>
    cases ile 194 b <;> cases ilt b 224 <;> cases ile 224 b <;> cases ilt b 240 <;> cases ile 240 b <;> cases ilt b 245 <;> simp only [br_true, br_false] <;> first | exact z | exact k2 _ _ | exact k3 _ _ | exact k4 _ _
theorem rrunes_is (k : Nat) (s : Str) (hk : 10 < k) (hs : s.length < k) (hk2 : k < 1000000) : ∃ (l : List Int) (b : Bool), ref03_Runes.f k s = some (l, b) ∧ l.length ≤ s.length := by
  rw [ref03_Runes.f_eq]
  have : ∀ n i (l : List Int), i ≤ s.length → s.length < n + i → l.length ≤ i → ∃ (l' : List Int) (b : Bool), ref03_Runes.l3 k n s l (i : Int) = some (l', b) ∧ l'.length ≤ s.length := by
    intro n
    induction n with
    | zero => intro i l h1 h2; omega
    | succ n ih =>
      intro i l h1 h2 hl
      rw [ref03_Runes.l3_eq, ilt_nat]
      by_cases hi : i < s.length
      · have hin : inS (i : Int) (ilen s) (ilen s) = true := by
          have h1 : (i : Int) ≤ (s.length : Int) := by omega
          show (decide ((0 : Int) ≤ (i : Int)) && decide ((i : Int) ≤ (s.length : Int)) && decide ((s.length : Int) ≤ (s.length : Int))) = true
          rw [decide_eq_true h1, decide_eq_true (show (0 : Int) ≤ (i : Int) by omega), decide_eq_true (Int.le_refl _)]; rfl
        have hp : (piece s (i : Int) (ilen s)).length = s.length - i := by
          unfold piece ilen
          rw [Int.toNat_natCast, Int.toNat_natCast, List.take_length, List.length_drop]
        obtain ⟨c, q, hc, q0, q1⟩ := rchar_is k (piece s (i : Int) (ilen s)) hk (by omega)
        rw [decide_eq_true hi, hin, hc]
        simp only [br_true, bnd_some, ieq_dec]
        rw [hp] at q1
        by_cases hq : q = 0
        · rw [decide_eq_true hq]; exact ⟨[], false, rfl, by simp⟩
        · rw [decide_eq_false hq]
          simp only [br_false]
          have hr : room l (c :: []) = true := room_le (by simp only [List.length_cons, List.length_nil]; omega)
          obtain ⟨Q, rfl⟩ : ∃ Q : Nat, q = (Q : Int) := ⟨q.toNat, by omega⟩
          have e3 : iadd .i64 (i : Int) (Q : Int) = ((i + Q : Nat) : Int) := by rw [iadd_s (by omega) (by omega) (by omega) (by omega)]; omega
          rw [hr, e3]
          simp only [br_true]
          exact ih (i + Q) _ (by omega) (by omega) (by simp only [app, List.length_append, List.length_cons, List.length_nil]; omega)
      · rw [decide_eq_false hi]
        exact ⟨l, true, rfl, by omega⟩
  exact this k 0 [] (by omega) (by omega) (by simp)
theorem rmay_tot (k : Nat) (c : Int) : Tot (ref03_may.f k c) := by
  rw [ref03_may.f_eq]
  repeat' first | exact some_tot _ | apply br_tot
theorem rname_tot (k : Nat) (s : Str) (hk : 10 < k) (hs : s.length < k) (hk2 : k < 1000000) : Tot (ref03_Right.f k s) := by
  obtain ⟨l, b, h, hl⟩ := rrunes_is k s hk hs hk2
  rw [ref03_Right.f_eq, h]
  simp only [bnd_some]
  refine loop_tot l.length (fun n i => ref03_Right.l3 k n l b (i : Int)) (fun n i hi ih => ?_) (fun n => ?_) k 0 (by omega) (by omega)
  · have e3 : iadd .i64 (i : Int) 1 = ((i + 1 : Nat) : Int) := iadd_nat (by omega)
    simp only [ref03_Right.l3_eq, ilt_nat, inL_nat, hi, decide_true, br_true, e3]
    exact bnd_tot' (rmay_tot k _) fun r => br_tot (some_tot _) ih
  · simp only [ref03_Right.l3_eq, ilt_nat, Nat.lt_irrefl, decide_false, br_false]
    repeat' first | exact some_tot _ | apply br_tot
def ShortP (p : List Str) : Prop := p.length ≤ 12 ∧ ∀ s ∈ p, List.length s ≤ 120
theorem rpath_tot (k : Nat) (p : List Str) (hp : ShortP p) (hk : 1000 < k) (hk2 : k < 1000000) : Tot (ref10_Check.f k p) := by
  rw [ref10_Check.f_eq]
  refine br_tot (some_tot _) (br_tot (some_tot _) ?_)
  have := hp.1
  refine loop_tot p.length (fun n i => ref10_Check.l6 k n p (i : Int)) (fun n i hi ih => ?_) (fun n => ?_) k 0 (by omega) (by omega)
  · have e3 : iadd .i64 (i : Int) 1 = ((i + 1 : Nat) : Int) := iadd_nat (by omega)
    simp only [ref10_Check.l6_eq, ilt_nat, inL_nat, natOf_nat, hi, decide_true, br_true, e3, rd_at' (e := .str) hi]
    have := hp.2 p[i] (List.getElem_mem hi)
    exact bnd_tot' (rname_tot k _ (by omega) (by omega) hk2) fun r => br_tot (some_tot _) ih
  · simp only [ref10_Check.l6_eq, ilt_nat, Nat.lt_irrefl, decide_false, br_false]
    exact some_tot _
theorem rval_tot (k : Nat) (v : Val) (hv : v.2.2.length ≤ 200) (hk : 1000 < k) (hk2 : k < 1000000) : Tot (ref09_Right.f k v) := by
  rw [ref09_Right.f_eq]
  obtain ⟨l, b, h, hl⟩ := rrunes_is k v.2.2 (by omega) (by omega) hk2
  rw [h]
  simp only [bnd_some]
  repeat' first | exact some_tot _ | apply br_tot
theorem rrefs_tot (k : Nat) (l : List (Dot × Int)) (hl : l.length ≤ 300) (hk : 1000 < k) (hk2 : k < 1000000) : Tot (ref11_Refs.f k l) := by
  rw [ref11_Refs.f_eq]
  refine loop_tot l.length (fun n i => ref11_Refs.l2 k n l (i : Int)) (fun n i hi ih => ?_) (fun n => ?_) k 0 (by omega) (by omega)
  · have e3 : iadd .i64 (i : Int) 1 = ((i + 1 : Nat) : Int) := iadd_nat (by omega)
    have e4 : ilt 0 (i : Int) = decide (0 < i) := ilt_nn 0 i
    simp only [ref11_Refs.l2_eq, ilt_nat, inL_nat, hi, decide_true, br_true, e3, rright_is, bnd_some, e4]
    refine br_tot (some_tot _) (br_tot (some_tot _) (br_tot (some_tot _) ?_))
    by_cases h0 : 0 < i
    · have hi1 : i - 1 < l.length := by omega
      have e5 : isub .i64 (i : Int) 1 = ((i - 1 : Nat) : Int) := by rw [isub_s (by omega) (by omega) (by omega) (by omega)]; omega
      simp only [h0, decide_true, br_true, e5, inL_nat, hi1, ref04_Refs.f_eq, rcmp_is, bnd_some]
      refine bnd_tot' (br_tot (some_tot _) (bnd_tot' ?_ fun r => some_tot _)) fun r => br_tot (some_tot _) ih
      rw [ref04_ints.f_eq]
      repeat' first | exact some_tot _ | apply br_tot
    · simp only [h0, decide_false, br_false]; exact ih
  · simp only [ref11_Refs.l2_eq, ilt_nat, Nat.lt_irrefl, decide_false, br_false]
    exact some_tot _
structure ShortO (o : Op) : Prop where
  path : ShortP o.2.1
  val : o.2.2.1.2.2.length ≤ 200
  seen : o.2.2.2.2.length ≤ 300
theorem rgone_tot (k : Nat) (o : Op) : Tot (ref11_Gone.f k o) := by
  rw [ref11_Gone.f_eq]
  repeat' first | exact some_tot _ | apply br_tot
theorem rop_tot (k : Nat) (o : Op) (ho : ShortO o) (hk : 1000 < k) (hk2 : k < 1000000) : Tot (ref11_Check.f k o) := by
  rw [ref11_Check.f_eq]
  obtain ⟨r1, h1⟩ := rpath_tot k _ ho.path hk hk2
  obtain ⟨r2, h2⟩ := rval_tot k _ ho.val hk hk2
  obtain ⟨r3, h3⟩ := rrefs_tot k _ ho.seen hk hk2
  rw [h1, h2, h3]
  simp only [bnd_some]
  repeat' first | exact some_tot _ | apply br_tot
structure ShortT (t : Txn) : Prop where
  len : t.2.2.2.2.length ≤ 20
  ops : ∀ o ∈ t.2.2.2.2, ShortO o
theorem rpathshort_is (k : Nat) (p : List Str) (hk : 1000 < k) (hk2 : k < 1000000) : ∃ b, ref10_Short.f k p = some b ∧ (b = true → ShortP p) := by
  rw [ref10_Short.f_eq, show ilt 12 (ilen p) = decide (12 < p.length) from ilt_lenR 12 p]
  by_cases h : 12 < p.length
  · rw [decide_eq_true h]; exact ⟨false, rfl, fun h => by cases h⟩
  · rw [decide_eq_false h]
    simp only [br_false]
    obtain ⟨b, hb, hbi⟩ := loop_all' p.length (fun n i => ref10_Short.l4 k n p (i : Int)) (fun j => ∀ s, p[j]? = some s → List.length s ≤ 120) (fun n i hi => by
      have e3 : iadd .i64 (i : Int) 1 = ((i + 1 : Nat) : Int) := iadd_nat (by omega)
      have e4 : ilt 120 (ilen p[i]) = decide (120 < List.length p[i]) := ilt_lenR 120 p[i]
      simp only [ref10_Short.l4_eq, ilt_nat, inL_nat, natOf_nat, hi, decide_true, br_true, e3, rd_at' (e := .str) hi, e4, br_dec, List.getElem?_eq_getElem hi]
      by_cases hl : 120 < List.length p[i]
      · exact .inr ⟨fun hh => by have := hh _ rfl; omega, if_pos hl⟩
      · exact .inl ⟨fun s hs => by injection hs with hs; subst hs; omega, if_neg hl⟩) (fun n => by simp only [ref10_Short.l4_eq, ilt_nat, Nat.lt_irrefl, decide_false, br_false]) k 0 (by omega) (by omega)
    refine ⟨b, hb, fun hh => ⟨by omega, fun s hs => ?_⟩⟩
    obtain ⟨j, hj, rfl⟩ := List.mem_iff_getElem.1 hs
    exact hbi.1 hh j (by omega) hj _ (List.getElem?_eq_getElem hj)
theorem ropshort_is (k : Nat) (o : Op) (hk : 1000 < k) (hk2 : k < 1000000) : ∃ b, ref11_Short.f k o = some b ∧ (b = true → ShortO o) := by
  obtain ⟨b, hb, hbi⟩ := rpathshort_is k o.2.1 hk hk2
  rw [ref11_Short.f_eq, hb]
  simp only [bnd_some]
  rw [show ile (ilen o.2.2.1.2.2) 200 = decide (o.2.2.1.2.2.length ≤ 200) from ile_len 200 _, show ile (ilen o.2.2.2.2) 300 = decide (o.2.2.2.2.length ≤ 300) from ile_len 300 _]
  cases b with
  | false => exact ⟨false, rfl, fun h => by cases h⟩
  | true =>
    simp only [br_true, br_dec]
    by_cases h : o.2.2.1.2.2.length ≤ 200
    · rw [if_pos h]; exact ⟨_, rfl, fun hh => ⟨hbi rfl, h, of_decide_eq_true hh⟩⟩
    · rw [if_neg h]; exact ⟨false, rfl, fun h => by cases h⟩
def shortAt (k : Nat) (t : Txn) (j : Nat) : Prop := ∀ o, t.2.2.2.2[j]? = some o → ∃ b, ref11_Short.f k o = some b ∧ b = true
theorem rtxnshort_is (k : Nat) (t : Txn) (hk : 1000 < k) (hk2 : k < 1000000) : ∃ b, ref12_Short.f k t = some b ∧ (b = true → ShortT t) := by
  rw [ref12_Short.f_eq, show ilt 20 (ilen t.2.2.2.2) = decide (20 < t.2.2.2.2.length) from ilt_lenR 20 _]
  by_cases h : 20 < t.2.2.2.2.length
  · rw [decide_eq_true h]; exact ⟨false, rfl, fun h => by cases h⟩
  · rw [decide_eq_false h]
    simp only [br_false]
    obtain ⟨b, hb, hbi⟩ := loop_all' t.2.2.2.2.length (fun n i => br (decide True) (ref12_Short.l4 k n (i : Int) t) none) (shortAt k t) (fun n i hi => by
      have e3 : iadd .i64 (i : Int) 1 = ((i + 1 : Nat) : Int) := iadd_nat (by omega)
      obtain ⟨b, hb, _⟩ := ropshort_is k t.2.2.2.2[i] hk hk2
      simp only [decide_true, br_true, ref12_Short.l4_eq, ilt_nat, inL_nat, natOf_nat, hi, e3, rd_at' (e := tOp) hi, hb, bnd_some]
      cases b with
      | false => exact .inr ⟨fun hh => (by obtain ⟨c, h1, h2⟩ := hh _ (List.getElem?_eq_getElem hi); rw [hb] at h1; injection h1 with h1; subst h1; cases h2), rfl⟩
      | true => exact .inl ⟨fun s hs => (by rw [List.getElem?_eq_getElem hi] at hs; injection hs with hs; subst hs; exact ⟨true, hb, rfl⟩), rfl⟩) (fun n => by simp only [decide_true, br_true, ref12_Short.l4_eq, ilt_nat, Nat.lt_irrefl, decide_false, br_false]) k 0 (by omega) (by omega)
    refine ⟨b, hb, fun hh => ⟨by omega, fun o ho => ?_⟩⟩
    obtain ⟨j, hj, rfl⟩ := List.mem_iff_getElem.1 ho
    obtain ⟨c, h1, h2⟩ := hbi.1 hh j (by omega) hj _ (List.getElem?_eq_getElem hj)
    obtain ⟨d, h3, h4⟩ := ropshort_is k _ hk hk2
    rw [h3] at h1; injection h1 with h1; subst h1
    exact h4 h2
theorem rtxn_is (k : Nat) (t : Txn) (ht : ShortT t) (hk : 1000 < k) (hk2 : k < 1000000) : ∃ e : Int, ref12_Check.f k t = some e ∧ (e = 0 → rightD t.1 = true) := by
  rw [ref12_Check.f_eq, rright_is]
  simp only [bnd_some]
  cases hd : rightD t.1 with
  | false => exact ⟨2, rfl, fun h => by cases h⟩
  | true =>
    have : Tot (ref12_Check.l8 k k 0 t) := by
      have := ht.len
      refine loop_tot t.2.2.2.2.length (fun n i => ref12_Check.l8 k n (i : Int) t) (fun n i hi ih => ?_) (fun n => ?_) k 0 (by omega) (by omega)
      · have e3 : iadd .i64 (i : Int) 1 = ((i + 1 : Nat) : Int) := iadd_nat (by omega)
        obtain ⟨e, he⟩ := rop_tot k t.2.2.2.2[i] (ht.ops _ (List.getElem_mem hi)) hk hk2
        obtain ⟨g, hg⟩ := rgone_tot k t.2.2.2.2[i]
        simp only [ref12_Check.l8_eq, ilt_nat, inL_nat, natOf_nat, hi, decide_true, br_true, e3, rd_at' (e := tOp) hi, he, hg, bnd_some]
        exact br_tot (br_tot (br_tot (some_tot _) ih) (br_tot (some_tot _) ih)) ih
      · simp only [ref12_Check.l8_eq, ilt_nat, Nat.lt_irrefl, decide_false, br_false]
        exact some_tot _
    have bt : bnot true = false := rfl
    rw [bt]
    simp only [br_false]
    have all : Tot (br (ilt t.2.1 0) (some (2 : Int)) (br (ilt 7 t.2.1) (some 2) (br (ilt t.2.2.1 1) (some 2) (br (ilt 1099511627776 t.2.2.1) (some 2) (br (ieq (ilen t.2.2.2.2) 0) (some 11) (br (ilt 16 (ilen t.2.2.2.2)) (some 7) (ref12_Check.l8 k k 0 t))))))) := by
      repeat' first | exact some_tot _ | exact this | apply br_tot
    obtain ⟨e, he⟩ := all
    exact ⟨e, he, fun _ => trivial⟩
end Go.Proofs.YtoikjekpckhgeaaGreat
end
section
/- Transactions in order, and states: plain facts. -/
namespace Go.Proofs.YtoikjekpckhgeaaGreat
open Pal
abbrev Sta := List Txn × (List (Dot × Int) × (DSet × (DSet × List (List Dot))))
abbrev Dlt := List Txn × (List (Dot × Int) × List Dot)
def findT : List Txn → Dot → Option Txn
  | [], _ => none
  | t :: r, d => if t.1 = d then some t else findT r d
structure CanT (l : List Txn) : Prop where
  rt : ∀ t ∈ l, rightD t.1 = true
  srt : l.Pairwise (fun a b => dotLt a.1 b.1 = true)
theorem CanT.nil : CanT [] := ⟨fun u hu => by simp at hu, List.Pairwise.nil⟩
theorem CanT.tail {u : Txn} {l : List Txn} (h : CanT (u :: l)) : CanT l := ⟨fun v hv => h.rt v (List.mem_cons_of_mem _ hv), (List.pairwise_cons.1 h.srt).2⟩
theorem CanT.head {u : Txn} {l : List Txn} (h : CanT (u :: l)) : ∀ v ∈ l, dotLt u.1 v.1 = true := (List.pairwise_cons.1 h.srt).1
theorem CanT.cons {u : Txn} {l : List Txn} (h : CanT l) (h1 : rightD u.1 = true) (h2 : ∀ v ∈ l, dotLt u.1 v.1 = true) : CanT (u :: l) :=
  ⟨fun v hv => by rcases List.mem_cons.1 hv with rfl | hv; exact h1; exact h.rt v hv, List.pairwise_cons.2 ⟨h2, h.srt⟩⟩
theorem findT_none {l : List Txn} {d : Dot} : findT l d = none ↔ ∀ t ∈ l, t.1 ≠ d := by
  induction l with
  | nil => simp [findT]
  | cons u l ih =>
    rw [findT]
    by_cases e : u.1 = d
    · rw [if_pos e]; simp [e]
    · rw [if_neg e, ih]; simp [e]
theorem findT_some {l : List Txn} {d : Dot} {t : Txn} (h : findT l d = some t) : t ∈ l ∧ t.1 = d := by
  induction l with
  | nil => cases h
  | cons u l ih =>
    rw [findT] at h
    by_cases e : u.1 = d
    · rw [if_pos e] at h; injection h with h; subst h; exact ⟨by simp, e⟩
    · rw [if_neg e] at h; exact ⟨List.mem_cons_of_mem _ (ih h).1, (ih h).2⟩
theorem findT_is {l : List Txn} {d : Dot} : (findT l d).isSome = true ↔ ∃ t ∈ l, t.1 = d := by
  cases h : findT l d with
  | none => exact ⟨fun h => (by cases h), fun ⟨t, ht, hd⟩ => absurd hd (findT_none.1 h t ht)⟩
  | some t => exact ⟨fun _ => ⟨t, (findT_some h).1, (findT_some h).2⟩, fun _ => rfl⟩
structure CanS (s : Sta) : Prop where
  tx : CanT s.1
  un : CanU s.2.1
  kn : Can s.2.2.1
  se : Can s.2.2.2.1
  know : ∀ x, Mem s.2.2.1 x ↔ ∃ t ∈ s.1, t.1 = x
structure LenS (n : Nat) (s : Sta) : Prop where
  tx : s.1.length ≤ n
  un : s.2.1.length ≤ n
  kn : s.2.2.1.2.length ≤ n
  se : s.2.2.2.1.2.length ≤ n
  re : ∀ l ∈ s.2.2.2.2, l.length ≤ n
theorem LenS.mono {n m : Nat} {s : Sta} (h : LenS n s) (hnm : n ≤ m) : LenS m s :=
  ⟨Nat.le_trans h.tx hnm, Nat.le_trans h.un hnm, Nat.le_trans h.kn hnm, Nat.le_trans h.se hnm, fun l hl => Nat.le_trans (h.re l hl) hnm⟩
structure CanDl (d : Dlt) : Prop where
  tx : CanT d.1
  un : CanU d.2.1
  se : ∀ x ∈ d.2.2, rightD x = true
structure LenD (n : Nat) (d : Dlt) : Prop where
  tx : d.1.length ≤ n
  un : d.2.1.length ≤ n
  se : d.2.2.length ≤ n
end Go.Proofs.YtoikjekpckhgeaaGreat
end
section
/- States: what the program's functions, and the document's, come to. -/
namespace Go.Proofs.YtoikjekpckhgeaaGreat
open Pal
theorem cmpD_eq0 (a b : Dot) : ieq (cmpD a b) 0 = decide (a = b) := by
  rw [ieq_dec]; exact decide_eq_decide.2 (cmpD_eq a b)
def FoundT (l : List Txn) (d : Dot) (p : Nat) (b : Bool) : Prop :=
  p ≤ l.length ∧ (∀ t (h : t < l.length), t < p → dotLt l[t].1 d = true) ∧ (∀ t (h : t < l.length), p ≤ t → dotLt l[t].1 d = false) ∧ b = (findT l d).isSome
theorem bsT_find (k : Nat) (l : List Txn) (d : Dot) (h3 : 3 ≤ k) (hl : l.length < k) (hk : k < 1000000) (hs : CanT l) : ∃ p b, FoundT l d p b ∧ slices_BinarySearchFunc_api_Txn_api_Txn_api_Dot_txn_Find_1.f k l d = some ((p : Int), b) := by
  obtain ⟨q, rfl⟩ : ∃ q, k = q + 3 := ⟨k - 3, by omega⟩
  rw [slices_BinarySearchFunc_api_Txn_api_Txn_api_Dot_txn_Find_1.f_eq]
  obtain ⟨p, h1, h2, h4, h5⟩ := bs_gen l (fun t => dotLt t.1 d) (hs.srt.imp fun {a b} hab hb => dotLt_trans hab hb) (fun n i j => slices_BinarySearchFunc_api_Txn_api_Txn_api_Dot_txn_Find_1.l3 (q + 3) n l (ilen l) (i : Int) (j : Int) d) (fun p => some ((p : Int), match l[p]? with | some t => decide (t.1 = d) | none => false)) (fun n i j hij hj hm => by
    have e1 : ilt (i : Int) (j : Int) = decide (i < j) := ilt_nn i j
    have e3 : iadd .i64 (((i + j) / 2 : Nat) : Int) 1 = (((i + j) / 2 + 1 : Nat) : Int) := iadd_nat (by omega)
    simp only [slices_BinarySearchFunc_api_Txn_api_Txn_api_Dot_txn_Find_1.l3_eq, e1, mid_is (show i + j < 1000000000 by omega), hij, decide_true, br_true, inL_nat, natOf_nat, hm, rd_at' (e := tTxn) hm, txn_Find_1.f_eq, cmpD_is, bnd_some, cmp_lt0, e3]
    cases dotLt l[(i + j) / 2].1 d <;> rfl) (fun n i hi => by
    have e1 : ilt (i : Int) (i : Int) = false := decide_eq_false (by omega)
    simp only [slices_BinarySearchFunc_api_Txn_api_Txn_api_Dot_txn_Find_1.l3_eq, e1, br_false, ilt_nat, inL_nat, natOf_nat]
    by_cases h : i < l.length
    · simp only [h, decide_true, br_true, rd_at' (e := tTxn) h, txn_Find_1.f_eq, cmpD_is, bnd_some, cmpD_eq0, List.getElem?_eq_getElem h]
    · simp only [h, decide_false, br_false, List.getElem?_eq_none (show l.length ≤ i by omega)]) (q + 3) 0 l.length (by omega) (Nat.le_refl _) (by omega) (fun t _ h => by omega) (fun t h h' => by omega)
  refine ⟨p, _, ⟨h1, h2, h4, ?_⟩, h5⟩
  rw [Bool.eq_iff_iff, findT_is]
  constructor
  · intro h
    split at h
    · rename_i t ht
      exact ⟨t, List.mem_of_getElem? ht, of_decide_eq_true h⟩
    · cases h
  · rintro ⟨t, ht, hd⟩
    obtain ⟨j, hj, rfl⟩ := List.mem_iff_getElem.1 ht
    have hpj : ¬ j < p := fun hh => by have := h2 j hj hh; rw [hd, dotLt_swo.irrefl] at this; cases this
    have hjp : ¬ p < j := fun hh => by
      have hlt := List.pairwise_iff_getElem.1 hs.srt p j (by omega) hj hh
      rw [hd] at hlt
      have := h4 p (by omega) (Nat.le_refl _)
      rw [hlt] at this; cases this
    have : j = p := by omega
    subst this
    rw [List.getElem?_eq_getElem hj]; exact decide_eq_true hd
theorem find_is (k : Nat) (l : List Txn) (d : Dot) (h3 : 3 ≤ k) (hl : l.length < k) (hk : k < 1000000) (hs : CanT l) : ∃ r : Int, txn_Find.f k l d = some r ∧ (0 ≤ r ↔ (findT l d).isSome = true) := by
  obtain ⟨p, b, hf, h⟩ := bsT_find k l d h3 hl hk hs
  rw [txn_Find.f_eq, h]
  simp only [bnd_some]
  have hb := hf.2.2.2
  cases b with
  | true => exact ⟨(p : Int), rfl, ⟨fun _ => hb.symm, fun _ => by omega⟩⟩
  | false => exact ⟨-1, rfl, ⟨fun h => by omega, fun h => by rw [← hb] at h; cases h⟩⟩
theorem deqVal (a b : Val) : deq tValue a b = decide (a = b) := deq_dec (τ := tValue) rfl a b
theorem rsameStr_is (k : Nat) (a b : List Str) (hl : a.length < k) (hk : k < 1000000) : ref03_Same.f k a b = some (decide (a = b)) := by
  rw [ref03_Same.f_eq, ieq_len, bnot_dec]
  by_cases h : a.length = b.length
  · simp only [h, not_true, decide_false, br_false]
    exact loop_same a b h (fun n i => ref03_Same.l4 k n a b (i : Int)) (fun n i hi hi' => by
      simp only [ref03_Same.l4_eq, ilt_nat, inL_nat, natOf_nat, hi, hi', decide_true, br_true, rd_at' (e := .str) hi, rd_at' (e := .str) hi', seq_dec, bnot_dec, br_dec, iadd_nat (show i < 4611686018427387904 by omega)]
      by_cases e : a[i] = b[i] <;> simp [e]) (fun n => by simp only [ref03_Same.l4_eq, ilt_nat, Nat.lt_irrefl, decide_false, br_false]) k (by omega)
  · have : a ≠ b := fun e => h (by rw [e])
    simp only [h, this, not_false_eq_true, decide_true, decide_false, br_true]
theorem op_eq (a b : Op) : a = b ↔ a.1 = b.1 ∧ a.2.2.1 = b.2.2.1 ∧ a.2.2.2.1 = b.2.2.2.1 ∧ a.2.1 = b.2.1 ∧ a.2.2.2.2 = b.2.2.2.2 := by
  obtain ⟨a1, a2, a3, a4, a5⟩ := a; obtain ⟨b1, b2, b3, b4, b5⟩ := b
  simp only [Prod.mk.injEq]
  exact ⟨fun ⟨h1, h2, h3, h4, h5⟩ => ⟨h1, h3, h4, h2, h5⟩, fun ⟨h1, h3, h4, h2, h5⟩ => ⟨h1, h2, h3, h4, h5⟩⟩
structure LenO (n : Nat) (o : Op) : Prop where
  path : o.2.1.length < n
  seen : o.2.2.2.2.length < n
theorem rsameOp_is (k : Nat) (a b : Op) (hl : LenO k a) (hk : k < 1000000) : ref11_Same.f k a b = some (decide (a = b)) := by
  have := hl.seen
  rw [ref11_Same.f_eq, rsameStr_is k a.2.1 b.2.1 hl.path hk]
  simp only [ieq_dec, deqVal, bnot_dec, bnd_some, br_dec, ilen, Int.natCast_inj]
  rw [show decide (a = b) = decide (a.1 = b.1 ∧ a.2.2.1 = b.2.2.1 ∧ a.2.2.2.1 = b.2.2.2.1 ∧ a.2.1 = b.2.1 ∧ a.2.2.2.2 = b.2.2.2.2) from decide_eq_decide.2 (op_eq a b)]
  by_cases h1 : a.1 = b.1
  · by_cases h2 : a.2.2.1 = b.2.2.1
    · by_cases h3 : a.2.2.2.1 = b.2.2.2.1
      · by_cases h4 : a.2.1 = b.2.1
        · by_cases h5 : a.2.2.2.2.length = b.2.2.2.2.length
          · simp only [h1, h2, h3, h4, h5, not_true, if_false, true_and]
            exact loop_same a.2.2.2.2 b.2.2.2.2 h5 (fun n i => ref11_Same.l4 k n (i : Int) a b) (fun n i hi hi' => by
              simp only [ref11_Same.l4_eq, ilt_nat, inL_nat, natOf_nat, hi, hi', decide_true, br_true, rd_at' (e := tUndo) hi, rd_at' (e := tUndo) hi', deqU, bnot_dec, br_dec, iadd_nat (show i < 4611686018427387904 by omega)]
              by_cases e : a.2.2.2.2[i] = b.2.2.2.2[i] <;> simp [e]) (fun n => by simp only [ref11_Same.l4_eq, ilt_nat, Nat.lt_irrefl, decide_false, br_false]) k (by omega)
          · have : a.2.2.2.2 ≠ b.2.2.2.2 := fun e => h5 (by rw [e])
            simp [h1, h2, h3, h4, h5, this]
        · simp [h1, h2, h3, h4]
      · simp [h1, h2, h3]
    · simp [h1, h2]
  · simp [h1]
theorem deqDot (a b : Dot) : deq tDot a b = decide (a = b) := deqD a b
theorem deqBool (a b : Bool) : deq .bool a b = decide (a = b) := by cases a <;> cases b <;> rfl
theorem txn_eq (a b : Txn) : a = b ↔ a.1 = b.1 ∧ a.2.1 = b.2.1 ∧ a.2.2.1 = b.2.2.1 ∧ a.2.2.2.1 = b.2.2.2.1 ∧ a.2.2.2.2 = b.2.2.2.2 := by
  obtain ⟨a1, a2, a3, a4, a5⟩ := a; obtain ⟨b1, b2, b3, b4, b5⟩ := b
  simp only [Prod.mk.injEq]
structure LenT (n : Nat) (t : Txn) : Prop where
  ops : t.2.2.2.2.length < n
  each : ∀ o ∈ t.2.2.2.2, LenO n o
theorem rsameTxn_is (k : Nat) (a b : Txn) (hl : LenT k a) (hk : k < 1000000) : ref12_Same.f k a b = some (decide (a = b)) := by
  have := hl.ops
  rw [ref12_Same.f_eq]
  simp only [ieq_dec, deqDot, deqBool, bnot_dec, bnd_some, br_dec, ilen, Int.natCast_inj]
  rw [show decide (a = b) = decide (a.1 = b.1 ∧ a.2.1 = b.2.1 ∧ a.2.2.1 = b.2.2.1 ∧ a.2.2.2.1 = b.2.2.2.1 ∧ a.2.2.2.2 = b.2.2.2.2) from decide_eq_decide.2 (txn_eq a b)]
  by_cases h1 : a.1 = b.1
  · by_cases h2 : a.2.1 = b.2.1
    · by_cases h3 : a.2.2.1 = b.2.2.1
      · by_cases h4 : a.2.2.2.1 = b.2.2.2.1
        · by_cases h5 : a.2.2.2.2.length = b.2.2.2.2.length
          · simp only [h1, h2, h3, h4, h5, not_true, if_false, true_and]
            exact loop_same a.2.2.2.2 b.2.2.2.2 h5 (fun n i => ref12_Same.l4 k n (i : Int) a b) (fun n i hi hi' => by
              simp only [ref12_Same.l4_eq, ilt_nat, inL_nat, natOf_nat, hi, hi', decide_true, br_true, rd_at' (e := tOp) hi, rd_at' (e := tOp) hi', rsameOp_is k _ _ (hl.each _ (List.getElem_mem hi)) hk, bnd_some, bnot_dec, br_dec, iadd_nat (show i < 4611686018427387904 by omega)]
              by_cases e : a.2.2.2.2[i] = b.2.2.2.2[i] <;> simp [e]) (fun n => by simp only [ref12_Same.l4_eq, ilt_nat, Nat.lt_irrefl, decide_false, br_false]) k (by omega)
          · have : a.2.2.2.2 ≠ b.2.2.2.2 := fun e => h5 (by rw [e])
            simp [h1, h2, h3, h4, h5, this]
        · simp [h1, h2, h3, h4]
      · simp [h1, h2, h3]
    · simp [h1, h2]
  · simp [h1]
theorem rallTxn_is (k : Nat) (a b : List Txn) (hl : a.length < k) (he : ∀ t ∈ a, LenT k t) (hk : k < 1000000) : ref12_All.f k a b = some (decide (a = b)) := by
  rw [ref12_All.f_eq, ieq_len, bnot_dec]
  by_cases h : a.length = b.length
  · simp only [h, not_true, decide_false, br_false]
    exact loop_same a b h (fun n i => ref12_All.l4 k n a b (i : Int)) (fun n i hi hi' => by
      simp only [ref12_All.l4_eq, ilt_nat, inL_nat, natOf_nat, hi, hi', decide_true, br_true, rd_at' (e := tTxn) hi, rd_at' (e := tTxn) hi', rsameTxn_is k _ _ (he _ (List.getElem_mem hi)) hk, bnd_some, bnot_dec, br_dec, iadd_nat (show i < 4611686018427387904 by omega)]
      by_cases e : a[i] = b[i] <;> simp [e]) (fun n => by simp only [ref12_All.l4_eq, ilt_nat, Nat.lt_irrefl, decide_false, br_false]) k (by omega)
  · have : a ≠ b := fun e => h (by rw [e])
    simp only [h, this, not_false_eq_true, decide_true, decide_false, br_true]
theorem sta_ext (s u : Sta) (hs : s.2.2.2.2.length = 8) (hu : u.2.2.2.2.length = 8) : s = u ↔ (∀ i, 0 ≤ i → i < 8 → s.2.2.2.2[i]? = u.2.2.2.2[i]?) ∧ s.1 = u.1 ∧ s.2.1 = u.2.1 ∧ s.2.2.1 = u.2.2.1 ∧ s.2.2.2.1 = u.2.2.2.1 := by
  obtain ⟨a1, a2, a3, a4, a5⟩ := s; obtain ⟨b1, b2, b3, b4, b5⟩ := u
  simp only at hs hu ⊢
  constructor
  · intro h; injection h with h1 h; injection h with h2 h; injection h with h3 h; injection h with h4 h5
    exact ⟨fun i _ _ => by rw [h5], h1, h2, h3, h4⟩
  · rintro ⟨h5, h1, h2, h3, h4⟩
    have : a5 = b5 := List.ext_getElem? fun i => by
      by_cases hi : i < 8
      · exact h5 i (by omega) hi
      · rw [List.getElem?_eq_none (by omega), List.getElem?_eq_none (by omega)]
    rw [h1, h2, h3, h4, this]
theorem rsameS_is (k : Nat) (s u : Sta) {n : Nat} (ls : LenS n s) (he : ∀ t ∈ s.1, LenT k t) (hs : s.2.2.2.2.length = 8) (hu : u.2.2.2.2.length = 8) (hn : n < k) (h17 : 17 < k) (hk : k < 1000000) : ∃ b, ref22_Same.f k s u = some b ∧ (b = true ↔ s = u) := by
  have := ls.tx; have := ls.un; have := ls.kn; have := ls.se
  rw [ref22_Same.f_eq]
  obtain ⟨b, hb, hbi⟩ := loop_all 8 (fun n i => ref22_Same.l2 k n (i : Int) s u) (fun i => s.2.2.2.2[i]? = u.2.2.2.2[i]?) (fun n' i hi => by
    have e1 : ilt (i : Int) 8 = decide (i < 8) := ilt_nn i 8
    have e2 : inB (i : Int) 8 = decide (i < 8) := inB_nat i 8
    have hi1 : i < s.2.2.2.2.length := by omega
    have hi2 : i < u.2.2.2.2.length := by omega
    have hlen := ls.re _ (List.getElem_mem hi1)
    have e3 : iadd .i64 (i : Int) 1 = ((i + 1 : Nat) : Int) := iadd_nat (by omega)
    simp only [ref22_Same.l2_eq, e1, e2, hi, decide_true, br_true, natOf_nat, rd_at' (e := .slc tDot) hi1, rd_at' (e := .slc tDot) hi2, reqD k _ _ (show (s.2.2.2.2[i]).length < k by omega) hk, bnd_some, bnot_dec, br_dec, e3]
    by_cases h : s.2.2.2.2[i] = u.2.2.2.2[i]
    · exact .inl ⟨by rw [List.getElem?_eq_getElem hi1, List.getElem?_eq_getElem hi2, h], if_neg (by simpa using h)⟩
    · exact .inr ⟨fun hh => by rw [List.getElem?_eq_getElem hi1, List.getElem?_eq_getElem hi2] at hh; exact h (Option.some.inj hh), if_pos h⟩)
    (some (decide (s.1 = u.1 ∧ s.2.1 = u.2.1 ∧ s.2.2.1 = u.2.2.1 ∧ s.2.2.2.1 = u.2.2.2.1))) (s.1 = u.1 ∧ s.2.1 = u.2.1 ∧ s.2.2.1 = u.2.2.1 ∧ s.2.2.2.1 = u.2.2.2.1) ⟨_, rfl, by simp⟩ (fun n' => by
    have e1 : ilt ((8 : Nat) : Int) 8 = false := rfl
    simp only [ref22_Same.l2_eq, e1, br_false, rallTxn_is k s.1 u.1 (by omega) he hk, rsameU_is k s.2.1 u.2.1 (by omega) hk, rsame_is k s.2.2.1 u.2.2.1 (by omega) hk, rsame_is k s.2.2.2.1 u.2.2.2.1 (by omega) hk, bnd_some, br_dec]
    by_cases h1 : s.1 = u.1 <;> by_cases h2 : s.2.1 = u.2.1 <;> by_cases h3 : s.2.2.1 = u.2.2.1 <;> simp [h1, h2, h3]) k 0 (by omega) (by omega)
  exact ⟨b, hb, hbi.trans (sta_ext s u hs hu).symm⟩
end Go.Proofs.YtoikjekpckhgeaaGreat
end
section
/- Which states and deltas the document calls good: what is known of them. -/
namespace Go.Proofs.YtoikjekpckhgeaaGreat
open Pal
def risAt (l : List Txn) (j : Nat) : Prop := ∀ h : j + 1 < l.length, dotLt (l[j]'(by omega)).1 l[j + 1].1 = true
theorem ris_iff {l : List Txn} : l.Pairwise (fun a b => dotLt a.1 b.1 = true) ↔ ∀ j, 0 ≤ j → j < l.length - 1 → risAt l j := by
  constructor
  · intro h j h1 h2 hj
    exact List.pairwise_iff_getElem.1 h j (j + 1) (by omega) hj (by omega)
  · intro h
    refine List.pairwise_iff_getElem.2 fun i j hi hj hij => ?_
    have key : ∀ d i (hd : i + d + 1 < l.length), dotLt (l[i]'(by omega)).1 l[i + d + 1].1 = true := by
      intro d
      induction d with
      | zero => intro i hd; exact h i (by omega) (by omega) hd
      | succ d ih =>
        intro i hd
        exact dotLt_trans (ih i (by omega)) (h (i + d + 1) (by omega) (by omega) (by omega))
    have := key (j - i - 1) i (by omega)
    have e : i + (j - i - 1) + 1 = j := by omega
    simpa only [e] using this
theorem rrises_is (k : Nat) (l : List Txn) (hl : l.length < k) (hk : k < 1000000) : ∃ b, ref12_Rises.f k l = some b ∧ (b = true ↔ l.Pairwise (fun a b => dotLt a.1 b.1 = true)) := by
  rw [ref12_Rises.f_eq]
  obtain ⟨b, hb, hbi⟩ := loop_all' (l.length - 1) (fun n i => ref12_Rises.l2 k n l ((i + 1 : Nat) : Int)) (risAt l) (fun n i hi => by
    have hi0 : i < l.length := by omega
    have hi1 : i + 1 < l.length := by omega
    have e3 : isub .i64 ((i + 1 : Nat) : Int) 1 = (i : Int) := by rw [isub_s (by omega) (by omega) (by omega) (by omega)]; omega
    have e4 : iadd .i64 ((i + 1 : Nat) : Int) 1 = ((i + 1 + 1 : Nat) : Int) := iadd_nat (by omega)
    simp only [ref12_Rises.l2_eq, ilt_nat, e3, inL_nat, natOf_nat, hi0, hi1, decide_true, br_true, rd_at' (e := tTxn) hi0, rd_at' (e := tTxn) hi1, rcmp_is, bnd_some, cmp_m1, e4]
    cases hd : dotLt l[i].1 l[i + 1].1 with
    | true => exact .inl ⟨fun _ => hd, rfl⟩
    | false => exact .inr ⟨fun h => (by have := h hi1; rw [hd] at this; cases this), rfl⟩) (fun n => by
    simp only [ref12_Rises.l2_eq, ilt_nat, show ¬ l.length - 1 + 1 < l.length by omega, decide_false, br_false]) k 0 (by omega) (by omega)
  exact ⟨b, hb, hbi.trans ris_iff.symm⟩
def emptyD : DSet := (zarr 16 0, [])
theorem empty_can : Can emptyD := (ofD_can []).1
theorem empty_mem (x : Dot) : ¬ Mem emptyD x := fun h => by
  have := ((ofD_can []).2.1 x).1 h
  simp at this
def dotsOf (l : List Txn) : List Dot := l.map (·.1)
theorem known_is (k : Nat) (l : List Txn) (hl : l.length + 1 < k) (hk : k < 1000000) (hr : ∀ t ∈ l, rightD t.1 = true) : ref22_Known.f k l = some ((dotsOf l).foldl putD emptyD) := by
  rw [ref22_Known.f_eq]
  have key : ∀ n i (s : DSet), i ≤ l.length → l.length < n + i → Can s → s.2.length ≤ i → ref22_Known.l3 k n l (i : Int) (zarr 16 0) [] s = some ((dotsOf (l.drop i)).foldl putD s) := by
    intro n
    induction n with
    | zero => intro i s h h'; omega
    | succ n ih =>
      intro i s h h' hs hsl
      rw [ref22_Known.l3_eq, ilt_nat, inL_nat, natOf_nat]
      by_cases hi : i < l.length
      · have e3 : iadd .i64 (i : Int) 1 = ((i + 1 : Nat) : Int) := iadd_nat (by omega)
        rw [rd_at' (e := tTxn) hi, rput_is k s l[i].1 (by omega) hk hs, e3, List.drop_eq_getElem_cons hi]
        simp only [hi, decide_true, br_true, bnd_some, dotsOf, List.map_cons, List.foldl_cons]
        obtain ⟨a, _, c⟩ := putD_can hs l[i].1
        exact ih (i + 1) _ (by omega) (by omega) a (by omega)
      · rw [List.drop_of_length_le (by omega)]
        simp only [hi, decide_false, br_false, dotsOf, List.map_nil, List.foldl_nil]
  exact key k 0 emptyD (by omega) (by omega) empty_can (by simp [emptyD])
theorem known_mem {l : List Txn} (hr : ∀ t ∈ l, rightD t.1 = true) : Can ((dotsOf l).foldl putD emptyD) ∧ (∀ x, Mem ((dotsOf l).foldl putD emptyD) x ↔ ∃ t ∈ l, t.1 = x) ∧ ((dotsOf l).foldl putD emptyD).2.length ≤ l.length := by
  obtain ⟨p, q, r⟩ := puts_can (dotsOf l) emptyD empty_can (fun d hd => by
    obtain ⟨t, ht, rfl⟩ := List.mem_map.1 hd; exact hr t ht)
  refine ⟨p, fun x => ?_, ?_⟩
  · rw [q]
    constructor
    · rintro (h | h)
      · exact absurd h (empty_mem x)
      · obtain ⟨t, ht, rfl⟩ := List.mem_map.1 h; exact ⟨t, ht, rfl⟩
    · rintro ⟨t, ht, rfl⟩; exact .inr (List.mem_map.2 ⟨t, ht, rfl⟩)
  · have : (dotsOf l).length = l.length := by simp [dotsOf]
    have e0 : emptyD.2.length = 0 := rfl
    omega
structure RightS (k : Nat) (s : Sta) : Prop where
  many : s.1.length ≤ 1000
  ris : s.1.Pairwise (fun a b => dotLt a.1 b.1 = true)
  un : CanU s.2.1
  se : Can s.2.2.2.1 ∧ s.2.2.2.1.2.length ≤ 4096
  chk : ∀ t ∈ s.1, ref12_Check.f k t = some 0
  redo : ∀ l ∈ s.2.2.2.2, l.length ≤ 1000 ∧ ∀ d ∈ l, rightD d = true
  kn : Can s.2.2.1 ∧ s.2.2.1.2.length ≤ 4096
  know : s.2.2.1 = (dotsOf s.1).foldl putD emptyD
def chkAt (k : Nat) (l : List Txn) (j : Nat) : Prop := ∀ h : j < l.length, ref12_Check.f k l[j] = some 0
def redoAt (r : List (List Dot)) (j : Nat) : Prop := ∀ h : j < r.length, r[j].length ≤ 1000 ∧ ∀ d ∈ r[j], rightD d = true
def rdAt (l : List Dot) (j : Nat) : Prop := ∀ h : j < l.length, rightD l[j] = true
theorem rdAt_all {l : List Dot} : (∀ j, 0 ≤ j → j < l.length → rdAt l j) ↔ ∀ d ∈ l, rightD d = true := by
  constructor
  · intro h d hd
    obtain ⟨j, hj, rfl⟩ := List.mem_iff_getElem.1 hd
    exact h j (by omega) hj hj
  · intro h j _ hj _; exact h _ (List.getElem_mem hj)
theorem rrightS_is (k : Nat) (s : Sta) (hv1 : s.2.2.1.1.length = 16) (hv2 : s.2.2.2.1.1.length = 16) (hr8 : s.2.2.2.2.length = 8) (hsh : ∀ t ∈ s.1, ShortT t) (hrl : ∀ l ∈ s.2.2.2.2, l.length < k) (hul : s.2.1.length < k) (hk : 5000 < k) (hk2 : k < 1000000) :
    ∃ b, ref22_Right.f k s = some b ∧ (b = true ↔ RightS k s) := by
  rw [ref22_Right.f_eq, show ilt 1000 (ilen s.1) = decide (1000 < s.1.length) from ilt_lenR 1000 s.1]
  by_cases hm : 1000 < s.1.length
  · rw [decide_eq_true hm]; exact ⟨false, rfl, ⟨fun h => (by cases h), fun h => by have := h.many; omega⟩⟩
  rw [decide_eq_false hm]
  obtain ⟨b1, g1, i1⟩ := rrises_is k s.1 (by omega) hk2
  obtain ⟨b2, g2, i2⟩ := rrightU_is k s.2.1 hul hk2
  obtain ⟨b3, g3, i3⟩ := rr_is k s.2.2.2.1 hv2 hk hk2
  obtain ⟨b4, g4, i4⟩ := rr_is k s.2.2.1 hv1 hk hk2
  rw [g1]
  simp only [br_false, bnd_some]
  cases b1 with
  | false => exact ⟨false, rfl, ⟨fun h => (by cases h), fun h => i1.2 h.ris⟩⟩
  | true =>
  have bt : bnot true = false := rfl
  have bf : bnot false = true := rfl
  rw [bt, g2]
  simp only [br_false, bnd_some]
  cases b2 with
  | false => exact ⟨false, rfl, ⟨fun h => (by cases h), fun h => i2.2 h.un⟩⟩
  | true =>
  rw [bt, g3]
  simp only [br_false, bnd_some]
  cases b3 with
  | false => exact ⟨false, rfl, ⟨fun h => (by cases h), fun h => i3.2 h.se⟩⟩
  | true =>
  rw [bt]
  simp only [br_false]
  have tail : (∀ t ∈ s.1, rightD t.1 = true) → ∃ b, (bnd (ref06_Right.f k s.2.2.1) fun r0 => br r0 (bnd (ref22_Known.f k s.1) fun r1 => bnd (ref06_Same.f k s.2.2.1 r1) fun r2 => some r2) (some false)) = some b ∧ (b = true ↔ (Can s.2.2.1 ∧ s.2.2.1.2.length ≤ 4096) ∧ s.2.2.1 = (dotsOf s.1).foldl putD emptyD) := by
    intro hrt
    rw [g4]
    simp only [bnd_some]
    cases b4 with
    | false => exact ⟨false, rfl, ⟨fun h => (by cases h), fun h => i4.2 h.1⟩⟩
    | true =>
      have h4 := i4.1 rfl
      simp only [br_true]
      rw [known_is k s.1 (by omega) hk2 hrt]
      simp only [bnd_some]
      rw [rsame_is k _ _ (by omega) hk2]
      exact ⟨_, rfl, by rw [decide_eq_true_iff]; exact ⟨fun h => ⟨h4, h⟩, fun h => h.2⟩⟩
  have rows : (∀ t ∈ s.1, rightD t.1 = true) → ∃ b, ref22_Right.l9 k k 0 s = some b ∧ (b = true ↔ (∀ j, 0 ≤ j → j < 8 → redoAt s.2.2.2.2 j) ∧ ((Can s.2.2.1 ∧ s.2.2.1.2.length ≤ 4096) ∧ s.2.2.1 = (dotsOf s.1).foldl putD emptyD)) := by
    intro hrt
    refine loop_all 8 (fun n i => ref22_Right.l9 k n (i : Int) s) (redoAt s.2.2.2.2) (fun n i hi => ?_) _ _ (tail hrt) (fun n => ?_) k 0 (by omega) (by omega)
    · have e1 : ilt (i : Int) 8 = decide (i < 8) := ilt_nn i 8
      have e2 : inB (i : Int) 8 = decide (i < 8) := inB_nat i 8
      have hi1 : i < s.2.2.2.2.length := by omega
      have hll := hrl _ (List.getElem_mem hi1)
      have e4 : ilt 1000 (ilen s.2.2.2.2[i]) = decide (1000 < s.2.2.2.2[i].length) := ilt_lenR 1000 s.2.2.2.2[i]
      simp only [ref22_Right.l9_eq, e1, e2, hi, decide_true, br_true, natOf_nat, rd_at' (e := .slc tDot) hi1, e4]
      by_cases hl : 1000 < s.2.2.2.2[i].length
      · rw [decide_eq_true hl]
        exact .inr ⟨fun h => by have := (h hi1).1; omega, rfl⟩
      · rw [decide_eq_false hl]
        simp only [br_false]
        have inner : ∀ q j, j ≤ s.2.2.2.2[i].length → s.2.2.2.2[i].length < q + j → ((∀ p, j ≤ p → p < s.2.2.2.2[i].length → rdAt s.2.2.2.2[i] p) ∧ ref22_Right.l14 k n q (i : Int) (j : Int) s = ref22_Right.l9 k n ((i + 1 : Nat) : Int) s) ∨ (¬ (∀ p, j ≤ p → p < s.2.2.2.2[i].length → rdAt s.2.2.2.2[i] p) ∧ ref22_Right.l14 k n q (i : Int) (j : Int) s = some false) := by
          intro q
          induction q with
          | zero => intro j h1 h2; omega
          | succ q ih =>
            intro j h1 h2
            have e3 : iadd .i64 (j : Int) 1 = ((j + 1 : Nat) : Int) := iadd_nat (by omega)
            have e5 : iadd .i64 (i : Int) 1 = ((i + 1 : Nat) : Int) := iadd_nat (by omega)
            by_cases hj : j < s.2.2.2.2[i].length
            · simp only [ref22_Right.l14_eq, e2, hi, decide_true, br_true, natOf_nat, rd_at' (e := .slc tDot) hi1, ilt_nat, inL_nat, hj, rd_at' (e := tDot) hj, rright_is, bnd_some, e3]
              cases hd : rightD s.2.2.2.2[i][j] with
              | false => exact .inr ⟨fun h => (by have := h j (Nat.le_refl _) hj hj; rw [hd] at this; cases this), rfl⟩
              | true =>
                rcases ih (j + 1) (by omega) (by omega) with ⟨h3, h4⟩ | ⟨h3, h4⟩
                · refine .inl ⟨fun p hp1 hp2 => ?_, h4⟩
                  by_cases e : p = j
                  · subst e; exact fun _ => hd
                  · exact h3 p (by omega) hp2
                · exact .inr ⟨fun h => h3 fun p hp1 hp2 => h p (by omega) hp2, h4⟩
            · refine .inl ⟨fun p hp1 hp2 => by omega, ?_⟩
              simp only [ref22_Right.l14_eq, e2, hi, decide_true, br_true, natOf_nat, rd_at' (e := .slc tDot) hi1, ilt_nat, hj, decide_false, br_false, e5]
        rcases inner k 0 (by omega) (by omega) with ⟨h3, h4⟩ | ⟨h3, h4⟩
        · exact .inl ⟨fun _ => ⟨by omega, rdAt_all.1 h3⟩, h4⟩
        · exact .inr ⟨fun h => h3 (rdAt_all.2 (h hi1).2), h4⟩
    · have e1 : ilt ((8 : Nat) : Int) 8 = false := rfl
      simp only [ref22_Right.l9_eq, e1, br_false]
  have hdot : (∀ j, 0 ≤ j → j < s.1.length → chkAt k s.1 j) → ∀ t ∈ s.1, rightD t.1 = true := by
    intro h t ht
    obtain ⟨j, hj, rfl⟩ := List.mem_iff_getElem.1 ht
    obtain ⟨e, he, hei⟩ := rtxn_is k s.1[j] (hsh _ ht) (by omega) hk2
    rw [h j (by omega) hj hj] at he
    injection he with he
    exact hei he.symm
  have txs : ∃ b, ref22_Right.l4 k k 0 s = some b ∧ (b = true ↔ (∀ j, 0 ≤ j → j < s.1.length → chkAt k s.1 j) ∧ ((∀ j, 0 ≤ j → j < 8 → redoAt s.2.2.2.2 j) ∧ ((Can s.2.2.1 ∧ s.2.2.1.2.length ≤ 4096) ∧ s.2.2.1 = (dotsOf s.1).foldl putD emptyD))) := by
    by_cases hall : ∀ j, 0 ≤ j → j < s.1.length → chkAt k s.1 j
    · refine loop_all s.1.length (fun n i => ref22_Right.l4 k n (i : Int) s) (chkAt k s.1) (fun n i hi => ?_) _ _ (rows (hdot hall)) (fun n => ?_) k 0 (by omega) (by omega)
      · have e3 : iadd .i64 (i : Int) 1 = ((i + 1 : Nat) : Int) := iadd_nat (by omega)
        have hc := hall i (by omega) hi hi
        have ez : ieq (0 : Int) 0 = true := rfl
        simp only [ref22_Right.l4_eq, ilt_nat, inL_nat, natOf_nat, hi, decide_true, br_true, rd_at' (e := tTxn) hi, hc, bnd_some, e3, ez, bt, br_false]
        exact .inl ⟨hall i (by omega) hi, trivial⟩
      · simp only [ref22_Right.l4_eq, ilt_nat, Nat.lt_irrefl, decide_false, br_false]
    · -- it falls at the first that is wrong
      have fall : ∀ n i, i ≤ s.1.length → s.1.length < n + i → (¬ ∀ j, i ≤ j → j < s.1.length → chkAt k s.1 j) → ref22_Right.l4 k n (i : Int) s = some false := by
        intro n
        induction n with
        | zero => intro i h1 h2; omega
        | succ n ih =>
          intro i h1 h2 hne
          have hi : i < s.1.length := Nat.lt_of_not_le fun hle => hne fun j hj1 hj2 => by omega
          have e3 : iadd .i64 (i : Int) 1 = ((i + 1 : Nat) : Int) := iadd_nat (by omega)
          obtain ⟨e, he, _⟩ := rtxn_is k s.1[i] (hsh _ (List.getElem_mem hi)) (by omega) hk2
          rw [ref22_Right.l4_eq, ilt_nat, inL_nat, natOf_nat, rd_at' (e := tTxn) hi, he, e3]
          simp only [hi, decide_true, br_true, bnd_some, ieq_dec, bnot_dec, br_dec]
          by_cases hz : e = 0
          · rw [if_neg (by simpa using hz)]
            refine ih (i + 1) (by omega) (by omega) fun hh => hne fun j hj1 hj2 => ?_
            by_cases ej : j = i
            · subst ej; exact fun _ => by rw [he, hz]
            · exact hh j (by omega) hj2
          · rw [if_pos hz]
      exact ⟨false, fall k 0 (by omega) (by omega) hall, ⟨fun h => (by cases h), fun h => absurd h.1 hall⟩⟩
  obtain ⟨b, hb, hbi⟩ := txs
  refine ⟨b, hb, hbi.trans ⟨fun ⟨h1, h2, h3, h4⟩ => ?_, fun h => ⟨fun j _ hj _ => h.chk _ (List.getElem_mem hj), fun j _ hj hj8 => h.redo _ (List.getElem_mem hj8), h.kn, h.know⟩⟩⟩
  refine ⟨by omega, i1.1 rfl, i2.1 rfl, i3.1 rfl, fun t ht => ?_, fun l hl => ?_, h3, h4⟩
  · obtain ⟨j, hj, rfl⟩ := List.mem_iff_getElem.1 ht
    exact h1 j (by omega) hj hj
  · obtain ⟨j, hj, rfl⟩ := List.mem_iff_getElem.1 hl
    exact h2 j (by omega) (by omega) hj
theorem RightS.can {k : Nat} {s : Sta} (h : RightS k s) (hsh : ∀ t ∈ s.1, ShortT t) (hk : 1000 < k) (hk2 : k < 1000000) : CanS s := by
  have hrt : ∀ t ∈ s.1, rightD t.1 = true := fun t ht => by
    obtain ⟨e, he, hei⟩ := rtxn_is k t (hsh t ht) hk hk2
    rw [h.chk t ht] at he; injection he with he; exact hei he.symm
  exact ⟨⟨hrt, h.ris⟩, h.un, h.kn.1, h.se.1, fun x => by rw [h.know]; exact (known_mem hrt).2.1 x⟩
structure ShortS (s : Sta) : Prop where
  tx : s.1.length ≤ 20
  un : s.2.1.length ≤ 100
  kn : s.2.2.1.2.length ≤ 100
  se : s.2.2.2.1.2.length ≤ 100
  each : ∀ t ∈ s.1, ShortT t
  redo : ∀ l ∈ s.2.2.2.2, l.length ≤ 40
theorem ShortS.len {s : Sta} (h : ShortS s) : LenS 100 s := ⟨Nat.le_trans h.tx (by decide), h.un, h.kn, h.se, fun l hl => Nat.le_trans (h.redo l hl) (by decide)⟩
def shtAt (k : Nat) (l : List Txn) (j : Nat) : Prop := ∀ h : j < l.length, ref12_Short.f k l[j] = some true
def s40At (r : List (List Dot)) (j : Nat) : Prop := ∀ h : j < r.length, r[j].length ≤ 40
theorem shtAt_all {k : Nat} {l : List Txn} (hk : 1000 < k) (hk2 : k < 1000000) (h : ∀ j, 0 ≤ j → j < l.length → shtAt k l j) : ∀ t ∈ l, ShortT t := by
  intro t ht
  obtain ⟨j, hj, rfl⟩ := List.mem_iff_getElem.1 ht
  obtain ⟨b, hb, hbi⟩ := rtxnshort_is k l[j] hk hk2
  rw [h j (by omega) hj hj] at hb
  injection hb with hb; exact hbi hb.symm
theorem sht_step (k : Nat) (t : Txn) (hk : 1000 < k) (hk2 : k < 1000000) : ∃ b, ref12_Short.f k t = some b := by
  obtain ⟨b, hb, _⟩ := rtxnshort_is k t hk hk2
  exact ⟨b, hb⟩
theorem rshortS_is (k : Nat) (s : Sta) (hr8 : s.2.2.2.2.length = 8) (hk : 1000 < k) (hk2 : k < 1000000) : ∃ b, ref22_Short.f k s = some b ∧ (b = true → ShortS s) := by
  rw [ref22_Short.f_eq, show ilt 20 (ilen s.1) = decide (20 < s.1.length) from ilt_lenR 20 _, show ilt 100 (ilen s.2.1) = decide (100 < s.2.1.length) from ilt_lenR 100 _, show ilt 100 (ilen s.2.2.1.2) = decide (100 < s.2.2.1.2.length) from ilt_lenR 100 _, show ilt 100 (ilen s.2.2.2.1.2) = decide (100 < s.2.2.2.1.2.length) from ilt_lenR 100 _]
  simp only [br_dec]
  by_cases h1 : 20 < s.1.length
  · rw [if_pos h1]; exact ⟨false, rfl, fun h => by cases h⟩
  by_cases h2 : 100 < s.2.1.length
  · rw [if_neg h1, if_pos h2]; exact ⟨false, rfl, fun h => by cases h⟩
  by_cases h3 : 100 < s.2.2.1.2.length
  · rw [if_neg h1, if_neg h2, if_pos h3]; exact ⟨false, rfl, fun h => by cases h⟩
  by_cases h4 : 100 < s.2.2.2.1.2.length
  · rw [if_neg h1, if_neg h2, if_neg h3, if_pos h4]; exact ⟨false, rfl, fun h => by cases h⟩
  rw [if_neg h1, if_neg h2, if_neg h3, if_neg h4]
  have rows : ∃ b, ref22_Short.l9 k k 0 s = some b ∧ (b = true ↔ ∀ j, 0 ≤ j → j < 8 → s40At s.2.2.2.2 j) := by
    refine loop_all' 8 (fun n i => ref22_Short.l9 k n (i : Int) s) (s40At s.2.2.2.2) (fun n i hi => ?_) (fun n => ?_) k 0 (by omega) (by omega)
    · have e1 : ilt (i : Int) 8 = decide (i < 8) := ilt_nn i 8
      have e2 : inB (i : Int) 8 = decide (i < 8) := inB_nat i 8
      have hi1 : i < s.2.2.2.2.length := by omega
      have e3 : iadd .i64 (i : Int) 1 = ((i + 1 : Nat) : Int) := iadd_nat (by omega)
      have e4 : ilt 40 (ilen s.2.2.2.2[i]) = decide (40 < s.2.2.2.2[i].length) := ilt_lenR 40 s.2.2.2.2[i]
      simp only [ref22_Short.l9_eq, e1, e2, hi, decide_true, br_true, natOf_nat, rd_at' (e := .slc tDot) hi1, e4, e3, br_dec]
      by_cases hl : 40 < s.2.2.2.2[i].length
      · exact .inr ⟨fun h => by have := h hi1; omega, if_pos hl⟩
      · exact .inl ⟨fun _ => by omega, if_neg hl⟩
    · have e1 : ilt ((8 : Nat) : Int) 8 = false := rfl
      simp only [ref22_Short.l9_eq, e1, br_false]
  obtain ⟨b, hb, hbi⟩ := loop_all s.1.length (fun n i => ref22_Short.l4 k n (i : Int) s) (shtAt k s.1) (fun n i hi => by
    have e3 : iadd .i64 (i : Int) 1 = ((i + 1 : Nat) : Int) := iadd_nat (by omega)
    obtain ⟨c, hc⟩ := sht_step k s.1[i] hk hk2
    simp only [ref22_Short.l4_eq, ilt_nat, inL_nat, natOf_nat, hi, decide_true, br_true, rd_at' (e := tTxn) hi, hc, bnd_some, e3]
    cases c with
    | false => exact .inr ⟨fun h => (by have := h hi; rw [hc] at this; cases this), rfl⟩
    | true => exact .inl ⟨fun _ => hc, rfl⟩) _ _ rows (fun n => by simp only [ref22_Short.l4_eq, ilt_nat, Nat.lt_irrefl, decide_false, br_false]) k 0 (by omega) (by omega)
  refine ⟨b, hb, fun h => ?_⟩
  obtain ⟨q1, q2⟩ := hbi.1 h
  refine ⟨by omega, by omega, by omega, by omega, shtAt_all hk hk2 q1, fun l hl => ?_⟩
  obtain ⟨j, hj, rfl⟩ := List.mem_iff_getElem.1 hl
  exact q2 j (by omega) (by omega) hj
theorem goodS_is (k : Nat) (s : Ty.D tState) (fs : Fits tState s) (hk : 5000 < k) (hk2 : k < 1000000) : ∃ b, ref22_Good.f k s = some b ∧ (b = true → CanS s ∧ ShortS s ∧ RightS k s) := by
  have f1 : s.2.2.1.1.length = 16 := fs.2.2.1.1.1
  have f2 : s.2.2.2.1.1.length = 16 := fs.2.2.2.1.1.1
  have f3 : s.2.2.2.2.length = 8 := fs.2.2.2.2.1
  obtain ⟨b, hb, hbi⟩ := rshortS_is k s f3 (by omega) hk2
  rw [ref22_Good.f_eq, hb]
  simp only [bnd_some]
  cases b with
  | false => exact ⟨false, rfl, fun h => by cases h⟩
  | true =>
    have sh := hbi rfl
    have := sh.un
    obtain ⟨c, hc, hci⟩ := rrightS_is k s f1 f2 f3 sh.each (fun l hl => by have := sh.redo l hl; omega) (by omega) hk hk2
    simp only [br_true, hc, bnd_some]
    exact ⟨c, rfl, fun h => ⟨(hci.1 h).can sh.each (by omega) hk2, sh, hci.1 h⟩⟩
theorem ShortT.lenT {t : Txn} (h : ShortT t) {k : Nat} (hk : 1000 < k) : LenT k t := ⟨by have := h.len; omega, fun o ho => ⟨by have := (h.ops o ho).path.1; omega, by have := (h.ops o ho).seen; omega⟩⟩
structure ShortD (d : Dlt) : Prop where
  tx : d.1.length ≤ 20
  un : d.2.1.length ≤ 100
  se : d.2.2.length ≤ 100
  each : ∀ t ∈ d.1, ShortT t
theorem ShortD.len {d : Dlt} (h : ShortD d) : LenD 100 d := ⟨Nat.le_trans h.tx (by decide), h.un, h.se⟩
structure RightDl (k : Nat) (d : Dlt) : Prop where
  many : d.1.length ≤ 1000
  ris : d.1.Pairwise (fun a b => dotLt a.1 b.1 = true)
  un : CanU d.2.1
  chk : ∀ t ∈ d.1, ref12_Check.f k t = some 0
  se : ∀ x ∈ d.2.2, rightD x = true
theorem RightDl.can {k : Nat} {d : Dlt} (h : RightDl k d) (hsh : ∀ t ∈ d.1, ShortT t) (hk : 1000 < k) (hk2 : k < 1000000) : CanDl d :=
  ⟨⟨fun t ht => by
    obtain ⟨e, he, hei⟩ := rtxn_is k t (hsh t ht) hk hk2
    rw [h.chk t ht] at he; injection he with he; exact hei he.symm, h.ris⟩, h.un, h.se⟩
end Go.Proofs.YtoikjekpckhgeaaGreat
end
section
/- What of a state another one does not know of, and that this is enough: plain facts. -/
namespace Go.Proofs.YtoikjekpckhgeaaGreat
open Pal
theorem CanT.filter {l : List Txn} (h : CanT l) (p : Txn → Bool) : CanT (l.filter p) := ⟨fun t ht => h.rt t (List.mem_filter.1 ht).1, h.srt.filter _⟩
end Go.Proofs.YtoikjekpckhgeaaGreat
end
section
/- What of a state another one does not know of: what the program's functions come to. -/
namespace Go.Proofs.YtoikjekpckhgeaaGreat
open Pal
theorem bsU (k : Nat) (l : List (Dot × Int)) (d : Dot) (h3 : 3 ≤ k) (hl : l.length < k) (hk : k < 1000000) (hs : CanU l) : ∃ (p : Nat) (b : Bool), slices_BinarySearchFunc_api_Undo_api_Undo_api_Undo_tally_compare.f k l (d, 0) = some ((p : Int), b) ∧
    ((b = true ∧ ∃ h : p < l.length, l[p].1 = d) ∨ (b = false ∧ ∀ u ∈ l, u.1 ≠ d)) := by
  obtain ⟨q, rfl⟩ : ∃ q, k = q + 3 := ⟨k - 3, by omega⟩
  rw [slices_BinarySearchFunc_api_Undo_api_Undo_api_Undo_tally_compare.f_eq]
  obtain ⟨p, h1, h2, h4, h5⟩ := bs_gen l (fun t => dotLt t.1 d) (hs.srt.imp fun {a b} hab hb => dotLt_trans hab hb) (fun n i j => slices_BinarySearchFunc_api_Undo_api_Undo_api_Undo_tally_compare.l3 (q + 3) n l (ilen l) (i : Int) (j : Int) (d, 0)) (fun p => some ((p : Int), match l[p]? with | some t => decide (t.1 = d) | none => false)) (fun n i j hij hj hm => by
    have e1 : ilt (i : Int) (j : Int) = decide (i < j) := ilt_nn i j
    have e3 : iadd .i64 (((i + j) / 2 : Nat) : Int) 1 = (((i + j) / 2 + 1 : Nat) : Int) := iadd_nat (by omega)
    simp only [slices_BinarySearchFunc_api_Undo_api_Undo_api_Undo_tally_compare.l3_eq, e1, mid_is (show i + j < 1000000000 by omega), hij, decide_true, br_true, inL_nat, natOf_nat, hm, rd_at' (e := tUndo) hm, tcmp_is (q + 3) _ _ h3, bnd_some, cmp_lt0, e3]
    cases dotLt l[(i + j) / 2].1 d <;> rfl) (fun n i hi => by
    have e1 : ilt (i : Int) (i : Int) = false := decide_eq_false (by omega)
    simp only [slices_BinarySearchFunc_api_Undo_api_Undo_api_Undo_tally_compare.l3_eq, e1, br_false, ilt_nat, inL_nat, natOf_nat]
    by_cases h : i < l.length
    · simp only [h, decide_true, br_true, rd_at' (e := tUndo) h, tcmp_is (q + 3) _ _ h3, bnd_some, cmpD_eq0, List.getElem?_eq_getElem h]
    · simp only [h, decide_false, br_false, List.getElem?_eq_none (show l.length ≤ i by omega)]) (q + 3) 0 l.length (by omega) (Nat.le_refl _) (by omega) (fun t _ h => by omega) (fun t h h' => by omega)
  have key : ∀ u ∈ l, u.1 = d → ∃ h : p < l.length, l[p].1 = d := fun u hu hd => by
    obtain ⟨j, hj, rfl⟩ := List.mem_iff_getElem.1 hu
    have hpj : ¬ j < p := fun hh => by have := h2 j hj hh; rw [hd, dotLt_swo.irrefl] at this; cases this
    have hjp : ¬ p < j := fun hh => by
      have hlt := List.pairwise_iff_getElem.1 hs.srt p j (by omega) hj hh
      rw [hd] at hlt
      have := h4 p (by omega) (Nat.le_refl _)
      rw [hlt] at this; cases this
    have : j = p := by omega
    subst this
    exact ⟨hj, hd⟩
  by_cases hp : ∃ h : p < l.length, l[p].1 = d
  · obtain ⟨h, hd⟩ := hp
    refine ⟨p, true, ?_, .inl ⟨rfl, h, hd⟩⟩
    refine h5.trans ?_
    rw [List.getElem?_eq_getElem h]
    simp only [hd, decide_true]
  · refine ⟨p, false, ?_, .inr ⟨rfl, fun u hu hd => hp (key u hu hd)⟩⟩
    refine h5.trans ?_
    by_cases h : p < l.length
    · rw [List.getElem?_eq_getElem h]
      simp only [show ¬ l[p].1 = d from fun e => hp ⟨h, e⟩, decide_false]
    · rw [List.getElem?_eq_none (by omega)]
theorem tget_is (k : Nat) (l : List (Dot × Int)) (d : Dot) (h3 : 3 ≤ k) (hl : l.length < k) (hk : k < 1000000) (hs : CanU l) : tally_Get.f k l d = some (getU l d) := by
  obtain ⟨p, b, h, hc⟩ := bsU k l d h3 hl hk hs
  rw [tally_Get.f_eq, tally_at.f_eq, h]
  simp only [bnd_some]
  rcases hc with ⟨rfl, hp, hd⟩ | ⟨rfl, hn⟩
  · have := getU_mem hs (List.getElem_mem hp)
    rw [hd] at this
    rw [inL_nat, decide_eq_true hp, natOf_nat, rd_at' (e := tUndo) hp, this]; rfl
  · rw [getU_none hn]; rfl
end Go.Proofs.YtoikjekpckhgeaaGreat
end
section
/- Peers: the program's and the document's do the same. -/
set_option linter.unusedVariables false
set_option linter.unusedSimpArgs false
namespace Go.Proofs.YtoikjekpckhgeaaGreat
open Pal
abbrev Peers := Int × (Int × List Know)
theorem trightU_is (k : Nat) (l : List Undo) (h3 : 3 ≤ k) (hl : l.length < k) (hk : k < 1000000) : ∃ b, tally_Right.f k l = some b ∧ (b = true ↔ CanU l) := by
  obtain ⟨b, hb, hbi⟩ := loop_all' l.length (fun n i => tally_Right.l2 k n l l (ilen l) (i : Int)) (okU l) (fun n i hi => by
    have e4 : iadd .i64 (i : Int) 1 = ((i + 1 : Nat) : Int) := iadd_nat (by omega)
    simp only [tally_Right.l2_eq, ilt_nat, inL_nat, natOf_nat, hi, decide_true, br_true, rd_at' (e := tUndo) hi, right_is, bnd_some, e4]
    have key : ∀ hr : rightU l[i] = false, ¬ okU l i := fun hr h => by have := (h hi).1; rw [hr] at this; cases this
    have bt : bnot true = false := rfl
    have bf : bnot false = true := rfl
    cases hd : rightD l[i].1 with
    | false => exact .inr ⟨key (by unfold rightU; rw [hd]; rfl), by rw [bf]; rfl⟩
    | true =>
      rw [bt]
      simp only [br_false, ilt_dec, br_dec]
      by_cases h1 : l[i].2 < 1
      · exact .inr ⟨key (by unfold rightU; rw [hd, decide_eq_false (by omega)]; rfl), if_pos h1⟩
      · rw [if_neg h1]
        by_cases h2 : 64 < l[i].2
        · exact .inr ⟨key (by unfold rightU; rw [hd, decide_eq_false (by omega)]; rfl), if_pos h2⟩
        · rw [if_neg h2]
          have hu : rightU l[i] = true := by unfold rightU; rw [hd, decide_eq_true (by omega)]; rfl
          by_cases h0 : 0 < i
          · have hi1 : i - 1 < l.length := by omega
            have e3 : isub .i64 (i : Int) 1 = ((i - 1 : Nat) : Int) := by rw [isub_s (by omega) (by omega) (by omega) (by omega)]; omega
            have e5 : (0 : Int) < (i : Int) := by omega
            rw [if_pos e5, e3, inL_nat, natOf_nat, rd_at' (e := tUndo) hi1, tcmp_is k _ _ h3]
            simp only [hi1, decide_true, br_true, bnd_some, ile_dec, br_dec]
            have hcc : cmpD l[i - 1].1 l[i].1 < 0 ↔ dotLt l[i - 1].1 l[i].1 = true := by rw [← cmp_lt0]; exact decide_eq_true_iff.symm
            by_cases hc : 0 ≤ cmpD l[i - 1].1 l[i].1
            · exact .inr ⟨fun h => by have := hcc.2 ((h hi).2 h0); omega, if_pos hc⟩
            · exact .inl ⟨fun _ => ⟨hu, fun _ => hcc.1 (by omega)⟩, if_neg hc⟩
          · have e5 : ¬ (0 : Int) < (i : Int) := by omega
            exact .inl ⟨fun _ => ⟨hu, fun h => absurd h h0⟩, if_neg e5⟩) (fun n => by
    simp only [tally_Right.l2_eq, ilt_nat, Nat.lt_irrefl, decide_false, br_false]) k 0 (by omega) (by omega)
  rw [tally_Right.f_eq]
  refine ⟨b, hb, hbi.trans ?_⟩
  rw [canU_iff]
  exact ⟨fun h j hj => h j (by omega) hj hj, fun h j _ _ hj => h j hj⟩
theorem rightK_both (k : Nat) (a : Know) (v1 : a.1.1.length = 16) (v2 : a.2.2.1.length = 16) (hl : a.2.1.length < k) (hk : 5000 < k) (hk2 : k < 1000000) :
    ∃ b, delta_Right.f k a = some b ∧ ref24_Right.f k a = some b ∧ (b = true → CanK a) := by
  obtain ⟨b1, g1, i1⟩ := dr_is k a.1 v1 hk hk2
  obtain ⟨b2, g2, i2⟩ := trightU_is k a.2.1 (by omega) hl hk2
  obtain ⟨b3, g3, i3⟩ := dr_is k a.2.2 v2 hk hk2
  obtain ⟨c1, f1, j1⟩ := rr_is k a.1 v1 hk hk2
  obtain ⟨c2, f2, j2⟩ := rrightU_is k a.2.1 hl hk2
  obtain ⟨c3, f3, j3⟩ := rr_is k a.2.2 v2 hk hk2
  have e1 : b1 = c1 := by rw [Bool.eq_iff_iff, i1, j1]
  have e2 : b2 = c2 := by rw [Bool.eq_iff_iff, i2, j2]
  have e3 : b3 = c3 := by rw [Bool.eq_iff_iff, i3, j3]
  subst e1; subst e2; subst e3
  rw [delta_Right.f_eq, ref24_Right.f_eq, g1, g2, g3, f1, f2, f3]
  simp only [bnd_some]
  refine ⟨b1 && (b2 && b3), ?_, ?_, fun h => ?_⟩
  · cases b1 <;> cases b2 <;> cases b3 <;> rfl
  · cases b1 <;> cases b2 <;> cases b3 <;> rfl
  · cases b1 with
    | false => cases h
    | true =>
      cases b2 with
      | false => cases h
      | true =>
        cases b3 with
        | false => cases h
        | true => exact ⟨(i1.1 rfl).1, i2.1 rfl, (i3.1 rfl).1⟩
structure OKP (m : Nat) (p : Peers) : Prop where
  n16 : p.2.1 ≤ 16
  len : p.2.2.length = 16
  can : ∀ a ∈ p.2.2, CanK a ∧ LenK m a
theorem LenK.mono {n m : Nat} {a : Know} (h : LenK n a) (hnm : n ≤ m) : LenK m a := ⟨Nat.le_trans h.kn hnm, Nat.le_trans h.un hnm, Nat.le_trans h.se hnm⟩
theorem OKP.mono {n m : Nat} {p : Peers} (h : OKP n p) (hnm : n ≤ m) : OKP m p := ⟨h.n16, h.len, fun a ha => ⟨(h.can a ha).1, (h.can a ha).2.mono hnm⟩⟩
def otherP (p : Peers) (i : Int) : Bool := decide (0 ≤ i) && (decide (i < p.2.1) && decide (¬ i = p.1))
def emptyK : Know := ((zarr 16 0, []), ([], (zarr 16 0, [])))
theorem emptyK_can : CanK emptyK := ⟨empty_can, CanU.nil, empty_can⟩
theorem emptyK_len (m : Nat) : LenK m emptyK := ⟨Nat.zero_le _, Nat.zero_le _, Nat.zero_le _⟩
theorem other_is (k : Nat) (i : Int) (p : Peers) : peer_Peers_other.f k i p = some (otherP p i, p) := by
  rw [peer_Peers_other.f_eq]
  simp only [ile_dec, ilt_dec, br_dec, ieq_dec, bnot_dec]
  unfold otherP
  by_cases h1 : 0 ≤ i <;> by_cases h2 : i < p.2.1 <;> simp [h1, h2]
theorem rother_is (k : Nat) (i : Int) (p : Peers) : ref29_Peers_Other.f k i p = some (otherP p i, p) := by
  rw [ref29_Peers_Other.f_eq]
  simp only [ile_dec, ilt_dec, br_dec, ieq_dec, bnot_dec]
  unfold otherP
  by_cases h1 : 0 ≤ i <;> by_cases h2 : i < p.2.1 <;> simp [h1, h2]
theorem other_spec {m : Nat} {p : Peers} (hp : OKP m p) {i : Int} (h : otherP p i = true) : 0 ≤ i ∧ i < 16 ∧ inB i 16 = true ∧ natOf i < p.2.2.length := by
  simp only [otherP, Bool.and_eq_true, decide_eq_true_eq] at h
  have := hp.n16; have := hp.len
  refine ⟨h.1, by omega, inB16 h.1 (by omega), ?_⟩
  show i.toNat < _; omega
theorem rdP {m : Nat} {p : Peers} (hp : OKP m p) (j : Nat) : CanK (rd tKnow p.2.2 j) ∧ LenK m (rd tKnow p.2.2 j) := by
  by_cases hj : j < p.2.2.length
  · rw [rd_at' (e := tKnow) hj]; exact hp.can _ (List.getElem_mem hj)
  · have : rd tKnow p.2.2 j = emptyK := by
      unfold rd; rw [List.getD_eq_getElem?_getD, List.getElem?_eq_none (by omega)]; rfl
    rw [this]; exact ⟨emptyK_can, emptyK_len m⟩
def hearP (p : Peers) (i : Int) (a : Know) : Peers := (p.1, (p.2.1, upd p.2.2 (natOf i) (joinK (rd tKnow p.2.2 (natOf i)) a)))
theorem hearP_ok {m n : Nat} {p : Peers} (hp : OKP m p) {i : Int} {a : Know} (ha : CanK a) (la : LenK n a) : OKP (m + n) (hearP p i a) := by
  refine ⟨hp.n16, by show (List.set _ _ _).length = 16; rw [List.length_set]; exact hp.len, fun x hx => ?_⟩
  obtain ⟨c, l⟩ := rdP hp (natOf i)
  rcases List.mem_or_eq_of_mem_set hx with h | h
  · exact ⟨(hp.can x h).1, (hp.can x h).2.mono (by omega)⟩
  · rw [h]; exact ⟨joinK_can c ha, joinK_len c ha l la⟩
theorem heard_both (k : Nat) {m : Nat} {p : Peers} (hp : OKP m p) (i : Int) (a : Know) (v1 : a.1.1.length = 16) (v2 : a.2.2.1.length = 16) {n : Nat} (la : LenK n a) (hmn : m + n < k) (hk : 5000 < k) (hk2 : k < 1000000) :
    ∃ (e : Int) (q : Peers), peer_Peers_Heard.f k i a p = some (e, q) ∧ ref29_Peers_Hear.f k i a p = some (e, q) ∧ OKP (m + n) q ∧ ((otherP p i = true ∧ CanK a ∧ e = 0 ∧ q = hearP p i a) ∨ (e = 2 ∧ q = p)) := by
  have bt : bnot true = false := rfl
  have bf : bnot false = true := rfl
  have h17 : 17 < k := by omega
  rw [peer_Peers_Heard.f_eq, ref29_Peers_Hear.f_eq, other_is, rother_is]
  simp only [bnd_some]
  cases h : otherP p i with
  | false => rw [bf]; exact ⟨2, p, rfl, rfl, hp.mono (by omega), .inr ⟨rfl, rfl⟩⟩
  | true =>
    rw [bt]
    simp only [br_false]
    obtain ⟨b, g1, g2, hb⟩ := rightK_both k a v1 v2 (by have := la.un; omega) hk hk2
    rw [g1, g2]
    simp only [bnd_some]
    cases b with
    | false => rw [bf]; exact ⟨2, p, rfl, rfl, hp.mono (by omega), .inr ⟨rfl, rfl⟩⟩
    | true =>
      have ha := hb rfl
      obtain ⟨_, _, h3, _⟩ := other_spec hp h
      obtain ⟨c, l⟩ := rdP hp (natOf i)
      rw [bt, h3, djoin_is k _ a c ha l la hmn h17 hk2, rdjoin_is k _ a c ha l la hmn h17 hk2]
      exact ⟨0, hearP p i a, rfl, rfl, hearP_ok hp ha la, .inl ⟨trivial, ha, rfl, rfl⟩⟩
def agreesP (p : Peers) (d : Dot) (n : Int) : Bool := (List.range p.2.1.toNat).all fun j => decide ((j : Int) = p.1) || decide (getU (rd tKnow p.2.2 j).2.1 d = n)
theorem range_all_step {p : Nat → Bool} {N i : Nat} (h : i < N) : ((List.range N).drop i).all p = (p i && ((List.range N).drop (i + 1)).all p) := by
  have := all_step (xs := List.range N) (i := i) (by simpa using h) p
  rw [this]; simp
theorem agrees_is (k : Nat) {m : Nat} {p : Peers} (hp : OKP m p) (d : Dot) (n : Int) (h17 : 17 < k) (hm : m < k) (hk2 : k < 1000000) : peer_Peers_Agrees.f k d n p = some (agreesP p d n, p) := by
  have hN : p.2.1.toNat ≤ 16 := by have := hp.n16; omega
  have hmax : ∀ i : Nat, ilt (i : Int) p.2.1 = decide (i < p.2.1.toNat) := fun i => by unfold ilt; exact decide_eq_decide.2 ⟨fun h => by omega, fun h => by omega⟩
  have key : ∀ (q i : Nat), i ≤ p.2.1.toNat → p.2.1.toNat < q + i → peer_Peers_All_peer_Peers_Agrees_1.l4 k q p.2.1 (i : Int) p d n = some (((List.range p.2.1.toNat).drop i).all (fun j => decide ((j : Int) = p.1) || decide (getU (rd tKnow p.2.2 j).2.1 d = n)), (p, (d, n))) := by
    intro q
    induction q with
    | zero => intro i h h'; omega
    | succ q ih =>
      intro i h h'
      rw [peer_Peers_All_peer_Peers_Agrees_1.l4_eq, hmax]
      by_cases hi : i < p.2.1.toNat
      · obtain ⟨c, l⟩ := rdP hp i
        have e3 : iadd .i64 (i : Int) 1 = ((i + 1 : Nat) : Int) := iadd_nat (by omega)
        have e4 : inB (i : Int) 16 = true := by rw [inB_nat]; exact decide_eq_true (by omega)
        rw [range_all_step hi, e3, e4, natOf_nat, peer_Peers_Agrees_1.f_eq, tget_is k _ d (by omega) (by have := l.un; omega) hk2 c.un, decide_eq_true hi]
        simp only [bnd_some, br_true, ieq_dec, bnot_dec, br_dec]
        by_cases h1 : (i : Int) = p.1
        · rw [if_neg (by simp [h1]), ih (i + 1) (by omega) (by omega), decide_eq_true h1]; simp
        · rw [if_pos h1, decide_eq_false h1]
          by_cases h2 : getU (rd tKnow p.2.2 i).2.1 d = n
          · rw [if_neg (by simp [h2]), ih (i + 1) (by omega) (by omega), decide_eq_true h2]; simp
          · rw [if_pos h2, decide_eq_false h2]; rfl
      · rw [decide_eq_false hi, List.drop_eq_nil_of_le (by simp; omega)]; rfl
  rw [peer_Peers_Agrees.f_eq, peer_Peers_All_peer_Peers_Agrees_1.f_eq]
  rw [show peer_Peers_All_peer_Peers_Agrees_1.l4 k k p.2.1 0 p d n = _ from key k 0 (by omega) (by omega)]
  rfl
end Go.Proofs.YtoikjekpckhgeaaGreat
end
section
/- Maps: what was put is got. -/
namespace Go.Proofs.YtoikjekpckhgeaaGreat
open Pal Go
theorem mget_nil {k e : Ty} (x : k.D) : mget k e [] x = e.zero := rfl
end Go.Proofs.YtoikjekpckhgeaaGreat
end
section
/- What all replicas have, and what nobody needs any more: the program's answer. -/
set_option linter.unusedVariables false
set_option linter.unusedSimpArgs false
namespace Go.Proofs.YtoikjekpckhgeaaGreat
open Pal
def haveP (p : Peers) (d : Dot) : Bool := (List.range p.2.1.toNat).all fun j => decide ((j : Int) = p.1) || memB (rd tKnow p.2.2 j).1 d
def sealedP (p : Peers) (d : Dot) : Bool := (List.range p.2.1.toNat).all fun j => decide ((j : Int) = p.1) || (memB (rd tKnow p.2.2 j).1 d && memB (rd tKnow p.2.2 j).2.2 d)
def finalP (p : Peers) (s : Sta) (d : Dot) : Bool := (findT s.1 d).isSome && (memB s.2.2.2.1 d && (agreesP p d (getU s.2.1 d) && sealedP p d))
def zeroOp : Op := (0, ([], ((0, (0, [])), (0, []))))
theorem gone_is (k : Nat) (o : Op) : op_Gone.f k o = some (decide (o = zeroOp)) := by
  obtain ⟨a, b, c, d, e⟩ := o
  rw [op_Gone.f_eq]
  simp only [ieq_dec]
  rw [show deq tValue c (0, (0, [])) = decide (c = ((0, (0, [])) : Val)) from deqVal c _]
  have hb : (ilen b = 0) ↔ b = [] := by simp [ilen]
  have he : (ilen e = 0) ↔ e = [] := by simp [ilen]
  simp only [br_dec, hb, he]
  unfold zeroOp
  by_cases h1 : a = 0
  · by_cases h2 : b = []
    · by_cases h3 : c = (0, (0, []))
      · by_cases h4 : d = 0
        · by_cases h5 : e = []
          · simp [h1, h2, h3, h4, h5]
          · simp [h1, h2, h3, h4, h5]
        · simp [h1, h2, h3, h4]
      · simp [h1, h2, h3]
    · simp [h1, h2]
  · simp [h1]
theorem peers_loop {ρ : Type} (N : Nat) (me : Int) (q : Nat → Bool) (L : Nat → Nat → Option ρ) (yes no : ρ) (hs : ∀ n i, i < N → L (n + 1) i = if (decide ((i : Int) = me) || q i) = true then L n (i + 1) else some no) (he : ∀ n, L (n + 1) N = some yes) :
    ∀ n i, i ≤ N → N < n + i → L n i = some (if ((List.range N).drop i).all (fun j => decide ((j : Int) = me) || q j) = true then yes else no)
  | 0, i, h, h' => by omega
  | n + 1, i, h, h' => by
    by_cases hi : i < N
    · rw [hs n i hi, range_all_step hi]
      by_cases h1 : (decide ((i : Int) = me) || q i) = true
      · rw [if_pos h1, peers_loop N me q L yes no hs he n (i + 1) (by omega) (by omega), h1]; simp
      · rw [if_neg h1]
        have : (decide ((i : Int) = me) || q i) = false := by simpa using h1
        rw [this]; simp
    · have : i = N := by omega
      subst this
      rw [he, List.drop_eq_nil_of_le (by simp)]; rfl
theorem allFinal_is (k : Nat) {m : Nat} {p : Peers} (hp : OKP m p) (d : Dot) (h17 : 17 < k) (hm : m < k) (hk2 : k < 1000000) : peer_Peers_All_seal_Final_1.f k p d = some (sealedP p d, (p, d)) := by
  have hN : p.2.1.toNat ≤ 16 := by have := hp.n16; omega
  have hmax : ∀ i : Nat, ilt (i : Int) p.2.1 = decide (i < p.2.1.toNat) := fun i => by unfold ilt; exact decide_eq_decide.2 ⟨fun h => by omega, fun h => by omega⟩
  have key := peers_loop p.2.1.toNat p.1 (fun j => memB (rd tKnow p.2.2 j).1 d && memB (rd tKnow p.2.2 j).2.2 d) (fun n i => peer_Peers_All_seal_Final_1.l4 k n p.2.1 (i : Int) p d) (true, (p, d)) (false, (p, d)) (fun n i hi => by
    obtain ⟨c, l⟩ := rdP hp i
    have e3 : iadd .i64 (i : Int) 1 = ((i + 1 : Nat) : Int) := iadd_nat (by omega)
    have e4 : inB (i : Int) 16 = true := by rw [inB_nat]; exact decide_eq_true (by omega)
    simp only [peer_Peers_All_seal_Final_1.l4_eq, hmax, hi, decide_true, br_true, e3, e4, natOf_nat, ieq_dec, bnot_dec, br_dec]
    by_cases h1 : (i : Int) = p.1
    · simp [h1]
    · rw [if_pos h1, seal_Final_1.f_eq, has_is k _ d (by omega) (by have := l.kn; omega) hk2 c.kn, has_is k _ d (by omega) (by have := l.se; omega) hk2 c.se, decide_eq_false h1]
      cases memB (rd tKnow p.2.2 i).1 d <;> cases memB (rd tKnow p.2.2 i).2.2 d <;> rfl) (fun n => by
    simp only [peer_Peers_All_seal_Final_1.l4_eq, hmax, Nat.lt_irrefl, decide_false, br_false]) k 0 (by omega) (by omega)
  rw [peer_Peers_All_seal_Final_1.f_eq]
  rw [show peer_Peers_All_seal_Final_1.l4 k k p.2.1 0 p d = _ from key]
  unfold sealedP
  rw [List.drop_zero]
  split <;> rename_i h
  · rw [h]
  · rw [Bool.not_eq_true] at h; rw [h]
theorem final_is (k : Nat) {m n : Nat} {p : Peers} (hp : OKP m p) (s : Sta) (hs : CanS s) (ls : LenS n s) (d : Dot) (h17 : 17 < k) (hm : m < k) (hn : n < k) (hk2 : k < 1000000) : seal_Final.f k s d p = some (finalP p s d, p) := by
  obtain ⟨r, hr, hri⟩ := find_is k s.1 d (by omega) (by have := ls.tx; omega) hk2 hs.tx
  rw [seal_Final.f_eq, hr, bnd_some]
  unfold finalP
  by_cases h0 : r < 0
  · have : (findT s.1 d).isSome = false := by
      rw [Bool.eq_false_iff]; intro h; have := hri.2 h; omega
    rw [show ilt r 0 = true from decide_eq_true h0, br_true, this]; rfl
  · rw [show ilt r 0 = false from decide_eq_false h0, br_false, hri.1 (by omega), has_is k _ d (by omega) (by have := ls.se; omega) hk2 hs.se, bnd_some]
    cases memB s.2.2.2.1 d with
    | false => rfl
    | true =>
      rw [show bnot true = false from rfl, br_false, tget_is k _ d (by omega) (by have := ls.un; omega) hk2 hs.un, bnd_some, agrees_is k hp d _ h17 hm hk2, bnd_some]
      cases agreesP p d (getU s.2.1 d) with
      | false => rfl
      | true =>
        show br (bnot true) _ _ = _
        rw [show bnot true = false from rfl, br_false, allFinal_is k hp d h17 hm hk2]
        rfl
end Go.Proofs.YtoikjekpckhgeaaGreat
end
section
/- A state without what will never count again: the program's answer. -/
set_option linter.unusedVariables false
set_option linter.unusedSimpArgs false
namespace Go.Proofs.YtoikjekpckhgeaaGreat
open Pal
section
variable (z1 : List Txn) (z2 : List (Dot × Int)) (z3 : List Int) (z4 : List Dot) (z5 : List Int) (z6 : List Dot) (z7 : List (List Dot)) (cs ns : List (Dot × Bool)) (p : Peers) (s : Sta)
end
end Go.Proofs.YtoikjekpckhgeaaGreat
end
section
/- What a state loses when it is compacted: one transaction's operations. -/
set_option linter.unusedVariables false
set_option linter.unusedSimpArgs false
namespace Go.Proofs.YtoikjekpckhgeaaGreat
open Pal
section
variable (z1 : List Txn) (z2 : List (Dot × Int)) (z3 : List Int) (z4 : List Dot) (z5 : List Int) (z6 : List Dot) (z7 : List (List Dot)) (cs ns : List (Dot × Bool)) (cov : List ((Dot × Int) × Bool)) (p : Peers)
end
end Go.Proofs.YtoikjekpckhgeaaGreat
end
section
/- A state without what will never count again: the program's answer, as a whole. -/
set_option linter.unusedVariables false
set_option linter.unusedSimpArgs false
namespace Go.Proofs.YtoikjekpckhgeaaGreat
open Pal
section
variable (z1 : List Txn) (z2 : List (Dot × Int)) (z3 : List Int) (z4 : List Dot) (z5 : List Int) (z6 : List Dot) (z7 : List (List Dot)) (cs ns : List (Dot × Bool)) (cov : List ((Dot × Int) × Bool)) (p : Peers)
end
end Go.Proofs.YtoikjekpckhgeaaGreat
end
section
/- Compacted states: plain facts. -/
set_option linter.unusedVariables false
set_option linter.unusedSimpArgs false
namespace Go.Proofs.YtoikjekpckhgeaaGreat
open Pal
end Go.Proofs.YtoikjekpckhgeaaGreat
end
section
/- What can be sealed, and what is heard more: plain facts. -/
set_option linter.unusedVariables false
set_option linter.unusedSimpArgs false
namespace Go.Proofs.YtoikjekpckhgeaaGreat
open Pal
def readyP (p : Peers) (s : Sta) : List Dot := (s.1.map (·.1)).filter fun d => !memB s.2.2.2.1 d && haveP p d
theorem filter_le {α : Type} (p q : α → Bool) (h : ∀ x, p x = true → q x = true) : ∀ l : List α, (l.filter p).length ≤ (l.filter q).length
  | [] => Nat.le_refl _
  | x :: l => by
    have ih := filter_le p q h l
    simp only [List.filter_cons]
    cases hp : p x with
    | true => rw [h x hp]; simp; exact ih
    | false =>
      cases q x <;> simp
      · exact ih
      · exact Nat.le_succ_of_le ih
theorem rd_hear {m : Nat} {p : Peers} (hp : OKP m p) {i : Int} (hi : natOf i < 16) (a : Know) (j : Nat) : rd tKnow (hearP p i a).2.2 j = if natOf i = j then joinK (rd tKnow p.2.2 j) a else rd tKnow p.2.2 j := by
  show rd tKnow (List.set p.2.2 (natOf i) (joinK (rd tKnow p.2.2 (natOf i)) a)) j = _
  have hl := hp.len
  by_cases hj : j < 16
  · rw [rd_at' (e := tKnow) (xs := List.set p.2.2 (natOf i) _) (by rw [List.length_set]; omega)]
    by_cases e : natOf i = j
    · subst e; rw [if_pos rfl, List.getElem_set_self]
    · rw [if_neg e, List.getElem_set_ne e]; exact (rd_at' (e := tKnow) (by omega)).symm
  · rw [if_neg (by omega)]
    have e1 : (List.set p.2.2 (natOf i) (joinK (rd tKnow p.2.2 (natOf i)) a))[j]? = none := List.getElem?_eq_none (by rw [List.length_set]; omega)
    have e2 : p.2.2[j]? = none := List.getElem?_eq_none (by omega)
    unfold rd at e1 ⊢
    simp only [List.getD_eq_getElem?_getD] at e1 ⊢
    rw [e1, e2]
theorem memB_join {a b : Know} (ha : CanK a) (hb : CanK b) (d : Dot) : (memB a.1 d = true → memB (joinK a b).1 d = true) ∧ (memB a.2.2 d = true → memB (joinK a b).2.2 d = true) := by
  refine ⟨fun h => ?_, fun h => ?_⟩
  · rw [memB_iff] at h ⊢; exact ((unionD_can ha.kn hb.kn).2.1 d).2 (.inl h)
  · rw [memB_iff] at h ⊢; exact ((unionD_can ha.se hb.se).2.1 d).2 (.inl h)
theorem hear_have {m : Nat} {p : Peers} (hp : OKP m p) {i : Int} (hi : natOf i < 16) {a : Know} (ha : CanK a) {d : Dot} (h : haveP p d = true) : haveP (hearP p i a) d = true := by
  unfold haveP at h ⊢
  rw [List.all_eq_true] at h ⊢
  intro j hj
  have := h j hj
  rw [rd_hear hp hi]
  simp only [Bool.or_eq_true] at this ⊢
  rcases this with h | h
  · exact .inl h
  · refine .inr ?_
    split
    · exact (memB_join (rdP hp j).1 ha d).1 h
    · exact h
theorem hear_final {m : Nat} {p : Peers} (hp : OKP m p) {i : Int} (hi : natOf i < 16) {a : Know} (ha : CanK a) {s : Sta} {d : Dot} (h : finalP p s d = true) (hu : getU a.2.1 d ≤ getU s.2.1 d) : finalP (hearP p i a) s d = true := by
  unfold finalP at h ⊢
  simp only [Bool.and_eq_true] at h ⊢
  refine ⟨h.1, h.2.1, ?_, ?_⟩
  · have h := h.2.2.1
    unfold agreesP at h ⊢
    rw [List.all_eq_true] at h ⊢
    intro j hj
    have := h j hj
    rw [rd_hear hp hi]
    simp only [Bool.or_eq_true] at this ⊢
    rcases this with h | h
    · exact .inl h
    · refine .inr ?_
      rw [decide_eq_true_iff] at h
      split
      · rw [decide_eq_true_iff]
        show getU (joinU (rd tKnow p.2.2 j).2.1 a.2.1) d = _
        rw [joinU_get (rdP hp j).1.un ha.un, h]; omega
      · rw [decide_eq_true_iff]; exact h
  · have h := h.2.2.2
    unfold sealedP at h ⊢
    rw [List.all_eq_true] at h ⊢
    intro j hj
    have := h j hj
    rw [rd_hear hp hi]
    simp only [Bool.or_eq_true, Bool.and_eq_true] at this ⊢
    rcases this with h | h
    · exact .inl h
    · refine .inr ?_
      split
      · exact ⟨(memB_join (rdP hp j).1 ha d).1 h.1, (memB_join (rdP hp j).1 ha d).2 h.2⟩
      · exact h
theorem hear_ready {m : Nat} {p : Peers} (hp : OKP m p) {i : Int} (hi : natOf i < 16) {a : Know} (ha : CanK a) (s : Sta) : (readyP p s).length ≤ (readyP (hearP p i a) s).length := by
  refine filter_le _ _ (fun d h => ?_) _
  simp only [Bool.and_eq_true, Bool.not_eq_true'] at h
  rw [hear_have hp hi ha h.2, h.1]; rfl
end Go.Proofs.YtoikjekpckhgeaaGreat
end
section
/- What all replicas have, and what nobody needs any more: the program's answer and the document's. -/
set_option linter.unusedVariables false
set_option linter.unusedSimpArgs false
namespace Go.Proofs.YtoikjekpckhgeaaGreat
open Pal
theorem peersMax {m : Nat} {p : Peers} (hp : OKP m p) (i : Nat) : ilt (i : Int) p.2.1 = decide (i < p.2.1.toNat) := by
  unfold ilt; exact decide_eq_decide.2 ⟨fun h => by omega, fun h => by omega⟩
theorem allReady_is (k : Nat) {m : Nat} {p : Peers} (hp : OKP m p) (t : Txn) (h17 : 17 < k) (hm : m < k) (hk2 : k < 1000000) : peer_Peers_All_seal_Ready_1.f k p t = some (haveP p t.1, (p, t)) := by
  have hN : p.2.1.toNat ≤ 16 := by have := hp.n16; omega
  have hmax := peersMax hp
  have key := peers_loop p.2.1.toNat p.1 (fun j => memB (rd tKnow p.2.2 j).1 t.1) (fun n i => peer_Peers_All_seal_Ready_1.l4 k n p.2.1 (i : Int) p t) (true, (p, t)) (false, (p, t)) (fun n i hi => by
    obtain ⟨c, l⟩ := rdP hp i
    have e3 : iadd .i64 (i : Int) 1 = ((i + 1 : Nat) : Int) := iadd_nat (by omega)
    have e4 : inB (i : Int) 16 = true := by rw [inB_nat]; exact decide_eq_true (by omega)
    simp only [peer_Peers_All_seal_Ready_1.l4_eq, hmax, hi, decide_true, br_true, e3, e4, natOf_nat, ieq_dec, bnot_dec, br_dec]
    by_cases h1 : (i : Int) = p.1
    · simp [h1]
    · rw [if_pos h1, seal_Ready_1.f_eq, has_is k _ t.1 (by omega) (by have := l.kn; omega) hk2 c.kn, decide_eq_false h1]
      cases memB (rd tKnow p.2.2 i).1 t.1 <;> rfl) (fun n => by
    simp only [peer_Peers_All_seal_Ready_1.l4_eq, hmax, Nat.lt_irrefl, decide_false, br_false]) k 0 (by omega) (by omega)
  rw [peer_Peers_All_seal_Ready_1.f_eq]
  rw [show peer_Peers_All_seal_Ready_1.l4 k k p.2.1 0 p t = _ from key]
  unfold haveP
  rw [List.drop_zero]
  split <;> rename_i h
  · rw [h]
  · rw [Bool.not_eq_true] at h; rw [h]
def rdyQ (p : Peers) (s : Sta) (d : Dot) : Bool := !memB s.2.2.2.1 d && haveP p d
theorem readyP_eq (p : Peers) (s : Sta) : readyP p s = (s.1.map (·.1)).filter (rdyQ p s) := rfl
theorem ready_is (k : Nat) {m n : Nat} {p : Peers} (hp : OKP m p) (s : Sta) (hs : CanS s) (ls : LenS n s) (h17 : 17 < k) (hm : m < k) (hn : n < k) (hk2 : k < 1000000) : seal_Ready.f k s p = some (readyP p s, p) := by
  have lt := ls.tx
  have key : ∀ (q i : Nat) (x : List Dot), i ≤ s.1.length → s.1.length < q + i → x.length ≤ i → seal_Ready.l3 k q x s.1 (ilen s.1) (i : Int) s p = some (x ++ ((s.1.drop i).map (·.1)).filter (rdyQ p s), p) := by
    intro q
    induction q with
    | zero => intro i x h h' _; omega
    | succ q ih =>
      intro i x h h' hx
      rw [seal_Ready.l3_eq, ilt_nat]
      by_cases hi : i < s.1.length
      · have e3 : iadd .i64 (i : Int) 1 = ((i + 1 : Nat) : Int) := iadd_nat (by omega)
        have r1 := ih (i + 1) (app x (s.1[i].1 :: [])) (by omega) (by omega) (by simp [app]; omega)
        have r2 := ih (i + 1) x (by omega) (by omega) (by omega)
        have hq : rdyQ p s s.1[i].1 = (!memB s.2.2.2.1 s.1[i].1 && haveP p s.1[i].1) := rfl
        rw [List.drop_eq_getElem_cons hi, List.map_cons, List.filter_cons, hq]
        simp only [hi, decide_true, br_true, inL_nat, natOf_nat, e3, rd_at' (e := tTxn) hi, has_is k _ _ (by omega) (by have := ls.se; omega) hk2 hs.se, bnd_some, allReady_is k hp _ h17 hm hk2, room1 (show x.length < 4000000 by omega)]
        cases memB s.2.2.2.1 s.1[i].1 with
        | true =>
          rw [show bnot true = false from rfl, br_false, r2]; simp
        | false =>
          rw [show bnot false = true from rfl, br_true]
          cases haveP p s.1[i].1 with
          | true => rw [br_true, r1]; simp [app]
          | false => rw [br_false, r2]; simp
      · rw [decide_eq_false hi, br_false, List.drop_eq_nil_of_le (by omega)]; simp
  rw [seal_Ready.f_eq, readyP_eq]
  exact key k 0 [] (by omega) (by omega) (Nat.le_refl _)
section
variable (z1 : List Txn) (z2 : List (Dot × Int)) (z3 : List Int) (z4 : List Dot) (z5 : List Int) (z6 : List Dot) (z7 : List (List Dot))
end
end Go.Proofs.YtoikjekpckhgeaaGreat
end
section
/- What is begun with in chapter 30; a compacted state may be. -/
set_option linter.unusedVariables false
set_option linter.unusedSimpArgs false
namespace Go.Proofs.YtoikjekpckhgeaaGreat
open Pal
theorem u8_rng30 {a : Int} (h : Fits (.int .u8) a) : 0 ≤ a ∧ a < 256 := by
  have h : (decide (IntKind.min .u8 ≤ a) && decide (a ≤ IntKind.max .u8)) = true := h
  rw [Bool.and_eq_true, decide_eq_true_eq, decide_eq_true_eq] at h
  have h1 : IntKind.min .u8 = 0 := rfl
  have h2 : IntKind.max .u8 = 255 := rfl
  omega
theorem new30_is (k : Nat) (i n : Int) (h0 : 0 ≤ i) (h1 : i < n) (h2 : n ≤ 16) : peer_New.f k i n = some (0, (i, (n, zarr 16 emptyK))) := by
  have e1 : ilt n 1 = false := decide_eq_false (by omega)
  have e2 : ilt 16 n = false := decide_eq_false (by omega)
  have e3 : ilt i 0 = false := decide_eq_false (by omega)
  have e4 : ile n i = false := decide_eq_false (by omega)
  rw [peer_New.f_eq, e1, e2, e3, e4]; rfl
theorem begun30_l (k : Nat) (hk : 5000 < k) (hk2 : k < 1000000) (l : List Know) (fl : ∀ x ∈ l, Fits tKnow x) (hl : l.length ≤ 16) : ∀ (q i : Nat) (p : Peers), i ≤ l.length → l.length < q + i → OKP (100 * i) p →
    ∃ (b : Bool) (p' : Peers), law30_begun.l8 k q l (i : Int) p p = some (b, (p', p')) ∧ OKP 1600 p'
  | 0, i, p, h, h', _ => by omega
  | q + 1, i, p, h, h', hp => by
    have bt : bnot true = false := rfl
    have bf : bnot false = true := rfl
    rw [law30_begun.l8_eq, ilt_nat]
    by_cases hi : i < l.length
    · have e3 : iadd .i64 (i : Int) 1 = ((i + 1 : Nat) : Int) := iadd_nat (by omega)
      have fx := fl _ (List.getElem_mem hi)
      obtain ⟨c, g1, g2⟩ := goodK_is k l[i] fx hk hk2
      rw [decide_eq_true hi, br_true, inL_nat, decide_eq_true hi, natOf_nat, rd_at' (e := tKnow) hi, g1, e3]
      simp only [br_true, bnd_some]
      cases c with
      | false => rw [bf, br_true]; exact ⟨false, p, rfl, hp.mono (by omega)⟩
      | true =>
        obtain ⟨ck, lk⟩ := g2 rfl
        obtain ⟨e, p1, h1, h2, h3, _⟩ := heard_both k hp (i : Int) l[i] fx.1.1.1 fx.2.2.1.1 lk (by omega) hk hk2
        rw [bt, br_false, h1, h2]
        simp only [bnd_some]
        exact begun30_l k hk hk2 l fl hl q (i + 1) p1 (by omega) (by omega) (h3.mono (by omega))
    · rw [decide_eq_false hi, br_false]
      exact ⟨true, p, rfl, hp.mono (by omega)⟩
theorem begun30_is (k : Nat) (hk : 5000 < k) (hk2 : k < 1000000) (a0 a1 : Int) (f0 : 0 ≤ a0 ∧ a0 < 256) (f1 : 0 ≤ a1 ∧ a1 < 256) (l : List Know) (fl : ∀ x ∈ l, Fits tKnow x) :
    ∃ (b : Bool) (p : Peers), law30_begun.f k a0 a1 l = some (b, (p, p)) ∧ OKP 1600 p := by
  rw [law30_begun.f_eq]
  have e1 : irem a1 16 = a1 % 16 := Int.tmod_eq_emod_of_nonneg f1.1
  have e2 : iwrap .i64 (a1 % 16) = a1 % 16 := wrap_i64 (by omega) (by omega)
  have e3 : iadd .i64 1 (a1 % 16) = 1 + a1 % 16 := iadd_s (by omega) (by omega) (by omega) (by omega)
  have e4 : iwrap .i64 a0 = a0 := wrap_i64 (by omega) (by omega)
  have e5 : irem a0 (1 + a1 % 16) = a0 % (1 + a1 % 16) := Int.tmod_eq_emod_of_nonneg f0.1
  rw [e1, e2, e3, e4, e5]
  obtain ⟨N, hN⟩ : ∃ N, N = 1 + a1 % 16 := ⟨_, rfl⟩
  have n1 : 1 ≤ N := by omega
  have n2 : N ≤ 16 := by omega
  rw [← hN]
  have m0 : 0 ≤ a0 % N := Int.emod_nonneg _ (by omega)
  have m1 : a0 % N < N := Int.emod_lt_of_pos _ (by omega)
  have z : ieq N 0 = false := by rw [ieq_dec]; exact decide_eq_false (by omega)
  have okp : ∀ m, OKP m (a0 % N, (N, zarr 16 emptyK)) := fun m => ⟨n2, rfl, fun x hx => by
    have : x = emptyK := List.eq_of_mem_replicate hx
    rw [this]; exact ⟨emptyK_can, emptyK_len m⟩⟩
  rw [z, br_false, new30_is k _ N m0 m1 n2, bnd_some, show ilt 16 (ilen l) = decide (16 < l.length) from ilt_lenR 16 l]
  by_cases h16 : 16 < l.length
  · rw [decide_eq_true h16, br_true]
    exact ⟨false, _, rfl, okp 1600⟩
  · rw [decide_eq_false h16, br_false]
    exact begun30_l k hk hk2 l fl (by omega) k 0 _ (by omega) (by omega) (okp (100 * 0))
theorem lens_of {s : Sta} (hsh : ∀ t ∈ s.1, ShortT t) {k : Nat} (hk : 1000 < k) : ∀ t ∈ s.1, t.2.2.2.2.length < k ∧ ∀ o ∈ t.2.2.2.2, o.2.2.2.2.length < k := by
  intro t ht
  have h := hsh t ht
  exact ⟨by have := h.len; omega, fun o ho => by have := (h.ops o ho).seen; omega⟩
end Go.Proofs.YtoikjekpckhgeaaGreat
end
