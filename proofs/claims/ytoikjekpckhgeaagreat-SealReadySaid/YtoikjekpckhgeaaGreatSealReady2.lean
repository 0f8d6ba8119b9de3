/- The functions that the statement reaches, and what they come to. Part 2. -/
import Derived.Test.YtoikjekpckhgeaaGreatFw1
import Derived.Test.YtoikjekpckhgeaaGreatFw2
import Derived.Test.YtoikjekpckhgeaaGreatFw3
import Derived.Test.YtoikjekpckhgeaaGreatSealReady1
set_option linter.unusedVariables false
set_option linter.unusedSimpArgs false
set_option linter.unusedSectionVars false
section
/- The program's functions, as plain equations. -/
namespace Go.Proofs.YtoikjekpckhgeaaGreat
open Pal
set_option maxRecDepth 100000
noncomputable def vec_Has.body : Go.Code := Tryz.f69.body.getD .skip
noncomputable def vec_Has.rs : List Go.ResultVar := Tryz.f69.results.toList
def vec_Has.regs : List (Nat × RInfo) := [(0, ri [2,3] [2,3]), (1, rq [4] [6] 11)]
noncomputable def vec_Has.cx (k : Nat) : Cx := ⟨tt, pp, [(113, (dot_Right.e k))], vec_Has.regs, k, mm⟩
@[reducible] def vec_Has.sg : Sg := ⟨[.dat tVec, .dat tDot], [], .dat .bool, []⟩
noncomputable def vec_Has.f (k : Nat) (a0 : Ty.D tVec) (a1 : Ty.D tDot) : Option (Sg.Out vec_Has.sg) := Sg.fn vec_Has.sg (vec_Has.cx k) vec_Has.body vec_Has.rs (a0, a1)
theorem vec_Has.f_eq (k : Nat) (a0 : Ty.D tVec) (a1 : Ty.D tDot) : vec_Has.f k a0 a1 = bnd (dot_Right.f k a1) fun r0 => br r0 (br (inB a1.1 16) (some (ile a1.2 (rd (.int .i64) a0 (natOf a1.1)))) none) (some false) := by kernel_rfl
noncomputable def vec_Has.e (k : Nat) : Entry := Sg.entry vec_Has.sg fun x => vec_Has.f k x.1 x.2
theorem vec_Has.ok (k : Nat) : CallOK Tryz.prog 69 (vec_Has.e k) := fn_ok (c := vec_Has.cx k) (code := vec_Has.body) (TT.of tt_ok pp_ok mm_ok) (fns_ok ⟨(dot_Right.ok k), trivial⟩) mixed Tryz.func69 (by kernel_rfl) (by kernel_rfl) (by kernel_rfl) (by kernel_rfl) (by kernel_rfl) (by kernel_rfl) (fun x => by kernel_rfl)
noncomputable def slices_BinarySearchFunc_api_Dot_api_Dot_api_Dot_dot_Compare.body : Go.Code := Tryz.f122.body.getD .skip
noncomputable def slices_BinarySearchFunc_api_Dot_api_Dot_api_Dot_dot_Compare.rs : List Go.ResultVar := Tryz.f122.results.toList
def slices_BinarySearchFunc_api_Dot_api_Dot_api_Dot_dot_Compare.regs : List (Nat × RInfo) := [(0, ri [0,2,4] [4]), (1, ri [0,2,4,8] [4]), (2, ri [0,2,4,8,9,10] [4]), (3, ⟨[0, 2, 4, 8, 9, 10, 17], [4], [], [], 0, [0, 2, 4, 8, 9, 10], [4], [], [], []⟩), (4, ri [0,2,4,8,9,10,11] [4]), (5, ⟨[0, 2, 4, 8, 9, 10, 11, 31], [4], [], [], 8, [], [], [], [[], [], [], [], [], [], [4, 5], [6, 4, 5]], []⟩), (6, ri [0,2,4,8,9,10] [4]), (7, ri [0,2,4,8,9,10] [4]), (8, ⟨[6, 7], [], [], [], 15, [], [], [], [[], [], [], [], [], [], [], [], [], [], [], [9, 10], [11, 9, 10], [11, 9, 10], [11, 9, 10], [11, 9, 10]], []⟩)]
noncomputable def slices_BinarySearchFunc_api_Dot_api_Dot_api_Dot_dot_Compare.cx (k : Nat) : Cx := ⟨tt, pp, [(123, (dot_Compare.e k))], slices_BinarySearchFunc_api_Dot_api_Dot_api_Dot_dot_Compare.regs, k, mm⟩
@[reducible] def slices_BinarySearchFunc_api_Dot_api_Dot_api_Dot_dot_Compare.sg : Sg := ⟨[.dat (.slc tDot), .dat tDot, .fn 123 0], [], .t2 (.dat (.int .i64)) (.dat .bool), []⟩
noncomputable def slices_BinarySearchFunc_api_Dot_api_Dot_api_Dot_dot_Compare.f (k : Nat) (a0 : Ty.D (.slc tDot)) (a1 : Ty.D tDot) : Option (Sg.Out slices_BinarySearchFunc_api_Dot_api_Dot_api_Dot_dot_Compare.sg) := Sg.fn slices_BinarySearchFunc_api_Dot_api_Dot_api_Dot_dot_Compare.sg (slices_BinarySearchFunc_api_Dot_api_Dot_api_Dot_dot_Compare.cx k) slices_BinarySearchFunc_api_Dot_api_Dot_api_Dot_dot_Compare.body slices_BinarySearchFunc_api_Dot_api_Dot_api_Dot_dot_Compare.rs (a0, a1)
noncomputable def slices_BinarySearchFunc_api_Dot_api_Dot_api_Dot_dot_Compare.l3 (k : Nat) (n : Nat) (x0 : Ty.D (.slc tDot)) (x8 : Ty.D (.int .i64)) (x9 : Ty.D (.int .i64)) (x10 : Ty.D (.int .i64)) (m4 : Ty.D tDot) : Option (Sg.Out slices_BinarySearchFunc_api_Dot_api_Dot_api_Dot_dot_Compare.sg) := loopAt (slices_BinarySearchFunc_api_Dot_api_Dot_api_Dot_dot_Compare.cx k) slices_BinarySearchFunc_api_Dot_api_Dot_api_Dot_dot_Compare.body [1, 1, 1, 0, 0] 3 [0, 2, 4, 8, 9, 10] [4] [] (Sg.K slices_BinarySearchFunc_api_Dot_api_Dot_api_Dot_dot_Compare.sg (slices_BinarySearchFunc_api_Dot_api_Dot_api_Dot_dot_Compare.cx k) slices_BinarySearchFunc_api_Dot_api_Dot_api_Dot_dot_Compare.rs) n ⟨[(0, .dat (.slc tDot) x0), (2, .fn 123 []), (4, .ref 4 []), (8, .dat (.int .i64) x8), (9, .dat (.int .i64) x9), (10, .dat (.int .i64) x10)], [(4, .dat tDot m4)]⟩
theorem slices_BinarySearchFunc_api_Dot_api_Dot_api_Dot_dot_Compare.f_eq (k : Nat) (a0 : Ty.D (.slc tDot)) (a1 : Ty.D tDot) : slices_BinarySearchFunc_api_Dot_api_Dot_api_Dot_dot_Compare.f k a0 a1 = slices_BinarySearchFunc_api_Dot_api_Dot_api_Dot_dot_Compare.l3 k k a0 (ilen a0) 0 (ilen a0) a1 := by kernel_rfl
theorem slices_BinarySearchFunc_api_Dot_api_Dot_api_Dot_dot_Compare.l3_eq (k : Nat) (n3 : Nat) (x0 : Ty.D (.slc tDot)) (x8 : Ty.D (.int .i64)) (x9 : Ty.D (.int .i64)) (x10 : Ty.D (.int .i64)) (m4 : Ty.D tDot) : slices_BinarySearchFunc_api_Dot_api_Dot_api_Dot_dot_Compare.l3 k (n3 + 1) x0 x8 x9 x10 m4 = br (ilt x9 x10) (br (inL (iwrap .i64 (ishr .u64 (iwrap .u64 (iadd .i64 x9 x10)) 1)) x0) (bnd (dot_Compare.f k (rd tDot x0 (natOf (iwrap .i64 (ishr .u64 (iwrap .u64 (iadd .i64 x9 x10)) 1)))) m4) fun r0 => br (ilt r0 0) (slices_BinarySearchFunc_api_Dot_api_Dot_api_Dot_dot_Compare.l3 k n3 x0 x8 (iadd .i64 (iwrap .i64 (ishr .u64 (iwrap .u64 (iadd .i64 x9 x10)) 1)) 1) x10 m4) (slices_BinarySearchFunc_api_Dot_api_Dot_api_Dot_dot_Compare.l3 k n3 x0 x8 x9 (iwrap .i64 (ishr .u64 (iwrap .u64 (iadd .i64 x9 x10)) 1)) m4)) none) (br (ilt x9 x8) (br (inL x9 x0) (bnd (dot_Compare.f k (rd tDot x0 (natOf x9)) m4) fun r1 => some (x9, (ieq r1 0))) none) (some (x9, false))) := by kernel_rfl
noncomputable def slices_BinarySearchFunc_api_Dot_api_Dot_api_Dot_dot_Compare.e (k : Nat) : Entry := Sg.entry slices_BinarySearchFunc_api_Dot_api_Dot_api_Dot_dot_Compare.sg fun x => slices_BinarySearchFunc_api_Dot_api_Dot_api_Dot_dot_Compare.f k x.1 x.2
theorem slices_BinarySearchFunc_api_Dot_api_Dot_api_Dot_dot_Compare.ok (k : Nat) : CallOK Tryz.prog 122 (slices_BinarySearchFunc_api_Dot_api_Dot_api_Dot_dot_Compare.e k) := fn_ok (c := slices_BinarySearchFunc_api_Dot_api_Dot_api_Dot_dot_Compare.cx k) (code := slices_BinarySearchFunc_api_Dot_api_Dot_api_Dot_dot_Compare.body) (TT.of tt_ok pp_ok mm_ok) (fns_ok ⟨(dot_Compare.ok k), trivial⟩) mixed Tryz.func122 (by kernel_rfl) (by kernel_rfl) (by kernel_rfl) (by kernel_rfl) (by kernel_rfl) (by kernel_rfl) (fun x => by kernel_rfl)
noncomputable def dots_Has.body : Go.Code := Tryz.f81.body.getD .skip
noncomputable def dots_Has.rs : List Go.ResultVar := Tryz.f81.results.toList
def dots_Has.regs : List (Nat × RInfo) := [(0, ⟨[2, 3], [2, 3], [0], [], 0, [], [], [], [], []⟩), (1, ri [2,3,10] [2,3,10]), (2, ri [4] [15]), (3, ri [6] [15]), (4, ri [4] [15])]
noncomputable def dots_Has.cx (k : Nat) : Cx := ⟨tt, pp, [(69, (vec_Has.e k)), (122, (slices_BinarySearchFunc_api_Dot_api_Dot_api_Dot_dot_Compare.e k)), (123, (dot_Compare.e k))], dots_Has.regs, k, mm⟩
@[reducible] def dots_Has.sg : Sg := ⟨[.dat tDots, .dat tDot], [], .dat .bool, []⟩
noncomputable def dots_Has.f (k : Nat) (a0 : Ty.D tDots) (a1 : Ty.D tDot) : Option (Sg.Out dots_Has.sg) := Sg.fn dots_Has.sg (dots_Has.cx k) dots_Has.body dots_Has.rs (a0, a1)
theorem dots_Has.f_eq (k : Nat) (a0 : Ty.D tDots) (a1 : Ty.D tDot) : dots_Has.f k a0 a1 = bnd (vec_Has.f k a0.1 a1) fun r0 => br r0 (some true) (bnd (slices_BinarySearchFunc_api_Dot_api_Dot_api_Dot_dot_Compare.f k a0.2 a1) fun r1 => some r1.2) := by kernel_rfl
noncomputable def dots_Has.e (k : Nat) : Entry := Sg.entry dots_Has.sg fun x => dots_Has.f k x.1 x.2
theorem dots_Has.ok (k : Nat) : CallOK Tryz.prog 81 (dots_Has.e k) := fn_ok (c := dots_Has.cx k) (code := dots_Has.body) (TT.of tt_ok pp_ok mm_ok) (fns_ok ⟨(vec_Has.ok k), (slices_BinarySearchFunc_api_Dot_api_Dot_api_Dot_dot_Compare.ok k), (dot_Compare.ok k), trivial⟩) mixed Tryz.func81 (by kernel_rfl) (by kernel_rfl) (by kernel_rfl) (by kernel_rfl) (by kernel_rfl) (by kernel_rfl) (fun x => by kernel_rfl)
noncomputable def seal_Ready_1.body : Go.Code := Tryz.f83.body.getD .skip
noncomputable def seal_Ready_1.rs : List Go.ResultVar := Tryz.f83.results.toList
def seal_Ready_1.regs : List (Nat × RInfo) := [(0, ⟨[1, 2], [2, 1000000], [0], [], 0, [], [], [], [], []⟩), (1, ri [3] [8,1000000])]
noncomputable def seal_Ready_1.cx (k : Nat) : Cx := ⟨tt, pp, [(81, (dots_Has.e k))], seal_Ready_1.regs, k, mm⟩
@[reducible] def seal_Ready_1.sg : Sg := ⟨[.dat tKnow, .ref], [tTxn], .dat .bool, [tTxn]⟩
noncomputable def seal_Ready_1.f (k : Nat) (a0 : Ty.D tKnow) (o0 : Ty.D tTxn) : Option (Sg.Out seal_Ready_1.sg) := Sg.fn seal_Ready_1.sg (seal_Ready_1.cx k) seal_Ready_1.body seal_Ready_1.rs (a0, o0)
theorem seal_Ready_1.f_eq (k : Nat) (a0 : Ty.D tKnow) (o0 : Ty.D tTxn) : seal_Ready_1.f k a0 o0 = bnd (dots_Has.f k a0.1 o0.1) fun r0 => some (r0, o0) := by kernel_rfl
noncomputable def seal_Ready_1.e (k : Nat) : Entry := Sg.entry seal_Ready_1.sg fun x => seal_Ready_1.f k x.1 x.2
theorem seal_Ready_1.ok (k : Nat) : CallOK Tryz.prog 83 (seal_Ready_1.e k) := fn_ok (c := seal_Ready_1.cx k) (code := seal_Ready_1.body) (TT.of tt_ok pp_ok mm_ok) (fns_ok ⟨(dots_Has.ok k), trivial⟩) mixed Tryz.func83 (by kernel_rfl) (by kernel_rfl) (by kernel_rfl) (by kernel_rfl) (by kernel_rfl) (by kernel_rfl) (fun x => by kernel_rfl)
noncomputable def peer_Peers_All_seal_Ready_1.body : Go.Code := Tryz.f82.body.getD .skip
noncomputable def peer_Peers_All_seal_Ready_1.rs : List Go.ResultVar := Tryz.f82.results.toList
def peer_Peers_All_seal_Ready_1.regs : List (Nat × RInfo) := [(0, ri [0,1] [1000000,1000001]), (1, ri [0,1,7] [1000000,1000001]), (2, ri [4] [1000000,1000001]), (3, ri [0,1,11,12] [1000000,1000001]), (4, ⟨[0, 1, 11, 12, 13], [1000000, 1000001], [], [], 0, [0, 1, 11, 12], [1000000, 1000001], [], [], []⟩), (5, ri [0,1,5,11,12] [1000000,1000001]), (6, ri [0,1,11,12,31] [1000000,1000001]), (7, ri [4] [1000000,1000001]), (8, ri [0,1,11,12] [1000000,1000001]), (9, ri [4] [1000000,1000001])]
noncomputable def peer_Peers_All_seal_Ready_1.cx (k : Nat) : Cx := ⟨tt, pp, [(83, (seal_Ready_1.e k))], peer_Peers_All_seal_Ready_1.regs, k, mm⟩
@[reducible] def peer_Peers_All_seal_Ready_1.sg : Sg := ⟨[.ref, .fn 83 1], [tPeers, tTxn], .dat .bool, [tPeers, tTxn]⟩
noncomputable def peer_Peers_All_seal_Ready_1.f (k : Nat) (o0 : Ty.D tPeers) (o1 : Ty.D tTxn) : Option (Sg.Out peer_Peers_All_seal_Ready_1.sg) := Sg.fn peer_Peers_All_seal_Ready_1.sg (peer_Peers_All_seal_Ready_1.cx k) peer_Peers_All_seal_Ready_1.body peer_Peers_All_seal_Ready_1.rs (o0, o1)
noncomputable def peer_Peers_All_seal_Ready_1.l4 (k : Nat) (n : Nat) (x11 : Ty.D (.int .i64)) (x12 : Ty.D (.int .i64)) (m1000000 : Ty.D tPeers) (m1000001 : Ty.D tTxn) : Option (Sg.Out peer_Peers_All_seal_Ready_1.sg) := loopAt (peer_Peers_All_seal_Ready_1.cx k) peer_Peers_All_seal_Ready_1.body [1, 1, 0, 1, 0] 4 [0, 1, 11, 12] [1000000, 1000001] [] (Sg.K peer_Peers_All_seal_Ready_1.sg (peer_Peers_All_seal_Ready_1.cx k) peer_Peers_All_seal_Ready_1.rs) n ⟨[(0, .ref 1000000 []), (1, .fn 83 [(1000001, [])]), (11, .dat (.int .i64) x11), (12, .dat (.int .i64) x12)], [(1000000, .dat tPeers m1000000), (1000001, .dat tTxn m1000001)]⟩
theorem peer_Peers_All_seal_Ready_1.f_eq (k : Nat) (o0 : Ty.D tPeers) (o1 : Ty.D tTxn) : peer_Peers_All_seal_Ready_1.f k o0 o1 = peer_Peers_All_seal_Ready_1.l4 k k o0.2.1 0 o0 o1 := by kernel_rfl
theorem peer_Peers_All_seal_Ready_1.l4_eq (k : Nat) (n4 : Nat) (x11 : Ty.D (.int .i64)) (x12 : Ty.D (.int .i64)) (m1000000 : Ty.D tPeers) (m1000001 : Ty.D tTxn) : peer_Peers_All_seal_Ready_1.l4 k (n4 + 1) x11 x12 m1000000 m1000001 = br (ilt x12 x11) (br (bnot (ieq x12 m1000000.1)) (br (inB x12 16) (bnd (seal_Ready_1.f k (rd tKnow m1000000.2.2 (natOf x12)) m1000001) fun r0 => br (bnot r0.1) (some (false, (m1000000, r0.2))) (peer_Peers_All_seal_Ready_1.l4 k n4 x11 (iadd .i64 x12 1) m1000000 r0.2)) none) (peer_Peers_All_seal_Ready_1.l4 k n4 x11 (iadd .i64 x12 1) m1000000 m1000001)) (some (true, (m1000000, m1000001))) := by kernel_rfl
noncomputable def peer_Peers_All_seal_Ready_1.e (k : Nat) : Entry := Sg.entry peer_Peers_All_seal_Ready_1.sg fun x => peer_Peers_All_seal_Ready_1.f k x.1 x.2
theorem peer_Peers_All_seal_Ready_1.ok (k : Nat) : CallOK Tryz.prog 82 (peer_Peers_All_seal_Ready_1.e k) := fn_ok (c := peer_Peers_All_seal_Ready_1.cx k) (code := peer_Peers_All_seal_Ready_1.body) (TT.of tt_ok pp_ok mm_ok) (fns_ok ⟨(seal_Ready_1.ok k), trivial⟩) mixed Tryz.func82 (by kernel_rfl) (by kernel_rfl) (by kernel_rfl) (by kernel_rfl) (by kernel_rfl) (by kernel_rfl) (fun x => by kernel_rfl)
noncomputable def seal_Ready.body : Go.Code := Tryz.f38.body.getD .skip
noncomputable def seal_Ready.rs : List Go.ResultVar := Tryz.f38.results.toList
def seal_Ready.regs : List (Nat × RInfo) := [(0, ⟨[0, 3], [3, 1000000], [0], [], 0, [], [], [], [], []⟩), (1, ri [0,3,5] [3,1000000]), (2, ri [0,3,5,9,10,11] [3,1000000]), (3, ⟨[0, 3, 5, 9, 10, 11, 12], [3, 1000000], [], [], 0, [0, 3, 5, 9, 10, 11], [3, 1000000], [], [], []⟩), (4, ⟨[0, 3, 5, 7, 9, 10, 11], [3, 7, 1000000], [3], [], 0, [], [], [], [], []⟩), (5, ri [0,3,5,7,9,10,11,25] [3,7,24,1000000]), (6, ⟨[0, 3, 5, 9, 10, 11], [3, 1000000], [0, 4, 5], [], 0, [], [], [], [], []⟩), (7, ri [0,3,5,9,10,11] [3,1000000]), (8, ⟨[4], [1000000], [0, 1], [], 0, [], [], [], [], []⟩)]
noncomputable def seal_Ready.cx (k : Nat) : Cx := ⟨tt, pp, [(81, (dots_Has.e k)), (83, (seal_Ready_1.e k)), (82, (peer_Peers_All_seal_Ready_1.e k))], seal_Ready.regs, k, mm⟩
@[reducible] def seal_Ready.sg : Sg := ⟨[.ref, .dat tState], [tPeers], .own tDot, [tPeers]⟩
noncomputable def seal_Ready.f (k : Nat) (a1 : Ty.D tState) (o0 : Ty.D tPeers) : Option (Sg.Out seal_Ready.sg) := Sg.fn seal_Ready.sg (seal_Ready.cx k) seal_Ready.body seal_Ready.rs (a1, o0)
noncomputable def seal_Ready.l3 (k : Nat) (n : Nat) (x5 : List (Ty.D tDot)) (x9 : Ty.D (.slc tTxn)) (x10 : Ty.D (.int .i64)) (x11 : Ty.D (.int .i64)) (m3 : Ty.D tState) (m1000000 : Ty.D tPeers) : Option (Sg.Out seal_Ready.sg) := loopAt (seal_Ready.cx k) seal_Ready.body [1, 1, 0, 1, 0] 3 [0, 3, 5, 9, 10, 11] [3, 1000000] [] (Sg.K seal_Ready.sg (seal_Ready.cx k) seal_Ready.rs) n ⟨[(0, .ref 1000000 []), (3, .ref 3 []), (5, .own tDot x5), (9, .dat (.slc tTxn) x9), (10, .dat (.int .i64) x10), (11, .dat (.int .i64) x11)], [(3, .dat tState m3), (1000000, .dat tPeers m1000000)]⟩
theorem seal_Ready.f_eq (k : Nat) (a1 : Ty.D tState) (o0 : Ty.D tPeers) : seal_Ready.f k a1 o0 = seal_Ready.l3 k k [] a1.1 (ilen a1.1) 0 a1 o0 := by kernel_rfl
theorem seal_Ready.l3_eq (k : Nat) (n3 : Nat) (x5 : List (Ty.D tDot)) (x9 : Ty.D (.slc tTxn)) (x10 : Ty.D (.int .i64)) (x11 : Ty.D (.int .i64)) (m3 : Ty.D tState) (m1000000 : Ty.D tPeers) : seal_Ready.l3 k (n3 + 1) x5 x9 x10 x11 m3 m1000000 = br (ilt x11 x10) (br (inL x11 x9) (bnd (dots_Has.f k m3.2.2.2.1 ((rd tTxn x9 (natOf x11)).1)) fun r0 => br (bnot r0) (bnd (peer_Peers_All_seal_Ready_1.f k m1000000 (rd tTxn x9 (natOf x11))) fun r1 => br r1.1 (br (room x5 (r1.2.2.1 :: [])) (seal_Ready.l3 k n3 (app x5 (r1.2.2.1 :: [])) x9 x10 (iadd .i64 x11 1) m3 r1.2.1) none) (seal_Ready.l3 k n3 x5 x9 x10 (iadd .i64 x11 1) m3 r1.2.1)) (seal_Ready.l3 k n3 x5 x9 x10 (iadd .i64 x11 1) m3 m1000000)) none) (some (x5, m1000000)) := by kernel_rfl
noncomputable def seal_Ready.e (k : Nat) : Entry := Sg.entry seal_Ready.sg fun x => seal_Ready.f k x.1 x.2
theorem seal_Ready.ok (k : Nat) : CallOK Tryz.prog 38 (seal_Ready.e k) := fn_ok (c := seal_Ready.cx k) (code := seal_Ready.body) (TT.of tt_ok pp_ok mm_ok) (fns_ok ⟨(dots_Has.ok k), (seal_Ready_1.ok k), (peer_Peers_All_seal_Ready_1.ok k), trivial⟩) mixed Tryz.func38 (by kernel_rfl) (by kernel_rfl) (by kernel_rfl) (by kernel_rfl) (by kernel_rfl) (by kernel_rfl) (fun x => by kernel_rfl)
noncomputable def peer_New.body : Go.Code := Tryz.f27.body.getD .skip
noncomputable def peer_New.rs : List Go.ResultVar := Tryz.f27.results.toList
def peer_New.regs : List (Nat × RInfo) := [(0, ri [0,1] []), (1, ri [0,1,20] []), (2, ri [4,5] [24]), (3, ri [4,5] [24])]
noncomputable def peer_New.cx (k : Nat) : Cx := ⟨tt, pp, [], peer_New.regs, k, mm⟩
@[reducible] def peer_New.sg : Sg := ⟨[.dat (.int .i64), .dat (.int .i64)], [], .t2 (.new) (.dat (.int .i64)), [tPeers]⟩
noncomputable def peer_New.f (k : Nat) (a0 : Ty.D (.int .i64)) (a1 : Ty.D (.int .i64)) : Option (Sg.Out peer_New.sg) := Sg.fn peer_New.sg (peer_New.cx k) peer_New.body peer_New.rs (a0, a1)
theorem peer_New.f_eq (k : Nat) (a0 : Ty.D (.int .i64)) (a1 : Ty.D (.int .i64)) : peer_New.f k a0 a1 = br (ilt a1 1) none (br (ilt 16 a1) none (br (ilt a0 0) none (br (ile a1 a0) none (some (0, (a0, (a1, (zarr 16 (((zarr 16 0), []), ([], ((zarr 16 0), []))))))))))) := by kernel_rfl
noncomputable def peer_New.e (k : Nat) : Entry := Sg.entry peer_New.sg fun x => peer_New.f k x.1 x.2
theorem peer_New.ok (k : Nat) : CallOK Tryz.prog 27 (peer_New.e k) := fn_ok (c := peer_New.cx k) (code := peer_New.body) (TT.of tt_ok pp_ok mm_ok) (fns_ok trivial) mixed Tryz.func27 (by kernel_rfl) (by kernel_rfl) (by kernel_rfl) (by kernel_rfl) (by kernel_rfl) (by kernel_rfl) (fun x => by kernel_rfl)
noncomputable def ref24_Short.body : Go.Code := Tryz.f54.body.getD .skip
noncomputable def ref24_Short.rs : List Go.ResultVar := Tryz.f54.results.toList
def ref24_Short.regs : List (Nat × RInfo) := [(0, ⟨[1], [1], [0], [], 0, [], [], [], [], []⟩), (1, ri [2] [])]
noncomputable def ref24_Short.cx (k : Nat) : Cx := ⟨tt, pp, [], ref24_Short.regs, k, mm⟩
@[reducible] def ref24_Short.sg : Sg := ⟨[.dat tKnow], [], .dat .bool, []⟩
noncomputable def ref24_Short.f (k : Nat) (a0 : Ty.D tKnow) : Option (Sg.Out ref24_Short.sg) := Sg.fn ref24_Short.sg (ref24_Short.cx k) ref24_Short.body ref24_Short.rs a0
theorem ref24_Short.f_eq (k : Nat) (a0 : Ty.D tKnow) : ref24_Short.f k a0 = br (ile (ilen a0.1.2) 100) (br (ile (ilen a0.2.1) 100) (some (ile (ilen a0.2.2.2) 100)) (some false)) (some false) := by kernel_rfl
noncomputable def ref24_Short.e (k : Nat) : Entry := Sg.entry ref24_Short.sg fun x => ref24_Short.f k x
theorem ref24_Short.ok (k : Nat) : CallOK Tryz.prog 54 (ref24_Short.e k) := fn_ok (c := ref24_Short.cx k) (code := ref24_Short.body) (TT.of tt_ok pp_ok mm_ok) (fns_ok trivial) mixed Tryz.func54 (by kernel_rfl) (by kernel_rfl) (by kernel_rfl) (by kernel_rfl) (by kernel_rfl) (by kernel_rfl) (fun x => by kernel_rfl)
noncomputable def ref05_Right.body : Go.Code := Tryz.f131.body.getD .skip
noncomputable def ref05_Right.rs : List Go.ResultVar := Tryz.f131.results.toList
def ref05_Right.regs : List (Nat × RInfo) := [(0, ri [1] [1]), (1, ri [1,3] [1]), (2, ⟨[1, 3, 5], [1], [], [], 0, [1, 3], [1], [], [], []⟩), (4, ri [1,3,17] [1]), (5, ri [2] []), (3, ri [1,3] [1]), (6, ri [2] [])]
noncomputable def ref05_Right.cx (k : Nat) : Cx := ⟨tt, pp, [], ref05_Right.regs, k, mm⟩
@[reducible] def ref05_Right.sg : Sg := ⟨[.dat tVec], [], .dat .bool, []⟩
noncomputable def ref05_Right.f (k : Nat) (a0 : Ty.D tVec) : Option (Sg.Out ref05_Right.sg) := Sg.fn ref05_Right.sg (ref05_Right.cx k) ref05_Right.body ref05_Right.rs a0
noncomputable def ref05_Right.l2 (k : Nat) (n : Nat) (x3 : Ty.D (.int .i64)) (m1 : Ty.D tVec) : Option (Sg.Out ref05_Right.sg) := loopAt (ref05_Right.cx k) ref05_Right.body [1, 0, 1, 0] 2 [1, 3] [1] [] (Sg.K ref05_Right.sg (ref05_Right.cx k) ref05_Right.rs) n ⟨[(1, .ref 1 []), (3, .dat (.int .i64) x3)], [(1, .dat tVec m1)]⟩
theorem ref05_Right.f_eq (k : Nat) (a0 : Ty.D tVec) : ref05_Right.f k a0 = ref05_Right.l2 k k 0 a0 := by kernel_rfl
theorem ref05_Right.l2_eq (k : Nat) (n2 : Nat) (x3 : Ty.D (.int .i64)) (m1 : Ty.D tVec) : ref05_Right.l2 k (n2 + 1) x3 m1 = br (ilt x3 16) (br (inB x3 16) (br (ilt (rd (.int .i64) m1 (natOf x3)) 0) (some false) (br (inB x3 16) (br (ilt 1048576 (rd (.int .i64) m1 (natOf x3))) (some false) (ref05_Right.l2 k n2 (iadd .i64 x3 1) m1)) none)) none) (some true) := by kernel_rfl
noncomputable def ref05_Right.e (k : Nat) : Entry := Sg.entry ref05_Right.sg fun x => ref05_Right.f k x
theorem ref05_Right.ok (k : Nat) : CallOK Tryz.prog 131 (ref05_Right.e k) := fn_ok (c := ref05_Right.cx k) (code := ref05_Right.body) (TT.of tt_ok pp_ok mm_ok) (fns_ok trivial) mixed Tryz.func131 (by kernel_rfl) (by kernel_rfl) (by kernel_rfl) (by kernel_rfl) (by kernel_rfl) (by kernel_rfl) (fun x => by kernel_rfl)
noncomputable def ref04_Right.body : Go.Code := Tryz.f97.body.getD .skip
noncomputable def ref04_Right.rs : List Go.ResultVar := Tryz.f97.results.toList
def ref04_Right.regs : List (Nat × RInfo) := [(0, ri [1] [1]), (1, ri [2] [])]
noncomputable def ref04_Right.cx (k : Nat) : Cx := ⟨tt, pp, [], ref04_Right.regs, k, mm⟩
@[reducible] def ref04_Right.sg : Sg := ⟨[.dat tDot], [], .dat .bool, []⟩
noncomputable def ref04_Right.f (k : Nat) (a0 : Ty.D tDot) : Option (Sg.Out ref04_Right.sg) := Sg.fn ref04_Right.sg (ref04_Right.cx k) ref04_Right.body ref04_Right.rs a0
theorem ref04_Right.f_eq (k : Nat) (a0 : Ty.D tDot) : ref04_Right.f k a0 = br (ile 0 a0.1) (br (ile a0.1 15) (br (ile 1 a0.2) (some (ile a0.2 1048576)) (some false)) (some false)) (some false) := by kernel_rfl
noncomputable def ref04_Right.e (k : Nat) : Entry := Sg.entry ref04_Right.sg fun x => ref04_Right.f k x
theorem ref04_Right.ok (k : Nat) : CallOK Tryz.prog 97 (ref04_Right.e k) := fn_ok (c := ref04_Right.cx k) (code := ref04_Right.body) (TT.of tt_ok pp_ok mm_ok) (fns_ok trivial) mixed Tryz.func97 (by kernel_rfl) (by kernel_rfl) (by kernel_rfl) (by kernel_rfl) (by kernel_rfl) (by kernel_rfl) (fun x => by kernel_rfl)
noncomputable def ref04_ints.body : Go.Code := Tryz.f162.body.getD .skip
noncomputable def ref04_ints.rs : List Go.ResultVar := Tryz.f162.results.toList
def ref04_ints.regs : List (Nat × RInfo) := [(0, ri [0,1] []), (1, ri [0,1,7] []), (2, ri [4] []), (3, ri [10] []), (4, ri [4] []), (5, ri [4] [])]
noncomputable def ref04_ints.cx (k : Nat) : Cx := ⟨tt, pp, [], ref04_ints.regs, k, mm⟩
@[reducible] def ref04_ints.sg : Sg := ⟨[.dat (.int .i64), .dat (.int .i64)], [], .dat (.int .i64), []⟩
noncomputable def ref04_ints.f (k : Nat) (a0 : Ty.D (.int .i64)) (a1 : Ty.D (.int .i64)) : Option (Sg.Out ref04_ints.sg) := Sg.fn ref04_ints.sg (ref04_ints.cx k) ref04_ints.body ref04_ints.rs (a0, a1)
theorem ref04_ints.f_eq (k : Nat) (a0 : Ty.D (.int .i64)) (a1 : Ty.D (.int .i64)) : ref04_ints.f k a0 a1 = br (ilt a0 a1) (some (-1)) (br (ilt a1 a0) (some 1) (some 0)) := by kernel_rfl
noncomputable def ref04_ints.e (k : Nat) : Entry := Sg.entry ref04_ints.sg fun x => ref04_ints.f k x.1 x.2
theorem ref04_ints.ok (k : Nat) : CallOK Tryz.prog 162 (ref04_ints.e k) := fn_ok (c := ref04_ints.cx k) (code := ref04_ints.body) (TT.of tt_ok pp_ok mm_ok) (fns_ok trivial) mixed Tryz.func162 (by kernel_rfl) (by kernel_rfl) (by kernel_rfl) (by kernel_rfl) (by kernel_rfl) (by kernel_rfl) (fun x => by kernel_rfl)
noncomputable def ref04_Compare.body : Go.Code := Tryz.f129.body.getD .skip
noncomputable def ref04_Compare.rs : List Go.ResultVar := Tryz.f129.results.toList
def ref04_Compare.regs : List (Nat × RInfo) := [(0, ri [2,3] [2,3]), (1, ri [2,3,9] [2,3]), (2, ri [4] [14,19]), (3, ri [4] [14,19])]
noncomputable def ref04_Compare.cx (k : Nat) : Cx := ⟨tt, pp, [(162, (ref04_ints.e k))], ref04_Compare.regs, k, mm⟩
@[reducible] def ref04_Compare.sg : Sg := ⟨[.dat tDot, .dat tDot], [], .dat (.int .i64), []⟩
noncomputable def ref04_Compare.f (k : Nat) (a0 : Ty.D tDot) (a1 : Ty.D tDot) : Option (Sg.Out ref04_Compare.sg) := Sg.fn ref04_Compare.sg (ref04_Compare.cx k) ref04_Compare.body ref04_Compare.rs (a0, a1)
theorem ref04_Compare.f_eq (k : Nat) (a0 : Ty.D tDot) (a1 : Ty.D tDot) : ref04_Compare.f k a0 a1 = br (bnot (ieq a0.1 a1.1)) (bnd (ref04_ints.f k a0.1 a1.1) fun r0 => some r0) (bnd (ref04_ints.f k a0.2 a1.2) fun r1 => some r1) := by kernel_rfl
noncomputable def ref04_Compare.e (k : Nat) : Entry := Sg.entry ref04_Compare.sg fun x => ref04_Compare.f k x.1 x.2
theorem ref04_Compare.ok (k : Nat) : CallOK Tryz.prog 129 (ref04_Compare.e k) := fn_ok (c := ref04_Compare.cx k) (code := ref04_Compare.body) (TT.of tt_ok pp_ok mm_ok) (fns_ok ⟨(ref04_ints.ok k), trivial⟩) mixed Tryz.func129 (by kernel_rfl) (by kernel_rfl) (by kernel_rfl) (by kernel_rfl) (by kernel_rfl) (by kernel_rfl) (fun x => by kernel_rfl)
noncomputable def ref06_Right.body : Go.Code := Tryz.f95.body.getD .skip
noncomputable def ref06_Right.rs : List Go.ResultVar := Tryz.f95.results.toList
def ref06_Right.regs : List (Nat × RInfo) := [(0, ⟨[1], [1], [0], [], 0, [], [], [], [], []⟩), (1, ri [1,14] [1]), (2, ri [2] []), (3, ri [1,3] [1]), (4, ⟨[1, 3, 19], [1], [], [], 0, [1, 3], [1], [], [], []⟩), (6, ri [1,3,4] [1,4]), (7, rq [1,3,4,40] [1,4] 14), (8, ri [2] []), (9, rq [1,3,53] [1] 13), (10, ri [2] []), (5, ri [1,3] [1]), (11, ri [2] [])]
noncomputable def ref06_Right.cx (k : Nat) : Cx := ⟨tt, pp, [(131, (ref05_Right.e k)), (97, (ref04_Right.e k)), (129, (ref04_Compare.e k))], ref06_Right.regs, k, mm⟩
@[reducible] def ref06_Right.sg : Sg := ⟨[.dat tDots], [], .dat .bool, []⟩
noncomputable def ref06_Right.f (k : Nat) (a0 : Ty.D tDots) : Option (Sg.Out ref06_Right.sg) := Sg.fn ref06_Right.sg (ref06_Right.cx k) ref06_Right.body ref06_Right.rs a0
noncomputable def ref06_Right.l4 (k : Nat) (n : Nat) (x3 : Ty.D (.int .i64)) (m1 : Ty.D tDots) : Option (Sg.Out ref06_Right.sg) := loopAt (ref06_Right.cx k) ref06_Right.body [1, 1, 0, 1, 0] 4 [1, 3] [1] [] (Sg.K ref06_Right.sg (ref06_Right.cx k) ref06_Right.rs) n ⟨[(1, .ref 1 []), (3, .dat (.int .i64) x3)], [(1, .dat tDots m1)]⟩
theorem ref06_Right.f_eq (k : Nat) (a0 : Ty.D tDots) : ref06_Right.f k a0 = bnd (ref05_Right.f k a0.1) fun r0 => br (bnot r0) (some false) (br (ilt 4096 (ilen a0.2)) (some false) (ref06_Right.l4 k k 0 a0)) := by kernel_rfl
theorem ref06_Right.l4_eq (k : Nat) (n4 : Nat) (x3 : Ty.D (.int .i64)) (m1 : Ty.D tDots) : ref06_Right.l4 k (n4 + 1) x3 m1 = br (ilt x3 (ilen m1.2)) (br (inL x3 m1.2) (bnd (ref04_Right.f k (rd tDot m1.2 (natOf x3))) fun r0 => br (bnot r0) (some false) (br (inB ((rd tDot m1.2 (natOf x3)).1) 16) (br (ile (isub .i64 ((rd tDot m1.2 (natOf x3)).2) 1) (rd (.int .i64) m1.1 (natOf ((rd tDot m1.2 (natOf x3)).1)))) (some false) (br (ilt 0 x3) (br (inL (isub .i64 x3 1) m1.2) (bnd (ref04_Compare.f k (rd tDot m1.2 (natOf (isub .i64 x3 1))) (rd tDot m1.2 (natOf x3))) fun r1 => br (bnot (ieq r1 (-1))) (some false) (ref06_Right.l4 k n4 (iadd .i64 x3 1) m1)) none) (ref06_Right.l4 k n4 (iadd .i64 x3 1) m1))) none)) none) (some true) := by kernel_rfl
noncomputable def ref06_Right.e (k : Nat) : Entry := Sg.entry ref06_Right.sg fun x => ref06_Right.f k x
theorem ref06_Right.ok (k : Nat) : CallOK Tryz.prog 95 (ref06_Right.e k) := fn_ok (c := ref06_Right.cx k) (code := ref06_Right.body) (TT.of tt_ok pp_ok mm_ok) (fns_ok ⟨(ref05_Right.ok k), (ref04_Right.ok k), (ref04_Compare.ok k), trivial⟩) mixed Tryz.func95 (by kernel_rfl) (by kernel_rfl) (by kernel_rfl) (by kernel_rfl) (by kernel_rfl) (by kernel_rfl) (fun x => by kernel_rfl)
noncomputable def ref08_one.body : Go.Code := Tryz.f130.body.getD .skip
noncomputable def ref08_one.rs : List Go.ResultVar := Tryz.f130.results.toList
def ref08_one.regs : List (Nat × RInfo) := [(0, ri [1] [1]), (1, ri [2] [5])]
noncomputable def ref08_one.cx (k : Nat) : Cx := ⟨tt, pp, [(97, (ref04_Right.e k))], ref08_one.regs, k, mm⟩
@[reducible] def ref08_one.sg : Sg := ⟨[.dat tUndo], [], .dat .bool, []⟩
noncomputable def ref08_one.f (k : Nat) (a0 : Ty.D tUndo) : Option (Sg.Out ref08_one.sg) := Sg.fn ref08_one.sg (ref08_one.cx k) ref08_one.body ref08_one.rs a0
theorem ref08_one.f_eq (k : Nat) (a0 : Ty.D tUndo) : ref08_one.f k a0 = bnd (ref04_Right.f k a0.1) fun r0 => br r0 (br (ile 1 a0.2) (some (ile a0.2 64)) (some false)) (some false) := by kernel_rfl
noncomputable def ref08_one.e (k : Nat) : Entry := Sg.entry ref08_one.sg fun x => ref08_one.f k x
theorem ref08_one.ok (k : Nat) : CallOK Tryz.prog 130 (ref08_one.e k) := fn_ok (c := ref08_one.cx k) (code := ref08_one.body) (TT.of tt_ok pp_ok mm_ok) (fns_ok ⟨(ref04_Right.ok k), trivial⟩) mixed Tryz.func130 (by kernel_rfl) (by kernel_rfl) (by kernel_rfl) (by kernel_rfl) (by kernel_rfl) (by kernel_rfl) (fun x => by kernel_rfl)
noncomputable def ref08_Right.body : Go.Code := Tryz.f94.body.getD .skip
noncomputable def ref08_Right.rs : List Go.ResultVar := Tryz.f94.results.toList
def ref08_Right.regs : List (Nat × RInfo) := [(0, ri [0] []), (1, ri [0,3] []), (2, ⟨[0, 3, 7], [], [], [], 0, [0, 3], [], [], [], []⟩), (4, rq [0,3,34] [] 25), (5, ri [2] []), (3, ri [0,3] []), (6, ri [2] [])]
noncomputable def ref08_Right.cx (k : Nat) : Cx := ⟨tt, pp, [(130, (ref08_one.e k)), (129, (ref04_Compare.e k))], ref08_Right.regs, k, mm⟩
@[reducible] def ref08_Right.sg : Sg := ⟨[.dat (.slc tUndo)], [], .dat .bool, []⟩
noncomputable def ref08_Right.f (k : Nat) (a0 : Ty.D (.slc tUndo)) : Option (Sg.Out ref08_Right.sg) := Sg.fn ref08_Right.sg (ref08_Right.cx k) ref08_Right.body ref08_Right.rs a0
noncomputable def ref08_Right.l2 (k : Nat) (n : Nat) (x0 : Ty.D (.slc tUndo)) (x3 : Ty.D (.int .i64)) : Option (Sg.Out ref08_Right.sg) := loopAt (ref08_Right.cx k) ref08_Right.body [1, 0, 1, 0] 2 [0, 3] [] [] (Sg.K ref08_Right.sg (ref08_Right.cx k) ref08_Right.rs) n ⟨[(0, .dat (.slc tUndo) x0), (3, .dat (.int .i64) x3)], []⟩
theorem ref08_Right.f_eq (k : Nat) (a0 : Ty.D (.slc tUndo)) : ref08_Right.f k a0 = ref08_Right.l2 k k a0 0 := by kernel_rfl
theorem ref08_Right.l2_eq (k : Nat) (n2 : Nat) (x0 : Ty.D (.slc tUndo)) (x3 : Ty.D (.int .i64)) : ref08_Right.l2 k (n2 + 1) x0 x3 = br (ilt x3 (ilen x0)) (br (inL x3 x0) (bnd (ref08_one.f k (rd tUndo x0 (natOf x3))) fun r0 => br (bnot r0) (some false) (br (ilt 0 x3) (br (inL (isub .i64 x3 1) x0) (br (inL x3 x0) (bnd (ref04_Compare.f k ((rd tUndo x0 (natOf (isub .i64 x3 1))).1) ((rd tUndo x0 (natOf x3)).1)) fun r1 => br (bnot (ieq r1 (-1))) (some false) (ref08_Right.l2 k n2 x0 (iadd .i64 x3 1))) none) none) (ref08_Right.l2 k n2 x0 (iadd .i64 x3 1)))) none) (some true) := by kernel_rfl
noncomputable def ref08_Right.e (k : Nat) : Entry := Sg.entry ref08_Right.sg fun x => ref08_Right.f k x
theorem ref08_Right.ok (k : Nat) : CallOK Tryz.prog 94 (ref08_Right.e k) := fn_ok (c := ref08_Right.cx k) (code := ref08_Right.body) (TT.of tt_ok pp_ok mm_ok) (fns_ok ⟨(ref08_one.ok k), (ref04_Compare.ok k), trivial⟩) mixed Tryz.func94 (by kernel_rfl) (by kernel_rfl) (by kernel_rfl) (by kernel_rfl) (by kernel_rfl) (by kernel_rfl) (fun x => by kernel_rfl)
noncomputable def ref24_Right.body : Go.Code := Tryz.f65.body.getD .skip
noncomputable def ref24_Right.rs : List Go.ResultVar := Tryz.f65.results.toList
def ref24_Right.regs : List (Nat × RInfo) := [(0, ⟨[1], [1], [0], [], 0, [], [], [], [], []⟩), (1, ri [2] [5,9,14])]
noncomputable def ref24_Right.cx (k : Nat) : Cx := ⟨tt, pp, [(95, (ref06_Right.e k)), (94, (ref08_Right.e k))], ref24_Right.regs, k, mm⟩
@[reducible] def ref24_Right.sg : Sg := ⟨[.dat tKnow], [], .dat .bool, []⟩
noncomputable def ref24_Right.f (k : Nat) (a0 : Ty.D tKnow) : Option (Sg.Out ref24_Right.sg) := Sg.fn ref24_Right.sg (ref24_Right.cx k) ref24_Right.body ref24_Right.rs a0
theorem ref24_Right.f_eq (k : Nat) (a0 : Ty.D tKnow) : ref24_Right.f k a0 = bnd (ref06_Right.f k a0.1) fun r0 => br r0 (bnd (ref08_Right.f k a0.2.1) fun r1 => br r1 (bnd (ref06_Right.f k a0.2.2) fun r2 => some r2) (some false)) (some false) := by kernel_rfl
noncomputable def ref24_Right.e (k : Nat) : Entry := Sg.entry ref24_Right.sg fun x => ref24_Right.f k x
theorem ref24_Right.ok (k : Nat) : CallOK Tryz.prog 65 (ref24_Right.e k) := fn_ok (c := ref24_Right.cx k) (code := ref24_Right.body) (TT.of tt_ok pp_ok mm_ok) (fns_ok ⟨(ref06_Right.ok k), (ref08_Right.ok k), trivial⟩) mixed Tryz.func65 (by kernel_rfl) (by kernel_rfl) (by kernel_rfl) (by kernel_rfl) (by kernel_rfl) (by kernel_rfl) (fun x => by kernel_rfl)
noncomputable def ref24_Good.body : Go.Code := Tryz.f20.body.getD .skip
noncomputable def ref24_Good.rs : List Go.ResultVar := Tryz.f20.results.toList
def ref24_Good.regs : List (Nat × RInfo) := [(0, ⟨[1], [1], [0], [], 0, [], [], [], [], []⟩), (1, ri [2] [4,7])]
noncomputable def ref24_Good.cx (k : Nat) : Cx := ⟨tt, pp, [(54, (ref24_Short.e k)), (65, (ref24_Right.e k))], ref24_Good.regs, k, mm⟩
@[reducible] def ref24_Good.sg : Sg := ⟨[.dat tKnow], [], .dat .bool, []⟩
noncomputable def ref24_Good.f (k : Nat) (a0 : Ty.D tKnow) : Option (Sg.Out ref24_Good.sg) := Sg.fn ref24_Good.sg (ref24_Good.cx k) ref24_Good.body ref24_Good.rs a0
theorem ref24_Good.f_eq (k : Nat) (a0 : Ty.D tKnow) : ref24_Good.f k a0 = bnd (ref24_Short.f k a0) fun r0 => br r0 (bnd (ref24_Right.f k a0) fun r1 => some r1) (some false) := by kernel_rfl
noncomputable def ref24_Good.e (k : Nat) : Entry := Sg.entry ref24_Good.sg fun x => ref24_Good.f k x
theorem ref24_Good.ok (k : Nat) : CallOK Tryz.prog 20 (ref24_Good.e k) := fn_ok (c := ref24_Good.cx k) (code := ref24_Good.body) (TT.of tt_ok pp_ok mm_ok) (fns_ok ⟨(ref24_Short.ok k), (ref24_Right.ok k), trivial⟩) mixed Tryz.func20 (by kernel_rfl) (by kernel_rfl) (by kernel_rfl) (by kernel_rfl) (by kernel_rfl) (by kernel_rfl) (fun x => by kernel_rfl)
noncomputable def peer_Peers_other.body : Go.Code := Tryz.f61.body.getD .skip
noncomputable def peer_Peers_other.rs : List Go.ResultVar := Tryz.f61.results.toList
def peer_Peers_other.regs : List (Nat × RInfo) := [(0, ri [0,1] [1000000]), (1, ri [4] [1000000])]
noncomputable def peer_Peers_other.cx (k : Nat) : Cx := ⟨tt, pp, [], peer_Peers_other.regs, k, mm⟩
@[reducible] def peer_Peers_other.sg : Sg := ⟨[.ref, .dat (.int .i64)], [tPeers], .dat .bool, [tPeers]⟩
noncomputable def peer_Peers_other.f (k : Nat) (a1 : Ty.D (.int .i64)) (o0 : Ty.D tPeers) : Option (Sg.Out peer_Peers_other.sg) := Sg.fn peer_Peers_other.sg (peer_Peers_other.cx k) peer_Peers_other.body peer_Peers_other.rs (a1, o0)
theorem peer_Peers_other.f_eq (k : Nat) (a1 : Ty.D (.int .i64)) (o0 : Ty.D tPeers) : peer_Peers_other.f k a1 o0 = br (ile 0 a1) (br (ilt a1 o0.2.1) (some ((bnot (ieq a1 o0.1)), o0)) (some (false, o0))) (some (false, o0)) := by kernel_rfl
noncomputable def peer_Peers_other.e (k : Nat) : Entry := Sg.entry peer_Peers_other.sg fun x => peer_Peers_other.f k x.1 x.2
theorem peer_Peers_other.ok (k : Nat) : CallOK Tryz.prog 61 (peer_Peers_other.e k) := fn_ok (c := peer_Peers_other.cx k) (code := peer_Peers_other.body) (TT.of tt_ok pp_ok mm_ok) (fns_ok trivial) mixed Tryz.func61 (by kernel_rfl) (by kernel_rfl) (by kernel_rfl) (by kernel_rfl) (by kernel_rfl) (by kernel_rfl) (fun x => by kernel_rfl)
noncomputable def vec_Right.body : Go.Code := Tryz.f152.body.getD .skip
noncomputable def vec_Right.rs : List Go.ResultVar := Tryz.f152.results.toList
def vec_Right.regs : List (Nat × RInfo) := [(0, ri [1] [1]), (1, ri [5,6] []), (2, ⟨[5, 6, 7], [], [], [], 0, [5, 6], [], [], [], []⟩), (3, ri [4,5,6] []), (4, ri [5,6,14] []), (5, ri [2] []), (6, ri [5,6] []), (7, ri [2] [])]
noncomputable def vec_Right.cx (k : Nat) : Cx := ⟨tt, pp, [], vec_Right.regs, k, mm⟩
@[reducible] def vec_Right.sg : Sg := ⟨[.dat tVec], [], .dat .bool, []⟩
noncomputable def vec_Right.f (k : Nat) (a0 : Ty.D tVec) : Option (Sg.Out vec_Right.sg) := Sg.fn vec_Right.sg (vec_Right.cx k) vec_Right.body vec_Right.rs a0
noncomputable def vec_Right.l2 (k : Nat) (n : Nat) (x5 : Ty.D tVec) (x6 : Ty.D (.int .i64)) : Option (Sg.Out vec_Right.sg) := loopAt (vec_Right.cx k) vec_Right.body [1, 0, 1, 0] 2 [5, 6] [] [] (Sg.K vec_Right.sg (vec_Right.cx k) vec_Right.rs) n ⟨[(5, .dat tVec x5), (6, .dat (.int .i64) x6)], []⟩
theorem vec_Right.f_eq (k : Nat) (a0 : Ty.D tVec) : vec_Right.f k a0 = vec_Right.l2 k k a0 0 := by kernel_rfl
theorem vec_Right.l2_eq (k : Nat) (n2 : Nat) (x5 : Ty.D tVec) (x6 : Ty.D (.int .i64)) : vec_Right.l2 k (n2 + 1) x5 x6 = br (ilt x6 16) (br (inB x6 16) (br (ilt (rd (.int .i64) x5 (natOf x6)) 0) (some false) (br (ilt 1048576 (rd (.int .i64) x5 (natOf x6))) (some false) (vec_Right.l2 k n2 x5 (iadd .i64 x6 1)))) none) (some true) := by kernel_rfl
noncomputable def vec_Right.e (k : Nat) : Entry := Sg.entry vec_Right.sg fun x => vec_Right.f k x
theorem vec_Right.ok (k : Nat) : CallOK Tryz.prog 152 (vec_Right.e k) := fn_ok (c := vec_Right.cx k) (code := vec_Right.body) (TT.of tt_ok pp_ok mm_ok) (fns_ok trivial) mixed Tryz.func152 (by kernel_rfl) (by kernel_rfl) (by kernel_rfl) (by kernel_rfl) (by kernel_rfl) (by kernel_rfl) (fun x => by kernel_rfl)
noncomputable def dots_Right.body : Go.Code := Tryz.f115.body.getD .skip
noncomputable def dots_Right.rs : List Go.ResultVar := Tryz.f115.results.toList
def dots_Right.regs : List (Nat × RInfo) := [(0, ⟨[1], [1], [0], [], 0, [], [], [], [], []⟩), (1, ri [1,14] [1]), (2, ri [2] []), (3, ri [1,16,17,18] [1]), (4, ⟨[1, 16, 17, 18, 19], [1], [], [], 0, [1, 16, 17, 18], [1], [], [], []⟩), (5, ri [1,3,4,16,17,18] [1,4]), (6, rq [1,16,17,18,51] [1] 29), (7, ri [2] []), (8, ri [1,16,17,18] [1]), (9, ri [2] [])]
noncomputable def dots_Right.cx (k : Nat) : Cx := ⟨tt, pp, [(152, (vec_Right.e k)), (113, (dot_Right.e k)), (123, (dot_Compare.e k))], dots_Right.regs, k, mm⟩
@[reducible] def dots_Right.sg : Sg := ⟨[.dat tDots], [], .dat .bool, []⟩
noncomputable def dots_Right.f (k : Nat) (a0 : Ty.D tDots) : Option (Sg.Out dots_Right.sg) := Sg.fn dots_Right.sg (dots_Right.cx k) dots_Right.body dots_Right.rs a0
noncomputable def dots_Right.l4 (k : Nat) (n : Nat) (x16 : Ty.D (.slc tDot)) (x17 : Ty.D (.int .i64)) (x18 : Ty.D (.int .i64)) (m1 : Ty.D tDots) : Option (Sg.Out dots_Right.sg) := loopAt (dots_Right.cx k) dots_Right.body [1, 1, 0, 1, 0] 4 [1, 16, 17, 18] [1] [] (Sg.K dots_Right.sg (dots_Right.cx k) dots_Right.rs) n ⟨[(1, .ref 1 []), (16, .dat (.slc tDot) x16), (17, .dat (.int .i64) x17), (18, .dat (.int .i64) x18)], [(1, .dat tDots m1)]⟩
theorem dots_Right.f_eq (k : Nat) (a0 : Ty.D tDots) : dots_Right.f k a0 = bnd (vec_Right.f k a0.1) fun r0 => br (bnot r0) (some false) (br (ilt 4096 (ilen a0.2)) (some false) (dots_Right.l4 k k a0.2 (ilen a0.2) 0 a0)) := by kernel_rfl
theorem dots_Right.l4_eq (k : Nat) (n4 : Nat) (x16 : Ty.D (.slc tDot)) (x17 : Ty.D (.int .i64)) (x18 : Ty.D (.int .i64)) (m1 : Ty.D tDots) : dots_Right.l4 k (n4 + 1) x16 x17 x18 m1 = br (ilt x18 x17) (br (inL x18 x16) (bnd (dot_Right.f k (rd tDot x16 (natOf x18))) fun r0 => br (bnot r0) (some false) (br (inB ((rd tDot x16 (natOf x18)).1) 16) (br (ile ((rd tDot x16 (natOf x18)).2) (iadd .i64 (rd (.int .i64) m1.1 (natOf ((rd tDot x16 (natOf x18)).1))) 1)) (some false) (br (ilt 0 x18) (br (inL (isub .i64 x18 1) m1.2) (bnd (dot_Compare.f k (rd tDot m1.2 (natOf (isub .i64 x18 1))) (rd tDot x16 (natOf x18))) fun r1 => br (ile 0 r1) (some false) (dots_Right.l4 k n4 x16 x17 (iadd .i64 x18 1) m1)) none) (dots_Right.l4 k n4 x16 x17 (iadd .i64 x18 1) m1))) none)) none) (some true) := by kernel_rfl
noncomputable def dots_Right.e (k : Nat) : Entry := Sg.entry dots_Right.sg fun x => dots_Right.f k x
theorem dots_Right.ok (k : Nat) : CallOK Tryz.prog 115 (dots_Right.e k) := fn_ok (c := dots_Right.cx k) (code := dots_Right.body) (TT.of tt_ok pp_ok mm_ok) (fns_ok ⟨(vec_Right.ok k), (dot_Right.ok k), (dot_Compare.ok k), trivial⟩) mixed Tryz.func115 (by kernel_rfl) (by kernel_rfl) (by kernel_rfl) (by kernel_rfl) (by kernel_rfl) (by kernel_rfl) (fun x => by kernel_rfl)
noncomputable def tally_compare.body : Go.Code := Tryz.f153.body.getD .skip
noncomputable def tally_compare.rs : List Go.ResultVar := Tryz.f153.results.toList
def tally_compare.regs : List (Nat × RInfo) := [(0, ri [2,3] [2,3]), (1, ri [4] [9])]
noncomputable def tally_compare.cx (k : Nat) : Cx := ⟨tt, pp, [(123, (dot_Compare.e k))], tally_compare.regs, k, mm⟩
@[reducible] def tally_compare.sg : Sg := ⟨[.dat tUndo, .dat tUndo], [], .dat (.int .i64), []⟩
noncomputable def tally_compare.f (k : Nat) (a0 : Ty.D tUndo) (a1 : Ty.D tUndo) : Option (Sg.Out tally_compare.sg) := Sg.fn tally_compare.sg (tally_compare.cx k) tally_compare.body tally_compare.rs (a0, a1)
theorem tally_compare.f_eq (k : Nat) (a0 : Ty.D tUndo) (a1 : Ty.D tUndo) : tally_compare.f k a0 a1 = bnd (dot_Compare.f k a0.1 a1.1) fun r0 => some r0 := by kernel_rfl
noncomputable def tally_compare.e (k : Nat) : Entry := Sg.entry tally_compare.sg fun x => tally_compare.f k x.1 x.2
theorem tally_compare.ok (k : Nat) : CallOK Tryz.prog 153 (tally_compare.e k) := fn_ok (c := tally_compare.cx k) (code := tally_compare.body) (TT.of tt_ok pp_ok mm_ok) (fns_ok ⟨(dot_Compare.ok k), trivial⟩) mixed Tryz.func153 (by kernel_rfl) (by kernel_rfl) (by kernel_rfl) (by kernel_rfl) (by kernel_rfl) (by kernel_rfl) (fun x => by kernel_rfl)
noncomputable def tally_Right.body : Go.Code := Tryz.f116.body.getD .skip
noncomputable def tally_Right.rs : List Go.ResultVar := Tryz.f116.results.toList
def tally_Right.regs : List (Nat × RInfo) := [(0, ri [0] []), (1, ri [0,5,6,7] []), (2, ⟨[0, 5, 6, 7, 8], [], [], [], 0, [0, 5, 6, 7], [], [], [], []⟩), (3, ri [0,3,4,5,6,7] [4]), (4, rq [0,5,6,7,39] [] 28), (5, ri [2] []), (6, ri [0,5,6,7] []), (7, ri [2] [])]
noncomputable def tally_Right.cx (k : Nat) : Cx := ⟨tt, pp, [(113, (dot_Right.e k)), (153, (tally_compare.e k))], tally_Right.regs, k, mm⟩
@[reducible] def tally_Right.sg : Sg := ⟨[.dat (.slc tUndo)], [], .dat .bool, []⟩
noncomputable def tally_Right.f (k : Nat) (a0 : Ty.D (.slc tUndo)) : Option (Sg.Out tally_Right.sg) := Sg.fn tally_Right.sg (tally_Right.cx k) tally_Right.body tally_Right.rs a0
noncomputable def tally_Right.l2 (k : Nat) (n : Nat) (x0 : Ty.D (.slc tUndo)) (x5 : Ty.D (.slc tUndo)) (x6 : Ty.D (.int .i64)) (x7 : Ty.D (.int .i64)) : Option (Sg.Out tally_Right.sg) := loopAt (tally_Right.cx k) tally_Right.body [1, 0, 1, 0] 2 [0, 5, 6, 7] [] [] (Sg.K tally_Right.sg (tally_Right.cx k) tally_Right.rs) n ⟨[(0, .dat (.slc tUndo) x0), (5, .dat (.slc tUndo) x5), (6, .dat (.int .i64) x6), (7, .dat (.int .i64) x7)], []⟩
theorem tally_Right.f_eq (k : Nat) (a0 : Ty.D (.slc tUndo)) : tally_Right.f k a0 = tally_Right.l2 k k a0 a0 (ilen a0) 0 := by kernel_rfl
theorem tally_Right.l2_eq (k : Nat) (n2 : Nat) (x0 : Ty.D (.slc tUndo)) (x5 : Ty.D (.slc tUndo)) (x6 : Ty.D (.int .i64)) (x7 : Ty.D (.int .i64)) : tally_Right.l2 k (n2 + 1) x0 x5 x6 x7 = br (ilt x7 x6) (br (inL x7 x5) (bnd (dot_Right.f k ((rd tUndo x5 (natOf x7)).1)) fun r0 => br (bnot r0) (some false) (br (ilt ((rd tUndo x5 (natOf x7)).2) 1) (some false) (br (ilt 64 ((rd tUndo x5 (natOf x7)).2)) (some false) (br (ilt 0 x7) (br (inL (isub .i64 x7 1) x0) (bnd (tally_compare.f k (rd tUndo x0 (natOf (isub .i64 x7 1))) (rd tUndo x5 (natOf x7))) fun r1 => br (ile 0 r1) (some false) (tally_Right.l2 k n2 x0 x5 x6 (iadd .i64 x7 1))) none) (tally_Right.l2 k n2 x0 x5 x6 (iadd .i64 x7 1)))))) none) (some true) := by kernel_rfl
noncomputable def tally_Right.e (k : Nat) : Entry := Sg.entry tally_Right.sg fun x => tally_Right.f k x
theorem tally_Right.ok (k : Nat) : CallOK Tryz.prog 116 (tally_Right.e k) := fn_ok (c := tally_Right.cx k) (code := tally_Right.body) (TT.of tt_ok pp_ok mm_ok) (fns_ok ⟨(dot_Right.ok k), (tally_compare.ok k), trivial⟩) mixed Tryz.func116 (by kernel_rfl) (by kernel_rfl) (by kernel_rfl) (by kernel_rfl) (by kernel_rfl) (by kernel_rfl) (fun x => by kernel_rfl)
noncomputable def delta_Right.body : Go.Code := Tryz.f72.body.getD .skip
noncomputable def delta_Right.rs : List Go.ResultVar := Tryz.f72.results.toList
def delta_Right.regs : List (Nat × RInfo) := [(0, ⟨[1], [1], [0], [], 0, [], [], [], [], []⟩), (1, ri [2] [5,9,14])]
noncomputable def delta_Right.cx (k : Nat) : Cx := ⟨tt, pp, [(115, (dots_Right.e k)), (116, (tally_Right.e k))], delta_Right.regs, k, mm⟩
@[reducible] def delta_Right.sg : Sg := ⟨[.dat tKnow], [], .dat .bool, []⟩
noncomputable def delta_Right.f (k : Nat) (a0 : Ty.D tKnow) : Option (Sg.Out delta_Right.sg) := Sg.fn delta_Right.sg (delta_Right.cx k) delta_Right.body delta_Right.rs a0
theorem delta_Right.f_eq (k : Nat) (a0 : Ty.D tKnow) : delta_Right.f k a0 = bnd (dots_Right.f k a0.1) fun r0 => br r0 (bnd (tally_Right.f k a0.2.1) fun r1 => br r1 (bnd (dots_Right.f k a0.2.2) fun r2 => some r2) (some false)) (some false) := by kernel_rfl
noncomputable def delta_Right.e (k : Nat) : Entry := Sg.entry delta_Right.sg fun x => delta_Right.f k x
theorem delta_Right.ok (k : Nat) : CallOK Tryz.prog 72 (delta_Right.e k) := fn_ok (c := delta_Right.cx k) (code := delta_Right.body) (TT.of tt_ok pp_ok mm_ok) (fns_ok ⟨(dots_Right.ok k), (tally_Right.ok k), trivial⟩) mixed Tryz.func72 (by kernel_rfl) (by kernel_rfl) (by kernel_rfl) (by kernel_rfl) (by kernel_rfl) (by kernel_rfl) (fun x => by kernel_rfl)
noncomputable def slices_Concat_api_Dot_api_Dot.body : Go.Code := Tryz.f134.body.getD .skip
noncomputable def slices_Concat_api_Dot_api_Dot.rs : List Go.ResultVar := Tryz.f134.results.toList
def slices_Concat_api_Dot_api_Dot.regs : List (Nat × RInfo) := [(0, ri [0] []), (1, ri [0,3] []), (2, ri [0,3,9,10,11] []), (3, ⟨[0, 3, 9, 10, 11, 12], [], [], [], 0, [0, 3, 9, 10, 11], [], [], [], []⟩), (4, ⟨[0, 3, 5, 9, 10, 11], [], [2], [], 0, [], [], [], [], []⟩), (5, ri [0,3,9,10,11] []), (6, ri [0,3,9,10,11,20] []), (7, ri [0,3,9,10,11] []), (8, ri [0,3,9,10,11] []), (9, ⟨[0, 6], [24], [2], [], 0, [], [], [], [], []⟩), (10, ri [6,25,26,27] [24]), (11, ⟨[6, 25, 26, 27, 28], [24], [], [], 0, [6, 25, 26, 27], [24], [], [], []⟩), (12, ⟨[6, 8, 25, 26, 27], [24], [2], [], 0, [], [], [], [], []⟩), (13, ⟨[6, 25, 26, 27], [24], [0, 2, 3], [], 0, [], [], [], [], []⟩), (14, ri [6,25,26,27] [24]), (15, ⟨[2], [24], [0, 1], [], 0, [], [], [], [], []⟩)]
noncomputable def slices_Concat_api_Dot_api_Dot.cx (k : Nat) : Cx := ⟨tt, pp, [(167, (growE tDot))], slices_Concat_api_Dot_api_Dot.regs, k, mm⟩
@[reducible] def slices_Concat_api_Dot_api_Dot.sg : Sg := ⟨[.dat (.slc (.slc tDot))], [], .raw tDot, []⟩
noncomputable def slices_Concat_api_Dot_api_Dot.f (k : Nat) (a0 : Ty.D (.slc (.slc tDot))) : Option (Sg.Out slices_Concat_api_Dot_api_Dot.sg) := Sg.fn slices_Concat_api_Dot_api_Dot.sg (slices_Concat_api_Dot_api_Dot.cx k) slices_Concat_api_Dot_api_Dot.body slices_Concat_api_Dot_api_Dot.rs a0
noncomputable def slices_Concat_api_Dot_api_Dot.l3 (k : Nat) (n : Nat) (x0 : Ty.D (.slc (.slc tDot))) (x3 : Ty.D (.int .i64)) (x9 : Ty.D (.slc (.slc tDot))) (x10 : Ty.D (.int .i64)) (x11 : Ty.D (.int .i64)) : Option (Sg.Out slices_Concat_api_Dot_api_Dot.sg) := loopAt (slices_Concat_api_Dot_api_Dot.cx k) slices_Concat_api_Dot_api_Dot.body [1, 1, 0, 1, 0] 3 [0, 3, 9, 10, 11] [] [] (Sg.K slices_Concat_api_Dot_api_Dot.sg (slices_Concat_api_Dot_api_Dot.cx k) slices_Concat_api_Dot_api_Dot.rs) n ⟨[(0, .dat (.slc (.slc tDot)) x0), (3, .dat (.int .i64) x3), (9, .dat (.slc (.slc tDot)) x9), (10, .dat (.int .i64) x10), (11, .dat (.int .i64) x11)], []⟩
noncomputable def slices_Concat_api_Dot_api_Dot.l11 (k : Nat) (n : Nat) (x6 : List (Ty.D tDot)) (x25 : Ty.D (.slc (.slc tDot))) (x26 : Ty.D (.int .i64)) (x27 : Ty.D (.int .i64)) : Option (Sg.Out slices_Concat_api_Dot_api_Dot.sg) := loopAt (slices_Concat_api_Dot_api_Dot.cx k) slices_Concat_api_Dot_api_Dot.body [1, 1, 1, 1, 0, 1, 0] 11 [6, 25, 26, 27] [24] [] (Sg.K slices_Concat_api_Dot_api_Dot.sg (slices_Concat_api_Dot_api_Dot.cx k) slices_Concat_api_Dot_api_Dot.rs) n ⟨[(6, .own tDot x6), (25, .dat (.slc (.slc tDot)) x25), (26, .dat (.int .i64) x26), (27, .dat (.int .i64) x27)], []⟩
theorem slices_Concat_api_Dot_api_Dot.f_eq (k : Nat) (a0 : Ty.D (.slc (.slc tDot))) : slices_Concat_api_Dot_api_Dot.f k a0 = slices_Concat_api_Dot_api_Dot.l3 k k a0 0 a0 (ilen a0) 0 := by kernel_rfl
theorem slices_Concat_api_Dot_api_Dot.l3_eq (k : Nat) (n3 : Nat) (x0 : Ty.D (.slc (.slc tDot))) (x3 : Ty.D (.int .i64)) (x9 : Ty.D (.slc (.slc tDot))) (x10 : Ty.D (.int .i64)) (x11 : Ty.D (.int .i64)) : slices_Concat_api_Dot_api_Dot.l3 k (n3 + 1) x0 x3 x9 x10 x11 = br (ilt x11 x10) (br (inL x11 x9) (br (ilt (iadd .i64 x3 (ilen (rd (.slc tDot) x9 (natOf x11)))) 0) none (slices_Concat_api_Dot_api_Dot.l3 k n3 x0 (iadd .i64 x3 (ilen (rd (.slc tDot) x9 (natOf x11)))) x9 x10 (iadd .i64 x11 1))) none) (br (ilt x3 0) none (br (ilt 4294967296 x3) none (br (room ([] : List Int) ([] : List Int)) (slices_Concat_api_Dot_api_Dot.l11 k k [] x0 (ilen x0) 0) none))) := by kernel_rfl
theorem slices_Concat_api_Dot_api_Dot.l11_eq (k : Nat) (n11 : Nat) (x6 : List (Ty.D tDot)) (x25 : Ty.D (.slc (.slc tDot))) (x26 : Ty.D (.int .i64)) (x27 : Ty.D (.int .i64)) : slices_Concat_api_Dot_api_Dot.l11 k (n11 + 1) x6 x25 x26 x27 = br (ilt x27 x26) (br (inL x27 x25) (br (room x6 (rd (.slc tDot) x25 (natOf x27))) (slices_Concat_api_Dot_api_Dot.l11 k n11 (app x6 (rd (.slc tDot) x25 (natOf x27))) x25 x26 (iadd .i64 x27 1)) none) none) (some x6) := by kernel_rfl
noncomputable def slices_Concat_api_Dot_api_Dot.e (k : Nat) : Entry := Sg.entry slices_Concat_api_Dot_api_Dot.sg fun x => slices_Concat_api_Dot_api_Dot.f k x
theorem slices_Concat_api_Dot_api_Dot.ok (k : Nat) : CallOK Tryz.prog 134 (slices_Concat_api_Dot_api_Dot.e k) := fn_ok (c := slices_Concat_api_Dot_api_Dot.cx k) (code := slices_Concat_api_Dot_api_Dot.body) (TT.of tt_ok pp_ok mm_ok) (fns_ok ⟨growDot_ok, trivial⟩) mixed Tryz.func134 (by kernel_rfl) (by kernel_rfl) (by kernel_rfl) (by kernel_rfl) (by kernel_rfl) (by kernel_rfl) (fun x => by kernel_rfl)
noncomputable def vec_Join_1.body : Go.Code := Tryz.f150.body.getD .skip
noncomputable def vec_Join_1.rs : List Go.ResultVar := Tryz.f150.results.toList
def vec_Join_1.regs : List (Nat × RInfo) := [(0, ri [0,1] []), (1, ri [4] [])]
noncomputable def vec_Join_1.cx (k : Nat) : Cx := ⟨tt, pp, [], vec_Join_1.regs, k, mm⟩
@[reducible] def vec_Join_1.sg : Sg := ⟨[.dat (.int .i64), .dat (.int .i64)], [], .dat (.int .i64), []⟩
noncomputable def vec_Join_1.f (k : Nat) (a0 : Ty.D (.int .i64)) (a1 : Ty.D (.int .i64)) : Option (Sg.Out vec_Join_1.sg) := Sg.fn vec_Join_1.sg (vec_Join_1.cx k) vec_Join_1.body vec_Join_1.rs (a0, a1)
theorem vec_Join_1.f_eq (k : Nat) (a0 : Ty.D (.int .i64)) (a1 : Ty.D (.int .i64)) : vec_Join_1.f k a0 a1 = some (imax a0 a1) := by kernel_rfl
noncomputable def vec_Join_1.e (k : Nat) : Entry := Sg.entry vec_Join_1.sg fun x => vec_Join_1.f k x.1 x.2
theorem vec_Join_1.ok (k : Nat) : CallOK Tryz.prog 150 (vec_Join_1.e k) := fn_ok (c := vec_Join_1.cx k) (code := vec_Join_1.body) (TT.of tt_ok pp_ok mm_ok) (fns_ok trivial) mixed Tryz.func150 (by kernel_rfl) (by kernel_rfl) (by kernel_rfl) (by kernel_rfl) (by kernel_rfl) (by kernel_rfl) (fun x => by kernel_rfl)
noncomputable def vec_both_vec_Join_1.body : Go.Code := Tryz.f149.body.getD .skip
noncomputable def vec_both_vec_Join_1.rs : List Go.ResultVar := Tryz.f149.results.toList
def vec_both_vec_Join_1.regs : List (Nat × RInfo) := [(0, ri [2,3,4,6] [3,4,6]), (1, ri [2,3,4,6,8] [3,4,6]), (2, ⟨[2, 3, 4, 6, 8, 9], [3, 4, 6], [], [], 0, [2, 3, 4, 6, 8], [3, 4, 6], [], [], []⟩), (3, ri [2,3,4,6,7,8] [3,4,6]), (4, ⟨[2, 3, 4, 6, 8], [3, 4, 6], [], [], 9, [], [], [], [[], [], [], [], [], [], [], [], [4, 7], [4, 7, 8], [4, 7, 8]], []⟩), (5, ri [2,3,4,6,8] [3,4,6]), (6, ri [6] [6])]
noncomputable def vec_both_vec_Join_1.cx (k : Nat) : Cx := ⟨tt, pp, [(150, (vec_Join_1.e k))], vec_both_vec_Join_1.regs, k, mm⟩
@[reducible] def vec_both_vec_Join_1.sg : Sg := ⟨[.dat tVec, .dat tVec, .fn 150 0], [], .dat tVec, []⟩
noncomputable def vec_both_vec_Join_1.f (k : Nat) (a0 : Ty.D tVec) (a1 : Ty.D tVec) : Option (Sg.Out vec_both_vec_Join_1.sg) := Sg.fn vec_both_vec_Join_1.sg (vec_both_vec_Join_1.cx k) vec_both_vec_Join_1.body vec_both_vec_Join_1.rs (a0, a1)
noncomputable def vec_both_vec_Join_1.l2 (k : Nat) (n : Nat) (x8 : Ty.D (.int .i64)) (m3 : Ty.D tVec) (m4 : Ty.D tVec) (m6 : Ty.D tVec) : Option (Sg.Out vec_both_vec_Join_1.sg) := loopAt (vec_both_vec_Join_1.cx k) vec_both_vec_Join_1.body [1, 0, 1, 0] 2 [2, 3, 4, 6, 8] [3, 4, 6] [] (Sg.K vec_both_vec_Join_1.sg (vec_both_vec_Join_1.cx k) vec_both_vec_Join_1.rs) n ⟨[(2, .fn 150 []), (3, .ref 3 []), (4, .ref 4 []), (6, .ref 6 []), (8, .dat (.int .i64) x8)], [(3, .dat tVec m3), (4, .dat tVec m4), (6, .dat tVec m6)]⟩
theorem vec_both_vec_Join_1.f_eq (k : Nat) (a0 : Ty.D tVec) (a1 : Ty.D tVec) : vec_both_vec_Join_1.f k a0 a1 = vec_both_vec_Join_1.l2 k k 0 a0 a1 (zarr 16 0) := by kernel_rfl
theorem vec_both_vec_Join_1.l2_eq (k : Nat) (n2 : Nat) (x8 : Ty.D (.int .i64)) (m3 : Ty.D tVec) (m4 : Ty.D tVec) (m6 : Ty.D tVec) : vec_both_vec_Join_1.l2 k (n2 + 1) x8 m3 m4 m6 = br (ilt x8 16) (br (inB x8 16) (br (inB x8 16) (bnd (vec_Join_1.f k (rd (.int .i64) m3 (natOf x8)) (rd (.int .i64) m4 (natOf x8))) fun r0 => br (inB x8 16) (vec_both_vec_Join_1.l2 k n2 (iadd .i64 x8 1) (upd m3 (natOf x8) r0) m4 m6) none) none) none) (some m3) := by kernel_rfl
noncomputable def vec_both_vec_Join_1.e (k : Nat) : Entry := Sg.entry vec_both_vec_Join_1.sg fun x => vec_both_vec_Join_1.f k x.1 x.2
theorem vec_both_vec_Join_1.ok (k : Nat) : CallOK Tryz.prog 149 (vec_both_vec_Join_1.e k) := fn_ok (c := vec_both_vec_Join_1.cx k) (code := vec_both_vec_Join_1.body) (TT.of tt_ok pp_ok mm_ok) (fns_ok ⟨(vec_Join_1.ok k), trivial⟩) mixed Tryz.func149 (by kernel_rfl) (by kernel_rfl) (by kernel_rfl) (by kernel_rfl) (by kernel_rfl) (by kernel_rfl) (fun x => by kernel_rfl)
noncomputable def vec_Join.body : Go.Code := Tryz.f112.body.getD .skip
noncomputable def vec_Join.rs : List Go.ResultVar := Tryz.f112.results.toList
def vec_Join.regs : List (Nat × RInfo) := [(0, ri [2,3,4] [2,3,4]), (1, ri [4] [4])]
noncomputable def vec_Join.cx (k : Nat) : Cx := ⟨tt, pp, [(149, (vec_both_vec_Join_1.e k)), (150, (vec_Join_1.e k))], vec_Join.regs, k, mm⟩
@[reducible] def vec_Join.sg : Sg := ⟨[.dat tVec, .dat tVec], [], .dat tVec, []⟩
noncomputable def vec_Join.f (k : Nat) (a0 : Ty.D tVec) (a1 : Ty.D tVec) : Option (Sg.Out vec_Join.sg) := Sg.fn vec_Join.sg (vec_Join.cx k) vec_Join.body vec_Join.rs (a0, a1)
theorem vec_Join.f_eq (k : Nat) (a0 : Ty.D tVec) (a1 : Ty.D tVec) : vec_Join.f k a0 a1 = bnd (vec_both_vec_Join_1.f k a0 a1) fun r0 => some r0 := by kernel_rfl
noncomputable def vec_Join.e (k : Nat) : Entry := Sg.entry vec_Join.sg fun x => vec_Join.f k x.1 x.2
theorem vec_Join.ok (k : Nat) : CallOK Tryz.prog 112 (vec_Join.e k) := fn_ok (c := vec_Join.cx k) (code := vec_Join.body) (TT.of tt_ok pp_ok mm_ok) (fns_ok ⟨(vec_both_vec_Join_1.ok k), (vec_Join_1.ok k), trivial⟩) mixed Tryz.func112 (by kernel_rfl) (by kernel_rfl) (by kernel_rfl) (by kernel_rfl) (by kernel_rfl) (by kernel_rfl) (fun x => by kernel_rfl)
noncomputable def dots_made.body : Go.Code := Tryz.f136.body.getD .skip
noncomputable def dots_made.rs : List Go.ResultVar := Tryz.f136.results.toList
def dots_made.regs : List (Nat × RInfo) := [(0, ri [1,2,4] [2,4]), (1, ⟨[1, 4, 5], [4, 5], [3], [], 0, [], [], [], [], []⟩), (2, ri [4,5,10,11,12] [4,5]), (3, ⟨[4, 5, 10, 11, 12, 13], [4, 5], [], [], 0, [4, 5, 10, 11, 12], [4, 5], [], [], []⟩), (4, ri [4,5,7,10,11,12] [4,5,7]), (5, rq [4,5,7,10,11,12,16] [4,5,7] 9), (6, rq [4,5,7,10,11,12,25] [4,5,7] 10), (7, ri [4,5,10,11,12] [4,5]), (8, rq [4,5,7,10,11,12,41] [4,5,7] 17), (9, ⟨[4, 5, 10, 11, 12], [4, 5], [1, 4, 6], [], 0, [], [], [], [], []⟩), (10, ri [4,5,10,11,12] [4,5]), (11, ⟨[4], [4], [1], [], 0, [], [], [], [], []⟩)]
noncomputable def dots_made.cx (k : Nat) : Cx := ⟨tt, pp, [], dots_made.regs, k, mm⟩
@[reducible] def dots_made.sg : Sg := ⟨[.dat tVec, .dat (.slc tDot)], [], .dat tDots, []⟩
noncomputable def dots_made.f (k : Nat) (a0 : Ty.D tVec) (a1 : Ty.D (.slc tDot)) : Option (Sg.Out dots_made.sg) := Sg.fn dots_made.sg (dots_made.cx k) dots_made.body dots_made.rs (a0, a1)
noncomputable def dots_made.l3 (k : Nat) (n : Nat) (x10 : Ty.D (.slc tDot)) (x11 : Ty.D (.int .i64)) (x12 : Ty.D (.int .i64)) (m4a : Ty.D tVec) (m4b : List (Ty.D tDot)) (m5a : Ty.D tVec) (m5b : List (Ty.D tDot)) : Option (Sg.Out dots_made.sg) := loopAt (dots_made.cx k) dots_made.body [1, 1, 0, 1, 0] 3 [4, 5, 10, 11, 12] [4, 5] [] (Sg.K dots_made.sg (dots_made.cx k) dots_made.rs) n ⟨[(4, .ref 4 []), (5, .ref 5 []), (10, .dat (.slc tDot) x10), (11, .dat (.int .i64) x11), (12, .dat (.int .i64) x12)], [(4, .pr (.dat tVec m4a) (.own tDot m4b)), (5, .pr (.dat tVec m5a) (.own tDot m5b))]⟩
theorem dots_made.f_eq (k : Nat) (a0 : Ty.D tVec) (a1 : Ty.D (.slc tDot)) : dots_made.f k a0 a1 = dots_made.l3 k k a1 (ilen a1) 0 (zarr 16 0) [] a0 [] := by kernel_rfl
theorem dots_made.l3_eq (k : Nat) (n3 : Nat) (x10 : Ty.D (.slc tDot)) (x11 : Ty.D (.int .i64)) (x12 : Ty.D (.int .i64)) (m4a : Ty.D tVec) (m4b : List (Ty.D tDot)) (m5a : Ty.D tVec) (m5b : List (Ty.D tDot)) : dots_made.l3 k (n3 + 1) x10 x11 x12 m4a m4b m5a m5b = br (ilt x12 x11) (br (inL x12 x10) (br (inB ((rd tDot x10 (natOf x12)).1) 16) (br (ile ((rd tDot x10 (natOf x12)).2) (rd (.int .i64) m5a (natOf ((rd tDot x10 (natOf x12)).1)))) (dots_made.l3 k n3 x10 x11 (iadd .i64 x12 1) m4a m4b m5a m5b) (br (inB ((rd tDot x10 (natOf x12)).1) 16) (br (ieq ((rd tDot x10 (natOf x12)).2) (iadd .i64 (rd (.int .i64) m5a (natOf ((rd tDot x10 (natOf x12)).1))) 1)) (br (inB ((rd tDot x10 (natOf x12)).1) 16) (dots_made.l3 k n3 x10 x11 (iadd .i64 x12 1) m4a m4b (upd m5a (natOf ((rd tDot x10 (natOf x12)).1)) ((rd tDot x10 (natOf x12)).2)) m5b) none) (br (ieq (ilen m5b) 0) (br (room m5b ((rd tDot x10 (natOf x12)) :: [])) (dots_made.l3 k n3 x10 x11 (iadd .i64 x12 1) m4a m4b m5a (app m5b ((rd tDot x10 (natOf x12)) :: []))) none) (br (inL (isub .i64 (ilen m5b) 1) m5b) (br (bnot (deq tDot (rd tDot m5b (natOf (isub .i64 (ilen m5b) 1))) (rd tDot x10 (natOf x12)))) (br (room m5b ((rd tDot x10 (natOf x12)) :: [])) (dots_made.l3 k n3 x10 x11 (iadd .i64 x12 1) m4a m4b m5a (app m5b ((rd tDot x10 (natOf x12)) :: []))) none) (dots_made.l3 k n3 x10 x11 (iadd .i64 x12 1) m4a m4b m5a m5b)) none))) none)) none) none) (some (m5a, m5b)) := by kernel_rfl
noncomputable def dots_made.e (k : Nat) : Entry := Sg.entry dots_made.sg fun x => dots_made.f k x.1 x.2
theorem dots_made.ok (k : Nat) : CallOK Tryz.prog 136 (dots_made.e k) := fn_ok (c := dots_made.cx k) (code := dots_made.body) (TT.of tt_ok pp_ok mm_ok) (fns_ok trivial) mixed Tryz.func136 (by kernel_rfl) (by kernel_rfl) (by kernel_rfl) (by kernel_rfl) (by kernel_rfl) (by kernel_rfl) (fun x => by kernel_rfl)
noncomputable def dots_Union.body : Go.Code := Tryz.f99.body.getD .skip
noncomputable def dots_Union.rs : List Go.ResultVar := Tryz.f99.results.toList
def dots_Union.regs : List (Nat × RInfo) := [(0, ⟨[2, 3, 4], [2, 3, 4], [0, 1], [], 0, [], [], [0, 1], [], []⟩), (1, ⟨[2, 3, 4, 5], [2, 3, 4, 11], [6], [], 0, [], [], [2, 3], [], []⟩), (2, ⟨[2, 3, 4, 5], [2, 3, 4, 11], [0, 1], [0], 0, [], [], [], [], []⟩), (3, ⟨[4], [4], [7], [], 0, [], [], [2, 3, 5, 4], [], []⟩)]
noncomputable def dots_Union.cx (k : Nat) : Cx := ⟨tt, pp, [(134, (slices_Concat_api_Dot_api_Dot.e k)), (135, (sortE tDot 123 dotLt)), (123, (dot_Compare.e k)), (112, (vec_Join.e k)), (136, (dots_made.e k))], dots_Union.regs, k, mm⟩
@[reducible] def dots_Union.sg : Sg := ⟨[.dat tDots, .dat tDots], [], .dat tDots, []⟩
noncomputable def dots_Union.f (k : Nat) (a0 : Ty.D tDots) (a1 : Ty.D tDots) : Option (Sg.Out dots_Union.sg) := Sg.fn dots_Union.sg (dots_Union.cx k) dots_Union.body dots_Union.rs (a0, a1)
theorem dots_Union.f_eq (k : Nat) (a0 : Ty.D tDots) (a1 : Ty.D tDots) : dots_Union.f k a0 a1 = bnd (slices_Concat_api_Dot_api_Dot.f k (a0.2 :: (a1.2 :: []))) fun r0 => br (room ([] : List Int) r0) (bnd (vec_Join.f k a0.1 a1.1) fun r1 => bnd (dots_made.f k r1 (isort dotLt r0)) fun r2 => some r2) none := by kernel_rfl
noncomputable def dots_Union.e (k : Nat) : Entry := Sg.entry dots_Union.sg fun x => dots_Union.f k x.1 x.2
theorem dots_Union.ok (k : Nat) : CallOK Tryz.prog 99 (dots_Union.e k) := fn_ok (c := dots_Union.cx k) (code := dots_Union.body) (TT.of tt_ok pp_ok mm_ok) (fns_ok ⟨(slices_Concat_api_Dot_api_Dot.ok k), sortDot_ok, (dot_Compare.ok k), (vec_Join.ok k), (dots_made.ok k), trivial⟩) mixed Tryz.func99 (by kernel_rfl) (by kernel_rfl) (by kernel_rfl) (by kernel_rfl) (by kernel_rfl) (by kernel_rfl) (fun x => by kernel_rfl)
noncomputable def tally_Join.body : Go.Code := Tryz.f117.body.getD .skip
noncomputable def tally_Join.rs : List Go.ResultVar := Tryz.f117.results.toList
def tally_Join.regs : List (Nat × RInfo) := [(0, ri [0,1] []), (1, ri [0,1,5] []), (2, ⟨[0, 1, 5, 14], [], [], [], 0, [0, 1, 5], [], [], [], []⟩), (3, ri [0,1,5,6] [29]), (4, ri [0,1,5,6,15] [29]), (5, ri [0,1,5,6] [29]), (6, ri [0,1,5,6,19] [29]), (7, rq [0,1,5,6] [29] 7), (10, ri [0,1,5,6,51] [29]), (11, ⟨[0, 1, 5], [], [0, 5, 8, 9], [], 9, [], [], [], [], []⟩), (12, ri [0,1,5,62] []), (13, ⟨[0, 1, 5], [], [0, 5, 8, 9], [], 9, [], [], [], [], []⟩), (8, ⟨[0, 1, 5], [], [0, 16, 17], [], 17, [], [], [], [], []⟩), (9, ⟨[0, 1, 5], [], [4, 5], [], 5, [], [], [], [], []⟩), (14, ⟨[4], [], [0, 1], [], 0, [], [], [], [], []⟩)]
noncomputable def tally_Join.cx (k : Nat) : Cx := ⟨tt, pp, [(153, (tally_compare.e k))], tally_Join.regs, k, mm⟩
@[reducible] def tally_Join.sg : Sg := ⟨[.dat (.slc tUndo), .dat (.slc tUndo)], [], .own tUndo, []⟩
noncomputable def tally_Join.f (k : Nat) (a0 : Ty.D (.slc tUndo)) (a1 : Ty.D (.slc tUndo)) : Option (Sg.Out tally_Join.sg) := Sg.fn tally_Join.sg (tally_Join.cx k) tally_Join.body tally_Join.rs (a0, a1)
noncomputable def tally_Join.l2 (k : Nat) (n : Nat) (x0 : Ty.D (.slc tUndo)) (x1 : Ty.D (.slc tUndo)) (x5 : List (Ty.D tUndo)) : Option (Sg.Out tally_Join.sg) := loopAt (tally_Join.cx k) tally_Join.body [1, 1, 0, 0] 2 [0, 1, 5] [] [] (Sg.K tally_Join.sg (tally_Join.cx k) tally_Join.rs) n ⟨[(0, .dat (.slc tUndo) x0), (1, .dat (.slc tUndo) x1), (5, .own tUndo x5)], []⟩
theorem tally_Join.f_eq (k : Nat) (a0 : Ty.D (.slc tUndo)) (a1 : Ty.D (.slc tUndo)) : tally_Join.f k a0 a1 = tally_Join.l2 k k a0 a1 [] := by kernel_rfl
theorem tally_Join.l2_eq (k : Nat) (n2 : Nat) (x0 : Ty.D (.slc tUndo)) (x1 : Ty.D (.slc tUndo)) (x5 : List (Ty.D tUndo)) : tally_Join.l2 k (n2 + 1) x0 x1 x5 = br (ilt 0 (ilen x0)) (br (ieq (ilen x0) 0) (br (inL 0 x1) (br (room x5 ((rd tUndo x1 (natOf 0)) :: [])) (br (inS 1 (ilen x1) (ilen x1)) (tally_Join.l2 k n2 x0 (piece x1 1 (ilen x1)) (app x5 ((rd tUndo x1 (natOf 0)) :: []))) none) none) none) (br (ilt 0 (ilen x1)) (br (inL 0 x0) (br (inL 0 x1) (bnd (tally_compare.f k (rd tUndo x0 (natOf 0)) (rd tUndo x1 (natOf 0))) fun r0 => br (ilt r0 0) (br (inL 0 x0) (br (room x5 ((rd tUndo x0 (natOf 0)) :: [])) (br (inS 1 (ilen x0) (ilen x0)) (tally_Join.l2 k n2 (piece x0 1 (ilen x0)) x1 (app x5 ((rd tUndo x0 (natOf 0)) :: []))) none) none) none) (br (ilt 0 r0) (br (inL 0 x1) (br (room x5 ((rd tUndo x1 (natOf 0)) :: [])) (br (inS 1 (ilen x1) (ilen x1)) (tally_Join.l2 k n2 x0 (piece x1 1 (ilen x1)) (app x5 ((rd tUndo x1 (natOf 0)) :: []))) none) none) none) (br (inL 0 x0) (br (inL 0 x0) (br (inL 0 x1) (br (room x5 (((rd tUndo x0 (natOf 0)).1, (imax ((rd tUndo x0 (natOf 0)).2) ((rd tUndo x1 (natOf 0)).2))) :: [])) (br (inS 1 (ilen x0) (ilen x0)) (br (inS 1 (ilen x1) (ilen x1)) (tally_Join.l2 k n2 (piece x0 1 (ilen x0)) (piece x1 1 (ilen x1)) (app x5 (((rd tUndo x0 (natOf 0)).1, (imax ((rd tUndo x0 (natOf 0)).2) ((rd tUndo x1 (natOf 0)).2))) :: []))) none) none) none) none) none) none))) none) none) (br (inL 0 x0) (br (room x5 ((rd tUndo x0 (natOf 0)) :: [])) (br (inS 1 (ilen x0) (ilen x0)) (tally_Join.l2 k n2 (piece x0 1 (ilen x0)) x1 (app x5 ((rd tUndo x0 (natOf 0)) :: []))) none) none) none))) (br (ilt 0 (ilen x1)) (br (ieq (ilen x0) 0) (br (inL 0 x1) (br (room x5 ((rd tUndo x1 (natOf 0)) :: [])) (br (inS 1 (ilen x1) (ilen x1)) (tally_Join.l2 k n2 x0 (piece x1 1 (ilen x1)) (app x5 ((rd tUndo x1 (natOf 0)) :: []))) none) none) none) (br (ilt 0 (ilen x1)) (br (inL 0 x0) (br (inL 0 x1) (bnd (tally_compare.f k (rd tUndo x0 (natOf 0)) (rd tUndo x1 (natOf 0))) fun r1 => br (ilt r1 0) (br (inL 0 x0) (br (room x5 ((rd tUndo x0 (natOf 0)) :: [])) (br (inS 1 (ilen x0) (ilen x0)) (tally_Join.l2 k n2 (piece x0 1 (ilen x0)) x1 (app x5 ((rd tUndo x0 (natOf 0)) :: []))) none) none) none) (br (ilt 0 r1) (br (inL 0 x1) (br (room x5 ((rd tUndo x1 (natOf 0)) :: [])) (br (inS 1 (ilen x1) (ilen x1)) (tally_Join.l2 k n2 x0 (piece x1 1 (ilen x1)) (app x5 ((rd tUndo x1 (natOf 0)) :: []))) none) none) none) (br (inL 0 x0) (br (inL 0 x0) (br (inL 0 x1) (br (room x5 (((rd tUndo x0 (natOf 0)).1, (imax ((rd tUndo x0 (natOf 0)).2) ((rd tUndo x1 (natOf 0)).2))) :: [])) (br (inS 1 (ilen x0) (ilen x0)) (br (inS 1 (ilen x1) (ilen x1)) (tally_Join.l2 k n2 (piece x0 1 (ilen x0)) (piece x1 1 (ilen x1)) (app x5 (((rd tUndo x0 (natOf 0)).1, (imax ((rd tUndo x0 (natOf 0)).2) ((rd tUndo x1 (natOf 0)).2))) :: []))) none) none) none) none) none) none))) none) none) (br (inL 0 x0) (br (room x5 ((rd tUndo x0 (natOf 0)) :: [])) (br (inS 1 (ilen x0) (ilen x0)) (tally_Join.l2 k n2 (piece x0 1 (ilen x0)) x1 (app x5 ((rd tUndo x0 (natOf 0)) :: []))) none) none) none))) (some x5)) := by kernel_rfl
noncomputable def tally_Join.e (k : Nat) : Entry := Sg.entry tally_Join.sg fun x => tally_Join.f k x.1 x.2
theorem tally_Join.ok (k : Nat) : CallOK Tryz.prog 117 (tally_Join.e k) := fn_ok (c := tally_Join.cx k) (code := tally_Join.body) (TT.of tt_ok pp_ok mm_ok) (fns_ok ⟨(tally_compare.ok k), trivial⟩) mixed Tryz.func117 (by kernel_rfl) (by kernel_rfl) (by kernel_rfl) (by kernel_rfl) (by kernel_rfl) (by kernel_rfl) (fun x => by kernel_rfl)
noncomputable def delta_Join.body : Go.Code := Tryz.f73.body.getD .skip
noncomputable def delta_Join.rs : List Go.ResultVar := Tryz.f73.results.toList
def delta_Join.regs : List (Nat × RInfo) := [(0, ⟨[2, 3, 4], [2, 3, 4], [0, 1], [], 0, [], [], [], [], []⟩), (1, ⟨[4], [4], [16], [], 16, [], [], [], [[], [], [], [], [1, 3], [], [], [], [], [6, 8, 1, 3], [], [], [], [], [11, 13, 6, 8, 1, 3], [1, 3, 6, 8, 11, 13], [1, 3, 6, 8, 11, 13]], []⟩)]
noncomputable def delta_Join.cx (k : Nat) : Cx := ⟨tt, pp, [(99, (dots_Union.e k)), (117, (tally_Join.e k))], delta_Join.regs, k, mm⟩
@[reducible] def delta_Join.sg : Sg := ⟨[.dat tKnow, .dat tKnow], [], .dat tKnow, []⟩
noncomputable def delta_Join.f (k : Nat) (a0 : Ty.D tKnow) (a1 : Ty.D tKnow) : Option (Sg.Out delta_Join.sg) := Sg.fn delta_Join.sg (delta_Join.cx k) delta_Join.body delta_Join.rs (a0, a1)
theorem delta_Join.f_eq (k : Nat) (a0 : Ty.D tKnow) (a1 : Ty.D tKnow) : delta_Join.f k a0 a1 = bnd (dots_Union.f k a0.1 a1.1) fun r0 => bnd (tally_Join.f k a0.2.1 a1.2.1) fun r1 => bnd (dots_Union.f k a0.2.2 a1.2.2) fun r2 => some (r0, (r1, r2)) := by kernel_rfl
noncomputable def delta_Join.e (k : Nat) : Entry := Sg.entry delta_Join.sg fun x => delta_Join.f k x.1 x.2
theorem delta_Join.ok (k : Nat) : CallOK Tryz.prog 73 (delta_Join.e k) := fn_ok (c := delta_Join.cx k) (code := delta_Join.body) (TT.of tt_ok pp_ok mm_ok) (fns_ok ⟨(dots_Union.ok k), (tally_Join.ok k), trivial⟩) mixed Tryz.func73 (by kernel_rfl) (by kernel_rfl) (by kernel_rfl) (by kernel_rfl) (by kernel_rfl) (by kernel_rfl) (fun x => by kernel_rfl)
noncomputable def peer_Peers_Heard.body : Go.Code := Tryz.f28.body.getD .skip
noncomputable def peer_Peers_Heard.rs : List Go.ResultVar := Tryz.f28.results.toList
def peer_Peers_Heard.regs : List (Nat × RInfo) := [(0, ⟨[0, 1, 5], [5, 1000000], [0], [], 0, [], [], [], [], []⟩), (1, ri [0,1,5,7] [5,1000000]), (2, ri [6] [1000000]), (3, ri [0,1,5,10] [5,1000000]), (4, ri [6] [1000000]), (5, ⟨[], [1000000], [13], [], 14, [], [], [], [[], [], [], [], [], [], [], [], [], [7, 8], [], [], [7, 8], [7, 8]], []⟩), (6, ri [6] [1000000])]
noncomputable def peer_Peers_Heard.cx (k : Nat) : Cx := ⟨tt, pp, [(61, (peer_Peers_other.e k)), (72, (delta_Right.e k)), (73, (delta_Join.e k))], peer_Peers_Heard.regs, k, mm⟩
@[reducible] def peer_Peers_Heard.sg : Sg := ⟨[.ref, .dat (.int .i64), .dat tKnow], [tPeers], .dat (.int .i64), [tPeers]⟩
noncomputable def peer_Peers_Heard.f (k : Nat) (a1 : Ty.D (.int .i64)) (a2 : Ty.D tKnow) (o0 : Ty.D tPeers) : Option (Sg.Out peer_Peers_Heard.sg) := Sg.fn peer_Peers_Heard.sg (peer_Peers_Heard.cx k) peer_Peers_Heard.body peer_Peers_Heard.rs (a1, a2, o0)
theorem peer_Peers_Heard.f_eq (k : Nat) (a1 : Ty.D (.int .i64)) (a2 : Ty.D tKnow) (o0 : Ty.D tPeers) : peer_Peers_Heard.f k a1 a2 o0 = bnd (peer_Peers_other.f k a1 o0) fun r0 => br (bnot r0.1) (some (2, r0.2)) (bnd (delta_Right.f k a2) fun r1 => br (bnot r1) (some (2, r0.2)) (br (inB a1 16) (bnd (delta_Join.f k (rd tKnow r0.2.2.2 (natOf a1)) a2) fun r2 => br (inB a1 16) (some (0, (r0.2.1, (r0.2.2.1, (upd r0.2.2.2 (natOf a1) r2))))) none) none)) := by kernel_rfl
noncomputable def peer_Peers_Heard.e (k : Nat) : Entry := Sg.entry peer_Peers_Heard.sg fun x => peer_Peers_Heard.f k x.1 x.2.1 x.2.2
theorem peer_Peers_Heard.ok (k : Nat) : CallOK Tryz.prog 28 (peer_Peers_Heard.e k) := fn_ok (c := peer_Peers_Heard.cx k) (code := peer_Peers_Heard.body) (TT.of tt_ok pp_ok mm_ok) (fns_ok ⟨(peer_Peers_other.ok k), (delta_Right.ok k), (delta_Join.ok k), trivial⟩) mixed Tryz.func28 (by kernel_rfl) (by kernel_rfl) (by kernel_rfl) (by kernel_rfl) (by kernel_rfl) (by kernel_rfl) (fun x => by kernel_rfl)
noncomputable def ref29_Peers_Other.body : Go.Code := Tryz.f18.body.getD .skip
noncomputable def ref29_Peers_Other.rs : List Go.ResultVar := Tryz.f18.results.toList
def ref29_Peers_Other.regs : List (Nat × RInfo) := [(0, ri [0,1] [1000000]), (1, ri [4] [1000000])]
noncomputable def ref29_Peers_Other.cx (k : Nat) : Cx := ⟨tt, pp, [], ref29_Peers_Other.regs, k, mm⟩
@[reducible] def ref29_Peers_Other.sg : Sg := ⟨[.ref, .dat (.int .i64)], [tPeers], .dat .bool, [tPeers]⟩
noncomputable def ref29_Peers_Other.f (k : Nat) (a1 : Ty.D (.int .i64)) (o0 : Ty.D tPeers) : Option (Sg.Out ref29_Peers_Other.sg) := Sg.fn ref29_Peers_Other.sg (ref29_Peers_Other.cx k) ref29_Peers_Other.body ref29_Peers_Other.rs (a1, o0)
theorem ref29_Peers_Other.f_eq (k : Nat) (a1 : Ty.D (.int .i64)) (o0 : Ty.D tPeers) : ref29_Peers_Other.f k a1 o0 = br (ile 0 a1) (br (ilt a1 o0.2.1) (some ((bnot (ieq a1 o0.1)), o0)) (some (false, o0))) (some (false, o0)) := by kernel_rfl
noncomputable def ref29_Peers_Other.e (k : Nat) : Entry := Sg.entry ref29_Peers_Other.sg fun x => ref29_Peers_Other.f k x.1 x.2
theorem ref29_Peers_Other.ok (k : Nat) : CallOK Tryz.prog 18 (ref29_Peers_Other.e k) := fn_ok (c := ref29_Peers_Other.cx k) (code := ref29_Peers_Other.body) (TT.of tt_ok pp_ok mm_ok) (fns_ok trivial) mixed Tryz.func18 (by kernel_rfl) (by kernel_rfl) (by kernel_rfl) (by kernel_rfl) (by kernel_rfl) (by kernel_rfl) (fun x => by kernel_rfl)
noncomputable def ref05_Join.body : Go.Code := Tryz.f172.body.getD .skip
noncomputable def ref05_Join.rs : List Go.ResultVar := Tryz.f172.results.toList
def ref05_Join.regs : List (Nat × RInfo) := [(0, ri [2,3,4] [2,3,4]), (1, ri [2,3,4,5] [2,3,4,5]), (2, ri [2,3,4,5,6] [2,3,4,5]), (3, ⟨[2, 3, 4, 5, 6, 9], [2, 3, 4, 5], [], [], 0, [2, 3, 4, 5, 6], [2, 3, 4, 5], [], [], []⟩), (5, rq [2,3,4,5,6,18] [2,3,4,5] 7), (6, ri [2,3,4,5,6] [2,3,4,5]), (4, ri [2,3,4,5,6] [2,3,4,5]), (7, ri [4] [4])]
noncomputable def ref05_Join.cx (k : Nat) : Cx := ⟨tt, pp, [], ref05_Join.regs, k, mm⟩
@[reducible] def ref05_Join.sg : Sg := ⟨[.dat tVec, .dat tVec], [], .dat tVec, []⟩
noncomputable def ref05_Join.f (k : Nat) (a0 : Ty.D tVec) (a1 : Ty.D tVec) : Option (Sg.Out ref05_Join.sg) := Sg.fn ref05_Join.sg (ref05_Join.cx k) ref05_Join.body ref05_Join.rs (a0, a1)
noncomputable def ref05_Join.l3 (k : Nat) (n : Nat) (x6 : Ty.D (.int .i64)) (m2 : Ty.D tVec) (m3 : Ty.D tVec) (m4 : Ty.D tVec) (m5 : Ty.D tVec) : Option (Sg.Out ref05_Join.sg) := loopAt (ref05_Join.cx k) ref05_Join.body [1, 1, 0, 1, 0] 3 [2, 3, 4, 5, 6] [2, 3, 4, 5] [] (Sg.K ref05_Join.sg (ref05_Join.cx k) ref05_Join.rs) n ⟨[(2, .ref 2 []), (3, .ref 3 []), (4, .ref 4 []), (5, .ref 5 []), (6, .dat (.int .i64) x6)], [(2, .dat tVec m2), (3, .dat tVec m3), (4, .dat tVec m4), (5, .dat tVec m5)]⟩
theorem ref05_Join.f_eq (k : Nat) (a0 : Ty.D tVec) (a1 : Ty.D tVec) : ref05_Join.f k a0 a1 = ref05_Join.l3 k k 0 a0 a1 (zarr 16 0) a0 := by kernel_rfl
theorem ref05_Join.l3_eq (k : Nat) (n3 : Nat) (x6 : Ty.D (.int .i64)) (m2 : Ty.D tVec) (m3 : Ty.D tVec) (m4 : Ty.D tVec) (m5 : Ty.D tVec) : ref05_Join.l3 k (n3 + 1) x6 m2 m3 m4 m5 = br (ilt x6 16) (br (inB x6 16) (br (inB x6 16) (br (ilt (rd (.int .i64) m2 (natOf x6)) (rd (.int .i64) m3 (natOf x6))) (br (inB x6 16) (br (inB x6 16) (ref05_Join.l3 k n3 (iadd .i64 x6 1) m2 m3 m4 (upd m5 (natOf x6) (rd (.int .i64) m3 (natOf x6)))) none) none) (ref05_Join.l3 k n3 (iadd .i64 x6 1) m2 m3 m4 m5)) none) none) (some m5) := by kernel_rfl
noncomputable def ref05_Join.e (k : Nat) : Entry := Sg.entry ref05_Join.sg fun x => ref05_Join.f k x.1 x.2
theorem ref05_Join.ok (k : Nat) : CallOK Tryz.prog 172 (ref05_Join.e k) := fn_ok (c := ref05_Join.cx k) (code := ref05_Join.body) (TT.of tt_ok pp_ok mm_ok) (fns_ok trivial) mixed Tryz.func172 (by kernel_rfl) (by kernel_rfl) (by kernel_rfl) (by kernel_rfl) (by kernel_rfl) (by kernel_rfl) (fun x => by kernel_rfl)
noncomputable def ref06_filled.body : Go.Code := Tryz.f166.body.getD .skip
noncomputable def ref06_filled.rs : List Go.ResultVar := Tryz.f166.results.toList
def ref06_filled.regs : List (Nat × RInfo) := [(0, ⟨[1, 2], [1, 2], [0], [], 0, [], [], [], [], []⟩), (1, ⟨[1, 2, 3], [1, 2, 3], [4], [], 0, [], [], [], [], []⟩), (2, ri [1,2,3,4] [1,2,3]), (3, ⟨[1, 2, 3, 4, 13], [1, 2, 3], [], [], 0, [1, 2, 3, 4], [1, 2, 3], [], [], []⟩), (5, ri [1,2,3,4,5] [1,2,3,5]), (6, rq [1,2,3,4,5,29] [1,2,3,5] 9), (7, ri [1,2,3,4] [1,2,3]), (8, rq [1,2,3,4,5,43] [1,2,3,5] 8), (9, ⟨[1, 2, 3, 4], [1, 2, 3], [1, 4, 6], [], 0, [], [], [], [], []⟩), (4, ri [1,2,3,4] [1,2,3]), (10, ⟨[2], [2], [1], [], 0, [], [], [], [], []⟩)]
noncomputable def ref06_filled.cx (k : Nat) : Cx := ⟨tt, pp, [], ref06_filled.regs, k, mm⟩
@[reducible] def ref06_filled.sg : Sg := ⟨[.dat tDots], [], .dat tDots, []⟩
noncomputable def ref06_filled.f (k : Nat) (a0 : Ty.D tDots) : Option (Sg.Out ref06_filled.sg) := Sg.fn ref06_filled.sg (ref06_filled.cx k) ref06_filled.body ref06_filled.rs a0
noncomputable def ref06_filled.l3 (k : Nat) (n : Nat) (x4 : Ty.D (.int .i64)) (m1 : Ty.D tDots) (m2a : Ty.D tVec) (m2b : List (Ty.D tDot)) (m3a : Ty.D tVec) (m3b : List (Ty.D tDot)) : Option (Sg.Out ref06_filled.sg) := loopAt (ref06_filled.cx k) ref06_filled.body [1, 1, 0, 1, 0] 3 [1, 2, 3, 4] [1, 2, 3] [] (Sg.K ref06_filled.sg (ref06_filled.cx k) ref06_filled.rs) n ⟨[(1, .ref 1 []), (2, .ref 2 []), (3, .ref 3 []), (4, .dat (.int .i64) x4)], [(1, .dat tDots m1), (2, .pr (.dat tVec m2a) (.own tDot m2b)), (3, .pr (.dat tVec m3a) (.own tDot m3b))]⟩
theorem ref06_filled.f_eq (k : Nat) (a0 : Ty.D tDots) : ref06_filled.f k a0 = ref06_filled.l3 k k 0 a0 (zarr 16 0) [] a0.1 [] := by kernel_rfl
theorem ref06_filled.l3_eq (k : Nat) (n3 : Nat) (x4 : Ty.D (.int .i64)) (m1 : Ty.D tDots) (m2a : Ty.D tVec) (m2b : List (Ty.D tDot)) (m3a : Ty.D tVec) (m3b : List (Ty.D tDot)) : ref06_filled.l3 k (n3 + 1) x4 m1 m2a m2b m3a m3b = br (ilt x4 (ilen m1.2)) (br (inL x4 m1.2) (br (inB ((rd tDot m1.2 (natOf x4)).1) 16) (br (ieq ((rd tDot m1.2 (natOf x4)).2) (iadd .i64 (rd (.int .i64) m3a (natOf ((rd tDot m1.2 (natOf x4)).1))) 1)) (br (inB ((rd tDot m1.2 (natOf x4)).1) 16) (ref06_filled.l3 k n3 (iadd .i64 x4 1) m1 m2a m2b (upd m3a (natOf ((rd tDot m1.2 (natOf x4)).1)) ((rd tDot m1.2 (natOf x4)).2)) m3b) none) (br (inB ((rd tDot m1.2 (natOf x4)).1) 16) (br (ilt (rd (.int .i64) m3a (natOf ((rd tDot m1.2 (natOf x4)).1))) ((rd tDot m1.2 (natOf x4)).2)) (br (room m3b ((rd tDot m1.2 (natOf x4)) :: [])) (ref06_filled.l3 k n3 (iadd .i64 x4 1) m1 m2a m2b m3a (app m3b ((rd tDot m1.2 (natOf x4)) :: []))) none) (ref06_filled.l3 k n3 (iadd .i64 x4 1) m1 m2a m2b m3a m3b)) none)) none) none) (some (m3a, m3b)) := by kernel_rfl
noncomputable def ref06_filled.e (k : Nat) : Entry := Sg.entry ref06_filled.sg fun x => ref06_filled.f k x
theorem ref06_filled.ok (k : Nat) : CallOK Tryz.prog 166 (ref06_filled.e k) := fn_ok (c := ref06_filled.cx k) (code := ref06_filled.body) (TT.of tt_ok pp_ok mm_ok) (fns_ok trivial) mixed Tryz.func166 (by kernel_rfl) (by kernel_rfl) (by kernel_rfl) (by kernel_rfl) (by kernel_rfl) (by kernel_rfl) (fun x => by kernel_rfl)
noncomputable def ref05_Has.body : Go.Code := Tryz.f68.body.getD .skip
noncomputable def ref05_Has.rs : List Go.ResultVar := Tryz.f68.results.toList
def ref05_Has.regs : List (Nat × RInfo) := [(0, ri [2,3] [2,3]), (1, rq [4] [6] 11)]
noncomputable def ref05_Has.cx (k : Nat) : Cx := ⟨tt, pp, [(97, (ref04_Right.e k))], ref05_Has.regs, k, mm⟩
@[reducible] def ref05_Has.sg : Sg := ⟨[.dat tVec, .dat tDot], [], .dat .bool, []⟩
noncomputable def ref05_Has.f (k : Nat) (a0 : Ty.D tVec) (a1 : Ty.D tDot) : Option (Sg.Out ref05_Has.sg) := Sg.fn ref05_Has.sg (ref05_Has.cx k) ref05_Has.body ref05_Has.rs (a0, a1)
theorem ref05_Has.f_eq (k : Nat) (a0 : Ty.D tVec) (a1 : Ty.D tDot) : ref05_Has.f k a0 a1 = bnd (ref04_Right.f k a1) fun r0 => br r0 (br (inB a1.1 16) (some (ile a1.2 (rd (.int .i64) a0 (natOf a1.1)))) none) (some false) := by kernel_rfl
noncomputable def ref05_Has.e (k : Nat) : Entry := Sg.entry ref05_Has.sg fun x => ref05_Has.f k x.1 x.2
theorem ref05_Has.ok (k : Nat) : CallOK Tryz.prog 68 (ref05_Has.e k) := fn_ok (c := ref05_Has.cx k) (code := ref05_Has.body) (TT.of tt_ok pp_ok mm_ok) (fns_ok ⟨(ref04_Right.ok k), trivial⟩) mixed Tryz.func68 (by kernel_rfl) (by kernel_rfl) (by kernel_rfl) (by kernel_rfl) (by kernel_rfl) (by kernel_rfl) (fun x => by kernel_rfl)
noncomputable def ref06_Has.body : Go.Code := Tryz.f23.body.getD .skip
noncomputable def ref06_Has.rs : List Go.ResultVar := Tryz.f23.results.toList
def ref06_Has.regs : List (Nat × RInfo) := [(0, ⟨[2, 3], [2, 3], [0], [], 0, [], [], [], [], []⟩), (1, ri [2,3,9] [2,3,9]), (2, ri [4] []), (3, ri [2,3,5] [2,3]), (4, ⟨[2, 3, 5, 14], [2, 3], [], [], 0, [2, 3, 5], [2, 3], [], [], []⟩), (6, rq [2,3,5,23] [2,3] 7), (7, ri [4] []), (5, ri [2,3,5] [2,3]), (8, ri [4] [])]
noncomputable def ref06_Has.cx (k : Nat) : Cx := ⟨tt, pp, [(68, (ref05_Has.e k))], ref06_Has.regs, k, mm⟩
@[reducible] def ref06_Has.sg : Sg := ⟨[.dat tDots, .dat tDot], [], .dat .bool, []⟩
noncomputable def ref06_Has.f (k : Nat) (a0 : Ty.D tDots) (a1 : Ty.D tDot) : Option (Sg.Out ref06_Has.sg) := Sg.fn ref06_Has.sg (ref06_Has.cx k) ref06_Has.body ref06_Has.rs (a0, a1)
noncomputable def ref06_Has.l4 (k : Nat) (n : Nat) (x5 : Ty.D (.int .i64)) (m2 : Ty.D tDots) (m3 : Ty.D tDot) : Option (Sg.Out ref06_Has.sg) := loopAt (ref06_Has.cx k) ref06_Has.body [1, 1, 0, 1, 0] 4 [2, 3, 5] [2, 3] [] (Sg.K ref06_Has.sg (ref06_Has.cx k) ref06_Has.rs) n ⟨[(2, .ref 2 []), (3, .ref 3 []), (5, .dat (.int .i64) x5)], [(2, .dat tDots m2), (3, .dat tDot m3)]⟩
theorem ref06_Has.f_eq (k : Nat) (a0 : Ty.D tDots) (a1 : Ty.D tDot) : ref06_Has.f k a0 a1 = bnd (ref05_Has.f k a0.1 a1) fun r0 => br r0 (some true) (ref06_Has.l4 k k 0 a0 a1) := by kernel_rfl
theorem ref06_Has.l4_eq (k : Nat) (n4 : Nat) (x5 : Ty.D (.int .i64)) (m2 : Ty.D tDots) (m3 : Ty.D tDot) : ref06_Has.l4 k (n4 + 1) x5 m2 m3 = br (ilt x5 (ilen m2.2)) (br (inL x5 m2.2) (br (deq tDot (rd tDot m2.2 (natOf x5)) m3) (some true) (ref06_Has.l4 k n4 (iadd .i64 x5 1) m2 m3)) none) (some false) := by kernel_rfl
noncomputable def ref06_Has.e (k : Nat) : Entry := Sg.entry ref06_Has.sg fun x => ref06_Has.f k x.1 x.2
theorem ref06_Has.ok (k : Nat) : CallOK Tryz.prog 23 (ref06_Has.e k) := fn_ok (c := ref06_Has.cx k) (code := ref06_Has.body) (TT.of tt_ok pp_ok mm_ok) (fns_ok ⟨(ref05_Has.ok k), trivial⟩) mixed Tryz.func23 (by kernel_rfl) (by kernel_rfl) (by kernel_rfl) (by kernel_rfl) (by kernel_rfl) (by kernel_rfl) (fun x => by kernel_rfl)
noncomputable def ref06_Put.body : Go.Code := Tryz.f133.body.getD .skip
noncomputable def ref06_Put.rs : List Go.ResultVar := Tryz.f133.results.toList
def ref06_Put.regs : List (Nat × RInfo) := [(0, ⟨[2, 3, 4], [2, 3, 4], [0], [], 0, [], [], [], [], []⟩), (1, ri [2,3,4,15] [2,3,4,14]), (2, ⟨[4], [4], [1], [], 0, [], [], [], [], []⟩), (3, ri [2,3,4,5] [2,3,4]), (4, ri [2,3,4,5,6] [2,3,4]), (5, ri [2,3,4,5,6,7] [2,3,4]), (6, ⟨[2, 3, 4, 5, 6, 7, 21], [2, 3, 4], [], [], 0, [2, 3, 4, 5, 6, 7], [2, 3, 4], [], [], []⟩), (8, rq [2,3,4,5,6,7,35] [2,3,4] 12), (9, ⟨[2, 3, 4, 5, 7], [2, 3, 4], [0, 3, 4], [], 0, [], [], [], [], []⟩), (10, ri [2,3,4,5,6,7] [2,3,4]), (11, ⟨[2, 3, 4, 5, 6, 7], [2, 3, 4], [0, 7, 8], [], 0, [], [], [], [], []⟩), (7, ri [2,3,4,5,6,7] [2,3,4]), (12, ri [2,3,4,5,49] [2,3,4]), (13, ⟨[2, 4, 5], [2, 4], [0, 3, 4], [], 0, [], [], [], [], []⟩), (14, ⟨[4], [4], [5], [], 0, [], [], [], [], []⟩)]
noncomputable def ref06_Put.cx (k : Nat) : Cx := ⟨tt, pp, [(97, (ref04_Right.e k)), (23, (ref06_Has.e k)), (129, (ref04_Compare.e k)), (166, (ref06_filled.e k))], ref06_Put.regs, k, mm⟩
@[reducible] def ref06_Put.sg : Sg := ⟨[.dat tDots, .dat tDot], [], .dat tDots, []⟩
noncomputable def ref06_Put.f (k : Nat) (a0 : Ty.D tDots) (a1 : Ty.D tDot) : Option (Sg.Out ref06_Put.sg) := Sg.fn ref06_Put.sg (ref06_Put.cx k) ref06_Put.body ref06_Put.rs (a0, a1)
noncomputable def ref06_Put.l6 (k : Nat) (n : Nat) (x5 : List (Ty.D tDot)) (x6 : Ty.D .bool) (x7 : Ty.D (.int .i64)) (m2 : Ty.D tDots) (m3 : Ty.D tDot) (m4a : Ty.D tVec) (m4b : List (Ty.D tDot)) : Option (Sg.Out ref06_Put.sg) := loopAt (ref06_Put.cx k) ref06_Put.body [1, 1, 1, 1, 0, 1, 0] 6 [2, 3, 4, 5, 6, 7] [2, 3, 4] [] (Sg.K ref06_Put.sg (ref06_Put.cx k) ref06_Put.rs) n ⟨[(2, .ref 2 []), (3, .ref 3 []), (4, .ref 4 []), (5, .own tDot x5), (6, .dat .bool x6), (7, .dat (.int .i64) x7)], [(2, .dat tDots m2), (3, .dat tDot m3), (4, .pr (.dat tVec m4a) (.own tDot m4b))]⟩
theorem ref06_Put.f_eq (k : Nat) (a0 : Ty.D tDots) (a1 : Ty.D tDot) : ref06_Put.f k a0 a1 = bnd (ref04_Right.f k a1) fun r0 => br (bnot r0) (some a0) (bnd (ref06_Has.f k a0 a1) fun r1 => br r1 (some a0) (ref06_Put.l6 k k [] false 0 a0 a1 (zarr 16 0) [])) := by kernel_rfl
theorem ref06_Put.l6_eq (k : Nat) (n6 : Nat) (x5 : List (Ty.D tDot)) (x6 : Ty.D .bool) (x7 : Ty.D (.int .i64)) (m2 : Ty.D tDots) (m3 : Ty.D tDot) (m4a : Ty.D tVec) (m4b : List (Ty.D tDot)) : ref06_Put.l6 k (n6 + 1) x5 x6 x7 m2 m3 m4a m4b = br (ilt x7 (ilen m2.2)) (br (bnot x6) (br (inL x7 m2.2) (bnd (ref04_Compare.f k m3 (rd tDot m2.2 (natOf x7))) fun r0 => br (ilt r0 0) (br (room x5 (m3 :: [])) (br (inL x7 m2.2) (br (room (app x5 (m3 :: [])) ((rd tDot m2.2 (natOf x7)) :: [])) (ref06_Put.l6 k n6 (app (app x5 (m3 :: [])) ((rd tDot m2.2 (natOf x7)) :: [])) true (iadd .i64 x7 1) m2 m3 m4a m4b) none) none) none) (br (inL x7 m2.2) (br (room x5 ((rd tDot m2.2 (natOf x7)) :: [])) (ref06_Put.l6 k n6 (app x5 ((rd tDot m2.2 (natOf x7)) :: [])) x6 (iadd .i64 x7 1) m2 m3 m4a m4b) none) none)) none) (br (inL x7 m2.2) (br (room x5 ((rd tDot m2.2 (natOf x7)) :: [])) (ref06_Put.l6 k n6 (app x5 ((rd tDot m2.2 (natOf x7)) :: [])) x6 (iadd .i64 x7 1) m2 m3 m4a m4b) none) none)) (br (bnot x6) (br (room x5 (m3 :: [])) (bnd (ref06_filled.f k (m2.1, (app x5 (m3 :: [])))) fun r1 => some r1) none) (bnd (ref06_filled.f k (m2.1, x5)) fun r2 => some r2)) := by kernel_rfl
noncomputable def ref06_Put.e (k : Nat) : Entry := Sg.entry ref06_Put.sg fun x => ref06_Put.f k x.1 x.2
theorem ref06_Put.ok (k : Nat) : CallOK Tryz.prog 133 (ref06_Put.e k) := fn_ok (c := ref06_Put.cx k) (code := ref06_Put.body) (TT.of tt_ok pp_ok mm_ok) (fns_ok ⟨(ref04_Right.ok k), (ref06_Has.ok k), (ref04_Compare.ok k), (ref06_filled.ok k), trivial⟩) mixed Tryz.func133 (by kernel_rfl) (by kernel_rfl) (by kernel_rfl) (by kernel_rfl) (by kernel_rfl) (by kernel_rfl) (fun x => by kernel_rfl)
noncomputable def ref06_Union.body : Go.Code := Tryz.f146.body.getD .skip
noncomputable def ref06_Union.rs : List Go.ResultVar := Tryz.f146.results.toList
def ref06_Union.regs : List (Nat × RInfo) := [(0, ⟨[2, 3, 4], [2, 3, 4], [0, 1], [], 0, [], [], [], [], []⟩), (1, ⟨[3, 4, 5], [3, 4, 5], [10], [], 9, [], [], [], [[], [], [], [], [1, 3], [], [], [1, 3, 6], [1, 3, 6], [], [1, 3, 6]], []⟩), (2, ri [3,4,5,6] [3,4,5]), (3, ⟨[3, 4, 5, 6, 20], [3, 4, 5], [], [], 0, [3, 4, 5, 6], [3, 4, 5], [], [], []⟩), (5, ⟨[3, 4, 5, 6], [3, 4, 5], [7], [], 7, [], [], [], [[], [], [], [], [2], [2], [0, 5, 2], [0, 5, 2]], []⟩), (4, ri [3,4,5,6] [3,4,5]), (6, ⟨[4], [4], [1], [], 0, [], [], [], [], []⟩)]
noncomputable def ref06_Union.cx (k : Nat) : Cx := ⟨tt, pp, [(172, (ref05_Join.e k)), (166, (ref06_filled.e k)), (133, (ref06_Put.e k))], ref06_Union.regs, k, mm⟩
@[reducible] def ref06_Union.sg : Sg := ⟨[.dat tDots, .dat tDots], [], .dat tDots, []⟩
noncomputable def ref06_Union.f (k : Nat) (a0 : Ty.D tDots) (a1 : Ty.D tDots) : Option (Sg.Out ref06_Union.sg) := Sg.fn ref06_Union.sg (ref06_Union.cx k) ref06_Union.body ref06_Union.rs (a0, a1)
noncomputable def ref06_Union.l3 (k : Nat) (n : Nat) (x6 : Ty.D (.int .i64)) (m3 : Ty.D tDots) (m4a : Ty.D tVec) (m4b : List (Ty.D tDot)) (m5 : Ty.D tDots) : Option (Sg.Out ref06_Union.sg) := loopAt (ref06_Union.cx k) ref06_Union.body [1, 1, 0, 1, 0] 3 [3, 4, 5, 6] [3, 4, 5] [] (Sg.K ref06_Union.sg (ref06_Union.cx k) ref06_Union.rs) n ⟨[(3, .ref 3 []), (4, .ref 4 []), (5, .ref 5 []), (6, .dat (.int .i64) x6)], [(3, .dat tDots m3), (4, .pr (.dat tVec m4a) (.own tDot m4b)), (5, .dat tDots m5)]⟩
theorem ref06_Union.f_eq (k : Nat) (a0 : Ty.D tDots) (a1 : Ty.D tDots) : ref06_Union.f k a0 a1 = bnd (ref05_Join.f k a0.1 a1.1) fun r0 => bnd (ref06_filled.f k (r0, a0.2)) fun r1 => ref06_Union.l3 k k 0 a1 (zarr 16 0) [] r1 := by kernel_rfl
theorem ref06_Union.l3_eq (k : Nat) (n3 : Nat) (x6 : Ty.D (.int .i64)) (m3 : Ty.D tDots) (m4a : Ty.D tVec) (m4b : List (Ty.D tDot)) (m5 : Ty.D tDots) : ref06_Union.l3 k (n3 + 1) x6 m3 m4a m4b m5 = br (ilt x6 (ilen m3.2)) (br (inL x6 m3.2) (bnd (ref06_Put.f k m5 (rd tDot m3.2 (natOf x6))) fun r0 => ref06_Union.l3 k n3 (iadd .i64 x6 1) m3 m4a m4b r0) none) (some m5) := by kernel_rfl
noncomputable def ref06_Union.e (k : Nat) : Entry := Sg.entry ref06_Union.sg fun x => ref06_Union.f k x.1 x.2
theorem ref06_Union.ok (k : Nat) : CallOK Tryz.prog 146 (ref06_Union.e k) := fn_ok (c := ref06_Union.cx k) (code := ref06_Union.body) (TT.of tt_ok pp_ok mm_ok) (fns_ok ⟨(ref05_Join.ok k), (ref06_filled.ok k), (ref06_Put.ok k), trivial⟩) mixed Tryz.func146 (by kernel_rfl) (by kernel_rfl) (by kernel_rfl) (by kernel_rfl) (by kernel_rfl) (by kernel_rfl) (fun x => by kernel_rfl)
noncomputable def ref08_Get.body : Go.Code := Tryz.f46.body.getD .skip
noncomputable def ref08_Get.rs : List Go.ResultVar := Tryz.f46.results.toList
def ref08_Get.regs : List (Nat × RInfo) := [(0, ri [0,3] [3]), (1, ri [0,3,5] [3]), (2, ⟨[0, 3, 5, 9], [3], [], [], 0, [0, 3, 5], [3], [], [], []⟩), (4, rq [0,3,5,18] [3] 7), (5, ri [4] []), (3, ri [0,3,5] [3]), (6, ri [4] [])]
noncomputable def ref08_Get.cx (k : Nat) : Cx := ⟨tt, pp, [], ref08_Get.regs, k, mm⟩
@[reducible] def ref08_Get.sg : Sg := ⟨[.dat (.slc tUndo), .dat tDot], [], .dat (.int .i64), []⟩
noncomputable def ref08_Get.f (k : Nat) (a0 : Ty.D (.slc tUndo)) (a1 : Ty.D tDot) : Option (Sg.Out ref08_Get.sg) := Sg.fn ref08_Get.sg (ref08_Get.cx k) ref08_Get.body ref08_Get.rs (a0, a1)
noncomputable def ref08_Get.l2 (k : Nat) (n : Nat) (x0 : Ty.D (.slc tUndo)) (x5 : Ty.D (.int .i64)) (m3 : Ty.D tDot) : Option (Sg.Out ref08_Get.sg) := loopAt (ref08_Get.cx k) ref08_Get.body [1, 0, 1, 0] 2 [0, 3, 5] [3] [] (Sg.K ref08_Get.sg (ref08_Get.cx k) ref08_Get.rs) n ⟨[(0, .dat (.slc tUndo) x0), (3, .ref 3 []), (5, .dat (.int .i64) x5)], [(3, .dat tDot m3)]⟩
theorem ref08_Get.f_eq (k : Nat) (a0 : Ty.D (.slc tUndo)) (a1 : Ty.D tDot) : ref08_Get.f k a0 a1 = ref08_Get.l2 k k a0 0 a1 := by kernel_rfl
theorem ref08_Get.l2_eq (k : Nat) (n2 : Nat) (x0 : Ty.D (.slc tUndo)) (x5 : Ty.D (.int .i64)) (m3 : Ty.D tDot) : ref08_Get.l2 k (n2 + 1) x0 x5 m3 = br (ilt x5 (ilen x0)) (br (inL x5 x0) (br (deq tDot ((rd tUndo x0 (natOf x5)).1) m3) (br (inL x5 x0) (some ((rd tUndo x0 (natOf x5)).2)) none) (ref08_Get.l2 k n2 x0 (iadd .i64 x5 1) m3)) none) (some 0) := by kernel_rfl
noncomputable def ref08_Get.e (k : Nat) : Entry := Sg.entry ref08_Get.sg fun x => ref08_Get.f k x.1 x.2
theorem ref08_Get.ok (k : Nat) : CallOK Tryz.prog 46 (ref08_Get.e k) := fn_ok (c := ref08_Get.cx k) (code := ref08_Get.body) (TT.of tt_ok pp_ok mm_ok) (fns_ok trivial) mixed Tryz.func46 (by kernel_rfl) (by kernel_rfl) (by kernel_rfl) (by kernel_rfl) (by kernel_rfl) (by kernel_rfl) (fun x => by kernel_rfl)
noncomputable def ref08_Put.body : Go.Code := Tryz.f173.body.getD .skip
noncomputable def ref08_Put.rs : List Go.ResultVar := Tryz.f173.results.toList
def ref08_Put.regs : List (Nat × RInfo) := [(0, ri [0,3] [3]), (1, rq [0,3,20] [3] 12), (2, ⟨[4], [], [0, 1], [], 0, [], [], [], [], []⟩), (3, ri [0,3,5] [3]), (4, ri [0,3,5,6] [3]), (5, ri [0,3,5,6,7] [3]), (6, ⟨[0, 3, 5, 6, 7, 25], [3], [], [], 0, [0, 3, 5, 6, 7], [3], [], [], []⟩), (8, rq [0,3,5,6,7,8] [3,35] 8), (9, ri [0,3,5,6,7,8,41] [3,35]), (10, ⟨[0, 3, 5, 7, 8], [3, 35], [0, 3, 4], [], 0, [], [], [], [], []⟩), (11, ri [0,3,5,6,7,8] [3,35]), (12, ri [0,3,5,6,7,47] [3]), (13, ⟨[0, 3, 5, 6, 7], [3], [0, 6, 7], [], 0, [], [], [], [], []⟩), (7, ri [0,3,5,6,7] [3]), (14, ri [3,5,56] [3]), (15, ⟨[5], [], [0, 3, 4], [], 0, [], [], [], [], []⟩), (16, ⟨[4], [], [0, 1], [], 0, [], [], [], [], []⟩)]
noncomputable def ref08_Put.cx (k : Nat) : Cx := ⟨tt, pp, [(130, (ref08_one.e k)), (46, (ref08_Get.e k)), (129, (ref04_Compare.e k))], ref08_Put.regs, k, mm⟩
@[reducible] def ref08_Put.sg : Sg := ⟨[.dat (.slc tUndo), .dat tUndo], [], .dat (.slc tUndo), []⟩
noncomputable def ref08_Put.f (k : Nat) (a0 : Ty.D (.slc tUndo)) (a1 : Ty.D tUndo) : Option (Sg.Out ref08_Put.sg) := Sg.fn ref08_Put.sg (ref08_Put.cx k) ref08_Put.body ref08_Put.rs (a0, a1)
noncomputable def ref08_Put.l6 (k : Nat) (n : Nat) (x0 : Ty.D (.slc tUndo)) (x5 : List (Ty.D tUndo)) (x6 : Ty.D .bool) (x7 : Ty.D (.int .i64)) (m3 : Ty.D tUndo) : Option (Sg.Out ref08_Put.sg) := loopAt (ref08_Put.cx k) ref08_Put.body [1, 1, 1, 1, 0, 1, 0] 6 [0, 3, 5, 6, 7] [3] [] (Sg.K ref08_Put.sg (ref08_Put.cx k) ref08_Put.rs) n ⟨[(0, .dat (.slc tUndo) x0), (3, .ref 3 []), (5, .own tUndo x5), (6, .dat .bool x6), (7, .dat (.int .i64) x7)], [(3, .dat tUndo m3)]⟩
theorem ref08_Put.f_eq (k : Nat) (a0 : Ty.D (.slc tUndo)) (a1 : Ty.D tUndo) : ref08_Put.f k a0 a1 = bnd (ref08_one.f k a1) fun r0 => br (bnot r0) (some a0) (bnd (ref08_Get.f k a0 a1.1) fun r1 => br (ile a1.2 r1) (some a0) (ref08_Put.l6 k k a0 [] false 0 a1)) := by kernel_rfl
theorem ref08_Put.l6_eq (k : Nat) (n6 : Nat) (x0 : Ty.D (.slc tUndo)) (x5 : List (Ty.D tUndo)) (x6 : Ty.D .bool) (x7 : Ty.D (.int .i64)) (m3 : Ty.D tUndo) : ref08_Put.l6 k (n6 + 1) x0 x5 x6 x7 m3 = br (ilt x7 (ilen x0)) (br (inL x7 x0) (bnd (ref04_Compare.f k m3.1 ((rd tUndo x0 (natOf x7)).1)) fun r0 => br (bnot x6) (br (ile r0 0) (br (room x5 (m3 :: [])) (br (bnot (ieq r0 0)) (br (inL x7 x0) (br (room (app x5 (m3 :: [])) ((rd tUndo x0 (natOf x7)) :: [])) (ref08_Put.l6 k n6 x0 (app (app x5 (m3 :: [])) ((rd tUndo x0 (natOf x7)) :: [])) true (iadd .i64 x7 1) m3) none) none) (ref08_Put.l6 k n6 x0 (app x5 (m3 :: [])) true (iadd .i64 x7 1) m3)) none) (br (bnot (ieq r0 0)) (br (inL x7 x0) (br (room x5 ((rd tUndo x0 (natOf x7)) :: [])) (ref08_Put.l6 k n6 x0 (app x5 ((rd tUndo x0 (natOf x7)) :: [])) x6 (iadd .i64 x7 1) m3) none) none) (ref08_Put.l6 k n6 x0 x5 x6 (iadd .i64 x7 1) m3))) (br (bnot (ieq r0 0)) (br (inL x7 x0) (br (room x5 ((rd tUndo x0 (natOf x7)) :: [])) (ref08_Put.l6 k n6 x0 (app x5 ((rd tUndo x0 (natOf x7)) :: [])) x6 (iadd .i64 x7 1) m3) none) none) (ref08_Put.l6 k n6 x0 x5 x6 (iadd .i64 x7 1) m3))) none) (br (bnot x6) (br (room x5 (m3 :: [])) (some (app x5 (m3 :: []))) none) (some x5)) := by kernel_rfl
noncomputable def ref08_Put.e (k : Nat) : Entry := Sg.entry ref08_Put.sg fun x => ref08_Put.f k x.1 x.2
theorem ref08_Put.ok (k : Nat) : CallOK Tryz.prog 173 (ref08_Put.e k) := fn_ok (c := ref08_Put.cx k) (code := ref08_Put.body) (TT.of tt_ok pp_ok mm_ok) (fns_ok ⟨(ref08_one.ok k), (ref08_Get.ok k), (ref04_Compare.ok k), trivial⟩) mixed Tryz.func173 (by kernel_rfl) (by kernel_rfl) (by kernel_rfl) (by kernel_rfl) (by kernel_rfl) (by kernel_rfl) (fun x => by kernel_rfl)
noncomputable def ref08_Join.body : Go.Code := Tryz.f147.body.getD .skip
noncomputable def ref08_Join.rs : List Go.ResultVar := Tryz.f147.results.toList
def ref08_Join.regs : List (Nat × RInfo) := [(0, ri [0,1] []), (1, ⟨[1, 5], [19], [0, 1], [], 0, [], [], [], [], []⟩), (2, ri [1,5,6] [19]), (3, ⟨[1, 5, 6, 11], [19], [], [], 0, [1, 5, 6], [19], [], [], []⟩), (5, ⟨[1, 5, 6], [19], [6], [], 0, [], [], [], [], []⟩), (4, ri [1,5,6] [19]), (6, ⟨[4], [19], [0, 1], [], 0, [], [], [], [], []⟩)]
noncomputable def ref08_Join.cx (k : Nat) : Cx := ⟨tt, pp, [(173, (ref08_Put.e k))], ref08_Join.regs, k, mm⟩
@[reducible] def ref08_Join.sg : Sg := ⟨[.dat (.slc tUndo), .dat (.slc tUndo)], [], .dat (.slc tUndo), []⟩
noncomputable def ref08_Join.f (k : Nat) (a0 : Ty.D (.slc tUndo)) (a1 : Ty.D (.slc tUndo)) : Option (Sg.Out ref08_Join.sg) := Sg.fn ref08_Join.sg (ref08_Join.cx k) ref08_Join.body ref08_Join.rs (a0, a1)
noncomputable def ref08_Join.l3 (k : Nat) (n : Nat) (x1 : Ty.D (.slc tUndo)) (x5 : Ty.D (.slc tUndo)) (x6 : Ty.D (.int .i64)) : Option (Sg.Out ref08_Join.sg) := loopAt (ref08_Join.cx k) ref08_Join.body [1, 1, 0, 1, 0] 3 [1, 5, 6] [19] [] (Sg.K ref08_Join.sg (ref08_Join.cx k) ref08_Join.rs) n ⟨[(1, .dat (.slc tUndo) x1), (5, .dat (.slc tUndo) x5), (6, .dat (.int .i64) x6)], []⟩
theorem ref08_Join.f_eq (k : Nat) (a0 : Ty.D (.slc tUndo)) (a1 : Ty.D (.slc tUndo)) : ref08_Join.f k a0 a1 = ref08_Join.l3 k k a1 a0 0 := by kernel_rfl
theorem ref08_Join.l3_eq (k : Nat) (n3 : Nat) (x1 : Ty.D (.slc tUndo)) (x5 : Ty.D (.slc tUndo)) (x6 : Ty.D (.int .i64)) : ref08_Join.l3 k (n3 + 1) x1 x5 x6 = br (ilt x6 (ilen x1)) (br (inL x6 x1) (bnd (ref08_Put.f k x5 (rd tUndo x1 (natOf x6))) fun r0 => ref08_Join.l3 k n3 x1 r0 (iadd .i64 x6 1)) none) (some x5) := by kernel_rfl
noncomputable def ref08_Join.e (k : Nat) : Entry := Sg.entry ref08_Join.sg fun x => ref08_Join.f k x.1 x.2
theorem ref08_Join.ok (k : Nat) : CallOK Tryz.prog 147 (ref08_Join.e k) := fn_ok (c := ref08_Join.cx k) (code := ref08_Join.body) (TT.of tt_ok pp_ok mm_ok) (fns_ok ⟨(ref08_Put.ok k), trivial⟩) mixed Tryz.func147 (by kernel_rfl) (by kernel_rfl) (by kernel_rfl) (by kernel_rfl) (by kernel_rfl) (by kernel_rfl) (fun x => by kernel_rfl)
noncomputable def ref24_Join.body : Go.Code := Tryz.f109.body.getD .skip
noncomputable def ref24_Join.rs : List Go.ResultVar := Tryz.f109.results.toList
def ref24_Join.regs : List (Nat × RInfo) := [(0, ⟨[2, 3, 4], [2, 3, 4], [0, 1], [], 0, [], [], [], [], []⟩), (1, ⟨[2, 3, 4, 5], [2, 3, 4, 5], [2], [], 0, [], [], [], [], []⟩), (2, ⟨[2, 3, 4, 5], [2, 3, 4, 5], [6], [], 0, [], [], [], [], []⟩), (3, ⟨[2, 3, 4, 5], [2, 3, 4, 5], [6], [], 0, [], [], [], [], []⟩), (4, ⟨[4, 5], [4, 5], [6], [], 0, [], [], [], [], []⟩), (5, ⟨[4], [4], [1], [], 0, [], [], [], [], []⟩)]
noncomputable def ref24_Join.cx (k : Nat) : Cx := ⟨tt, pp, [(146, (ref06_Union.e k)), (147, (ref08_Join.e k))], ref24_Join.regs, k, mm⟩
@[reducible] def ref24_Join.sg : Sg := ⟨[.dat tKnow, .dat tKnow], [], .dat tKnow, []⟩
noncomputable def ref24_Join.f (k : Nat) (a0 : Ty.D tKnow) (a1 : Ty.D tKnow) : Option (Sg.Out ref24_Join.sg) := Sg.fn ref24_Join.sg (ref24_Join.cx k) ref24_Join.body ref24_Join.rs (a0, a1)
theorem ref24_Join.f_eq (k : Nat) (a0 : Ty.D tKnow) (a1 : Ty.D tKnow) : ref24_Join.f k a0 a1 = bnd (ref06_Union.f k a0.1 a1.1) fun r0 => bnd (ref08_Join.f k a0.2.1 a1.2.1) fun r1 => bnd (ref06_Union.f k a0.2.2 a1.2.2) fun r2 => some (r0, (r1, r2)) := by kernel_rfl
noncomputable def ref24_Join.e (k : Nat) : Entry := Sg.entry ref24_Join.sg fun x => ref24_Join.f k x.1 x.2
theorem ref24_Join.ok (k : Nat) : CallOK Tryz.prog 109 (ref24_Join.e k) := fn_ok (c := ref24_Join.cx k) (code := ref24_Join.body) (TT.of tt_ok pp_ok mm_ok) (fns_ok ⟨(ref06_Union.ok k), (ref08_Join.ok k), trivial⟩) mixed Tryz.func109 (by kernel_rfl) (by kernel_rfl) (by kernel_rfl) (by kernel_rfl) (by kernel_rfl) (by kernel_rfl) (fun x => by kernel_rfl)
noncomputable def ref29_Peers_Hear.body : Go.Code := Tryz.f56.body.getD .skip
noncomputable def ref29_Peers_Hear.rs : List Go.ResultVar := Tryz.f56.results.toList
def ref29_Peers_Hear.regs : List (Nat × RInfo) := [(0, ⟨[0, 1, 5], [5, 1000000], [0], [], 0, [], [], [], [], []⟩), (1, ri [0,1,5,15] [5,1000000]), (2, ri [6] [1000000]), (3, ⟨[], [1000000], [13], [], 14, [], [], [], [[], [], [], [], [], [], [], [], [], [7, 8], [], [], [7, 8], [7, 8]], []⟩), (4, ri [6] [1000000])]
noncomputable def ref29_Peers_Hear.cx (k : Nat) : Cx := ⟨tt, pp, [(18, (ref29_Peers_Other.e k)), (65, (ref24_Right.e k)), (109, (ref24_Join.e k))], ref29_Peers_Hear.regs, k, mm⟩
@[reducible] def ref29_Peers_Hear.sg : Sg := ⟨[.ref, .dat (.int .i64), .dat tKnow], [tPeers], .dat (.int .i64), [tPeers]⟩
noncomputable def ref29_Peers_Hear.f (k : Nat) (a1 : Ty.D (.int .i64)) (a2 : Ty.D tKnow) (o0 : Ty.D tPeers) : Option (Sg.Out ref29_Peers_Hear.sg) := Sg.fn ref29_Peers_Hear.sg (ref29_Peers_Hear.cx k) ref29_Peers_Hear.body ref29_Peers_Hear.rs (a1, a2, o0)
theorem ref29_Peers_Hear.f_eq (k : Nat) (a1 : Ty.D (.int .i64)) (a2 : Ty.D tKnow) (o0 : Ty.D tPeers) : ref29_Peers_Hear.f k a1 a2 o0 = bnd (ref29_Peers_Other.f k a1 o0) fun r0 => br (bnot r0.1) (some (2, r0.2)) (bnd (ref24_Right.f k a2) fun r1 => br (bnot r1) (some (2, r0.2)) (br (inB a1 16) (bnd (ref24_Join.f k (rd tKnow r0.2.2.2 (natOf a1)) a2) fun r2 => br (inB a1 16) (some (0, (r0.2.1, (r0.2.2.1, (upd r0.2.2.2 (natOf a1) r2))))) none) none)) := by kernel_rfl
noncomputable def ref29_Peers_Hear.e (k : Nat) : Entry := Sg.entry ref29_Peers_Hear.sg fun x => ref29_Peers_Hear.f k x.1 x.2.1 x.2.2
theorem ref29_Peers_Hear.ok (k : Nat) : CallOK Tryz.prog 56 (ref29_Peers_Hear.e k) := fn_ok (c := ref29_Peers_Hear.cx k) (code := ref29_Peers_Hear.body) (TT.of tt_ok pp_ok mm_ok) (fns_ok ⟨(ref29_Peers_Other.ok k), (ref24_Right.ok k), (ref24_Join.ok k), trivial⟩) mixed Tryz.func56 (by kernel_rfl) (by kernel_rfl) (by kernel_rfl) (by kernel_rfl) (by kernel_rfl) (by kernel_rfl) (fun x => by kernel_rfl)
noncomputable def law30_begun.body : Go.Code := Tryz.f34.body.getD .skip
noncomputable def law30_begun.rs : List Go.ResultVar := Tryz.f34.results.toList
def law30_begun.regs : List (Nat × RInfo) := [(0, ri [0,1,2] []), (1, ri [0,2,9] []), (2, ri [2,9,10] []), (3, ri [2,9,10,11] [26]), (4, ri [2,11,13] [26,32]), (5, ri [2,11,13,35] [26,32]), (6, ri [6,7,8] [26,32]), (7, ri [2,11,13,14] [26,32]), (8, ⟨[2, 11, 13, 14, 41], [26, 32], [], [], 0, [2, 11, 13, 14], [26, 32], [], [], []⟩), (10, ri [2,11,13,14,49] [26,32]), (11, ri [6,7,8] [26,32]), (12, ri [2,11,13,14] [26,32]), (13, ri [2,11,13,14] [26,32]), (9, ri [2,11,13,14] [26,32]), (14, ri [6,7,8] [26,32])]
noncomputable def law30_begun.cx (k : Nat) : Cx := ⟨tt, pp, [(27, (peer_New.e k)), (20, (ref24_Good.e k)), (28, (peer_Peers_Heard.e k)), (56, (ref29_Peers_Hear.e k))], law30_begun.regs, k, mm⟩
@[reducible] def law30_begun.sg : Sg := ⟨[.dat (.int .u8), .dat (.int .u8), .dat (.slc tKnow)], [], .n2 (.dat .bool), [tPeers, tPeers]⟩
noncomputable def law30_begun.f (k : Nat) (a0 : Ty.D (.int .u8)) (a1 : Ty.D (.int .u8)) (a2 : Ty.D (.slc tKnow)) : Option (Sg.Out law30_begun.sg) := Sg.fn law30_begun.sg (law30_begun.cx k) law30_begun.body law30_begun.rs (a0, a1, a2)
noncomputable def law30_begun.l8 (k : Nat) (n : Nat) (x2 : Ty.D (.slc tKnow)) (x14 : Ty.D (.int .i64)) (m26 : Ty.D tPeers) (m32 : Ty.D tPeers) : Option (Sg.Out law30_begun.sg) := loopAt (law30_begun.cx k) law30_begun.body [1, 1, 1, 1, 1, 1, 0, 1, 0] 8 [2, 11, 13, 14] [26, 32] [] (Sg.K law30_begun.sg (law30_begun.cx k) law30_begun.rs) n ⟨[(2, .dat (.slc tKnow) x2), (11, .ref 26 []), (13, .ref 32 []), (14, .dat (.int .i64) x14)], [(26, .dat tPeers m26), (32, .dat tPeers m32)]⟩
theorem law30_begun.f_eq (k : Nat) (a0 : Ty.D (.int .u8)) (a1 : Ty.D (.int .u8)) (a2 : Ty.D (.slc tKnow)) : law30_begun.f k a0 a1 a2 = br (ieq (iadd .i64 1 (iwrap .i64 (irem a1 16))) 0) none (bnd (peer_New.f k (irem (iwrap .i64 a0) (iadd .i64 1 (iwrap .i64 (irem a1 16)))) (iadd .i64 1 (iwrap .i64 (irem a1 16)))) fun r0 => br (ilt 16 (ilen a2)) (some (false, (r0.2, ((irem (iwrap .i64 a0) (iadd .i64 1 (iwrap .i64 (irem a1 16)))), ((iadd .i64 1 (iwrap .i64 (irem a1 16))), (zarr 16 (((zarr 16 0), []), ([], ((zarr 16 0), []))))))))) (law30_begun.l8 k k a2 0 r0.2 ((irem (iwrap .i64 a0) (iadd .i64 1 (iwrap .i64 (irem a1 16)))), ((iadd .i64 1 (iwrap .i64 (irem a1 16))), (zarr 16 (((zarr 16 0), []), ([], ((zarr 16 0), [])))))))) := by kernel_rfl
theorem law30_begun.l8_eq (k : Nat) (n8 : Nat) (x2 : Ty.D (.slc tKnow)) (x14 : Ty.D (.int .i64)) (m26 : Ty.D tPeers) (m32 : Ty.D tPeers) : law30_begun.l8 k (n8 + 1) x2 x14 m26 m32 = br (ilt x14 (ilen x2)) (br (inL x14 x2) (bnd (ref24_Good.f k (rd tKnow x2 (natOf x14))) fun r0 => br (bnot r0) (some (false, (m26, m32))) (br (inL x14 x2) (bnd (peer_Peers_Heard.f k x14 (rd tKnow x2 (natOf x14)) m26) fun r1 => br (inL x14 x2) (bnd (ref29_Peers_Hear.f k x14 (rd tKnow x2 (natOf x14)) m32) fun r2 => law30_begun.l8 k n8 x2 (iadd .i64 x14 1) r1.2 r2.2) none) none)) none) (some (true, (m26, m32))) := by kernel_rfl
noncomputable def law30_begun.e (k : Nat) : Entry := Sg.entry law30_begun.sg fun x => law30_begun.f k x.1 x.2.1 x.2.2
theorem law30_begun.ok (k : Nat) : CallOK Tryz.prog 34 (law30_begun.e k) := fn_ok (c := law30_begun.cx k) (code := law30_begun.body) (TT.of tt_ok pp_ok mm_ok) (fns_ok ⟨(peer_New.ok k), (ref24_Good.ok k), (peer_Peers_Heard.ok k), (ref29_Peers_Hear.ok k), trivial⟩) mixed Tryz.func34 (by kernel_rfl) (by kernel_rfl) (by kernel_rfl) (by kernel_rfl) (by kernel_rfl) (by kernel_rfl) (fun x => by kernel_rfl)
noncomputable def ref10_Short.body : Go.Code := Tryz.f171.body.getD .skip
noncomputable def ref10_Short.rs : List Go.ResultVar := Tryz.f171.results.toList
def ref10_Short.regs : List (Nat × RInfo) := [(0, ri [0] []), (1, ri [0,6] []), (2, ri [2] []), (3, ri [0,3] []), (4, ⟨[0, 3, 10], [], [], [], 0, [0, 3], [], [], [], []⟩), (6, ri [0,3,18] []), (7, ri [2] []), (5, ri [0,3] []), (8, ri [2] [])]
noncomputable def ref10_Short.cx (k : Nat) : Cx := ⟨tt, pp, [], ref10_Short.regs, k, mm⟩
@[reducible] def ref10_Short.sg : Sg := ⟨[.dat (.slc .str)], [], .dat .bool, []⟩
noncomputable def ref10_Short.f (k : Nat) (a0 : Ty.D (.slc .str)) : Option (Sg.Out ref10_Short.sg) := Sg.fn ref10_Short.sg (ref10_Short.cx k) ref10_Short.body ref10_Short.rs a0
noncomputable def ref10_Short.l4 (k : Nat) (n : Nat) (x0 : Ty.D (.slc .str)) (x3 : Ty.D (.int .i64)) : Option (Sg.Out ref10_Short.sg) := loopAt (ref10_Short.cx k) ref10_Short.body [1, 1, 0, 1, 0] 4 [0, 3] [] [] (Sg.K ref10_Short.sg (ref10_Short.cx k) ref10_Short.rs) n ⟨[(0, .dat (.slc .str) x0), (3, .dat (.int .i64) x3)], []⟩
theorem ref10_Short.f_eq (k : Nat) (a0 : Ty.D (.slc .str)) : ref10_Short.f k a0 = br (ilt 12 (ilen a0)) (some false) (ref10_Short.l4 k k a0 0) := by kernel_rfl
theorem ref10_Short.l4_eq (k : Nat) (n4 : Nat) (x0 : Ty.D (.slc .str)) (x3 : Ty.D (.int .i64)) : ref10_Short.l4 k (n4 + 1) x0 x3 = br (ilt x3 (ilen x0)) (br (inL x3 x0) (br (ilt 120 (ilen (rd .str x0 (natOf x3)))) (some false) (ref10_Short.l4 k n4 x0 (iadd .i64 x3 1))) none) (some true) := by kernel_rfl
noncomputable def ref10_Short.e (k : Nat) : Entry := Sg.entry ref10_Short.sg fun x => ref10_Short.f k x
theorem ref10_Short.ok (k : Nat) : CallOK Tryz.prog 171 (ref10_Short.e k) := fn_ok (c := ref10_Short.cx k) (code := ref10_Short.body) (TT.of tt_ok pp_ok mm_ok) (fns_ok trivial) mixed Tryz.func171 (by kernel_rfl) (by kernel_rfl) (by kernel_rfl) (by kernel_rfl) (by kernel_rfl) (by kernel_rfl) (fun x => by kernel_rfl)
noncomputable def ref11_Short.body : Go.Code := Tryz.f140.body.getD .skip
noncomputable def ref11_Short.rs : List Go.ResultVar := Tryz.f140.results.toList
def ref11_Short.regs : List (Nat × RInfo) := [(0, ⟨[1], [1], [0], [], 0, [], [], [], [], []⟩), (1, ri [2] [5])]
noncomputable def ref11_Short.cx (k : Nat) : Cx := ⟨tt, pp, [(171, (ref10_Short.e k))], ref11_Short.regs, k, mm⟩
@[reducible] def ref11_Short.sg : Sg := ⟨[.dat tOp], [], .dat .bool, []⟩
noncomputable def ref11_Short.f (k : Nat) (a0 : Ty.D tOp) : Option (Sg.Out ref11_Short.sg) := Sg.fn ref11_Short.sg (ref11_Short.cx k) ref11_Short.body ref11_Short.rs a0
theorem ref11_Short.f_eq (k : Nat) (a0 : Ty.D tOp) : ref11_Short.f k a0 = bnd (ref10_Short.f k a0.2.1) fun r0 => br r0 (br (ile (ilen a0.2.2.1.2.2) 200) (some (ile (ilen a0.2.2.2.2) 300)) (some false)) (some false) := by kernel_rfl
noncomputable def ref11_Short.e (k : Nat) : Entry := Sg.entry ref11_Short.sg fun x => ref11_Short.f k x
theorem ref11_Short.ok (k : Nat) : CallOK Tryz.prog 140 (ref11_Short.e k) := fn_ok (c := ref11_Short.cx k) (code := ref11_Short.body) (TT.of tt_ok pp_ok mm_ok) (fns_ok ⟨(ref10_Short.ok k), trivial⟩) mixed Tryz.func140 (by kernel_rfl) (by kernel_rfl) (by kernel_rfl) (by kernel_rfl) (by kernel_rfl) (by kernel_rfl) (fun x => by kernel_rfl)
noncomputable def ref12_Short.body : Go.Code := Tryz.f101.body.getD .skip
noncomputable def ref12_Short.rs : List Go.ResultVar := Tryz.f101.results.toList
def ref12_Short.regs : List (Nat × RInfo) := [(0, ⟨[1], [1], [0], [], 0, [], [], [], [], []⟩), (1, ri [1,7] [1]), (2, ri [2] []), (3, ri [1,3] [1]), (4, ⟨[1, 3, 12], [1], [], [], 0, [1, 3], [1], [], [], []⟩), (6, ri [1,3,21] [1]), (7, ri [2] []), (5, ri [1,3] [1]), (8, ri [2] [])]
noncomputable def ref12_Short.cx (k : Nat) : Cx := ⟨tt, pp, [(140, (ref11_Short.e k))], ref12_Short.regs, k, mm⟩
@[reducible] def ref12_Short.sg : Sg := ⟨[.dat tTxn], [], .dat .bool, []⟩
noncomputable def ref12_Short.f (k : Nat) (a0 : Ty.D tTxn) : Option (Sg.Out ref12_Short.sg) := Sg.fn ref12_Short.sg (ref12_Short.cx k) ref12_Short.body ref12_Short.rs a0
noncomputable def ref12_Short.l4 (k : Nat) (n : Nat) (x3 : Ty.D (.int .i64)) (m1 : Ty.D tTxn) : Option (Sg.Out ref12_Short.sg) := loopAt (ref12_Short.cx k) ref12_Short.body [1, 1, 0, 1, 0] 4 [1, 3] [1] [] (Sg.K ref12_Short.sg (ref12_Short.cx k) ref12_Short.rs) n ⟨[(1, .ref 1 []), (3, .dat (.int .i64) x3)], [(1, .dat tTxn m1)]⟩
theorem ref12_Short.f_eq (k : Nat) (a0 : Ty.D tTxn) : ref12_Short.f k a0 = br (ilt 20 (ilen a0.2.2.2.2)) (some false) (ref12_Short.l4 k k 0 a0) := by kernel_rfl
theorem ref12_Short.l4_eq (k : Nat) (n4 : Nat) (x3 : Ty.D (.int .i64)) (m1 : Ty.D tTxn) : ref12_Short.l4 k (n4 + 1) x3 m1 = br (ilt x3 (ilen m1.2.2.2.2)) (br (inL x3 m1.2.2.2.2) (bnd (ref11_Short.f k (rd tOp m1.2.2.2.2 (natOf x3))) fun r0 => br (bnot r0) (some false) (ref12_Short.l4 k n4 (iadd .i64 x3 1) m1)) none) (some true) := by kernel_rfl
noncomputable def ref12_Short.e (k : Nat) : Entry := Sg.entry ref12_Short.sg fun x => ref12_Short.f k x
theorem ref12_Short.ok (k : Nat) : CallOK Tryz.prog 101 (ref12_Short.e k) := fn_ok (c := ref12_Short.cx k) (code := ref12_Short.body) (TT.of tt_ok pp_ok mm_ok) (fns_ok ⟨(ref11_Short.ok k), trivial⟩) mixed Tryz.func101 (by kernel_rfl) (by kernel_rfl) (by kernel_rfl) (by kernel_rfl) (by kernel_rfl) (by kernel_rfl) (fun x => by kernel_rfl)
noncomputable def ref22_Short.body : Go.Code := Tryz.f71.body.getD .skip
noncomputable def ref22_Short.rs : List Go.ResultVar := Tryz.f71.results.toList
def ref22_Short.regs : List (Nat × RInfo) := [(0, ⟨[1], [1], [0], [], 0, [], [], [], [], []⟩), (1, ri [1,28] [1]), (2, ri [2] []), (3, ri [1,3] [1]), (4, ⟨[1, 3, 33], [1], [], [], 0, [1, 3], [1], [], [], []⟩), (6, ri [1,3,42] [1]), (7, ri [2] []), (5, ri [1,3] [1]), (8, ri [1,4] [1]), (9, ⟨[1, 4, 44], [1], [], [], 0, [1, 4], [1], [], [], []⟩), (11, ri [1,4,52] [1]), (12, ri [2] []), (10, ri [1,4] [1]), (13, ri [2] [])]
noncomputable def ref22_Short.cx (k : Nat) : Cx := ⟨tt, pp, [(101, (ref12_Short.e k))], ref22_Short.regs, k, mm⟩
@[reducible] def ref22_Short.sg : Sg := ⟨[.dat tState], [], .dat .bool, []⟩
noncomputable def ref22_Short.f (k : Nat) (a0 : Ty.D tState) : Option (Sg.Out ref22_Short.sg) := Sg.fn ref22_Short.sg (ref22_Short.cx k) ref22_Short.body ref22_Short.rs a0
noncomputable def ref22_Short.l4 (k : Nat) (n : Nat) (x3 : Ty.D (.int .i64)) (m1 : Ty.D tState) : Option (Sg.Out ref22_Short.sg) := loopAt (ref22_Short.cx k) ref22_Short.body [1, 1, 0, 1, 0] 4 [1, 3] [1] [] (Sg.K ref22_Short.sg (ref22_Short.cx k) ref22_Short.rs) n ⟨[(1, .ref 1 []), (3, .dat (.int .i64) x3)], [(1, .dat tState m1)]⟩
noncomputable def ref22_Short.l9 (k : Nat) (n : Nat) (x4 : Ty.D (.int .i64)) (m1 : Ty.D tState) : Option (Sg.Out ref22_Short.sg) := loopAt (ref22_Short.cx k) ref22_Short.body [1, 1, 1, 0, 1, 0] 9 [1, 4] [1] [] (Sg.K ref22_Short.sg (ref22_Short.cx k) ref22_Short.rs) n ⟨[(1, .ref 1 []), (4, .dat (.int .i64) x4)], [(1, .dat tState m1)]⟩
theorem ref22_Short.f_eq (k : Nat) (a0 : Ty.D tState) : ref22_Short.f k a0 = br (ilt 20 (ilen a0.1)) (some false) (br (ilt 100 (ilen a0.2.1)) (some false) (br (ilt 100 (ilen a0.2.2.1.2)) (some false) (br (ilt 100 (ilen a0.2.2.2.1.2)) (some false) (ref22_Short.l4 k k 0 a0)))) := by kernel_rfl
theorem ref22_Short.l4_eq (k : Nat) (n4 : Nat) (x3 : Ty.D (.int .i64)) (m1 : Ty.D tState) : ref22_Short.l4 k (n4 + 1) x3 m1 = br (ilt x3 (ilen m1.1)) (br (inL x3 m1.1) (bnd (ref12_Short.f k (rd tTxn m1.1 (natOf x3))) fun r0 => br (bnot r0) (some false) (ref22_Short.l4 k n4 (iadd .i64 x3 1) m1)) none) (ref22_Short.l9 k k 0 m1) := by kernel_rfl
theorem ref22_Short.l9_eq (k : Nat) (n9 : Nat) (x4 : Ty.D (.int .i64)) (m1 : Ty.D tState) : ref22_Short.l9 k (n9 + 1) x4 m1 = br (ilt x4 8) (br (inB x4 8) (br (ilt 40 (ilen (rd (.slc tDot) m1.2.2.2.2 (natOf x4)))) (some false) (ref22_Short.l9 k n9 (iadd .i64 x4 1) m1)) none) (some true) := by kernel_rfl
noncomputable def ref22_Short.e (k : Nat) : Entry := Sg.entry ref22_Short.sg fun x => ref22_Short.f k x
theorem ref22_Short.ok (k : Nat) : CallOK Tryz.prog 71 (ref22_Short.e k) := fn_ok (c := ref22_Short.cx k) (code := ref22_Short.body) (TT.of tt_ok pp_ok mm_ok) (fns_ok ⟨(ref12_Short.ok k), trivial⟩) mixed Tryz.func71 (by kernel_rfl) (by kernel_rfl) (by kernel_rfl) (by kernel_rfl) (by kernel_rfl) (by kernel_rfl) (fun x => by kernel_rfl)
noncomputable def ref12_Rises.body : Go.Code := Tryz.f93.body.getD .skip
noncomputable def ref12_Rises.rs : List Go.ResultVar := Tryz.f93.results.toList
def ref12_Rises.regs : List (Nat × RInfo) := [(0, ri [0] []), (1, ri [0,3] []), (2, ⟨[0, 3, 7], [], [], [], 0, [0, 3], [], [], [], []⟩), (4, rq [0,3,22] [] 13), (5, ri [2] []), (3, ri [0,3] []), (6, ri [2] [])]
noncomputable def ref12_Rises.cx (k : Nat) : Cx := ⟨tt, pp, [(129, (ref04_Compare.e k))], ref12_Rises.regs, k, mm⟩
@[reducible] def ref12_Rises.sg : Sg := ⟨[.dat (.slc tTxn)], [], .dat .bool, []⟩
noncomputable def ref12_Rises.f (k : Nat) (a0 : Ty.D (.slc tTxn)) : Option (Sg.Out ref12_Rises.sg) := Sg.fn ref12_Rises.sg (ref12_Rises.cx k) ref12_Rises.body ref12_Rises.rs a0
noncomputable def ref12_Rises.l2 (k : Nat) (n : Nat) (x0 : Ty.D (.slc tTxn)) (x3 : Ty.D (.int .i64)) : Option (Sg.Out ref12_Rises.sg) := loopAt (ref12_Rises.cx k) ref12_Rises.body [1, 0, 1, 0] 2 [0, 3] [] [] (Sg.K ref12_Rises.sg (ref12_Rises.cx k) ref12_Rises.rs) n ⟨[(0, .dat (.slc tTxn) x0), (3, .dat (.int .i64) x3)], []⟩
theorem ref12_Rises.f_eq (k : Nat) (a0 : Ty.D (.slc tTxn)) : ref12_Rises.f k a0 = ref12_Rises.l2 k k a0 1 := by kernel_rfl
theorem ref12_Rises.l2_eq (k : Nat) (n2 : Nat) (x0 : Ty.D (.slc tTxn)) (x3 : Ty.D (.int .i64)) : ref12_Rises.l2 k (n2 + 1) x0 x3 = br (ilt x3 (ilen x0)) (br (inL (isub .i64 x3 1) x0) (br (inL x3 x0) (bnd (ref04_Compare.f k ((rd tTxn x0 (natOf (isub .i64 x3 1))).1) ((rd tTxn x0 (natOf x3)).1)) fun r0 => br (bnot (ieq r0 (-1))) (some false) (ref12_Rises.l2 k n2 x0 (iadd .i64 x3 1))) none) none) (some true) := by kernel_rfl
noncomputable def ref12_Rises.e (k : Nat) : Entry := Sg.entry ref12_Rises.sg fun x => ref12_Rises.f k x
theorem ref12_Rises.ok (k : Nat) : CallOK Tryz.prog 93 (ref12_Rises.e k) := fn_ok (c := ref12_Rises.cx k) (code := ref12_Rises.body) (TT.of tt_ok pp_ok mm_ok) (fns_ok ⟨(ref04_Compare.ok k), trivial⟩) mixed Tryz.func93 (by kernel_rfl) (by kernel_rfl) (by kernel_rfl) (by kernel_rfl) (by kernel_rfl) (by kernel_rfl) (fun x => by kernel_rfl)
noncomputable def ref03_Char.body : Go.Code := Tryz.f196.body.getD .skip
noncomputable def ref03_Char.rs : List Go.ResultVar := Tryz.f196.results.toList
def ref03_Char.regs : List (Nat × RInfo) := [(0, ri [0] []), (1, ri [0,10] []), (2, ri [2,3] []), (3, ri [0,4] []), (4, ri [0,4] []), (6, ri [0,4,14] []), (7, ri [2,3] []), (8, ri [0,4,18] []), (9, ri [0,4,5,6] []), (10, ri [0,4,27] []), (11, ri [0,4,5,6] []), (12, ri [0,4,36] []), (13, ri [0,4,5,6] []), (5, ri [2,3] []), (14, ri [0,4,5,6,48] []), (15, ri [2,3] []), (16, ri [0,4,5,6,7] []), (17, ⟨[0, 4, 5, 6, 7, 51], [], [], [], 0, [0, 4, 5, 6, 7], [], [], [], []⟩), (19, ri [0,4,5,6,7,63] []), (20, ri [2,3] []), (21, ri [0,4,5,6,7] []), (18, ri [0,4,5,6,7] []), (22, ri [4,5,86] []), (23, ri [2,3] []), (24, ri [2,3] [])]
noncomputable def ref03_Char.cx (k : Nat) : Cx := ⟨tt, pp, [], ref03_Char.regs, k, mm⟩
@[reducible] def ref03_Char.sg : Sg := ⟨[.dat .str], [], .t2 (.dat (.int .i64)) (.dat (.int .i64)), []⟩
noncomputable def ref03_Char.f (k : Nat) (a0 : Ty.D .str) : Option (Sg.Out ref03_Char.sg) := Sg.fn ref03_Char.sg (ref03_Char.cx k) ref03_Char.body ref03_Char.rs a0
noncomputable def ref03_Char.l17 (k : Nat) (n : Nat) (x0 : Ty.D .str) (x4 : Ty.D (.int .i64)) (x5 : Ty.D (.int .i64)) (x6 : Ty.D (.int .i64)) (x7 : Ty.D (.int .i64)) : Option (Sg.Out ref03_Char.sg) := loopAt (ref03_Char.cx k) ref03_Char.body [1, 1, 1, 1, 1, 1, 0, 1, 0] 17 [0, 4, 5, 6, 7] [] [] (Sg.K ref03_Char.sg (ref03_Char.cx k) ref03_Char.rs) n ⟨[(0, .dat .str x0), (4, .dat (.int .i64) x4), (5, .dat (.int .i64) x5), (6, .dat (.int .i64) x6), (7, .dat (.int .i64) x7)], []⟩
theorem ref03_Char.f_eq (k : Nat) (a0 : Ty.D .str) : ref03_Char.f k a0 = br (ieq (ilen a0) 0) (some (0, 0)) (br (inL 0 a0) (br (ilt (iwrap .i64 (byteAt a0 0)) 128) (some ((iwrap .i64 (byteAt a0 0)), 1)) (br (ile 194 (iwrap .i64 (byteAt a0 0))) (br (ilt (iwrap .i64 (byteAt a0 0)) 224) (br (ilt (ilen a0) 2) (some (0, 0)) (ref03_Char.l17 k k a0 (isub .i64 (iwrap .i64 (byteAt a0 0)) 192) 2 128 1)) (br (ile 224 (iwrap .i64 (byteAt a0 0))) (br (ilt (iwrap .i64 (byteAt a0 0)) 240) (br (ilt (ilen a0) 3) (some (0, 0)) (ref03_Char.l17 k k a0 (isub .i64 (iwrap .i64 (byteAt a0 0)) 224) 3 2048 1)) (br (ile 240 (iwrap .i64 (byteAt a0 0))) (br (ilt (iwrap .i64 (byteAt a0 0)) 245) (br (ilt (ilen a0) 4) (some (0, 0)) (ref03_Char.l17 k k a0 (isub .i64 (iwrap .i64 (byteAt a0 0)) 240) 4 65536 1)) (some (0, 0))) (some (0, 0)))) (br (ile 240 (iwrap .i64 (byteAt a0 0))) (br (ilt (iwrap .i64 (byteAt a0 0)) 245) (br (ilt (ilen a0) 4) (some (0, 0)) (ref03_Char.l17 k k a0 (isub .i64 (iwrap .i64 (byteAt a0 0)) 240) 4 65536 1)) (some (0, 0))) (some (0, 0))))) (br (ile 224 (iwrap .i64 (byteAt a0 0))) (br (ilt (iwrap .i64 (byteAt a0 0)) 240) (br (ilt (ilen a0) 3) (some (0, 0)) (ref03_Char.l17 k k a0 (isub .i64 (iwrap .i64 (byteAt a0 0)) 224) 3 2048 1)) (br (ile 240 (iwrap .i64 (byteAt a0 0))) (br (ilt (iwrap .i64 (byteAt a0 0)) 245) (br (ilt (ilen a0) 4) (some (0, 0)) (ref03_Char.l17 k k a0 (isub .i64 (iwrap .i64 (byteAt a0 0)) 240) 4 65536 1)) (some (0, 0))) (some (0, 0)))) (br (ile 240 (iwrap .i64 (byteAt a0 0))) (br (ilt (iwrap .i64 (byteAt a0 0)) 245) (br (ilt (ilen a0) 4) (some (0, 0)) (ref03_Char.l17 k k a0 (isub .i64 (iwrap .i64 (byteAt a0 0)) 240) 4 65536 1)) (some (0, 0))) (some (0, 0)))))) none) := by kernel_rfl
theorem ref03_Char.l17_eq (k : Nat) (n17 : Nat) (x0 : Ty.D .str) (x4 : Ty.D (.int .i64)) (x5 : Ty.D (.int .i64)) (x6 : Ty.D (.int .i64)) (x7 : Ty.D (.int .i64)) : ref03_Char.l17 k (n17 + 1) x0 x4 x5 x6 x7 = br (ilt x7 x5) (br (inL x7 x0) (br (ilt (byteAt x0 x7) 128) (some (0, 0)) (br (inL x7 x0) (br (ilt 191 (byteAt x0 x7)) (some (0, 0)) (br (inL x7 x0) (ref03_Char.l17 k n17 x0 (isub .i64 (iadd .i64 (imul .i64 64 x4) (iwrap .i64 (byteAt x0 x7))) 128) x5 x6 (iadd .i64 x7 1)) none)) none)) none) (br (ilt x4 x6) (some (0, 0)) (br (ilt 1114111 x4) (some (0, 0)) (br (ile 55296 x4) (br (ile x4 57343) (some (0, 0)) (some (x4, x5))) (some (x4, x5))))) := by kernel_rfl
noncomputable def ref03_Char.e (k : Nat) : Entry := Sg.entry ref03_Char.sg fun x => ref03_Char.f k x
theorem ref03_Char.ok (k : Nat) : CallOK Tryz.prog 196 (ref03_Char.e k) := fn_ok (c := ref03_Char.cx k) (code := ref03_Char.body) (TT.of tt_ok pp_ok mm_ok) (fns_ok trivial) mixed Tryz.func196 (by kernel_rfl) (by kernel_rfl) (by kernel_rfl) (by kernel_rfl) (by kernel_rfl) (by kernel_rfl) (fun x => by kernel_rfl)
noncomputable def ref03_Runes.body : Go.Code := Tryz.f181.body.getD .skip
noncomputable def ref03_Runes.rs : List Go.ResultVar := Tryz.f181.results.toList
def ref03_Runes.regs : List (Nat × RInfo) := [(0, ri [0] []), (1, ri [0,4] []), (2, ri [0,4,5] []), (3, ⟨[0, 4, 5, 11], [], [], [], 0, [0, 4, 5], [], [], [], []⟩), (4, ri [0,4,5,6,7] [16]), (5, ri [0,4,5,6,7,20] [16]), (6, ri [2,3] []), (7, ⟨[0, 4, 5, 7], [16], [0, 3, 4], [], 0, [], [], [], [], []⟩), (8, ri [0,4,5] []), (9, ⟨[2, 3], [], [0, 1], [], 0, [], [], [], [], []⟩)]
noncomputable def ref03_Runes.cx (k : Nat) : Cx := ⟨tt, pp, [(196, (ref03_Char.e k))], ref03_Runes.regs, k, mm⟩
@[reducible] def ref03_Runes.sg : Sg := ⟨[.dat .str], [], .t2 (.dat (.slc (.int .i64))) (.dat .bool), []⟩
noncomputable def ref03_Runes.f (k : Nat) (a0 : Ty.D .str) : Option (Sg.Out ref03_Runes.sg) := Sg.fn ref03_Runes.sg (ref03_Runes.cx k) ref03_Runes.body ref03_Runes.rs a0
noncomputable def ref03_Runes.l3 (k : Nat) (n : Nat) (x0 : Ty.D .str) (x4 : List (Ty.D (.int .i64))) (x5 : Ty.D (.int .i64)) : Option (Sg.Out ref03_Runes.sg) := loopAt (ref03_Runes.cx k) ref03_Runes.body [1, 1, 0, 1, 0] 3 [0, 4, 5] [] [] (Sg.K ref03_Runes.sg (ref03_Runes.cx k) ref03_Runes.rs) n ⟨[(0, .dat .str x0), (4, .own (.int .i64) x4), (5, .dat (.int .i64) x5)], []⟩
theorem ref03_Runes.f_eq (k : Nat) (a0 : Ty.D .str) : ref03_Runes.f k a0 = ref03_Runes.l3 k k a0 [] 0 := by kernel_rfl
theorem ref03_Runes.l3_eq (k : Nat) (n3 : Nat) (x0 : Ty.D .str) (x4 : List (Ty.D (.int .i64))) (x5 : Ty.D (.int .i64)) : ref03_Runes.l3 k (n3 + 1) x0 x4 x5 = br (ilt x5 (ilen x0)) (br (inS x5 (ilen x0) (ilen x0)) (bnd (ref03_Char.f k (piece x0 x5 (ilen x0))) fun r0 => br (ieq r0.2 0) (some ([], false)) (br (room x4 (r0.1 :: [])) (ref03_Runes.l3 k n3 x0 (app x4 (r0.1 :: [])) (iadd .i64 x5 r0.2)) none)) none) (some (x4, true)) := by kernel_rfl
noncomputable def ref03_Runes.e (k : Nat) : Entry := Sg.entry ref03_Runes.sg fun x => ref03_Runes.f k x
theorem ref03_Runes.ok (k : Nat) : CallOK Tryz.prog 181 (ref03_Runes.e k) := fn_ok (c := ref03_Runes.cx k) (code := ref03_Runes.body) (TT.of tt_ok pp_ok mm_ok) (fns_ok ⟨(ref03_Char.ok k), trivial⟩) mixed Tryz.func181 (by kernel_rfl) (by kernel_rfl) (by kernel_rfl) (by kernel_rfl) (by kernel_rfl) (by kernel_rfl) (fun x => by kernel_rfl)
noncomputable def ref03_may.body : Go.Code := Tryz.f195.body.getD .skip
noncomputable def ref03_may.rs : List Go.ResultVar := Tryz.f195.results.toList
def ref03_may.regs : List (Nat × RInfo) := [(0, ri [0] []), (1, ri [2] [])]
noncomputable def ref03_may.cx (k : Nat) : Cx := ⟨tt, pp, [], ref03_may.regs, k, mm⟩
@[reducible] def ref03_may.sg : Sg := ⟨[.dat (.int .i64)], [], .dat .bool, []⟩
noncomputable def ref03_may.f (k : Nat) (a0 : Ty.D (.int .i64)) : Option (Sg.Out ref03_may.sg) := Sg.fn ref03_may.sg (ref03_may.cx k) ref03_may.body ref03_may.rs a0
theorem ref03_may.f_eq (k : Nat) (a0 : Ty.D (.int .i64)) : ref03_may.f k a0 = br (ile 32 a0) (br (ilt a0 127) (some (bnot (ieq a0 65533))) (br (ilt 159 a0) (some (bnot (ieq a0 65533))) (some false))) (some false) := by kernel_rfl
noncomputable def ref03_may.e (k : Nat) : Entry := Sg.entry ref03_may.sg fun x => ref03_may.f k x
theorem ref03_may.ok (k : Nat) : CallOK Tryz.prog 195 (ref03_may.e k) := fn_ok (c := ref03_may.cx k) (code := ref03_may.body) (TT.of tt_ok pp_ok mm_ok) (fns_ok trivial) mixed Tryz.func195 (by kernel_rfl) (by kernel_rfl) (by kernel_rfl) (by kernel_rfl) (by kernel_rfl) (by kernel_rfl) (fun x => by kernel_rfl)
noncomputable def ref03_Right.body : Go.Code := Tryz.f180.body.getD .skip
noncomputable def ref03_Right.rs : List Go.ResultVar := Tryz.f180.results.toList
def ref03_Right.regs : List (Nat × RInfo) := [(0, ri [0] []), (1, ⟨[3, 4], [8], [5], [], 0, [], [], [], [], []⟩), (2, ri [3,4,5] [8]), (3, ⟨[3, 4, 5, 14], [8], [], [], 0, [3, 4, 5], [8], [], [], []⟩), (5, ri [3,4,5,22] [8]), (6, ri [2] [8]), (4, ri [3,4,5] [8]), (7, ri [2] [8])]
noncomputable def ref03_Right.cx (k : Nat) : Cx := ⟨tt, pp, [(181, (ref03_Runes.e k)), (195, (ref03_may.e k))], ref03_Right.regs, k, mm⟩
@[reducible] def ref03_Right.sg : Sg := ⟨[.dat .str], [], .dat .bool, []⟩
noncomputable def ref03_Right.f (k : Nat) (a0 : Ty.D .str) : Option (Sg.Out ref03_Right.sg) := Sg.fn ref03_Right.sg (ref03_Right.cx k) ref03_Right.body ref03_Right.rs a0
noncomputable def ref03_Right.l3 (k : Nat) (n : Nat) (x3 : Ty.D (.slc (.int .i64))) (x4 : Ty.D .bool) (x5 : Ty.D (.int .i64)) : Option (Sg.Out ref03_Right.sg) := loopAt (ref03_Right.cx k) ref03_Right.body [1, 1, 0, 1, 0] 3 [3, 4, 5] [8] [] (Sg.K ref03_Right.sg (ref03_Right.cx k) ref03_Right.rs) n ⟨[(3, .dat (.slc (.int .i64)) x3), (4, .dat .bool x4), (5, .dat (.int .i64) x5)], []⟩
theorem ref03_Right.f_eq (k : Nat) (a0 : Ty.D .str) : ref03_Right.f k a0 = bnd (ref03_Runes.f k a0) fun r0 => ref03_Right.l3 k k r0.1 r0.2 0 := by kernel_rfl
theorem ref03_Right.l3_eq (k : Nat) (n3 : Nat) (x3 : Ty.D (.slc (.int .i64))) (x4 : Ty.D .bool) (x5 : Ty.D (.int .i64)) : ref03_Right.l3 k (n3 + 1) x3 x4 x5 = br (ilt x5 (ilen x3)) (br (inL x5 x3) (bnd (ref03_may.f k (rd (.int .i64) x3 (natOf x5))) fun r0 => br (bnot r0) (some false) (ref03_Right.l3 k n3 x3 x4 (iadd .i64 x5 1))) none) (br x4 (br (ile 1 (ilen x3)) (some (ile (ilen x3) 24)) (some false)) (some false)) := by kernel_rfl
noncomputable def ref03_Right.e (k : Nat) : Entry := Sg.entry ref03_Right.sg fun x => ref03_Right.f k x
theorem ref03_Right.ok (k : Nat) : CallOK Tryz.prog 180 (ref03_Right.e k) := fn_ok (c := ref03_Right.cx k) (code := ref03_Right.body) (TT.of tt_ok pp_ok mm_ok) (fns_ok ⟨(ref03_Runes.ok k), (ref03_may.ok k), trivial⟩) mixed Tryz.func180 (by kernel_rfl) (by kernel_rfl) (by kernel_rfl) (by kernel_rfl) (by kernel_rfl) (by kernel_rfl) (fun x => by kernel_rfl)
noncomputable def ref10_Check.body : Go.Code := Tryz.f163.body.getD .skip
noncomputable def ref10_Check.rs : List Go.ResultVar := Tryz.f163.results.toList
def ref10_Check.regs : List (Nat × RInfo) := [(0, ri [0] []), (1, ri [0,6] []), (2, ri [2] []), (3, ri [0,9] []), (4, ri [2] []), (5, ri [0,3] []), (6, ⟨[0, 3, 13], [], [], [], 0, [0, 3], [], [], [], []⟩), (8, ri [0,3,21] []), (9, ri [2] []), (7, ri [0,3] []), (10, ri [2] [])]
noncomputable def ref10_Check.cx (k : Nat) : Cx := ⟨tt, pp, [(180, (ref03_Right.e k))], ref10_Check.regs, k, mm⟩
@[reducible] def ref10_Check.sg : Sg := ⟨[.dat (.slc .str)], [], .dat (.int .i64), []⟩
noncomputable def ref10_Check.f (k : Nat) (a0 : Ty.D (.slc .str)) : Option (Sg.Out ref10_Check.sg) := Sg.fn ref10_Check.sg (ref10_Check.cx k) ref10_Check.body ref10_Check.rs a0
noncomputable def ref10_Check.l6 (k : Nat) (n : Nat) (x0 : Ty.D (.slc .str)) (x3 : Ty.D (.int .i64)) : Option (Sg.Out ref10_Check.sg) := loopAt (ref10_Check.cx k) ref10_Check.body [1, 1, 1, 0, 1, 0] 6 [0, 3] [] [] (Sg.K ref10_Check.sg (ref10_Check.cx k) ref10_Check.rs) n ⟨[(0, .dat (.slc .str) x0), (3, .dat (.int .i64) x3)], []⟩
theorem ref10_Check.f_eq (k : Nat) (a0 : Ty.D (.slc .str)) : ref10_Check.f k a0 = br (ieq (ilen a0) 0) (some 8) (br (ilt 8 (ilen a0)) (some 9) (ref10_Check.l6 k k a0 0)) := by kernel_rfl
theorem ref10_Check.l6_eq (k : Nat) (n6 : Nat) (x0 : Ty.D (.slc .str)) (x3 : Ty.D (.int .i64)) : ref10_Check.l6 k (n6 + 1) x0 x3 = br (ilt x3 (ilen x0)) (br (inL x3 x0) (bnd (ref03_Right.f k (rd .str x0 (natOf x3))) fun r0 => br (bnot r0) (some 8) (ref10_Check.l6 k n6 x0 (iadd .i64 x3 1))) none) (some 0) := by kernel_rfl
noncomputable def ref10_Check.e (k : Nat) : Entry := Sg.entry ref10_Check.sg fun x => ref10_Check.f k x
theorem ref10_Check.ok (k : Nat) : CallOK Tryz.prog 163 (ref10_Check.e k) := fn_ok (c := ref10_Check.cx k) (code := ref10_Check.body) (TT.of tt_ok pp_ok mm_ok) (fns_ok ⟨(ref03_Right.ok k), trivial⟩) mixed Tryz.func163 (by kernel_rfl) (by kernel_rfl) (by kernel_rfl) (by kernel_rfl) (by kernel_rfl) (by kernel_rfl) (fun x => by kernel_rfl)
noncomputable def ref09_Right.body : Go.Code := Tryz.f164.body.getD .skip
noncomputable def ref09_Right.rs : List Go.ResultVar := Tryz.f164.results.toList
def ref09_Right.regs : List (Nat × RInfo) := [(0, ri [1] [1]), (1, ri [1,7] [1]), (2, ri [2] [27]), (3, ri [1,23] [1]), (4, ⟨[1, 4], [1, 27], [6], [], 0, [], [], [], [], []⟩), (5, ri [2] [27]), (6, ri [2] [27])]
noncomputable def ref09_Right.cx (k : Nat) : Cx := ⟨tt, pp, [(181, (ref03_Runes.e k))], ref09_Right.regs, k, mm⟩
@[reducible] def ref09_Right.sg : Sg := ⟨[.dat tValue], [], .dat .bool, []⟩
noncomputable def ref09_Right.f (k : Nat) (a0 : Ty.D tValue) : Option (Sg.Out ref09_Right.sg) := Sg.fn ref09_Right.sg (ref09_Right.cx k) ref09_Right.body ref09_Right.rs a0
theorem ref09_Right.f_eq (k : Nat) (a0 : Ty.D tValue) : ref09_Right.f k a0 = br (ieq a0.1 1) (br (seq a0.2.2 []) (br (ile (-2147483647) a0.2.1) (some (ile a0.2.1 2147483647)) (some false)) (some false)) (br (ieq a0.1 2) (bnd (ref03_Runes.f k a0.2.2) fun r0 => br (ieq a0.2.1 0) (br r0.2 (some (ile (ilen a0.2.2) 64)) (some false)) (some false)) (br (ieq a0.1 3) (br (seq a0.2.2 []) (br (ile 0 a0.2.1) (some (ile a0.2.1 1)) (some false)) (some false)) (some false))) := by kernel_rfl
noncomputable def ref09_Right.e (k : Nat) : Entry := Sg.entry ref09_Right.sg fun x => ref09_Right.f k x
theorem ref09_Right.ok (k : Nat) : CallOK Tryz.prog 164 (ref09_Right.e k) := fn_ok (c := ref09_Right.cx k) (code := ref09_Right.body) (TT.of tt_ok pp_ok mm_ok) (fns_ok ⟨(ref03_Runes.ok k), trivial⟩) mixed Tryz.func164 (by kernel_rfl) (by kernel_rfl) (by kernel_rfl) (by kernel_rfl) (by kernel_rfl) (by kernel_rfl) (fun x => by kernel_rfl)
noncomputable def ref04_Refs.body : Go.Code := Tryz.f182.body.getD .skip
noncomputable def ref04_Refs.rs : List Go.ResultVar := Tryz.f182.results.toList
def ref04_Refs.regs : List (Nat × RInfo) := [(0, ri [2,3] [2,3]), (1, ri [2,3,10] [2,3]), (2, ri [4] [15,20]), (3, ri [4] [15,20])]
noncomputable def ref04_Refs.cx (k : Nat) : Cx := ⟨tt, pp, [(129, (ref04_Compare.e k)), (162, (ref04_ints.e k))], ref04_Refs.regs, k, mm⟩
@[reducible] def ref04_Refs.sg : Sg := ⟨[.dat tUndo, .dat tUndo], [], .dat (.int .i64), []⟩
noncomputable def ref04_Refs.f (k : Nat) (a0 : Ty.D tUndo) (a1 : Ty.D tUndo) : Option (Sg.Out ref04_Refs.sg) := Sg.fn ref04_Refs.sg (ref04_Refs.cx k) ref04_Refs.body ref04_Refs.rs (a0, a1)
theorem ref04_Refs.f_eq (k : Nat) (a0 : Ty.D tUndo) (a1 : Ty.D tUndo) : ref04_Refs.f k a0 a1 = bnd (ref04_Compare.f k a0.1 a1.1) fun r0 => br (bnot (ieq r0 0)) (bnd (ref04_Compare.f k a0.1 a1.1) fun r1 => some r1) (bnd (ref04_ints.f k a0.2 a1.2) fun r2 => some r2) := by kernel_rfl
noncomputable def ref04_Refs.e (k : Nat) : Entry := Sg.entry ref04_Refs.sg fun x => ref04_Refs.f k x.1 x.2
theorem ref04_Refs.ok (k : Nat) : CallOK Tryz.prog 182 (ref04_Refs.e k) := fn_ok (c := ref04_Refs.cx k) (code := ref04_Refs.body) (TT.of tt_ok pp_ok mm_ok) (fns_ok ⟨(ref04_Compare.ok k), (ref04_ints.ok k), trivial⟩) mixed Tryz.func182 (by kernel_rfl) (by kernel_rfl) (by kernel_rfl) (by kernel_rfl) (by kernel_rfl) (by kernel_rfl) (fun x => by kernel_rfl)
noncomputable def ref11_Refs.body : Go.Code := Tryz.f165.body.getD .skip
noncomputable def ref11_Refs.rs : List Go.ResultVar := Tryz.f165.results.toList
def ref11_Refs.regs : List (Nat × RInfo) := [(0, ri [0] []), (1, ri [0,3] []), (2, ⟨[0, 3, 7], [], [], [], 0, [0, 3], [], [], [], []⟩), (4, ri [0,3,32] []), (5, ri [2] []), (6, rq [0,3,47] [] 15), (7, ri [2] []), (3, ri [0,3] []), (8, ri [2] [])]
noncomputable def ref11_Refs.cx (k : Nat) : Cx := ⟨tt, pp, [(97, (ref04_Right.e k)), (182, (ref04_Refs.e k))], ref11_Refs.regs, k, mm⟩
@[reducible] def ref11_Refs.sg : Sg := ⟨[.dat (.slc tUndo)], [], .dat .bool, []⟩
noncomputable def ref11_Refs.f (k : Nat) (a0 : Ty.D (.slc tUndo)) : Option (Sg.Out ref11_Refs.sg) := Sg.fn ref11_Refs.sg (ref11_Refs.cx k) ref11_Refs.body ref11_Refs.rs a0
noncomputable def ref11_Refs.l2 (k : Nat) (n : Nat) (x0 : Ty.D (.slc tUndo)) (x3 : Ty.D (.int .i64)) : Option (Sg.Out ref11_Refs.sg) := loopAt (ref11_Refs.cx k) ref11_Refs.body [1, 0, 1, 0] 2 [0, 3] [] [] (Sg.K ref11_Refs.sg (ref11_Refs.cx k) ref11_Refs.rs) n ⟨[(0, .dat (.slc tUndo) x0), (3, .dat (.int .i64) x3)], []⟩
theorem ref11_Refs.f_eq (k : Nat) (a0 : Ty.D (.slc tUndo)) : ref11_Refs.f k a0 = ref11_Refs.l2 k k a0 0 := by kernel_rfl
theorem ref11_Refs.l2_eq (k : Nat) (n2 : Nat) (x0 : Ty.D (.slc tUndo)) (x3 : Ty.D (.int .i64)) : ref11_Refs.l2 k (n2 + 1) x0 x3 = br (ilt x3 (ilen x0)) (br (inL x3 x0) (bnd (ref04_Right.f k ((rd tUndo x0 (natOf x3)).1)) fun r0 => br (bnot r0) (some false) (br (inL x3 x0) (br (ilt ((rd tUndo x0 (natOf x3)).2) 0) (some false) (br (inL x3 x0) (br (ilt 15 ((rd tUndo x0 (natOf x3)).2)) (some false) (br (ilt 0 x3) (br (inL (isub .i64 x3 1) x0) (br (inL x3 x0) (bnd (ref04_Refs.f k (rd tUndo x0 (natOf (isub .i64 x3 1))) (rd tUndo x0 (natOf x3))) fun r1 => br (bnot (ieq r1 (-1))) (some false) (ref11_Refs.l2 k n2 x0 (iadd .i64 x3 1))) none) none) (ref11_Refs.l2 k n2 x0 (iadd .i64 x3 1)))) none)) none)) none) (some true) := by kernel_rfl
noncomputable def ref11_Refs.e (k : Nat) : Entry := Sg.entry ref11_Refs.sg fun x => ref11_Refs.f k x
theorem ref11_Refs.ok (k : Nat) : CallOK Tryz.prog 165 (ref11_Refs.e k) := fn_ok (c := ref11_Refs.cx k) (code := ref11_Refs.body) (TT.of tt_ok pp_ok mm_ok) (fns_ok ⟨(ref04_Right.ok k), (ref04_Refs.ok k), trivial⟩) mixed Tryz.func165 (by kernel_rfl) (by kernel_rfl) (by kernel_rfl) (by kernel_rfl) (by kernel_rfl) (by kernel_rfl) (fun x => by kernel_rfl)
end Go.Proofs.YtoikjekpckhgeaaGreat
end
section
/- The program's functions, as plain equations. -/
namespace Go.Proofs.YtoikjekpckhgeaaGreat
open Pal
set_option maxRecDepth 100000
noncomputable def ref11_Check.body : Go.Code := Tryz.f132.body.getD .skip
noncomputable def ref11_Check.rs : List Go.ResultVar := Tryz.f132.results.toList
def ref11_Check.regs : List (Nat × RInfo) := [(0, ⟨[1], [1], [0], [], 0, [], [], [], [], []⟩), (1, ri [1,12] [1]), (2, ri [2] [15]), (3, ri [1,3] [1,15]), (4, ri [1,3,17] [1,15]), (5, ri [2] [15]), (6, ri [1,4] [1,4]), (7, ri [1,33] [1]), (8, ri [2] [15]), (9, ri [1,47] [1]), (10, ri [2] [15]), (11, ri [1,75] [1]), (12, ri [2] [15]), (13, ri [1,89] [1]), (14, ri [2] [15]), (15, ri [1,93] [1]), (16, ri [2] [15]), (17, ri [97] []), (18, ri [2] [15]), (19, ri [2] [15])]
noncomputable def ref11_Check.cx (k : Nat) : Cx := ⟨tt, pp, [(163, (ref10_Check.e k)), (164, (ref09_Right.e k)), (165, (ref11_Refs.e k))], ref11_Check.regs, k, mm⟩
@[reducible] def ref11_Check.sg : Sg := ⟨[.dat tOp], [], .dat (.int .i64), []⟩
noncomputable def ref11_Check.f (k : Nat) (a0 : Ty.D tOp) : Option (Sg.Out ref11_Check.sg) := Sg.fn ref11_Check.sg (ref11_Check.cx k) ref11_Check.body ref11_Check.rs a0
theorem ref11_Check.f_eq (k : Nat) (a0 : Ty.D tOp) : ref11_Check.f k a0 = br (ilt a0.1 1) (some 18) (br (ilt 5 a0.1) (some 18) (bnd (ref10_Check.f k a0.2.1) fun r0 => br (bnot (ieq r0 0)) (some r0) (br (ieq a0.1 3) (br (bnot (deq tValue a0.2.2.1 (0, (0, [])))) (some 2) (br (bnot (ieq a0.1 3)) (br (bnot (ieq a0.1 5)) (bnd (ref09_Right.f k a0.2.2.1) fun r1 => br (bnot r1) (some 2) (br (bnot (ieq a0.1 3)) (br (bnot (ieq a0.2.2.2.1 0)) (some 2) (br (ieq a0.1 3) (br (ieq a0.2.2.2.1 0) (some 2) (br (ilt 2147483647 a0.2.2.2.1) (some 2) (br (ilt a0.2.2.2.1 (-2147483647)) (some 2) (br (ieq a0.1 2) (br (ilt 0 (ilen a0.2.2.2.2)) (some 2) (br (ilt 256 (ilen a0.2.2.2.2)) (some 7) (bnd (ref11_Refs.f k a0.2.2.2.2) fun r2 => br (bnot r2) (some 2) (some 0)))) (br (ieq a0.1 3) (br (ilt 0 (ilen a0.2.2.2.2)) (some 2) (br (ilt 256 (ilen a0.2.2.2.2)) (some 7) (bnd (ref11_Refs.f k a0.2.2.2.2) fun r3 => br (bnot r3) (some 2) (some 0)))) (br (ilt 256 (ilen a0.2.2.2.2)) (some 7) (bnd (ref11_Refs.f k a0.2.2.2.2) fun r4 => br (bnot r4) (some 2) (some 0)))))))) (br (ieq a0.1 2) (br (ilt 0 (ilen a0.2.2.2.2)) (some 2) (br (ilt 256 (ilen a0.2.2.2.2)) (some 7) (bnd (ref11_Refs.f k a0.2.2.2.2) fun r5 => br (bnot r5) (some 2) (some 0)))) (br (ieq a0.1 3) (br (ilt 0 (ilen a0.2.2.2.2)) (some 2) (br (ilt 256 (ilen a0.2.2.2.2)) (some 7) (bnd (ref11_Refs.f k a0.2.2.2.2) fun r6 => br (bnot r6) (some 2) (some 0)))) (br (ilt 256 (ilen a0.2.2.2.2)) (some 7) (bnd (ref11_Refs.f k a0.2.2.2.2) fun r7 => br (bnot r7) (some 2) (some 0))))))) (br (ieq a0.1 3) (br (ieq a0.2.2.2.1 0) (some 2) (br (ilt 2147483647 a0.2.2.2.1) (some 2) (br (ilt a0.2.2.2.1 (-2147483647)) (some 2) (br (ieq a0.1 2) (br (ilt 0 (ilen a0.2.2.2.2)) (some 2) (br (ilt 256 (ilen a0.2.2.2.2)) (some 7) (bnd (ref11_Refs.f k a0.2.2.2.2) fun r8 => br (bnot r8) (some 2) (some 0)))) (br (ieq a0.1 3) (br (ilt 0 (ilen a0.2.2.2.2)) (some 2) (br (ilt 256 (ilen a0.2.2.2.2)) (some 7) (bnd (ref11_Refs.f k a0.2.2.2.2) fun r9 => br (bnot r9) (some 2) (some 0)))) (br (ilt 256 (ilen a0.2.2.2.2)) (some 7) (bnd (ref11_Refs.f k a0.2.2.2.2) fun r10 => br (bnot r10) (some 2) (some 0)))))))) (br (ieq a0.1 2) (br (ilt 0 (ilen a0.2.2.2.2)) (some 2) (br (ilt 256 (ilen a0.2.2.2.2)) (some 7) (bnd (ref11_Refs.f k a0.2.2.2.2) fun r11 => br (bnot r11) (some 2) (some 0)))) (br (ieq a0.1 3) (br (ilt 0 (ilen a0.2.2.2.2)) (some 2) (br (ilt 256 (ilen a0.2.2.2.2)) (some 7) (bnd (ref11_Refs.f k a0.2.2.2.2) fun r12 => br (bnot r12) (some 2) (some 0)))) (br (ilt 256 (ilen a0.2.2.2.2)) (some 7) (bnd (ref11_Refs.f k a0.2.2.2.2) fun r13 => br (bnot r13) (some 2) (some 0)))))))) (br (bnot (ieq a0.1 3)) (br (bnot (ieq a0.2.2.2.1 0)) (some 2) (br (ieq a0.1 3) (br (ieq a0.2.2.2.1 0) (some 2) (br (ilt 2147483647 a0.2.2.2.1) (some 2) (br (ilt a0.2.2.2.1 (-2147483647)) (some 2) (br (ieq a0.1 2) (br (ilt 0 (ilen a0.2.2.2.2)) (some 2) (br (ilt 256 (ilen a0.2.2.2.2)) (some 7) (bnd (ref11_Refs.f k a0.2.2.2.2) fun r14 => br (bnot r14) (some 2) (some 0)))) (br (ieq a0.1 3) (br (ilt 0 (ilen a0.2.2.2.2)) (some 2) (br (ilt 256 (ilen a0.2.2.2.2)) (some 7) (bnd (ref11_Refs.f k a0.2.2.2.2) fun r15 => br (bnot r15) (some 2) (some 0)))) (br (ilt 256 (ilen a0.2.2.2.2)) (some 7) (bnd (ref11_Refs.f k a0.2.2.2.2) fun r16 => br (bnot r16) (some 2) (some 0)))))))) (br (ieq a0.1 2) (br (ilt 0 (ilen a0.2.2.2.2)) (some 2) (br (ilt 256 (ilen a0.2.2.2.2)) (some 7) (bnd (ref11_Refs.f k a0.2.2.2.2) fun r17 => br (bnot r17) (some 2) (some 0)))) (br (ieq a0.1 3) (br (ilt 0 (ilen a0.2.2.2.2)) (some 2) (br (ilt 256 (ilen a0.2.2.2.2)) (some 7) (bnd (ref11_Refs.f k a0.2.2.2.2) fun r18 => br (bnot r18) (some 2) (some 0)))) (br (ilt 256 (ilen a0.2.2.2.2)) (some 7) (bnd (ref11_Refs.f k a0.2.2.2.2) fun r19 => br (bnot r19) (some 2) (some 0))))))) (br (ieq a0.1 3) (br (ieq a0.2.2.2.1 0) (some 2) (br (ilt 2147483647 a0.2.2.2.1) (some 2) (br (ilt a0.2.2.2.1 (-2147483647)) (some 2) (br (ieq a0.1 2) (br (ilt 0 (ilen a0.2.2.2.2)) (some 2) (br (ilt 256 (ilen a0.2.2.2.2)) (some 7) (bnd (ref11_Refs.f k a0.2.2.2.2) fun r20 => br (bnot r20) (some 2) (some 0)))) (br (ieq a0.1 3) (br (ilt 0 (ilen a0.2.2.2.2)) (some 2) (br (ilt 256 (ilen a0.2.2.2.2)) (some 7) (bnd (ref11_Refs.f k a0.2.2.2.2) fun r21 => br (bnot r21) (some 2) (some 0)))) (br (ilt 256 (ilen a0.2.2.2.2)) (some 7) (bnd (ref11_Refs.f k a0.2.2.2.2) fun r22 => br (bnot r22) (some 2) (some 0)))))))) (br (ieq a0.1 2) (br (ilt 0 (ilen a0.2.2.2.2)) (some 2) (br (ilt 256 (ilen a0.2.2.2.2)) (some 7) (bnd (ref11_Refs.f k a0.2.2.2.2) fun r23 => br (bnot r23) (some 2) (some 0)))) (br (ieq a0.1 3) (br (ilt 0 (ilen a0.2.2.2.2)) (some 2) (br (ilt 256 (ilen a0.2.2.2.2)) (some 7) (bnd (ref11_Refs.f k a0.2.2.2.2) fun r24 => br (bnot r24) (some 2) (some 0)))) (br (ilt 256 (ilen a0.2.2.2.2)) (some 7) (bnd (ref11_Refs.f k a0.2.2.2.2) fun r25 => br (bnot r25) (some 2) (some 0)))))))) (br (bnot (ieq a0.1 3)) (br (bnot (ieq a0.2.2.2.1 0)) (some 2) (br (ieq a0.1 3) (br (ieq a0.2.2.2.1 0) (some 2) (br (ilt 2147483647 a0.2.2.2.1) (some 2) (br (ilt a0.2.2.2.1 (-2147483647)) (some 2) (br (ieq a0.1 2) (br (ilt 0 (ilen a0.2.2.2.2)) (some 2) (br (ilt 256 (ilen a0.2.2.2.2)) (some 7) (bnd (ref11_Refs.f k a0.2.2.2.2) fun r26 => br (bnot r26) (some 2) (some 0)))) (br (ieq a0.1 3) (br (ilt 0 (ilen a0.2.2.2.2)) (some 2) (br (ilt 256 (ilen a0.2.2.2.2)) (some 7) (bnd (ref11_Refs.f k a0.2.2.2.2) fun r27 => br (bnot r27) (some 2) (some 0)))) (br (ilt 256 (ilen a0.2.2.2.2)) (some 7) (bnd (ref11_Refs.f k a0.2.2.2.2) fun r28 => br (bnot r28) (some 2) (some 0)))))))) (br (ieq a0.1 2) (br (ilt 0 (ilen a0.2.2.2.2)) (some 2) (br (ilt 256 (ilen a0.2.2.2.2)) (some 7) (bnd (ref11_Refs.f k a0.2.2.2.2) fun r29 => br (bnot r29) (some 2) (some 0)))) (br (ieq a0.1 3) (br (ilt 0 (ilen a0.2.2.2.2)) (some 2) (br (ilt 256 (ilen a0.2.2.2.2)) (some 7) (bnd (ref11_Refs.f k a0.2.2.2.2) fun r30 => br (bnot r30) (some 2) (some 0)))) (br (ilt 256 (ilen a0.2.2.2.2)) (some 7) (bnd (ref11_Refs.f k a0.2.2.2.2) fun r31 => br (bnot r31) (some 2) (some 0))))))) (br (ieq a0.1 3) (br (ieq a0.2.2.2.1 0) (some 2) (br (ilt 2147483647 a0.2.2.2.1) (some 2) (br (ilt a0.2.2.2.1 (-2147483647)) (some 2) (br (ieq a0.1 2) (br (ilt 0 (ilen a0.2.2.2.2)) (some 2) (br (ilt 256 (ilen a0.2.2.2.2)) (some 7) (bnd (ref11_Refs.f k a0.2.2.2.2) fun r32 => br (bnot r32) (some 2) (some 0)))) (br (ieq a0.1 3) (br (ilt 0 (ilen a0.2.2.2.2)) (some 2) (br (ilt 256 (ilen a0.2.2.2.2)) (some 7) (bnd (ref11_Refs.f k a0.2.2.2.2) fun r33 => br (bnot r33) (some 2) (some 0)))) (br (ilt 256 (ilen a0.2.2.2.2)) (some 7) (bnd (ref11_Refs.f k a0.2.2.2.2) fun r34 => br (bnot r34) (some 2) (some 0)))))))) (br (ieq a0.1 2) (br (ilt 0 (ilen a0.2.2.2.2)) (some 2) (br (ilt 256 (ilen a0.2.2.2.2)) (some 7) (bnd (ref11_Refs.f k a0.2.2.2.2) fun r35 => br (bnot r35) (some 2) (some 0)))) (br (ieq a0.1 3) (br (ilt 0 (ilen a0.2.2.2.2)) (some 2) (br (ilt 256 (ilen a0.2.2.2.2)) (some 7) (bnd (ref11_Refs.f k a0.2.2.2.2) fun r36 => br (bnot r36) (some 2) (some 0)))) (br (ilt 256 (ilen a0.2.2.2.2)) (some 7) (bnd (ref11_Refs.f k a0.2.2.2.2) fun r37 => br (bnot r37) (some 2) (some 0))))))))) (br (ieq a0.1 5) (br (bnot (deq tValue a0.2.2.1 (0, (0, [])))) (some 2) (br (bnot (ieq a0.1 3)) (br (bnot (ieq a0.1 5)) (bnd (ref09_Right.f k a0.2.2.1) fun r38 => br (bnot r38) (some 2) (br (bnot (ieq a0.1 3)) (br (bnot (ieq a0.2.2.2.1 0)) (some 2) (br (ieq a0.1 3) (br (ieq a0.2.2.2.1 0) (some 2) (br (ilt 2147483647 a0.2.2.2.1) (some 2) (br (ilt a0.2.2.2.1 (-2147483647)) (some 2) (br (ieq a0.1 2) (br (ilt 0 (ilen a0.2.2.2.2)) (some 2) (br (ilt 256 (ilen a0.2.2.2.2)) (some 7) (bnd (ref11_Refs.f k a0.2.2.2.2) fun r39 => br (bnot r39) (some 2) (some 0)))) (br (ieq a0.1 3) (br (ilt 0 (ilen a0.2.2.2.2)) (some 2) (br (ilt 256 (ilen a0.2.2.2.2)) (some 7) (bnd (ref11_Refs.f k a0.2.2.2.2) fun r40 => br (bnot r40) (some 2) (some 0)))) (br (ilt 256 (ilen a0.2.2.2.2)) (some 7) (bnd (ref11_Refs.f k a0.2.2.2.2) fun r41 => br (bnot r41) (some 2) (some 0)))))))) (br (ieq a0.1 2) (br (ilt 0 (ilen a0.2.2.2.2)) (some 2) (br (ilt 256 (ilen a0.2.2.2.2)) (some 7) (bnd (ref11_Refs.f k a0.2.2.2.2) fun r42 => br (bnot r42) (some 2) (some 0)))) (br (ieq a0.1 3) (br (ilt 0 (ilen a0.2.2.2.2)) (some 2) (br (ilt 256 (ilen a0.2.2.2.2)) (some 7) (bnd (ref11_Refs.f k a0.2.2.2.2) fun r43 => br (bnot r43) (some 2) (some 0)))) (br (ilt 256 (ilen a0.2.2.2.2)) (some 7) (bnd (ref11_Refs.f k a0.2.2.2.2) fun r44 => br (bnot r44) (some 2) (some 0))))))) (br (ieq a0.1 3) (br (ieq a0.2.2.2.1 0) (some 2) (br (ilt 2147483647 a0.2.2.2.1) (some 2) (br (ilt a0.2.2.2.1 (-2147483647)) (some 2) (br (ieq a0.1 2) (br (ilt 0 (ilen a0.2.2.2.2)) (some 2) (br (ilt 256 (ilen a0.2.2.2.2)) (some 7) (bnd (ref11_Refs.f k a0.2.2.2.2) fun r45 => br (bnot r45) (some 2) (some 0)))) (br (ieq a0.1 3) (br (ilt 0 (ilen a0.2.2.2.2)) (some 2) (br (ilt 256 (ilen a0.2.2.2.2)) (some 7) (bnd (ref11_Refs.f k a0.2.2.2.2) fun r46 => br (bnot r46) (some 2) (some 0)))) (br (ilt 256 (ilen a0.2.2.2.2)) (some 7) (bnd (ref11_Refs.f k a0.2.2.2.2) fun r47 => br (bnot r47) (some 2) (some 0)))))))) (br (ieq a0.1 2) (br (ilt 0 (ilen a0.2.2.2.2)) (some 2) (br (ilt 256 (ilen a0.2.2.2.2)) (some 7) (bnd (ref11_Refs.f k a0.2.2.2.2) fun r48 => br (bnot r48) (some 2) (some 0)))) (br (ieq a0.1 3) (br (ilt 0 (ilen a0.2.2.2.2)) (some 2) (br (ilt 256 (ilen a0.2.2.2.2)) (some 7) (bnd (ref11_Refs.f k a0.2.2.2.2) fun r49 => br (bnot r49) (some 2) (some 0)))) (br (ilt 256 (ilen a0.2.2.2.2)) (some 7) (bnd (ref11_Refs.f k a0.2.2.2.2) fun r50 => br (bnot r50) (some 2) (some 0)))))))) (br (bnot (ieq a0.1 3)) (br (bnot (ieq a0.2.2.2.1 0)) (some 2) (br (ieq a0.1 3) (br (ieq a0.2.2.2.1 0) (some 2) (br (ilt 2147483647 a0.2.2.2.1) (some 2) (br (ilt a0.2.2.2.1 (-2147483647)) (some 2) (br (ieq a0.1 2) (br (ilt 0 (ilen a0.2.2.2.2)) (some 2) (br (ilt 256 (ilen a0.2.2.2.2)) (some 7) (bnd (ref11_Refs.f k a0.2.2.2.2) fun r51 => br (bnot r51) (some 2) (some 0)))) (br (ieq a0.1 3) (br (ilt 0 (ilen a0.2.2.2.2)) (some 2) (br (ilt 256 (ilen a0.2.2.2.2)) (some 7) (bnd (ref11_Refs.f k a0.2.2.2.2) fun r52 => br (bnot r52) (some 2) (some 0)))) (br (ilt 256 (ilen a0.2.2.2.2)) (some 7) (bnd (ref11_Refs.f k a0.2.2.2.2) fun r53 => br (bnot r53) (some 2) (some 0)))))))) (br (ieq a0.1 2) (br (ilt 0 (ilen a0.2.2.2.2)) (some 2) (br (ilt 256 (ilen a0.2.2.2.2)) (some 7) (bnd (ref11_Refs.f k a0.2.2.2.2) fun r54 => br (bnot r54) (some 2) (some 0)))) (br (ieq a0.1 3) (br (ilt 0 (ilen a0.2.2.2.2)) (some 2) (br (ilt 256 (ilen a0.2.2.2.2)) (some 7) (bnd (ref11_Refs.f k a0.2.2.2.2) fun r55 => br (bnot r55) (some 2) (some 0)))) (br (ilt 256 (ilen a0.2.2.2.2)) (some 7) (bnd (ref11_Refs.f k a0.2.2.2.2) fun r56 => br (bnot r56) (some 2) (some 0))))))) (br (ieq a0.1 3) (br (ieq a0.2.2.2.1 0) (some 2) (br (ilt 2147483647 a0.2.2.2.1) (some 2) (br (ilt a0.2.2.2.1 (-2147483647)) (some 2) (br (ieq a0.1 2) (br (ilt 0 (ilen a0.2.2.2.2)) (some 2) (br (ilt 256 (ilen a0.2.2.2.2)) (some 7) (bnd (ref11_Refs.f k a0.2.2.2.2) fun r57 => br (bnot r57) (some 2) (some 0)))) (br (ieq a0.1 3) (br (ilt 0 (ilen a0.2.2.2.2)) (some 2) (br (ilt 256 (ilen a0.2.2.2.2)) (some 7) (bnd (ref11_Refs.f k a0.2.2.2.2) fun r58 => br (bnot r58) (some 2) (some 0)))) (br (ilt 256 (ilen a0.2.2.2.2)) (some 7) (bnd (ref11_Refs.f k a0.2.2.2.2) fun r59 => br (bnot r59) (some 2) (some 0)))))))) (br (ieq a0.1 2) (br (ilt 0 (ilen a0.2.2.2.2)) (some 2) (br (ilt 256 (ilen a0.2.2.2.2)) (some 7) (bnd (ref11_Refs.f k a0.2.2.2.2) fun r60 => br (bnot r60) (some 2) (some 0)))) (br (ieq a0.1 3) (br (ilt 0 (ilen a0.2.2.2.2)) (some 2) (br (ilt 256 (ilen a0.2.2.2.2)) (some 7) (bnd (ref11_Refs.f k a0.2.2.2.2) fun r61 => br (bnot r61) (some 2) (some 0)))) (br (ilt 256 (ilen a0.2.2.2.2)) (some 7) (bnd (ref11_Refs.f k a0.2.2.2.2) fun r62 => br (bnot r62) (some 2) (some 0)))))))) (br (bnot (ieq a0.1 3)) (br (bnot (ieq a0.2.2.2.1 0)) (some 2) (br (ieq a0.1 3) (br (ieq a0.2.2.2.1 0) (some 2) (br (ilt 2147483647 a0.2.2.2.1) (some 2) (br (ilt a0.2.2.2.1 (-2147483647)) (some 2) (br (ieq a0.1 2) (br (ilt 0 (ilen a0.2.2.2.2)) (some 2) (br (ilt 256 (ilen a0.2.2.2.2)) (some 7) (bnd (ref11_Refs.f k a0.2.2.2.2) fun r63 => br (bnot r63) (some 2) (some 0)))) (br (ieq a0.1 3) (br (ilt 0 (ilen a0.2.2.2.2)) (some 2) (br (ilt 256 (ilen a0.2.2.2.2)) (some 7) (bnd (ref11_Refs.f k a0.2.2.2.2) fun r64 => br (bnot r64) (some 2) (some 0)))) (br (ilt 256 (ilen a0.2.2.2.2)) (some 7) (bnd (ref11_Refs.f k a0.2.2.2.2) fun r65 => br (bnot r65) (some 2) (some 0)))))))) (br (ieq a0.1 2) (br (ilt 0 (ilen a0.2.2.2.2)) (some 2) (br (ilt 256 (ilen a0.2.2.2.2)) (some 7) (bnd (ref11_Refs.f k a0.2.2.2.2) fun r66 => br (bnot r66) (some 2) (some 0)))) (br (ieq a0.1 3) (br (ilt 0 (ilen a0.2.2.2.2)) (some 2) (br (ilt 256 (ilen a0.2.2.2.2)) (some 7) (bnd (ref11_Refs.f k a0.2.2.2.2) fun r67 => br (bnot r67) (some 2) (some 0)))) (br (ilt 256 (ilen a0.2.2.2.2)) (some 7) (bnd (ref11_Refs.f k a0.2.2.2.2) fun r68 => br (bnot r68) (some 2) (some 0))))))) (br (ieq a0.1 3) (br (ieq a0.2.2.2.1 0) (some 2) (br (ilt 2147483647 a0.2.2.2.1) (some 2) (br (ilt a0.2.2.2.1 (-2147483647)) (some 2) (br (ieq a0.1 2) (br (ilt 0 (ilen a0.2.2.2.2)) (some 2) (br (ilt 256 (ilen a0.2.2.2.2)) (some 7) (bnd (ref11_Refs.f k a0.2.2.2.2) fun r69 => br (bnot r69) (some 2) (some 0)))) (br (ieq a0.1 3) (br (ilt 0 (ilen a0.2.2.2.2)) (some 2) (br (ilt 256 (ilen a0.2.2.2.2)) (some 7) (bnd (ref11_Refs.f k a0.2.2.2.2) fun r70 => br (bnot r70) (some 2) (some 0)))) (br (ilt 256 (ilen a0.2.2.2.2)) (some 7) (bnd (ref11_Refs.f k a0.2.2.2.2) fun r71 => br (bnot r71) (some 2) (some 0)))))))) (br (ieq a0.1 2) (br (ilt 0 (ilen a0.2.2.2.2)) (some 2) (br (ilt 256 (ilen a0.2.2.2.2)) (some 7) (bnd (ref11_Refs.f k a0.2.2.2.2) fun r72 => br (bnot r72) (some 2) (some 0)))) (br (ieq a0.1 3) (br (ilt 0 (ilen a0.2.2.2.2)) (some 2) (br (ilt 256 (ilen a0.2.2.2.2)) (some 7) (bnd (ref11_Refs.f k a0.2.2.2.2) fun r73 => br (bnot r73) (some 2) (some 0)))) (br (ilt 256 (ilen a0.2.2.2.2)) (some 7) (bnd (ref11_Refs.f k a0.2.2.2.2) fun r74 => br (bnot r74) (some 2) (some 0))))))))) (br (bnot (ieq a0.1 3)) (br (bnot (ieq a0.1 5)) (bnd (ref09_Right.f k a0.2.2.1) fun r75 => br (bnot r75) (some 2) (br (bnot (ieq a0.1 3)) (br (bnot (ieq a0.2.2.2.1 0)) (some 2) (br (ieq a0.1 3) (br (ieq a0.2.2.2.1 0) (some 2) (br (ilt 2147483647 a0.2.2.2.1) (some 2) (br (ilt a0.2.2.2.1 (-2147483647)) (some 2) (br (ieq a0.1 2) (br (ilt 0 (ilen a0.2.2.2.2)) (some 2) (br (ilt 256 (ilen a0.2.2.2.2)) (some 7) (bnd (ref11_Refs.f k a0.2.2.2.2) fun r76 => br (bnot r76) (some 2) (some 0)))) (br (ieq a0.1 3) (br (ilt 0 (ilen a0.2.2.2.2)) (some 2) (br (ilt 256 (ilen a0.2.2.2.2)) (some 7) (bnd (ref11_Refs.f k a0.2.2.2.2) fun r77 => br (bnot r77) (some 2) (some 0)))) (br (ilt 256 (ilen a0.2.2.2.2)) (some 7) (bnd (ref11_Refs.f k a0.2.2.2.2) fun r78 => br (bnot r78) (some 2) (some 0)))))))) (br (ieq a0.1 2) (br (ilt 0 (ilen a0.2.2.2.2)) (some 2) (br (ilt 256 (ilen a0.2.2.2.2)) (some 7) (bnd (ref11_Refs.f k a0.2.2.2.2) fun r79 => br (bnot r79) (some 2) (some 0)))) (br (ieq a0.1 3) (br (ilt 0 (ilen a0.2.2.2.2)) (some 2) (br (ilt 256 (ilen a0.2.2.2.2)) (some 7) (bnd (ref11_Refs.f k a0.2.2.2.2) fun r80 => br (bnot r80) (some 2) (some 0)))) (br (ilt 256 (ilen a0.2.2.2.2)) (some 7) (bnd (ref11_Refs.f k a0.2.2.2.2) fun r81 => br (bnot r81) (some 2) (some 0))))))) (br (ieq a0.1 3) (br (ieq a0.2.2.2.1 0) (some 2) (br (ilt 2147483647 a0.2.2.2.1) (some 2) (br (ilt a0.2.2.2.1 (-2147483647)) (some 2) (br (ieq a0.1 2) (br (ilt 0 (ilen a0.2.2.2.2)) (some 2) (br (ilt 256 (ilen a0.2.2.2.2)) (some 7) (bnd (ref11_Refs.f k a0.2.2.2.2) fun r82 => br (bnot r82) (some 2) (some 0)))) (br (ieq a0.1 3) (br (ilt 0 (ilen a0.2.2.2.2)) (some 2) (br (ilt 256 (ilen a0.2.2.2.2)) (some 7) (bnd (ref11_Refs.f k a0.2.2.2.2) fun r83 => br (bnot r83) (some 2) (some 0)))) (br (ilt 256 (ilen a0.2.2.2.2)) (some 7) (bnd (ref11_Refs.f k a0.2.2.2.2) fun r84 => br (bnot r84) (some 2) (some 0)))))))) (br (ieq a0.1 2) (br (ilt 0 (ilen a0.2.2.2.2)) (some 2) (br (ilt 256 (ilen a0.2.2.2.2)) (some 7) (bnd (ref11_Refs.f k a0.2.2.2.2) fun r85 => br (bnot r85) (some 2) (some 0)))) (br (ieq a0.1 3) (br (ilt 0 (ilen a0.2.2.2.2)) (some 2) (br (ilt 256 (ilen a0.2.2.2.2)) (some 7) (bnd (ref11_Refs.f k a0.2.2.2.2) fun r86 => br (bnot r86) (some 2) (some 0)))) (br (ilt 256 (ilen a0.2.2.2.2)) (some 7) (bnd (ref11_Refs.f k a0.2.2.2.2) fun r87 => br (bnot r87) (some 2) (some 0)))))))) (br (bnot (ieq a0.1 3)) (br (bnot (ieq a0.2.2.2.1 0)) (some 2) (br (ieq a0.1 3) (br (ieq a0.2.2.2.1 0) (some 2) (br (ilt 2147483647 a0.2.2.2.1) (some 2) (br (ilt a0.2.2.2.1 (-2147483647)) (some 2) (br (ieq a0.1 2) (br (ilt 0 (ilen a0.2.2.2.2)) (some 2) (br (ilt 256 (ilen a0.2.2.2.2)) (some 7) (bnd (ref11_Refs.f k a0.2.2.2.2) fun r88 => br (bnot r88) (some 2) (some 0)))) (br (ieq a0.1 3) (br (ilt 0 (ilen a0.2.2.2.2)) (some 2) (br (ilt 256 (ilen a0.2.2.2.2)) (some 7) (bnd (ref11_Refs.f k a0.2.2.2.2) fun r89 => br (bnot r89) (some 2) (some 0)))) (br (ilt 256 (ilen a0.2.2.2.2)) (some 7) (bnd (ref11_Refs.f k a0.2.2.2.2) fun r90 => br (bnot r90) (some 2) (some 0)))))))) (br (ieq a0.1 2) (br (ilt 0 (ilen a0.2.2.2.2)) (some 2) (br (ilt 256 (ilen a0.2.2.2.2)) (some 7) (bnd (ref11_Refs.f k a0.2.2.2.2) fun r91 => br (bnot r91) (some 2) (some 0)))) (br (ieq a0.1 3) (br (ilt 0 (ilen a0.2.2.2.2)) (some 2) (br (ilt 256 (ilen a0.2.2.2.2)) (some 7) (bnd (ref11_Refs.f k a0.2.2.2.2) fun r92 => br (bnot r92) (some 2) (some 0)))) (br (ilt 256 (ilen a0.2.2.2.2)) (some 7) (bnd (ref11_Refs.f k a0.2.2.2.2) fun r93 => br (bnot r93) (some 2) (some 0))))))) (br (ieq a0.1 3) (br (ieq a0.2.2.2.1 0) (some 2) (br (ilt 2147483647 a0.2.2.2.1) (some 2) (br (ilt a0.2.2.2.1 (-2147483647)) (some 2) (br (ieq a0.1 2) (br (ilt 0 (ilen a0.2.2.2.2)) (some 2) (br (ilt 256 (ilen a0.2.2.2.2)) (some 7) (bnd (ref11_Refs.f k a0.2.2.2.2) fun r94 => br (bnot r94) (some 2) (some 0)))) (br (ieq a0.1 3) (br (ilt 0 (ilen a0.2.2.2.2)) (some 2) (br (ilt 256 (ilen a0.2.2.2.2)) (some 7) (bnd (ref11_Refs.f k a0.2.2.2.2) fun r95 => br (bnot r95) (some 2) (some 0)))) (br (ilt 256 (ilen a0.2.2.2.2)) (some 7) (bnd (ref11_Refs.f k a0.2.2.2.2) fun r96 => br (bnot r96) (some 2) (some 0)))))))) (br (ieq a0.1 2) (br (ilt 0 (ilen a0.2.2.2.2)) (some 2) (br (ilt 256 (ilen a0.2.2.2.2)) (some 7) (bnd (ref11_Refs.f k a0.2.2.2.2) fun r97 => br (bnot r97) (some 2) (some 0)))) (br (ieq a0.1 3) (br (ilt 0 (ilen a0.2.2.2.2)) (some 2) (br (ilt 256 (ilen a0.2.2.2.2)) (some 7) (bnd (ref11_Refs.f k a0.2.2.2.2) fun r98 => br (bnot r98) (some 2) (some 0)))) (br (ilt 256 (ilen a0.2.2.2.2)) (some 7) (bnd (ref11_Refs.f k a0.2.2.2.2) fun r99 => br (bnot r99) (some 2) (some 0)))))))) (br (bnot (ieq a0.1 3)) (br (bnot (ieq a0.2.2.2.1 0)) (some 2) (br (ieq a0.1 3) (br (ieq a0.2.2.2.1 0) (some 2) (br (ilt 2147483647 a0.2.2.2.1) (some 2) (br (ilt a0.2.2.2.1 (-2147483647)) (some 2) (br (ieq a0.1 2) (br (ilt 0 (ilen a0.2.2.2.2)) (some 2) (br (ilt 256 (ilen a0.2.2.2.2)) (some 7) (bnd (ref11_Refs.f k a0.2.2.2.2) fun r100 => br (bnot r100) (some 2) (some 0)))) (br (ieq a0.1 3) (br (ilt 0 (ilen a0.2.2.2.2)) (some 2) (br (ilt 256 (ilen a0.2.2.2.2)) (some 7) (bnd (ref11_Refs.f k a0.2.2.2.2) fun r101 => br (bnot r101) (some 2) (some 0)))) (br (ilt 256 (ilen a0.2.2.2.2)) (some 7) (bnd (ref11_Refs.f k a0.2.2.2.2) fun r102 => br (bnot r102) (some 2) (some 0)))))))) (br (ieq a0.1 2) (br (ilt 0 (ilen a0.2.2.2.2)) (some 2) (br (ilt 256 (ilen a0.2.2.2.2)) (some 7) (bnd (ref11_Refs.f k a0.2.2.2.2) fun r103 => br (bnot r103) (some 2) (some 0)))) (br (ieq a0.1 3) (br (ilt 0 (ilen a0.2.2.2.2)) (some 2) (br (ilt 256 (ilen a0.2.2.2.2)) (some 7) (bnd (ref11_Refs.f k a0.2.2.2.2) fun r104 => br (bnot r104) (some 2) (some 0)))) (br (ilt 256 (ilen a0.2.2.2.2)) (some 7) (bnd (ref11_Refs.f k a0.2.2.2.2) fun r105 => br (bnot r105) (some 2) (some 0))))))) (br (ieq a0.1 3) (br (ieq a0.2.2.2.1 0) (some 2) (br (ilt 2147483647 a0.2.2.2.1) (some 2) (br (ilt a0.2.2.2.1 (-2147483647)) (some 2) (br (ieq a0.1 2) (br (ilt 0 (ilen a0.2.2.2.2)) (some 2) (br (ilt 256 (ilen a0.2.2.2.2)) (some 7) (bnd (ref11_Refs.f k a0.2.2.2.2) fun r106 => br (bnot r106) (some 2) (some 0)))) (br (ieq a0.1 3) (br (ilt 0 (ilen a0.2.2.2.2)) (some 2) (br (ilt 256 (ilen a0.2.2.2.2)) (some 7) (bnd (ref11_Refs.f k a0.2.2.2.2) fun r107 => br (bnot r107) (some 2) (some 0)))) (br (ilt 256 (ilen a0.2.2.2.2)) (some 7) (bnd (ref11_Refs.f k a0.2.2.2.2) fun r108 => br (bnot r108) (some 2) (some 0)))))))) (br (ieq a0.1 2) (br (ilt 0 (ilen a0.2.2.2.2)) (some 2) (br (ilt 256 (ilen a0.2.2.2.2)) (some 7) (bnd (ref11_Refs.f k a0.2.2.2.2) fun r109 => br (bnot r109) (some 2) (some 0)))) (br (ieq a0.1 3) (br (ilt 0 (ilen a0.2.2.2.2)) (some 2) (br (ilt 256 (ilen a0.2.2.2.2)) (some 7) (bnd (ref11_Refs.f k a0.2.2.2.2) fun r110 => br (bnot r110) (some 2) (some 0)))) (br (ilt 256 (ilen a0.2.2.2.2)) (some 7) (bnd (ref11_Refs.f k a0.2.2.2.2) fun r111 => br (bnot r111) (some 2) (some 0)))))))))))) := by kernel_rfl
noncomputable def ref11_Check.e (k : Nat) : Entry := Sg.entry ref11_Check.sg fun x => ref11_Check.f k x
theorem ref11_Check.ok (k : Nat) : CallOK Tryz.prog 132 (ref11_Check.e k) := fn_ok (c := ref11_Check.cx k) (code := ref11_Check.body) (TT.of tt_ok pp_ok mm_ok) (fns_ok ⟨(ref10_Check.ok k), (ref09_Right.ok k), (ref11_Refs.ok k), trivial⟩) mixed Tryz.func132 (by kernel_rfl) (by kernel_rfl) (by kernel_rfl) (by kernel_rfl) (by kernel_rfl) (by kernel_rfl) (fun x => by kernel_rfl)
noncomputable def ref11_Gone.body : Go.Code := Tryz.f90.body.getD .skip
noncomputable def ref11_Gone.rs : List Go.ResultVar := Tryz.f90.results.toList
def ref11_Gone.regs : List (Nat × RInfo) := [(0, ⟨[1], [1], [0], [], 0, [], [], [], [], []⟩), (1, ri [1,3] [1,3]), (2, ri [2] [])]
noncomputable def ref11_Gone.cx (k : Nat) : Cx := ⟨tt, pp, [], ref11_Gone.regs, k, mm⟩
@[reducible] def ref11_Gone.sg : Sg := ⟨[.dat tOp], [], .dat .bool, []⟩
noncomputable def ref11_Gone.f (k : Nat) (a0 : Ty.D tOp) : Option (Sg.Out ref11_Gone.sg) := Sg.fn ref11_Gone.sg (ref11_Gone.cx k) ref11_Gone.body ref11_Gone.rs a0
theorem ref11_Gone.f_eq (k : Nat) (a0 : Ty.D tOp) : ref11_Gone.f k a0 = br (ieq a0.1 0) (br (ieq (ilen a0.2.1) 0) (br (deq tValue a0.2.2.1 (0, (0, []))) (br (ieq a0.2.2.2.1 0) (some (ieq (ilen a0.2.2.2.2) 0)) (some false)) (some false)) (some false)) (some false) := by kernel_rfl
noncomputable def ref11_Gone.e (k : Nat) : Entry := Sg.entry ref11_Gone.sg fun x => ref11_Gone.f k x
theorem ref11_Gone.ok (k : Nat) : CallOK Tryz.prog 90 (ref11_Gone.e k) := fn_ok (c := ref11_Gone.cx k) (code := ref11_Gone.body) (TT.of tt_ok pp_ok mm_ok) (fns_ok trivial) mixed Tryz.func90 (by kernel_rfl) (by kernel_rfl) (by kernel_rfl) (by kernel_rfl) (by kernel_rfl) (by kernel_rfl) (fun x => by kernel_rfl)
noncomputable def ref12_Check.body : Go.Code := Tryz.f96.body.getD .skip
noncomputable def ref12_Check.rs : List Go.ResultVar := Tryz.f96.results.toList
def ref12_Check.regs : List (Nat × RInfo) := [(0, ⟨[1], [1], [0], [], 0, [], [], [], [], []⟩), (1, ri [1,28] [1]), (2, ri [2] [49]), (3, ri [1,32] [1]), (4, ri [2] [49]), (5, ri [1,36] [1]), (6, ri [2] [49]), (7, ri [1,3] [1]), (8, ⟨[1, 3, 41], [1], [], [], 0, [1, 3], [1], [], [], []⟩), (10, ri [1,3,4] [1,49]), (11, ri [1,3,4,64] [1,49]), (12, ri [2] [49]), (9, ri [1,3] [1]), (13, ri [2] [49])]
noncomputable def ref12_Check.cx (k : Nat) : Cx := ⟨tt, pp, [(97, (ref04_Right.e k)), (132, (ref11_Check.e k)), (90, (ref11_Gone.e k))], ref12_Check.regs, k, mm⟩
@[reducible] def ref12_Check.sg : Sg := ⟨[.dat tTxn], [], .dat (.int .i64), []⟩
noncomputable def ref12_Check.f (k : Nat) (a0 : Ty.D tTxn) : Option (Sg.Out ref12_Check.sg) := Sg.fn ref12_Check.sg (ref12_Check.cx k) ref12_Check.body ref12_Check.rs a0
noncomputable def ref12_Check.l8 (k : Nat) (n : Nat) (x3 : Ty.D (.int .i64)) (m1 : Ty.D tTxn) : Option (Sg.Out ref12_Check.sg) := loopAt (ref12_Check.cx k) ref12_Check.body [1, 1, 1, 1, 0, 1, 0] 8 [1, 3] [1] [] (Sg.K ref12_Check.sg (ref12_Check.cx k) ref12_Check.rs) n ⟨[(1, .ref 1 []), (3, .dat (.int .i64) x3)], [(1, .dat tTxn m1)]⟩
theorem ref12_Check.f_eq (k : Nat) (a0 : Ty.D tTxn) : ref12_Check.f k a0 = bnd (ref04_Right.f k a0.1) fun r0 => br (bnot r0) (some 2) (br (ilt a0.2.1 0) (some 2) (br (ilt 7 a0.2.1) (some 2) (br (ilt a0.2.2.1 1) (some 2) (br (ilt 1099511627776 a0.2.2.1) (some 2) (br (ieq (ilen a0.2.2.2.2) 0) (some 11) (br (ilt 16 (ilen a0.2.2.2.2)) (some 7) (ref12_Check.l8 k k 0 a0))))))) := by kernel_rfl
theorem ref12_Check.l8_eq (k : Nat) (n8 : Nat) (x3 : Ty.D (.int .i64)) (m1 : Ty.D tTxn) : ref12_Check.l8 k (n8 + 1) x3 m1 = br (ilt x3 (ilen m1.2.2.2.2)) (br (inL x3 m1.2.2.2.2) (bnd (ref11_Check.f k (rd tOp m1.2.2.2.2 (natOf x3))) fun r0 => br (bnot (ieq r0 0)) (br m1.2.2.2.1 (br (inL x3 m1.2.2.2.2) (bnd (ref11_Gone.f k (rd tOp m1.2.2.2.2 (natOf x3))) fun r1 => br (bnot r1) (some r0) (ref12_Check.l8 k n8 (iadd .i64 x3 1) m1)) none) (br (bnot false) (some r0) (ref12_Check.l8 k n8 (iadd .i64 x3 1) m1))) (ref12_Check.l8 k n8 (iadd .i64 x3 1) m1)) none) (some 0) := by kernel_rfl
noncomputable def ref12_Check.e (k : Nat) : Entry := Sg.entry ref12_Check.sg fun x => ref12_Check.f k x
theorem ref12_Check.ok (k : Nat) : CallOK Tryz.prog 96 (ref12_Check.e k) := fn_ok (c := ref12_Check.cx k) (code := ref12_Check.body) (TT.of tt_ok pp_ok mm_ok) (fns_ok ⟨(ref04_Right.ok k), (ref11_Check.ok k), (ref11_Gone.ok k), trivial⟩) mixed Tryz.func96 (by kernel_rfl) (by kernel_rfl) (by kernel_rfl) (by kernel_rfl) (by kernel_rfl) (by kernel_rfl) (fun x => by kernel_rfl)
noncomputable def ref22_Known.body : Go.Code := Tryz.f98.body.getD .skip
noncomputable def ref22_Known.rs : List Go.ResultVar := Tryz.f98.results.toList
def ref22_Known.regs : List (Nat × RInfo) := [(0, ri [0,2] [2]), (1, ⟨[0, 2, 3], [2, 3], [2], [], 0, [], [], [], [], []⟩), (2, ri [0,2,3,4] [2,3]), (3, ⟨[0, 2, 3, 4, 9], [2, 3], [], [], 0, [0, 2, 10000003, 4], [2, 10000003], [], [], []⟩), (5, ⟨[0, 2, 3, 4], [2, 3], [7], [], 7, [], [], [], [[], [], [], [], [], [], [0, 5], [0, 5]], []⟩), (4, ri [0,2,3,4] [2,3]), (6, ⟨[2], [2], [1], [], 0, [], [], [], [], []⟩)]
noncomputable def ref22_Known.cx (k : Nat) : Cx := ⟨tt, pp, [(133, (ref06_Put.e k))], ref22_Known.regs, k, mm⟩
@[reducible] def ref22_Known.sg : Sg := ⟨[.dat (.slc tTxn)], [], .dat tDots, []⟩
noncomputable def ref22_Known.f (k : Nat) (a0 : Ty.D (.slc tTxn)) : Option (Sg.Out ref22_Known.sg) := Sg.fn ref22_Known.sg (ref22_Known.cx k) ref22_Known.body ref22_Known.rs a0
noncomputable def ref22_Known.l3 (k : Nat) (n : Nat) (x0 : Ty.D (.slc tTxn)) (x4 : Ty.D (.int .i64)) (m2a : Ty.D tVec) (m2b : List (Ty.D tDot)) (m3 : Ty.D tDots) : Option (Sg.Out ref22_Known.sg) := loopAt (ref22_Known.cx k) ref22_Known.body [1, 1, 0, 1, 0] 3 [0, 2, 10000003, 4] [2, 10000003] [] (Sg.K ref22_Known.sg (ref22_Known.cx k) ref22_Known.rs) n ⟨[(0, .dat (.slc tTxn) x0), (2, .ref 2 []), (3, .ref 3 []), (4, .dat (.int .i64) x4)], [(2, .pr (.dat tVec m2a) (.own tDot m2b)), (3, .dat tDots m3)]⟩
theorem ref22_Known.f_eq (k : Nat) (a0 : Ty.D (.slc tTxn)) : ref22_Known.f k a0 = ref22_Known.l3 k k a0 0 (zarr 16 0) [] ((zarr 16 0), []) := by kernel_rfl
theorem ref22_Known.l3_eq (k : Nat) (n3 : Nat) (x0 : Ty.D (.slc tTxn)) (x4 : Ty.D (.int .i64)) (m2a : Ty.D tVec) (m2b : List (Ty.D tDot)) (m3 : Ty.D tDots) : ref22_Known.l3 k (n3 + 1) x0 x4 m2a m2b m3 = br (ilt x4 (ilen x0)) (br (inL x4 x0) (bnd (ref06_Put.f k m3 ((rd tTxn x0 (natOf x4)).1)) fun r0 => ref22_Known.l3 k n3 x0 (iadd .i64 x4 1) m2a m2b r0) none) (some m3) := by kernel_rfl
noncomputable def ref22_Known.e (k : Nat) : Entry := Sg.entry ref22_Known.sg fun x => ref22_Known.f k x
theorem ref22_Known.ok (k : Nat) : CallOK Tryz.prog 98 (ref22_Known.e k) := fn_ok (c := ref22_Known.cx k) (code := ref22_Known.body) (TT.of tt_ok pp_ok mm_ok) (fns_ok ⟨(ref06_Put.ok k), trivial⟩) mixed Tryz.func98 (by kernel_rfl) (by kernel_rfl) (by kernel_rfl) (by kernel_rfl) (by kernel_rfl) (by kernel_rfl) (fun x => by kernel_rfl)
noncomputable def ref04_Same.body : Go.Code := Tryz.f37.body.getD .skip
noncomputable def ref04_Same.rs : List Go.ResultVar := Tryz.f37.results.toList
def ref04_Same.regs : List (Nat × RInfo) := [(0, ri [0,1] []), (1, ri [0,1,10] []), (2, ri [4] []), (3, ri [0,1,5] []), (4, ⟨[0, 1, 5, 14], [], [], [], 0, [0, 1, 5], [], [], [], []⟩), (6, rq [0,1,5,25] [] 9), (7, ri [4] []), (5, ri [0,1,5] []), (8, ri [4] [])]
noncomputable def ref04_Same.cx (k : Nat) : Cx := ⟨tt, pp, [], ref04_Same.regs, k, mm⟩
@[reducible] def ref04_Same.sg : Sg := ⟨[.dat (.slc tDot), .dat (.slc tDot)], [], .dat .bool, []⟩
noncomputable def ref04_Same.f (k : Nat) (a0 : Ty.D (.slc tDot)) (a1 : Ty.D (.slc tDot)) : Option (Sg.Out ref04_Same.sg) := Sg.fn ref04_Same.sg (ref04_Same.cx k) ref04_Same.body ref04_Same.rs (a0, a1)
noncomputable def ref04_Same.l4 (k : Nat) (n : Nat) (x0 : Ty.D (.slc tDot)) (x1 : Ty.D (.slc tDot)) (x5 : Ty.D (.int .i64)) : Option (Sg.Out ref04_Same.sg) := loopAt (ref04_Same.cx k) ref04_Same.body [1, 1, 0, 1, 0] 4 [0, 1, 5] [] [] (Sg.K ref04_Same.sg (ref04_Same.cx k) ref04_Same.rs) n ⟨[(0, .dat (.slc tDot) x0), (1, .dat (.slc tDot) x1), (5, .dat (.int .i64) x5)], []⟩
theorem ref04_Same.f_eq (k : Nat) (a0 : Ty.D (.slc tDot)) (a1 : Ty.D (.slc tDot)) : ref04_Same.f k a0 a1 = br (bnot (ieq (ilen a0) (ilen a1))) (some false) (ref04_Same.l4 k k a0 a1 0) := by kernel_rfl
theorem ref04_Same.l4_eq (k : Nat) (n4 : Nat) (x0 : Ty.D (.slc tDot)) (x1 : Ty.D (.slc tDot)) (x5 : Ty.D (.int .i64)) : ref04_Same.l4 k (n4 + 1) x0 x1 x5 = br (ilt x5 (ilen x0)) (br (inL x5 x0) (br (inL x5 x1) (br (bnot (deq tDot (rd tDot x0 (natOf x5)) (rd tDot x1 (natOf x5)))) (some false) (ref04_Same.l4 k n4 x0 x1 (iadd .i64 x5 1))) none) none) (some true) := by kernel_rfl
noncomputable def ref04_Same.e (k : Nat) : Entry := Sg.entry ref04_Same.sg fun x => ref04_Same.f k x.1 x.2
theorem ref04_Same.ok (k : Nat) : CallOK Tryz.prog 37 (ref04_Same.e k) := fn_ok (c := ref04_Same.cx k) (code := ref04_Same.body) (TT.of tt_ok pp_ok mm_ok) (fns_ok trivial) mixed Tryz.func37 (by kernel_rfl) (by kernel_rfl) (by kernel_rfl) (by kernel_rfl) (by kernel_rfl) (by kernel_rfl) (fun x => by kernel_rfl)
noncomputable def ref06_Same.body : Go.Code := Tryz.f63.body.getD .skip
noncomputable def ref06_Same.rs : List Go.ResultVar := Tryz.f63.results.toList
def ref06_Same.regs : List (Nat × RInfo) := [(0, ⟨[2, 3], [2, 3], [0, 1], [], 0, [], [], [], [], []⟩), (1, ri [4] [15])]
noncomputable def ref06_Same.cx (k : Nat) : Cx := ⟨tt, pp, [(37, (ref04_Same.e k))], ref06_Same.regs, k, mm⟩
@[reducible] def ref06_Same.sg : Sg := ⟨[.dat tDots, .dat tDots], [], .dat .bool, []⟩
noncomputable def ref06_Same.f (k : Nat) (a0 : Ty.D tDots) (a1 : Ty.D tDots) : Option (Sg.Out ref06_Same.sg) := Sg.fn ref06_Same.sg (ref06_Same.cx k) ref06_Same.body ref06_Same.rs (a0, a1)
theorem ref06_Same.f_eq (k : Nat) (a0 : Ty.D tDots) (a1 : Ty.D tDots) : ref06_Same.f k a0 a1 = br (deq tVec a0.1 a1.1) (bnd (ref04_Same.f k a0.2 a1.2) fun r0 => some r0) (some false) := by kernel_rfl
noncomputable def ref06_Same.e (k : Nat) : Entry := Sg.entry ref06_Same.sg fun x => ref06_Same.f k x.1 x.2
theorem ref06_Same.ok (k : Nat) : CallOK Tryz.prog 63 (ref06_Same.e k) := fn_ok (c := ref06_Same.cx k) (code := ref06_Same.body) (TT.of tt_ok pp_ok mm_ok) (fns_ok ⟨(ref04_Same.ok k), trivial⟩) mixed Tryz.func63 (by kernel_rfl) (by kernel_rfl) (by kernel_rfl) (by kernel_rfl) (by kernel_rfl) (by kernel_rfl) (fun x => by kernel_rfl)
noncomputable def ref22_Right.body : Go.Code := Tryz.f44.body.getD .skip
noncomputable def ref22_Right.rs : List Go.ResultVar := Tryz.f44.results.toList
def ref22_Right.regs : List (Nat × RInfo) := [(0, ⟨[1], [1], [0], [], 0, [], [], [], [], []⟩), (1, ri [1,27] [1]), (2, ri [2] [72,79]), (3, ri [1,3] [1]), (4, ⟨[1, 3, 32], [1], [], [], 0, [1, 3], [1], [], [], []⟩), (6, ri [1,3,41] [1]), (7, ri [2] [72,79]), (5, ri [1,3] [1]), (8, ri [1,4] [1]), (9, ⟨[1, 4, 43], [1], [], [], 0, [1, 4], [1], [], [], []⟩), (11, ri [1,4,51] [1]), (12, ri [2] [72,79]), (13, ri [1,4,5] [1]), (14, ⟨[1, 4, 5, 58], [1], [], [], 0, [1, 4, 5], [1], [], [], []⟩), (16, ri [1,4,5,69] [1]), (17, ri [2] [72,79]), (15, ri [1,4,5] [1]), (10, ri [1,4] [1]), (18, rq [2] [72,79] 11)]
noncomputable def ref22_Right.cx (k : Nat) : Cx := ⟨tt, pp, [(93, (ref12_Rises.e k)), (94, (ref08_Right.e k)), (95, (ref06_Right.e k)), (96, (ref12_Check.e k)), (97, (ref04_Right.e k)), (98, (ref22_Known.e k)), (63, (ref06_Same.e k))], ref22_Right.regs, k, mm⟩
@[reducible] def ref22_Right.sg : Sg := ⟨[.dat tState], [], .dat .bool, []⟩
noncomputable def ref22_Right.f (k : Nat) (a0 : Ty.D tState) : Option (Sg.Out ref22_Right.sg) := Sg.fn ref22_Right.sg (ref22_Right.cx k) ref22_Right.body ref22_Right.rs a0
noncomputable def ref22_Right.l4 (k : Nat) (n : Nat) (x3 : Ty.D (.int .i64)) (m1 : Ty.D tState) : Option (Sg.Out ref22_Right.sg) := loopAt (ref22_Right.cx k) ref22_Right.body [1, 1, 0, 1, 0] 4 [1, 3] [1] [] (Sg.K ref22_Right.sg (ref22_Right.cx k) ref22_Right.rs) n ⟨[(1, .ref 1 []), (3, .dat (.int .i64) x3)], [(1, .dat tState m1)]⟩
noncomputable def ref22_Right.l9 (k : Nat) (n : Nat) (x4 : Ty.D (.int .i64)) (m1 : Ty.D tState) : Option (Sg.Out ref22_Right.sg) := loopAt (ref22_Right.cx k) ref22_Right.body [1, 1, 1, 0, 1, 0] 9 [1, 4] [1] [] (Sg.K ref22_Right.sg (ref22_Right.cx k) ref22_Right.rs) n ⟨[(1, .ref 1 []), (4, .dat (.int .i64) x4)], [(1, .dat tState m1)]⟩
noncomputable def ref22_Right.l14 (k : Nat) (n9 : Nat) (n : Nat) (x4 : Ty.D (.int .i64)) (x5 : Ty.D (.int .i64)) (m1 : Ty.D tState) : Option (Sg.Out ref22_Right.sg) := loopAt (ref22_Right.cx k) ref22_Right.body [1, 1, 1, 0, 1, 0, 0, 1, 0, 0, 1, 1, 0] 14 [1, 4, 5] [1] [n9] (Sg.K ref22_Right.sg (ref22_Right.cx k) ref22_Right.rs) n ⟨[(1, .ref 1 []), (4, .dat (.int .i64) x4), (5, .dat (.int .i64) x5)], [(1, .dat tState m1)]⟩
theorem ref22_Right.f_eq (k : Nat) (a0 : Ty.D tState) : ref22_Right.f k a0 = br (ilt 1000 (ilen a0.1)) (some false) (bnd (ref12_Rises.f k a0.1) fun r0 => br (bnot r0) (some false) (bnd (ref08_Right.f k a0.2.1) fun r1 => br (bnot r1) (some false) (bnd (ref06_Right.f k a0.2.2.2.1) fun r2 => br (bnot r2) (some false) (ref22_Right.l4 k k 0 a0)))) := by kernel_rfl
theorem ref22_Right.l4_eq (k : Nat) (n4 : Nat) (x3 : Ty.D (.int .i64)) (m1 : Ty.D tState) : ref22_Right.l4 k (n4 + 1) x3 m1 = br (ilt x3 (ilen m1.1)) (br (inL x3 m1.1) (bnd (ref12_Check.f k (rd tTxn m1.1 (natOf x3))) fun r0 => br (bnot (ieq r0 0)) (some false) (ref22_Right.l4 k n4 (iadd .i64 x3 1) m1)) none) (ref22_Right.l9 k k 0 m1) := by kernel_rfl
theorem ref22_Right.l9_eq (k : Nat) (n9 : Nat) (x4 : Ty.D (.int .i64)) (m1 : Ty.D tState) : ref22_Right.l9 k (n9 + 1) x4 m1 = br (ilt x4 8) (br (inB x4 8) (br (ilt 1000 (ilen (rd (.slc tDot) m1.2.2.2.2 (natOf x4)))) (some false) (ref22_Right.l14 k n9 k x4 0 m1)) none) (bnd (ref06_Right.f k m1.2.2.1) fun r0 => br r0 (bnd (ref22_Known.f k m1.1) fun r1 => bnd (ref06_Same.f k m1.2.2.1 r1) fun r2 => some r2) (some false)) := by kernel_rfl
theorem ref22_Right.l14_eq (k : Nat) (n9 : Nat) (n14 : Nat) (x4 : Ty.D (.int .i64)) (x5 : Ty.D (.int .i64)) (m1 : Ty.D tState) : ref22_Right.l14 k n9 (n14 + 1) x4 x5 m1 = br (inB x4 8) (br (ilt x5 (ilen (rd (.slc tDot) m1.2.2.2.2 (natOf x4)))) (br (inB x4 8) (br (inL x5 (rd (.slc tDot) m1.2.2.2.2 (natOf x4))) (bnd (ref04_Right.f k (rd tDot (rd (.slc tDot) m1.2.2.2.2 (natOf x4)) (natOf x5))) fun r0 => br (bnot r0) (some false) (ref22_Right.l14 k n9 n14 x4 (iadd .i64 x5 1) m1)) none) none) (ref22_Right.l9 k n9 (iadd .i64 x4 1) m1)) none := by kernel_rfl
noncomputable def ref22_Right.e (k : Nat) : Entry := Sg.entry ref22_Right.sg fun x => ref22_Right.f k x
theorem ref22_Right.ok (k : Nat) : CallOK Tryz.prog 44 (ref22_Right.e k) := fn_ok (c := ref22_Right.cx k) (code := ref22_Right.body) (TT.of tt_ok pp_ok mm_ok) (fns_ok ⟨(ref12_Rises.ok k), (ref08_Right.ok k), (ref06_Right.ok k), (ref12_Check.ok k), (ref04_Right.ok k), (ref22_Known.ok k), (ref06_Same.ok k), trivial⟩) mixed Tryz.func44 (by kernel_rfl) (by kernel_rfl) (by kernel_rfl) (by kernel_rfl) (by kernel_rfl) (by kernel_rfl) (fun x => by kernel_rfl)
noncomputable def ref22_Good.body : Go.Code := Tryz.f25.body.getD .skip
noncomputable def ref22_Good.rs : List Go.ResultVar := Tryz.f25.results.toList
def ref22_Good.regs : List (Nat × RInfo) := [(0, ⟨[1], [1], [0], [], 0, [], [], [], [], []⟩), (1, ri [2] [4,7])]
noncomputable def ref22_Good.cx (k : Nat) : Cx := ⟨tt, pp, [(71, (ref22_Short.e k)), (44, (ref22_Right.e k))], ref22_Good.regs, k, mm⟩
@[reducible] def ref22_Good.sg : Sg := ⟨[.dat tState], [], .dat .bool, []⟩
noncomputable def ref22_Good.f (k : Nat) (a0 : Ty.D tState) : Option (Sg.Out ref22_Good.sg) := Sg.fn ref22_Good.sg (ref22_Good.cx k) ref22_Good.body ref22_Good.rs a0
theorem ref22_Good.f_eq (k : Nat) (a0 : Ty.D tState) : ref22_Good.f k a0 = bnd (ref22_Short.f k a0) fun r0 => br r0 (bnd (ref22_Right.f k a0) fun r1 => some r1) (some false) := by kernel_rfl
noncomputable def ref22_Good.e (k : Nat) : Entry := Sg.entry ref22_Good.sg fun x => ref22_Good.f k x
theorem ref22_Good.ok (k : Nat) : CallOK Tryz.prog 25 (ref22_Good.e k) := fn_ok (c := ref22_Good.cx k) (code := ref22_Good.body) (TT.of tt_ok pp_ok mm_ok) (fns_ok ⟨(ref22_Short.ok k), (ref22_Right.ok k), trivial⟩) mixed Tryz.func25 (by kernel_rfl) (by kernel_rfl) (by kernel_rfl) (by kernel_rfl) (by kernel_rfl) (by kernel_rfl) (fun x => by kernel_rfl)
noncomputable def txn_Find_1.body : Go.Code := Tryz.f125.body.getD .skip
noncomputable def txn_Find_1.rs : List Go.ResultVar := Tryz.f125.results.toList
def txn_Find_1.regs : List (Nat × RInfo) := [(0, ⟨[2, 3], [2, 3], [0], [], 0, [], [], [], [], []⟩), (1, ri [4] [8])]
noncomputable def txn_Find_1.cx (k : Nat) : Cx := ⟨tt, pp, [(123, (dot_Compare.e k))], txn_Find_1.regs, k, mm⟩
@[reducible] def txn_Find_1.sg : Sg := ⟨[.dat tTxn, .dat tDot], [], .dat (.int .i64), []⟩
noncomputable def txn_Find_1.f (k : Nat) (a0 : Ty.D tTxn) (a1 : Ty.D tDot) : Option (Sg.Out txn_Find_1.sg) := Sg.fn txn_Find_1.sg (txn_Find_1.cx k) txn_Find_1.body txn_Find_1.rs (a0, a1)
theorem txn_Find_1.f_eq (k : Nat) (a0 : Ty.D tTxn) (a1 : Ty.D tDot) : txn_Find_1.f k a0 a1 = bnd (dot_Compare.f k a0.1 a1) fun r0 => some r0 := by kernel_rfl
noncomputable def txn_Find_1.e (k : Nat) : Entry := Sg.entry txn_Find_1.sg fun x => txn_Find_1.f k x.1 x.2
theorem txn_Find_1.ok (k : Nat) : CallOK Tryz.prog 125 (txn_Find_1.e k) := fn_ok (c := txn_Find_1.cx k) (code := txn_Find_1.body) (TT.of tt_ok pp_ok mm_ok) (fns_ok ⟨(dot_Compare.ok k), trivial⟩) mixed Tryz.func125 (by kernel_rfl) (by kernel_rfl) (by kernel_rfl) (by kernel_rfl) (by kernel_rfl) (by kernel_rfl) (fun x => by kernel_rfl)
noncomputable def slices_BinarySearchFunc_api_Txn_api_Txn_api_Dot_txn_Find_1.body : Go.Code := Tryz.f124.body.getD .skip
noncomputable def slices_BinarySearchFunc_api_Txn_api_Txn_api_Dot_txn_Find_1.rs : List Go.ResultVar := Tryz.f124.results.toList
def slices_BinarySearchFunc_api_Txn_api_Txn_api_Dot_txn_Find_1.regs : List (Nat × RInfo) := [(0, ri [0,2,4] [4]), (1, ri [0,2,4,8] [4]), (2, ri [0,2,4,8,9,10] [4]), (3, ⟨[0, 2, 4, 8, 9, 10, 17], [4], [], [], 0, [0, 2, 4, 8, 9, 10], [4], [], [], []⟩), (4, ri [0,2,4,8,9,10,11] [4]), (5, ⟨[0, 2, 4, 8, 9, 10, 11, 31], [4], [], [], 8, [], [], [], [[], [], [], [], [], [], [4, 5], [6, 4, 5]], []⟩), (6, ri [0,2,4,8,9,10] [4]), (7, ri [0,2,4,8,9,10] [4]), (8, ⟨[6, 7], [], [], [], 15, [], [], [], [[], [], [], [], [], [], [], [], [], [], [], [9, 10], [11, 9, 10], [11, 9, 10], [11, 9, 10], [11, 9, 10]], []⟩)]
noncomputable def slices_BinarySearchFunc_api_Txn_api_Txn_api_Dot_txn_Find_1.cx (k : Nat) : Cx := ⟨tt, pp, [(125, (txn_Find_1.e k))], slices_BinarySearchFunc_api_Txn_api_Txn_api_Dot_txn_Find_1.regs, k, mm⟩
@[reducible] def slices_BinarySearchFunc_api_Txn_api_Txn_api_Dot_txn_Find_1.sg : Sg := ⟨[.dat (.slc tTxn), .dat tDot, .fn 125 0], [], .t2 (.dat (.int .i64)) (.dat .bool), []⟩
noncomputable def slices_BinarySearchFunc_api_Txn_api_Txn_api_Dot_txn_Find_1.f (k : Nat) (a0 : Ty.D (.slc tTxn)) (a1 : Ty.D tDot) : Option (Sg.Out slices_BinarySearchFunc_api_Txn_api_Txn_api_Dot_txn_Find_1.sg) := Sg.fn slices_BinarySearchFunc_api_Txn_api_Txn_api_Dot_txn_Find_1.sg (slices_BinarySearchFunc_api_Txn_api_Txn_api_Dot_txn_Find_1.cx k) slices_BinarySearchFunc_api_Txn_api_Txn_api_Dot_txn_Find_1.body slices_BinarySearchFunc_api_Txn_api_Txn_api_Dot_txn_Find_1.rs (a0, a1)
noncomputable def slices_BinarySearchFunc_api_Txn_api_Txn_api_Dot_txn_Find_1.l3 (k : Nat) (n : Nat) (x0 : Ty.D (.slc tTxn)) (x8 : Ty.D (.int .i64)) (x9 : Ty.D (.int .i64)) (x10 : Ty.D (.int .i64)) (m4 : Ty.D tDot) : Option (Sg.Out slices_BinarySearchFunc_api_Txn_api_Txn_api_Dot_txn_Find_1.sg) := loopAt (slices_BinarySearchFunc_api_Txn_api_Txn_api_Dot_txn_Find_1.cx k) slices_BinarySearchFunc_api_Txn_api_Txn_api_Dot_txn_Find_1.body [1, 1, 1, 0, 0] 3 [0, 2, 4, 8, 9, 10] [4] [] (Sg.K slices_BinarySearchFunc_api_Txn_api_Txn_api_Dot_txn_Find_1.sg (slices_BinarySearchFunc_api_Txn_api_Txn_api_Dot_txn_Find_1.cx k) slices_BinarySearchFunc_api_Txn_api_Txn_api_Dot_txn_Find_1.rs) n ⟨[(0, .dat (.slc tTxn) x0), (2, .fn 125 []), (4, .ref 4 []), (8, .dat (.int .i64) x8), (9, .dat (.int .i64) x9), (10, .dat (.int .i64) x10)], [(4, .dat tDot m4)]⟩
theorem slices_BinarySearchFunc_api_Txn_api_Txn_api_Dot_txn_Find_1.f_eq (k : Nat) (a0 : Ty.D (.slc tTxn)) (a1 : Ty.D tDot) : slices_BinarySearchFunc_api_Txn_api_Txn_api_Dot_txn_Find_1.f k a0 a1 = slices_BinarySearchFunc_api_Txn_api_Txn_api_Dot_txn_Find_1.l3 k k a0 (ilen a0) 0 (ilen a0) a1 := by kernel_rfl
theorem slices_BinarySearchFunc_api_Txn_api_Txn_api_Dot_txn_Find_1.l3_eq (k : Nat) (n3 : Nat) (x0 : Ty.D (.slc tTxn)) (x8 : Ty.D (.int .i64)) (x9 : Ty.D (.int .i64)) (x10 : Ty.D (.int .i64)) (m4 : Ty.D tDot) : slices_BinarySearchFunc_api_Txn_api_Txn_api_Dot_txn_Find_1.l3 k (n3 + 1) x0 x8 x9 x10 m4 = br (ilt x9 x10) (br (inL (iwrap .i64 (ishr .u64 (iwrap .u64 (iadd .i64 x9 x10)) 1)) x0) (bnd (txn_Find_1.f k (rd tTxn x0 (natOf (iwrap .i64 (ishr .u64 (iwrap .u64 (iadd .i64 x9 x10)) 1)))) m4) fun r0 => br (ilt r0 0) (slices_BinarySearchFunc_api_Txn_api_Txn_api_Dot_txn_Find_1.l3 k n3 x0 x8 (iadd .i64 (iwrap .i64 (ishr .u64 (iwrap .u64 (iadd .i64 x9 x10)) 1)) 1) x10 m4) (slices_BinarySearchFunc_api_Txn_api_Txn_api_Dot_txn_Find_1.l3 k n3 x0 x8 x9 (iwrap .i64 (ishr .u64 (iwrap .u64 (iadd .i64 x9 x10)) 1)) m4)) none) (br (ilt x9 x8) (br (inL x9 x0) (bnd (txn_Find_1.f k (rd tTxn x0 (natOf x9)) m4) fun r1 => some (x9, (ieq r1 0))) none) (some (x9, false))) := by kernel_rfl
noncomputable def slices_BinarySearchFunc_api_Txn_api_Txn_api_Dot_txn_Find_1.e (k : Nat) : Entry := Sg.entry slices_BinarySearchFunc_api_Txn_api_Txn_api_Dot_txn_Find_1.sg fun x => slices_BinarySearchFunc_api_Txn_api_Txn_api_Dot_txn_Find_1.f k x.1 x.2
theorem slices_BinarySearchFunc_api_Txn_api_Txn_api_Dot_txn_Find_1.ok (k : Nat) : CallOK Tryz.prog 124 (slices_BinarySearchFunc_api_Txn_api_Txn_api_Dot_txn_Find_1.e k) := fn_ok (c := slices_BinarySearchFunc_api_Txn_api_Txn_api_Dot_txn_Find_1.cx k) (code := slices_BinarySearchFunc_api_Txn_api_Txn_api_Dot_txn_Find_1.body) (TT.of tt_ok pp_ok mm_ok) (fns_ok ⟨(txn_Find_1.ok k), trivial⟩) mixed Tryz.func124 (by kernel_rfl) (by kernel_rfl) (by kernel_rfl) (by kernel_rfl) (by kernel_rfl) (by kernel_rfl) (fun x => by kernel_rfl)
noncomputable def txn_Find.body : Go.Code := Tryz.f85.body.getD .skip
noncomputable def txn_Find.rs : List Go.ResultVar := Tryz.f85.results.toList
def txn_Find.regs : List (Nat × RInfo) := [(0, ri [0,3] [3]), (1, ri [5,6] [10]), (2, ri [5,14] [10]), (3, ri [4] [10]), (4, ri [4] [10])]
noncomputable def txn_Find.cx (k : Nat) : Cx := ⟨tt, pp, [(124, (slices_BinarySearchFunc_api_Txn_api_Txn_api_Dot_txn_Find_1.e k)), (125, (txn_Find_1.e k))], txn_Find.regs, k, mm⟩
@[reducible] def txn_Find.sg : Sg := ⟨[.dat (.slc tTxn), .dat tDot], [], .dat (.int .i64), []⟩
noncomputable def txn_Find.f (k : Nat) (a0 : Ty.D (.slc tTxn)) (a1 : Ty.D tDot) : Option (Sg.Out txn_Find.sg) := Sg.fn txn_Find.sg (txn_Find.cx k) txn_Find.body txn_Find.rs (a0, a1)
theorem txn_Find.f_eq (k : Nat) (a0 : Ty.D (.slc tTxn)) (a1 : Ty.D tDot) : txn_Find.f k a0 a1 = bnd (slices_BinarySearchFunc_api_Txn_api_Txn_api_Dot_txn_Find_1.f k a0 a1) fun r0 => br (bnot r0.2) (some (-1)) (some r0.1) := by kernel_rfl
noncomputable def txn_Find.e (k : Nat) : Entry := Sg.entry txn_Find.sg fun x => txn_Find.f k x.1 x.2
theorem txn_Find.ok (k : Nat) : CallOK Tryz.prog 85 (txn_Find.e k) := fn_ok (c := txn_Find.cx k) (code := txn_Find.body) (TT.of tt_ok pp_ok mm_ok) (fns_ok ⟨(slices_BinarySearchFunc_api_Txn_api_Txn_api_Dot_txn_Find_1.ok k), (txn_Find_1.ok k), trivial⟩) mixed Tryz.func85 (by kernel_rfl) (by kernel_rfl) (by kernel_rfl) (by kernel_rfl) (by kernel_rfl) (by kernel_rfl) (fun x => by kernel_rfl)
noncomputable def txn_Put_1.body : Go.Code := Tryz.f154.body.getD .skip
noncomputable def txn_Put_1.rs : List Go.ResultVar := Tryz.f154.results.toList
def txn_Put_1.regs : List (Nat × RInfo) := [(0, ⟨[2, 3], [2, 3], [0], [], 0, [], [], [], [], []⟩), (1, ri [4] [8])]
noncomputable def txn_Put_1.cx (k : Nat) : Cx := ⟨tt, pp, [(123, (dot_Compare.e k))], txn_Put_1.regs, k, mm⟩
@[reducible] def txn_Put_1.sg : Sg := ⟨[.dat tTxn, .dat tDot], [], .dat (.int .i64), []⟩
noncomputable def txn_Put_1.f (k : Nat) (a0 : Ty.D tTxn) (a1 : Ty.D tDot) : Option (Sg.Out txn_Put_1.sg) := Sg.fn txn_Put_1.sg (txn_Put_1.cx k) txn_Put_1.body txn_Put_1.rs (a0, a1)
noncomputable def txn_Put_1.e (k : Nat) : Entry := Sg.entry txn_Put_1.sg fun x => txn_Put_1.f k x.1 x.2
theorem txn_Put_1.ok (k : Nat) : CallOK Tryz.prog 154 (txn_Put_1.e k) := fn_ok (c := txn_Put_1.cx k) (code := txn_Put_1.body) (TT.of tt_ok pp_ok mm_ok) (fns_ok ⟨(dot_Compare.ok k), trivial⟩) mixed Tryz.func154 (by kernel_rfl) (by kernel_rfl) (by kernel_rfl) (by kernel_rfl) (by kernel_rfl) (by kernel_rfl) (fun x => by kernel_rfl)
noncomputable def slices_BinarySearchFunc_api_Txn_api_Txn_api_Dot_txn_Put_1.body : Go.Code := Tryz.f124.body.getD .skip
noncomputable def slices_BinarySearchFunc_api_Txn_api_Txn_api_Dot_txn_Put_1.rs : List Go.ResultVar := Tryz.f124.results.toList
def slices_BinarySearchFunc_api_Txn_api_Txn_api_Dot_txn_Put_1.regs : List (Nat × RInfo) := [(0, ri [0,2,4] [4]), (1, ri [0,2,4,8] [4]), (2, ri [0,2,4,8,9,10] [4]), (3, ⟨[0, 2, 4, 8, 9, 10, 17], [4], [], [], 0, [0, 2, 4, 8, 9, 10], [4], [], [], []⟩), (4, ri [0,2,4,8,9,10,11] [4]), (5, ⟨[0, 2, 4, 8, 9, 10, 11, 31], [4], [], [], 8, [], [], [], [[], [], [], [], [], [], [4, 5], [6, 4, 5]], []⟩), (6, ri [0,2,4,8,9,10] [4]), (7, ri [0,2,4,8,9,10] [4]), (8, ⟨[6, 7], [], [], [], 15, [], [], [], [[], [], [], [], [], [], [], [], [], [], [], [9, 10], [11, 9, 10], [11, 9, 10], [11, 9, 10], [11, 9, 10]], []⟩)]
noncomputable def slices_BinarySearchFunc_api_Txn_api_Txn_api_Dot_txn_Put_1.cx (k : Nat) : Cx := ⟨tt, pp, [(154, (txn_Put_1.e k))], slices_BinarySearchFunc_api_Txn_api_Txn_api_Dot_txn_Put_1.regs, k, mm⟩
@[reducible] def slices_BinarySearchFunc_api_Txn_api_Txn_api_Dot_txn_Put_1.sg : Sg := ⟨[.dat (.slc tTxn), .dat tDot, .fn 154 0], [], .t2 (.dat (.int .i64)) (.dat .bool), []⟩
noncomputable def slices_BinarySearchFunc_api_Txn_api_Txn_api_Dot_txn_Put_1.f (k : Nat) (a0 : Ty.D (.slc tTxn)) (a1 : Ty.D tDot) : Option (Sg.Out slices_BinarySearchFunc_api_Txn_api_Txn_api_Dot_txn_Put_1.sg) := Sg.fn slices_BinarySearchFunc_api_Txn_api_Txn_api_Dot_txn_Put_1.sg (slices_BinarySearchFunc_api_Txn_api_Txn_api_Dot_txn_Put_1.cx k) slices_BinarySearchFunc_api_Txn_api_Txn_api_Dot_txn_Put_1.body slices_BinarySearchFunc_api_Txn_api_Txn_api_Dot_txn_Put_1.rs (a0, a1)
noncomputable def slices_BinarySearchFunc_api_Txn_api_Txn_api_Dot_txn_Put_1.e (k : Nat) : Entry := Sg.entry slices_BinarySearchFunc_api_Txn_api_Txn_api_Dot_txn_Put_1.sg fun x => slices_BinarySearchFunc_api_Txn_api_Txn_api_Dot_txn_Put_1.f k x.1 x.2
theorem slices_BinarySearchFunc_api_Txn_api_Txn_api_Dot_txn_Put_1.ok (k : Nat) : CallOK Tryz.prog 124 (slices_BinarySearchFunc_api_Txn_api_Txn_api_Dot_txn_Put_1.e k) := fn_ok (c := slices_BinarySearchFunc_api_Txn_api_Txn_api_Dot_txn_Put_1.cx k) (code := slices_BinarySearchFunc_api_Txn_api_Txn_api_Dot_txn_Put_1.body) (TT.of tt_ok pp_ok mm_ok) (fns_ok ⟨(txn_Put_1.ok k), trivial⟩) mixed Tryz.func124 (by kernel_rfl) (by kernel_rfl) (by kernel_rfl) (by kernel_rfl) (by kernel_rfl) (by kernel_rfl) (fun x => by kernel_rfl)
noncomputable def txn_Put.body : Go.Code := Tryz.f119.body.getD .skip
noncomputable def txn_Put.rs : List Go.ResultVar := Tryz.f119.results.toList
def txn_Put.regs : List (Nat × RInfo) := [(0, ⟨[0, 3], [3], [0], [], 0, [], [], [1], [], []⟩), (1, ⟨[0, 3, 5, 6], [3, 11], [], [], 0, [], [], [0, 3], [], []⟩), (2, ⟨[0, 3, 5, 14], [3, 11], [], [], 0, [], [], [6], [], []⟩), (3, ⟨[4], [21], [0, 1], [], 0, [], [], [], [], []⟩), (4, ⟨[4], [21], [5, 6], [], 6, [], [], [0, 5, 3], [], []⟩)]
noncomputable def txn_Put.cx (k : Nat) : Cx := ⟨tt, pp, [(124, (Entry.alt slices_BinarySearchFunc_api_Txn_api_Txn_api_Dot_txn_Find_1.sg (slices_BinarySearchFunc_api_Txn_api_Txn_api_Dot_txn_Find_1.e k) (slices_BinarySearchFunc_api_Txn_api_Txn_api_Dot_txn_Put_1.e k))), (154, (txn_Put_1.e k)), (156, (cloneE tTxn)), (155, (insE tTxn))], txn_Put.regs, k, mm⟩
@[reducible] def txn_Put.sg : Sg := ⟨[.dat (.slc tTxn), .dat tTxn], [], .dat (.slc tTxn), []⟩
noncomputable def txn_Put.f (k : Nat) (a0 : Ty.D (.slc tTxn)) (a1 : Ty.D tTxn) : Option (Sg.Out txn_Put.sg) := Sg.fn txn_Put.sg (txn_Put.cx k) txn_Put.body txn_Put.rs (a0, a1)
noncomputable def txn_Put.e (k : Nat) : Entry := Sg.entry txn_Put.sg fun x => txn_Put.f k x.1 x.2
theorem txn_Put.ok (k : Nat) : CallOK Tryz.prog 119 (txn_Put.e k) := fn_ok (c := txn_Put.cx k) (code := txn_Put.body) (TT.of tt_ok pp_ok mm_ok) (fns_ok ⟨(alt_ok (slices_BinarySearchFunc_api_Txn_api_Txn_api_Dot_txn_Find_1.ok k) (slices_BinarySearchFunc_api_Txn_api_Txn_api_Dot_txn_Put_1.ok k)), (txn_Put_1.ok k), cloneTxn_ok, insTxn_ok, trivial⟩) mixed Tryz.func119 (by kernel_rfl) (by kernel_rfl) (by kernel_rfl) (by kernel_rfl) (by kernel_rfl) (by kernel_rfl) (fun x => by kernel_rfl)
noncomputable def dots_Put.body : Go.Code := Tryz.f120.body.getD .skip
noncomputable def dots_Put.rs : List Go.ResultVar := Tryz.f120.results.toList
def dots_Put.regs : List (Nat × RInfo) := [(0, ⟨[2, 3, 4], [2, 3, 4], [0], [], 0, [], [], [0, 1], [], []⟩), (1, ⟨[2, 3, 4, 14], [2, 3, 4, 13], [], [], 0, [], [], [3, 2], [], []⟩), (2, ⟨[4], [4], [1], [], 0, [], [], [2, 4], [], []⟩), (3, ⟨[2, 3, 4, 5], [2, 3, 4, 20], [], [], 0, [], [], [2, 3], [], []⟩), (4, ⟨[4], [4], [8, 10], [], 10, [], [], [2, 5, 3, 4], [[], [], [], [], [3], [], [], [6], [3, 6], [1, 3, 6], [1, 3, 6]], []⟩)]
noncomputable def dots_Put.cx (k : Nat) : Cx := ⟨tt, pp, [(113, (dot_Right.e k)), (81, (dots_Has.e k)), (122, (slices_BinarySearchFunc_api_Dot_api_Dot_api_Dot_dot_Compare.e k)), (123, (dot_Compare.e k)), (138, (cloneE tDot)), (157, (insE tDot)), (136, (dots_made.e k))], dots_Put.regs, k, mm⟩
@[reducible] def dots_Put.sg : Sg := ⟨[.dat tDots, .dat tDot], [], .dat tDots, []⟩
noncomputable def dots_Put.f (k : Nat) (a0 : Ty.D tDots) (a1 : Ty.D tDot) : Option (Sg.Out dots_Put.sg) := Sg.fn dots_Put.sg (dots_Put.cx k) dots_Put.body dots_Put.rs (a0, a1)
noncomputable def dots_Put.e (k : Nat) : Entry := Sg.entry dots_Put.sg fun x => dots_Put.f k x.1 x.2
theorem dots_Put.ok (k : Nat) : CallOK Tryz.prog 120 (dots_Put.e k) := fn_ok (c := dots_Put.cx k) (code := dots_Put.body) (TT.of tt_ok pp_ok mm_ok) (fns_ok ⟨(dot_Right.ok k), (dots_Has.ok k), (slices_BinarySearchFunc_api_Dot_api_Dot_api_Dot_dot_Compare.ok k), (dot_Compare.ok k), cloneDot_ok, insDot_ok, (dots_made.ok k), trivial⟩) mixed Tryz.func120 (by kernel_rfl) (by kernel_rfl) (by kernel_rfl) (by kernel_rfl) (by kernel_rfl) (by kernel_rfl) (fun x => by kernel_rfl)
noncomputable def state_Put.body : Go.Code := Tryz.f75.body.getD .skip
noncomputable def state_Put.rs : List Go.ResultVar := Tryz.f75.results.toList
def state_Put.regs : List (Nat × RInfo) := [(0, ⟨[2, 3, 4], [2, 3, 4], [0, 1], [], 0, [], [], [], [], []⟩), (1, ri [2,3,4,10] [2,3,4]), (2, ⟨[4], [4], [1], [], 0, [], [], [], [], []⟩), (3, ⟨[2, 3, 4], [2, 3, 4], [5], [], 0, [], [], [], [], []⟩), (4, ⟨[2, 4], [2, 4], [6], [], 0, [], [], [], [], []⟩), (5, ⟨[4], [4], [1], [], 0, [], [], [], [], []⟩)]
noncomputable def state_Put.cx (k : Nat) : Cx := ⟨tt, pp, [(85, (txn_Find.e k)), (119, (txn_Put.e k)), (120, (dots_Put.e k))], state_Put.regs, k, mm⟩
@[reducible] def state_Put.sg : Sg := ⟨[.dat tState, .dat tTxn], [], .dat tState, []⟩
noncomputable def state_Put.f (k : Nat) (a0 : Ty.D tState) (a1 : Ty.D tTxn) : Option (Sg.Out state_Put.sg) := Sg.fn state_Put.sg (state_Put.cx k) state_Put.body state_Put.rs (a0, a1)
noncomputable def state_Put.e (k : Nat) : Entry := Sg.entry state_Put.sg fun x => state_Put.f k x.1 x.2
theorem state_Put.ok (k : Nat) : CallOK Tryz.prog 75 (state_Put.e k) := fn_ok (c := state_Put.cx k) (code := state_Put.body) (TT.of tt_ok pp_ok mm_ok) (fns_ok ⟨(txn_Find.ok k), (txn_Put.ok k), (dots_Put.ok k), trivial⟩) mixed Tryz.func75 (by kernel_rfl) (by kernel_rfl) (by kernel_rfl) (by kernel_rfl) (by kernel_rfl) (by kernel_rfl) (fun x => by kernel_rfl)
noncomputable def state_Raise.body : Go.Code := Tryz.f76.body.getD .skip
noncomputable def state_Raise.rs : List Go.ResultVar := Tryz.f76.results.toList
def state_Raise.regs : List (Nat × RInfo) := [(0, ⟨[1, 2, 4], [2, 4], [0], [], 0, [], [], [], [], []⟩), (1, ⟨[2, 4], [2, 4], [5], [], 0, [], [], [], [], []⟩), (2, ⟨[4], [4], [1], [], 0, [], [], [], [], []⟩)]
noncomputable def state_Raise.cx (k : Nat) : Cx := ⟨tt, pp, [(117, (tally_Join.e k))], state_Raise.regs, k, mm⟩
@[reducible] def state_Raise.sg : Sg := ⟨[.dat tState, .dat (.slc tUndo)], [], .dat tState, []⟩
noncomputable def state_Raise.f (k : Nat) (a0 : Ty.D tState) (a1 : Ty.D (.slc tUndo)) : Option (Sg.Out state_Raise.sg) := Sg.fn state_Raise.sg (state_Raise.cx k) state_Raise.body state_Raise.rs (a0, a1)
noncomputable def state_Raise.e (k : Nat) : Entry := Sg.entry state_Raise.sg fun x => state_Raise.f k x.1 x.2
theorem state_Raise.ok (k : Nat) : CallOK Tryz.prog 76 (state_Raise.e k) := fn_ok (c := state_Raise.cx k) (code := state_Raise.body) (TT.of tt_ok pp_ok mm_ok) (fns_ok ⟨(tally_Join.ok k), trivial⟩) mixed Tryz.func76 (by kernel_rfl) (by kernel_rfl) (by kernel_rfl) (by kernel_rfl) (by kernel_rfl) (by kernel_rfl) (fun x => by kernel_rfl)
noncomputable def dots_Of.body : Go.Code := Tryz.f100.body.getD .skip
noncomputable def dots_Of.rs : List Go.ResultVar := Tryz.f100.results.toList
def dots_Of.regs : List (Nat × RInfo) := [(0, ri [0,2] [2,5]), (1, ⟨[0, 2], [2, 5], [2, 3], [], 0, [], [], [], [], []⟩), (2, ⟨[0, 2], [2, 5], [0, 1], [0], 0, [], [], [], [], []⟩), (3, ⟨[2], [2], [3], [], 0, [], [], [0, 2], [], []⟩)]
noncomputable def dots_Of.cx (k : Nat) : Cx := ⟨tt, pp, [(138, (cloneE tDot)), (137, (delE tDot 139 dotKeep)), (135, (sortE tDot 123 dotLt)), (123, (dot_Compare.e k)), (136, (dots_made.e k))], dots_Of.regs, k, mm⟩
@[reducible] def dots_Of.sg : Sg := ⟨[.dat (.slc tDot)], [], .dat tDots, []⟩
noncomputable def dots_Of.f (k : Nat) (a0 : Ty.D (.slc tDot)) : Option (Sg.Out dots_Of.sg) := Sg.fn dots_Of.sg (dots_Of.cx k) dots_Of.body dots_Of.rs a0
theorem dots_Of.f_eq (k : Nat) (a0 : Ty.D (.slc tDot)) : dots_Of.f k a0 = br (room ([] : List Int) a0) (br (room ([] : List Int) a0) (br (room ([] : List Int) (kept dotKeep a0)) (bnd (dots_made.f k (zarr 16 0) (isort dotLt (kept dotKeep a0))) fun r0 => some r0) none) none) none := by kernel_rfl
noncomputable def dots_Of.e (k : Nat) : Entry := Sg.entry dots_Of.sg fun x => dots_Of.f k x
theorem dots_Of.ok (k : Nat) : CallOK Tryz.prog 100 (dots_Of.e k) := fn_ok (c := dots_Of.cx k) (code := dots_Of.body) (TT.of tt_ok pp_ok mm_ok) (fns_ok ⟨cloneDot_ok, delDot_ok, sortDot_ok, (dot_Compare.ok k), (dots_made.ok k), trivial⟩) mixed Tryz.func100 (by kernel_rfl) (by kernel_rfl) (by kernel_rfl) (by kernel_rfl) (by kernel_rfl) (by kernel_rfl) (fun x => by kernel_rfl)
noncomputable def state_Seal.body : Go.Code := Tryz.f45.body.getD .skip
noncomputable def state_Seal.rs : List Go.ResultVar := Tryz.f45.results.toList
def state_Seal.regs : List (Nat × RInfo) := [(0, ⟨[1, 2, 4], [2, 4], [0], [], 0, [], [], [], [], []⟩), (1, ⟨[2, 4], [2, 4], [6], [], 5, [], [], [], [[], [], [], [], [1], [1], [1]], []⟩), (2, ⟨[4], [4], [1], [], 0, [], [], [], [], []⟩)]
noncomputable def state_Seal.cx (k : Nat) : Cx := ⟨tt, pp, [(100, (dots_Of.e k)), (99, (dots_Union.e k))], state_Seal.regs, k, mm⟩
@[reducible] def state_Seal.sg : Sg := ⟨[.dat tState, .dat (.slc tDot)], [], .dat tState, []⟩
noncomputable def state_Seal.f (k : Nat) (a0 : Ty.D tState) (a1 : Ty.D (.slc tDot)) : Option (Sg.Out state_Seal.sg) := Sg.fn state_Seal.sg (state_Seal.cx k) state_Seal.body state_Seal.rs (a0, a1)
theorem state_Seal.f_eq (k : Nat) (a0 : Ty.D tState) (a1 : Ty.D (.slc tDot)) : state_Seal.f k a0 a1 = bnd (dots_Of.f k a1) fun r0 => bnd (dots_Union.f k a0.2.2.2.1 r0) fun r1 => some (a0.1, (a0.2.1, (a0.2.2.1, (r1, a0.2.2.2.2)))) := by kernel_rfl
noncomputable def state_Seal.e (k : Nat) : Entry := Sg.entry state_Seal.sg fun x => state_Seal.f k x.1 x.2
theorem state_Seal.ok (k : Nat) : CallOK Tryz.prog 45 (state_Seal.e k) := fn_ok (c := state_Seal.cx k) (code := state_Seal.body) (TT.of tt_ok pp_ok mm_ok) (fns_ok ⟨(dots_Of.ok k), (dots_Union.ok k), trivial⟩) mixed Tryz.func45 (by kernel_rfl) (by kernel_rfl) (by kernel_rfl) (by kernel_rfl) (by kernel_rfl) (by kernel_rfl) (fun x => by kernel_rfl)
noncomputable def delta_Of.body : Go.Code := Tryz.f31.body.getD .skip
noncomputable def delta_Of.rs : List Go.ResultVar := Tryz.f31.results.toList
def delta_Of.regs : List (Nat × RInfo) := [(0, ⟨[1, 2], [1, 2], [0], [], 0, [], [], [], [], []⟩), (1, ⟨[2], [2], [8], [], 8, [], [], [], [[], [], [], [], [3], [], [], [1, 3, 6], [1, 3, 6]], []⟩)]
noncomputable def delta_Of.cx (k : Nat) : Cx := ⟨tt, pp, [(77, (cloneO tUndo))], delta_Of.regs, k, mm⟩
@[reducible] def delta_Of.sg : Sg := ⟨[.dat tState], [], .dat tKnow, []⟩
noncomputable def delta_Of.f (k : Nat) (a0 : Ty.D tState) : Option (Sg.Out delta_Of.sg) := Sg.fn delta_Of.sg (delta_Of.cx k) delta_Of.body delta_Of.rs a0
noncomputable def delta_Of.e (k : Nat) : Entry := Sg.entry delta_Of.sg fun x => delta_Of.f k x
theorem delta_Of.ok (k : Nat) : CallOK Tryz.prog 31 (delta_Of.e k) := fn_ok (c := delta_Of.cx k) (code := delta_Of.body) (TT.of tt_ok pp_ok mm_ok) (fns_ok ⟨cloneOUndo_ok, trivial⟩) mixed Tryz.func31 (by kernel_rfl) (by kernel_rfl) (by kernel_rfl) (by kernel_rfl) (by kernel_rfl) (by kernel_rfl) (fun x => by kernel_rfl)
noncomputable def slices_BinarySearchFunc_api_Undo_api_Undo_api_Undo_tally_compare.body : Go.Code := Tryz.f160.body.getD .skip
noncomputable def slices_BinarySearchFunc_api_Undo_api_Undo_api_Undo_tally_compare.rs : List Go.ResultVar := Tryz.f160.results.toList
def slices_BinarySearchFunc_api_Undo_api_Undo_api_Undo_tally_compare.regs : List (Nat × RInfo) := [(0, ri [0,2,4] [4]), (1, ri [0,2,4,8] [4]), (2, ri [0,2,4,8,9,10] [4]), (3, ⟨[0, 2, 4, 8, 9, 10, 17], [4], [], [], 0, [0, 2, 4, 8, 9, 10], [4], [], [], []⟩), (4, ri [0,2,4,8,9,10,11] [4]), (5, ⟨[0, 2, 4, 8, 9, 10, 11, 31], [4], [], [], 8, [], [], [], [[], [], [], [], [], [], [4, 5], [6, 4, 5]], []⟩), (6, ri [0,2,4,8,9,10] [4]), (7, ri [0,2,4,8,9,10] [4]), (8, ⟨[6, 7], [], [], [], 15, [], [], [], [[], [], [], [], [], [], [], [], [], [], [], [9, 10], [11, 9, 10], [11, 9, 10], [11, 9, 10], [11, 9, 10]], []⟩)]
noncomputable def slices_BinarySearchFunc_api_Undo_api_Undo_api_Undo_tally_compare.cx (k : Nat) : Cx := ⟨tt, pp, [(153, (tally_compare.e k))], slices_BinarySearchFunc_api_Undo_api_Undo_api_Undo_tally_compare.regs, k, mm⟩
@[reducible] def slices_BinarySearchFunc_api_Undo_api_Undo_api_Undo_tally_compare.sg : Sg := ⟨[.dat (.slc tUndo), .dat tUndo, .fn 153 0], [], .t2 (.dat (.int .i64)) (.dat .bool), []⟩
noncomputable def slices_BinarySearchFunc_api_Undo_api_Undo_api_Undo_tally_compare.f (k : Nat) (a0 : Ty.D (.slc tUndo)) (a1 : Ty.D tUndo) : Option (Sg.Out slices_BinarySearchFunc_api_Undo_api_Undo_api_Undo_tally_compare.sg) := Sg.fn slices_BinarySearchFunc_api_Undo_api_Undo_api_Undo_tally_compare.sg (slices_BinarySearchFunc_api_Undo_api_Undo_api_Undo_tally_compare.cx k) slices_BinarySearchFunc_api_Undo_api_Undo_api_Undo_tally_compare.body slices_BinarySearchFunc_api_Undo_api_Undo_api_Undo_tally_compare.rs (a0, a1)
noncomputable def slices_BinarySearchFunc_api_Undo_api_Undo_api_Undo_tally_compare.l3 (k : Nat) (n : Nat) (x0 : Ty.D (.slc tUndo)) (x8 : Ty.D (.int .i64)) (x9 : Ty.D (.int .i64)) (x10 : Ty.D (.int .i64)) (m4 : Ty.D tUndo) : Option (Sg.Out slices_BinarySearchFunc_api_Undo_api_Undo_api_Undo_tally_compare.sg) := loopAt (slices_BinarySearchFunc_api_Undo_api_Undo_api_Undo_tally_compare.cx k) slices_BinarySearchFunc_api_Undo_api_Undo_api_Undo_tally_compare.body [1, 1, 1, 0, 0] 3 [0, 2, 4, 8, 9, 10] [4] [] (Sg.K slices_BinarySearchFunc_api_Undo_api_Undo_api_Undo_tally_compare.sg (slices_BinarySearchFunc_api_Undo_api_Undo_api_Undo_tally_compare.cx k) slices_BinarySearchFunc_api_Undo_api_Undo_api_Undo_tally_compare.rs) n ⟨[(0, .dat (.slc tUndo) x0), (2, .fn 153 []), (4, .ref 4 []), (8, .dat (.int .i64) x8), (9, .dat (.int .i64) x9), (10, .dat (.int .i64) x10)], [(4, .dat tUndo m4)]⟩
theorem slices_BinarySearchFunc_api_Undo_api_Undo_api_Undo_tally_compare.f_eq (k : Nat) (a0 : Ty.D (.slc tUndo)) (a1 : Ty.D tUndo) : slices_BinarySearchFunc_api_Undo_api_Undo_api_Undo_tally_compare.f k a0 a1 = slices_BinarySearchFunc_api_Undo_api_Undo_api_Undo_tally_compare.l3 k k a0 (ilen a0) 0 (ilen a0) a1 := by kernel_rfl
theorem slices_BinarySearchFunc_api_Undo_api_Undo_api_Undo_tally_compare.l3_eq (k : Nat) (n3 : Nat) (x0 : Ty.D (.slc tUndo)) (x8 : Ty.D (.int .i64)) (x9 : Ty.D (.int .i64)) (x10 : Ty.D (.int .i64)) (m4 : Ty.D tUndo) : slices_BinarySearchFunc_api_Undo_api_Undo_api_Undo_tally_compare.l3 k (n3 + 1) x0 x8 x9 x10 m4 = br (ilt x9 x10) (br (inL (iwrap .i64 (ishr .u64 (iwrap .u64 (iadd .i64 x9 x10)) 1)) x0) (bnd (tally_compare.f k (rd tUndo x0 (natOf (iwrap .i64 (ishr .u64 (iwrap .u64 (iadd .i64 x9 x10)) 1)))) m4) fun r0 => br (ilt r0 0) (slices_BinarySearchFunc_api_Undo_api_Undo_api_Undo_tally_compare.l3 k n3 x0 x8 (iadd .i64 (iwrap .i64 (ishr .u64 (iwrap .u64 (iadd .i64 x9 x10)) 1)) 1) x10 m4) (slices_BinarySearchFunc_api_Undo_api_Undo_api_Undo_tally_compare.l3 k n3 x0 x8 x9 (iwrap .i64 (ishr .u64 (iwrap .u64 (iadd .i64 x9 x10)) 1)) m4)) none) (br (ilt x9 x8) (br (inL x9 x0) (bnd (tally_compare.f k (rd tUndo x0 (natOf x9)) m4) fun r1 => some (x9, (ieq r1 0))) none) (some (x9, false))) := by kernel_rfl
noncomputable def slices_BinarySearchFunc_api_Undo_api_Undo_api_Undo_tally_compare.e (k : Nat) : Entry := Sg.entry slices_BinarySearchFunc_api_Undo_api_Undo_api_Undo_tally_compare.sg fun x => slices_BinarySearchFunc_api_Undo_api_Undo_api_Undo_tally_compare.f k x.1 x.2
theorem slices_BinarySearchFunc_api_Undo_api_Undo_api_Undo_tally_compare.ok (k : Nat) : CallOK Tryz.prog 160 (slices_BinarySearchFunc_api_Undo_api_Undo_api_Undo_tally_compare.e k) := fn_ok (c := slices_BinarySearchFunc_api_Undo_api_Undo_api_Undo_tally_compare.cx k) (code := slices_BinarySearchFunc_api_Undo_api_Undo_api_Undo_tally_compare.body) (TT.of tt_ok pp_ok mm_ok) (fns_ok ⟨(tally_compare.ok k), trivial⟩) mixed Tryz.func160 (by kernel_rfl) (by kernel_rfl) (by kernel_rfl) (by kernel_rfl) (by kernel_rfl) (by kernel_rfl) (fun x => by kernel_rfl)
noncomputable def tally_at.body : Go.Code := Tryz.f126.body.getD .skip
noncomputable def tally_at.rs : List Go.ResultVar := Tryz.f126.results.toList
def tally_at.regs : List (Nat × RInfo) := [(0, ri [0,3] [3]), (1, ri [4,5] [9])]
noncomputable def tally_at.cx (k : Nat) : Cx := ⟨tt, pp, [(160, (slices_BinarySearchFunc_api_Undo_api_Undo_api_Undo_tally_compare.e k)), (153, (tally_compare.e k))], tally_at.regs, k, mm⟩
@[reducible] def tally_at.sg : Sg := ⟨[.dat (.slc tUndo), .dat tDot], [], .t2 (.dat (.int .i64)) (.dat .bool), []⟩
noncomputable def tally_at.f (k : Nat) (a0 : Ty.D (.slc tUndo)) (a1 : Ty.D tDot) : Option (Sg.Out tally_at.sg) := Sg.fn tally_at.sg (tally_at.cx k) tally_at.body tally_at.rs (a0, a1)
theorem tally_at.f_eq (k : Nat) (a0 : Ty.D (.slc tUndo)) (a1 : Ty.D tDot) : tally_at.f k a0 a1 = bnd (slices_BinarySearchFunc_api_Undo_api_Undo_api_Undo_tally_compare.f k a0 (a1, 0)) fun r0 => some (r0.1, r0.2) := by kernel_rfl
noncomputable def tally_at.e (k : Nat) : Entry := Sg.entry tally_at.sg fun x => tally_at.f k x.1 x.2
theorem tally_at.ok (k : Nat) : CallOK Tryz.prog 126 (tally_at.e k) := fn_ok (c := tally_at.cx k) (code := tally_at.body) (TT.of tt_ok pp_ok mm_ok) (fns_ok ⟨(slices_BinarySearchFunc_api_Undo_api_Undo_api_Undo_tally_compare.ok k), (tally_compare.ok k), trivial⟩) mixed Tryz.func126 (by kernel_rfl) (by kernel_rfl) (by kernel_rfl) (by kernel_rfl) (by kernel_rfl) (by kernel_rfl) (fun x => by kernel_rfl)
noncomputable def tally_Get.body : Go.Code := Tryz.f86.body.getD .skip
noncomputable def tally_Get.rs : List Go.ResultVar := Tryz.f86.results.toList
def tally_Get.regs : List (Nat × RInfo) := [(0, ri [0,3] [3]), (1, ri [0,5,6] [10]), (2, ri [0,5,13] [10]), (3, ri [4] []), (4, ri [4] [])]
noncomputable def tally_Get.cx (k : Nat) : Cx := ⟨tt, pp, [(126, (tally_at.e k))], tally_Get.regs, k, mm⟩
@[reducible] def tally_Get.sg : Sg := ⟨[.dat (.slc tUndo), .dat tDot], [], .dat (.int .i64), []⟩
noncomputable def tally_Get.f (k : Nat) (a0 : Ty.D (.slc tUndo)) (a1 : Ty.D tDot) : Option (Sg.Out tally_Get.sg) := Sg.fn tally_Get.sg (tally_Get.cx k) tally_Get.body tally_Get.rs (a0, a1)
theorem tally_Get.f_eq (k : Nat) (a0 : Ty.D (.slc tUndo)) (a1 : Ty.D tDot) : tally_Get.f k a0 a1 = bnd (tally_at.f k a0 a1) fun r0 => br r0.2 (br (inL r0.1 a0) (some ((rd tUndo a0 (natOf r0.1)).2)) none) (some 0) := by kernel_rfl
noncomputable def tally_Get.e (k : Nat) : Entry := Sg.entry tally_Get.sg fun x => tally_Get.f k x.1 x.2
theorem tally_Get.ok (k : Nat) : CallOK Tryz.prog 86 (tally_Get.e k) := fn_ok (c := tally_Get.cx k) (code := tally_Get.body) (TT.of tt_ok pp_ok mm_ok) (fns_ok ⟨(tally_at.ok k), trivial⟩) mixed Tryz.func86 (by kernel_rfl) (by kernel_rfl) (by kernel_rfl) (by kernel_rfl) (by kernel_rfl) (by kernel_rfl) (fun x => by kernel_rfl)
noncomputable def peer_Peers_Agrees_1.body : Go.Code := Tryz.f108.body.getD .skip
noncomputable def peer_Peers_Agrees_1.rs : List Go.ResultVar := Tryz.f108.results.toList
def peer_Peers_Agrees_1.regs : List (Nat × RInfo) := [(0, ⟨[1, 2, 3], [3, 1000000, 1000001], [0], [], 0, [], [], [], [], []⟩), (1, rq [4] [1000000,1000001] 6)]
noncomputable def peer_Peers_Agrees_1.cx (k : Nat) : Cx := ⟨tt, pp, [(86, (tally_Get.e k))], peer_Peers_Agrees_1.regs, k, mm⟩
@[reducible] def peer_Peers_Agrees_1.sg : Sg := ⟨[.dat tKnow, .ref, .ref], [tDot, (.int .i64)], .dat .bool, [tDot, (.int .i64)]⟩
noncomputable def peer_Peers_Agrees_1.f (k : Nat) (a0 : Ty.D tKnow) (o0 : Ty.D tDot) (o1 : Ty.D (.int .i64)) : Option (Sg.Out peer_Peers_Agrees_1.sg) := Sg.fn peer_Peers_Agrees_1.sg (peer_Peers_Agrees_1.cx k) peer_Peers_Agrees_1.body peer_Peers_Agrees_1.rs (a0, o0, o1)
theorem peer_Peers_Agrees_1.f_eq (k : Nat) (a0 : Ty.D tKnow) (o0 : Ty.D tDot) (o1 : Ty.D (.int .i64)) : peer_Peers_Agrees_1.f k a0 o0 o1 = bnd (tally_Get.f k a0.2.1 o0) fun r0 => some ((ieq r0 o1), (o0, o1)) := by kernel_rfl
noncomputable def peer_Peers_Agrees_1.e (k : Nat) : Entry := Sg.entry peer_Peers_Agrees_1.sg fun x => peer_Peers_Agrees_1.f k x.1 x.2.1 x.2.2
theorem peer_Peers_Agrees_1.ok (k : Nat) : CallOK Tryz.prog 108 (peer_Peers_Agrees_1.e k) := fn_ok (c := peer_Peers_Agrees_1.cx k) (code := peer_Peers_Agrees_1.body) (TT.of tt_ok pp_ok mm_ok) (fns_ok ⟨(tally_Get.ok k), trivial⟩) mixed Tryz.func108 (by kernel_rfl) (by kernel_rfl) (by kernel_rfl) (by kernel_rfl) (by kernel_rfl) (by kernel_rfl) (fun x => by kernel_rfl)
noncomputable def peer_Peers_All_peer_Peers_Agrees_1.body : Go.Code := Tryz.f82.body.getD .skip
noncomputable def peer_Peers_All_peer_Peers_Agrees_1.rs : List Go.ResultVar := Tryz.f82.results.toList
def peer_Peers_All_peer_Peers_Agrees_1.regs : List (Nat × RInfo) := [(0, ri [0,1] [1000000,1000001,1000002]), (1, ri [0,1,7] [1000000,1000001,1000002]), (2, ri [4] [1000000,1000001,1000002]), (3, ri [0,1,11,12] [1000000,1000001,1000002]), (4, ⟨[0, 1, 11, 12, 13], [1000000, 1000001, 1000002], [], [], 0, [0, 1, 11, 12], [1000000, 1000001, 1000002], [], [], []⟩), (5, ri [0,1,5,11,12] [1000000,1000001,1000002]), (6, ri [0,1,11,12,31] [1000000,1000001,1000002]), (7, ri [4] [1000000,1000001,1000002]), (8, ri [0,1,11,12] [1000000,1000001,1000002]), (9, ri [4] [1000000,1000001,1000002])]
noncomputable def peer_Peers_All_peer_Peers_Agrees_1.cx (k : Nat) : Cx := ⟨tt, pp, [(108, (peer_Peers_Agrees_1.e k))], peer_Peers_All_peer_Peers_Agrees_1.regs, k, mm⟩
@[reducible] def peer_Peers_All_peer_Peers_Agrees_1.sg : Sg := ⟨[.ref, .fn 108 2], [tPeers, tDot, (.int .i64)], .dat .bool, [tPeers, tDot, (.int .i64)]⟩
noncomputable def peer_Peers_All_peer_Peers_Agrees_1.f (k : Nat) (o0 : Ty.D tPeers) (o1 : Ty.D tDot) (o2 : Ty.D (.int .i64)) : Option (Sg.Out peer_Peers_All_peer_Peers_Agrees_1.sg) := Sg.fn peer_Peers_All_peer_Peers_Agrees_1.sg (peer_Peers_All_peer_Peers_Agrees_1.cx k) peer_Peers_All_peer_Peers_Agrees_1.body peer_Peers_All_peer_Peers_Agrees_1.rs (o0, o1, o2)
noncomputable def peer_Peers_All_peer_Peers_Agrees_1.l4 (k : Nat) (n : Nat) (x11 : Ty.D (.int .i64)) (x12 : Ty.D (.int .i64)) (m1000000 : Ty.D tPeers) (m1000001 : Ty.D tDot) (m1000002 : Ty.D (.int .i64)) : Option (Sg.Out peer_Peers_All_peer_Peers_Agrees_1.sg) := loopAt (peer_Peers_All_peer_Peers_Agrees_1.cx k) peer_Peers_All_peer_Peers_Agrees_1.body [1, 1, 0, 1, 0] 4 [0, 1, 11, 12] [1000000, 1000001, 1000002] [] (Sg.K peer_Peers_All_peer_Peers_Agrees_1.sg (peer_Peers_All_peer_Peers_Agrees_1.cx k) peer_Peers_All_peer_Peers_Agrees_1.rs) n ⟨[(0, .ref 1000000 []), (1, .fn 108 [(1000001, []), (1000002, [])]), (11, .dat (.int .i64) x11), (12, .dat (.int .i64) x12)], [(1000000, .dat tPeers m1000000), (1000001, .dat tDot m1000001), (1000002, .dat (.int .i64) m1000002)]⟩
theorem peer_Peers_All_peer_Peers_Agrees_1.f_eq (k : Nat) (o0 : Ty.D tPeers) (o1 : Ty.D tDot) (o2 : Ty.D (.int .i64)) : peer_Peers_All_peer_Peers_Agrees_1.f k o0 o1 o2 = peer_Peers_All_peer_Peers_Agrees_1.l4 k k o0.2.1 0 o0 o1 o2 := by kernel_rfl
theorem peer_Peers_All_peer_Peers_Agrees_1.l4_eq (k : Nat) (n4 : Nat) (x11 : Ty.D (.int .i64)) (x12 : Ty.D (.int .i64)) (m1000000 : Ty.D tPeers) (m1000001 : Ty.D tDot) (m1000002 : Ty.D (.int .i64)) : peer_Peers_All_peer_Peers_Agrees_1.l4 k (n4 + 1) x11 x12 m1000000 m1000001 m1000002 = br (ilt x12 x11) (br (bnot (ieq x12 m1000000.1)) (br (inB x12 16) (bnd (peer_Peers_Agrees_1.f k (rd tKnow m1000000.2.2 (natOf x12)) m1000001 m1000002) fun r0 => br (bnot r0.1) (some (false, (m1000000, r0.2.1, r0.2.2))) (peer_Peers_All_peer_Peers_Agrees_1.l4 k n4 x11 (iadd .i64 x12 1) m1000000 r0.2.1 r0.2.2)) none) (peer_Peers_All_peer_Peers_Agrees_1.l4 k n4 x11 (iadd .i64 x12 1) m1000000 m1000001 m1000002)) (some (true, (m1000000, m1000001, m1000002))) := by kernel_rfl
noncomputable def peer_Peers_All_peer_Peers_Agrees_1.e (k : Nat) : Entry := Sg.entry peer_Peers_All_peer_Peers_Agrees_1.sg fun x => peer_Peers_All_peer_Peers_Agrees_1.f k x.1 x.2.1 x.2.2
theorem peer_Peers_All_peer_Peers_Agrees_1.ok (k : Nat) : CallOK Tryz.prog 82 (peer_Peers_All_peer_Peers_Agrees_1.e k) := fn_ok (c := peer_Peers_All_peer_Peers_Agrees_1.cx k) (code := peer_Peers_All_peer_Peers_Agrees_1.body) (TT.of tt_ok pp_ok mm_ok) (fns_ok ⟨(peer_Peers_Agrees_1.ok k), trivial⟩) mixed Tryz.func82 (by kernel_rfl) (by kernel_rfl) (by kernel_rfl) (by kernel_rfl) (by kernel_rfl) (by kernel_rfl) (fun x => by kernel_rfl)
noncomputable def peer_Peers_Agrees.body : Go.Code := Tryz.f55.body.getD .skip
noncomputable def peer_Peers_Agrees.rs : List Go.ResultVar := Tryz.f55.results.toList
def peer_Peers_Agrees.regs : List (Nat × RInfo) := [(0, ri [0,4,5] [4,5,1000000]), (1, ri [6] [9,1000000])]
noncomputable def peer_Peers_Agrees.cx (k : Nat) : Cx := ⟨tt, pp, [(108, (peer_Peers_Agrees_1.e k)), (82, (Entry.alt peer_Peers_All_seal_Ready_1.sg (peer_Peers_All_seal_Ready_1.e k) (peer_Peers_All_peer_Peers_Agrees_1.e k)))], peer_Peers_Agrees.regs, k, mm⟩
@[reducible] def peer_Peers_Agrees.sg : Sg := ⟨[.ref, .dat tDot, .dat (.int .i64)], [tPeers], .dat .bool, [tPeers]⟩
noncomputable def peer_Peers_Agrees.f (k : Nat) (a1 : Ty.D tDot) (a2 : Ty.D (.int .i64)) (o0 : Ty.D tPeers) : Option (Sg.Out peer_Peers_Agrees.sg) := Sg.fn peer_Peers_Agrees.sg (peer_Peers_Agrees.cx k) peer_Peers_Agrees.body peer_Peers_Agrees.rs (a1, a2, o0)
theorem peer_Peers_Agrees.f_eq (k : Nat) (a1 : Ty.D tDot) (a2 : Ty.D (.int .i64)) (o0 : Ty.D tPeers) : peer_Peers_Agrees.f k a1 a2 o0 = bnd (peer_Peers_All_peer_Peers_Agrees_1.f k o0 a1 a2) fun r0 => some (r0.1, r0.2.1) := by kernel_rfl
noncomputable def peer_Peers_Agrees.e (k : Nat) : Entry := Sg.entry peer_Peers_Agrees.sg fun x => peer_Peers_Agrees.f k x.1 x.2.1 x.2.2
theorem peer_Peers_Agrees.ok (k : Nat) : CallOK Tryz.prog 55 (peer_Peers_Agrees.e k) := fn_ok (c := peer_Peers_Agrees.cx k) (code := peer_Peers_Agrees.body) (TT.of tt_ok pp_ok mm_ok) (fns_ok ⟨(peer_Peers_Agrees_1.ok k), (alt_ok (peer_Peers_All_seal_Ready_1.ok k) (peer_Peers_All_peer_Peers_Agrees_1.ok k)), trivial⟩) mixed Tryz.func55 (by kernel_rfl) (by kernel_rfl) (by kernel_rfl) (by kernel_rfl) (by kernel_rfl) (by kernel_rfl) (fun x => by kernel_rfl)
noncomputable def seal_Final_1.body : Go.Code := Tryz.f87.body.getD .skip
noncomputable def seal_Final_1.rs : List Go.ResultVar := Tryz.f87.results.toList
def seal_Final_1.regs : List (Nat × RInfo) := [(0, ⟨[1, 2], [2, 1000000], [0], [], 0, [], [], [], [], []⟩), (1, ri [3] [7,12,1000000])]
noncomputable def seal_Final_1.cx (k : Nat) : Cx := ⟨tt, pp, [(81, (dots_Has.e k))], seal_Final_1.regs, k, mm⟩
@[reducible] def seal_Final_1.sg : Sg := ⟨[.dat tKnow, .ref], [tDot], .dat .bool, [tDot]⟩
noncomputable def seal_Final_1.f (k : Nat) (a0 : Ty.D tKnow) (o0 : Ty.D tDot) : Option (Sg.Out seal_Final_1.sg) := Sg.fn seal_Final_1.sg (seal_Final_1.cx k) seal_Final_1.body seal_Final_1.rs (a0, o0)
theorem seal_Final_1.f_eq (k : Nat) (a0 : Ty.D tKnow) (o0 : Ty.D tDot) : seal_Final_1.f k a0 o0 = bnd (dots_Has.f k a0.1 o0) fun r0 => br r0 (bnd (dots_Has.f k a0.2.2 o0) fun r1 => some (r1, o0)) (some (false, o0)) := by kernel_rfl
noncomputable def seal_Final_1.e (k : Nat) : Entry := Sg.entry seal_Final_1.sg fun x => seal_Final_1.f k x.1 x.2
theorem seal_Final_1.ok (k : Nat) : CallOK Tryz.prog 87 (seal_Final_1.e k) := fn_ok (c := seal_Final_1.cx k) (code := seal_Final_1.body) (TT.of tt_ok pp_ok mm_ok) (fns_ok ⟨(dots_Has.ok k), trivial⟩) mixed Tryz.func87 (by kernel_rfl) (by kernel_rfl) (by kernel_rfl) (by kernel_rfl) (by kernel_rfl) (by kernel_rfl) (fun x => by kernel_rfl)
noncomputable def peer_Peers_All_seal_Final_1.body : Go.Code := Tryz.f82.body.getD .skip
noncomputable def peer_Peers_All_seal_Final_1.rs : List Go.ResultVar := Tryz.f82.results.toList
def peer_Peers_All_seal_Final_1.regs : List (Nat × RInfo) := [(0, ri [0,1] [1000000,1000001]), (1, ri [0,1,7] [1000000,1000001]), (2, ri [4] [1000000,1000001]), (3, ri [0,1,11,12] [1000000,1000001]), (4, ⟨[0, 1, 11, 12, 13], [1000000, 1000001], [], [], 0, [0, 1, 11, 12], [1000000, 1000001], [], [], []⟩), (5, ri [0,1,5,11,12] [1000000,1000001]), (6, ri [0,1,11,12,31] [1000000,1000001]), (7, ri [4] [1000000,1000001]), (8, ri [0,1,11,12] [1000000,1000001]), (9, ri [4] [1000000,1000001])]
noncomputable def peer_Peers_All_seal_Final_1.cx (k : Nat) : Cx := ⟨tt, pp, [(87, (seal_Final_1.e k))], peer_Peers_All_seal_Final_1.regs, k, mm⟩
@[reducible] def peer_Peers_All_seal_Final_1.sg : Sg := ⟨[.ref, .fn 87 1], [tPeers, tDot], .dat .bool, [tPeers, tDot]⟩
noncomputable def peer_Peers_All_seal_Final_1.f (k : Nat) (o0 : Ty.D tPeers) (o1 : Ty.D tDot) : Option (Sg.Out peer_Peers_All_seal_Final_1.sg) := Sg.fn peer_Peers_All_seal_Final_1.sg (peer_Peers_All_seal_Final_1.cx k) peer_Peers_All_seal_Final_1.body peer_Peers_All_seal_Final_1.rs (o0, o1)
noncomputable def peer_Peers_All_seal_Final_1.l4 (k : Nat) (n : Nat) (x11 : Ty.D (.int .i64)) (x12 : Ty.D (.int .i64)) (m1000000 : Ty.D tPeers) (m1000001 : Ty.D tDot) : Option (Sg.Out peer_Peers_All_seal_Final_1.sg) := loopAt (peer_Peers_All_seal_Final_1.cx k) peer_Peers_All_seal_Final_1.body [1, 1, 0, 1, 0] 4 [0, 1, 11, 12] [1000000, 1000001] [] (Sg.K peer_Peers_All_seal_Final_1.sg (peer_Peers_All_seal_Final_1.cx k) peer_Peers_All_seal_Final_1.rs) n ⟨[(0, .ref 1000000 []), (1, .fn 87 [(1000001, [])]), (11, .dat (.int .i64) x11), (12, .dat (.int .i64) x12)], [(1000000, .dat tPeers m1000000), (1000001, .dat tDot m1000001)]⟩
theorem peer_Peers_All_seal_Final_1.f_eq (k : Nat) (o0 : Ty.D tPeers) (o1 : Ty.D tDot) : peer_Peers_All_seal_Final_1.f k o0 o1 = peer_Peers_All_seal_Final_1.l4 k k o0.2.1 0 o0 o1 := by kernel_rfl
theorem peer_Peers_All_seal_Final_1.l4_eq (k : Nat) (n4 : Nat) (x11 : Ty.D (.int .i64)) (x12 : Ty.D (.int .i64)) (m1000000 : Ty.D tPeers) (m1000001 : Ty.D tDot) : peer_Peers_All_seal_Final_1.l4 k (n4 + 1) x11 x12 m1000000 m1000001 = br (ilt x12 x11) (br (bnot (ieq x12 m1000000.1)) (br (inB x12 16) (bnd (seal_Final_1.f k (rd tKnow m1000000.2.2 (natOf x12)) m1000001) fun r0 => br (bnot r0.1) (some (false, (m1000000, r0.2))) (peer_Peers_All_seal_Final_1.l4 k n4 x11 (iadd .i64 x12 1) m1000000 r0.2)) none) (peer_Peers_All_seal_Final_1.l4 k n4 x11 (iadd .i64 x12 1) m1000000 m1000001)) (some (true, (m1000000, m1000001))) := by kernel_rfl
noncomputable def peer_Peers_All_seal_Final_1.e (k : Nat) : Entry := Sg.entry peer_Peers_All_seal_Final_1.sg fun x => peer_Peers_All_seal_Final_1.f k x.1 x.2
theorem peer_Peers_All_seal_Final_1.ok (k : Nat) : CallOK Tryz.prog 82 (peer_Peers_All_seal_Final_1.e k) := fn_ok (c := peer_Peers_All_seal_Final_1.cx k) (code := peer_Peers_All_seal_Final_1.body) (TT.of tt_ok pp_ok mm_ok) (fns_ok ⟨(seal_Final_1.ok k), trivial⟩) mixed Tryz.func82 (by kernel_rfl) (by kernel_rfl) (by kernel_rfl) (by kernel_rfl) (by kernel_rfl) (by kernel_rfl) (fun x => by kernel_rfl)
noncomputable def seal_Final.body : Go.Code := Tryz.f40.body.getD .skip
noncomputable def seal_Final.rs : List Go.ResultVar := Tryz.f40.results.toList
def seal_Final.regs : List (Nat × RInfo) := [(0, ⟨[0, 4, 5], [4, 5, 1000000], [0], [], 0, [], [], [], [], []⟩), (1, ⟨[0, 5, 28], [5, 1000000], [], [], 22, [], [], [], [[], [], [], [1, 2], [1, 2], [1, 2], [1, 2], [1, 2], [1, 2], [7, 1, 2, 8], [7, 1, 2, 8], [1, 2, 7, 8], [1, 2, 7, 8], [1, 2, 7, 8], [1, 2, 7, 8], [1, 2, 7, 8], [1, 2, 7, 8], [1, 2, 7, 8], [16, 1, 2, 7, 8, 17], [1, 2, 7, 8, 14, 16, 17], [19, 1, 2, 7, 8, 14, 16, 17], [1, 2, 7, 8, 19, 14, 16, 17]], []⟩), (2, ri [6] [31,1000000]), (3, ri [6] [31,1000000])]
noncomputable def seal_Final.cx (k : Nat) : Cx := ⟨tt, pp, [(85, (txn_Find.e k)), (81, (dots_Has.e k)), (86, (tally_Get.e k)), (55, (peer_Peers_Agrees.e k)), (87, (seal_Final_1.e k)), (82, (Entry.alt peer_Peers_All_seal_Ready_1.sg (peer_Peers_All_seal_Ready_1.e k) (Entry.alt peer_Peers_All_peer_Peers_Agrees_1.sg (peer_Peers_All_peer_Peers_Agrees_1.e k) (peer_Peers_All_seal_Final_1.e k))))], seal_Final.regs, k, mm⟩
@[reducible] def seal_Final.sg : Sg := ⟨[.ref, .dat tState, .dat tDot], [tPeers], .dat .bool, [tPeers]⟩
noncomputable def seal_Final.f (k : Nat) (a1 : Ty.D tState) (a2 : Ty.D tDot) (o0 : Ty.D tPeers) : Option (Sg.Out seal_Final.sg) := Sg.fn seal_Final.sg (seal_Final.cx k) seal_Final.body seal_Final.rs (a1, a2, o0)
theorem seal_Final.f_eq (k : Nat) (a1 : Ty.D tState) (a2 : Ty.D tDot) (o0 : Ty.D tPeers) : seal_Final.f k a1 a2 o0 = bnd (txn_Find.f k a1.1 a2) fun r0 => br (ilt r0 0) (some (false, o0)) (bnd (dots_Has.f k a1.2.2.2.1 a2) fun r1 => br (bnot r1) (some (false, o0)) (bnd (tally_Get.f k a1.2.1 a2) fun r2 => bnd (peer_Peers_Agrees.f k a2 r2 o0) fun r3 => br (bnot r3.1) (some (false, r3.2)) (bnd (peer_Peers_All_seal_Final_1.f k r3.2 a2) fun r4 => some (r4.1, r4.2.1)))) := by kernel_rfl
noncomputable def seal_Final.e (k : Nat) : Entry := Sg.entry seal_Final.sg fun x => seal_Final.f k x.1 x.2.1 x.2.2
theorem seal_Final.ok (k : Nat) : CallOK Tryz.prog 40 (seal_Final.e k) := fn_ok (c := seal_Final.cx k) (code := seal_Final.body) (TT.of tt_ok pp_ok mm_ok) (fns_ok ⟨(txn_Find.ok k), (dots_Has.ok k), (tally_Get.ok k), (peer_Peers_Agrees.ok k), (seal_Final_1.ok k), (alt_ok (peer_Peers_All_seal_Ready_1.ok k) (alt_ok (peer_Peers_All_peer_Peers_Agrees_1.ok k) (peer_Peers_All_seal_Final_1.ok k))), trivial⟩) mixed Tryz.func40 (by kernel_rfl) (by kernel_rfl) (by kernel_rfl) (by kernel_rfl) (by kernel_rfl) (by kernel_rfl) (fun x => by kernel_rfl)
noncomputable def tally_Seen.body : Go.Code := Tryz.f121.body.getD .skip
noncomputable def tally_Seen.rs : List Go.ResultVar := Tryz.f121.results.toList
def tally_Seen.regs : List (Nat × RInfo) := [(0, ri [0,3] [3]), (1, ri [4] [])]
noncomputable def tally_Seen.cx (k : Nat) : Cx := ⟨tt, pp, [(86, (tally_Get.e k))], tally_Seen.regs, k, mm⟩
@[reducible] def tally_Seen.sg : Sg := ⟨[.dat (.slc tUndo), .dat tDot], [], .dat .bool, []⟩
noncomputable def tally_Seen.f (k : Nat) (a0 : Ty.D (.slc tUndo)) (a1 : Ty.D tDot) : Option (Sg.Out tally_Seen.sg) := Sg.fn tally_Seen.sg (tally_Seen.cx k) tally_Seen.body tally_Seen.rs (a0, a1)
noncomputable def tally_Seen.e (k : Nat) : Entry := Sg.entry tally_Seen.sg fun x => tally_Seen.f k x.1 x.2
theorem tally_Seen.ok (k : Nat) : CallOK Tryz.prog 121 (tally_Seen.e k) := fn_ok (c := tally_Seen.cx k) (code := tally_Seen.body) (TT.of tt_ok pp_ok mm_ok) (fns_ok ⟨(tally_Get.ok k), trivial⟩) mixed Tryz.func121 (by kernel_rfl) (by kernel_rfl) (by kernel_rfl) (by kernel_rfl) (by kernel_rfl) (by kernel_rfl) (fun x => by kernel_rfl)
noncomputable def seal_finals.body : Go.Code := Tryz.f78.body.getD .skip
noncomputable def seal_finals.rs : List Go.ResultVar := Tryz.f78.results.toList
def seal_finals.regs : List (Nat × RInfo) := [(0, ⟨[0, 3], [3, 1000000], [0], [], 0, [], [], [], [], []⟩), (1, ri [0,3,6,7] [3,10,11,1000000]), (2, ri [0,3,6,7,13,14,15] [3,10,11,1000000]), (3, ⟨[0, 3, 6, 7, 13, 14, 15, 16], [3, 10, 11, 1000000], [], [], 0, [0, 3, 6, 7, 13, 14, 15], [3, 10, 11, 1000000], [], [], []⟩), (4, ⟨[0, 3, 6, 7, 9, 13, 14, 15], [3, 9, 10, 11, 1000000], [3], [], 0, [], [], [], [], []⟩), (6, ri [0,3,6,7,9,13,14,15,22] [3,9,10,11,1000000]), (7, ri [0,3,6,7,9,13,14,15,29] [3,9,10,11,34,1000000]), (8, ri [0,3,6,7,13,14,15] [3,10,11,1000000]), (5, ri [0,3,6,7,13,14,15] [3,10,11,1000000]), (9, ri [0,3,6,7,13,14,15] [3,10,11,1000000]), (10, ri [4,5] [10,11,1000000])]
noncomputable def seal_finals.cx (k : Nat) : Cx := ⟨tt, pp, [(40, (seal_Final.e k)), (121, (tally_Seen.e k))], seal_finals.regs, k, mm⟩
@[reducible] def seal_finals.sg : Sg := ⟨[.ref, .dat tState], [tPeers], .n2m, [tPeers, (.map tDot .bool), (.map tDot .bool)]⟩
noncomputable def seal_finals.f (k : Nat) (a1 : Ty.D tState) (o0 : Ty.D tPeers) : Option (Sg.Out seal_finals.sg) := Sg.fn seal_finals.sg (seal_finals.cx k) seal_finals.body seal_finals.rs (a1, o0)
noncomputable def seal_finals.e (k : Nat) : Entry := Sg.entry seal_finals.sg fun x => seal_finals.f k x.1 x.2
theorem seal_finals.ok (k : Nat) : CallOK Tryz.prog 78 (seal_finals.e k) := fn_ok (c := seal_finals.cx k) (code := seal_finals.body) (TT.of tt_ok pp_ok mm_ok) (fns_ok ⟨(seal_Final.ok k), (tally_Seen.ok k), trivial⟩) mixed Tryz.func78 (by kernel_rfl) (by kernel_rfl) (by kernel_rfl) (by kernel_rfl) (by kernel_rfl) (by kernel_rfl) (fun x => by kernel_rfl)
noncomputable def op_Gone.body : Go.Code := Tryz.f80.body.getD .skip
noncomputable def op_Gone.rs : List Go.ResultVar := Tryz.f80.results.toList
def op_Gone.regs : List (Nat × RInfo) := [(0, ⟨[1], [1], [0], [], 0, [], [], [], [], []⟩), (1, ri [2] [])]
noncomputable def op_Gone.cx (k : Nat) : Cx := ⟨tt, pp, [], op_Gone.regs, k, mm⟩
@[reducible] def op_Gone.sg : Sg := ⟨[.dat tOp], [], .dat .bool, []⟩
noncomputable def op_Gone.f (k : Nat) (a0 : Ty.D tOp) : Option (Sg.Out op_Gone.sg) := Sg.fn op_Gone.sg (op_Gone.cx k) op_Gone.body op_Gone.rs a0
noncomputable def op_Gone.e (k : Nat) : Entry := Sg.entry op_Gone.sg fun x => op_Gone.f k x
theorem op_Gone.ok (k : Nat) : CallOK Tryz.prog 80 (op_Gone.e k) := fn_ok (c := op_Gone.cx k) (code := op_Gone.body) (TT.of tt_ok pp_ok mm_ok) (fns_ok trivial) mixed Tryz.func80 (by kernel_rfl) (by kernel_rfl) (by kernel_rfl) (by kernel_rfl) (by kernel_rfl) (by kernel_rfl) (fun x => by kernel_rfl)
noncomputable def seal_Compact.body : Go.Code := Tryz.f36.body.getD .skip
noncomputable def seal_Compact.rs : List Go.ResultVar := Tryz.f36.results.toList
def seal_Compact.regs : List (Nat × RInfo) := [(0, ⟨[0, 3, 4], [3, 4, 74, 1000000], [0], [], 0, [], [], [], [], []⟩), (1, ri [3,4,5,6] [3,4,24,74,500024,1000000]), (2, ri [3,4,5,6,7] [3,4,24,27,74,500024,1000000]), (3, ri [3,4,5,6,7,29,30,31] [3,4,24,27,74,500024,1000000]), (4, ⟨[3, 4, 5, 6, 7, 29, 30, 31, 32], [3, 4, 24, 27, 74, 500024, 1000000], [], [], 0, [3, 4, 5, 6, 7, 29, 30, 31], [3, 4, 24, 27, 74, 500024, 1000000], [], [], []⟩), (5, ⟨[3, 4, 5, 6, 7, 9, 29, 30, 31], [3, 4, 9, 24, 27, 74, 500024, 1000000], [3], [], 0, [], [], [], [], []⟩), (6, ri [3,4,5,6,7,9,29,30,31,36,37,38] [3,4,9,24,27,74,500024,1000000]), (7, ⟨[3, 4, 5, 6, 7, 9, 29, 30, 31, 36, 37, 38, 39], [3, 4, 9, 24, 27, 74, 500024, 1000000], [], [], 0, [3, 4, 5, 6, 7, 9, 29, 30, 31, 36, 37, 38], [3, 4, 9, 24, 27, 74, 500024, 1000000], [], [], []⟩), (8, ⟨[3, 4, 5, 6, 7, 9, 11, 29, 30, 31, 36, 37, 38], [3, 4, 9, 11, 24, 27, 74, 500024, 1000000], [3], [], 0, [], [], [], [], []⟩), (9, ri [3,4,5,6,7,9,29,30,31,36,37,38,43,44,45] [3,4,9,24,27,74,500024,1000000]), (10, ⟨[3, 4, 5, 6, 7, 9, 29, 30, 31, 36, 37, 38, 43, 44, 45, 46], [3, 4, 9, 24, 27, 74, 500024, 1000000], [], [], 0, [3, 4, 5, 6, 7, 9, 29, 30, 31, 36, 37, 38, 43, 44, 45], [3, 4, 9, 24, 27, 74, 500024, 1000000], [], [], []⟩), (11, ri [3,4,5,6,7,9,13,29,30,31,36,37,38,43,44,45] [3,4,9,13,24,27,74,500024,1000000]), (12, ⟨[3, 4, 5, 6, 7, 9, 29, 30, 31, 36, 37, 38, 43, 44, 45], [3, 4, 9, 24, 27, 74, 500024, 1000000], [], [], 11, [], [], [], [[], [], [], [], [3], [4, 3], [4, 3], [4, 3], [4, 3], [4, 3, 8], [4, 3, 9, 8], [1, 4, 3, 9, 8]], []⟩), (13, ri [3,4,5,6,7,9,29,30,31,36,37,38,43,44,45] [3,4,9,24,27,74,500024,1000000]), (14, ri [3,4,5,6,7,9,29,30,31,36,37,38] [3,4,9,24,27,74,500024,1000000]), (15, ri [3,4,5,6,7,29,30,31] [3,4,24,27,74,500024,1000000]), (16, ⟨[3, 4, 5, 6, 7, 14], [3, 4, 14, 24, 27, 74, 500024, 1000000], [2], [], 0, [], [], [], [], []⟩), (17, ri [3,4,5,6,7,14] [3,4,14,24,27,74,500024,1000000]), (18, ri [4,5,6,7,14,66,67,68] [4,14,24,27,74,500024,1000000]), (19, ⟨[4, 5, 6, 7, 14, 66, 67, 68, 69], [4, 14, 24, 27, 74, 500024, 1000000], [], [], 0, [4, 5, 6, 7, 14, 66, 67, 68], [4, 14, 24, 27, 74, 500024, 1000000], [], [], []⟩), (20, ⟨[4, 5, 6, 7, 14, 16, 66, 67, 68], [4, 14, 16, 24, 27, 74, 500024, 1000000], [3], [], 0, [], [], [], [], []⟩), (21, ⟨[4, 5, 6, 7, 14, 16, 66, 67, 68], [4, 14, 16, 24, 27, 74, 500024, 1000000], [4], [2], 0, [], [], [], [], []⟩), (22, ri [4,5,6,7,14,16,66,67,68,77,78,79] [4,14,16,24,27,74,500024,1000000]), (23, ⟨[4, 5, 6, 7, 14, 16, 66, 67, 68, 77, 78, 79, 80], [4, 14, 16, 24, 27, 74, 500024, 1000000], [], [], 0, [4, 5, 6, 7, 14, 16, 66, 67, 68, 77, 78, 79], [4, 14, 16, 24, 27, 74, 500024, 1000000], [], [], []⟩), (24, ⟨[4, 5, 6, 7, 14, 16, 17, 18, 66, 67, 68, 77, 78, 79], [4, 14, 16, 18, 24, 27, 74, 500024, 1000000], [5], [], 0, [], [], [], [], []⟩), (25, ri [4,5,6,7,14,16,17,18,19,66,67,68,77,78,79] [4,14,16,18,24,27,74,500024,1000000]), (26, ri [4,5,6,7,14,16,17,18,20,66,67,68,77,78,79] [4,14,16,18,24,27,74,500024,1000000]), (27, ri [4,5,6,7,14,16,17,66,67,68,77,78,79,129] [4,14,16,24,27,74,500024,1000000]), (28, ⟨[4, 5, 6, 7, 14, 16, 66, 67, 68, 77, 78, 79], [4, 14, 16, 24, 27, 74, 500024, 1000000], [5], [], 0, [], [], [], [], []⟩), (29, ri [4,5,6,7,14,16,66,67,68,77,78,79] [4,14,16,24,27,74,500024,1000000]), (30, ⟨[4, 5, 6, 7, 14, 66, 67, 68], [4, 14, 24, 27, 74, 500024, 1000000], [1, 4, 6], [], 0, [], [], [], [], [74]⟩), (31, ⟨[4, 5, 6, 7, 14, 66, 67, 68], [4, 14, 24, 27, 74, 500024, 1000000], [], [], 0, [], [], [], [], [74]⟩), (32, ⟨[4], [4, 74, 1000000], [1], [], 0, [], [], [], [], [74]⟩)]
noncomputable def seal_Compact.cx (k : Nat) : Cx := ⟨tt, pp, [(78, (seal_finals.e k)), (79, (cloneE tOp)), (80, (op_Gone.e k))], seal_Compact.regs, k, mm⟩
@[reducible] def seal_Compact.sg : Sg := ⟨[.ref, .dat tState], [tPeers], .dat tState, [tPeers]⟩
noncomputable def seal_Compact.f (k : Nat) (a1 : Ty.D tState) (o0 : Ty.D tPeers) : Option (Sg.Out seal_Compact.sg) := Sg.fn seal_Compact.sg (seal_Compact.cx k) seal_Compact.body seal_Compact.rs (a1, o0)
noncomputable def seal_Compact.e (k : Nat) : Entry := Sg.entry seal_Compact.sg fun x => seal_Compact.f k x.1 x.2
theorem seal_Compact.ok (k : Nat) : CallOK Tryz.prog 36 (seal_Compact.e k) := fn_ok (c := seal_Compact.cx k) (code := seal_Compact.body) (TT.of tt_ok pp_ok mm_ok) (fns_ok ⟨(seal_finals.ok k), cloneOp_ok, (op_Gone.ok k), trivial⟩) mixed Tryz.func36 (by kernel_rfl) (by kernel_rfl) (by kernel_rfl) (by kernel_rfl) (by kernel_rfl) (by kernel_rfl) (fun x => by kernel_rfl)
noncomputable def state_Cells.body : Go.Code := Tryz.f52.body.getD .skip
noncomputable def state_Cells.rs : List Go.ResultVar := Tryz.f52.results.toList
def state_Cells.regs : List (Nat × RInfo) := [(0, ⟨[1], [1], [0], [], 0, [], [], [], [], []⟩), (1, ri [1,3] [1]), (2, ri [3,9,10,11] []), (3, ⟨[3, 9, 10, 11, 12], [], [], [], 0, [3, 9, 10, 11], [], [], [], []⟩), (4, ⟨[3, 5, 9, 10, 11], [5], [3], [], 0, [], [], [], [], []⟩), (5, ri [3,9,10,11,16,17,18] []), (6, ⟨[3, 9, 10, 11, 16, 17, 18, 19], [], [], [], 0, [3, 9, 10, 11, 16, 17, 18], [], [], [], []⟩), (7, ⟨[3, 7, 9, 10, 11, 16, 17, 18], [7], [3], [], 0, [], [], [], [], []⟩), (8, ri [3,9,10,11,16,17,18,24] []), (9, ri [3,9,10,11,16,17,18] []), (10, ri [3,9,10,11,16,17,18] []), (11, ri [3,9,10,11] []), (12, ri [2] [])]
noncomputable def state_Cells.cx (k : Nat) : Cx := ⟨tt, pp, [(80, (op_Gone.e k))], state_Cells.regs, k, mm⟩
@[reducible] def state_Cells.sg : Sg := ⟨[.dat tState], [], .dat (.int .i64), []⟩
noncomputable def state_Cells.f (k : Nat) (a0 : Ty.D tState) : Option (Sg.Out state_Cells.sg) := Sg.fn state_Cells.sg (state_Cells.cx k) state_Cells.body state_Cells.rs a0
noncomputable def state_Cells.e (k : Nat) : Entry := Sg.entry state_Cells.sg fun x => state_Cells.f k x
theorem state_Cells.ok (k : Nat) : CallOK Tryz.prog 52 (state_Cells.e k) := fn_ok (c := state_Cells.cx k) (code := state_Cells.body) (TT.of tt_ok pp_ok mm_ok) (fns_ok ⟨(op_Gone.ok k), trivial⟩) mixed Tryz.func52 (by kernel_rfl) (by kernel_rfl) (by kernel_rfl) (by kernel_rfl) (by kernel_rfl) (by kernel_rfl) (fun x => by kernel_rfl)
noncomputable def law30_awake.body : Go.Code := Tryz.f35.body.getD .skip
noncomputable def law30_awake.rs : List Go.ResultVar := Tryz.f35.results.toList
def law30_awake.regs : List (Nat × RInfo) := [(0, ri [] []), (1, ri [1] [1]), (2, ⟨[1, 2], [1, 2], [6], [], 0, [], [], [], [], []⟩), (3, ⟨[1, 3], [1, 3], [11], [], 10, [], [], [], [[], [], [1], [], [3], [3], [1, 3], [], [7], [1, 3, 7], [], [1, 3, 7]], []⟩), (4, ri [1,3,4,5] [1,3,25]), (5, ri [1,3,4,5,6] [1,3,25,31]), (6, ⟨[1, 3, 4, 5, 6, 7], [1, 3, 7, 25, 31], [4], [], 0, [], [], [], [], []⟩), (7, ri [0] [45])]
noncomputable def law30_awake.cx (k : Nat) : Cx := ⟨tt, pp, [(75, (state_Put.e k)), (76, (state_Raise.e k)), (45, (state_Seal.e k)), (27, (peer_New.e k)), (31, (delta_Of.e k)), (28, (peer_Peers_Heard.e k)), (36, (seal_Compact.e k)), (40, (seal_Final.e k)), (52, (state_Cells.e k))], law30_awake.regs, k, mm⟩
@[reducible] def law30_awake.sg : Sg := ⟨[], [], .dat .bool, []⟩
noncomputable def law30_awake.f (k : Nat) : Option (Sg.Out law30_awake.sg) := Sg.fn law30_awake.sg (law30_awake.cx k) law30_awake.body law30_awake.rs ()
noncomputable def law30_awake.e (k : Nat) : Entry := Sg.entry law30_awake.sg fun x => law30_awake.f k
theorem law30_awake.ok (k : Nat) : CallOK Tryz.prog 35 (law30_awake.e k) := fn_ok (c := law30_awake.cx k) (code := law30_awake.body) (TT.of tt_ok pp_ok mm_ok) (fns_ok ⟨(state_Put.ok k), (state_Raise.ok k), (state_Seal.ok k), (peer_New.ok k), (delta_Of.ok k), (peer_Peers_Heard.ok k), (seal_Compact.ok k), (seal_Final.ok k), (state_Cells.ok k), trivial⟩) mixed Tryz.func35 (by kernel_rfl) (by kernel_rfl) (by kernel_rfl) (by kernel_rfl) (by kernel_rfl) (by kernel_rfl) (fun x => by kernel_rfl)
@[reducible] def ref30_have.sg : Sg := ⟨[.ref, .dat tDot], [tPeers], .dat .bool, [tPeers]⟩
@[reducible] def ref30_Ready.sg : Sg := ⟨[.ref, .dat tState], [tPeers], .own tDot, [tPeers]⟩
@[reducible] def ref12_Find.sg : Sg := ⟨[.dat (.slc tTxn), .dat tDot], [], .dat (.int .i64), []⟩
@[reducible] def ref30_Final.sg : Sg := ⟨[.ref, .dat tState, .dat tDot], [tPeers], .dat .bool, [tPeers]⟩
@[reducible] def ref08_Seen.sg : Sg := ⟨[.dat (.slc tUndo), .dat tDot], [], .dat .bool, []⟩
@[reducible] def ref11_Covers.sg : Sg := ⟨[.dat tOp, .dat tUndo], [], .dat .bool, []⟩
end Go.Proofs.YtoikjekpckhgeaaGreat
end
section
/- The program's functions, as plain equations. -/
namespace Go.Proofs.YtoikjekpckhgeaaGreat
open Pal
set_option maxRecDepth 100000
@[reducible] def ref30_covered.sg : Sg := ⟨[.ref, .dat tState, .dat tUndo], [tPeers], .dat .bool, [tPeers]⟩
@[reducible] def ref30_Compact.sg : Sg := ⟨[.ref, .dat tState], [tPeers], .dat tState, [tPeers]⟩
@[reducible] def ref03_Same.sg : Sg := ⟨[.dat (.slc .str), .dat (.slc .str)], [], .dat .bool, []⟩
@[reducible] def ref11_Same.sg : Sg := ⟨[.dat tOp, .dat tOp], [], .dat .bool, []⟩
@[reducible] def ref12_Same.sg : Sg := ⟨[.dat tTxn, .dat tTxn], [], .dat .bool, []⟩
@[reducible] def ref12_All.sg : Sg := ⟨[.dat (.slc tTxn), .dat (.slc tTxn)], [], .dat .bool, []⟩
@[reducible] def ref08_Same.sg : Sg := ⟨[.dat (.slc tUndo), .dat (.slc tUndo)], [], .dat .bool, []⟩
@[reducible] def ref22_Same.sg : Sg := ⟨[.dat tState, .dat tState], [], .dat .bool, []⟩
@[reducible] def law30_SealTells.sg : Sg := ⟨[.dat (.int .u8), .dat (.int .u8), .dat (.slc tKnow), .dat tState, .dat tDot], [], .dat .bool, []⟩
noncomputable def law30_SealReady.body : Go.Code := Tryz.f8.body.getD .skip
noncomputable def law30_SealReady.rs : List Go.ResultVar := Tryz.f8.results.toList
def law30_SealReady.regs : List (Nat × RInfo) := [(0, ⟨[0, 1, 2, 7], [7], [0], [], 0, [], [], [], [], []⟩), (1, ri [7,9,11] [7,23,500023]), (2, ri [7,9,33] [7,23,500023]), (3, ri [8] [34,89]), (4, ⟨[7, 9, 12], [7, 23, 37, 500023], [3], [], 0, [], [], [], [], []⟩), (5, ⟨[7, 9, 12, 13], [7, 13, 23, 37, 500023], [4], [], 0, [], [], [], [], []⟩), (6, ri [7,9,12,13,14,15] [7,13,23,37,42,500023]), (7, ⟨[7, 9, 12, 13, 14, 15, 16], [7, 13, 23, 37, 42, 47, 500023], [3], [], 0, [], [], [], [], []⟩), (8, ⟨[9, 12, 13, 14, 15, 16, 17], [13, 17, 23, 37, 42, 47, 500023], [4], [], 0, [], [], [], [], []⟩), (9, ri [9,12,13,14,15,16,17,18] [13,17,23,37,42,47,500023]), (10, ⟨[9, 12, 13, 14, 15, 16, 17, 18, 54], [13, 17, 23, 37, 42, 47, 500023], [], [], 0, [9, 12, 13, 14, 15, 16, 17, 18], [13, 17, 23, 37, 42, 47, 500023], [], [], []⟩), (12, ⟨[9, 12, 13, 14, 15, 16, 17, 18, 64], [13, 17, 23, 37, 42, 47, 500023], [], [], 8, [], [], [], [[], [], [], [], [], [], [1, 5], [6, 1, 5]], []⟩), (13, ri [8] [34,89]), (11, ri [9,12,13,14,15,16,17,18] [13,17,23,37,42,47,500023]), (14, ri [8] [34,89])]
noncomputable def law30_SealReady.cx (k : Nat) : Cx := ⟨tt, pp, [(34, (law30_begun.e k)), (25, (ref22_Good.e k)), (35, (law30_awake.e k)), (38, (seal_Ready.e k)), (45, (state_Seal.e k)), (27, (peer_New.e k)), (40, (seal_Final.e k))], law30_SealReady.regs, k, mm⟩
@[reducible] def law30_SealReady.sg : Sg := ⟨[.dat (.int .u8), .dat (.int .u8), .dat (.slc tKnow), .dat tState], [], .dat .bool, []⟩
noncomputable def law30_SealReady.f (k : Nat) (a0 : Ty.D (.int .u8)) (a1 : Ty.D (.int .u8)) (a2 : Ty.D (.slc tKnow)) (a3 : Ty.D tState) : Option (Sg.Out law30_SealReady.sg) := Sg.fn law30_SealReady.sg (law30_SealReady.cx k) law30_SealReady.body law30_SealReady.rs (a0, a1, a2, a3)
noncomputable def law30_SealReady.l10 (k : Nat) (n : Nat) (x12 : List (Ty.D tDot)) (x15 : Ty.D (.int .i64)) (x16 : List (Ty.D tDot)) (x18 : Ty.D (.int .i64)) (m13 : Ty.D tState) (m17 : Ty.D tState) (m23 : Ty.D tPeers) (m42 : Ty.D tPeers) (m500023 : Ty.D tPeers) : Option (Sg.Out law30_SealReady.sg) := loopAt (law30_SealReady.cx k) law30_SealReady.body [1, 1, 1, 1, 1, 1, 1, 1, 0, 1, 0] 10 [9, 12, 13, 14, 15, 16, 17, 18] [13, 17, 23, 37, 42, 47, 500023] [] (Sg.K law30_SealReady.sg (law30_SealReady.cx k) law30_SealReady.rs) n ⟨[(9, .ref 23 []), (12, .own tDot x12), (13, .ref 13 []), (14, .ref 42 []), (15, .dat (.int .i64) x15), (16, .own tDot x16), (17, .ref 17 []), (18, .dat (.int .i64) x18)], [(13, .dat tState m13), (17, .dat tState m17), (23, .dat tPeers m23), (42, .dat tPeers m42), (500023, .dat tPeers m500023)]⟩
theorem law30_SealReady.f_eq (k : Nat) (a0 : Ty.D (.int .u8)) (a1 : Ty.D (.int .u8)) (a2 : Ty.D (.slc tKnow)) (a3 : Ty.D tState) : law30_SealReady.f k a0 a1 a2 a3 = bnd (law30_begun.f k a0 a1 a2) fun r0 => br (bnot r0.1) (bnd (law30_awake.f k) fun r1 => some r1) (bnd (ref22_Good.f k a3) fun r2 => br (bnot r2) (bnd (law30_awake.f k) fun r3 => some r3) (bnd (seal_Ready.f k a3 r0.2.1) fun r4 => bnd (state_Seal.f k a3 r4.1) fun r5 => bnd (peer_New.f k 0 1) fun r6 => bnd (seal_Ready.f k a3 r6.2) fun r7 => bnd (state_Seal.f k a3 r7.1) fun r8 => law30_SealReady.l10 k k r4.1 r6.1 r7.1 0 r5 r8 r4.2 r7.2 r0.2.2)) := by kernel_rfl
theorem law30_SealReady.l10_eq (k : Nat) (n10 : Nat) (x12 : List (Ty.D tDot)) (x15 : Ty.D (.int .i64)) (x16 : List (Ty.D tDot)) (x18 : Ty.D (.int .i64)) (m13 : Ty.D tState) (m17 : Ty.D tState) (m23 : Ty.D tPeers) (m42 : Ty.D tPeers) (m500023 : Ty.D tPeers) : law30_SealReady.l10 k (n10 + 1) x12 x15 x16 x18 m13 m17 m23 m42 m500023 = br (ilt x18 (ilen x16)) (br (inL x18 x16) (bnd (seal_Final.f k m17 (rd tDot x16 (natOf x18)) m42) fun r0 => br (bnot r0.1) (some false) (law30_SealReady.l10 k n10 x12 x15 x16 (iadd .i64 x18 1) m13 m17 m23 r0.2 m500023)) none) (br (ieq x15 0) (bnd (seal_Ready.f k m13 m23) fun r1 => br (ieq (ilen r1.1) 0) (bnd (seal_Ready.f k m17 m42) fun r2 => br (ieq (ilen r2.1) 0) (br (ile (ilen x12) (ilen x16)) (bnd (law30_awake.f k) fun r3 => some r3) (some false)) (some false)) (some false)) (some false)) := by kernel_rfl
noncomputable def law30_SealReady.e (k : Nat) : Entry := Sg.entry law30_SealReady.sg fun x => law30_SealReady.f k x.1 x.2.1 x.2.2.1 x.2.2.2
theorem law30_SealReady.ok (k : Nat) : CallOK Tryz.prog 8 (law30_SealReady.e k) := fn_ok (c := law30_SealReady.cx k) (code := law30_SealReady.body) (TT.of tt_ok pp_ok mm_ok) (fns_ok ⟨(law30_begun.ok k), (ref22_Good.ok k), (law30_awake.ok k), (seal_Ready.ok k), (state_Seal.ok k), (peer_New.ok k), (seal_Final.ok k), trivial⟩) mixed Tryz.func8 (by kernel_rfl) (by kernel_rfl) (by kernel_rfl) (by kernel_rfl) (by kernel_rfl) (by kernel_rfl) (fun x => by kernel_rfl)
@[reducible] def live_covered.sg : Sg := ⟨[.dat (.slc tTxn), .dat (.slc tUndo)], [], .newm, [(.map tUndo .bool)]⟩
@[reducible] def live_All.sg : Sg := ⟨[.dat (.slc tTxn), .dat (.slc tUndo)], [], .own tItem, []⟩
@[reducible] def state_Items.sg : Sg := ⟨[.dat tState], [], .own tItem, []⟩
@[reducible] def slices_Equal_string_string.sg : Sg := ⟨[.dat (.slc .str), .dat (.slc .str)], [], .dat .bool, []⟩
@[reducible] def slices_Equal_api_Ref_api_Ref.sg : Sg := ⟨[.dat (.slc tUndo), .dat (.slc tUndo)], [], .dat .bool, []⟩
@[reducible] def op_Same.sg : Sg := ⟨[.dat tOp, .dat tOp], [], .dat .bool, []⟩
@[reducible] def live_Same_1.sg : Sg := ⟨[.dat tItem, .dat tItem], [], .dat .bool, []⟩
@[reducible] def slices_EqualFunc_live_Item_live_Item_live_Item_live_Item_live_Same_1.sg : Sg := ⟨[.dat (.slc tItem), .dat (.slc tItem), .fn 103 0], [], .dat .bool, []⟩
@[reducible] def live_Same.sg : Sg := ⟨[.dat (.slc tItem), .dat (.slc tItem)], [], .dat .bool, []⟩
@[reducible] def slices_Equal_api_Dot_api_Dot.sg : Sg := ⟨[.dat (.slc tDot), .dat (.slc tDot)], [], .dat .bool, []⟩
@[reducible] def dots_Same.sg : Sg := ⟨[.dat tDots, .dat tDots], [], .dat .bool, []⟩
@[reducible] def slices_Equal_api_Undo_api_Undo.sg : Sg := ⟨[.dat (.slc tUndo), .dat (.slc tUndo)], [], .dat .bool, []⟩
@[reducible] def tally_Same.sg : Sg := ⟨[.dat (.slc tUndo), .dat (.slc tUndo)], [], .dat .bool, []⟩
@[reducible] def delta_Same.sg : Sg := ⟨[.dat tKnow, .dat tKnow], [], .dat .bool, []⟩
@[reducible] def state_Time.sg : Sg := ⟨[.dat tState], [], .dat (.int .i64), []⟩
@[reducible] def law30_SealReads.sg : Sg := ⟨[.dat (.int .u8), .dat (.int .u8), .dat (.slc tKnow), .dat tState], [], .dat .bool, []⟩
@[reducible] def ref23_ShortDelta.sg : Sg := ⟨[.dat tDelta], [], .dat .bool, []⟩
@[reducible] def ref23_DeltaRight.sg : Sg := ⟨[.dat tDelta], [], .dat .bool, []⟩
@[reducible] def record_Merged.sg : Sg := ⟨[.dat tState, .dat tDelta], [], .dat tState, []⟩
@[reducible] def law30_SealFuture.sg : Sg := ⟨[.dat (.int .u8), .dat (.int .u8), .dat (.slc tKnow), .dat tState, .dat tDelta], [], .dat .bool, []⟩
end Go.Proofs.YtoikjekpckhgeaaGreat
end
section
/- Sets of dots: one way to stand. -/
namespace Go.Proofs.YtoikjekpckhgeaaGreat
open Pal
abbrev Vec := List Int
abbrev DSet := Vec × List Dot
def vat (v : Vec) (r : Int) : Int := rd (.int .i64) v (natOf r)
theorem rightD_iff (d : Dot) : rightD d = true ↔ 0 ≤ d.1 ∧ d.1 < 16 ∧ 1 ≤ d.2 ∧ d.2 ≤ 1048576 := by unfold rightD; rw [decide_eq_true_iff]
theorem vat_get {v : Vec} {i : Nat} (h : i < v.length) : vat v (i : Int) = v[i] := by unfold vat; rw [natOf_nat]; exact rd_at' (e := .int .i64) h
theorem vat_upd {v : Vec} {r : Int} {x : Int} (h0 : 0 ≤ r) (h1 : r < v.length) (q : Int) (hq : 0 ≤ q) : vat (upd v (natOf r) x) q = if q = r then x else vat v q := by
  obtain ⟨a, rfl⟩ := Int.eq_ofNat_of_zero_le h0
  obtain ⟨b, rfl⟩ := Int.eq_ofNat_of_zero_le hq
  have ha : a < v.length := by omega
  show ((v.set a x).getD b (0 : Int)) = if ((b : Int) = (a : Int)) then x else v.getD b (0 : Int)
  rw [List.getD_eq_getElem?_getD, List.getD_eq_getElem?_getD, List.getElem?_set]
  by_cases h : a = b
  · subst h; rw [if_pos rfl, if_pos ha, if_pos rfl]; rfl
  · rw [if_neg h, if_neg (by omega)]
structure VOk (v : Vec) : Prop where
  len : v.length = 16
  lo : ∀ r, 0 ≤ r → r < 16 → 0 ≤ vat v r
  hi : ∀ r, 0 ≤ r → r < 16 → vat v r ≤ 1048576
structure Can (s : DSet) : Prop where
  vok : VOk s.1
  rt : ∀ d ∈ s.2, rightD d = true
  gap : ∀ d ∈ s.2, vat s.1 d.1 + 1 < d.2
  srt : s.2.Pairwise (fun a b => dotLt a b = true)
def Mem (s : DSet) (d : Dot) : Prop := rightD d = true ∧ (d.2 ≤ vat s.1 d.1 ∨ d ∈ s.2)
theorem vec_ext {v u : Vec} (h1 : v.length = 16) (h2 : u.length = 16) (h : ∀ r, 0 ≤ r → r < 16 → vat v r = vat u r) : v = u := by
  apply List.ext_getElem (by omega)
  intro i a b
  have := h (i : Int) (by omega) (by omega)
  rwa [vat_get a, vat_get b] at this
theorem dotLt_asym {a b : Dot} (h : dotLt a b = true) : dotLt b a = false := by
  rw [← Bool.not_eq_true, dotLt_iff]; rw [dotLt_iff] at h; omega
theorem srt_nodup {l : List Dot} (h : l.Pairwise (fun a b => dotLt a b = true)) : l.Nodup :=
  h.imp fun {a b} hab e => by subst e; rw [dotLt_swo.irrefl] at hab; cases hab
theorem srt_unique {l m : List Dot} (h1 : l.Pairwise (fun a b => dotLt a b = true)) (h2 : m.Pairwise (fun a b => dotLt a b = true)) (h : ∀ d, d ∈ l ↔ d ∈ m) : l = m :=
  sorted_unique dotLt_tot ((List.perm_ext_iff_of_nodup (srt_nodup h1) (srt_nodup h2)).2 h) (h1.imp dotLt_asym) (h2.imp dotLt_asym)
theorem can_le {s t : DSet} (hs : Can s) (ht : Can t) (h : ∀ d, Mem s d → Mem t d) (r : Int) (h0 : 0 ≤ r) (h1 : r < 16) : vat s.1 r ≤ vat t.1 r := by
  rcases (by omega : vat t.1 r < vat s.1 r ∨ vat s.1 r ≤ vat t.1 r) with hlt | hge
  · exfalso
    have a := ht.vok.lo r h0 h1
    have b := hs.vok.hi r h0 h1
    have hr : rightD (r, vat t.1 r + 1) = true := (rightD_iff _).2 ⟨h0, h1, by show 1 ≤ vat t.1 r + 1; omega, by show vat t.1 r + 1 ≤ 1048576; omega⟩
    have hm := h (r, vat t.1 r + 1) ⟨hr, .inl (by show vat t.1 r + 1 ≤ vat s.1 r; omega)⟩
    rcases hm.2 with c | c
    · have : vat t.1 r + 1 ≤ vat t.1 r := c; omega
    · have : vat t.1 r + 1 < vat t.1 r + 1 := ht.gap _ c; omega
  · exact hge
theorem can_unique {s t : DSet} (hs : Can s) (ht : Can t) (h : ∀ d, Mem s d ↔ Mem t d) : s = t := by
  have hv : ∀ r, 0 ≤ r → r < 16 → vat s.1 r = vat t.1 r := fun r h0 h1 => Int.le_antisymm (can_le hs ht (fun d => (h d).1) r h0 h1) (can_le ht hs (fun d => (h d).2) r h0 h1)
  apply Prod.ext
  · exact vec_ext hs.vok.len ht.vok.len hv
  · refine srt_unique hs.srt ht.srt fun d => ⟨fun hd => ?_, fun hd => ?_⟩
    · have hr := hs.rt d hd
      obtain ⟨a, b, _, _⟩ := (rightD_iff d).1 hr
      rcases ((h d).1 ⟨hr, .inr hd⟩).2 with c | c
      · have := hs.gap d hd; rw [hv d.1 a b] at this; omega
      · exact c
    · have hr := ht.rt d hd
      obtain ⟨a, b, _, _⟩ := (rightD_iff d).1 hr
      rcases ((h d).2 ⟨hr, .inr hd⟩).2 with c | c
      · have := ht.gap d hd; rw [← hv d.1 a b] at this; omega
      · exact c
def put1 (s : DSet) (d : Dot) : DSet :=
  if d.2 ≤ vat s.1 d.1 then s else if d.2 = vat s.1 d.1 + 1 then (upd s.1 (natOf d.1) d.2, s.2) else if s.2.getLast? = some d then s else (s.1, s.2 ++ [d])
theorem put1_can {s : DSet} {d : Dot} (hs : Can s) (hd : rightD d = true) (hb : ∀ e ∈ s.2, dotLt d e = false) : Can (put1 s d) ∧ (∀ x, Mem (put1 s d) x ↔ Mem s x ∨ x = d) ∧ (∀ e ∈ (put1 s d).2, e ∈ s.2 ∨ e = d) := by
  obtain ⟨a, b, c1, c2⟩ := (rightD_iff d).1 hd
  have hlen := hs.vok.len
  unfold put1
  by_cases h1 : d.2 ≤ vat s.1 d.1
  · rw [if_pos h1]
    exact ⟨hs, fun x => ⟨.inl, fun h => h.elim id fun e => by subst e; exact ⟨hd, .inl h1⟩⟩, fun e he => .inl he⟩
  · rw [if_neg h1]
    by_cases h2 : d.2 = vat s.1 d.1 + 1
    · rw [if_pos h2]
      have hne : ∀ e ∈ s.2, e.1 ≠ d.1 := fun e he hee => by
        have g := hs.gap e he
        have := hb e he
        rw [← Bool.not_eq_true, dotLt_iff] at this
        rw [hee] at g
        omega
      have hv : ∀ q, 0 ≤ q → q < 16 → vat (upd s.1 (natOf d.1) d.2) q = if q = d.1 then d.2 else vat s.1 q := fun q h0 _ => vat_upd a (by omega) q h0
      refine ⟨⟨⟨by simp [upd, hlen], fun r h0 h1 => ?_, fun r h0 h1 => ?_⟩, hs.rt, fun e he => ?_, hs.srt⟩, fun x => ⟨fun ⟨hr, h⟩ => ?_, fun h => ?_⟩, fun e he => .inl he⟩
      · rw [hv r h0 h1]; split
        · omega
        · exact hs.vok.lo r h0 h1
      · rw [hv r h0 h1]; split
        · omega
        · exact hs.vok.hi r h0 h1
      · obtain ⟨q0, q1, _, _⟩ := (rightD_iff e).1 (hs.rt e he)
        show vat (upd s.1 (natOf d.1) d.2) e.1 + 1 < e.2
        rw [hv e.1 q0 q1, if_neg (hne e he)]; exact hs.gap e he
      · obtain ⟨q0, q1, _, _⟩ := (rightD_iff x).1 hr
        rcases h with h | h
        · have h : x.2 ≤ vat (upd s.1 (natOf d.1) d.2) x.1 := h
          rw [hv x.1 q0 q1] at h
          split at h
          · rename_i hx
            by_cases he : x.2 = d.2
            · exact .inr (Prod.ext hx he)
            · exact .inl ⟨hr, .inl (by rw [hx]; omega)⟩
          · exact .inl ⟨hr, .inl h⟩
        · exact .inl ⟨hr, .inr h⟩
      · rcases h with ⟨hr, h⟩ | rfl
        · obtain ⟨q0, q1, _, _⟩ := (rightD_iff x).1 hr
          rcases h with h | h
          · refine ⟨hr, .inl ?_⟩
            show x.2 ≤ vat (upd s.1 (natOf d.1) d.2) x.1
            rw [hv x.1 q0 q1]; split
            · rename_i hx; rw [hx] at h; omega
            · exact h
          · exact ⟨hr, .inr h⟩
        · refine ⟨hd, .inl ?_⟩
          show x.2 ≤ vat (upd s.1 (natOf x.1) x.2) x.1
          rw [hv x.1 a b, if_pos rfl]; exact Int.le_refl _
    · rw [if_neg h2]
      by_cases h3 : s.2.getLast? = some d
      · rw [if_pos h3]
        have hmem : d ∈ s.2 := List.mem_of_getLast? h3
        exact ⟨hs, fun x => ⟨.inl, fun h => h.elim id fun e => by subst e; exact ⟨hd, .inr hmem⟩⟩, fun e he => .inl he⟩
      · rw [if_neg h3]
        have hlt : ∀ e ∈ s.2, dotLt e d = true := by
          intro e he
          cases hh : dotLt e d with
          | true => rfl
          | false =>
            exfalso
            have heq := dotLt_tot e d hh (hb e he)
            subst heq
            obtain ⟨p, q, hpq⟩ := List.append_of_mem he
            cases q with
            | nil => rw [hpq] at h3; simp at h3
            | cons z zs =>
              have hsr := hs.srt
              rw [hpq] at hsr
              have h5 := (List.pairwise_append.1 hsr).2.1
              have h6 := (List.pairwise_cons.1 h5).1 z (by simp)
              have h7 := hb z (by rw [hpq]; simp)
              rw [h6] at h7; cases h7
        refine ⟨⟨hs.vok, fun e he => ?_, fun e he => ?_, ?_⟩, fun x => ⟨fun ⟨hr, h⟩ => ?_, fun h => ?_⟩, fun e he => ?_⟩
        · rcases List.mem_append.1 he with he | he
          · exact hs.rt e he
          · rw [List.mem_singleton.1 he]; exact hd
        · rcases List.mem_append.1 he with he | he
          · exact hs.gap e he
          · rw [List.mem_singleton.1 he]; show vat s.1 d.1 + 1 < d.2; omega
        · exact List.pairwise_append.2 ⟨hs.srt, List.pairwise_singleton _ _, fun e he f hf => by rw [List.mem_singleton.1 hf]; exact hlt e he⟩
        · rcases h with h | h
          · exact .inl ⟨hr, .inl h⟩
          · rcases List.mem_append.1 h with h | h
            · exact .inl ⟨hr, .inr h⟩
            · exact .inr (List.mem_singleton.1 h)
        · rcases h with ⟨hr, h⟩ | rfl
          · exact ⟨hr, h.imp id fun h => List.mem_append.2 (.inl h)⟩
          · exact ⟨hd, .inr (List.mem_append.2 (.inr (by simp)))⟩
        · rcases List.mem_append.1 he with he | he
          · exact .inl he
          · exact .inr (List.mem_singleton.1 he)
def mk (v : Vec) (l : List Dot) : DSet := l.foldl put1 (v, [])
theorem mk_can {v : Vec} (hv : VOk v) : ∀ (l : List Dot), (∀ d ∈ l, rightD d = true) → l.Pairwise (fun a b => dotLt b a = false) →
    Can (mk v l) ∧ (∀ x, Mem (mk v l) x ↔ rightD x = true ∧ (x.2 ≤ vat v x.1 ∨ x ∈ l)) ∧ (mk v l).2.length ≤ l.length ∧ ∀ e ∈ (mk v l).2, e ∈ l := by
  have key : ∀ (l p : List Dot) (s : DSet), (∀ d ∈ p ++ l, rightD d = true) → (p ++ l).Pairwise (fun a b => dotLt b a = false) → Can s → (∀ x, Mem s x ↔ rightD x = true ∧ (x.2 ≤ vat v x.1 ∨ x ∈ p)) → s.2.length ≤ p.length → (∀ e ∈ s.2, e ∈ p) →
      Can (l.foldl put1 s) ∧ (∀ x, Mem (l.foldl put1 s) x ↔ rightD x = true ∧ (x.2 ≤ vat v x.1 ∨ x ∈ p ++ l)) ∧ (l.foldl put1 s).2.length ≤ (p ++ l).length ∧ ∀ e ∈ (l.foldl put1 s).2, e ∈ p ++ l := by
    intro l
    induction l with
    | nil => intro p s _ _ hc hm hl he; rw [List.append_nil]; exact ⟨hc, hm, hl, he⟩
    | cons d l ih =>
      intro p s hr hp hc hm hl he
      have hd : rightD d = true := hr d (by simp)
      have hbb : ∀ e ∈ s.2, dotLt d e = false := fun e hee => (List.pairwise_append.1 hp).2.2 e (he e hee) d (by simp)
      obtain ⟨c1, c2, c3⟩ := put1_can hc hd hbb
      have := ih (p ++ [d]) (put1 s d) (by simpa using hr) (by simpa using hp) c1 (fun x => by
          rw [c2, hm]
          constructor
          · rintro (⟨h1, h2⟩ | rfl)
            · exact ⟨h1, h2.imp id fun h => List.mem_append.2 (.inl h)⟩
            · exact ⟨hd, .inr (by simp)⟩
          · rintro ⟨h1, h2 | h2⟩
            · exact .inl ⟨h1, .inl h2⟩
            · rcases List.mem_append.1 h2 with h3 | h3
              · exact .inl ⟨h1, .inr h3⟩
              · exact .inr (List.mem_singleton.1 h3)) (by
          unfold put1; simp only [List.length_append, List.length_singleton]
          split
          · omega
          · split
            · show s.2.length ≤ _; omega
            · split
              · omega
              · simp; omega) (fun e hee => by
          rcases c3 e hee with h | h
          · exact List.mem_append.2 (.inl (he e h))
          · exact List.mem_append.2 (.inr (by simp [h])))
      rw [List.append_assoc] at this; exact this
  intro l hr hs
  have h0 : Can (v, []) := ⟨hv, fun d hd => by simp at hd, fun d hd => by simp at hd, List.Pairwise.nil⟩
  have := key l [] (v, []) (by simpa using hr) (by simpa using hs) h0 (fun x => by simp [Mem]) (Nat.le_refl _) (fun e he => he)
  exact this
end Go.Proofs.YtoikjekpckhgeaaGreat
end
section
/- Counts: rows of dots with numbers, in order; joined, put, looked up. Plain facts. -/
namespace Go.Proofs.YtoikjekpckhgeaaGreat
open Pal
abbrev Undo := Dot × Int
def rightU (u : Undo) : Bool := rightD u.1 && decide (1 ≤ u.2 ∧ u.2 ≤ 64)
theorem rightU_iff (u : Undo) : rightU u = true ↔ rightD u.1 = true ∧ 1 ≤ u.2 ∧ u.2 ≤ 64 := by simp [rightU]
structure CanU (l : List Undo) : Prop where
  rt : ∀ u ∈ l, rightU u = true
  srt : l.Pairwise (fun a b => dotLt a.1 b.1 = true)
def getU : List Undo → Dot → Int
  | [], _ => 0
  | u :: r, d => if u.1 = d then u.2 else getU r d
theorem CanU.nil : CanU [] := ⟨fun u hu => by simp at hu, List.Pairwise.nil⟩
theorem CanU.tail {u : Undo} {l : List Undo} (h : CanU (u :: l)) : CanU l := ⟨fun v hv => h.rt v (List.mem_cons_of_mem _ hv), (List.pairwise_cons.1 h.srt).2⟩
theorem CanU.head {u : Undo} {l : List Undo} (h : CanU (u :: l)) : ∀ v ∈ l, dotLt u.1 v.1 = true := (List.pairwise_cons.1 h.srt).1
theorem CanU.cons {u : Undo} {l : List Undo} (h : CanU l) (h1 : rightU u = true) (h2 : ∀ v ∈ l, dotLt u.1 v.1 = true) : CanU (u :: l) :=
  ⟨fun v hv => by rcases List.mem_cons.1 hv with rfl | hv; exact h1; exact h.rt v hv, List.pairwise_cons.2 ⟨h2, h.srt⟩⟩
theorem dotLt_ne {a b : Dot} (h : dotLt a b = true) : a ≠ b := fun e => by subst e; rw [dotLt_swo.irrefl] at h; cases h
theorem getU_none {l : List Undo} {d : Dot} (h : ∀ u ∈ l, u.1 ≠ d) : getU l d = 0 := by
  induction l with
  | nil => rfl
  | cons u l ih =>
    rw [getU, if_neg (h u (by simp))]
    exact ih fun v hv => h v (List.mem_cons_of_mem _ hv)
theorem getU_below {l : List Undo} {d : Dot} (h : ∀ u ∈ l, dotLt d u.1 = true) : getU l d = 0 := getU_none fun u hu e => dotLt_ne (h u hu) e.symm
theorem getU_mem {l : List Undo} {u : Undo} (h : CanU l) (hu : u ∈ l) : getU l u.1 = u.2 := by
  induction l with
  | nil => cases hu
  | cons v l ih =>
    rw [getU]
    rcases List.mem_cons.1 hu with e | hu
    · subst e; rw [if_pos rfl]
    · rw [if_neg (dotLt_ne (h.head u hu))]; exact ih h.tail hu
theorem getU_pos {l : List Undo} {d : Dot} (hp : getU l d ≠ 0) : (d, getU l d) ∈ l := by
  induction l with
  | nil => exact absurd rfl hp
  | cons v l ih =>
    rw [getU] at hp ⊢
    by_cases e : v.1 = d
    · rw [if_pos e]; subst e; simp
    · rw [if_neg e] at hp ⊢; exact List.mem_cons_of_mem _ (ih hp)
theorem getU_range {l : List Undo} (h : CanU l) (d : Dot) : 0 ≤ getU l d ∧ getU l d ≤ 64 := by
  by_cases hp : getU l d = 0
  · omega
  · have := (rightU_iff _).1 (h.rt _ (getU_pos hp))
    simp only at this; omega
theorem memU_iff {l : List Undo} (h : CanU l) (u : Undo) : u ∈ l ↔ getU l u.1 = u.2 ∧ 1 ≤ u.2 := by
  constructor
  · intro hu; exact ⟨getU_mem h hu, ((rightU_iff u).1 (h.rt u hu)).2.1⟩
  · rintro ⟨h1, h2⟩
    have := getU_pos (l := l) (d := u.1) (by omega)
    rwa [h1] at this
def undoLt (a b : Undo) : Bool := dotLt a.1 b.1 || (decide (a.1 = b.1) && decide (a.2 < b.2))
theorem undoLt_of {a b : Undo} (h : dotLt a.1 b.1 = true) : undoLt b a = false := by
  unfold undoLt
  rw [dotLt_asym h]
  have : ¬ b.1 = a.1 := fun e => dotLt_ne h e.symm
  simp [this]
theorem undoLt_tot (x y : Undo) (h1 : undoLt x y = false) (h2 : undoLt y x = false) : x = y := by
  unfold undoLt at h1 h2
  simp only [Bool.or_eq_false_iff, Bool.and_eq_false_iff, decide_eq_false_iff_not] at h1 h2
  have e := dotLt_tot x.1 y.1 h1.1 h2.1
  refine Prod.ext e ?_
  rcases h1.2 with h | h
  · exact absurd e h
  · rcases h2.2 with h' | h'
    · exact absurd e.symm h'
    · omega
theorem canU_nodup {l : List Undo} (h : CanU l) : l.Nodup := h.srt.imp fun {a b} hab e => by subst e; rw [dotLt_swo.irrefl] at hab; cases hab
theorem canU_unique {l m : List Undo} (h1 : CanU l) (h2 : CanU m) (h : ∀ d, getU l d = getU m d) : l = m := by
  refine sorted_unique undoLt_tot ((List.perm_ext_iff_of_nodup (canU_nodup h1) (canU_nodup h2)).2 fun u => ?_) (h1.srt.imp undoLt_of) (h2.srt.imp undoLt_of)
  rw [memU_iff h1, memU_iff h2, h]
def joinU : List Undo → List Undo → List Undo
  | [], b => b
  | a, [] => a
  | x :: a, y :: b => if dotLt x.1 y.1 then x :: joinU a (y :: b) else if dotLt y.1 x.1 then y :: joinU (x :: a) b else (x.1, max x.2 y.2) :: joinU a b
termination_by a b => a.length + b.length
theorem joinU_nil (b : List Undo) : joinU [] b = b := by rw [joinU]
theorem joinU_nil' (a : List Undo) : joinU a [] = a := by cases a <;> simp [joinU]
theorem joinU_cons (x : Undo) (a : List Undo) (y : Undo) (b : List Undo) : joinU (x :: a) (y :: b) = if dotLt x.1 y.1 then x :: joinU a (y :: b) else if dotLt y.1 x.1 then y :: joinU (x :: a) b else (x.1, max x.2 y.2) :: joinU a b := by rw [joinU]
theorem dotLt_trans {a b c : Dot} (h1 : dotLt a b = true) (h2 : dotLt b c = true) : dotLt a c = true := dotLt_swo.trans _ _ _ h1 h2
theorem joinU_all : ∀ (n : Nat) (a b : List Undo), a.length + b.length ≤ n → CanU a → CanU b →
    CanU (joinU a b) ∧ (∀ d, getU (joinU a b) d = max (getU a d) (getU b d)) ∧ (∀ e : Dot, (∀ u ∈ a, dotLt e u.1 = true) → (∀ u ∈ b, dotLt e u.1 = true) → ∀ u ∈ joinU a b, dotLt e u.1 = true) ∧ (joinU a b).length ≤ a.length + b.length
  | n, [], b, _, ha, hb => by
    rw [joinU_nil]
    exact ⟨hb, fun d => by have := (getU_range hb d).1; show _ = max 0 (getU b d); omega, fun e _ h => h, by simp⟩
  | n, x :: a, [], _, ha, hb => by
    rw [joinU_nil']
    exact ⟨ha, fun d => by have := (getU_range ha d).1; show _ = max (getU (x :: a) d) 0; omega, fun e h _ => h, by simp⟩
  | 0, x :: a, y :: b, h, _, _ => by simp at h
  | n + 1, x :: a, y :: b, h, ha, hb => by
    simp only [List.length_cons] at h
    rw [joinU_cons]
    have hx := ha.rt x (by simp)
    have hy := hb.rt y (by simp)
    by_cases h1 : dotLt x.1 y.1 = true
    · obtain ⟨c1, c2, c3, c4⟩ := joinU_all n a (y :: b) (by simp only [List.length_cons]; omega) ha.tail hb
      have hb' : ∀ u ∈ y :: b, dotLt x.1 u.1 = true := fun u hu => by
        rcases List.mem_cons.1 hu with rfl | hu
        · exact h1
        · exact dotLt_trans h1 (hb.head u hu)
      rw [if_pos h1]
      refine ⟨c1.cons hx (c3 x.1 ha.head hb'), fun d => ?_, fun e h2 h3 u hu => ?_, by simp only [List.length_cons] at c4 ⊢; omega⟩
      · rw [getU, getU]
        by_cases e : x.1 = d
        · rw [if_pos e, if_pos e]
          subst e
          rw [getU_below hb']
          have := ((rightU_iff x).1 hx).2.1; omega
        · rw [if_neg e, if_neg e]; exact c2 d
      · rcases List.mem_cons.1 hu with rfl | hu
        · exact h2 _ (by simp)
        · exact c3 e (fun v hv => h2 v (List.mem_cons_of_mem _ hv)) h3 u hu
    · rw [if_neg h1]
      by_cases h2 : dotLt y.1 x.1 = true
      · obtain ⟨c1, c2, c3, c4⟩ := joinU_all n (x :: a) b (by simp only [List.length_cons]; omega) ha hb.tail
        have ha' : ∀ u ∈ x :: a, dotLt y.1 u.1 = true := fun u hu => by
          rcases List.mem_cons.1 hu with rfl | hu
          · exact h2
          · exact dotLt_trans h2 (ha.head u hu)
        rw [if_pos h2]
        refine ⟨c1.cons hy (c3 y.1 ha' hb.head), fun d => ?_, fun e h3 h4 u hu => ?_, by simp only [List.length_cons] at c4 ⊢; omega⟩
        · rw [getU]
          by_cases e : y.1 = d
          · rw [if_pos e]
            subst e
            rw [getU_below ha']
            rw [show getU (y :: b) y.1 = y.2 by rw [getU, if_pos rfl]]
            have := ((rightU_iff y).1 hy).2.1; omega
          · rw [if_neg e, c2 d, show getU (y :: b) d = getU b d by rw [getU, if_neg e]]
        · rcases List.mem_cons.1 hu with rfl | hu
          · exact h4 _ (by simp)
          · exact c3 e h3 (fun v hv => h4 v (List.mem_cons_of_mem _ hv)) u hu
      · have hxy : x.1 = y.1 := dotLt_tot _ _ (by simpa using h1) (by simpa using h2)
        obtain ⟨c1, c2, c3, c4⟩ := joinU_all n a b (by omega) ha.tail hb.tail
        rw [if_neg h2]
        refine ⟨c1.cons ?_ (c3 x.1 ha.head (by rw [hxy]; exact hb.head)), fun d => ?_, fun e h3 h4 u hu => ?_, by simp only [List.length_cons] at c4 ⊢; omega⟩
        · rw [rightU_iff] at hx hy ⊢
          exact ⟨hx.1, by show 1 ≤ max x.2 y.2; omega, by show max x.2 y.2 ≤ 64; omega⟩
        · rw [getU, getU, getU, ← hxy]
          by_cases e : x.1 = d
          · rw [if_pos e, if_pos e, if_pos e]
          · rw [if_neg e, if_neg e, if_neg e]; exact c2 d
        · rcases List.mem_cons.1 hu with rfl | hu
          · exact h3 x (by simp)
          · exact c3 e (fun v hv => h3 v (List.mem_cons_of_mem _ hv)) (fun v hv => h4 v (List.mem_cons_of_mem _ hv)) u hu
theorem joinU_can {a b : List Undo} (ha : CanU a) (hb : CanU b) : CanU (joinU a b) := (joinU_all _ a b (Nat.le_refl _) ha hb).1
theorem joinU_get {a b : List Undo} (ha : CanU a) (hb : CanU b) (d : Dot) : getU (joinU a b) d = max (getU a d) (getU b d) := (joinU_all _ a b (Nat.le_refl _) ha hb).2.1 d
theorem joinU_len {a b : List Undo} (ha : CanU a) (hb : CanU b) : (joinU a b).length ≤ a.length + b.length := (joinU_all _ a b (Nat.le_refl _) ha hb).2.2.2
def putF (u : Undo) : List Undo → List Undo
  | [] => [u]
  | x :: r => if cmpD u.1 x.1 ≤ 0 then u :: (x :: r).filter (fun y => decide (y.1 ≠ u.1)) else x :: putF u r
theorem cmpD_le (a b : Dot) : cmpD a b ≤ 0 ↔ dotLt b a = false := by
  rw [← Bool.not_eq_true, dotLt_iff]
  unfold cmpD
  by_cases h : a.1 = b.1
  · rw [if_pos ((cmpI_eq _ _).2 h)]
    unfold cmpI; split <;> (try split) <;> omega
  · rw [if_neg (fun e => h ((cmpI_eq _ _).1 e))]
    unfold cmpI; split <;> (try split) <;> omega
theorem cmpD_eq (a b : Dot) : cmpD a b = 0 ↔ a = b := by
  unfold cmpD
  by_cases h : a.1 = b.1
  · rw [if_pos ((cmpI_eq _ _).2 h), cmpI_eq]
    exact ⟨fun e => Prod.ext h e, fun e => by rw [e]⟩
  · rw [if_neg (fun e => h ((cmpI_eq _ _).1 e)), cmpI_eq]
    exact ⟨fun e => absurd e h, fun e => by rw [e]⟩
theorem filter_can {l : List Undo} (h : CanU l) (p : Undo → Bool) : CanU (l.filter p) := ⟨fun u hu => h.rt u (List.mem_filter.1 hu).1, h.srt.filter _⟩
theorem filter_get {l : List Undo} {d e : Dot} (h : d ≠ e) : getU (l.filter (fun y => decide (y.1 ≠ e))) d = getU l d := by
  induction l with
  | nil => rfl
  | cons u l ih =>
    rw [getU]
    by_cases hu : u.1 = e
    · rw [List.filter_cons_of_neg (by simp [hu]), if_neg (by rw [hu]; exact h.symm)]; exact ih
    · rw [List.filter_cons_of_pos (by simp [hu]), getU, ih]
theorem putF_all {u : Undo} (hu : rightU u = true) : ∀ (l : List Undo), CanU l → CanU (putF u l) ∧ (∀ d, getU (putF u l) d = if d = u.1 then u.2 else getU l d) ∧ (∀ e : Dot, dotLt e u.1 = true → (∀ v ∈ l, dotLt e v.1 = true) → ∀ v ∈ putF u l, dotLt e v.1 = true) ∧ (putF u l).length ≤ l.length + 1
  | [], _ => by
    refine ⟨CanU.nil.cons hu fun v hv => by simp at hv, fun d => ?_, fun e h _ v hv => ?_, by simp [putF]⟩
    · show (if u.1 = d then u.2 else (0 : Int)) = if d = u.1 then u.2 else 0
      by_cases e : u.1 = d
      · rw [if_pos e, if_pos e.symm]
      · rw [if_neg e, if_neg (fun h => e h.symm)]
    · simp [putF] at hv; subst hv; exact h
  | x :: r, h => by
    rw [putF]
    by_cases hc : cmpD u.1 x.1 ≤ 0
    · rw [if_pos hc]
      have hf : ∀ v ∈ (x :: r).filter (fun y => decide (y.1 ≠ u.1)), dotLt u.1 v.1 = true := fun v hv => by
        obtain ⟨hv, hne⟩ := List.mem_filter.1 hv
        have hne : v.1 ≠ u.1 := by simpa using hne
        have hx := (cmpD_le _ _).1 hc
        rcases List.mem_cons.1 hv with rfl | hv
        · cases hl : dotLt u.1 v.1 with
          | true => rfl
          | false => exact absurd (dotLt_tot _ _ hx hl) hne
        · have h1 := h.head v hv
          cases hl : dotLt u.1 x.1 with
          | true => exact dotLt_trans hl h1
          | false => rw [dotLt_tot _ _ hl hx]; exact h1
      refine ⟨(filter_can h _).cons hu hf, fun d => ?_, fun e h1 h2 v hv => ?_, by have := List.length_filter_le (fun y : Undo => decide (y.1 ≠ u.1)) (x :: r); simp only [List.length_cons] at this ⊢; omega⟩
      · rw [getU]
        by_cases e : u.1 = d
        · rw [if_pos e, if_pos e.symm]
        · rw [if_neg e, if_neg (fun h => e h.symm), filter_get (Ne.symm e)]
      · rcases List.mem_cons.1 hv with rfl | hv
        · exact h1
        · exact h2 v (List.mem_filter.1 hv).1
    · rw [if_neg hc]
      have hx : dotLt x.1 u.1 = true := by
        cases hl : dotLt x.1 u.1 with
        | true => rfl
        | false => exact absurd ((cmpD_le _ _).2 hl) hc
      obtain ⟨c1, c2, c3, c4⟩ := putF_all hu r h.tail
      refine ⟨c1.cons (h.rt x (by simp)) (c3 x.1 hx h.head), fun d => ?_, fun e h1 h2 v hv => ?_, by simp only [List.length_cons]; omega⟩
      · rw [getU, getU, c2]
        by_cases e : x.1 = d
        · rw [if_pos e, if_pos e, if_neg]; rw [← e]; exact dotLt_ne hx
        · rw [if_neg e, if_neg e]
      · rcases List.mem_cons.1 hv with rfl | hv
        · exact h2 _ (by simp)
        · exact c3 e h1 (fun v hv => h2 v (List.mem_cons_of_mem _ hv)) v hv
def putU (l : List Undo) (u : Undo) : List Undo := if rightU u = true ∧ getU l u.1 < u.2 then putF u l else l
theorem putU_can {l : List Undo} (h : CanU l) (u : Undo) : CanU (putU l u) ∧ (rightU u = true → ∀ d, getU (putU l u) d = if d = u.1 then max (getU l d) u.2 else getU l d) ∧ (putU l u).length ≤ l.length + 1 := by
  unfold putU
  by_cases hu : rightU u = true ∧ getU l u.1 < u.2
  · rw [if_pos hu]
    obtain ⟨c1, c2, _, c4⟩ := putF_all hu.1 l h
    refine ⟨c1, fun _ d => ?_, c4⟩
    rw [c2]
    by_cases e : d = u.1
    · rw [if_pos e, if_pos e, e]; omega
    · rw [if_neg e, if_neg e]
  · rw [if_neg hu]
    refine ⟨h, fun hr d => ?_, by omega⟩
    by_cases e : d = u.1
    · rw [if_pos e, e]
      have : ¬ getU l u.1 < u.2 := fun hh => hu ⟨hr, hh⟩
      omega
    · rw [if_neg e]
theorem putUs_can : ∀ (m l : List Undo), CanU l → (∀ u ∈ m, rightU u = true) → m.Pairwise (fun a b => dotLt a.1 b.1 = true) → CanU (m.foldl putU l) ∧ (∀ d, getU (m.foldl putU l) d = max (getU l d) (getU m d)) ∧ (m.foldl putU l).length ≤ l.length + m.length
  | [], l, h, _, _ => ⟨h, fun d => by have := (getU_range h d).1; show getU l d = max (getU l d) 0; omega, by simp⟩
  | u :: m, l, h, hr, hs => by
    obtain ⟨a, b, c⟩ := putU_can h u
    have hu := hr u (by simp)
    have hm := List.pairwise_cons.1 hs
    obtain ⟨p, q, r⟩ := putUs_can m (putU l u) a (fun v hv => hr v (List.mem_cons_of_mem _ hv)) hm.2
    simp only [List.foldl_cons, List.length_cons]
    refine ⟨p, fun d => ?_, by omega⟩
    rw [q, b hu, getU]
    by_cases e : u.1 = d
    · have h0 : getU m d = 0 := by rw [← e]; exact getU_below hm.1
      have h1 := ((rightU_iff u).1 hu).2.1
      have h2 := (getU_range h d).1
      rw [if_pos e, if_pos e.symm, h0]; omega
    · rw [if_neg e, if_neg (fun h => e h.symm)]
theorem rjoin_eq {a b : List Undo} (ha : CanU a) (hb : CanU b) : b.foldl putU a = joinU a b := by
  obtain ⟨p, q, _⟩ := putUs_can b a ha hb.rt hb.srt
  exact canU_unique p (joinU_can ha hb) fun d => by rw [q, joinU_get ha hb]
end Go.Proofs.YtoikjekpckhgeaaGreat
end
