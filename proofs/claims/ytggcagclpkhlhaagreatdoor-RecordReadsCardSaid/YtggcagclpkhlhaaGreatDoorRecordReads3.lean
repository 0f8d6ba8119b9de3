/- The functions that the statement reaches, and what they come to. Part 3. -/
import Derived.Lib.DecodeN
import Derived.Test.YtggcagclpkhlhaaGreatDoorFw1
import Derived.Test.YtggcagclpkhlhaaGreatDoorFw2
import Derived.Test.YtggcagclpkhlhaaGreatDoorFw3
import Derived.Test.YtggcagclpkhlhaaGreatDoorRecordReads1
import Derived.Test.YtggcagclpkhlhaaGreatDoorRecordReads2
set_option linter.unusedVariables false
set_option linter.unusedSimpArgs false
set_option linter.unusedSectionVars false
noncomputable section
/- The program's functions, as plain equations. -/
namespace Go.Proofs.YtggcagclpkhlhaaGreatDoor
open Pal
set_option maxRecDepth 100000
@[reducible] def ref22_Read.sg:Sg:=⟨[.ref],[tref02Reader],.dat tState,[tref02Reader]⟩
def z0a.body:Go.Code:=Tryz.f36.body.getD .skip
def z0a.rs:List Go.ResultVar:=Tryz.f36.results.toList
def z0a.regs:List (Nat × RInfo):=[(0,ri [0] [1000000]),(1,ri [0,7] [1000000]),(2,ri [2] [1000000]),(3,rq [2] [1000000] 10)]
def z0a.cx (k:Nat):Cx:=⟨tt,pp,[],z0a.regs,k,mm⟩
@[reducible] def z0a.sg:Sg:=⟨[.ref],[tref02Reader],.dat (.int .i64),[tref02Reader]⟩
def z0a.f (k:Nat) (o0:Ty.D tref02Reader):Option (Sg.Out z0a.sg):=Sg.fn z0a.sg (z0a.cx k) z0a.body z0a.rs o0
theorem z0a.f_eq (k:Nat) (o0:Ty.D tref02Reader):z0a.f k o0=br (bnot (ieq o0.2.2 0)) (some (0,o0)) (some ((isub .i64 (ilen o0.1) o0.2.1),o0)):=by kernel_rfl
def z0a.e (k:Nat):Entry:=Sg.entry z0a.sg fun x=>z0a.f k x
theorem z0a.ok (k:Nat):CallOK Tryz.prog 36 (z0a.e k):=fn_ok (c:=z0a.cx k) (code:=z0a.body) (TT.of tt_ok pp_ok mm_ok) (fns_ok trivial) mixed Tryz.func36 (by kernel_rfl) (by kernel_rfl) (by kernel_rfl) (by kernel_rfl) (by kernel_rfl) (by kernel_rfl) (fun x=>by kernel_rfl)
@[reducible] def ref02_Reader_End.sg:Sg:=⟨[.ref],[tref02Reader],.dat (.int .i64),[tref02Reader]⟩
def z0j.body:Go.Code:=Tryz.f38.body.getD .skip
def z0j.rs:List Go.ResultVar:=Tryz.f38.results.toList
def z0j.regs:List (Nat × RInfo):=[(0,⟨[1],[1],[0],[],0,[],[],[],[],[]⟩),(1,ri [1,20] [1]),(2,ri [2] []),(3,ri [1,3] [1]),(4,⟨[1,3,25],[1],[],[],0,[1,3],[1],[],[],[]⟩),(6,ri [1,3,34] [1]),(7,ri [2] []),(5,ri [1,3] [1]),(8,ri [1,4] [1]),(9,⟨[1,4,39],[1],[],[],0,[1,4],[1],[],[],[]⟩),(11,ri [1,4,48] [1]),(12,ri [2] []),(10,ri [1,4] [1]),(13,ri [2] [])]
def z0j.cx (k:Nat):Cx:=⟨tt,pp,[(75,(z0P.e k)),(49,(z0M.e k)),(48,(z0N.e k)),(77,(z0R.e k))],z0j.regs,k,mm⟩
@[reducible] def z0j.sg:Sg:=⟨[.dat tDelta],[],.dat .bool,[]⟩
def z0j.f (k:Nat) (a0:Ty.D tDelta):Option (Sg.Out z0j.sg):=Sg.fn z0j.sg (z0j.cx k) z0j.body z0j.rs a0
def z0j.l4 (k:Nat) (n:Nat) (x3:Ty.D (.int .i64)) (m1:Ty.D tDelta):Option (Sg.Out z0j.sg):=loopAt (z0j.cx k) z0j.body [1,1,0,1,0] 4 [1,3] [1] [] (Sg.K z0j.sg (z0j.cx k) z0j.rs) n ⟨[(1,.ref 1 []),(3,.dat (.int .i64) x3)],[(1,.dat tDelta m1)]⟩
def z0j.l9 (k:Nat) (n:Nat) (x4:Ty.D (.int .i64)) (m1:Ty.D tDelta):Option (Sg.Out z0j.sg):=loopAt (z0j.cx k) z0j.body [1,1,1,0,1,0] 9 [1,4] [1] [] (Sg.K z0j.sg (z0j.cx k) z0j.rs) n ⟨[(1,.ref 1 []),(4,.dat (.int .i64) x4)],[(1,.dat tDelta m1)]⟩
theorem z0j.f_eq (k:Nat) (a0:Ty.D tDelta):z0j.f k a0=br (ilt 1000 (ilen a0.1)) (some false) (bnd (z0P.f k a0.1) fun r0=>br (bnot r0) (some false) (bnd (z0M.f k a0.2.1) fun r1=>br (bnot r1) (some false) (z0j.l4 k k 0 a0))):=by kernel_rfl
theorem z0j.l4_eq (k:Nat) (n4:Nat) (x3:Ty.D (.int .i64)) (m1:Ty.D tDelta):z0j.l4 k (n4+1) x3 m1=br (ilt x3 (ilen m1.1)) (br (inL x3 m1.1) (bnd (z0N.f k (rd tTxn m1.1 (natOf x3))) fun r0=>br (bnot (ieq r0 0)) (some false) (z0j.l4 k n4 (iadd .i64 x3 1) m1)) none) (z0j.l9 k k 0 m1):=by kernel_rfl
theorem z0j.l9_eq (k:Nat) (n9:Nat) (x4:Ty.D (.int .i64)) (m1:Ty.D tDelta):z0j.l9 k (n9+1) x4 m1=br (ilt x4 (ilen m1.2.2)) (br (inL x4 m1.2.2) (bnd (z0R.f k (rd tDot m1.2.2 (natOf x4))) fun r0=>br (bnot r0) (some false) (z0j.l9 k n9 (iadd .i64 x4 1) m1)) none) (some true):=by kernel_rfl
def z0j.e (k:Nat):Entry:=Sg.entry z0j.sg fun x=>z0j.f k x
theorem z0j.ok (k:Nat):CallOK Tryz.prog 38 (z0j.e k):=fn_ok (c:=z0j.cx k) (code:=z0j.body) (TT.of tt_ok pp_ok mm_ok) (fns_ok ⟨(z0P.ok k),(z0M.ok k),(z0N.ok k),(z0R.ok k),trivial⟩) mixed Tryz.func38 (by kernel_rfl) (by kernel_rfl) (by kernel_rfl) (by kernel_rfl) (by kernel_rfl) (by kernel_rfl) (fun x=>by kernel_rfl)
@[reducible] def ref23_Right.sg:Sg:=⟨[.dat tRecord],[],.dat .bool,[]⟩
@[reducible] def ref23_Parse.sg:Sg:=⟨[.dat .str],[],.t2 (.dat tRecord) (.dat (.int .i64)),[]⟩
def z1b.body:Go.Code:=Tryz.f217.body.getD .skip
def z1b.rs:List Go.ResultVar:=Tryz.f217.results.toList
def z1b.regs:List (Nat × RInfo):=[(0,ri [0,1] []),(1,ri [0,1,10] []),(2,ri [4] []),(3,ri [0,1,5] []),(4,⟨[0,1,5,14],[],[],[],0,[0,1,5],[],[],[],[]⟩),(6,rq [0,1,5,25] [] 9),(7,ri [4] []),(5,ri [0,1,5] []),(8,ri [4] [])]
def z1b.cx (k:Nat):Cx:=⟨tt,pp,[],z1b.regs,k,mm⟩
@[reducible] def z1b.sg:Sg:=⟨[.dat (.slc .str),.dat (.slc .str)],[],.dat .bool,[]⟩
def z1b.f (k:Nat) (a0:Ty.D (.slc .str)) (a1:Ty.D (.slc .str)):Option (Sg.Out z1b.sg):=Sg.fn z1b.sg (z1b.cx k) z1b.body z1b.rs (a0,a1)
def z1b.l4 (k:Nat) (n:Nat) (x0:Ty.D (.slc .str)) (x1:Ty.D (.slc .str)) (x5:Ty.D (.int .i64)):Option (Sg.Out z1b.sg):=loopAt (z1b.cx k) z1b.body [1,1,0,1,0] 4 [0,1,5] [] [] (Sg.K z1b.sg (z1b.cx k) z1b.rs) n ⟨[(0,.dat (.slc .str) x0),(1,.dat (.slc .str) x1),(5,.dat (.int .i64) x5)],[]⟩
theorem z1b.f_eq (k:Nat) (a0:Ty.D (.slc .str)) (a1:Ty.D (.slc .str)):z1b.f k a0 a1=br (bnot (ieq (ilen a0) (ilen a1))) (some false) (z1b.l4 k k a0 a1 0):=by kernel_rfl
theorem z1b.l4_eq (k:Nat) (n4:Nat) (x0:Ty.D (.slc .str)) (x1:Ty.D (.slc .str)) (x5:Ty.D (.int .i64)):z1b.l4 k (n4+1) x0 x1 x5=br (ilt x5 (ilen x0)) (br (inL x5 x0) (br (inL x5 x1) (br (bnot (seq (rd .str x0 (natOf x5)) (rd .str x1 (natOf x5)))) (some false) (z1b.l4 k n4 x0 x1 (iadd .i64 x5 1))) none) none) (some true):=by kernel_rfl
def z1b.e (k:Nat):Entry:=Sg.entry z1b.sg fun x=>z1b.f k x.1 x.2
theorem z1b.ok (k:Nat):CallOK Tryz.prog 217 (z1b.e k):=fn_ok (c:=z1b.cx k) (code:=z1b.body) (TT.of tt_ok pp_ok mm_ok) (fns_ok trivial) mixed Tryz.func217 (by kernel_rfl) (by kernel_rfl) (by kernel_rfl) (by kernel_rfl) (by kernel_rfl) (by kernel_rfl) (fun x=>by kernel_rfl)
def z1a.body:Go.Code:=Tryz.f166.body.getD .skip
def z1a.rs:List Go.ResultVar:=Tryz.f166.results.toList
def z1a.regs:List (Nat × RInfo):=[(0,⟨[2,3],[2,3],[0,1],[],0,[],[],[],[],[]⟩),(1,ri [2,3,41] [2,3]),(2,ri [4] []),(3,ri [2,3,5] [2,3]),(4,⟨[2,3,5,46],[2,3],[],[],0,[2,3,5],[2,3],[],[],[]⟩),(6,rq [2,3,5,59] [2,3] 11),(7,ri [4] []),(5,ri [2,3,5] [2,3]),(8,ri [4] [])]
def z1a.cx (k:Nat):Cx:=⟨tt,pp,[(217,(z1b.e k))],z1a.regs,k,mm⟩
@[reducible] def z1a.sg:Sg:=⟨[.dat tOp,.dat tOp],[],.dat .bool,[]⟩
def z1a.f (k:Nat) (a0:Ty.D tOp) (a1:Ty.D tOp):Option (Sg.Out z1a.sg):=Sg.fn z1a.sg (z1a.cx k) z1a.body z1a.rs (a0,a1)
def z1a.l4 (k:Nat) (n:Nat) (x5:Ty.D (.int .i64)) (m2:Ty.D tOp) (m3:Ty.D tOp):Option (Sg.Out z1a.sg):=loopAt (z1a.cx k) z1a.body [1,1,0,1,0] 4 [2,3,5] [2,3] [] (Sg.K z1a.sg (z1a.cx k) z1a.rs) n ⟨[(2,.ref 2 []),(3,.ref 3 []),(5,.dat (.int .i64) x5)],[(2,.dat tOp m2),(3,.dat tOp m3)]⟩
theorem z1a.f_eq (k:Nat) (a0:Ty.D tOp) (a1:Ty.D tOp):z1a.f k a0 a1=br (bnot (ieq a0.1 a1.1)) (some false) (br (bnot (deq tValue a0.2.2.1 a1.2.2.1)) (some false) (br (bnot (ieq a0.2.2.2.1 a1.2.2.2.1)) (some false) (bnd (z1b.f k a0.2.1 a1.2.1) fun r0=>br (bnot r0) (some false) (br (bnot (ieq (ilen a0.2.2.2.2) (ilen a1.2.2.2.2))) (some false) (z1a.l4 k k 0 a0 a1))))):=by kernel_rfl
theorem z1a.l4_eq (k:Nat) (n4:Nat) (x5:Ty.D (.int .i64)) (m2:Ty.D tOp) (m3:Ty.D tOp):z1a.l4 k (n4+1) x5 m2 m3=br (ilt x5 (ilen m2.2.2.2.2)) (br (inL x5 m2.2.2.2.2) (br (inL x5 m3.2.2.2.2) (br (bnot (deq tUndo (rd tUndo m2.2.2.2.2 (natOf x5)) (rd tUndo m3.2.2.2.2 (natOf x5)))) (some false) (z1a.l4 k n4 (iadd .i64 x5 1) m2 m3)) none) none) (some true):=by kernel_rfl
def z1a.e (k:Nat):Entry:=Sg.entry z1a.sg fun x=>z1a.f k x.1 x.2
theorem z1a.ok (k:Nat):CallOK Tryz.prog 166 (z1a.e k):=fn_ok (c:=z1a.cx k) (code:=z1a.body) (TT.of tt_ok pp_ok mm_ok) (fns_ok ⟨(z1b.ok k),trivial⟩) mixed Tryz.func166 (by kernel_rfl) (by kernel_rfl) (by kernel_rfl) (by kernel_rfl) (by kernel_rfl) (by kernel_rfl) (fun x=>by kernel_rfl)
def z1w.body:Go.Code:=Tryz.f113.body.getD .skip
def z1w.rs:List Go.ResultVar:=Tryz.f113.results.toList
def z1w.regs:List (Nat × RInfo):=[(0,⟨[2,3],[2,3],[0,1],[],0,[],[],[],[],[]⟩),(1,ri [2,3,40] [2,3]),(2,ri [4] []),(3,ri [2,3,5] [2,3]),(4,⟨[2,3,5,45],[2,3],[],[],0,[2,3,5],[2,3],[],[],[]⟩),(6,rq [2,3,5,59] [2,3] 12),(7,ri [4] []),(5,ri [2,3,5] [2,3]),(8,ri [4] [])]
def z1w.cx (k:Nat):Cx:=⟨tt,pp,[(166,(z1a.e k))],z1w.regs,k,mm⟩
@[reducible] def z1w.sg:Sg:=⟨[.dat tTxn,.dat tTxn],[],.dat .bool,[]⟩
def z1w.f (k:Nat) (a0:Ty.D tTxn) (a1:Ty.D tTxn):Option (Sg.Out z1w.sg):=Sg.fn z1w.sg (z1w.cx k) z1w.body z1w.rs (a0,a1)
def z1w.l4 (k:Nat) (n:Nat) (x5:Ty.D (.int .i64)) (m2:Ty.D tTxn) (m3:Ty.D tTxn):Option (Sg.Out z1w.sg):=loopAt (z1w.cx k) z1w.body [1,1,0,1,0] 4 [2,3,5] [2,3] [] (Sg.K z1w.sg (z1w.cx k) z1w.rs) n ⟨[(2,.ref 2 []),(3,.ref 3 []),(5,.dat (.int .i64) x5)],[(2,.dat tTxn m2),(3,.dat tTxn m3)]⟩
theorem z1w.f_eq (k:Nat) (a0:Ty.D tTxn) (a1:Ty.D tTxn):z1w.f k a0 a1=br (bnot (deq tDot a0.1 a1.1)) (some false) (br (bnot (ieq a0.2.1 a1.2.1)) (some false) (br (bnot (ieq a0.2.2.1 a1.2.2.1)) (some false) (br (bnot (deq .bool a0.2.2.2.1 a1.2.2.2.1)) (some false) (br (bnot (ieq (ilen a0.2.2.2.2) (ilen a1.2.2.2.2))) (some false) (z1w.l4 k k 0 a0 a1))))):=by kernel_rfl
theorem z1w.l4_eq (k:Nat) (n4:Nat) (x5:Ty.D (.int .i64)) (m2:Ty.D tTxn) (m3:Ty.D tTxn):z1w.l4 k (n4+1) x5 m2 m3=br (ilt x5 (ilen m2.2.2.2.2)) (br (inL x5 m2.2.2.2.2) (br (inL x5 m3.2.2.2.2) (bnd (z1a.f k (rd tOp m2.2.2.2.2 (natOf x5)) (rd tOp m3.2.2.2.2 (natOf x5))) fun r0=>br (bnot r0) (some false) (z1w.l4 k n4 (iadd .i64 x5 1) m2 m3)) none) none) (some true):=by kernel_rfl
def z1w.e (k:Nat):Entry:=Sg.entry z1w.sg fun x=>z1w.f k x.1 x.2
theorem z1w.ok (k:Nat):CallOK Tryz.prog 113 (z1w.e k):=fn_ok (c:=z1w.cx k) (code:=z1w.body) (TT.of tt_ok pp_ok mm_ok) (fns_ok ⟨(z1a.ok k),trivial⟩) mixed Tryz.func113 (by kernel_rfl) (by kernel_rfl) (by kernel_rfl) (by kernel_rfl) (by kernel_rfl) (by kernel_rfl) (fun x=>by kernel_rfl)
def z1I.body:Go.Code:=Tryz.f69.body.getD .skip
def z1I.rs:List Go.ResultVar:=Tryz.f69.results.toList
def z1I.regs:List (Nat × RInfo):=[(0,ri [0,1] []),(1,ri [0,1,10] []),(2,ri [4] []),(3,ri [0,1,5] []),(4,⟨[0,1,5,14],[],[],[],0,[0,1,5],[],[],[],[]⟩),(6,rq [0,1,5,26] [] 10),(7,ri [4] []),(5,ri [0,1,5] []),(8,ri [4] [])]
def z1I.cx (k:Nat):Cx:=⟨tt,pp,[(113,(z1w.e k))],z1I.regs,k,mm⟩
@[reducible] def z1I.sg:Sg:=⟨[.dat (.slc tTxn),.dat (.slc tTxn)],[],.dat .bool,[]⟩
def z1I.f (k:Nat) (a0:Ty.D (.slc tTxn)) (a1:Ty.D (.slc tTxn)):Option (Sg.Out z1I.sg):=Sg.fn z1I.sg (z1I.cx k) z1I.body z1I.rs (a0,a1)
def z1I.l4 (k:Nat) (n:Nat) (x0:Ty.D (.slc tTxn)) (x1:Ty.D (.slc tTxn)) (x5:Ty.D (.int .i64)):Option (Sg.Out z1I.sg):=loopAt (z1I.cx k) z1I.body [1,1,0,1,0] 4 [0,1,5] [] [] (Sg.K z1I.sg (z1I.cx k) z1I.rs) n ⟨[(0,.dat (.slc tTxn) x0),(1,.dat (.slc tTxn) x1),(5,.dat (.int .i64) x5)],[]⟩
theorem z1I.f_eq (k:Nat) (a0:Ty.D (.slc tTxn)) (a1:Ty.D (.slc tTxn)):z1I.f k a0 a1=br (bnot (ieq (ilen a0) (ilen a1))) (some false) (z1I.l4 k k a0 a1 0):=by kernel_rfl
theorem z1I.l4_eq (k:Nat) (n4:Nat) (x0:Ty.D (.slc tTxn)) (x1:Ty.D (.slc tTxn)) (x5:Ty.D (.int .i64)):z1I.l4 k (n4+1) x0 x1 x5=br (ilt x5 (ilen x0)) (br (inL x5 x0) (br (inL x5 x1) (bnd (z1w.f k (rd tTxn x0 (natOf x5)) (rd tTxn x1 (natOf x5))) fun r0=>br (bnot r0) (some false) (z1I.l4 k n4 x0 x1 (iadd .i64 x5 1))) none) none) (some true):=by kernel_rfl
def z1I.e (k:Nat):Entry:=Sg.entry z1I.sg fun x=>z1I.f k x.1 x.2
theorem z1I.ok (k:Nat):CallOK Tryz.prog 69 (z1I.e k):=fn_ok (c:=z1I.cx k) (code:=z1I.body) (TT.of tt_ok pp_ok mm_ok) (fns_ok ⟨(z1w.ok k),trivial⟩) mixed Tryz.func69 (by kernel_rfl) (by kernel_rfl) (by kernel_rfl) (by kernel_rfl) (by kernel_rfl) (by kernel_rfl) (fun x=>by kernel_rfl)
def z13.body:Go.Code:=Tryz.f70.body.getD .skip
def z13.rs:List Go.ResultVar:=Tryz.f70.results.toList
def z13.regs:List (Nat × RInfo):=[(0,ri [0,1] []),(1,ri [0,1,10] []),(2,ri [4] []),(3,ri [0,1,5] []),(4,⟨[0,1,5,14],[],[],[],0,[0,1,5],[],[],[],[]⟩),(6,rq [0,1,5,25] [] 9),(7,ri [4] []),(5,ri [0,1,5] []),(8,ri [4] [])]
def z13.cx (k:Nat):Cx:=⟨tt,pp,[],z13.regs,k,mm⟩
@[reducible] def z13.sg:Sg:=⟨[.dat (.slc tUndo),.dat (.slc tUndo)],[],.dat .bool,[]⟩
def z13.f (k:Nat) (a0:Ty.D (.slc tUndo)) (a1:Ty.D (.slc tUndo)):Option (Sg.Out z13.sg):=Sg.fn z13.sg (z13.cx k) z13.body z13.rs (a0,a1)
def z13.l4 (k:Nat) (n:Nat) (x0:Ty.D (.slc tUndo)) (x1:Ty.D (.slc tUndo)) (x5:Ty.D (.int .i64)):Option (Sg.Out z13.sg):=loopAt (z13.cx k) z13.body [1,1,0,1,0] 4 [0,1,5] [] [] (Sg.K z13.sg (z13.cx k) z13.rs) n ⟨[(0,.dat (.slc tUndo) x0),(1,.dat (.slc tUndo) x1),(5,.dat (.int .i64) x5)],[]⟩
theorem z13.f_eq (k:Nat) (a0:Ty.D (.slc tUndo)) (a1:Ty.D (.slc tUndo)):z13.f k a0 a1=br (bnot (ieq (ilen a0) (ilen a1))) (some false) (z13.l4 k k a0 a1 0):=by kernel_rfl
theorem z13.l4_eq (k:Nat) (n4:Nat) (x0:Ty.D (.slc tUndo)) (x1:Ty.D (.slc tUndo)) (x5:Ty.D (.int .i64)):z13.l4 k (n4+1) x0 x1 x5=br (ilt x5 (ilen x0)) (br (inL x5 x0) (br (inL x5 x1) (br (bnot (deq tUndo (rd tUndo x0 (natOf x5)) (rd tUndo x1 (natOf x5)))) (some false) (z13.l4 k n4 x0 x1 (iadd .i64 x5 1))) none) none) (some true):=by kernel_rfl
def z13.e (k:Nat):Entry:=Sg.entry z13.sg fun x=>z13.f k x.1 x.2
theorem z13.ok (k:Nat):CallOK Tryz.prog 70 (z13.e k):=fn_ok (c:=z13.cx k) (code:=z13.body) (TT.of tt_ok pp_ok mm_ok) (fns_ok trivial) mixed Tryz.func70 (by kernel_rfl) (by kernel_rfl) (by kernel_rfl) (by kernel_rfl) (by kernel_rfl) (by kernel_rfl) (fun x=>by kernel_rfl)
def z0p.body:Go.Code:=Tryz.f31.body.getD .skip
def z0p.rs:List Go.ResultVar:=Tryz.f31.results.toList
def z0p.regs:List (Nat × RInfo):=[(0,⟨[2,3],[2,3],[0,1],[],0,[],[],[],[],[]⟩),(1,ri [4] [9,15,22])]
def z0p.cx (k:Nat):Cx:=⟨tt,pp,[(69,(z1I.e k)),(70,(z13.e k)),(68,(z1j.e k))],z0p.regs,k,mm⟩
@[reducible] def z0p.sg:Sg:=⟨[.dat tDelta,.dat tDelta],[],.dat .bool,[]⟩
def z0p.f (k:Nat) (a0:Ty.D tDelta) (a1:Ty.D tDelta):Option (Sg.Out z0p.sg):=Sg.fn z0p.sg (z0p.cx k) z0p.body z0p.rs (a0,a1)
theorem z0p.f_eq (k:Nat) (a0:Ty.D tDelta) (a1:Ty.D tDelta):z0p.f k a0 a1=bnd (z1I.f k a0.1 a1.1) fun r0=>br r0 (bnd (z13.f k a0.2.1 a1.2.1) fun r1=>br r1 (bnd (z1j.f k a0.2.2 a1.2.2) fun r2=>some r2) (some false)) (some false):=by kernel_rfl
def z0p.e (k:Nat):Entry:=Sg.entry z0p.sg fun x=>z0p.f k x.1 x.2
theorem z0p.ok (k:Nat):CallOK Tryz.prog 31 (z0p.e k):=fn_ok (c:=z0p.cx k) (code:=z0p.body) (TT.of tt_ok pp_ok mm_ok) (fns_ok ⟨(z1I.ok k),(z13.ok k),(z1j.ok k),trivial⟩) mixed Tryz.func31 (by kernel_rfl) (by kernel_rfl) (by kernel_rfl) (by kernel_rfl) (by kernel_rfl) (by kernel_rfl) (fun x=>by kernel_rfl)
@[reducible] def ref22_Same.sg:Sg:=⟨[.dat tState,.dat tState],[],.dat .bool,[]⟩
@[reducible] def ref23_Same.sg:Sg:=⟨[.dat tRecord,.dat tRecord],[],.dat .bool,[]⟩
def z1y.body:Go.Code:=Tryz.f186.body.getD .skip
def z1y.rs:List Go.ResultVar:=Tryz.f186.results.toList
def z1y.regs:List (Nat × RInfo):=[(0,⟨[2,3],[2,3],[0],[],0,[],[],[],[],[]⟩),(1,ri [4] [8])]
def z1y.cx (k:Nat):Cx:=⟨tt,pp,[(176,(z0I.e k))],z1y.regs,k,mm⟩
@[reducible] def z1y.sg:Sg:=⟨[.dat tTxn,.dat tDot],[],.dat (.int .i64),[]⟩
def z1y.f (k:Nat) (a0:Ty.D tTxn) (a1:Ty.D tDot):Option (Sg.Out z1y.sg):=Sg.fn z1y.sg (z1y.cx k) z1y.body z1y.rs (a0,a1)
def z1y.e (k:Nat):Entry:=Sg.entry z1y.sg fun x=>z1y.f k x.1 x.2
theorem z1y.ok (k:Nat):CallOK Tryz.prog 186 (z1y.e k):=fn_ok (c:=z1y.cx k) (code:=z1y.body) (TT.of tt_ok pp_ok mm_ok) (fns_ok ⟨(z0I.ok k),trivial⟩) mixed Tryz.func186 (by kernel_rfl) (by kernel_rfl) (by kernel_rfl) (by kernel_rfl) (by kernel_rfl) (by kernel_rfl) (fun x=>by kernel_rfl)
def z01.body:Go.Code:=Tryz.f185.body.getD .skip
def z01.rs:List Go.ResultVar:=Tryz.f185.results.toList
def z01.regs:List (Nat × RInfo):=[(0,ri [0,2,4] [4]),(1,ri [0,2,4,8] [4]),(2,ri [0,2,4,8,9,10] [4]),(3,⟨[0,2,4,8,9,10,17],[4],[],[],0,[0,2,4,8,9,10],[4],[],[],[]⟩),(4,ri [0,2,4,8,9,10,11] [4]),(5,⟨[0,2,4,8,9,10,11,31],[4],[],[],8,[],[],[],[[],[],[],[],[],[],[4,5],[6,4,5]],[]⟩),(6,ri [0,2,4,8,9,10] [4]),(7,ri [0,2,4,8,9,10] [4]),(8,⟨[6,7],[],[],[],15,[],[],[],[[],[],[],[],[],[],[],[],[],[],[],[9,10],[11,9,10],[11,9,10],[11,9,10],[11,9,10]],[]⟩)]
def z01.cx (k:Nat):Cx:=⟨tt,pp,[(186,(z1y.e k))],z01.regs,k,mm⟩
@[reducible] def z01.sg:Sg:=⟨[.dat (.slc tTxn),.dat tDot,.fn 186 0],[],.t2 (.dat (.int .i64)) (.dat .bool),[]⟩
def z01.f (k:Nat) (a0:Ty.D (.slc tTxn)) (a1:Ty.D tDot):Option (Sg.Out z01.sg):=Sg.fn z01.sg (z01.cx k) z01.body z01.rs (a0,a1)
def z01.e (k:Nat):Entry:=Sg.entry z01.sg fun x=>z01.f k x.1 x.2
theorem z01.ok (k:Nat):CallOK Tryz.prog 185 (z01.e k):=fn_ok (c:=z01.cx k) (code:=z01.body) (TT.of tt_ok pp_ok mm_ok) (fns_ok ⟨(z1y.ok k),trivial⟩) mixed Tryz.func185 (by kernel_rfl) (by kernel_rfl) (by kernel_rfl) (by kernel_rfl) (by kernel_rfl) (by kernel_rfl) (fun x=>by kernel_rfl)
def z1S.body:Go.Code:=Tryz.f134.body.getD .skip
def z1S.rs:List Go.ResultVar:=Tryz.f134.results.toList
def z1S.regs:List (Nat × RInfo):=[(0,ri [0,3] [3]),(1,ri [5,6] [10]),(2,ri [5,14] [10]),(3,ri [4] [10]),(4,ri [4] [10])]
def z1S.cx (k:Nat):Cx:=⟨tt,pp,[(185,(z01.e k)),(186,(z1y.e k))],z1S.regs,k,mm⟩
@[reducible] def z1S.sg:Sg:=⟨[.dat (.slc tTxn),.dat tDot],[],.dat (.int .i64),[]⟩
def z1S.f (k:Nat) (a0:Ty.D (.slc tTxn)) (a1:Ty.D tDot):Option (Sg.Out z1S.sg):=Sg.fn z1S.sg (z1S.cx k) z1S.body z1S.rs (a0,a1)
def z1S.e (k:Nat):Entry:=Sg.entry z1S.sg fun x=>z1S.f k x.1 x.2
theorem z1S.ok (k:Nat):CallOK Tryz.prog 134 (z1S.e k):=fn_ok (c:=z1S.cx k) (code:=z1S.body) (TT.of tt_ok pp_ok mm_ok) (fns_ok ⟨(z01.ok k),(z1y.ok k),trivial⟩) mixed Tryz.func134 (by kernel_rfl) (by kernel_rfl) (by kernel_rfl) (by kernel_rfl) (by kernel_rfl) (by kernel_rfl) (fun x=>by kernel_rfl)
def z1K.body:Go.Code:=Tryz.f187.body.getD .skip
def z1K.rs:List Go.ResultVar:=Tryz.f187.results.toList
def z1K.regs:List (Nat × RInfo):=[(0,⟨[2,3],[2,3],[0],[],0,[],[],[],[],[]⟩),(1,ri [4] [8])]
def z1K.cx (k:Nat):Cx:=⟨tt,pp,[(176,(z0I.e k))],z1K.regs,k,mm⟩
@[reducible] def z1K.sg:Sg:=⟨[.dat tTxn,.dat tDot],[],.dat (.int .i64),[]⟩
def z1K.f (k:Nat) (a0:Ty.D tTxn) (a1:Ty.D tDot):Option (Sg.Out z1K.sg):=Sg.fn z1K.sg (z1K.cx k) z1K.body z1K.rs (a0,a1)
def z1K.e (k:Nat):Entry:=Sg.entry z1K.sg fun x=>z1K.f k x.1 x.2
theorem z1K.ok (k:Nat):CallOK Tryz.prog 187 (z1K.e k):=fn_ok (c:=z1K.cx k) (code:=z1K.body) (TT.of tt_ok pp_ok mm_ok) (fns_ok ⟨(z0I.ok k),trivial⟩) mixed Tryz.func187 (by kernel_rfl) (by kernel_rfl) (by kernel_rfl) (by kernel_rfl) (by kernel_rfl) (by kernel_rfl) (fun x=>by kernel_rfl)
def z02.body:Go.Code:=Tryz.f185.body.getD .skip
def z02.rs:List Go.ResultVar:=Tryz.f185.results.toList
def z02.regs:List (Nat × RInfo):=[(0,ri [0,2,4] [4]),(1,ri [0,2,4,8] [4]),(2,ri [0,2,4,8,9,10] [4]),(3,⟨[0,2,4,8,9,10,17],[4],[],[],0,[0,2,4,8,9,10],[4],[],[],[]⟩),(4,ri [0,2,4,8,9,10,11] [4]),(5,⟨[0,2,4,8,9,10,11,31],[4],[],[],8,[],[],[],[[],[],[],[],[],[],[4,5],[6,4,5]],[]⟩),(6,ri [0,2,4,8,9,10] [4]),(7,ri [0,2,4,8,9,10] [4]),(8,⟨[6,7],[],[],[],15,[],[],[],[[],[],[],[],[],[],[],[],[],[],[],[9,10],[11,9,10],[11,9,10],[11,9,10],[11,9,10]],[]⟩)]
def z02.cx (k:Nat):Cx:=⟨tt,pp,[(187,(z1K.e k))],z02.regs,k,mm⟩
@[reducible] def z02.sg:Sg:=⟨[.dat (.slc tTxn),.dat tDot,.fn 187 0],[],.t2 (.dat (.int .i64)) (.dat .bool),[]⟩
def z02.f (k:Nat) (a0:Ty.D (.slc tTxn)) (a1:Ty.D tDot):Option (Sg.Out z02.sg):=Sg.fn z02.sg (z02.cx k) z02.body z02.rs (a0,a1)
def z02.e (k:Nat):Entry:=Sg.entry z02.sg fun x=>z02.f k x.1 x.2
theorem z02.ok (k:Nat):CallOK Tryz.prog 185 (z02.e k):=fn_ok (c:=z02.cx k) (code:=z02.body) (TT.of tt_ok pp_ok mm_ok) (fns_ok ⟨(z1K.ok k),trivial⟩) mixed Tryz.func185 (by kernel_rfl) (by kernel_rfl) (by kernel_rfl) (by kernel_rfl) (by kernel_rfl) (by kernel_rfl) (fun x=>by kernel_rfl)
def z2a.body:Go.Code:=Tryz.f135.body.getD .skip
def z2a.rs:List Go.ResultVar:=Tryz.f135.results.toList
def z2a.regs:List (Nat × RInfo):=[(0,⟨[0,3],[3],[0],[],0,[],[],[1],[],[]⟩),(1,⟨[0,3,5,6],[3,11],[],[],0,[],[],[0,3],[],[]⟩),(2,⟨[0,3,5,14],[3,11],[],[],0,[],[],[6],[],[]⟩),(3,⟨[4],[21],[0,1],[],0,[],[],[],[],[]⟩),(4,⟨[4],[21],[5,6],[],6,[],[],[0,5,3],[],[]⟩)]
def z2a.cx (k:Nat):Cx:=⟨tt,pp,[(185,(Entry.alt z01.sg (z01.e k) (z02.e k))),(187,(z1K.e k)),(140,(cloneE tTxn)),(188,(insE tTxn))],z2a.regs,k,mm⟩
@[reducible] def z2a.sg:Sg:=⟨[.dat (.slc tTxn),.dat tTxn],[],.dat (.slc tTxn),[]⟩
def z2a.f (k:Nat) (a0:Ty.D (.slc tTxn)) (a1:Ty.D tTxn):Option (Sg.Out z2a.sg):=Sg.fn z2a.sg (z2a.cx k) z2a.body z2a.rs (a0,a1)
def z2a.e (k:Nat):Entry:=Sg.entry z2a.sg fun x=>z2a.f k x.1 x.2
theorem z2a.ok (k:Nat):CallOK Tryz.prog 135 (z2a.e k):=fn_ok (c:=z2a.cx k) (code:=z2a.body) (TT.of tt_ok pp_ok mm_ok) (fns_ok ⟨(alt_ok (z01.ok k) (z02.ok k)),(z1K.ok k),cloneTxn_ok,insTxn_ok,trivial⟩) mixed Tryz.func135 (by kernel_rfl) (by kernel_rfl) (by kernel_rfl) (by kernel_rfl) (by kernel_rfl) (by kernel_rfl) (fun x=>by kernel_rfl)
def z29.body:Go.Code:=Tryz.f232.body.getD .skip
def z29.rs:List Go.ResultVar:=Tryz.f232.results.toList
def z29.regs:List (Nat × RInfo):=[(0,ri [2,3] [2,3]),(1,rq [4] [6] 11)]
def z29.cx (k:Nat):Cx:=⟨tt,pp,[(119,(z1P.e k))],z29.regs,k,mm⟩
@[reducible] def z29.sg:Sg:=⟨[.dat tVec,.dat tDot],[],.dat .bool,[]⟩
def z29.f (k:Nat) (a0:Ty.D tVec) (a1:Ty.D tDot):Option (Sg.Out z29.sg):=Sg.fn z29.sg (z29.cx k) z29.body z29.rs (a0,a1)
def z29.e (k:Nat):Entry:=Sg.entry z29.sg fun x=>z29.f k x.1 x.2
theorem z29.ok (k:Nat):CallOK Tryz.prog 232 (z29.e k):=fn_ok (c:=z29.cx k) (code:=z29.body) (TT.of tt_ok pp_ok mm_ok) (fns_ok ⟨(z1P.ok k),trivial⟩) mixed Tryz.func232 (by kernel_rfl) (by kernel_rfl) (by kernel_rfl) (by kernel_rfl) (by kernel_rfl) (by kernel_rfl) (fun x=>by kernel_rfl)
def z00.body:Go.Code:=Tryz.f190.body.getD .skip
def z00.rs:List Go.ResultVar:=Tryz.f190.results.toList
def z00.regs:List (Nat × RInfo):=[(0,ri [0,2,4] [4]),(1,ri [0,2,4,8] [4]),(2,ri [0,2,4,8,9,10] [4]),(3,⟨[0,2,4,8,9,10,17],[4],[],[],0,[0,2,4,8,9,10],[4],[],[],[]⟩),(4,ri [0,2,4,8,9,10,11] [4]),(5,⟨[0,2,4,8,9,10,11,31],[4],[],[],8,[],[],[],[[],[],[],[],[],[],[4,5],[6,4,5]],[]⟩),(6,ri [0,2,4,8,9,10] [4]),(7,ri [0,2,4,8,9,10] [4]),(8,⟨[6,7],[],[],[],15,[],[],[],[[],[],[],[],[],[],[],[],[],[],[],[9,10],[11,9,10],[11,9,10],[11,9,10],[11,9,10]],[]⟩)]
def z00.cx (k:Nat):Cx:=⟨tt,pp,[(176,(z0I.e k))],z00.regs,k,mm⟩
@[reducible] def z00.sg:Sg:=⟨[.dat (.slc tDot),.dat tDot,.fn 176 0],[],.t2 (.dat (.int .i64)) (.dat .bool),[]⟩
def z00.f (k:Nat) (a0:Ty.D (.slc tDot)) (a1:Ty.D tDot):Option (Sg.Out z00.sg):=Sg.fn z00.sg (z00.cx k) z00.body z00.rs (a0,a1)
def z00.e (k:Nat):Entry:=Sg.entry z00.sg fun x=>z00.f k x.1 x.2
theorem z00.ok (k:Nat):CallOK Tryz.prog 190 (z00.e k):=fn_ok (c:=z00.cx k) (code:=z00.body) (TT.of tt_ok pp_ok mm_ok) (fns_ok ⟨(z0I.ok k),trivial⟩) mixed Tryz.func190 (by kernel_rfl) (by kernel_rfl) (by kernel_rfl) (by kernel_rfl) (by kernel_rfl) (by kernel_rfl) (fun x=>by kernel_rfl)
def z24.body:Go.Code:=Tryz.f189.body.getD .skip
def z24.rs:List Go.ResultVar:=Tryz.f189.results.toList
def z24.regs:List (Nat × RInfo):=[(0,⟨[2,3],[2,3],[0],[],0,[],[],[],[],[]⟩),(1,ri [2,3,10] [2,3,10]),(2,ri [4] [15]),(3,ri [6] [15]),(4,ri [4] [15])]
def z24.cx (k:Nat):Cx:=⟨tt,pp,[(232,(z29.e k)),(190,(z00.e k)),(176,(z0I.e k))],z24.regs,k,mm⟩
@[reducible] def z24.sg:Sg:=⟨[.dat tDots,.dat tDot],[],.dat .bool,[]⟩
def z24.f (k:Nat) (a0:Ty.D tDots) (a1:Ty.D tDot):Option (Sg.Out z24.sg):=Sg.fn z24.sg (z24.cx k) z24.body z24.rs (a0,a1)
def z24.e (k:Nat):Entry:=Sg.entry z24.sg fun x=>z24.f k x.1 x.2
theorem z24.ok (k:Nat):CallOK Tryz.prog 189 (z24.e k):=fn_ok (c:=z24.cx k) (code:=z24.body) (TT.of tt_ok pp_ok mm_ok) (fns_ok ⟨(z29.ok k),(z00.ok k),(z0I.ok k),trivial⟩) mixed Tryz.func189 (by kernel_rfl) (by kernel_rfl) (by kernel_rfl) (by kernel_rfl) (by kernel_rfl) (by kernel_rfl) (fun x=>by kernel_rfl)
def z26.body:Go.Code:=Tryz.f136.body.getD .skip
def z26.rs:List Go.ResultVar:=Tryz.f136.results.toList
def z26.regs:List (Nat × RInfo):=[(0,⟨[2,3,4],[2,3,4],[0],[],0,[],[],[0,1],[],[]⟩),(1,⟨[2,3,4,14],[2,3,4,13],[],[],0,[],[],[3,2],[],[]⟩),(2,⟨[4],[4],[1],[],0,[],[],[2,4],[],[]⟩),(3,⟨[2,3,4,5],[2,3,4,20],[],[],0,[],[],[2,3],[],[]⟩),(4,⟨[4],[4],[8,10],[],10,[],[],[2,5,3,4],[[],[],[],[],[3],[],[],[6],[3,6],[1,3,6],[1,3,6]],[]⟩)]
def z26.cx (k:Nat):Cx:=⟨tt,pp,[(119,(z1P.e k)),(189,(z24.e k)),(190,(z00.e k)),(176,(z0I.e k)),(138,(cloneE tDot)),(191,(insE tDot)),(183,(z1F.e k))],z26.regs,k,mm⟩
@[reducible] def z26.sg:Sg:=⟨[.dat tDots,.dat tDot],[],.dat tDots,[]⟩
def z26.f (k:Nat) (a0:Ty.D tDots) (a1:Ty.D tDot):Option (Sg.Out z26.sg):=Sg.fn z26.sg (z26.cx k) z26.body z26.rs (a0,a1)
def z26.e (k:Nat):Entry:=Sg.entry z26.sg fun x=>z26.f k x.1 x.2
theorem z26.ok (k:Nat):CallOK Tryz.prog 136 (z26.e k):=fn_ok (c:=z26.cx k) (code:=z26.body) (TT.of tt_ok pp_ok mm_ok) (fns_ok ⟨(z1P.ok k),(z24.ok k),(z00.ok k),(z0I.ok k),cloneDot_ok,insDot_ok,(z1F.ok k),trivial⟩) mixed Tryz.func136 (by kernel_rfl) (by kernel_rfl) (by kernel_rfl) (by kernel_rfl) (by kernel_rfl) (by kernel_rfl) (fun x=>by kernel_rfl)
def z1E.body:Go.Code:=Tryz.f55.body.getD .skip
def z1E.rs:List Go.ResultVar:=Tryz.f55.results.toList
def z1E.regs:List (Nat × RInfo):=[(0,⟨[2,3,4],[2,3,4],[0,1],[],0,[],[],[],[],[]⟩),(1,ri [2,3,4,10] [2,3,4]),(2,⟨[4],[4],[1],[],0,[],[],[],[],[]⟩),(3,⟨[2,3,4],[2,3,4],[5],[],0,[],[],[],[],[]⟩),(4,⟨[2,4],[2,4],[6],[],0,[],[],[],[],[]⟩),(5,⟨[4],[4],[1],[],0,[],[],[],[],[]⟩)]
def z1E.cx (k:Nat):Cx:=⟨tt,pp,[(134,(z1S.e k)),(135,(z2a.e k)),(136,(z26.e k))],z1E.regs,k,mm⟩
@[reducible] def z1E.sg:Sg:=⟨[.dat tState,.dat tTxn],[],.dat tState,[]⟩
def z1E.f (k:Nat) (a0:Ty.D tState) (a1:Ty.D tTxn):Option (Sg.Out z1E.sg):=Sg.fn z1E.sg (z1E.cx k) z1E.body z1E.rs (a0,a1)
def z1E.e (k:Nat):Entry:=Sg.entry z1E.sg fun x=>z1E.f k x.1 x.2
theorem z1E.ok (k:Nat):CallOK Tryz.prog 55 (z1E.e k):=fn_ok (c:=z1E.cx k) (code:=z1E.body) (TT.of tt_ok pp_ok mm_ok) (fns_ok ⟨(z1S.ok k),(z2a.ok k),(z26.ok k),trivial⟩) mixed Tryz.func55 (by kernel_rfl) (by kernel_rfl) (by kernel_rfl) (by kernel_rfl) (by kernel_rfl) (by kernel_rfl) (fun x=>by kernel_rfl)
def z12.body:Go.Code:=Tryz.f137.body.getD .skip
def z12.rs:List Go.ResultVar:=Tryz.f137.results.toList
def z12.regs:List (Nat × RInfo):=[(0,ri [0,1] []),(1,ri [0,1,5] []),(2,⟨[0,1,5,14],[],[],[],0,[0,1,5],[],[],[],[]⟩),(3,ri [0,1,5,6] [29]),(4,ri [0,1,5,6,15] [29]),(5,ri [0,1,5,6] [29]),(6,ri [0,1,5,6,19] [29]),(7,rq [0,1,5,6] [29] 7),(10,ri [0,1,5,6,51] [29]),(11,⟨[0,1,5],[],[0,5,8,9],[],9,[],[],[],[],[]⟩),(12,ri [0,1,5,62] []),(13,⟨[0,1,5],[],[0,5,8,9],[],9,[],[],[],[],[]⟩),(8,⟨[0,1,5],[],[0,16,17],[],17,[],[],[],[],[]⟩),(9,⟨[0,1,5],[],[4,5],[],5,[],[],[],[],[]⟩),(14,⟨[4],[],[0,1],[],0,[],[],[],[],[]⟩)]
def z12.cx (k:Nat):Cx:=⟨tt,pp,[(122,(z0w.e k))],z12.regs,k,mm⟩
@[reducible] def z12.sg:Sg:=⟨[.dat (.slc tUndo),.dat (.slc tUndo)],[],.own tUndo,[]⟩
def z12.f (k:Nat) (a0:Ty.D (.slc tUndo)) (a1:Ty.D (.slc tUndo)):Option (Sg.Out z12.sg):=Sg.fn z12.sg (z12.cx k) z12.body z12.rs (a0,a1)
def z12.e (k:Nat):Entry:=Sg.entry z12.sg fun x=>z12.f k x.1 x.2
theorem z12.ok (k:Nat):CallOK Tryz.prog 137 (z12.e k):=fn_ok (c:=z12.cx k) (code:=z12.body) (TT.of tt_ok pp_ok mm_ok) (fns_ok ⟨(z0w.ok k),trivial⟩) mixed Tryz.func137 (by kernel_rfl) (by kernel_rfl) (by kernel_rfl) (by kernel_rfl) (by kernel_rfl) (by kernel_rfl) (fun x=>by kernel_rfl)
def z0E.body:Go.Code:=Tryz.f56.body.getD .skip
def z0E.rs:List Go.ResultVar:=Tryz.f56.results.toList
def z0E.regs:List (Nat × RInfo):=[(0,⟨[1,2,4],[2,4],[0],[],0,[],[],[],[],[]⟩),(1,⟨[2,4],[2,4],[5],[],0,[],[],[],[],[]⟩),(2,⟨[4],[4],[1],[],0,[],[],[],[],[]⟩)]
def z0E.cx (k:Nat):Cx:=⟨tt,pp,[(137,(z12.e k))],z0E.regs,k,mm⟩
@[reducible] def z0E.sg:Sg:=⟨[.dat tState,.dat (.slc tUndo)],[],.dat tState,[]⟩
def z0E.f (k:Nat) (a0:Ty.D tState) (a1:Ty.D (.slc tUndo)):Option (Sg.Out z0E.sg):=Sg.fn z0E.sg (z0E.cx k) z0E.body z0E.rs (a0,a1)
def z0E.e (k:Nat):Entry:=Sg.entry z0E.sg fun x=>z0E.f k x.1 x.2
theorem z0E.ok (k:Nat):CallOK Tryz.prog 56 (z0E.e k):=fn_ok (c:=z0E.cx k) (code:=z0E.body) (TT.of tt_ok pp_ok mm_ok) (fns_ok ⟨(z12.ok k),trivial⟩) mixed Tryz.func56 (by kernel_rfl) (by kernel_rfl) (by kernel_rfl) (by kernel_rfl) (by kernel_rfl) (by kernel_rfl) (fun x=>by kernel_rfl)
def z0J.body:Go.Code:=Tryz.f57.body.getD .skip
def z0J.rs:List Go.ResultVar:=Tryz.f57.results.toList
def z0J.regs:List (Nat × RInfo):=[(0,⟨[0,3],[3],[0],[],0,[],[],[],[],[]⟩),(1,ri [0,3,7] [3]),(2,ri [0,3,7,8] [3]),(3,⟨[4],[37],[6,7],[],7,[],[],[],[],[]⟩),(4,ri [0,3,17] [3]),(5,ri [0,3,5] [3]),(6,⟨[0,3,5,23],[3],[],[],0,[0,3,5],[3],[],[],[]⟩),(8,rq [0,3,5,33] [3] 8),(9,⟨[4],[37],[4],[],0,[],[],[],[],[]⟩),(7,ri [0,3,5] [3]),(10,⟨[4],[37],[0,1],[],0,[],[],[],[],[]⟩)]
def z0J.cx (k:Nat):Cx:=⟨tt,pp,[(138,(cloneO tDot))],z0J.regs,k,mm⟩
@[reducible] def z0J.sg:Sg:=⟨[.dat (.slc tDot),.dat tRecord],[],.dat (.slc tDot),[]⟩
def z0J.f (k:Nat) (a0:Ty.D (.slc tDot)) (a1:Ty.D tRecord):Option (Sg.Out z0J.sg):=Sg.fn z0J.sg (z0J.cx k) z0J.body z0J.rs (a0,a1)
def z0J.e (k:Nat):Entry:=Sg.entry z0J.sg fun x=>z0J.f k x.1 x.2
theorem z0J.ok (k:Nat):CallOK Tryz.prog 57 (z0J.e k):=fn_ok (c:=z0J.cx k) (code:=z0J.body) (TT.of tt_ok pp_ok mm_ok) (fns_ok ⟨cloneODot_ok,trivial⟩) mixed Tryz.func57 (by kernel_rfl) (by kernel_rfl) (by kernel_rfl) (by kernel_rfl) (by kernel_rfl) (by kernel_rfl) (fun x=>by kernel_rfl)
def z05.body:Go.Code:=Tryz.f235.body.getD .skip
def z05.rs:List Go.ResultVar:=Tryz.f235.results.toList
def z05.regs:List (Nat × RInfo):=[(0,ri [0] []),(1,ri [0,3] []),(2,ri [0,3,9,10,11] []),(3,⟨[0,3,9,10,11,12],[],[],[],0,[0,3,9,10,11],[],[],[],[]⟩),(4,⟨[0,3,5,9,10,11],[],[2],[],0,[],[],[],[],[]⟩),(5,ri [0,3,9,10,11] []),(6,ri [0,3,9,10,11,20] []),(7,ri [0,3,9,10,11] []),(8,ri [0,3,9,10,11] []),(9,⟨[0,6],[24],[2],[],0,[],[],[],[],[]⟩),(10,ri [6,25,26,27] [24]),(11,⟨[6,25,26,27,28],[24],[],[],0,[6,25,26,27],[24],[],[],[]⟩),(12,⟨[6,8,25,26,27],[24],[2],[],0,[],[],[],[],[]⟩),(13,⟨[6,25,26,27],[24],[0,2,3],[],0,[],[],[],[],[]⟩),(14,ri [6,25,26,27] [24]),(15,⟨[2],[24],[0,1],[],0,[],[],[],[],[]⟩)]
def z05.cx (k:Nat):Cx:=⟨tt,pp,[(261,(growE tDot))],z05.regs,k,mm⟩
@[reducible] def z05.sg:Sg:=⟨[.dat (.slc (.slc tDot))],[],.raw tDot,[]⟩
def z05.f (k:Nat) (a0:Ty.D (.slc (.slc tDot))):Option (Sg.Out z05.sg):=Sg.fn z05.sg (z05.cx k) z05.body z05.rs a0
def z05.e (k:Nat):Entry:=Sg.entry z05.sg fun x=>z05.f k x
theorem z05.ok (k:Nat):CallOK Tryz.prog 235 (z05.e k):=fn_ok (c:=z05.cx k) (code:=z05.body) (TT.of tt_ok pp_ok mm_ok) (fns_ok ⟨growDot_ok,trivial⟩) mixed Tryz.func235 (by kernel_rfl) (by kernel_rfl) (by kernel_rfl) (by kernel_rfl) (by kernel_rfl) (by kernel_rfl) (fun x=>by kernel_rfl)
def z1n.body:Go.Code:=Tryz.f263.body.getD .skip
def z1n.rs:List Go.ResultVar:=Tryz.f263.results.toList
def z1n.regs:List (Nat × RInfo):=[(0,ri [0,1] []),(1,ri [4] [])]
def z1n.cx (k:Nat):Cx:=⟨tt,pp,[],z1n.regs,k,mm⟩
@[reducible] def z1n.sg:Sg:=⟨[.dat (.int .i64),.dat (.int .i64)],[],.dat (.int .i64),[]⟩
def z1n.f (k:Nat) (a0:Ty.D (.int .i64)) (a1:Ty.D (.int .i64)):Option (Sg.Out z1n.sg):=Sg.fn z1n.sg (z1n.cx k) z1n.body z1n.rs (a0,a1)
def z1n.e (k:Nat):Entry:=Sg.entry z1n.sg fun x=>z1n.f k x.1 x.2
theorem z1n.ok (k:Nat):CallOK Tryz.prog 263 (z1n.e k):=fn_ok (c:=z1n.cx k) (code:=z1n.body) (TT.of tt_ok pp_ok mm_ok) (fns_ok trivial) mixed Tryz.func263 (by kernel_rfl) (by kernel_rfl) (by kernel_rfl) (by kernel_rfl) (by kernel_rfl) (by kernel_rfl) (fun x=>by kernel_rfl)
def z06.body:Go.Code:=Tryz.f262.body.getD .skip
def z06.rs:List Go.ResultVar:=Tryz.f262.results.toList
def z06.regs:List (Nat × RInfo):=[(0,ri [2,3,4,6] [3,4,6]),(1,ri [2,3,4,6,8] [3,4,6]),(2,⟨[2,3,4,6,8,9],[3,4,6],[],[],0,[2,3,4,6,8],[3,4,6],[],[],[]⟩),(3,ri [2,3,4,6,7,8] [3,4,6]),(4,⟨[2,3,4,6,8],[3,4,6],[],[],9,[],[],[],[[],[],[],[],[],[],[],[],[4,7],[4,7,8],[4,7,8]],[]⟩),(5,ri [2,3,4,6,8] [3,4,6]),(6,ri [6] [6])]
def z06.cx (k:Nat):Cx:=⟨tt,pp,[(263,(z1n.e k))],z06.regs,k,mm⟩
@[reducible] def z06.sg:Sg:=⟨[.dat tVec,.dat tVec,.fn 263 0],[],.dat tVec,[]⟩
def z06.f (k:Nat) (a0:Ty.D tVec) (a1:Ty.D tVec):Option (Sg.Out z06.sg):=Sg.fn z06.sg (z06.cx k) z06.body z06.rs (a0,a1)
def z06.e (k:Nat):Entry:=Sg.entry z06.sg fun x=>z06.f k x.1 x.2
theorem z06.ok (k:Nat):CallOK Tryz.prog 262 (z06.e k):=fn_ok (c:=z06.cx k) (code:=z06.body) (TT.of tt_ok pp_ok mm_ok) (fns_ok ⟨(z1n.ok k),trivial⟩) mixed Tryz.func262 (by kernel_rfl) (by kernel_rfl) (by kernel_rfl) (by kernel_rfl) (by kernel_rfl) (by kernel_rfl) (fun x=>by kernel_rfl)
def z23.body:Go.Code:=Tryz.f236.body.getD .skip
def z23.rs:List Go.ResultVar:=Tryz.f236.results.toList
def z23.regs:List (Nat × RInfo):=[(0,ri [2,3,4] [2,3,4]),(1,ri [4] [4])]
def z23.cx (k:Nat):Cx:=⟨tt,pp,[(262,(z06.e k)),(263,(z1n.e k))],z23.regs,k,mm⟩
@[reducible] def z23.sg:Sg:=⟨[.dat tVec,.dat tVec],[],.dat tVec,[]⟩
def z23.f (k:Nat) (a0:Ty.D tVec) (a1:Ty.D tVec):Option (Sg.Out z23.sg):=Sg.fn z23.sg (z23.cx k) z23.body z23.rs (a0,a1)
def z23.e (k:Nat):Entry:=Sg.entry z23.sg fun x=>z23.f k x.1 x.2
theorem z23.ok (k:Nat):CallOK Tryz.prog 236 (z23.e k):=fn_ok (c:=z23.cx k) (code:=z23.body) (TT.of tt_ok pp_ok mm_ok) (fns_ok ⟨(z06.ok k),(z1n.ok k),trivial⟩) mixed Tryz.func236 (by kernel_rfl) (by kernel_rfl) (by kernel_rfl) (by kernel_rfl) (by kernel_rfl) (by kernel_rfl) (fun x=>by kernel_rfl)
def z0Y.body:Go.Code:=Tryz.f192.body.getD .skip
def z0Y.rs:List Go.ResultVar:=Tryz.f192.results.toList
def z0Y.regs:List (Nat × RInfo):=[(0,⟨[2,3,4],[2,3,4],[0,1],[],0,[],[],[0,1],[],[]⟩),(1,⟨[2,3,4,5],[2,3,4,11],[6],[],0,[],[],[2,3],[],[]⟩),(2,⟨[2,3,4,5],[2,3,4,11],[0,1],[0],0,[],[],[],[],[]⟩),(3,⟨[4],[4],[7],[],0,[],[],[2,3,5,4],[],[]⟩)]
def z0Y.cx (k:Nat):Cx:=⟨tt,pp,[(235,(z05.e k)),(182,(sortE tDot 176 dotLt)),(176,(z0I.e k)),(236,(z23.e k)),(183,(z1F.e k))],z0Y.regs,k,mm⟩
@[reducible] def z0Y.sg:Sg:=⟨[.dat tDots,.dat tDots],[],.dat tDots,[]⟩
def z0Y.f (k:Nat) (a0:Ty.D tDots) (a1:Ty.D tDots):Option (Sg.Out z0Y.sg):=Sg.fn z0Y.sg (z0Y.cx k) z0Y.body z0Y.rs (a0,a1)
def z0Y.e (k:Nat):Entry:=Sg.entry z0Y.sg fun x=>z0Y.f k x.1 x.2
theorem z0Y.ok (k:Nat):CallOK Tryz.prog 192 (z0Y.e k):=fn_ok (c:=z0Y.cx k) (code:=z0Y.body) (TT.of tt_ok pp_ok mm_ok) (fns_ok ⟨(z05.ok k),sortDot_ok,(z0I.ok k),(z23.ok k),(z1F.ok k),trivial⟩) mixed Tryz.func192 (by kernel_rfl) (by kernel_rfl) (by kernel_rfl) (by kernel_rfl) (by kernel_rfl) (by kernel_rfl) (fun x=>by kernel_rfl)
def z1h.body:Go.Code:=Tryz.f139.body.getD .skip
def z1h.rs:List Go.ResultVar:=Tryz.f139.results.toList
def z1h.regs:List (Nat × RInfo):=[(0,⟨[1,2,4],[2,4],[0],[],0,[],[],[],[],[]⟩),(1,⟨[2,4],[2,4],[6],[],5,[],[],[],[[],[],[],[],[1],[1],[1]],[]⟩),(2,⟨[4],[4],[1],[],0,[],[],[],[],[]⟩)]
def z1h.cx (k:Nat):Cx:=⟨tt,pp,[(129,(z2f.e k)),(192,(z0Y.e k))],z1h.regs,k,mm⟩
@[reducible] def z1h.sg:Sg:=⟨[.dat tState,.dat (.slc tDot)],[],.dat tState,[]⟩
def z1h.f (k:Nat) (a0:Ty.D tState) (a1:Ty.D (.slc tDot)):Option (Sg.Out z1h.sg):=Sg.fn z1h.sg (z1h.cx k) z1h.body z1h.rs (a0,a1)
def z1h.e (k:Nat):Entry:=Sg.entry z1h.sg fun x=>z1h.f k x.1 x.2
theorem z1h.ok (k:Nat):CallOK Tryz.prog 139 (z1h.e k):=fn_ok (c:=z1h.cx k) (code:=z1h.body) (TT.of tt_ok pp_ok mm_ok) (fns_ok ⟨(z2f.ok k),(z0Y.ok k),trivial⟩) mixed Tryz.func139 (by kernel_rfl) (by kernel_rfl) (by kernel_rfl) (by kernel_rfl) (by kernel_rfl) (by kernel_rfl) (fun x=>by kernel_rfl)
def z0u.body:Go.Code:=Tryz.f58.body.getD .skip
def z0u.rs:List Go.ResultVar:=Tryz.f58.results.toList
def z0u.regs:List (Nat × RInfo):=[(0,⟨[2,3,4],[2,3,4],[0,1],[],0,[],[],[],[],[]⟩),(1,ri [2,3,4,8,9,10] [2,3,4]),(2,⟨[2,3,4,8,9,10,11],[2,3,4],[],[],0,[2,3,4,8,9,10],[2,3,4],[],[],[]⟩),(3,⟨[2,3,4,6,8,9,10],[2,3,4,6],[3],[],0,[],[],[],[],[]⟩),(4,⟨[2,3,4,8,9,10],[2,3,4],[3],[],0,[],[],[],[],[]⟩),(5,ri [2,3,4,8,9,10] [2,3,4]),(6,⟨[4],[4],[7],[],7,[],[],[],[[],[],[],[0,2],[],[],[0,2,5],[0,2,5]],[]⟩)]
def z0u.cx (k:Nat):Cx:=⟨tt,pp,[(55,(z1E.e k)),(56,(z0E.e k)),(139,(z1h.e k))],z0u.regs,k,mm⟩
@[reducible] def z0u.sg:Sg:=⟨[.dat tState,.dat tDelta],[],.dat tState,[]⟩
def z0u.f (k:Nat) (a0:Ty.D tState) (a1:Ty.D tDelta):Option (Sg.Out z0u.sg):=Sg.fn z0u.sg (z0u.cx k) z0u.body z0u.rs (a0,a1)
def z0u.e (k:Nat):Entry:=Sg.entry z0u.sg fun x=>z0u.f k x.1 x.2
theorem z0u.ok (k:Nat):CallOK Tryz.prog 58 (z0u.e k):=fn_ok (c:=z0u.cx k) (code:=z0u.body) (TT.of tt_ok pp_ok mm_ok) (fns_ok ⟨(z1E.ok k),(z0E.ok k),(z1h.ok k),trivial⟩) mixed Tryz.func58 (by kernel_rfl) (by kernel_rfl) (by kernel_rfl) (by kernel_rfl) (by kernel_rfl) (by kernel_rfl) (fun x=>by kernel_rfl)
def z0H.body:Go.Code:=Tryz.f59.body.getD .skip
def z0H.rs:List Go.ResultVar:=Tryz.f59.results.toList
def z0H.regs:List (Nat × RInfo):=[(0,⟨[1,2],[1,2],[0],[],0,[],[],[],[],[]⟩),(1,⟨[1,2],[1,2],[4],[],0,[],[],[],[],[]⟩),(2,⟨[1,2],[1,2],[4],[],0,[],[],[],[],[]⟩),(3,⟨[1,2],[1,2],[6],[],0,[],[],[],[],[]⟩),(4,⟨[1,2],[1,2],[6],[],0,[],[],[],[],[]⟩),(5,ri [1,2,26,27] [1,2]),(6,⟨[1,2,26,27,28],[1,2],[],[],0,[1,2,26,27],[1,2],[],[],[]⟩),(7,⟨[1,2,3,4,26,27],[1,2],[3],[],0,[],[],[],[],[]⟩),(8,⟨[1,2,26,27],[1,2],[5],[],0,[],[],[],[],[]⟩),(9,ri [1,2,26,27] [1,2]),(10,⟨[2],[2],[1],[],0,[],[],[],[],[]⟩)]
def z0H.cx (k:Nat):Cx:=⟨tt,pp,[(140,(cloneO tTxn)),(141,(cloneO tUndo)),(138,(cloneO tDot))],z0H.regs,k,mm⟩
@[reducible] def z0H.sg:Sg:=⟨[.dat tState],[],.dat tState,[]⟩
def z0H.f (k:Nat) (a0:Ty.D tState):Option (Sg.Out z0H.sg):=Sg.fn z0H.sg (z0H.cx k) z0H.body z0H.rs a0
def z0H.e (k:Nat):Entry:=Sg.entry z0H.sg fun x=>z0H.f k x
theorem z0H.ok (k:Nat):CallOK Tryz.prog 59 (z0H.e k):=fn_ok (c:=z0H.cx k) (code:=z0H.body) (TT.of tt_ok pp_ok mm_ok) (fns_ok ⟨cloneOTxn_ok,cloneOUndo_ok,cloneODot_ok,trivial⟩) mixed Tryz.func59 (by kernel_rfl) (by kernel_rfl) (by kernel_rfl) (by kernel_rfl) (by kernel_rfl) (by kernel_rfl) (fun x=>by kernel_rfl)
def z0K.body:Go.Code:=Tryz.f14.body.getD .skip
def z0K.rs:List Go.ResultVar:=Tryz.f14.results.toList
def z0K.regs:List (Nat × RInfo):=[(0,⟨[2,3,4],[2,3,4],[0,1],[],0,[],[],[],[],[]⟩),(1,ri [2,3,4,6] [2,3,4]),(2,ri [2,3,4,6,7] [2,3,4]),(3,⟨[2,3,4],[2,3,4],[4],[],0,[],[],[],[],[]⟩),(4,ri [2,4] [2,4]),(5,ri [2,3,4,6,18] [2,3,4]),(6,⟨[2,3,4],[2,3,4],[5],[],0,[],[],[],[],[]⟩),(7,⟨[2,4],[2,4],[11],[],12,[],[],[],[[],[],[],[],[],[3],[3],[],[6,3,7],[],[1,3,6,7],[1,3,6,7]],[]⟩),(8,ri [2,3,4,6,36] [2,3,4]),(9,⟨[4],[4],[4],[],0,[],[],[],[],[]⟩),(10,ri [2,3,4,42] [2,3,4]),(11,⟨[4],[4],[3],[],0,[],[],[],[],[]⟩),(12,⟨[4],[4],[1],[],0,[],[],[],[],[]⟩)]
def z0K.cx (k:Nat):Cx:=⟨tt,pp,[(55,(z1E.e k)),(56,(z0E.e k)),(57,(z0J.e k)),(58,(z0u.e k)),(59,(z0H.e k))],z0K.regs,k,mm⟩
@[reducible] def z0K.sg:Sg:=⟨[.dat tState,.dat tRecord],[],.dat tState,[]⟩
def z0K.f (k:Nat) (a0:Ty.D tState) (a1:Ty.D tRecord):Option (Sg.Out z0K.sg):=Sg.fn z0K.sg (z0K.cx k) z0K.body z0K.rs (a0,a1)
def z0K.e (k:Nat):Entry:=Sg.entry z0K.sg fun x=>z0K.f k x.1 x.2
theorem z0K.ok (k:Nat):CallOK Tryz.prog 14 (z0K.e k):=fn_ok (c:=z0K.cx k) (code:=z0K.body) (TT.of tt_ok pp_ok mm_ok) (fns_ok ⟨(z1E.ok k),(z0E.ok k),(z0J.ok k),(z0u.ok k),(z0H.ok k),trivial⟩) mixed Tryz.func14 (by kernel_rfl) (by kernel_rfl) (by kernel_rfl) (by kernel_rfl) (by kernel_rfl) (by kernel_rfl) (fun x=>by kernel_rfl)
def z0T.body:Go.Code:=Tryz.f11.body.getD .skip
def z0T.rs:List Go.ResultVar:=Tryz.f11.results.toList
def z0T.regs:List (Nat × RInfo):=[(0,ri [] []),(1,ri [1] [1]),(2,⟨[1,2],[1,2],[6],[],0,[],[],[],[],[]⟩),(3,⟨[1,2,3],[1,2,3],[6],[],0,[],[],[],[],[]⟩),(4,⟨[1,2,4],[1,2,4],[5],[],0,[],[],[],[],[]⟩),(5,rq [0] [] 27)]
def z0T.cx (k:Nat):Cx:=⟨tt,pp,[(14,(z0K.e k))],z0T.regs,k,mm⟩
@[reducible] def z0T.sg:Sg:=⟨[],[],.dat .bool,[]⟩
def z0T.f (k:Nat):Option (Sg.Out z0T.sg):=Sg.fn z0T.sg (z0T.cx k) z0T.body z0T.rs ()
def z0T.e (k:Nat):Entry:=Sg.entry z0T.sg fun x=>z0T.f k
theorem z0T.ok (k:Nat):CallOK Tryz.prog 11 (z0T.e k):=fn_ok (c:=z0T.cx k) (code:=z0T.body) (TT.of tt_ok pp_ok mm_ok) (fns_ok ⟨(z0K.ok k),trivial⟩) mixed Tryz.func11 (by kernel_rfl) (by kernel_rfl) (by kernel_rfl) (by kernel_rfl) (by kernel_rfl) (by kernel_rfl) (fun x=>by kernel_rfl)
@[reducible] def law23_RecordParses.sg:Sg:=⟨[.dat .str],[],.dat .bool,[]⟩
def z0S.body:Go.Code:=Tryz.f167.body.getD .skip
def z0S.rs:List Go.ResultVar:=Tryz.f167.results.toList
def z0S.regs:List (Nat × RInfo):=[(0,ri [0] []),(1,ri [0,6] []),(2,ri [2] []),(3,ri [0,3] []),(4,⟨[0,3,10],[],[],[],0,[0,3],[],[],[],[]⟩),(6,ri [0,3,18] []),(7,ri [2] []),(5,ri [0,3] []),(8,ri [2] [])]
def z0S.cx (k:Nat):Cx:=⟨tt,pp,[],z0S.regs,k,mm⟩
@[reducible] def z0S.sg:Sg:=⟨[.dat (.slc .str)],[],.dat .bool,[]⟩
def z0S.f (k:Nat) (a0:Ty.D (.slc .str)):Option (Sg.Out z0S.sg):=Sg.fn z0S.sg (z0S.cx k) z0S.body z0S.rs a0
def z0S.l4 (k:Nat) (n:Nat) (x0:Ty.D (.slc .str)) (x3:Ty.D (.int .i64)):Option (Sg.Out z0S.sg):=loopAt (z0S.cx k) z0S.body [1,1,0,1,0] 4 [0,3] [] [] (Sg.K z0S.sg (z0S.cx k) z0S.rs) n ⟨[(0,.dat (.slc .str) x0),(3,.dat (.int .i64) x3)],[]⟩
theorem z0S.f_eq (k:Nat) (a0:Ty.D (.slc .str)):z0S.f k a0=br (ilt 12 (ilen a0)) (some false) (z0S.l4 k k a0 0):=by kernel_rfl
theorem z0S.l4_eq (k:Nat) (n4:Nat) (x0:Ty.D (.slc .str)) (x3:Ty.D (.int .i64)):z0S.l4 k (n4+1) x0 x3=br (ilt x3 (ilen x0)) (br (inL x3 x0) (br (ilt 120 (ilen (rd .str x0 (natOf x3)))) (some false) (z0S.l4 k n4 x0 (iadd .i64 x3 1))) none) (some true):=by kernel_rfl
def z0S.e (k:Nat):Entry:=Sg.entry z0S.sg fun x=>z0S.f k x
theorem z0S.ok (k:Nat):CallOK Tryz.prog 167 (z0S.e k):=fn_ok (c:=z0S.cx k) (code:=z0S.body) (TT.of tt_ok pp_ok mm_ok) (fns_ok trivial) mixed Tryz.func167 (by kernel_rfl) (by kernel_rfl) (by kernel_rfl) (by kernel_rfl) (by kernel_rfl) (by kernel_rfl) (fun x=>by kernel_rfl)
def z0V.body:Go.Code:=Tryz.f114.body.getD .skip
def z0V.rs:List Go.ResultVar:=Tryz.f114.results.toList
def z0V.regs:List (Nat × RInfo):=[(0,⟨[1],[1],[0],[],0,[],[],[],[],[]⟩),(1,ri [2] [5])]
def z0V.cx (k:Nat):Cx:=⟨tt,pp,[(167,(z0S.e k))],z0V.regs,k,mm⟩
@[reducible] def z0V.sg:Sg:=⟨[.dat tOp],[],.dat .bool,[]⟩
def z0V.f (k:Nat) (a0:Ty.D tOp):Option (Sg.Out z0V.sg):=Sg.fn z0V.sg (z0V.cx k) z0V.body z0V.rs a0
theorem z0V.f_eq (k:Nat) (a0:Ty.D tOp):z0V.f k a0=bnd (z0S.f k a0.2.1) fun r0=>br r0 (br (ile (ilen a0.2.2.1.2.2) 200) (some (ile (ilen a0.2.2.2.2) 300)) (some false)) (some false):=by kernel_rfl
def z0V.e (k:Nat):Entry:=Sg.entry z0V.sg fun x=>z0V.f k x
theorem z0V.ok (k:Nat):CallOK Tryz.prog 114 (z0V.e k):=fn_ok (c:=z0V.cx k) (code:=z0V.body) (TT.of tt_ok pp_ok mm_ok) (fns_ok ⟨(z0S.ok k),trivial⟩) mixed Tryz.func114 (by kernel_rfl) (by kernel_rfl) (by kernel_rfl) (by kernel_rfl) (by kernel_rfl) (by kernel_rfl) (fun x=>by kernel_rfl)
def z0O.body:Go.Code:=Tryz.f47.body.getD .skip
def z0O.rs:List Go.ResultVar:=Tryz.f47.results.toList
def z0O.regs:List (Nat × RInfo):=[(0,⟨[1],[1],[0],[],0,[],[],[],[],[]⟩),(1,ri [1,7] [1]),(2,ri [2] []),(3,ri [1,3] [1]),(4,⟨[1,3,12],[1],[],[],0,[1,3],[1],[],[],[]⟩),(6,ri [1,3,21] [1]),(7,ri [2] []),(5,ri [1,3] [1]),(8,ri [2] [])]
def z0O.cx (k:Nat):Cx:=⟨tt,pp,[(114,(z0V.e k))],z0O.regs,k,mm⟩
@[reducible] def z0O.sg:Sg:=⟨[.dat tTxn],[],.dat .bool,[]⟩
def z0O.f (k:Nat) (a0:Ty.D tTxn):Option (Sg.Out z0O.sg):=Sg.fn z0O.sg (z0O.cx k) z0O.body z0O.rs a0
def z0O.l4 (k:Nat) (n:Nat) (x3:Ty.D (.int .i64)) (m1:Ty.D tTxn):Option (Sg.Out z0O.sg):=loopAt (z0O.cx k) z0O.body [1,1,0,1,0] 4 [1,3] [1] [] (Sg.K z0O.sg (z0O.cx k) z0O.rs) n ⟨[(1,.ref 1 []),(3,.dat (.int .i64) x3)],[(1,.dat tTxn m1)]⟩
theorem z0O.f_eq (k:Nat) (a0:Ty.D tTxn):z0O.f k a0=br (ilt 20 (ilen a0.2.2.2.2)) (some false) (z0O.l4 k k 0 a0):=by kernel_rfl
theorem z0O.l4_eq (k:Nat) (n4:Nat) (x3:Ty.D (.int .i64)) (m1:Ty.D tTxn):z0O.l4 k (n4+1) x3 m1=br (ilt x3 (ilen m1.2.2.2.2)) (br (inL x3 m1.2.2.2.2) (bnd (z0V.f k (rd tOp m1.2.2.2.2 (natOf x3))) fun r0=>br (bnot r0) (some false) (z0O.l4 k n4 (iadd .i64 x3 1) m1)) none) (some true):=by kernel_rfl
def z0O.e (k:Nat):Entry:=Sg.entry z0O.sg fun x=>z0O.f k x
theorem z0O.ok (k:Nat):CallOK Tryz.prog 47 (z0O.e k):=fn_ok (c:=z0O.cx k) (code:=z0O.body) (TT.of tt_ok pp_ok mm_ok) (fns_ok ⟨(z0V.ok k),trivial⟩) mixed Tryz.func47 (by kernel_rfl) (by kernel_rfl) (by kernel_rfl) (by kernel_rfl) (by kernel_rfl) (by kernel_rfl) (fun x=>by kernel_rfl)
def z0i.body:Go.Code:=Tryz.f37.body.getD .skip
def z0i.rs:List Go.ResultVar:=Tryz.f37.results.toList
def z0i.regs:List (Nat × RInfo):=[(0,⟨[1],[1],[0],[],0,[],[],[],[],[]⟩),(1,ri [1,19] [1]),(2,ri [2] []),(3,ri [1,3] [1]),(4,⟨[1,3,24],[1],[],[],0,[1,3],[1],[],[],[]⟩),(6,ri [1,3,33] [1]),(7,ri [2] []),(5,ri [1,3] [1]),(8,ri [2] [])]
def z0i.cx (k:Nat):Cx:=⟨tt,pp,[(47,(z0O.e k))],z0i.regs,k,mm⟩
@[reducible] def z0i.sg:Sg:=⟨[.dat tDelta],[],.dat .bool,[]⟩
def z0i.f (k:Nat) (a0:Ty.D tDelta):Option (Sg.Out z0i.sg):=Sg.fn z0i.sg (z0i.cx k) z0i.body z0i.rs a0
def z0i.l4 (k:Nat) (n:Nat) (x3:Ty.D (.int .i64)) (m1:Ty.D tDelta):Option (Sg.Out z0i.sg):=loopAt (z0i.cx k) z0i.body [1,1,0,1,0] 4 [1,3] [1] [] (Sg.K z0i.sg (z0i.cx k) z0i.rs) n ⟨[(1,.ref 1 []),(3,.dat (.int .i64) x3)],[(1,.dat tDelta m1)]⟩
theorem z0i.f_eq (k:Nat) (a0:Ty.D tDelta):z0i.f k a0=br (ilt 20 (ilen a0.1)) (some false) (br (ilt 100 (ilen a0.2.1)) (some false) (br (ilt 100 (ilen a0.2.2)) (some false) (z0i.l4 k k 0 a0))):=by kernel_rfl
theorem z0i.l4_eq (k:Nat) (n4:Nat) (x3:Ty.D (.int .i64)) (m1:Ty.D tDelta):z0i.l4 k (n4+1) x3 m1=br (ilt x3 (ilen m1.1)) (br (inL x3 m1.1) (bnd (z0O.f k (rd tTxn m1.1 (natOf x3))) fun r0=>br (bnot r0) (some false) (z0i.l4 k n4 (iadd .i64 x3 1) m1)) none) (some true):=by kernel_rfl
def z0i.e (k:Nat):Entry:=Sg.entry z0i.sg fun x=>z0i.f k x
theorem z0i.ok (k:Nat):CallOK Tryz.prog 37 (z0i.e k):=fn_ok (c:=z0i.cx k) (code:=z0i.body) (TT.of tt_ok pp_ok mm_ok) (fns_ok ⟨(z0O.ok k),trivial⟩) mixed Tryz.func37 (by kernel_rfl) (by kernel_rfl) (by kernel_rfl) (by kernel_rfl) (by kernel_rfl) (by kernel_rfl) (fun x=>by kernel_rfl)
@[reducible] def ref22_Short.sg:Sg:=⟨[.dat tState],[],.dat .bool,[]⟩
@[reducible] def ref23_Short.sg:Sg:=⟨[.dat tRecord],[],.dat .bool,[]⟩
def z1Y.body:Go.Code:=Tryz.f62.body.getD .skip
def z1Y.rs:List Go.ResultVar:=Tryz.f62.results.toList
def z1Y.regs:List (Nat × RInfo):=[(0,ri [1] [1]),(1,rq [2] [] 7)]
def z1Y.cx (k:Nat):Cx:=⟨tt,pp,[(60,packIntE)],z1Y.regs,k,mm⟩
@[reducible] def z1Y.sg:Sg:=⟨[.dat tDot],[],.dat .str,[]⟩
def z1Y.f (k:Nat) (a0:Ty.D tDot):Option (Sg.Out z1Y.sg):=Sg.fn z1Y.sg (z1Y.cx k) z1Y.body z1Y.rs a0
theorem z1Y.f_eq (k:Nat) (a0:Ty.D tDot):z1Y.f k a0=bnd (packI a0.1) fun r0=>bnd (packI a0.2) fun r1=>br (roomS r0 r1) (some (app r0 r1)) none:=by kernel_rfl
def z1Y.e (k:Nat):Entry:=Sg.entry z1Y.sg fun x=>z1Y.f k x
theorem z1Y.ok (k:Nat):CallOK Tryz.prog 62 (z1Y.e k):=fn_ok (c:=z1Y.cx k) (code:=z1Y.body) (TT.of tt_ok pp_ok mm_ok) (fns_ok ⟨packint_ok,trivial⟩) mixed Tryz.func62 (by kernel_rfl) (by kernel_rfl) (by kernel_rfl) (by kernel_rfl) (by kernel_rfl) (by kernel_rfl) (fun x=>by kernel_rfl)
def z1Q.body:Go.Code:=Tryz.f158.body.getD .skip
def z1Q.rs:List Go.ResultVar:=Tryz.f158.results.toList
def z1Q.regs:List (Nat × RInfo):=[(0,ri [0] []),(1,ri [2] [])]
def z1Q.cx (k:Nat):Cx:=⟨tt,pp,[(60,packIntE)],z1Q.regs,k,mm⟩
@[reducible] def z1Q.sg:Sg:=⟨[.dat .str],[],.dat .str,[]⟩
def z1Q.f (k:Nat) (a0:Ty.D .str):Option (Sg.Out z1Q.sg):=Sg.fn z1Q.sg (z1Q.cx k) z1Q.body z1Q.rs a0
theorem z1Q.f_eq (k:Nat) (a0:Ty.D .str):z1Q.f k a0=bnd (packI (ilen a0)) fun r0=>br (roomS r0 a0) (some (app r0 a0)) none:=by kernel_rfl
def z1Q.e (k:Nat):Entry:=Sg.entry z1Q.sg fun x=>z1Q.f k x
theorem z1Q.ok (k:Nat):CallOK Tryz.prog 158 (z1Q.e k):=fn_ok (c:=z1Q.cx k) (code:=z1Q.body) (TT.of tt_ok pp_ok mm_ok) (fns_ok ⟨packint_ok,trivial⟩) mixed Tryz.func158 (by kernel_rfl) (by kernel_rfl) (by kernel_rfl) (by kernel_rfl) (by kernel_rfl) (by kernel_rfl) (fun x=>by kernel_rfl)
def z1J.body:Go.Code:=Tryz.f194.body.getD .skip
def z1J.rs:List Go.ResultVar:=Tryz.f194.results.toList
def z1J.regs:List (Nat × RInfo):=[(0,ri [0] []),(1,ri [0,3] [8]),(2,ri [3,9,10,11] [8]),(3,⟨[3,9,10,11,12],[8],[],[],0,[3,9,10,11],[8],[],[],[]⟩),(4,ri [3,5,9,10,11] [8]),(5,ri [3,9,10,11] [8]),(6,ri [3,9,10,11] [8]),(7,ri [2] [8])]
def z1J.cx (k:Nat):Cx:=⟨tt,pp,[(60,packIntE),(158,(z1Q.e k))],z1J.regs,k,mm⟩
@[reducible] def z1J.sg:Sg:=⟨[.dat (.slc .str)],[],.dat .str,[]⟩
def z1J.f (k:Nat) (a0:Ty.D (.slc .str)):Option (Sg.Out z1J.sg):=Sg.fn z1J.sg (z1J.cx k) z1J.body z1J.rs a0
def z1J.l3 (k:Nat) (n:Nat) (x3:Ty.D .str) (x9:Ty.D (.slc .str)) (x10:Ty.D (.int .i64)) (x11:Ty.D (.int .i64)):Option (Sg.Out z1J.sg):=loopAt (z1J.cx k) z1J.body [1,1,0,1,0] 3 [3,9,10,11] [8] [] (Sg.K z1J.sg (z1J.cx k) z1J.rs) n ⟨[(3,.dat .str x3),(9,.dat (.slc .str) x9),(10,.dat (.int .i64) x10),(11,.dat (.int .i64) x11)],[]⟩
theorem z1J.f_eq (k:Nat) (a0:Ty.D (.slc .str)):z1J.f k a0=bnd (packI (ilen a0)) fun r0=>z1J.l3 k k r0 a0 (ilen a0) 0:=by kernel_rfl
theorem z1J.l3_eq (k:Nat) (n3:Nat) (x3:Ty.D .str) (x9:Ty.D (.slc .str)) (x10:Ty.D (.int .i64)) (x11:Ty.D (.int .i64)):z1J.l3 k (n3+1) x3 x9 x10 x11=br (ilt x11 x10) (br (inL x11 x9) (bnd (z1Q.f k (rd .str x9 (natOf x11))) fun r0=>br (roomS x3 r0) (z1J.l3 k n3 (app x3 r0) x9 x10 (iadd .i64 x11 1)) none) none) (some x3):=by kernel_rfl
def z1J.e (k:Nat):Entry:=Sg.entry z1J.sg fun x=>z1J.f k x
theorem z1J.ok (k:Nat):CallOK Tryz.prog 194 (z1J.e k):=fn_ok (c:=z1J.cx k) (code:=z1J.body) (TT.of tt_ok pp_ok mm_ok) (fns_ok ⟨packint_ok,(z1Q.ok k),trivial⟩) mixed Tryz.func194 (by kernel_rfl) (by kernel_rfl) (by kernel_rfl) (by kernel_rfl) (by kernel_rfl) (by kernel_rfl) (fun x=>by kernel_rfl)
def z1q.body:Go.Code:=Tryz.f195.body.getD .skip
def z1q.rs:List Go.ResultVar:=Tryz.f195.results.toList
def z1q.regs:List (Nat × RInfo):=[(0,ri [0] []),(1,ri [0,4] []),(2,ri [2] []),(3,ri [2] [])]
def z1q.cx (k:Nat):Cx:=⟨tt,pp,[],z1q.regs,k,mm⟩
@[reducible] def z1q.sg:Sg:=⟨[.dat (.int .i64)],[],.dat (.int .i64),[]⟩
def z1q.f (k:Nat) (a0:Ty.D (.int .i64)):Option (Sg.Out z1q.sg):=Sg.fn z1q.sg (z1q.cx k) z1q.body z1q.rs a0
theorem z1q.f_eq (k:Nat) (a0:Ty.D (.int .i64)):z1q.f k a0=br (ilt a0 0) (some (isub .i64 (imul .i64 (-2) a0) 1)) (some (imul .i64 2 a0)):=by kernel_rfl
def z1q.e (k:Nat):Entry:=Sg.entry z1q.sg fun x=>z1q.f k x
theorem z1q.ok (k:Nat):CallOK Tryz.prog 195 (z1q.e k):=fn_ok (c:=z1q.cx k) (code:=z1q.body) (TT.of tt_ok pp_ok mm_ok) (fns_ok trivial) mixed Tryz.func195 (by kernel_rfl) (by kernel_rfl) (by kernel_rfl) (by kernel_rfl) (by kernel_rfl) (by kernel_rfl) (fun x=>by kernel_rfl)
def z1k.body:Go.Code:=Tryz.f196.body.getD .skip
def z1k.rs:List Go.ResultVar:=Tryz.f196.results.toList
def z1k.regs:List (Nat × RInfo):=[(0,ri [1] [1]),(1,ri [1,5] [1]),(2,rq [2] [] 7),(3,rq [2] [] 8)]
def z1k.cx (k:Nat):Cx:=⟨tt,pp,[(60,packIntE),(158,(z1Q.e k)),(195,(z1q.e k))],z1k.regs,k,mm⟩
@[reducible] def z1k.sg:Sg:=⟨[.dat tValue],[],.dat .str,[]⟩
def z1k.f (k:Nat) (a0:Ty.D tValue):Option (Sg.Out z1k.sg):=Sg.fn z1k.sg (z1k.cx k) z1k.body z1k.rs a0
theorem z1k.f_eq (k:Nat) (a0:Ty.D tValue):z1k.f k a0=br (ieq a0.1 2) (bnd (packI a0.1) fun r0=>bnd (z1Q.f k a0.2.2) fun r1=>br (roomS r0 r1) (some (app r0 r1)) none) (bnd (packI a0.1) fun r2=>bnd (z1q.f k a0.2.1) fun r3=>bnd (packI r3) fun r4=>br (roomS r2 r4) (some (app r2 r4)) none):=by kernel_rfl
def z1k.e (k:Nat):Entry:=Sg.entry z1k.sg fun x=>z1k.f k x
theorem z1k.ok (k:Nat):CallOK Tryz.prog 196 (z1k.e k):=fn_ok (c:=z1k.cx k) (code:=z1k.body) (TT.of tt_ok pp_ok mm_ok) (fns_ok ⟨packint_ok,(z1Q.ok k),(z1q.ok k),trivial⟩) mixed Tryz.func196 (by kernel_rfl) (by kernel_rfl) (by kernel_rfl) (by kernel_rfl) (by kernel_rfl) (by kernel_rfl) (fun x=>by kernel_rfl)
def z28.body:Go.Code:=Tryz.f144.body.getD .skip
def z28.rs:List Go.ResultVar:=Tryz.f144.results.toList
def z28.regs:List (Nat × RInfo):=[(0,⟨[1],[1],[0],[],0,[],[],[],[],[]⟩),(1,ri [1,3] [1,8]),(2,ri [1,3,10] [1,8,10]),(3,ri [2] [8]),(4,ri [1,3] [1,8]),(5,ri [1,3,18] [1,8]),(6,ri [1,3,18,19] [1,8]),(7,ri [2] [8]),(8,ri [1,3,18,27] [1,8]),(9,ri [1,3,18,27] [1,8]),(10,ri [1,3,27] [1,8]),(11,ri [1,3] [1,8]),(12,ri [1,3,38] [1,8]),(13,ri [2] [8]),(14,ri [1,3] [1,8]),(15,ri [3,47,48,49] [8]),(16,⟨[3,47,48,49,50],[8],[],[],0,[3,47,48,49],[8],[],[],[]⟩),(17,ri [3,5,47,48,49] [5,8]),(18,rq [3,47,48,49] [8] 9),(19,ri [3,47,48,49] [8]),(20,ri [2] [8])]
def z28.cx (k:Nat):Cx:=⟨tt,pp,[(60,packIntE),(120,(z2e.e k)),(194,(z1J.e k)),(195,(z1q.e k)),(196,(z1k.e k)),(62,(z1Y.e k))],z28.regs,k,mm⟩
@[reducible] def z28.sg:Sg:=⟨[.dat tOp],[],.dat .str,[]⟩
def z28.f (k:Nat) (a0:Ty.D tOp):Option (Sg.Out z28.sg):=Sg.fn z28.sg (z28.cx k) z28.body z28.rs a0
def z28.l16 (k:Nat) (n:Nat) (x3:Ty.D .str) (x47:Ty.D (.slc tUndo)) (x48:Ty.D (.int .i64)) (x49:Ty.D (.int .i64)):Option (Sg.Out z28.sg):=loopAt (z28.cx k) z28.body [1,1,1,1,1,1,1,0,1,0] 16 [3,47,48,49] [8] [] (Sg.K z28.sg (z28.cx k) z28.rs) n ⟨[(3,.dat .str x3),(47,.dat (.slc tUndo) x47),(48,.dat (.int .i64) x48),(49,.dat (.int .i64) x49)],[]⟩
theorem z28.f_eq (k:Nat) (a0:Ty.D tOp):z28.f k a0=bnd (packI a0.1) fun r0=>bnd (z2e.f k a0) fun r1=>br r1 (some r0) (bnd (z1J.f k a0.2.1) fun r2=>br (roomS r0 r2) (br (ieq a0.1 3) (bnd (z1q.f k a0.2.2.2.1) fun r3=>bnd (packI r3) fun r4=>br (roomS (app r0 r2) r4) (some (app (app r0 r2) r4)) none) (br (ieq a0.1 1) (br (ieq a0.1 1) (bnd (z1k.f k a0.2.2.1) fun r5=>br (roomS (app r0 r2) r5) (br (ieq a0.1 2) (some (app (app r0 r2) r5)) (bnd (packI (ilen a0.2.2.2.2)) fun r6=>br (roomS (app (app r0 r2) r5) r6) (z28.l16 k k (app (app (app r0 r2) r5) r6) a0.2.2.2.2 (ilen a0.2.2.2.2) 0) none)) none) (br (ieq a0.1 2) (some (app r0 r2)) (bnd (packI (ilen a0.2.2.2.2)) fun r7=>br (roomS (app r0 r2) r7) (z28.l16 k k (app (app r0 r2) r7) a0.2.2.2.2 (ilen a0.2.2.2.2) 0) none))) (br (ieq a0.1 2) (br (ieq a0.1 2) (bnd (z1k.f k a0.2.2.1) fun r8=>br (roomS (app r0 r2) r8) (br (ieq a0.1 2) (some (app (app r0 r2) r8)) (bnd (packI (ilen a0.2.2.2.2)) fun r9=>br (roomS (app (app r0 r2) r8) r9) (z28.l16 k k (app (app (app r0 r2) r8) r9) a0.2.2.2.2 (ilen a0.2.2.2.2) 0) none)) none) (br (ieq a0.1 2) (some (app r0 r2)) (bnd (packI (ilen a0.2.2.2.2)) fun r10=>br (roomS (app r0 r2) r10) (z28.l16 k k (app (app r0 r2) r10) a0.2.2.2.2 (ilen a0.2.2.2.2) 0) none))) (br (ieq a0.1 4) (bnd (z1k.f k a0.2.2.1) fun r11=>br (roomS (app r0 r2) r11) (br (ieq a0.1 2) (some (app (app r0 r2) r11)) (bnd (packI (ilen a0.2.2.2.2)) fun r12=>br (roomS (app (app r0 r2) r11) r12) (z28.l16 k k (app (app (app r0 r2) r11) r12) a0.2.2.2.2 (ilen a0.2.2.2.2) 0) none)) none) (br (ieq a0.1 2) (some (app r0 r2)) (bnd (packI (ilen a0.2.2.2.2)) fun r13=>br (roomS (app r0 r2) r13) (z28.l16 k k (app (app r0 r2) r13) a0.2.2.2.2 (ilen a0.2.2.2.2) 0) none)))))) none):=by kernel_rfl
theorem z28.l16_eq (k:Nat) (n16:Nat) (x3:Ty.D .str) (x47:Ty.D (.slc tUndo)) (x48:Ty.D (.int .i64)) (x49:Ty.D (.int .i64)):z28.l16 k (n16+1) x3 x47 x48 x49=br (ilt x49 x48) (br (inL x49 x47) (bnd (z1Y.f k ((rd tUndo x47 (natOf x49)).1)) fun r0=>bnd (packI ((rd tUndo x47 (natOf x49)).2)) fun r1=>br (roomS r0 r1) (br (roomS x3 (app r0 r1)) (z28.l16 k n16 (app x3 (app r0 r1)) x47 x48 (iadd .i64 x49 1)) none) none) none) (some x3):=by kernel_rfl
def z28.e (k:Nat):Entry:=Sg.entry z28.sg fun x=>z28.f k x
theorem z28.ok (k:Nat):CallOK Tryz.prog 144 (z28.e k):=fn_ok (c:=z28.cx k) (code:=z28.body) (TT.of tt_ok pp_ok mm_ok) (fns_ok ⟨packint_ok,(z2e.ok k),(z1J.ok k),(z1q.ok k),(z1k.ok k),(z1Y.ok k),trivial⟩) mixed Tryz.func144 (by kernel_rfl) (by kernel_rfl) (by kernel_rfl) (by kernel_rfl) (by kernel_rfl) (by kernel_rfl) (fun x=>by kernel_rfl)
def z1X.body:Go.Code:=Tryz.f61.body.getD .skip
def z1X.rs:List Go.ResultVar:=Tryz.f61.results.toList
def z1X.regs:List (Nat × RInfo):=[(0,⟨[1],[1],[0],[],0,[],[],[],[],[]⟩),(1,ri [1,3] [1]),(2,ri [1,3,8] [1]),(3,ri [1,3] [1]),(4,rq [1,4] [1] 19),(5,ri [4,29,30,31] []),(6,⟨[4,29,30,31,32],[],[],[],0,[4,29,30,31],[],[],[],[]⟩),(7,⟨[4,6,29,30,31],[6],[3],[],0,[],[],[],[],[]⟩),(8,ri [4,29,30,31] []),(9,ri [4,29,30,31] []),(10,ri [2] [])]
def z1X.cx (k:Nat):Cx:=⟨tt,pp,[(62,(z1Y.e k)),(60,packIntE),(144,(z28.e k))],z1X.regs,k,mm⟩
@[reducible] def z1X.sg:Sg:=⟨[.dat tTxn],[],.dat .str,[]⟩
def z1X.f (k:Nat) (a0:Ty.D tTxn):Option (Sg.Out z1X.sg):=Sg.fn z1X.sg (z1X.cx k) z1X.body z1X.rs a0
def z1X.l6 (k:Nat) (n:Nat) (x4:Ty.D .str) (x29:Ty.D (.slc tOp)) (x30:Ty.D (.int .i64)) (x31:Ty.D (.int .i64)):Option (Sg.Out z1X.sg):=loopAt (z1X.cx k) z1X.body [1,1,1,1,0,1,0] 6 [4,29,30,31] [] [] (Sg.K z1X.sg (z1X.cx k) z1X.rs) n ⟨[(4,.dat .str x4),(29,.dat (.slc tOp) x29),(30,.dat (.int .i64) x30),(31,.dat (.int .i64) x31)],[]⟩
theorem z1X.f_eq (k:Nat) (a0:Ty.D tTxn):z1X.f k a0=br a0.2.2.2.1 (bnd (z1Y.f k a0.1) fun r0=>bnd (packI a0.2.1) fun r1=>br (roomS r0 r1) (bnd (packI a0.2.2.1) fun r2=>br (roomS (app r0 r1) r2) (bnd (packI 1) fun r3=>br (roomS (app (app r0 r1) r2) r3) (bnd (packI (ilen a0.2.2.2.2)) fun r4=>br (roomS (app (app (app r0 r1) r2) r3) r4) (z1X.l6 k k (app (app (app (app r0 r1) r2) r3) r4) a0.2.2.2.2 (ilen a0.2.2.2.2) 0) none) none) none) none) (bnd (z1Y.f k a0.1) fun r5=>bnd (packI a0.2.1) fun r6=>br (roomS r5 r6) (bnd (packI a0.2.2.1) fun r7=>br (roomS (app r5 r6) r7) (bnd (packI 0) fun r8=>br (roomS (app (app r5 r6) r7) r8) (bnd (packI (ilen a0.2.2.2.2)) fun r9=>br (roomS (app (app (app r5 r6) r7) r8) r9) (z1X.l6 k k (app (app (app (app r5 r6) r7) r8) r9) a0.2.2.2.2 (ilen a0.2.2.2.2) 0) none) none) none) none):=by kernel_rfl
theorem z1X.l6_eq (k:Nat) (n6:Nat) (x4:Ty.D .str) (x29:Ty.D (.slc tOp)) (x30:Ty.D (.int .i64)) (x31:Ty.D (.int .i64)):z1X.l6 k (n6+1) x4 x29 x30 x31=br (ilt x31 x30) (br (inL x31 x29) (bnd (z28.f k (rd tOp x29 (natOf x31))) fun r0=>br (roomS x4 r0) (z1X.l6 k n6 (app x4 r0) x29 x30 (iadd .i64 x31 1)) none) none) (some x4):=by kernel_rfl
def z1X.e (k:Nat):Entry:=Sg.entry z1X.sg fun x=>z1X.f k x
theorem z1X.ok (k:Nat):CallOK Tryz.prog 61 (z1X.e k):=fn_ok (c:=z1X.cx k) (code:=z1X.body) (TT.of tt_ok pp_ok mm_ok) (fns_ok ⟨(z1Y.ok k),packint_ok,(z28.ok k),trivial⟩) mixed Tryz.func61 (by kernel_rfl) (by kernel_rfl) (by kernel_rfl) (by kernel_rfl) (by kernel_rfl) (by kernel_rfl) (fun x=>by kernel_rfl)
def z1U.body:Go.Code:=Tryz.f99.body.getD .skip
def z1U.rs:List Go.ResultVar:=Tryz.f99.results.toList
def z1U.regs:List (Nat × RInfo):=[(0,ri [0] []),(1,ri [0,3] [8]),(2,ri [3,9,10,11] [8]),(3,⟨[3,9,10,11,12],[8],[],[],0,[3,9,10,11],[8],[],[],[]⟩),(4,⟨[3,5,9,10,11],[5,8],[3],[],0,[],[],[],[],[]⟩),(5,ri [3,9,10,11] [8]),(6,ri [3,9,10,11] [8]),(7,ri [2] [8])]
def z1U.cx (k:Nat):Cx:=⟨tt,pp,[(60,packIntE),(61,(z1X.e k))],z1U.regs,k,mm⟩
@[reducible] def z1U.sg:Sg:=⟨[.dat (.slc tTxn)],[],.dat .str,[]⟩
def z1U.f (k:Nat) (a0:Ty.D (.slc tTxn)):Option (Sg.Out z1U.sg):=Sg.fn z1U.sg (z1U.cx k) z1U.body z1U.rs a0
def z1U.l3 (k:Nat) (n:Nat) (x3:Ty.D .str) (x9:Ty.D (.slc tTxn)) (x10:Ty.D (.int .i64)) (x11:Ty.D (.int .i64)):Option (Sg.Out z1U.sg):=loopAt (z1U.cx k) z1U.body [1,1,0,1,0] 3 [3,9,10,11] [8] [] (Sg.K z1U.sg (z1U.cx k) z1U.rs) n ⟨[(3,.dat .str x3),(9,.dat (.slc tTxn) x9),(10,.dat (.int .i64) x10),(11,.dat (.int .i64) x11)],[]⟩
theorem z1U.f_eq (k:Nat) (a0:Ty.D (.slc tTxn)):z1U.f k a0=bnd (packI (ilen a0)) fun r0=>z1U.l3 k k r0 a0 (ilen a0) 0:=by kernel_rfl
theorem z1U.l3_eq (k:Nat) (n3:Nat) (x3:Ty.D .str) (x9:Ty.D (.slc tTxn)) (x10:Ty.D (.int .i64)) (x11:Ty.D (.int .i64)):z1U.l3 k (n3+1) x3 x9 x10 x11=br (ilt x11 x10) (br (inL x11 x9) (bnd (z1X.f k (rd tTxn x9 (natOf x11))) fun r0=>br (roomS x3 r0) (z1U.l3 k n3 (app x3 r0) x9 x10 (iadd .i64 x11 1)) none) none) (some x3):=by kernel_rfl
def z1U.e (k:Nat):Entry:=Sg.entry z1U.sg fun x=>z1U.f k x
theorem z1U.ok (k:Nat):CallOK Tryz.prog 99 (z1U.e k):=fn_ok (c:=z1U.cx k) (code:=z1U.body) (TT.of tt_ok pp_ok mm_ok) (fns_ok ⟨packint_ok,(z1X.ok k),trivial⟩) mixed Tryz.func99 (by kernel_rfl) (by kernel_rfl) (by kernel_rfl) (by kernel_rfl) (by kernel_rfl) (by kernel_rfl) (fun x=>by kernel_rfl)
def z1m.body:Go.Code:=Tryz.f100.body.getD .skip
def z1m.rs:List Go.ResultVar:=Tryz.f100.results.toList
def z1m.regs:List (Nat × RInfo):=[(0,ri [0] []),(1,ri [0,3] [8]),(2,ri [3,9,10,11] [8]),(3,⟨[3,9,10,11,12],[8],[],[],0,[3,9,10,11],[8],[],[],[]⟩),(4,ri [3,5,9,10,11] [5,8]),(5,rq [3,9,10,11] [8] 9),(6,ri [3,9,10,11] [8]),(7,ri [2] [8])]
def z1m.cx (k:Nat):Cx:=⟨tt,pp,[(60,packIntE),(62,(z1Y.e k))],z1m.regs,k,mm⟩
@[reducible] def z1m.sg:Sg:=⟨[.dat (.slc tUndo)],[],.dat .str,[]⟩
def z1m.f (k:Nat) (a0:Ty.D (.slc tUndo)):Option (Sg.Out z1m.sg):=Sg.fn z1m.sg (z1m.cx k) z1m.body z1m.rs a0
def z1m.l3 (k:Nat) (n:Nat) (x3:Ty.D .str) (x9:Ty.D (.slc tUndo)) (x10:Ty.D (.int .i64)) (x11:Ty.D (.int .i64)):Option (Sg.Out z1m.sg):=loopAt (z1m.cx k) z1m.body [1,1,0,1,0] 3 [3,9,10,11] [8] [] (Sg.K z1m.sg (z1m.cx k) z1m.rs) n ⟨[(3,.dat .str x3),(9,.dat (.slc tUndo) x9),(10,.dat (.int .i64) x10),(11,.dat (.int .i64) x11)],[]⟩
theorem z1m.f_eq (k:Nat) (a0:Ty.D (.slc tUndo)):z1m.f k a0=bnd (packI (ilen a0)) fun r0=>z1m.l3 k k r0 a0 (ilen a0) 0:=by kernel_rfl
theorem z1m.l3_eq (k:Nat) (n3:Nat) (x3:Ty.D .str) (x9:Ty.D (.slc tUndo)) (x10:Ty.D (.int .i64)) (x11:Ty.D (.int .i64)):z1m.l3 k (n3+1) x3 x9 x10 x11=br (ilt x11 x10) (br (inL x11 x9) (bnd (z1Y.f k ((rd tUndo x9 (natOf x11)).1)) fun r0=>bnd (packI ((rd tUndo x9 (natOf x11)).2)) fun r1=>br (roomS r0 r1) (br (roomS x3 (app r0 r1)) (z1m.l3 k n3 (app x3 (app r0 r1)) x9 x10 (iadd .i64 x11 1)) none) none) none) (some x3):=by kernel_rfl
def z1m.e (k:Nat):Entry:=Sg.entry z1m.sg fun x=>z1m.f k x
theorem z1m.ok (k:Nat):CallOK Tryz.prog 100 (z1m.e k):=fn_ok (c:=z1m.cx k) (code:=z1m.body) (TT.of tt_ok pp_ok mm_ok) (fns_ok ⟨packint_ok,(z1Y.ok k),trivial⟩) mixed Tryz.func100 (by kernel_rfl) (by kernel_rfl) (by kernel_rfl) (by kernel_rfl) (by kernel_rfl) (by kernel_rfl) (fun x=>by kernel_rfl)
def z1H.body:Go.Code:=Tryz.f101.body.getD .skip
def z1H.rs:List Go.ResultVar:=Tryz.f101.results.toList
def z1H.regs:List (Nat × RInfo):=[(0,ri [0] []),(1,ri [0,3] [8]),(2,ri [3,9,10,11] [8]),(3,⟨[3,9,10,11,12],[8],[],[],0,[3,9,10,11],[8],[],[],[]⟩),(4,ri [3,5,9,10,11] [5,8]),(5,ri [3,9,10,11] [8]),(6,ri [3,9,10,11] [8]),(7,ri [2] [8])]
def z1H.cx (k:Nat):Cx:=⟨tt,pp,[(60,packIntE),(62,(z1Y.e k))],z1H.regs,k,mm⟩
@[reducible] def z1H.sg:Sg:=⟨[.dat (.slc tDot)],[],.dat .str,[]⟩
def z1H.f (k:Nat) (a0:Ty.D (.slc tDot)):Option (Sg.Out z1H.sg):=Sg.fn z1H.sg (z1H.cx k) z1H.body z1H.rs a0
def z1H.l3 (k:Nat) (n:Nat) (x3:Ty.D .str) (x9:Ty.D (.slc tDot)) (x10:Ty.D (.int .i64)) (x11:Ty.D (.int .i64)):Option (Sg.Out z1H.sg):=loopAt (z1H.cx k) z1H.body [1,1,0,1,0] 3 [3,9,10,11] [8] [] (Sg.K z1H.sg (z1H.cx k) z1H.rs) n ⟨[(3,.dat .str x3),(9,.dat (.slc tDot) x9),(10,.dat (.int .i64) x10),(11,.dat (.int .i64) x11)],[]⟩
theorem z1H.f_eq (k:Nat) (a0:Ty.D (.slc tDot)):z1H.f k a0=bnd (packI (ilen a0)) fun r0=>z1H.l3 k k r0 a0 (ilen a0) 0:=by kernel_rfl
theorem z1H.l3_eq (k:Nat) (n3:Nat) (x3:Ty.D .str) (x9:Ty.D (.slc tDot)) (x10:Ty.D (.int .i64)) (x11:Ty.D (.int .i64)):z1H.l3 k (n3+1) x3 x9 x10 x11=br (ilt x11 x10) (br (inL x11 x9) (bnd (z1Y.f k (rd tDot x9 (natOf x11))) fun r0=>br (roomS x3 r0) (z1H.l3 k n3 (app x3 r0) x9 x10 (iadd .i64 x11 1)) none) none) (some x3):=by kernel_rfl
def z1H.e (k:Nat):Entry:=Sg.entry z1H.sg fun x=>z1H.f k x
theorem z1H.ok (k:Nat):CallOK Tryz.prog 101 (z1H.e k):=fn_ok (c:=z1H.cx k) (code:=z1H.body) (TT.of tt_ok pp_ok mm_ok) (fns_ok ⟨packint_ok,(z1Y.ok k),trivial⟩) mixed Tryz.func101 (by kernel_rfl) (by kernel_rfl) (by kernel_rfl) (by kernel_rfl) (by kernel_rfl) (by kernel_rfl) (fun x=>by kernel_rfl)
def z0y.body:Go.Code:=Tryz.f39.body.getD .skip
def z0y.rs:List Go.ResultVar:=Tryz.f39.results.toList
def z0y.regs:List (Nat × RInfo):=[(0,⟨[1],[1],[0],[],0,[],[],[],[],[]⟩),(1,rq [2] [] 11)]
def z0y.cx (k:Nat):Cx:=⟨tt,pp,[(99,(z1U.e k)),(100,(z1m.e k)),(101,(z1H.e k))],z0y.regs,k,mm⟩
@[reducible] def z0y.sg:Sg:=⟨[.dat tDelta],[],.dat .str,[]⟩
def z0y.f (k:Nat) (a0:Ty.D tDelta):Option (Sg.Out z0y.sg):=Sg.fn z0y.sg (z0y.cx k) z0y.body z0y.rs a0
theorem z0y.f_eq (k:Nat) (a0:Ty.D tDelta):z0y.f k a0=bnd (z1U.f k a0.1) fun r0=>bnd (z1m.f k a0.2.1) fun r1=>br (roomS r0 r1) (bnd (z1H.f k a0.2.2) fun r2=>br (roomS (app r0 r1) r2) (some (app (app r0 r1) r2)) none) none:=by kernel_rfl
def z0y.e (k:Nat):Entry:=Sg.entry z0y.sg fun x=>z0y.f k x
theorem z0y.ok (k:Nat):CallOK Tryz.prog 39 (z0y.e k):=fn_ok (c:=z0y.cx k) (code:=z0y.body) (TT.of tt_ok pp_ok mm_ok) (fns_ok ⟨(z1U.ok k),(z1m.ok k),(z1H.ok k),trivial⟩) mixed Tryz.func39 (by kernel_rfl) (by kernel_rfl) (by kernel_rfl) (by kernel_rfl) (by kernel_rfl) (by kernel_rfl) (fun x=>by kernel_rfl)
@[reducible] def vec_Code.sg:Sg:=⟨[.dat tVec],[],.dat .str,[]⟩
@[reducible] def dots_Code.sg:Sg:=⟨[.dat tDots],[],.dat .str,[]⟩
@[reducible] def state_Code.sg:Sg:=⟨[.dat tState],[],.dat .str,[]⟩
@[reducible] def record_Code.sg:Sg:=⟨[.dat tRecord],[],.dat .str,[]⟩
@[reducible] def ref23_Bare.sg:Sg:=⟨[.dat tRecord],[],.dat tRecord,[]⟩
@[reducible] def law23_RecordBack.sg:Sg:=⟨[.dat tRecord],[],.dat .bool,[]⟩
def z1d.body:Go.Code:=Tryz.f66.body.getD .skip
def z1d.rs:List Go.ResultVar:=Tryz.f66.results.toList
def z1d.regs:List (Nat × RInfo):=[(0,ri [1] [1]),(1,rq [2] [] 7)]
def z1d.cx (k:Nat):Cx:=⟨tt,pp,[(64,packIntE)],z1d.regs,k,mm⟩
@[reducible] def z1d.sg:Sg:=⟨[.dat tDot],[],.dat .str,[]⟩
def z1d.f (k:Nat) (a0:Ty.D tDot):Option (Sg.Out z1d.sg):=Sg.fn z1d.sg (z1d.cx k) z1d.body z1d.rs a0
theorem z1d.f_eq (k:Nat) (a0:Ty.D tDot):z1d.f k a0=bnd (packI a0.1) fun r0=>bnd (packI a0.2) fun r1=>br (roomS r0 r1) (some (app r0 r1)) none:=by kernel_rfl
def z1d.e (k:Nat):Entry:=Sg.entry z1d.sg fun x=>z1d.f k x
theorem z1d.ok (k:Nat):CallOK Tryz.prog 66 (z1d.e k):=fn_ok (c:=z1d.cx k) (code:=z1d.body) (TT.of tt_ok pp_ok mm_ok) (fns_ok ⟨rpackint_ok,trivial⟩) mixed Tryz.func66 (by kernel_rfl) (by kernel_rfl) (by kernel_rfl) (by kernel_rfl) (by kernel_rfl) (by kernel_rfl) (fun x=>by kernel_rfl)
def z19.body:Go.Code:=Tryz.f154.body.getD .skip
def z19.rs:List Go.ResultVar:=Tryz.f154.results.toList
def z19.regs:List (Nat × RInfo):=[(0,ri [0] []),(1,ri [2] [])]
def z19.cx (k:Nat):Cx:=⟨tt,pp,[(64,packIntE)],z19.regs,k,mm⟩
@[reducible] def z19.sg:Sg:=⟨[.dat .str],[],.dat .str,[]⟩
def z19.f (k:Nat) (a0:Ty.D .str):Option (Sg.Out z19.sg):=Sg.fn z19.sg (z19.cx k) z19.body z19.rs a0
theorem z19.f_eq (k:Nat) (a0:Ty.D .str):z19.f k a0=bnd (packI (ilen a0)) fun r0=>br (roomS r0 a0) (some (app r0 a0)) none:=by kernel_rfl
def z19.e (k:Nat):Entry:=Sg.entry z19.sg fun x=>z19.f k x
theorem z19.ok (k:Nat):CallOK Tryz.prog 154 (z19.e k):=fn_ok (c:=z19.cx k) (code:=z19.body) (TT.of tt_ok pp_ok mm_ok) (fns_ok ⟨rpackint_ok,trivial⟩) mixed Tryz.func154 (by kernel_rfl) (by kernel_rfl) (by kernel_rfl) (by kernel_rfl) (by kernel_rfl) (by kernel_rfl) (fun x=>by kernel_rfl)
def z1p.body:Go.Code:=Tryz.f198.body.getD .skip
def z1p.rs:List Go.ResultVar:=Tryz.f198.results.toList
def z1p.regs:List (Nat × RInfo):=[(0,ri [0] []),(1,ri [0,3] [7]),(2,ri [0,3,4] [7]),(3,⟨[0,3,4,11],[7],[],[],0,[0,3,4],[7],[],[],[]⟩),(5,ri [0,3,4] [7]),(4,ri [0,3,4] [7]),(6,ri [2] [7])]
def z1p.cx (k:Nat):Cx:=⟨tt,pp,[(64,packIntE),(154,(z19.e k))],z1p.regs,k,mm⟩
@[reducible] def z1p.sg:Sg:=⟨[.dat (.slc .str)],[],.dat .str,[]⟩
def z1p.f (k:Nat) (a0:Ty.D (.slc .str)):Option (Sg.Out z1p.sg):=Sg.fn z1p.sg (z1p.cx k) z1p.body z1p.rs a0
def z1p.l3 (k:Nat) (n:Nat) (x0:Ty.D (.slc .str)) (x3:Ty.D .str) (x4:Ty.D (.int .i64)):Option (Sg.Out z1p.sg):=loopAt (z1p.cx k) z1p.body [1,1,0,1,0] 3 [0,3,4] [7] [] (Sg.K z1p.sg (z1p.cx k) z1p.rs) n ⟨[(0,.dat (.slc .str) x0),(3,.dat .str x3),(4,.dat (.int .i64) x4)],[]⟩
theorem z1p.f_eq (k:Nat) (a0:Ty.D (.slc .str)):z1p.f k a0=bnd (packI (ilen a0)) fun r0=>z1p.l3 k k a0 r0 0:=by kernel_rfl
theorem z1p.l3_eq (k:Nat) (n3:Nat) (x0:Ty.D (.slc .str)) (x3:Ty.D .str) (x4:Ty.D (.int .i64)):z1p.l3 k (n3+1) x0 x3 x4=br (ilt x4 (ilen x0)) (br (inL x4 x0) (bnd (z19.f k (rd .str x0 (natOf x4))) fun r0=>br (roomS x3 r0) (z1p.l3 k n3 x0 (app x3 r0) (iadd .i64 x4 1)) none) none) (some x3):=by kernel_rfl
def z1p.e (k:Nat):Entry:=Sg.entry z1p.sg fun x=>z1p.f k x
theorem z1p.ok (k:Nat):CallOK Tryz.prog 198 (z1p.e k):=fn_ok (c:=z1p.cx k) (code:=z1p.body) (TT.of tt_ok pp_ok mm_ok) (fns_ok ⟨rpackint_ok,(z19.ok k),trivial⟩) mixed Tryz.func198 (by kernel_rfl) (by kernel_rfl) (by kernel_rfl) (by kernel_rfl) (by kernel_rfl) (by kernel_rfl) (fun x=>by kernel_rfl)
def z0Z.body:Go.Code:=Tryz.f199.body.getD .skip
def z0Z.rs:List Go.ResultVar:=Tryz.f199.results.toList
def z0Z.regs:List (Nat × RInfo):=[(0,ri [0] []),(1,ri [0,4] []),(2,ri [2] []),(3,ri [2] [])]
def z0Z.cx (k:Nat):Cx:=⟨tt,pp,[],z0Z.regs,k,mm⟩
@[reducible] def z0Z.sg:Sg:=⟨[.dat (.int .i64)],[],.dat (.int .i64),[]⟩
def z0Z.f (k:Nat) (a0:Ty.D (.int .i64)):Option (Sg.Out z0Z.sg):=Sg.fn z0Z.sg (z0Z.cx k) z0Z.body z0Z.rs a0
theorem z0Z.f_eq (k:Nat) (a0:Ty.D (.int .i64)):z0Z.f k a0=br (ilt a0 0) (some (isub .i64 (isub .i64 (isub .i64 0 a0) a0) 1)) (some (iadd .i64 a0 a0)):=by kernel_rfl
def z0Z.e (k:Nat):Entry:=Sg.entry z0Z.sg fun x=>z0Z.f k x
theorem z0Z.ok (k:Nat):CallOK Tryz.prog 199 (z0Z.e k):=fn_ok (c:=z0Z.cx k) (code:=z0Z.body) (TT.of tt_ok pp_ok mm_ok) (fns_ok trivial) mixed Tryz.func199 (by kernel_rfl) (by kernel_rfl) (by kernel_rfl) (by kernel_rfl) (by kernel_rfl) (by kernel_rfl) (fun x=>by kernel_rfl)
def z1c.body:Go.Code:=Tryz.f200.body.getD .skip
def z1c.rs:List Go.ResultVar:=Tryz.f200.results.toList
def z1c.regs:List (Nat × RInfo):=[(0,ri [1] [1]),(1,ri [1,5] [1]),(2,rq [2] [] 5),(3,rq [2] [] 8)]
def z1c.cx (k:Nat):Cx:=⟨tt,pp,[(64,packIntE),(154,(z19.e k)),(199,(z0Z.e k))],z1c.regs,k,mm⟩
@[reducible] def z1c.sg:Sg:=⟨[.dat tValue],[],.dat .str,[]⟩
def z1c.f (k:Nat) (a0:Ty.D tValue):Option (Sg.Out z1c.sg):=Sg.fn z1c.sg (z1c.cx k) z1c.body z1c.rs a0
theorem z1c.f_eq (k:Nat) (a0:Ty.D tValue):z1c.f k a0=br (ieq a0.1 2) (bnd (packI 2) fun r0=>bnd (z19.f k a0.2.2) fun r1=>br (roomS r0 r1) (some (app r0 r1)) none) (bnd (packI a0.1) fun r2=>bnd (z0Z.f k a0.2.1) fun r3=>bnd (packI r3) fun r4=>br (roomS r2 r4) (some (app r2 r4)) none):=by kernel_rfl
def z1c.e (k:Nat):Entry:=Sg.entry z1c.sg fun x=>z1c.f k x
theorem z1c.ok (k:Nat):CallOK Tryz.prog 200 (z1c.e k):=fn_ok (c:=z1c.cx k) (code:=z1c.body) (TT.of tt_ok pp_ok mm_ok) (fns_ok ⟨rpackint_ok,(z19.ok k),(z0Z.ok k),trivial⟩) mixed Tryz.func200 (by kernel_rfl) (by kernel_rfl) (by kernel_rfl) (by kernel_rfl) (by kernel_rfl) (by kernel_rfl) (fun x=>by kernel_rfl)
def z1o.body:Go.Code:=Tryz.f146.body.getD .skip
def z1o.rs:List Go.ResultVar:=Tryz.f146.results.toList
def z1o.regs:List (Nat × RInfo):=[(0,⟨[1],[1],[0],[],0,[],[],[],[],[]⟩),(1,ri [1,3] [1,7]),(2,ri [1,3,9] [1,7,9]),(3,ri [2] [7]),(4,ri [1,3] [1,7]),(5,ri [1,3,18] [1,7]),(6,ri [2] [7]),(7,ri [1,3,27] [1,7]),(8,ri [1,3] [1,7]),(9,ri [1,3,35] [1,7]),(10,ri [2] [7]),(11,ri [1,3] [1,7]),(12,ri [1,3,4] [1,7]),(13,⟨[1,3,4,47],[1,7],[],[],0,[1,3,4],[1,7],[],[],[]⟩),(15,rq [1,3,4] [1,7] 17),(14,ri [1,3,4] [1,7]),(16,ri [2] [7])]
def z1o.cx (k:Nat):Cx:=⟨tt,pp,[(64,packIntE),(116,(z1i.e k)),(198,(z1p.e k)),(199,(z0Z.e k)),(200,(z1c.e k)),(66,(z1d.e k))],z1o.regs,k,mm⟩
@[reducible] def z1o.sg:Sg:=⟨[.dat tOp],[],.dat .str,[]⟩
def z1o.f (k:Nat) (a0:Ty.D tOp):Option (Sg.Out z1o.sg):=Sg.fn z1o.sg (z1o.cx k) z1o.body z1o.rs a0
def z1o.l13 (k:Nat) (n:Nat) (x3:Ty.D .str) (x4:Ty.D (.int .i64)) (m1:Ty.D tOp):Option (Sg.Out z1o.sg):=loopAt (z1o.cx k) z1o.body [1,1,1,1,1,1,1,1,0,1,0] 13 [1,3,4] [1,7] [] (Sg.K z1o.sg (z1o.cx k) z1o.rs) n ⟨[(1,.ref 1 []),(3,.dat .str x3),(4,.dat (.int .i64) x4)],[(1,.dat tOp m1)]⟩
theorem z1o.f_eq (k:Nat) (a0:Ty.D tOp):z1o.f k a0=bnd (packI a0.1) fun r0=>bnd (z1i.f k a0) fun r1=>br r1 (some r0) (bnd (z1p.f k a0.2.1) fun r2=>br (roomS r0 r2) (br (ieq a0.1 3) (bnd (z0Z.f k a0.2.2.2.1) fun r3=>bnd (packI r3) fun r4=>br (roomS (app r0 r2) r4) (some (app (app r0 r2) r4)) none) (br (bnot (ieq a0.1 5)) (bnd (z1c.f k a0.2.2.1) fun r5=>br (roomS (app r0 r2) r5) (br (ieq a0.1 2) (some (app (app r0 r2) r5)) (bnd (packI (ilen a0.2.2.2.2)) fun r6=>br (roomS (app (app r0 r2) r5) r6) (z1o.l13 k k (app (app (app r0 r2) r5) r6) 0 a0) none)) none) (br (ieq a0.1 2) (some (app r0 r2)) (bnd (packI (ilen a0.2.2.2.2)) fun r7=>br (roomS (app r0 r2) r7) (z1o.l13 k k (app (app r0 r2) r7) 0 a0) none)))) none):=by kernel_rfl
theorem z1o.l13_eq (k:Nat) (n13:Nat) (x3:Ty.D .str) (x4:Ty.D (.int .i64)) (m1:Ty.D tOp):z1o.l13 k (n13+1) x3 x4 m1=br (ilt x4 (ilen m1.2.2.2.2)) (br (inL x4 m1.2.2.2.2) (bnd (z1d.f k ((rd tUndo m1.2.2.2.2 (natOf x4)).1)) fun r0=>br (roomS x3 r0) (br (inL x4 m1.2.2.2.2) (bnd (packI ((rd tUndo m1.2.2.2.2 (natOf x4)).2)) fun r1=>br (roomS (app x3 r0) r1) (z1o.l13 k n13 (app (app x3 r0) r1) (iadd .i64 x4 1) m1) none) none) none) none) (some x3):=by kernel_rfl
def z1o.e (k:Nat):Entry:=Sg.entry z1o.sg fun x=>z1o.f k x
theorem z1o.ok (k:Nat):CallOK Tryz.prog 146 (z1o.e k):=fn_ok (c:=z1o.cx k) (code:=z1o.body) (TT.of tt_ok pp_ok mm_ok) (fns_ok ⟨rpackint_ok,(z1i.ok k),(z1p.ok k),(z0Z.ok k),(z1c.ok k),(z1d.ok k),trivial⟩) mixed Tryz.func146 (by kernel_rfl) (by kernel_rfl) (by kernel_rfl) (by kernel_rfl) (by kernel_rfl) (by kernel_rfl) (fun x=>by kernel_rfl)
def z16.body:Go.Code:=Tryz.f65.body.getD .skip
def z16.rs:List Go.ResultVar:=Tryz.f65.results.toList
def z16.regs:List (Nat × RInfo):=[(0,⟨[1],[1],[0],[],0,[],[],[],[],[]⟩),(1,rq [1,3] [1] 11),(2,ri [1,3,17] [1]),(3,ri [1,3] [1]),(4,ri [1,3] [1]),(5,ri [1,3] [1]),(6,ri [1,3,4] [1]),(7,⟨[1,3,4,34],[1],[],[],0,[1,3,4],[1],[],[],[]⟩),(9,ri [1,3,4] [1]),(8,ri [1,3,4] [1]),(10,ri [2] [])]
def z16.cx (k:Nat):Cx:=⟨tt,pp,[(66,(z1d.e k)),(64,packIntE),(146,(z1o.e k))],z16.regs,k,mm⟩
@[reducible] def z16.sg:Sg:=⟨[.dat tTxn],[],.dat .str,[]⟩
def z16.f (k:Nat) (a0:Ty.D tTxn):Option (Sg.Out z16.sg):=Sg.fn z16.sg (z16.cx k) z16.body z16.rs a0
def z16.l7 (k:Nat) (n:Nat) (x3:Ty.D .str) (x4:Ty.D (.int .i64)) (m1:Ty.D tTxn):Option (Sg.Out z16.sg):=loopAt (z16.cx k) z16.body [1,1,1,1,0,1,0] 7 [1,3,4] [1] [] (Sg.K z16.sg (z16.cx k) z16.rs) n ⟨[(1,.ref 1 []),(3,.dat .str x3),(4,.dat (.int .i64) x4)],[(1,.dat tTxn m1)]⟩
theorem z16.f_eq (k:Nat) (a0:Ty.D tTxn):z16.f k a0=bnd (z1d.f k a0.1) fun r0=>bnd (packI a0.2.1) fun r1=>br (roomS r0 r1) (bnd (packI a0.2.2.1) fun r2=>br (roomS (app r0 r1) r2) (br a0.2.2.2.1 (bnd (packI 1) fun r3=>br (roomS (app (app r0 r1) r2) r3) (bnd (packI (ilen a0.2.2.2.2)) fun r4=>br (roomS (app (app (app r0 r1) r2) r3) r4) (z16.l7 k k (app (app (app (app r0 r1) r2) r3) r4) 0 a0) none) none) (bnd (packI 0) fun r5=>br (roomS (app (app r0 r1) r2) r5) (bnd (packI (ilen a0.2.2.2.2)) fun r6=>br (roomS (app (app (app r0 r1) r2) r5) r6) (z16.l7 k k (app (app (app (app r0 r1) r2) r5) r6) 0 a0) none) none)) none) none:=by kernel_rfl
theorem z16.l7_eq (k:Nat) (n7:Nat) (x3:Ty.D .str) (x4:Ty.D (.int .i64)) (m1:Ty.D tTxn):z16.l7 k (n7+1) x3 x4 m1=br (ilt x4 (ilen m1.2.2.2.2)) (br (inL x4 m1.2.2.2.2) (bnd (z1o.f k (rd tOp m1.2.2.2.2 (natOf x4))) fun r0=>br (roomS x3 r0) (z16.l7 k n7 (app x3 r0) (iadd .i64 x4 1) m1) none) none) (some x3):=by kernel_rfl
def z16.e (k:Nat):Entry:=Sg.entry z16.sg fun x=>z16.f k x
theorem z16.ok (k:Nat):CallOK Tryz.prog 65 (z16.e k):=fn_ok (c:=z16.cx k) (code:=z16.body) (TT.of tt_ok pp_ok mm_ok) (fns_ok ⟨(z1d.ok k),rpackint_ok,(z1o.ok k),trivial⟩) mixed Tryz.func65 (by kernel_rfl) (by kernel_rfl) (by kernel_rfl) (by kernel_rfl) (by kernel_rfl) (by kernel_rfl) (fun x=>by kernel_rfl)
end Go.Proofs.YtggcagclpkhlhaaGreatDoor
end
noncomputable section
/- The program's functions, as plain equations. -/
namespace Go.Proofs.YtggcagclpkhlhaaGreatDoor
open Pal
set_option maxRecDepth 100000
def z10.body:Go.Code:=Tryz.f102.body.getD .skip
def z10.rs:List Go.ResultVar:=Tryz.f102.results.toList
def z10.regs:List (Nat × RInfo):=[(0,ri [0] []),(1,ri [0,3] [7]),(2,ri [0,3,4] [7]),(3,⟨[0,3,4,11],[7],[],[],0,[0,3,4],[7],[],[],[]⟩),(5,ri [0,3,4] [7]),(4,ri [0,3,4] [7]),(6,ri [2] [7])]
def z10.cx (k:Nat):Cx:=⟨tt,pp,[(64,packIntE),(65,(z16.e k))],z10.regs,k,mm⟩
@[reducible] def z10.sg:Sg:=⟨[.dat (.slc tTxn)],[],.dat .str,[]⟩
def z10.f (k:Nat) (a0:Ty.D (.slc tTxn)):Option (Sg.Out z10.sg):=Sg.fn z10.sg (z10.cx k) z10.body z10.rs a0
def z10.l3 (k:Nat) (n:Nat) (x0:Ty.D (.slc tTxn)) (x3:Ty.D .str) (x4:Ty.D (.int .i64)):Option (Sg.Out z10.sg):=loopAt (z10.cx k) z10.body [1,1,0,1,0] 3 [0,3,4] [7] [] (Sg.K z10.sg (z10.cx k) z10.rs) n ⟨[(0,.dat (.slc tTxn) x0),(3,.dat .str x3),(4,.dat (.int .i64) x4)],[]⟩
theorem z10.f_eq (k:Nat) (a0:Ty.D (.slc tTxn)):z10.f k a0=bnd (packI (ilen a0)) fun r0=>z10.l3 k k a0 r0 0:=by kernel_rfl
theorem z10.l3_eq (k:Nat) (n3:Nat) (x0:Ty.D (.slc tTxn)) (x3:Ty.D .str) (x4:Ty.D (.int .i64)):z10.l3 k (n3+1) x0 x3 x4=br (ilt x4 (ilen x0)) (br (inL x4 x0) (bnd (z16.f k (rd tTxn x0 (natOf x4))) fun r0=>br (roomS x3 r0) (z10.l3 k n3 x0 (app x3 r0) (iadd .i64 x4 1)) none) none) (some x3):=by kernel_rfl
def z10.e (k:Nat):Entry:=Sg.entry z10.sg fun x=>z10.f k x
theorem z10.ok (k:Nat):CallOK Tryz.prog 102 (z10.e k):=fn_ok (c:=z10.cx k) (code:=z10.body) (TT.of tt_ok pp_ok mm_ok) (fns_ok ⟨rpackint_ok,(z16.ok k),trivial⟩) mixed Tryz.func102 (by kernel_rfl) (by kernel_rfl) (by kernel_rfl) (by kernel_rfl) (by kernel_rfl) (by kernel_rfl) (fun x=>by kernel_rfl)
def z1v.body:Go.Code:=Tryz.f103.body.getD .skip
def z1v.rs:List Go.ResultVar:=Tryz.f103.results.toList
def z1v.regs:List (Nat × RInfo):=[(0,ri [0] []),(1,ri [0,3] [7]),(2,ri [0,3,4] [7]),(3,⟨[0,3,4,11],[7],[],[],0,[0,3,4],[7],[],[],[]⟩),(5,rq [0,3,4] [7] 15),(4,ri [0,3,4] [7]),(6,ri [2] [7])]
def z1v.cx (k:Nat):Cx:=⟨tt,pp,[(64,packIntE),(66,(z1d.e k))],z1v.regs,k,mm⟩
@[reducible] def z1v.sg:Sg:=⟨[.dat (.slc tUndo)],[],.dat .str,[]⟩
def z1v.f (k:Nat) (a0:Ty.D (.slc tUndo)):Option (Sg.Out z1v.sg):=Sg.fn z1v.sg (z1v.cx k) z1v.body z1v.rs a0
def z1v.l3 (k:Nat) (n:Nat) (x0:Ty.D (.slc tUndo)) (x3:Ty.D .str) (x4:Ty.D (.int .i64)):Option (Sg.Out z1v.sg):=loopAt (z1v.cx k) z1v.body [1,1,0,1,0] 3 [0,3,4] [7] [] (Sg.K z1v.sg (z1v.cx k) z1v.rs) n ⟨[(0,.dat (.slc tUndo) x0),(3,.dat .str x3),(4,.dat (.int .i64) x4)],[]⟩
theorem z1v.f_eq (k:Nat) (a0:Ty.D (.slc tUndo)):z1v.f k a0=bnd (packI (ilen a0)) fun r0=>z1v.l3 k k a0 r0 0:=by kernel_rfl
theorem z1v.l3_eq (k:Nat) (n3:Nat) (x0:Ty.D (.slc tUndo)) (x3:Ty.D .str) (x4:Ty.D (.int .i64)):z1v.l3 k (n3+1) x0 x3 x4=br (ilt x4 (ilen x0)) (br (inL x4 x0) (bnd (z1d.f k ((rd tUndo x0 (natOf x4)).1)) fun r0=>br (roomS x3 r0) (br (inL x4 x0) (bnd (packI ((rd tUndo x0 (natOf x4)).2)) fun r1=>br (roomS (app x3 r0) r1) (z1v.l3 k n3 x0 (app (app x3 r0) r1) (iadd .i64 x4 1)) none) none) none) none) (some x3):=by kernel_rfl
def z1v.e (k:Nat):Entry:=Sg.entry z1v.sg fun x=>z1v.f k x
theorem z1v.ok (k:Nat):CallOK Tryz.prog 103 (z1v.e k):=fn_ok (c:=z1v.cx k) (code:=z1v.body) (TT.of tt_ok pp_ok mm_ok) (fns_ok ⟨rpackint_ok,(z1d.ok k),trivial⟩) mixed Tryz.func103 (by kernel_rfl) (by kernel_rfl) (by kernel_rfl) (by kernel_rfl) (by kernel_rfl) (by kernel_rfl) (fun x=>by kernel_rfl)
def z17.body:Go.Code:=Tryz.f104.body.getD .skip
def z17.rs:List Go.ResultVar:=Tryz.f104.results.toList
def z17.regs:List (Nat × RInfo):=[(0,ri [0] []),(1,ri [0,3] [7]),(2,ri [0,3,4] [7]),(3,⟨[0,3,4,11],[7],[],[],0,[0,3,4],[7],[],[],[]⟩),(5,ri [0,3,4] [7]),(4,ri [0,3,4] [7]),(6,ri [2] [7])]
def z17.cx (k:Nat):Cx:=⟨tt,pp,[(64,packIntE),(66,(z1d.e k))],z17.regs,k,mm⟩
@[reducible] def z17.sg:Sg:=⟨[.dat (.slc tDot)],[],.dat .str,[]⟩
def z17.f (k:Nat) (a0:Ty.D (.slc tDot)):Option (Sg.Out z17.sg):=Sg.fn z17.sg (z17.cx k) z17.body z17.rs a0
def z17.l3 (k:Nat) (n:Nat) (x0:Ty.D (.slc tDot)) (x3:Ty.D .str) (x4:Ty.D (.int .i64)):Option (Sg.Out z17.sg):=loopAt (z17.cx k) z17.body [1,1,0,1,0] 3 [0,3,4] [7] [] (Sg.K z17.sg (z17.cx k) z17.rs) n ⟨[(0,.dat (.slc tDot) x0),(3,.dat .str x3),(4,.dat (.int .i64) x4)],[]⟩
theorem z17.f_eq (k:Nat) (a0:Ty.D (.slc tDot)):z17.f k a0=bnd (packI (ilen a0)) fun r0=>z17.l3 k k a0 r0 0:=by kernel_rfl
theorem z17.l3_eq (k:Nat) (n3:Nat) (x0:Ty.D (.slc tDot)) (x3:Ty.D .str) (x4:Ty.D (.int .i64)):z17.l3 k (n3+1) x0 x3 x4=br (ilt x4 (ilen x0)) (br (inL x4 x0) (bnd (z1d.f k (rd tDot x0 (natOf x4))) fun r0=>br (roomS x3 r0) (z17.l3 k n3 x0 (app x3 r0) (iadd .i64 x4 1)) none) none) (some x3):=by kernel_rfl
def z17.e (k:Nat):Entry:=Sg.entry z17.sg fun x=>z17.f k x
theorem z17.ok (k:Nat):CallOK Tryz.prog 104 (z17.e k):=fn_ok (c:=z17.cx k) (code:=z17.body) (TT.of tt_ok pp_ok mm_ok) (fns_ok ⟨rpackint_ok,(z1d.ok k),trivial⟩) mixed Tryz.func104 (by kernel_rfl) (by kernel_rfl) (by kernel_rfl) (by kernel_rfl) (by kernel_rfl) (by kernel_rfl) (fun x=>by kernel_rfl)
def z0Q.body:Go.Code:=Tryz.f40.body.getD .skip
def z0Q.rs:List Go.ResultVar:=Tryz.f40.results.toList
def z0Q.regs:List (Nat × RInfo):=[(0,⟨[1],[1],[0],[],0,[],[],[],[],[]⟩),(1,rq [2] [] 11)]
def z0Q.cx (k:Nat):Cx:=⟨tt,pp,[(102,(z10.e k)),(103,(z1v.e k)),(104,(z17.e k))],z0Q.regs,k,mm⟩
@[reducible] def z0Q.sg:Sg:=⟨[.dat tDelta],[],.dat .str,[]⟩
def z0Q.f (k:Nat) (a0:Ty.D tDelta):Option (Sg.Out z0Q.sg):=Sg.fn z0Q.sg (z0Q.cx k) z0Q.body z0Q.rs a0
theorem z0Q.f_eq (k:Nat) (a0:Ty.D tDelta):z0Q.f k a0=bnd (z10.f k a0.1) fun r0=>bnd (z1v.f k a0.2.1) fun r1=>br (roomS r0 r1) (bnd (z17.f k a0.2.2) fun r2=>br (roomS (app r0 r1) r2) (some (app (app r0 r1) r2)) none) none:=by kernel_rfl
def z0Q.e (k:Nat):Entry:=Sg.entry z0Q.sg fun x=>z0Q.f k x
theorem z0Q.ok (k:Nat):CallOK Tryz.prog 40 (z0Q.e k):=fn_ok (c:=z0Q.cx k) (code:=z0Q.body) (TT.of tt_ok pp_ok mm_ok) (fns_ok ⟨(z10.ok k),(z1v.ok k),(z17.ok k),trivial⟩) mixed Tryz.func40 (by kernel_rfl) (by kernel_rfl) (by kernel_rfl) (by kernel_rfl) (by kernel_rfl) (by kernel_rfl) (fun x=>by kernel_rfl)
def z07.body:Go.Code:=Tryz.f6.body.getD .skip
def z07.rs:List Go.ResultVar:=Tryz.f6.results.toList
def z07.regs:List (Nat × RInfo):=[(0,⟨[0,3],[3],[0],[],0,[],[],[],[],[]⟩),(1,ri [0,3,11] [3]),(2,ri [0,3] [3]),(3,ri [0,3,5] [3,15]),(4,ri [3,5,6] [3,15,18]),(5,⟨[3,40],[3],[],[],22,[],[],[],[[],[],[],[1],[1,3],[1,3],[1,3],[1,3],[1,3],[1,3],[1,3],[1,3],[1,3],[8,1,3,12],[1,3,8,12],[1,3,8,12],[1,3,8,12],[1,3,8,12],[1,3,8,12],[1,3,8,12,17],[17,1,3,8,12,19],[1,3,8,12,17,19]],[]⟩),(6,ri [4] [49,62,70]),(7,ri [3,48] [3]),(8,ri [4] [49,62,70]),(9,ri [3,7] [3,51]),(10,ri [3,7,8] [3,51,53]),(11,⟨[4],[49,62,70],[],[],18,[],[],[],[[],[],[1],[1],[1],[1],[1],[1],[6,1,7],[1,6,7],[1,6,7],[1,6,7],[1,6,7],[12,1,6,7],[1,6,7,12],[1,6,7,12],[1,6,7,12],[1,6,7,12],[1,6,7,12]],[]⟩)]
def z07.cx (k:Nat):Cx:=⟨tt,pp,[(30,(z1C.e k)),(32,(z0e.e k)),(33,(z0q.e k)),(31,(z0p.e k)),(34,(z09.e k)),(35,(z0d.e k)),(36,(z0a.e k)),(37,(z0i.e k)),(38,(z0j.e k)),(11,(z0T.e k)),(39,(z0y.e k)),(40,(z0Q.e k)),(41,(z0o.e k))],z07.regs,k,mm⟩
@[reducible] def z07.sg:Sg:=⟨[.dat .str,.dat tDelta],[],.dat .bool,[]⟩
def z07.f (k:Nat) (a0:Ty.D .str) (a1:Ty.D tDelta):Option (Sg.Out z07.sg):=Sg.fn z07.sg (z07.cx k) z07.body z07.rs (a0,a1)
theorem z07.f_eq (k:Nat) (a0:Ty.D .str) (a1:Ty.D tDelta):z07.f k a0 a1=br (ilt 600 (ilen a0)) (br (inS 0 600 (ilen a0)) (bnd (z1C.f k (piece a0 0 600)) fun r0=>bnd (z0e.f k r0.2) fun r1=>bnd (z0q.f k ((piece a0 0 600),(0,0))) fun r2=>bnd (z0p.f k r1.1 r2.1) fun r3=>br (bnot r3) (some false) (bnd (z09.f k r1.2) fun r4=>br (bnot (ieq r4.1 r2.2.2.2)) (some false) (bnd (z0d.f k r4.2) fun r5=>bnd (z0a.f k r2.2) fun r6=>br (bnot (ieq r5.1 r6.1)) (some false) (bnd (z0i.f k a1) fun r7=>br (bnot r7) (bnd (z0T.f k) fun r8=>some r8) (bnd (z0j.f k a1) fun r9=>br (bnot r9) (bnd (z0T.f k) fun r10=>some r10) (bnd (z0y.f k a1) fun r11=>bnd (z1C.f k r11) fun r12=>bnd (z0Q.f k a1) fun r13=>br (seq r11 r13) (bnd (z0e.f k r12.2) fun r14=>bnd (z0p.f k r14.1 a1) fun r15=>br r15 (bnd (z0o.f k r14.2) fun r16=>br (ieq r16.1 0) (bnd (z0T.f k) fun r17=>some r17) (some false)) (some false)) (some false))))))) none) (bnd (z1C.f k a0) fun r18=>bnd (z0e.f k r18.2) fun r19=>bnd (z0q.f k (a0,(0,0))) fun r20=>bnd (z0p.f k r19.1 r20.1) fun r21=>br (bnot r21) (some false) (bnd (z09.f k r19.2) fun r22=>br (bnot (ieq r22.1 r20.2.2.2)) (some false) (bnd (z0d.f k r22.2) fun r23=>bnd (z0a.f k r20.2) fun r24=>br (bnot (ieq r23.1 r24.1)) (some false) (bnd (z0i.f k a1) fun r25=>br (bnot r25) (bnd (z0T.f k) fun r26=>some r26) (bnd (z0j.f k a1) fun r27=>br (bnot r27) (bnd (z0T.f k) fun r28=>some r28) (bnd (z0y.f k a1) fun r29=>bnd (z1C.f k r29) fun r30=>bnd (z0Q.f k a1) fun r31=>br (seq r29 r31) (bnd (z0e.f k r30.2) fun r32=>bnd (z0p.f k r32.1 a1) fun r33=>br r33 (bnd (z0o.f k r32.2) fun r34=>br (ieq r34.1 0) (bnd (z0T.f k) fun r35=>some r35) (some false)) (some false)) (some false))))))):=by kernel_rfl
def z07.e (k:Nat):Entry:=Sg.entry z07.sg fun x=>z07.f k x.1 x.2
theorem z07.ok (k:Nat):CallOK Tryz.prog 6 (z07.e k):=fn_ok (c:=z07.cx k) (code:=z07.body) (TT.of tt_ok pp_ok mm_ok) (fns_ok ⟨(z1C.ok k),(z0e.ok k),(z0q.ok k),(z0p.ok k),(z09.ok k),(z0d.ok k),(z0a.ok k),(z0i.ok k),(z0j.ok k),(z0T.ok k),(z0y.ok k),(z0Q.ok k),(z0o.ok k),trivial⟩) mixed Tryz.func6 (by kernel_rfl) (by kernel_rfl) (by kernel_rfl) (by kernel_rfl) (by kernel_rfl) (by kernel_rfl) (fun x=>by kernel_rfl)
@[reducible] def ref22_Good.sg:Sg:=⟨[.dat tState],[],.dat .bool,[]⟩
@[reducible] def ref05_Code.sg:Sg:=⟨[.dat tVec],[],.dat .str,[]⟩
@[reducible] def ref06_Code.sg:Sg:=⟨[.dat tDots],[],.dat .str,[]⟩
@[reducible] def ref22_Code.sg:Sg:=⟨[.dat tState],[],.dat .str,[]⟩
@[reducible] def ref23_Code.sg:Sg:=⟨[.dat tRecord],[],.dat .str,[]⟩
@[reducible] def ref12_Find.sg:Sg:=⟨[.dat (.slc tTxn),.dat tDot],[],.dat (.int .i64),[]⟩
@[reducible] def ref12_Put.sg:Sg:=⟨[.dat (.slc tTxn),.dat tTxn],[],.dat (.slc tTxn),[]⟩
@[reducible] def ref22_Put.sg:Sg:=⟨[.dat tState,.dat tTxn],[],.dat tState,[]⟩
@[reducible] def ref08_Get.sg:Sg:=⟨[.dat (.slc tUndo),.dat tDot],[],.dat (.int .i64),[]⟩
@[reducible] def ref08_Put.sg:Sg:=⟨[.dat (.slc tUndo),.dat tUndo],[],.dat (.slc tUndo),[]⟩
@[reducible] def ref08_Join.sg:Sg:=⟨[.dat (.slc tUndo),.dat (.slc tUndo)],[],.dat (.slc tUndo),[]⟩
@[reducible] def ref22_Raise.sg:Sg:=⟨[.dat tState,.dat (.slc tUndo)],[],.dat tState,[]⟩
@[reducible] def ref22_Seal.sg:Sg:=⟨[.dat tState,.dat (.slc tDot)],[],.dat tState,[]⟩
@[reducible] def ref23_Merged.sg:Sg:=⟨[.dat tState,.dat tDelta],[],.dat tState,[]⟩
@[reducible] def ref23_Done.sg:Sg:=⟨[.dat tState,.dat tRecord],[],.dat tState,[]⟩
@[reducible] def law23_RecordTells.sg:Sg:=⟨[.dat tState,.dat tRecord],[],.dat .bool,[]⟩
end Go.Proofs.YtggcagclpkhlhaaGreatDoor
end
noncomputable section
/- Sets of dots: one way to stand. -/
namespace Go.Proofs.YtggcagclpkhlhaaGreatDoor
open Pal
abbrev Vec:=List Int
abbrev DSet:=Vec × List Dot
def vat (v:Vec) (r:Int):Int:=rd (.int .i64) v (natOf r)
structure VOk (v:Vec):Prop where
 len:v.length=16
 lo:∀ r,0≤r→r<16→0≤vat v r
 hi:∀ r,0≤r→r<16→vat v r≤1048576
structure Can (s:DSet):Prop where
 vok:VOk s.1
 rt:∀ d ∈ s.2,rightD d=true
 gap:∀ d ∈ s.2,vat s.1 d.1+1<d.2
 srt:s.2.Pairwise (fun a b=>dotLt a b=true)
def put1 (s:DSet) (d:Dot):DSet :=
 if d.2≤vat s.1 d.1 then s else if d.2=vat s.1 d.1+1 then (upd s.1 (natOf d.1) d.2,s.2) else if s.2.getLast? = some d then s else (s.1,s.2++[d])
def mk (v:Vec) (l:List Dot):DSet:=l.foldl put1 (v,[])
end Go.Proofs.YtggcagclpkhlhaaGreatDoor
end
noncomputable section
/- What the functions of the layer of dots compute. -/
namespace Go.Proofs.YtggcagclpkhlhaaGreatDoor
open Pal
theorem iadd_s {a b:Int} (h1:-1000000000000≤a) (h2:a≤1000000000000) (h3:-1000000000000≤b) (h4:b≤1000000000000):iadd .i64 a b=a+b:=by
 have e1:((2:Int) ^ 63)=9223372036854775808:=by decide
 show IntKind.wrap .i64 (a+b)=_
 rw [wrap_i64 (by rw [e1];omega) (by rw [e1];omega)]
theorem isub_s {a b:Int} (h1:-1000000000000≤a) (h2:a≤1000000000000) (h3:-1000000000000≤b) (h4:b≤1000000000000):isub .i64 a b=a - b:=by
 have e1:((2:Int) ^ 63)=9223372036854775808:=by decide
 show IntKind.wrap .i64 (a - b)=_
 rw [wrap_i64 (by rw [e1];omega) (by rw [e1];omega)]
theorem room1 {α:Type} {xs:List α} {x:α} (h:xs.length<4000000):room xs (x::[])=true:=by simp [room];omega
theorem ile_dec (a b:Int):ile a b=decide (a≤b):=rfl
theorem ilt_dec (a b:Int):ilt a b=decide (a<b):=rfl
theorem deqD (a b:Dot):deq tDot a b=decide (a=b):=deq_dec (τ:=tDot) rfl a b
theorem rright_is (k:Nat) (d:Dot):z0R.f k d=some (rightD d):=by
 rw [z0R.f_eq]
 have:ile d.1 15=ilt d.1 16:=by unfold ile ilt;congr 1;exact propext ⟨fun h=>by omega,fun h=>by omega⟩
 rw [this]
 have:=right_is k d
 rw [z1P.f_eq] at this
 exact this
def memB (s:DSet) (d:Dot):Bool:=rightD d && (decide (d.2≤vat s.1 d.1) || decide (d ∈ s.2))
end Go.Proofs.YtggcagclpkhlhaaGreatDoor
end
noncomputable section
/- What the functions of the layer of dots compute, on. -/
namespace Go.Proofs.YtggcagclpkhlhaaGreatDoor
open Pal
theorem cmp_lt0 (a b:Dot):ilt (cmpD a b) 0=dotLt a b:=rfl
def insR (d:Dot):List Dot→List Dot
 | []=>[d]
 | y::r=>if dotLt d y then d::y::r else y::insR d r
def putD (s:DSet) (d:Dot):DSet:=if memB s d=true∨rightD d=false then s else mk s.1 (insR d s.2)
end Go.Proofs.YtggcagclpkhlhaaGreatDoor
end
noncomputable section
/- What the document's functions of the layer of dots compute. -/
namespace Go.Proofs.YtggcagclpkhlhaaGreatDoor
open Pal
theorem rcmp_is (k:Nat) (a b:Dot):z0t.f k a b=some (cmpD a b):=by
 rw [z0t.f_eq,z1l.f_eq,z1l.f_eq,ieq_dec,bnot_dec]
 have hI:∀ x y:Int,br (ilt x y) (some (-1)) (br (ilt y x) (some 1) (some 0))=some (cmpI x y):=fun x y=>by
  unfold cmpI
  by_cases h1:x<y
  ·simp [ilt,h1,br_true]
  ·by_cases h2:y<x <;> simp [ilt,h1,h2,br_true,br_false]
 have hI':∀ x y:Int,bnd (br (ilt x y) (some (-1)) (br (ilt y x) (some 1) (some 0))) (fun r=>some r)=some (cmpI x y):=fun x y=>by rw [hI];rfl
 rw [hI',hI']
 unfold cmpD
 by_cases h:a.1=b.1
 ·rw [if_pos ((cmpI_eq _ _).2 h)];simp [h,br_false]
 ·rw [if_neg (fun e=>h ((cmpI_eq _ _).1 e))];simp [h,br_true]
end Go.Proofs.YtggcagclpkhlhaaGreatDoor
end
noncomputable section
/- The same, and right, among sets of dots. -/
namespace Go.Proofs.YtggcagclpkhlhaaGreatDoor
open Pal
theorem reqD_l (k:Nat) (xs ys:List Dot) (hl:xs.length=ys.length) (hb:xs.length<1000000):∀ (n i:Nat),i≤xs.length→xs.length<n+i →
  z1j.l4 k n xs ys (i:Int)=some (zall (fun x y=>decide (x=y)) (xs.drop i) (ys.drop i))
 | 0,i,h,h'=>by omega
 | n+1,i,h,h'=>by
  rw [z1j.l4_eq,ilt_nat,inL_nat,inL_nat,natOf_nat]
  by_cases hi:i<xs.length
  ·have hi':i<ys.length:=by omega
   rw [zall_step hi hi',rd_at' (e:=tDot) hi,rd_at' (e:=tDot) hi',deqD,bnot_dec,iadd_nat (by omega)]
   simp only [hi,hi',decide_true,br_true]
   by_cases he:xs[i]=ys[i]
   ·simp only [he,not_true,decide_true,decide_false,br_false,Bool.true_and]
    exact reqD_l k xs ys hl hb n (i+1) (by omega) (by omega)
   ·simp only [he,not_false_eq_true,decide_false,decide_true,br_true,Bool.false_and]
  ·rw [zall_end (by omega)]
   simp only [hi,decide_false,br_false]
theorem reqD (k:Nat) (xs ys:List Dot) (hb:xs.length<k) (hk:k<1000000):z1j.f k xs ys=some (decide (xs=ys)):=by
 rw [z1j.f_eq,ieq_len,bnot_dec]
 by_cases hl:xs.length=ys.length
 ·simp only [hl,not_true,decide_false,br_false]
  have:=reqD_l k xs ys hl (by omega) k 0 (by omega) (by omega)
  simp only [List.drop_zero,zall_eq xs ys hl] at this
  exact this
 ·have:xs ≠ ys:=fun e=>hl (by rw [e])
  simp only [hl,this,not_false_eq_true,decide_true,decide_false,br_true]
theorem cmp_m1 (a b:Dot):bnot (ieq (cmpD a b) (-1))=!dotLt a b:=by
 have h1:∀ x y:Int,cmpI x y=-1∨cmpI x y=0∨cmpI x y=1:=fun x y=>by unfold cmpI;split <;> (try split) <;> simp
 have h:cmpD a b=-1∨cmpD a b=0∨cmpD a b=1:=by unfold cmpD;split <;> exact h1 _ _
 show bnot (ieq (cmpD a b) (-1))=!decide (cmpD a b<0)
 rcases h with h | h | h <;> rw [h] <;> rfl
end Go.Proofs.YtggcagclpkhlhaaGreatDoor
end
noncomputable section
/- Whether a set is right, how many dots there are, and the next one's number. -/
namespace Go.Proofs.YtggcagclpkhlhaaGreatDoor
open Pal
end Go.Proofs.YtggcagclpkhlhaaGreatDoor
end
noncomputable section
/- Unions, and what is within what. -/
namespace Go.Proofs.YtggcagclpkhlhaaGreatDoor
open Pal
end Go.Proofs.YtggcagclpkhlhaaGreatDoor
end
noncomputable section
/- That runs answer; binary search. -/
namespace Go.Proofs.YtggcagclpkhlhaaGreatDoor.Pal
open Go
def Tot {α:Type} (x:Option α):Prop:=∃ r,x=some r
theorem some_tot {α:Type} (a:α):Tot (some a):=⟨a,rfl⟩
theorem br_tot {α:Type} {b:Bool} {x y:Option α} (h1:Tot x) (h2:Tot y):Tot (br b x y):=by cases b <;> assumption
theorem bnd_tot {α β:Type} {x:Option α} {f:α→Option β} (h1:Tot x) (h2:∀ r,x=some r→Tot (f r)):Tot (bnd x f):=by
 obtain ⟨r,rfl⟩:=h1
 exact h2 r rfl
theorem bnd_tot' {α β:Type} {x:Option α} {f:α→Option β} (h1:Tot x) (h2:∀ r,Tot (f r)):Tot (bnd x f):=bnd_tot h1 fun r _=>h2 r
theorem loop_tot {ρ:Type} (N:Nat) (L:Nat→Nat→Option ρ) (hs:∀ n i,i<N→Tot (L n (i+1))→Tot (L (n+1) i)) (he:∀ n,Tot (L (n+1) N)):∀ n i,i≤N→N<n+i→Tot (L n i)
 | 0,i,h,h'=>by omega
 | n+1,i,h,h'=>by
  by_cases hi:i<N
  ·exact hs n i hi (loop_tot N L hs he n (i+1) (by omega) (by omega))
  ·have:i=N:=by omega
   subst this;exact he n
end Go.Proofs.YtggcagclpkhlhaaGreatDoor.Pal
end
noncomputable section
/- The document's checks of names, paths, values, operations and transactions answer, of short ones. -/
namespace Go.Proofs.YtggcagclpkhlhaaGreatDoor
open Pal
abbrev Str:=List UInt8
abbrev Val:=Int × (Int × Str)
abbrev Op:=Int × (List Str × (Val × (Int × List (Dot × Int))))
abbrev Txn:=Dot × (Int × (Int × (Bool × List Op)))
noncomputable instance decOp:DecidableEq Op:=fun a b=>Classical.propDecidable (a=b)
noncomputable instance decTxn:DecidableEq Txn:=fun a b=>Classical.propDecidable (a=b)
theorem ilt_lenR {α:Type} (c:Nat) (xs:List α):ilt (c:Int) (ilen xs)=decide (c<xs.length):=by unfold ilt ilen;exact decide_eq_decide.2 ⟨fun h=>by omega,fun h=>by omega⟩
theorem ile_len {α:Type} (c:Nat) (xs:List α):ile (ilen xs) (c:Int)=decide (xs.length≤c):=by unfold ile ilen;exact decide_eq_decide.2 ⟨fun h=>by omega,fun h=>by omega⟩
theorem rchar_is (k:Nat) (s:Str) (hk:10<k) (hs:s.length<4000000):∃ (c n:Int),z1x.f k s=some (c,n)∧0≤n∧n≤(s.length:Int):=by
 rw [z1x.f_eq]
 have e0:ieq (ilen s) 0=decide (s.length=0):=ieq0 s
 rw [e0]
 by_cases h0:s.length=0
 ·rw [decide_eq_true h0];exact ⟨0,0,rfl,by decide,by omega⟩
 rw [decide_eq_false h0]
 have e1:inL 0 s=true:=by
  have:=inL_nat 0 s
  rw [show inL 0 s=decide (0<s.length) from this];exact decide_eq_true (by omega)
 have l2:∀ c:Nat,ilt (ilen s) (c:Int)=decide (s.length<c):=fun c=>by unfold ilt ilen;exact decide_eq_decide.2 ⟨fun h=>by omega,fun h=>by omega⟩
 have key:∀ (N:Nat) (m x:Int),1≤N→N≤s.length→N≤4→∃ (c n:Int),z1x.l17 k k s x (N:Int) m 1=some (c,n)∧0≤n∧n≤(s.length:Int):=by
  intro N m x hN1 hN hN4
  have:∀ n i (x:Int),1≤i→N<n+i→i≤N→∃ (c q:Int),z1x.l17 k n s x (N:Int) m (i:Int)=some (c,q)∧0≤q∧q≤(s.length:Int):=by
   intro n
   induction n with
   | zero =>
    intro i x h1 h2 h3
    omega
   | succ n ih =>
    intro i x h1 h2 h3
    rw [z1x.l17_eq,ilt_nn]
    by_cases hi:i<N
    ·have e2:inL (i:Int) s=true:=by rw [inL_nat];exact decide_eq_true (by omega)
     have e3:iadd .i64 (i:Int) 1=((i+1:Nat):Int):=iadd_nat (by omega)
     rw [decide_eq_true hi,e2,e3]
     simp only [br_true]
     have z:∃ (c q:Int),(some ((0:Int),(0:Int)))=some (c,q)∧0≤q∧q≤(s.length:Int):=⟨0,0,rfl,by decide,by omega⟩
     have y:=ih (i+1) (isub .i64 (iadd .i64 (imul .i64 64 x) (iwrap .i64 (byteAt s (i:Int)))) 128) (by omega) (by omega) (by omega)
     cases ilt (byteAt s (i:Int)) 128 with
     | true=>exact z
     | false =>
      cases ilt 191 (byteAt s (i:Int)) with
      | true=>exact z
      | false=>exact y
    ·rw [decide_eq_false hi]
     simp only [br_false]
     have z:∃ (c q:Int),(some ((0:Int),(0:Int)))=some (c,q)∧0≤q∧q≤(s.length:Int):=⟨0,0,rfl,by decide,by omega⟩
     have y:∃ (c q:Int),(some (x,(N:Int)))=some (c,q)∧0≤q∧q≤(s.length:Int):=⟨x,N,rfl,by omega,by omega⟩
     cases ilt x m with
     | true=>exact z
     | false =>
      cases ilt 1114111 x with
      | true=>exact z
      | false =>
       cases ile 55296 x with
       | false=>exact y
       | true=>cases ile x 57343 with
        | true=>exact z
        | false=>exact y
  exact this k 1 x (by omega) (by omega) (by omega)
 have z:∃ (c q:Int),(some ((0:Int),(0:Int)))=some (c,q)∧0≤q∧q≤(s.length:Int):=⟨0,0,rfl,by decide,by omega⟩
 have kk:∀ (N:Nat) (m x:Int),1≤N→N≤4→∃ (c n:Int),br (ilt (ilen s) (N:Int)) (some ((0:Int),(0:Int))) (z1x.l17 k k s x (N:Int) m 1)=some (c,n)∧0≤n∧n≤(s.length:Int):=by
  intro N m x hN1 hN
  rw [l2]
  by_cases h:s.length<N
  ·rw [decide_eq_true h];exact z
  ·rw [decide_eq_false h];exact key N m x hN1 (by omega) hN
 have k2:=fun m x=>kk 2 m x (by decide) (by decide)
 have k3:=fun m x=>kk 3 m x (by decide) (by decide)
 have k4:=fun m x=>kk 4 m x (by decide) (by decide)
 rw [e1]
 simp only [br_true,br_false]
 generalize iwrap .i64 (byteAt s 0)=b
 cases ilt b 128 with
 | true=>exact ⟨b,1,rfl,by decide,by omega⟩
 | false =>
  cases ile 194 b <;> cases ilt b 224 <;> cases ile 224 b <;> cases ilt b 240 <;> cases ile 240 b <;> cases ilt b 245 <;> simp only [br_true,br_false] <;> first | exact z | exact k2 _ _ | exact k3 _ _ | exact k4 _ _
theorem rrunes_is (k:Nat) (s:Str) (hk:10<k) (hs:s.length<k) (hk2:k<1000000):∃ (l:List Int) (b:Bool),z0G.f k s=some (l,b)∧l.length≤s.length:=by
 rw [z0G.f_eq]
 have:∀ n i (l:List Int),i≤s.length→s.length<n+i→l.length≤i→∃ (l':List Int) (b:Bool),z0G.l3 k n s l (i:Int)=some (l',b)∧l'.length≤s.length:=by
  intro n
  induction n with
  | zero=>intro i l h1 h2;omega
  | succ n ih =>
   intro i l h1 h2 hl
   rw [z0G.l3_eq,ilt_nat]
   by_cases hi:i<s.length
   ·have hin:inS (i:Int) (ilen s) (ilen s)=true:=by
     have h1:(i:Int)≤(s.length:Int):=by omega
     show (decide ((0:Int)≤(i:Int)) && decide ((i:Int)≤(s.length:Int)) && decide ((s.length:Int)≤(s.length:Int)))=true
     rw [decide_eq_true h1,decide_eq_true (show (0:Int)≤(i:Int) by omega),decide_eq_true (Int.le_refl _)];rfl
    have hp:(piece s (i:Int) (ilen s)).length=s.length - i:=by
     unfold piece ilen
     rw [Int.toNat_natCast,Int.toNat_natCast,List.take_length,List.length_drop]
    obtain ⟨c,q,hc,q0,q1⟩:=rchar_is k (piece s (i:Int) (ilen s)) hk (by omega)
    rw [decide_eq_true hi,hin,hc]
    simp only [br_true,bnd_some,ieq_dec]
    rw [hp] at q1
    by_cases hq:q=0
    ·rw [decide_eq_true hq];exact ⟨[],false,rfl,by simp⟩
    ·rw [decide_eq_false hq]
     simp only [br_false]
     have hr:room l (c::[])=true:=room_le (by simp only [List.length_cons,List.length_nil];omega)
     obtain ⟨Q,rfl⟩:∃ Q:Nat,q=(Q:Int):=⟨q.toNat,by omega⟩
     have e3:iadd .i64 (i:Int) (Q:Int)=((i+Q:Nat):Int):=by rw [iadd_s (by omega) (by omega) (by omega) (by omega)];omega
     rw [hr,e3]
     simp only [br_true]
     exact ih (i+Q) _ (by omega) (by omega) (by simp only [app,List.length_append,List.length_cons,List.length_nil];omega)
   ·rw [decide_eq_false hi]
    exact ⟨l,true,rfl,by omega⟩
 exact this k 0 [] (by omega) (by omega) (by simp)
theorem rmay_tot (k:Nat) (c:Int):Tot (z1D.f k c):=by
 rw [z1D.f_eq]
 repeat' first | exact some_tot _ | apply br_tot
theorem rname_tot (k:Nat) (s:Str) (hk:10<k) (hs:s.length<k) (hk2:k<1000000):Tot (z0X.f k s):=by
 obtain ⟨l,b,h,hl⟩:=rrunes_is k s hk hs hk2
 rw [z0X.f_eq,h]
 simp only [bnd_some]
 refine loop_tot l.length (fun n i=>z0X.l3 k n l b (i:Int)) (fun n i hi ih=>?_) (fun n=>?_) k 0 (by omega) (by omega)
 ·have e3:iadd .i64 (i:Int) 1=((i+1:Nat):Int):=iadd_nat (by omega)
  simp only [z0X.l3_eq,ilt_nat,inL_nat,hi,decide_true,br_true,e3]
  exact bnd_tot' (rmay_tot k _) fun r=>br_tot (some_tot _) ih
 ·simp only [z0X.l3_eq,ilt_nat,Nat.lt_irrefl,decide_false,br_false]
  repeat' first | exact some_tot _ | apply br_tot
def ShortP (p:List Str):Prop:=p.length≤12∧∀ s ∈ p,List.length s≤120
theorem rpath_tot (k:Nat) (p:List Str) (hp:ShortP p) (hk:1000<k) (hk2:k<1000000):Tot (z0L.f k p):=by
 rw [z0L.f_eq]
 refine br_tot (some_tot _) (br_tot (some_tot _) ?_)
 have:=hp.1
 refine loop_tot p.length (fun n i=>z0L.l6 k n p (i:Int)) (fun n i hi ih=>?_) (fun n=>?_) k 0 (by omega) (by omega)
 ·have e3:iadd .i64 (i:Int) 1=((i+1:Nat):Int):=iadd_nat (by omega)
  simp only [z0L.l6_eq,ilt_nat,inL_nat,natOf_nat,hi,decide_true,br_true,e3,rd_at' (e:=.str) hi]
  have:=hp.2 p[i] (List.getElem_mem hi)
  exact bnd_tot' (rname_tot k _ (by omega) (by omega) hk2) fun r=>br_tot (some_tot _) ih
 ·simp only [z0L.l6_eq,ilt_nat,Nat.lt_irrefl,decide_false,br_false]
  exact some_tot _
theorem rval_tot (k:Nat) (v:Val) (hv:v.2.2.length≤200) (hk:1000<k) (hk2:k<1000000):Tot (z0D.f k v):=by
 rw [z0D.f_eq]
 obtain ⟨l,b,h,hl⟩:=rrunes_is k v.2.2 (by omega) (by omega) hk2
 rw [h]
 simp only [bnd_some]
 repeat' first | exact some_tot _ | apply br_tot
theorem rrefs_tot (k:Nat) (l:List (Dot × Int)) (hl:l.length≤300) (hk:1000<k) (hk2:k<1000000):Tot (z1e.f k l):=by
 rw [z1e.f_eq]
 refine loop_tot l.length (fun n i=>z1e.l2 k n l (i:Int)) (fun n i hi ih=>?_) (fun n=>?_) k 0 (by omega) (by omega)
 ·have e3:iadd .i64 (i:Int) 1=((i+1:Nat):Int):=iadd_nat (by omega)
  have e4:ilt 0 (i:Int)=decide (0<i):=ilt_nn 0 i
  simp only [z1e.l2_eq,ilt_nat,inL_nat,hi,decide_true,br_true,e3,rright_is,bnd_some,e4]
  refine br_tot (some_tot _) (br_tot (some_tot _) (br_tot (some_tot _) ?_))
  by_cases h0:0<i
  ·have hi1:i - 1<l.length:=by omega
   have e5:isub .i64 (i:Int) 1=((i - 1:Nat):Int):=by rw [isub_s (by omega) (by omega) (by omega) (by omega)];omega
   simp only [h0,decide_true,br_true,e5,inL_nat,hi1,z1r.f_eq,rcmp_is,bnd_some]
   refine bnd_tot' (br_tot (some_tot _) (bnd_tot' ?_ fun r=>some_tot _)) fun r=>br_tot (some_tot _) ih
   rw [z1l.f_eq]
   repeat' first | exact some_tot _ | apply br_tot
  ·simp only [h0,decide_false,br_false];exact ih
 ·simp only [z1e.l2_eq,ilt_nat,Nat.lt_irrefl,decide_false,br_false]
  exact some_tot _
structure ShortO (o:Op):Prop where
 path:ShortP o.2.1
 val:o.2.2.1.2.2.length≤200
 seen:o.2.2.2.2.length≤300
theorem rgone_tot (k:Nat) (o:Op):Tot (z1i.f k o):=by
 rw [z1i.f_eq]
 repeat' first | exact some_tot _ | apply br_tot
theorem rop_tot (k:Nat) (o:Op) (ho:ShortO o) (hk:1000<k) (hk2:k<1000000):Tot (z0F.f k o):=by
 rw [z0F.f_eq]
 obtain ⟨r1,h1⟩:=rpath_tot k _ ho.path hk hk2
 obtain ⟨r2,h2⟩:=rval_tot k _ ho.val hk hk2
 obtain ⟨r3,h3⟩:=rrefs_tot k _ ho.seen hk hk2
 rw [h1,h2,h3]
 simp only [bnd_some]
 repeat' first | exact some_tot _ | apply br_tot
structure ShortT (t:Txn):Prop where
 len:t.2.2.2.2.length≤20
 ops:∀ o ∈ t.2.2.2.2,ShortO o
theorem rpathshort_is (k:Nat) (p:List Str) (hk:1000<k) (hk2:k<1000000):∃ b,z0S.f k p=some b∧(b=true→ShortP p):=by
 rw [z0S.f_eq,show ilt 12 (ilen p)=decide (12<p.length) from ilt_lenR 12 p]
 by_cases h:12<p.length
 ·rw [decide_eq_true h];exact ⟨false,rfl,fun h=>by cases h⟩
 ·rw [decide_eq_false h]
  simp only [br_false]
  obtain ⟨b,hb,hbi⟩:=loop_all' p.length (fun n i=>z0S.l4 k n p (i:Int)) (fun j=>∀ s,p[j]? = some s→List.length s≤120) (fun n i hi=>by
   have e3:iadd .i64 (i:Int) 1=((i+1:Nat):Int):=iadd_nat (by omega)
   have e4:ilt 120 (ilen p[i])=decide (120<List.length p[i]):=ilt_lenR 120 p[i]
   simp only [z0S.l4_eq,ilt_nat,inL_nat,natOf_nat,hi,decide_true,br_true,e3,rd_at' (e:=.str) hi,e4,br_dec,List.getElem?_eq_getElem hi]
   by_cases hl:120<List.length p[i]
   ·exact .inr ⟨fun hh=>by have:=hh _ rfl;omega,if_pos hl⟩
   ·exact .inl ⟨fun s hs=>by injection hs with hs;subst hs;omega,if_neg hl⟩) (fun n=>by simp only [z0S.l4_eq,ilt_nat,Nat.lt_irrefl,decide_false,br_false]) k 0 (by omega) (by omega)
  refine ⟨b,hb,fun hh=>⟨by omega,fun s hs=>?_⟩⟩
  obtain ⟨j,hj,rfl⟩:=List.mem_iff_getElem.1 hs
  exact hbi.1 hh j (by omega) hj _ (List.getElem?_eq_getElem hj)
theorem ropshort_is (k:Nat) (o:Op) (hk:1000<k) (hk2:k<1000000):∃ b,z0V.f k o=some b∧(b=true→ShortO o):=by
 obtain ⟨b,hb,hbi⟩:=rpathshort_is k o.2.1 hk hk2
 rw [z0V.f_eq,hb]
 simp only [bnd_some]
 rw [show ile (ilen o.2.2.1.2.2) 200=decide (o.2.2.1.2.2.length≤200) from ile_len 200 _,show ile (ilen o.2.2.2.2) 300=decide (o.2.2.2.2.length≤300) from ile_len 300 _]
 cases b with
 | false=>exact ⟨false,rfl,fun h=>by cases h⟩
 | true =>
  simp only [br_true,br_dec]
  by_cases h:o.2.2.1.2.2.length≤200
  ·rw [if_pos h];exact ⟨_,rfl,fun hh=>⟨hbi rfl,h,of_decide_eq_true hh⟩⟩
  ·rw [if_neg h];exact ⟨false,rfl,fun h=>by cases h⟩
def shortAt (k:Nat) (t:Txn) (j:Nat):Prop:=∀ o,t.2.2.2.2[j]? = some o→∃ b,z0V.f k o=some b∧b=true
theorem rtxnshort_is (k:Nat) (t:Txn) (hk:1000<k) (hk2:k<1000000):∃ b,z0O.f k t=some b∧(b=true→ShortT t):=by
 rw [z0O.f_eq,show ilt 20 (ilen t.2.2.2.2)=decide (20<t.2.2.2.2.length) from ilt_lenR 20 _]
 by_cases h:20<t.2.2.2.2.length
 ·rw [decide_eq_true h];exact ⟨false,rfl,fun h=>by cases h⟩
 ·rw [decide_eq_false h]
  simp only [br_false]
  obtain ⟨b,hb,hbi⟩:=loop_all' t.2.2.2.2.length (fun n i=>br (decide True) (z0O.l4 k n (i:Int) t) none) (shortAt k t) (fun n i hi=>by
   have e3:iadd .i64 (i:Int) 1=((i+1:Nat):Int):=iadd_nat (by omega)
   obtain ⟨b,hb,_⟩:=ropshort_is k t.2.2.2.2[i] hk hk2
   simp only [decide_true,br_true,z0O.l4_eq,ilt_nat,inL_nat,natOf_nat,hi,e3,rd_at' (e:=tOp) hi,hb,bnd_some]
   cases b with
   | false=>exact .inr ⟨fun hh=>(by obtain ⟨c,h1,h2⟩:=hh _ (List.getElem?_eq_getElem hi);rw [hb] at h1;injection h1 with h1;subst h1;cases h2),rfl⟩
   | true=>exact .inl ⟨fun s hs=>(by rw [List.getElem?_eq_getElem hi] at hs;injection hs with hs;subst hs;exact ⟨true,hb,rfl⟩),rfl⟩) (fun n=>by simp only [decide_true,br_true,z0O.l4_eq,ilt_nat,Nat.lt_irrefl,decide_false,br_false]) k 0 (by omega) (by omega)
  refine ⟨b,hb,fun hh=>⟨by omega,fun o ho=>?_⟩⟩
  obtain ⟨j,hj,rfl⟩:=List.mem_iff_getElem.1 ho
  obtain ⟨c,h1,h2⟩:=hbi.1 hh j (by omega) hj _ (List.getElem?_eq_getElem hj)
  obtain ⟨d,h3,h4⟩:=ropshort_is k _ hk hk2
  rw [h3] at h1;injection h1 with h1;subst h1
  exact h4 h2
theorem rtxn_is (k:Nat) (t:Txn) (ht:ShortT t) (hk:1000<k) (hk2:k<1000000):∃ e:Int,z0N.f k t=some e∧(e=0→rightD t.1=true):=by
 rw [z0N.f_eq,rright_is]
 simp only [bnd_some]
 cases hd:rightD t.1 with
 | false=>exact ⟨2,rfl,fun h=>by cases h⟩
 | true =>
  have:Tot (z0N.l8 k k 0 t):=by
   have:=ht.len
   refine loop_tot t.2.2.2.2.length (fun n i=>z0N.l8 k n (i:Int) t) (fun n i hi ih=>?_) (fun n=>?_) k 0 (by omega) (by omega)
   ·have e3:iadd .i64 (i:Int) 1=((i+1:Nat):Int):=iadd_nat (by omega)
    obtain ⟨e,he⟩:=rop_tot k t.2.2.2.2[i] (ht.ops _ (List.getElem_mem hi)) hk hk2
    obtain ⟨g,hg⟩:=rgone_tot k t.2.2.2.2[i]
    simp only [z0N.l8_eq,ilt_nat,inL_nat,natOf_nat,hi,decide_true,br_true,e3,rd_at' (e:=tOp) hi,he,hg,bnd_some]
    exact br_tot (br_tot (br_tot (some_tot _) ih) (br_tot (some_tot _) ih)) ih
   ·simp only [z0N.l8_eq,ilt_nat,Nat.lt_irrefl,decide_false,br_false]
    exact some_tot _
  have bt:bnot true=false:=rfl
  rw [bt]
  simp only [br_false]
  have all:Tot (br (ilt t.2.1 0) (some (2:Int)) (br (ilt 7 t.2.1) (some 2) (br (ilt t.2.2.1 1) (some 2) (br (ilt 1099511627776 t.2.2.1) (some 2) (br (ieq (ilen t.2.2.2.2) 0) (some 11) (br (ilt 16 (ilen t.2.2.2.2)) (some 7) (z0N.l8 k k 0 t))))))):=by
   repeat' first | exact some_tot _ | exact this | apply br_tot
  obtain ⟨e,he⟩:=all
  exact ⟨e,he,fun _=>trivial⟩
end Go.Proofs.YtggcagclpkhlhaaGreatDoor
end
noncomputable section
/- The document's characters are the machine's. -/
namespace Go.Proofs.YtggcagclpkhlhaaGreatDoor
open Pal
def finN (x m w:Nat):Nat × Nat:=if x<m∨1114111<x∨(55296≤x∧x≤57343) then (0,0) else (x,w)
def refN (n b0 b1 b2 b3:Nat):Nat × Nat :=
 if b0<128 then (b0,1)
 else if 194≤b0∧b0<224 then (if n<2 then (0,0) else if b1<128∨191<b1 then (0,0) else finN (64 * (b0 - 192)+b1 - 128) 128 2)
 else if 224≤b0∧b0<240 then (if n<3 then (0,0) else if b1<128∨191<b1 then (0,0) else if b2<128∨191<b2 then (0,0) else finN (64 * (64 * (b0 - 224)+b1 - 128)+b2 - 128) 2048 3)
 else if 240≤b0∧b0<245 then (if n<4 then (0,0) else if b1<128∨191<b1 then (0,0) else if b2<128∨191<b2 then (0,0) else if b3<128∨191<b3 then (0,0) else finN (64 * (64 * (64 * (b0 - 240)+b1 - 128)+b2 - 128)+b3 - 128) 65536 4)
 else (0,0)
def charN (n b0 b1 b2 b3:Nat):Nat × Nat:=if (Go.Lib.decodeN n b0 b1 b2 b3).1=65533∧(Go.Lib.decodeN n b0 b1 b2 b3).2≤1 then (0,0) else Go.Lib.decodeN n b0 b1 b2 b3
theorem charN_bad {n b0 b1 b2 b3:Nat} (e:Go.Lib.decodeN n b0 b1 b2 b3=(65533,1)):charN n b0 b1 b2 b3=(0,0):=by
 unfold charN;rw [e];exact if_pos ⟨rfl,Nat.le_refl _⟩
theorem charN_ok {n b0 b1 b2 b3 c w:Nat} (e:Go.Lib.decodeN n b0 b1 b2 b3=(c,w)) (h:¬ (c=65533∧w≤1)):charN n b0 b1 b2 b3=(c,w):=by
 unfold charN;rw [e];exact if_neg h
theorem decN2 {n b0 b1 b2 b3:Nat} (h:194≤b0∧b0<224):Go.Lib.decodeN n b0 b1 b2 b3=if 1<n∧b1 / 64=2 then (b0 % 32 * 64+b1 % 64,2) else (65533,1):=by
 unfold Go.Lib.decodeN
 rw [if_neg (show ¬ b0<128 by omega)]
 by_cases g:1<n∧b1 / 64=2
 ·rw [if_pos (show b0 / 32=6∧(1<n∧b1 / 64=2) from ⟨by omega,g⟩),if_pos g,if_pos (show b0 % 32 * 64+b1 % 64≥128 by omega)]
 ·rw [if_neg (show ¬ (b0 / 32=6∧(1<n∧b1 / 64=2)) from fun h=>g h.2),if_neg g,if_neg (fun hh=>by omega),if_neg (fun hh=>by omega)]
def val3 (b0 b1 b2:Nat):Nat:=b0 % 16 * 4096+b1 % 64 * 64+b2 % 64
def val4 (b0 b1 b2 b3:Nat):Nat:=b0 % 8 * 262144+b1 % 64 * 4096+b2 % 64 * 64+b3 % 64
theorem decN3 {n b0 b1 b2 b3:Nat} (h:224≤b0∧b0<240):Go.Lib.decodeN n b0 b1 b2 b3=if (1<n∧b1 / 64=2)∧(2<n∧b2 / 64=2) then (if val3 b0 b1 b2≥2048∧(val3 b0 b1 b2<55296∨(57344≤val3 b0 b1 b2∧val3 b0 b1 b2≤1114111)) then (val3 b0 b1 b2,3) else (65533,1)) else (65533,1):=by
 unfold Go.Lib.decodeN
 rw [if_neg (show ¬ b0<128 by omega),if_neg (show ¬ (b0 / 32=6∧(1<n∧b1 / 64=2)) from fun hh=>by omega)]
 by_cases g:(1<n∧b1 / 64=2)∧(2<n∧b2 / 64=2)
 ·rw [if_pos (show b0 / 16=14∧(1<n∧b1 / 64=2)∧(2<n∧b2 / 64=2) from ⟨by omega,g⟩),if_pos g];rfl
 ·rw [if_neg (show ¬ (b0 / 16=14∧(1<n∧b1 / 64=2)∧(2<n∧b2 / 64=2)) from fun h=>g h.2),if_neg g,if_neg (fun hh=>by omega)]
theorem decN4 {n b0 b1 b2 b3:Nat} (h:240≤b0∧b0<248):Go.Lib.decodeN n b0 b1 b2 b3=if (1<n∧b1 / 64=2)∧(2<n∧b2 / 64=2)∧(3<n∧b3 / 64=2) then (if val4 b0 b1 b2 b3≥65536∧(val4 b0 b1 b2 b3<55296∨(57344≤val4 b0 b1 b2 b3∧val4 b0 b1 b2 b3≤1114111)) then (val4 b0 b1 b2 b3,4) else (65533,1)) else (65533,1):=by
 unfold Go.Lib.decodeN
 rw [if_neg (show ¬ b0<128 by omega),if_neg (show ¬ (b0 / 32=6∧(1<n∧b1 / 64=2)) from fun hh=>by omega),if_neg (show ¬ (b0 / 16=14∧(1<n∧b1 / 64=2)∧(2<n∧b2 / 64=2)) from fun hh=>by omega)]
 by_cases g:(1<n∧b1 / 64=2)∧(2<n∧b2 / 64=2)∧(3<n∧b3 / 64=2)
 ·rw [if_pos (show b0 / 8=30∧(1<n∧b1 / 64=2)∧(2<n∧b2 / 64=2)∧(3<n∧b3 / 64=2) from ⟨by omega,g⟩),if_pos g];rfl
 ·rw [if_neg (show ¬ (b0 / 8=30∧(1<n∧b1 / 64=2)∧(2<n∧b2 / 64=2)∧(3<n∧b3 / 64=2)) from fun h=>g h.2),if_neg g]
theorem decN0 {n b0 b1 b2 b3:Nat} (h:(128≤b0∧b0<194)∨248≤b0) (hb:b0<256):Go.Lib.decodeN n b0 b1 b2 b3=(65533,1):=by
 unfold Go.Lib.decodeN
 rw [if_neg (show ¬ b0<128 by omega)]
 by_cases g:b0 / 32=6∧(1<n∧b1 / 64=2)
 ·rw [if_pos g,if_neg (show ¬ b0 % 32 * 64+b1 % 64≥128 by omega)]
 ·rw [if_neg g,if_neg (show ¬ (b0 / 16=14∧(1<n∧b1 / 64=2)∧(2<n∧b2 / 64=2)) from fun hh=>by omega),if_neg (show ¬ (b0 / 8=30∧(1<n∧b1 / 64=2)∧(2<n∧b2 / 64=2)∧(3<n∧b3 / 64=2)) from fun hh=>by omega)]
theorem finN_no {x m w:Nat} (h:¬ (x≥m∧(x<55296∨(57344≤x∧x≤1114111)))):finN x m w=(0,0):=if_pos (by omega)
theorem finN_ok {x m w:Nat} (h:x≥m∧(x<55296∨(57344≤x∧x≤1114111))):finN x m w=(x,w):=if_neg (by omega)
theorem refN_eq (n b0 b1 b2 b3:Nat) (hn:1≤n) (h0:b0<256) (h1:b1<256) (h2:b2<256) (h3:b3<256):refN n b0 b1 b2 b3=charN n b0 b1 b2 b3:=by
 unfold refN
 by_cases c0:b0<128
 ·have e:Go.Lib.decodeN n b0 b1 b2 b3=(b0,1):=by unfold Go.Lib.decodeN;rw [if_pos c0]
  rw [if_pos c0,charN_ok e (fun h=>by omega)]
 rw [if_neg c0]
 by_cases c1:194≤b0∧b0<224
 ·rw [if_pos c1]
  have e:=decN2 (n:=n) (b1:=b1) (b2:=b2) (b3:=b3) c1
  by_cases g:1<n∧b1 / 64=2
  ·rw [if_pos g] at e
   rw [charN_ok e (fun h=>by omega),if_neg (show ¬ n<2 by omega),if_neg (show ¬ (b1<128∨191<b1) by omega),show 64 * (b0 - 192)+b1 - 128=b0 % 32 * 64+b1 % 64 by omega]
   exact finN_ok (by omega)
  ·rw [if_neg g] at e
   rw [charN_bad e]
   by_cases g1:n<2
   ·rw [if_pos g1]
   ·rw [if_neg g1,if_pos (show b1<128∨191<b1 by omega)]
 rw [if_neg c1]
 by_cases c2:224≤b0∧b0<240
 ·rw [if_pos c2]
  have e:=decN3 (n:=n) (b1:=b1) (b2:=b2) (b3:=b3) c2
  by_cases g:(1<n∧b1 / 64=2)∧(2<n∧b2 / 64=2)
  ·rw [if_pos g] at e
   rw [if_neg (show ¬ n<3 by omega),if_neg (show ¬ (b1<128∨191<b1) by omega),if_neg (show ¬ (b2<128∨191<b2) by omega),show 64 * (64 * (b0 - 224)+b1 - 128)+b2 - 128=val3 b0 b1 b2 by unfold val3;omega]
   by_cases q:val3 b0 b1 b2≥2048∧(val3 b0 b1 b2<55296∨(57344≤val3 b0 b1 b2∧val3 b0 b1 b2≤1114111))
   ·rw [if_pos q] at e
    rw [charN_ok e (fun h=>by omega),finN_ok q]
   ·rw [if_neg q] at e
    rw [charN_bad e,finN_no q]
  ·rw [if_neg g] at e
   rw [charN_bad e]
   by_cases g1:n<3
   ·rw [if_pos g1]
   ·rw [if_neg g1]
    by_cases g2:b1<128∨191<b1
    ·rw [if_pos g2]
    ·rw [if_neg g2,if_pos (show b2<128∨191<b2 by omega)]
 rw [if_neg c2]
 by_cases c3:240≤b0∧b0<245
 ·rw [if_pos c3]
  have e:=decN4 (n:=n) (b1:=b1) (b2:=b2) (b3:=b3) (show 240≤b0∧b0<248 by omega)
  by_cases g:(1<n∧b1 / 64=2)∧(2<n∧b2 / 64=2)∧(3<n∧b3 / 64=2)
  ·rw [if_pos g] at e
   rw [if_neg (show ¬ n<4 by omega),if_neg (show ¬ (b1<128∨191<b1) by omega),if_neg (show ¬ (b2<128∨191<b2) by omega),if_neg (show ¬ (b3<128∨191<b3) by omega),show 64 * (64 * (64 * (b0 - 240)+b1 - 128)+b2 - 128)+b3 - 128=val4 b0 b1 b2 b3 by unfold val4;omega]
   by_cases q:val4 b0 b1 b2 b3≥65536∧(val4 b0 b1 b2 b3<55296∨(57344≤val4 b0 b1 b2 b3∧val4 b0 b1 b2 b3≤1114111))
   ·rw [if_pos q] at e
    rw [charN_ok e (fun h=>by omega),finN_ok q]
   ·rw [if_neg q] at e
    rw [charN_bad e,finN_no q]
  ·rw [if_neg g] at e
   rw [charN_bad e]
   by_cases g1:n<4
   ·rw [if_pos g1]
   ·rw [if_neg g1]
    by_cases g2:b1<128∨191<b1
    ·rw [if_pos g2]
    ·rw [if_neg g2]
     by_cases g3:b2<128∨191<b2
     ·rw [if_pos g3]
     ·rw [if_neg g3,if_pos (show b3<128∨191<b3 by omega)]
 ·rw [if_neg c3]
  by_cases c4:245≤b0∧b0<248
  ·have e:=decN4 (n:=n) (b1:=b1) (b2:=b2) (b3:=b3) (show 240≤b0∧b0<248 by omega)
   have hv:¬ (val4 b0 b1 b2 b3≥65536∧(val4 b0 b1 b2 b3<55296∨(57344≤val4 b0 b1 b2 b3∧val4 b0 b1 b2 b3≤1114111))):=by unfold val4;omega
   rw [if_neg hv,ite_self] at e
   rw [charN_bad e]
  ·rw [charN_bad (decN0 (by omega) h0)]
def byt (t:Str) (i:Nat):Nat:=(List.getD t i 0).toNat
theorem byt_lt (t:Str) (i:Nat):byt t i<256:=UInt8.toNat_lt _
theorem byt_at (t:Str) (i:Nat):byteAt t (i:Int)=(byt t i:Int):=rfl
theorem l17_end (k n N x m:Nat) (t:Str):z1x.l17 k (n+1) t (x:Int) (N:Int) (m:Int) (N:Int)=some (((finN x m N).1:Int),((finN x m N).2:Int)):=by
 rw [z1x.l17_eq,ilt_nn,decide_eq_false (Nat.lt_irrefl _),br_false,ilt_nn]
 unfold finN
 by_cases h1:x<m
 ·rw [decide_eq_true h1,br_true,if_pos (.inl h1)];rfl
 ·rw [decide_eq_false h1,br_false,show ilt (1114111:Int) (x:Int)=decide (1114111<x) from ilt_nn 1114111 x]
  by_cases h2:1114111<x
  ·rw [decide_eq_true h2,br_true,if_pos (.inr (.inl h2))];rfl
  ·rw [decide_eq_false h2,br_false,show ile (55296:Int) (x:Int)=decide (55296≤x) from decide_eq_decide.2 ⟨fun h=>by omega,fun h=>by omega⟩]
   by_cases h3:55296≤x
   ·rw [decide_eq_true h3,br_true,show ile (x:Int) (57343:Int)=decide (x≤57343) from decide_eq_decide.2 ⟨fun h=>by omega,fun h=>by omega⟩]
    by_cases h4:x≤57343
    ·rw [decide_eq_true h4,br_true,if_pos (.inr (.inr ⟨h3,h4⟩))];rfl
    ·rw [decide_eq_false h4,br_false,if_neg (by omega)]
   ·rw [decide_eq_false h3,br_false,if_neg (by omega)]
theorem l17_step (k n N x m i:Nat) (t:Str) (hi:i<N) (hN:N≤t.length) (hx:x<1000000) (hi4:i<100) :
  z1x.l17 k (n+1) t (x:Int) (N:Int) (m:Int) (i:Int)=if byt t i<128∨191<byt t i then some (0,0) else z1x.l17 k n t ((64 * x+byt t i - 128:Nat):Int) (N:Int) (m:Int) ((i+1:Nat):Int):=by
 have hb:=byt_lt t i
 rw [z1x.l17_eq,ilt_nn,decide_eq_true hi,br_true,inL_nat,decide_eq_true (show i<t.length by omega),br_true,byt_at,show ilt ((byt t i:Nat):Int) 128=decide (byt t i<128) from ilt_nn _ 128,
  show ilt (191:Int) ((byt t i:Nat):Int)=decide (191<byt t i) from ilt_nn 191 _]
 by_cases h1:byt t i<128
 ·rw [decide_eq_true h1,br_true,if_pos (.inl h1)]
 ·rw [decide_eq_false h1,br_false,br_true]
  by_cases h2:191<byt t i
  ·rw [decide_eq_true h2,br_true,if_pos (.inr h2)]
  ·have e1:iwrap .i64 ((byt t i:Nat):Int)=((byt t i:Nat):Int):=by
    show IntKind.wrap .i64 _=_
    rw [IntKind.wrap_i64];omega
   have e2:imul .i64 64 (x:Int)=((64 * x:Nat):Int):=by
    show IntKind.wrap .i64 (64 * (x:Int))=_
    rw [IntKind.wrap_i64];omega
   have e3:iadd .i64 ((64 * x:Nat):Int) ((byt t i:Nat):Int)=((64 * x+byt t i:Nat):Int):=by
    show IntKind.wrap .i64 (((64 * x:Nat):Int)+((byt t i:Nat):Int))=_
    rw [IntKind.wrap_i64];omega
   have e4:isub .i64 ((64 * x+byt t i:Nat):Int) 128=((64 * x+byt t i - 128:Nat):Int):=by
    show IntKind.wrap .i64 (((64 * x+byt t i:Nat):Int) - 128)=_
    rw [IntKind.wrap_i64];omega
   rw [decide_eq_false h2,br_false,br_true,e1,e2,e3,e4,iadd_nat (show i<4611686018427387904 by omega),if_neg (by omega)]
theorem rchar_eq (k:Nat) (t:Str) (hk:10<k) (h0:t ≠ []):z1x.f k t=some (((refN t.length (byt t 0) (byt t 1) (byt t 2) (byt t 3)).1:Int),((refN t.length (byt t 0) (byt t 1) (byt t 2) (byt t 3)).2:Int)):=by
 have hl:0<t.length:=List.length_pos_iff.2 h0
 obtain ⟨q,rfl⟩:∃ q,k=q+5:=⟨k - 5,by omega⟩
 have hb:=byt_lt t 0;have hb1:=byt_lt t 1;have hb2:=byt_lt t 2;have hb3:=byt_lt t 3
 have e0:ieq (ilen t) 0=decide (t.length=0):=ieq0 t
 have e1:inL 0 t=true:=by
  rw [show inL 0 t=decide (0<t.length) from inL_nat 0 t];exact decide_eq_true hl
 have l2:∀ c:Nat,ilt (ilen t) (c:Int)=decide (t.length<c):=fun c=>by unfold ilt ilen;exact decide_eq_decide.2 ⟨fun h=>by omega,fun h=>by omega⟩
 have eb:iwrap .i64 (byteAt t 0)=((byt t 0:Nat):Int):=by
  show IntKind.wrap .i64 ((byt t 0:Nat):Int)=_
  rw [IntKind.wrap_i64];omega
 have m2:∀ x:Nat,x<100→2≤t.length→z1x.l17 (q+5) (q+5) t (x:Int) 2 128 1=some (((if byt t 1<128∨191<byt t 1 then (0,0) else finN (64 * x+byt t 1 - 128) 128 2:Nat × Nat).1:Int),((if byt t 1<128∨191<byt t 1 then (0,0) else finN (64 * x+byt t 1 - 128) 128 2:Nat × Nat).2:Int)):=fun x hx h2=>by
  have s1:=l17_step (q+5) (q+4) 2 x 128 1 t (by omega) h2 (by omega) (by omega)
  have s2:=l17_end (q+5) (q+3) 2 (64 * x+byt t 1 - 128) 128 t
  refine s1.trans ?_
  by_cases h:byt t 1<128∨191<byt t 1
  ·rw [if_pos h,if_pos h];rfl
  ·rw [if_neg h,if_neg h];exact s2
 have m3:∀ x:Nat,x<100→3≤t.length→z1x.l17 (q+5) (q+5) t (x:Int) 3 2048 1=some (((if byt t 1<128∨191<byt t 1 then (0,0) else if byt t 2<128∨191<byt t 2 then (0,0) else finN (64 * (64 * x+byt t 1 - 128)+byt t 2 - 128) 2048 3:Nat × Nat).1:Int),((if byt t 1<128∨191<byt t 1 then (0,0) else if byt t 2<128∨191<byt t 2 then (0,0) else finN (64 * (64 * x+byt t 1 - 128)+byt t 2 - 128) 2048 3:Nat × Nat).2:Int)):=fun x hx h2=>by
  have s1:=l17_step (q+5) (q+4) 3 x 2048 1 t (by omega) h2 (by omega) (by omega)
  have s2:=l17_step (q+5) (q+3) 3 (64 * x+byt t 1 - 128) 2048 2 t (by omega) h2 (by omega) (by omega)
  have s3:=l17_end (q+5) (q+2) 3 (64 * (64 * x+byt t 1 - 128)+byt t 2 - 128) 2048 t
  refine s1.trans ?_
  by_cases h:byt t 1<128∨191<byt t 1
  ·rw [if_pos h,if_pos h];rfl
  ·rw [if_neg h,if_neg h]
   refine s2.trans ?_
   by_cases h':byt t 2<128∨191<byt t 2
   ·rw [if_pos h',if_pos h'];rfl
   ·rw [if_neg h',if_neg h'];exact s3
 have m4:∀ x:Nat,x<100→4≤t.length→z1x.l17 (q+5) (q+5) t (x:Int) 4 65536 1=some (((if byt t 1<128∨191<byt t 1 then (0,0) else if byt t 2<128∨191<byt t 2 then (0,0) else if byt t 3<128∨191<byt t 3 then (0,0) else finN (64 * (64 * (64 * x+byt t 1 - 128)+byt t 2 - 128)+byt t 3 - 128) 65536 4:Nat × Nat).1:Int),((if byt t 1<128∨191<byt t 1 then (0,0) else if byt t 2<128∨191<byt t 2 then (0,0) else if byt t 3<128∨191<byt t 3 then (0,0) else finN (64 * (64 * (64 * x+byt t 1 - 128)+byt t 2 - 128)+byt t 3 - 128) 65536 4:Nat × Nat).2:Int)):=fun x hx h2=>by
  have s1:=l17_step (q+5) (q+4) 4 x 65536 1 t (by omega) h2 (by omega) (by omega)
  have s2:=l17_step (q+5) (q+3) 4 (64 * x+byt t 1 - 128) 65536 2 t (by omega) h2 (by omega) (by omega)
  have s3:=l17_step (q+5) (q+2) 4 (64 * (64 * x+byt t 1 - 128)+byt t 2 - 128) 65536 3 t (by omega) h2 (by omega) (by omega)
  have s4:=l17_end (q+5) (q+1) 4 (64 * (64 * (64 * x+byt t 1 - 128)+byt t 2 - 128)+byt t 3 - 128) 65536 t
  refine s1.trans ?_
  by_cases h:byt t 1<128∨191<byt t 1
  ·rw [if_pos h,if_pos h];rfl
  ·rw [if_neg h,if_neg h]
   refine s2.trans ?_
   by_cases h':byt t 2<128∨191<byt t 2
   ·rw [if_pos h',if_pos h'];rfl
   ·rw [if_neg h',if_neg h']
    refine s3.trans ?_
    by_cases h'':byt t 3<128∨191<byt t 3
    ·rw [if_pos h'',if_pos h''];rfl
    ·rw [if_neg h'',if_neg h''];exact s4
 have bl:∀ c:Nat,ilt ((byt t 0:Nat):Int) (c:Int)=decide (byt t 0<c):=fun c=>ilt_nn _ c
 have bg:∀ c:Nat,ile (c:Int) ((byt t 0:Nat):Int)=decide (c≤byt t 0):=fun c=>decide_eq_decide.2 ⟨fun h=>by omega,fun h=>by omega⟩
 have su:∀ c:Nat,c≤byt t 0→isub .i64 ((byt t 0:Nat):Int) (c:Int)=((byt t 0 - c:Nat):Int):=fun c hc=>by
  show IntKind.wrap .i64 (((byt t 0:Nat):Int) - (c:Int))=_
  rw [IntKind.wrap_i64];omega
 rw [z1x.f_eq,e0,decide_eq_false (by omega),br_false,e1,br_true,eb,show ilt ((byt t 0:Nat):Int) 128=_ from bl 128]
 unfold refN
 by_cases c0:byt t 0<128
 ·rw [decide_eq_true c0,br_true,if_pos c0];rfl
 rw [decide_eq_false c0,br_false,if_neg c0,show ile (194:Int) ((byt t 0:Nat):Int)=_ from bg 194,show ilt ((byt t 0:Nat):Int) 224=_ from bl 224,show ile (224:Int) ((byt t 0:Nat):Int)=_ from bg 224,
  show ilt ((byt t 0:Nat):Int) 240=_ from bl 240,show ile (240:Int) ((byt t 0:Nat):Int)=_ from bg 240,show ilt ((byt t 0:Nat):Int) 245=_ from bl 245,
  show ilt (ilen t) 2=_ from l2 2,show ilt (ilen t) 3=_ from l2 3,show ilt (ilen t) 4=_ from l2 4]
 by_cases c1:194≤byt t 0∧byt t 0<224
 ·rw [decide_eq_true c1.1,br_true,decide_eq_true c1.2,br_true,if_pos c1]
  by_cases g:t.length<2
  ·rw [decide_eq_true g,br_true,if_pos g];rfl
  ·rw [decide_eq_false g,br_false,if_neg g,show isub .i64 ((byt t 0:Nat):Int) 192=_ from su 192 (by omega)]
   exact m2 _ (by omega) (by omega)
 rw [if_neg c1]
 by_cases c2:224≤byt t 0∧byt t 0<240
 ·rw [decide_eq_true (show 194≤byt t 0 by omega),br_true,decide_eq_false (show ¬ byt t 0<224 by omega),br_false,decide_eq_true c2.1,br_true,decide_eq_true c2.2,br_true,if_pos c2]
  by_cases g:t.length<3
  ·rw [decide_eq_true g,br_true,if_pos g];rfl
  ·rw [decide_eq_false g,br_false,if_neg g,show isub .i64 ((byt t 0:Nat):Int) 224=_ from su 224 (by omega)]
   exact m3 _ (by omega) (by omega)
 rw [if_neg c2]
 by_cases c3:240≤byt t 0∧byt t 0<245
 ·rw [decide_eq_true (show 194≤byt t 0 by omega),br_true,decide_eq_false (show ¬ byt t 0<224 by omega),br_false,decide_eq_true (show 224≤byt t 0 by omega),br_true,decide_eq_false (show ¬ byt t 0<240 by omega),br_false,decide_eq_true c3.1,br_true,decide_eq_true c3.2,br_true,if_pos c3]
  by_cases g:t.length<4
  ·rw [decide_eq_true g,br_true,if_pos g];rfl
  ·rw [decide_eq_false g,br_false,if_neg g,show isub .i64 ((byt t 0:Nat):Int) 240=_ from su 240 (by omega)]
   exact m4 _ (by omega) (by omega)
 rw [if_neg c3]
 by_cases d1:194≤byt t 0
 ·have d2:¬ byt t 0<224:=by omega
  have d3:224≤byt t 0:=by omega
  have d4:¬ byt t 0<240:=by omega
  have d5:240≤byt t 0:=by omega
  have d6:¬ byt t 0<245:=by omega
  rw [decide_eq_true d1,br_true,decide_eq_false d2,br_false,decide_eq_true d3,br_true,decide_eq_false d4,br_false,decide_eq_true d5,br_true,decide_eq_false d6,br_false];rfl
 ·have d3:¬ 224≤byt t 0:=by omega
  have d5:¬ 240≤byt t 0:=by omega
  rw [decide_eq_false d1,br_false,decide_eq_false d3,br_false,decide_eq_false d5,br_false];rfl
end Go.Proofs.YtggcagclpkhlhaaGreatDoor
end
noncomputable section
/- Names and values: the program's tests are the document's. -/
namespace Go.Proofs.YtggcagclpkhlhaaGreatDoor
open Pal
theorem bget (s:Str) (j:Nat):((⟨s.toArray⟩:ByteArray).get! j).toNat=byt s j:=by
 unfold byt
 show (s.toArray.getD j default).toNat=_
 rw [Array.getD_eq_getD_getElem?,List.getElem?_toArray,← List.getD_eq_getElem?_getD];rfl
theorem byt_drop (s:Str) (i j:Nat):byt (s.drop i) j=byt s (i+j):=by
 unfold byt
 rw [List.getD_eq_getElem?_getD,List.getD_eq_getElem?_getD,List.getElem?_drop]
theorem piece_drop (s:Str) (i:Nat):piece s (i:Int) (ilen s)=s.drop i:=by
 unfold piece ilen
 rw [Int.toNat_natCast,Int.toNat_natCast,List.take_length]
theorem rchar_at (k:Nat) (s:Str) (i:Nat) (hi:i<s.length) (hk:10<k) :
  z1x.f k (piece s (i:Int) (ilen s))=some (if badAt ⟨s.toArray⟩ i=true then (0,0) else (((Go.Utf8.decode ⟨s.toArray⟩ i).1:Int),((Go.Utf8.decode ⟨s.toArray⟩ i).2:Int))):=by
 have hne:s.drop i ≠ []:=fun h=>by have:=congrArg List.length h;rw [List.length_drop,List.length_nil] at this;omega
 have hd:Go.Utf8.decode ⟨s.toArray⟩ i=Go.Lib.decodeN (s.length - i) (byt s i) (byt s (i+1)) (byt s (i+2)) (byt s (i+3)):=by
  rw [Go.Lib.decode_at,bget,bget,bget,bget];rfl
 rw [piece_drop,rchar_eq k _ hk hne,refN_eq _ _ _ _ _ (by rw [List.length_drop];omega) (byt_lt _ _) (byt_lt _ _) (byt_lt _ _) (byt_lt _ _),List.length_drop,byt_drop,byt_drop,byt_drop,byt_drop,Nat.add_zero]
 unfold charN badAt
 rw [← hd]
 by_cases h:(Go.Utf8.decode ⟨s.toArray⟩ i).1=65533∧(Go.Utf8.decode ⟨s.toArray⟩ i).2≤1
 ·rw [if_pos h,if_pos (by rw [decide_eq_true h.1,decide_eq_true h.2];rfl)];rfl
 ·rw [if_neg h,if_neg (fun hh=>h (by simpa using hh))]
theorem rrunes_l (k:Nat) (s:Str) (hk:10<k) (hs:s.length<1000000):∀ (f n i:Nat) (x:List Int),s.length≤f+i→s.length<n+i→i≤s.length→x.length≤i →
  z0G.l3 k n s x (i:Int)=some (match runesX ⟨s.toArray⟩ f i with | some l=>(x++l,true) | none=>([],false))
 | f,0,i,x,_,h,_,_=>by omega
 | 0,n+1,i,x,h0,h,hi,hx=>by
  have e:i=s.length:=by omega
  subst e
  rw [z0G.l3_eq,ilt_nat,decide_eq_false (Nat.lt_irrefl _),br_false]
  show some (x,true)=some (x++[],true)
  rw [List.append_nil]
 | f+1,n+1,i,x,h0,h,hi,hx=>by
  have hsz:(⟨s.toArray⟩:ByteArray).size=s.length:=by simp [ByteArray.size]
  rw [z0G.l3_eq,ilt_nat]
  by_cases hl:i<s.length
  ·have hin:inS (i:Int) (ilen s) (ilen s)=true:=by
    have h1:(i:Int)≤(s.length:Int):=by omega
    show (decide ((0:Int)≤(i:Int)) && decide ((i:Int)≤(s.length:Int)) && decide ((s.length:Int)≤(s.length:Int)))=true
    rw [decide_eq_true h1,decide_eq_true (show (0:Int)≤(i:Int) by omega),decide_eq_true (Int.le_refl _)];rfl
   have hw:=rwidth_pos ⟨s.toArray⟩ i (by rw [hsz];exact hl)
   obtain ⟨c,q,hc,q0,q1⟩:=rchar_is k (piece s (i:Int) (ilen s)) hk (by rw [piece_drop,List.length_drop];omega)
   rw [piece_drop,List.length_drop] at q1
   have hr:=rchar_at k s i hl hk
   rw [runesX,if_pos (by rw [hsz];exact hl),decide_eq_true hl,br_true,hin,br_true,hr,bnd_some]
   by_cases hb:badAt ⟨s.toArray⟩ i=true
   ·rw [if_pos hb,if_pos hb];rfl
   ·rw [if_neg hb,if_neg hb]
    rw [hr,if_neg hb] at hc
    injection hc with hc
    have hq:((Go.Utf8.decode ⟨s.toArray⟩ i).2:Int)=q:=congrArg Prod.snd hc
    have e0:ieq ((Go.Utf8.decode ⟨s.toArray⟩ i).2:Int) 0=false:=by rw [ieq_dec];exact decide_eq_false (by omega)
    have e3:iadd .i64 (i:Int) ((Go.Utf8.decode ⟨s.toArray⟩ i).2:Int)=((i+(Go.Utf8.decode ⟨s.toArray⟩ i).2:Nat):Int):=by rw [iadd_s (by omega) (by omega) (by omega) (by omega)];omega
    rw [show ieq ((((Go.Utf8.decode ⟨s.toArray⟩ i).1:Int),((Go.Utf8.decode ⟨s.toArray⟩ i).2:Int)):Int × Int).2 0=false from e0,br_false,room1 (show x.length<4000000 by omega),br_true]
    show z0G.l3 k n s _ (iadd .i64 (i:Int) ((Go.Utf8.decode ⟨s.toArray⟩ i).2:Int))=_
    rw [e3,rrunes_l k s hk hs f n _ _ (by omega) (by omega) (by omega) (by simp only [app,List.length_append,List.length_cons,List.length_nil];omega)]
    cases runesX ⟨s.toArray⟩ f (i+(Go.Utf8.decode ⟨s.toArray⟩ i).2) with
    | none=>rfl
    | some l=>simp [app]
  ·have e:i=s.length:=by omega
   subst e
   rw [decide_eq_false hl,br_false,runesX,if_neg (by rw [hsz];omega)]
   show some (x,true)=some (x++[],true)
   rw [List.append_nil]
theorem runes_is (k:Nat) (s:Str) (hk:10<k) (hs:s.length<k) (hk2:k<1000000):z0G.f k s=runesB s:=by
 have h:=rrunes_l k s hk (by omega) s.length k 0 [] (by omega) (by omega) (by omega) (by simp)
 have hz:Nat.ble s.length 1099511627776=true:=Nat.ble_eq_true_of_le (by omega)
 rw [z0G.f_eq]
 refine h.trans ?_
 unfold runesB
 rw [hz,cond_true];rfl
theorem may_is (k:Nat) (c:Int):z27.f k c=some (mayB c):=by
 rw [z27.f_eq,show ilt c 32=decide (c<32) from rfl]
 unfold mayB
 by_cases h1:c<32
 ·rw [decide_eq_true h1,br_true,br_true];rfl
 ·rw [decide_eq_false h1,br_false,show ile 127 c=decide (127≤c) from rfl,show ilt c 160=decide (c<160) from rfl,ieq_dec,bnot_dec]
  by_cases h2:127≤c
  ·rw [decide_eq_true h2,br_true]
   by_cases h3:c<160
   ·rw [decide_eq_true h3,br_true];rfl
   ·rw [decide_eq_false h3,br_false];simp
  ·rw [decide_eq_false h2,br_false];simp
theorem rmay_is (k:Nat) (c:Int):z1D.f k c=some (mayB c):=by
 rw [z1D.f_eq,show ile 32 c=decide (32≤c) from rfl,show ilt c 127=decide (c<127) from rfl,show ilt 159 c=decide (159<c) from rfl,ieq_dec,bnot_dec]
 unfold mayB
 by_cases h1:32≤c
 ·rw [decide_eq_true h1,br_true,decide_eq_false (show ¬ c<32 by omega)]
  by_cases h2:c<127
  ·rw [decide_eq_true h2,br_true,decide_eq_false (show ¬ 127≤c by omega)];simp
  ·rw [decide_eq_false h2,br_false,decide_eq_true (show 127≤c by omega)]
   by_cases h3:159<c
   ·rw [decide_eq_true h3,br_true,decide_eq_false (show ¬ c<160 by omega)];simp
   ·rw [decide_eq_false h3,br_false,decide_eq_true (show c<160 by omega)];rfl
 ·rw [decide_eq_false h1,br_false,decide_eq_true (show c<32 by omega)];rfl
theorem all_step {α:Type} {xs:List α} {i:Nat} (h:i<xs.length) (p:α→Bool):(xs.drop i).all p=(p xs[i] && (xs.drop (i+1)).all p):=by
 rw [List.drop_eq_getElem_cons h,List.all_cons]
theorem name_l (k:Nat) (l:List Int) (hl:l.length<1000000):∀ (n i:Nat),i≤l.length→l.length<n+i→z15.l5 k n l (ilen l) (i:Int)=some ((l.drop i).all mayB)
 | 0,i,_,h=>by omega
 | n+1,i,h,h'=>by
  rw [z15.l5_eq,ilt_nat,inL_nat,natOf_nat]
  by_cases hi:i<l.length
  ·rw [decide_eq_true hi,br_true,br_true,rd_at' (e:=.int .i32) hi,may_is,bnd_some,iadd_nat (by omega),all_step hi,name_l k l hl n (i+1) (by omega) (by omega)]
   cases mayB l[i] <;> rfl
  ·rw [decide_eq_false hi,br_false,List.drop_eq_nil_of_le (by omega)];rfl
theorem rname_l (k:Nat) (l:List Int) (b:Bool) (hl:l.length<1000000):∀ (n i:Nat),i≤l.length→l.length<n+i→z0X.l3 k n l b (i:Int)=some ((l.drop i).all mayB && (b && (decide (1≤l.length) && decide (l.length≤24))))
 | 0,i,_,h=>by omega
 | n+1,i,h,h'=>by
  rw [z0X.l3_eq,ilt_nat,inL_nat,natOf_nat]
  by_cases hi:i<l.length
  ·rw [decide_eq_true hi,br_true,br_true,rd_at' (e:=.int .i64) hi,rmay_is,bnd_some,iadd_nat (by omega),all_step hi,rname_l k l b hl n (i+1) (by omega) (by omega)]
   cases mayB l[i] <;> rfl
  ·have e1:ile 1 (ilen l)=decide (1≤l.length):=decide_eq_decide.2 ⟨fun h=>by unfold ilen at h;omega,fun h=>by unfold ilen;omega⟩
   have e2:ile (ilen l) 24=decide (l.length≤24):=ile_len 24 l
   rw [decide_eq_false hi,br_false,List.drop_eq_nil_of_le (by omega),e1,e2]
   cases b <;> cases decide (1≤l.length) <;> rfl
theorem runesB_len {s:Str} {r:List Int × Bool} (h:runesB s=some r):r.1.length≤s.length∧(r.2=false→r.1=[]):=by
 unfold runesB at h
 cases hz:Nat.ble s.length 1099511627776 with
 | false=>rw [hz] at h;cases h
 | true =>
  rw [hz,cond_true] at h
  injection h with h
  subst h
  have key:∀ (f i:Nat) (l:List Int),runesX ⟨s.toArray⟩ f i=some l→l.length≤f:=by
   intro f
   induction f with
   | zero=>intro i l h;injection h with h;subst h;simp
   | succ f ih =>
    intro i l h
    rw [runesX] at h
    by_cases hp:i<(⟨s.toArray⟩:ByteArray).size
    ·rw [if_pos hp] at h
     by_cases hb:badAt ⟨s.toArray⟩ i=true
     ·rw [if_pos hb] at h;cases h
     ·rw [if_neg hb] at h
      cases hr:runesX ⟨s.toArray⟩ f (i+(Go.Utf8.decode ⟨s.toArray⟩ i).2) with
      | none=>rw [hr] at h;cases h
      | some l' =>
       rw [hr] at h
       have h:some (((Go.Utf8.decode ⟨s.toArray⟩ i).1:Int)::l')=some l:=h
       injection h with h;subst h
       have:=ih _ _ hr
       simp only [List.length_cons];omega
    ·rw [if_neg hp] at h;injection h with h;subst h;simp
  cases hr:runesX ⟨s.toArray⟩ s.length 0 with
  | none=>exact ⟨by simp,fun _=>rfl⟩
  | some l=>exact ⟨key _ _ _ hr,fun h=>by cases h⟩
theorem name_is (k:Nat) (s:Str) (hk:10<k) (hs:s.length<k) (hk2:k<1000000):∃ b,z15.f k s=some b∧z0X.f k s=some b:=by
 have hz:Nat.ble s.length 1099511627776=true:=Nat.ble_eq_true_of_le (by omega)
 obtain ⟨r,hr⟩:∃ r,runesB s=some r:=⟨_,by unfold runesB;rw [hz,cond_true]⟩
 obtain ⟨l1,l2⟩:=runesB_len hr
 rw [z0X.f_eq,runes_is k s hk hs hk2,hr,bnd_some,z15.f_eq,hr,bnd_some]
 have g2:=rname_l k r.1 r.2 (by omega) k 0 (by omega) (by omega)
 have g1:=name_l k r.1 (by omega) k 0 (by omega) (by omega)
 rw [List.drop_zero] at g1 g2
 refine ⟨_,?_,g2⟩
 cases h2:r.2 with
 | false=>rw [l2 h2];rfl
 | true =>
  have bt:bnot true=false:=rfl
  have e0:ieq (ilen r.1) 0=decide (r.1.length=0):=ieq0 r.1
  rw [bt,br_false,e0,show ilt 24 (ilen r.1)=decide (24<r.1.length) from ilt_lenR 24 r.1]
  by_cases c1:r.1.length=0
  ·rw [decide_eq_true c1,br_true,decide_eq_false (show ¬ 1≤r.1.length by omega)];simp
  ·rw [decide_eq_false c1,br_false,decide_eq_true (show 1≤r.1.length by omega)]
   by_cases c2:24<r.1.length
   ·rw [decide_eq_true c2,br_true,decide_eq_false (show ¬ r.1.length≤24 by omega)];simp
   ·rw [decide_eq_false c2,br_false,decide_eq_true (show r.1.length≤24 by omega)]
    refine g1.trans ?_
    simp
theorem val_is (k:Nat) (v:Val) (hk:10<k) (hs:v.2.2.length<k) (hk2:k<1000000):∃ b,z0W.f k v=some b∧z0D.f k v=some b:=by
 have hz:Nat.ble v.2.2.length 1099511627776=true:=Nat.ble_eq_true_of_le (by omega)
 obtain ⟨r,hr⟩:∃ r,runesB v.2.2=some r:=⟨_,by unfold runesB;rw [hz,cond_true]⟩
 rw [z0W.f_eq,z0D.f_eq,runes_is k v.2.2 hk hs hk2,hr]
 simp only [bnd_some]
 cases ieq v.1 1 with
 | true =>
  simp only [br_true]
  cases seq v.2.2 [] <;> cases ile (-2147483647) v.2.1 <;> exact ⟨_,rfl,rfl⟩
 | false =>
  simp only [br_false]
  cases ieq v.1 2 with
  | true =>
   simp only [br_true]
   cases r.2 <;> cases ieq v.2.1 0 <;> exact ⟨_,rfl,rfl⟩
  | false =>
   simp only [br_false]
   cases ieq v.1 3 with
   | false=>exact ⟨_,rfl,rfl⟩
   | true =>
    simp only [br_true]
    cases seq v.2.2 [] with
    | false=>exact ⟨_,rfl,rfl⟩
    | true =>
     simp only [br_true]
     rw [ieq_dec,show ile 0 v.2.1=decide (0≤v.2.1) from rfl,show ile v.2.1 1=decide (v.2.1≤1) from rfl,ieq_dec]
     by_cases h0:v.2.1=0
     ·rw [decide_eq_true h0,br_true,decide_eq_true (show 0≤v.2.1 by omega),br_true,decide_eq_true (show v.2.1≤1 by omega)];exact ⟨_,rfl,rfl⟩
     ·rw [decide_eq_false h0,br_false]
      by_cases h1:v.2.1=1
      ·rw [decide_eq_true h1,decide_eq_true (show 0≤v.2.1 by omega),br_true,decide_eq_true (show v.2.1≤1 by omega)];exact ⟨_,rfl,rfl⟩
      ·rw [decide_eq_false h1]
       by_cases h2:0≤v.2.1
       ·rw [decide_eq_true h2,br_true,decide_eq_false (show ¬ v.2.1≤1 by omega)];exact ⟨_,rfl,rfl⟩
       ·rw [decide_eq_false h2,br_false];exact ⟨_,rfl,rfl⟩
end Go.Proofs.YtggcagclpkhlhaaGreatDoor
end
noncomputable section
/- Paths, operations, transactions: the program's tests are the document's. -/
namespace Go.Proofs.YtggcagclpkhlhaaGreatDoor
open Pal
theorem path_l (k:Nat) (p:List Str) (hp:∀ s ∈ p,List.length s<k) (hk:10<k) (hk2:k<1000000) (hl:p.length<1000000):∀ (n i:Nat),i≤p.length→p.length<n+i →
  ∃ r:Int,z04.l2 k n p (ilen p) (i:Int)=some r∧z0L.l6 k n p (i:Int)=some (if 0≤r then 8 else 0)
 | 0,i,_,h=>by omega
 | n+1,i,h,h'=>by
  rw [z04.l2_eq,z0L.l6_eq,ilt_nat,inL_nat,natOf_nat]
  by_cases hi:i<p.length
  ·obtain ⟨b,g1,g2⟩:=name_is k p[i] hk (hp _ (List.getElem_mem hi)) hk2
   rw [decide_eq_true hi,br_true,br_true,br_true,br_true,rd_at' (e:=.str) hi,z0B.f_eq,g1,g2,bnd_some,bnd_some,bnd_some,iadd_nat (by omega)]
   cases b with
   | false=>exact ⟨(i:Int),rfl,by rw [if_pos (by omega)];rfl⟩
   | true=>exact path_l k p hp hk hk2 hl n (i+1) (by omega) (by omega)
  ·rw [decide_eq_false hi,br_false,br_false];exact ⟨-1,rfl,rfl⟩
theorem path_is (k:Nat) (p:List Str) (hp:∀ s ∈ p,List.length s<k) (hk:10<k) (hk2:k<1000000) (hl:p.length<k):∃ e:Int,z11.f k p=some e∧z0L.f k p=some e:=by
 rw [z11.f_eq,z0L.f_eq,z03.f_eq,z04.f_eq]
 cases ieq (ilen p) 0 with
 | true=>exact ⟨8,rfl,rfl⟩
 | false =>
  cases ilt 8 (ilen p) with
  | true=>exact ⟨9,rfl,rfl⟩
  | false =>
   obtain ⟨r,g1,g2⟩:=path_l k p hp hk hk2 (by omega) k 0 (by omega) (by omega)
   rw [show ((0:Nat):Int)=0 from rfl] at g1 g2
   rw [br_false,br_false,br_false,br_false,g1,g2,bnd_some,bnd_some,show ile 0 r=decide (0≤r) from rfl]
   by_cases h:0≤r
   ·rw [decide_eq_true h,br_true,if_pos h];exact ⟨8,rfl,rfl⟩
   ·rw [decide_eq_false h,br_false,if_neg h];exact ⟨0,rfl,rfl⟩
def cmpR (a b:Dot × Int):Int:=if cmpD a.1 b.1=0 then cmpI a.2 b.2 else cmpD a.1 b.1
theorem cmpI_three (a b:Int):cmpI a b=-1∨cmpI a b=0∨cmpI a b=1:=by unfold cmpI;split <;> (try split) <;> simp
theorem cmpR_three (a b:Dot × Int):cmpR a b=-1∨cmpR a b=0∨cmpR a b=1:=by
 unfold cmpR cmpD
 have h1:=cmpI_three a.1.1 b.1.1;have h2:=cmpI_three a.1.2 b.1.2;have h3:=cmpI_three a.2 b.2
 split <;> (try split) <;> assumption
theorem ref_is (k:Nat) (a b:Dot × Int) (h3:3≤k):z1Z.f k a b=some (cmpR a b):=by
 obtain ⟨q,rfl⟩:∃ q,k=q+3:=⟨k - 3,by omega⟩
 rw [z1Z.f_eq,cmpD_is,cmpI_is,bnd_some,bnd_some,or2,bnd_some];rfl
theorem ints_is (k:Nat) (a b:Int):z1l.f k a b=some (cmpI a b):=by
 rw [z1l.f_eq]
 unfold cmpI
 by_cases h1:a<b
 ·simp [ilt,h1,br_true]
 ·by_cases h2:b<a <;> simp [ilt,h1,h2,br_true,br_false]
theorem rref_is (k:Nat) (a b:Dot × Int):z1r.f k a b=some (cmpR a b):=by
 rw [z1r.f_eq,rcmp_is,bnd_some,bnd_some,ints_is,bnd_some,ieq_dec,bnot_dec]
 unfold cmpR
 by_cases h:cmpD a.1 b.1=0
 ·rw [decide_eq_false (by simp [h]),br_false,if_pos h]
 ·rw [decide_eq_true h,br_true,if_neg h]
theorem refs_l (k:Nat) (l:List (Dot × Int)) (h3:3≤k) (hl:l.length<1000000):∀ (n i:Nat),i≤l.length→l.length<n+i→∃ b,z2d.l2 k n l l (ilen l) (i:Int)=some b∧z1e.l2 k n l (i:Int)=some b
 | 0,i,_,h=>by omega
 | n+1,i,h,h'=>by
  rw [z2d.l2_eq,z1e.l2_eq,ilt_nat,inL_nat,natOf_nat]
  by_cases hi:i<l.length
  ·have ih:=refs_l k l h3 hl n (i+1) (by omega) (by omega)
   rw [decide_eq_true hi,rd_at' (e:=tUndo) hi,right_is,rright_is,iadd_nat (by omega)]
   simp only [br_true,bnd_some]
   cases rightD l[i].1 with
   | false=>exact ⟨false,rfl,rfl⟩
   | true =>
    have bt:bnot true=false:=rfl
    simp only [bt,br_false]
    cases ilt l[i].2 0 with
    | true=>exact ⟨false,rfl,rfl⟩
    | false =>
     simp only [br_false]
     rw [show ile 16 l[i].2=decide (16≤l[i].2) from rfl,show ilt 15 l[i].2=decide (16≤l[i].2) from decide_eq_decide.2 ⟨fun h=>by omega,fun h=>by omega⟩]
     by_cases h16:16≤l[i].2
     ·rw [decide_eq_true h16];exact ⟨false,rfl,rfl⟩
     ·rw [decide_eq_false h16]
      simp only [br_false]
      rw [show ilt 0 (i:Int)=decide (0<i) from ilt_nn 0 i]
      by_cases hp:0<i
      ·have hi1:i - 1<l.length:=by omega
       have e3:isub .i64 (i:Int) 1=((i - 1:Nat):Int):=by rw [isub_s (by omega) (by omega) (by omega) (by omega)];omega
       rw [decide_eq_true hp,br_true,br_true,e3,inL_nat,natOf_nat,rd_at' (e:=tUndo) hi1,decide_eq_true hi1,br_true,br_true,ref_is k _ _ h3,rref_is,bnd_some,bnd_some,ieq_dec,bnot_dec,
        show ile 0 (cmpR l[i - 1] l[i])=decide (0≤cmpR l[i - 1] l[i]) from rfl]
       rcases cmpR_three l[i - 1] l[i] with e | e | e
       ·rw [e,decide_eq_false (by decide),decide_eq_false (by decide),br_false,br_false];exact ih
       ·rw [e];exact ⟨false,rfl,rfl⟩
       ·rw [e];exact ⟨false,rfl,rfl⟩
      ·rw [decide_eq_false hp,br_false,br_false];exact ih
  ·rw [decide_eq_false hi,br_false,br_false];exact ⟨true,rfl,rfl⟩
theorem refs_is (k:Nat) (l:List (Dot × Int)) (h3:3≤k) (hl:l.length<k) (hk:k<1000000):∃ b,z2d.f k l=some b∧z1e.f k l=some b:=by
 rw [z2d.f_eq,z1e.f_eq]
 exact refs_l k l h3 (by omega) k 0 (by omega) (by omega)
theorem ile_bnot (a b:Int):ile a b=bnot (ilt b a):=by
 show decide (a≤b)=!decide (b<a)
 by_cases h:a≤b
 ·rw [decide_eq_true h,decide_eq_false (by omega)];rfl
 ·rw [decide_eq_false h,decide_eq_true (by omega)];rfl
theorem gone_both (k:Nat) (o:Op):z2e.f k o=z1i.f k o:=by rw [z2e.f_eq,z1i.f_eq]
set_option maxHeartbeats 4000000 in
theorem op_is (k:Nat) (o:Op) (hp:∀ s ∈ o.2.1,List.length s<k) (hpl:o.2.1.length<k) (hv:o.2.2.1.2.2.length<k) (hs:o.2.2.2.2.length<k) (hk:10<k) (hk2:k<1000000):∃ e:Int,z1W.f k o=some e∧z0F.f k o=some e:=by
 obtain ⟨e1,p1,p2⟩:=path_is k o.2.1 hp hk hk2 hpl
 obtain ⟨b1,v1,v2⟩:=val_is k o.2.2.1 hk hv hk2
 obtain ⟨b2,r1,r2⟩:=refs_is k o.2.2.2.2 (by omega) hs hk2
 rw [z1W.f_eq,z0F.f_eq,z1M.f_eq,z1O.f_eq,p1,p2,v1,v2,r1,r2]
 obtain ⟨K,P,V,A,S⟩:=o
 simp only at *
 have bt:bnot true=false:=rfl
 have bf:bnot false=true:=rfl
 by_cases h1:K<1
 ·rw [show ilt K 1=true from decide_eq_true h1];exact ⟨18,rfl,rfl⟩
 by_cases h5:5<K
 ·rw [show ilt K 1=false from decide_eq_false h1,show ilt 5 K=true from decide_eq_true h5];exact ⟨18,rfl,rfl⟩
 have hK:K=1∨K=2∨K=3∨K=4∨K=5:=by omega
 rw [show ilt K 1=false from decide_eq_false h1,show ilt 5 K=false from decide_eq_false h5]
 clear h1 h5 p1 p2 v1 v2 r1 r2 hp hpl hv hs
 have i1:ile A 2147483647=bnot (ilt 2147483647 A):=ile_bnot _ _
 have i2:ile (-2147483647) A=bnot (ilt A (-2147483647)):=ile_bnot _ _
 rw [i1,i2]
 rcases hK with rfl | rfl | rfl | rfl | rfl
 ·simp only [show ieq (1:Int) 1=true from rfl,show ieq (1:Int) 2=false from rfl,show ieq (1:Int) 3=false from rfl,show ieq (1:Int) 4=false from rfl,show ieq (1:Int) 5=false from rfl,br_true,br_false,bt,bf,bnd_some]
  cases ieq e1 0 <;> cases b1 <;> cases ieq A 0 <;> cases ilt 256 (ilen S) <;> cases b2 <;> exact ⟨_,rfl,rfl⟩
 ·simp only [show ieq (2:Int) 1=false from rfl,show ieq (2:Int) 2=true from rfl,show ieq (2:Int) 3=false from rfl,show ieq (2:Int) 4=false from rfl,show ieq (2:Int) 5=false from rfl,br_true,br_false,bt,bf,bnd_some]
  cases ieq e1 0 <;> cases b1 <;> cases ieq A 0 <;> cases ilt 0 (ilen S) <;> cases ilt 256 (ilen S) <;> cases b2 <;> exact ⟨_,rfl,rfl⟩
 ·simp only [show ieq (3:Int) 1=false from rfl,show ieq (3:Int) 2=false from rfl,show ieq (3:Int) 3=true from rfl,show ieq (3:Int) 4=false from rfl,show ieq (3:Int) 5=false from rfl,br_true,br_false,bt,bf,bnd_some]
  cases ieq e1 0 <;> cases deq tValue V (0,(0,[])) <;> cases ieq A 0 <;> cases ilt 2147483647 A <;> cases ilt A (-2147483647) <;> cases ilt 0 (ilen S) <;> cases ilt 256 (ilen S) <;> cases b2 <;> exact ⟨_,rfl,rfl⟩
 ·simp only [show ieq (4:Int) 1=false from rfl,show ieq (4:Int) 2=false from rfl,show ieq (4:Int) 3=false from rfl,show ieq (4:Int) 4=true from rfl,show ieq (4:Int) 5=false from rfl,br_true,br_false,bt,bf,bnd_some]
  cases ieq e1 0 <;> cases b1 <;> cases ieq A 0 <;> cases ilt 256 (ilen S) <;> cases b2 <;> exact ⟨_,rfl,rfl⟩
 ·simp only [show ieq (5:Int) 1=false from rfl,show ieq (5:Int) 2=false from rfl,show ieq (5:Int) 3=false from rfl,show ieq (5:Int) 4=false from rfl,show ieq (5:Int) 5=true from rfl,br_true,br_false,bt,bf,bnd_some]
  cases ieq e1 0 <;> cases deq tValue V (0,(0,[])) <;> cases ieq A 0 <;> cases ilt 256 (ilen S) <;> cases b2 <;> exact ⟨_,rfl,rfl⟩
end Go.Proofs.YtggcagclpkhlhaaGreatDoor
end
noncomputable section
/- Transactions: the program's test is the document's. -/
namespace Go.Proofs.YtggcagclpkhlhaaGreatDoor
open Pal
theorem gone_tot (k:Nat) (o:Op):∃ g,z2e.f k o=some g∧z1i.f k o=some g:=by
 rw [← gone_both,z2e.f_eq]
 cases ieq o.1 0 with
 | false=>exact ⟨_,rfl,rfl⟩
 | true =>
  cases ieq (ilen o.2.1) 0 with
  | false=>exact ⟨_,rfl,rfl⟩
  | true =>
   cases deq tValue o.2.2.1 (0,(0,[])) with
   | false=>exact ⟨_,rfl,rfl⟩
   | true=>cases ieq o.2.2.2.1 0 <;> exact ⟨_,rfl,rfl⟩
structure SizO (k:Nat) (o:Op):Prop where
 path:∀ s ∈ o.2.1,List.length s<k
 names:o.2.1.length<k
 val:o.2.2.1.2.2.length<k
 seen:o.2.2.2.2.length<k
theorem txn_l (k:Nat) (t:Txn) (ho:∀ o ∈ t.2.2.2.2,SizO k o) (hl:t.2.2.2.2.length<1000000) (hk:10<k) (hk2:k<1000000):∀ (n i:Nat),i≤t.2.2.2.2.length→t.2.2.2.2.length<n+i →
  ∃ e:Int,z1L.l10 k n t.2.2.2.2 (ilen t.2.2.2.2) (i:Int) t=some e∧z0N.l8 k n (i:Int) t=some e
 | 0,i,_,h=>by omega
 | n+1,i,h,h'=>by
  rw [z1L.l10_eq,z0N.l8_eq,ilt_nat,inL_nat,natOf_nat]
  by_cases hi:i<t.2.2.2.2.length
  ·have ih:=txn_l k t ho hl hk hk2 n (i+1) (by omega) (by omega)
   have so:=ho _ (List.getElem_mem hi)
   obtain ⟨e,p1,p2⟩:=op_is k t.2.2.2.2[i] so.path so.names so.val so.seen hk hk2
   obtain ⟨g,q1,q2⟩:=gone_tot k t.2.2.2.2[i]
   rw [decide_eq_true hi,rd_at' (e:=tOp) hi,p1,p2,q1,q2,iadd_nat (by omega)]
   simp only [br_true,bnd_some]
   have bt:bnot true=false:=rfl
   have bf:bnot false=true:=rfl
   cases t.2.2.2.1 with
   | true =>
    simp only [br_true]
    cases g with
    | true =>
     simp only [br_true,bt,br_false]
     cases ieq e 0 <;> exact ih
    | false =>
     simp only [br_false,bf,br_true]
     cases ieq e 0 with
     | true=>exact ih
     | false=>exact ⟨e,rfl,rfl⟩
   | false =>
    simp only [br_false,bf,br_true]
    cases ieq e 0 with
    | true=>exact ih
    | false=>exact ⟨e,rfl,rfl⟩
  ·rw [decide_eq_false hi,br_false,br_false];exact ⟨0,rfl,rfl⟩
theorem txn_is (k:Nat) (t:Txn) (ho:∀ o ∈ t.2.2.2.2,SizO k o) (hl:t.2.2.2.2.length<k) (hk:10<k) (hk2:k<1000000):∃ e:Int,z1L.f k t=some e∧z0N.f k t=some e:=by
 obtain ⟨e,g1,g2⟩:=txn_l k t ho (by omega) hk hk2 k 0 (by omega) (by omega)
 rw [show ((0:Nat):Int)=0 from rfl] at g1 g2
 have bt:bnot true=false:=rfl
 have bf:bnot false=true:=rfl
 rw [z1L.f_eq,z0N.f_eq,right_is,rright_is,g1,g2,show ilt 7 t.2.1=ile 8 t.2.1 from decide_eq_decide.2 ⟨fun h=>by omega,fun h=>by omega⟩]
 simp only [bnd_some]
 cases rightD t.1 with
 | false=>exact ⟨2,rfl,rfl⟩
 | true =>
  simp only [bt,br_false]
  cases ilt t.2.1 0 <;> cases ile 8 t.2.1 <;> cases ilt t.2.2.1 1 <;> cases ilt 1099511627776 t.2.2.1 <;> cases ieq (ilen t.2.2.2.2) 0 <;> cases ilt 16 (ilen t.2.2.2.2) <;> exact ⟨_,rfl,rfl⟩
end Go.Proofs.YtggcagclpkhlhaaGreatDoor
end
noncomputable section
/- Readers: the program's and the document's read the same. -/
namespace Go.Proofs.YtggcagclpkhlhaaGreatDoor
open Pal
abbrev Rdr:=List UInt8 × Int
abbrev RefRdr:=List UInt8 × (Int × Int)
structure RR (S:List UInt8) (r:Rdr) (x:RefRdr):Prop where
 src:x.1=S
 lo:0≤x.2.1
 hi:x.2.1≤(S.length:Int)
 bad:r.2=x.2.2
 rest:x.2.2=0→r.1=S.drop x.2.1.toNat
theorem fine_is (k:Nat) (o:Rdr):z0l.f k o=some (decide (o.2=0),o):=by rw [z0l.f_eq,ieq_dec]
theorem fail_is (k:Nat) (e:Int) (o:Rdr):z0h.f k e o=some ((),if o.2=0 then (o.1,e) else o):=by
 rw [z0h.f_eq,fine_is]
 simp only [bnd_some,br_dec]
 split <;> rfl
theorem byte_lt (b:UInt8):b.toNat<256:=b.toNat_lt
theorem byteAt_drop (S:List UInt8) (a i:Nat):byteAt (S.drop a) (i:Int)=byteAt S ((a+i:Nat):Int):=by
 unfold byteAt
 rw [Int.toNat_natCast,Int.toNat_natCast]
 simp [List.getD]
theorem byteAt_rng (S:List UInt8) (i:Int):0≤byteAt S i∧byteAt S i<256:=by
 unfold byteAt
 have:=byte_lt (S.getD i.toNat 0);omega
theorem wrap64 {n:Int} (h1:-9000000000000000000≤n) (h2:n≤9000000000000000000):IntKind.wrap .i64 n=n:=by
 have e1:((2:Int) ^ 63)=9223372036854775808:=by decide
 exact wrap_i64 (by rw [e1];omega) (by rw [e1];omega)
theorem iand127 {c:Nat} (h:c<9000000000000000000):iand .i64 (c:Int) 127=((c % 128:Nat):Int):=by
 show IntKind.wrap .i64 (((BitVec.ofInt 64 (c:Int) &&& BitVec.ofInt 64 127).toNat:Nat):Int)=_
 have e:(BitVec.ofInt 64 (c:Int) &&& BitVec.ofInt 64 127).toNat=c % 128:=by
  have e1:BitVec.ofInt 64 (c:Int)=BitVec.ofNat 64 c:=by simp
  have e2:BitVec.ofInt 64 127=BitVec.ofNat 64 127:=by decide
  rw [e1,e2,BitVec.toNat_and,BitVec.toNat_ofNat,BitVec.toNat_ofNat,Nat.mod_eq_of_lt (show c<2 ^ 64 by omega),show 127 % 2 ^ 64=2 ^ 7 - 1 by decide,Nat.and_two_pow_sub_one_eq_mod]
 rw [e,wrap64 (by omega) (by omega)]
theorem ior_add {a b m:Nat} (ha:a<2 ^ m) (hb:2 ^ m * b+a<9000000000000000000):ior .i64 (a:Int) ((2 ^ m * b:Nat):Int)=((2 ^ m * b+a:Nat):Int):=by
 show IntKind.wrap .i64 (((BitVec.ofInt 64 (a:Int) ||| BitVec.ofInt 64 ((2 ^ m * b:Nat):Int)).toNat:Nat):Int)=_
 have e:(BitVec.ofInt 64 (a:Int) ||| BitVec.ofInt 64 ((2 ^ m * b:Nat):Int)).toNat=2 ^ m * b+a:=by
  have e1:∀ c:Nat,BitVec.ofInt 64 (c:Int)=BitVec.ofNat 64 c:=fun c=>by simp
  rw [e1,e1,BitVec.toNat_or,BitVec.toNat_ofNat,BitVec.toNat_ofNat,Nat.mod_eq_of_lt (show a<2 ^ 64 by omega),Nat.mod_eq_of_lt (show 2 ^ m * b<2 ^ 64 by omega),Nat.or_comm,Nat.two_pow_add_eq_or_of_lt ha]
 rw [e,wrap64 (by omega) (by omega)]
theorem pow_mono {i:Nat} (h:i≤8):2 ^ (7 * i)≤72057594037927936:=by
 have:2 ^ (7 * i)≤2 ^ 56:=Nat.pow_le_pow_right (by decide) (by omega)
 exact this
theorem pow_mono7 {i:Nat} (h:i<8):2 ^ (7 * i)≤562949953421312:=by
 have:2 ^ (7 * i)≤2 ^ 49:=Nat.pow_le_pow_right (by decide) (by omega)
 exact this
theorem num_step {i c n:Nat} (hi:i<8) (hc:c<256) (hn:n<2 ^ (7 * i)) :
  ior .i64 (n:Int) (ishl .i64 (iand .i64 (c:Int) 127) (imul .i64 7 (i:Int)))=((2 ^ (7 * i) * (c % 128)+n:Nat):Int)∧2 ^ (7 * i) * (c % 128)+n<2 ^ (7 * (i+1)):=by
 have hp:=pow_mono7 hi
 have hp1:=pow_mono (show i+1≤8 by omega)
 have e7:2 ^ (7 * (i+1))=2 ^ (7 * i) * 128:=by rw [show 7 * (i+1)=7 * i+7 by omega,Nat.pow_add]
 have hm:c % 128≤127:=by omega
 have hmul:2 ^ (7 * i) * (c % 128)≤2 ^ (7 * i) * 127:=Nat.mul_le_mul_left _ hm
 have hlt:2 ^ (7 * i) * (c % 128)+n<2 ^ (7 * (i+1)):=by rw [e7];omega
 refine ⟨?_,hlt⟩
 have e1:imul .i64 7 (i:Int)=((7 * i:Nat):Int):=by
  show IntKind.wrap .i64 (7 * (i:Int))=_
  rw [wrap64 (by omega) (by omega)];omega
 have e2:ishl .i64 ((c % 128:Nat):Int) ((7 * i:Nat):Int)=((2 ^ (7 * i) * (c % 128):Nat):Int):=by
  show IntKind.wrap .i64 (((c % 128:Nat):Int) * 2 ^ (min ((7 * i:Nat):Int).toNat 64))=_
  have:min ((7 * i:Nat):Int).toNat 64=7 * i:=by omega
  rw [this]
  have e3:((c % 128:Nat):Int) * 2 ^ (7 * i)=((2 ^ (7 * i) * (c % 128):Nat):Int):=by
   rw [Int.natCast_mul,Int.natCast_pow,Int.mul_comm];rfl
  rw [e3,wrap64 (by omega) (by omega)]
 rw [iand127 (by omega),e1,e2,ior_add hn (by omega)]
theorem ref_step {i c n:Nat} (hi:i<8) (hc:c<256) (hn:n<2 ^ (7 * i)) (hc2:128≤c) :
  iadd .i64 (n:Int) (imul .i64 (isub .i64 (c:Int) 128) ((2 ^ (7 * i):Nat):Int))=((2 ^ (7 * i) * (c % 128)+n:Nat):Int):=by
 have hp:=pow_mono7 hi
 have e1:isub .i64 (c:Int) 128=((c % 128:Nat):Int):=by
  show IntKind.wrap .i64 ((c:Int) - 128)=_
  rw [wrap64 (by omega) (by omega)];omega
 have hmul:(c % 128) * 2 ^ (7 * i)≤127 * 2 ^ (7 * i):=Nat.mul_le_mul_right _ (by omega)
 have e2:imul .i64 ((c % 128:Nat):Int) ((2 ^ (7 * i):Nat):Int)=(((c % 128) * 2 ^ (7 * i):Nat):Int):=by
  show IntKind.wrap .i64 (((c % 128:Nat):Int) * ((2 ^ (7 * i):Nat):Int))=_
  rw [← Int.natCast_mul,wrap64 (by omega) (by omega)]
 rw [e1,e2]
 show IntKind.wrap .i64 ((n:Int)+(((c % 128) * 2 ^ (7 * i):Nat):Int))=_
 rw [wrap64 (by omega) (by omega),Nat.mul_comm];omega
theorem ref_last {i c n:Nat} (hi:i<8) (hn:n<2 ^ (7 * i)) (hc2:c<128) :
  iadd .i64 (n:Int) (imul .i64 (c:Int) ((2 ^ (7 * i):Nat):Int))=((2 ^ (7 * i) * (c % 128)+n:Nat):Int):=by
 have hp:=pow_mono7 hi
 have hmul:c * 2 ^ (7 * i)≤127 * 2 ^ (7 * i):=Nat.mul_le_mul_right _ (by omega)
 have e2:imul .i64 (c:Int) ((2 ^ (7 * i):Nat):Int)=((c * 2 ^ (7 * i):Nat):Int):=by
  show IntKind.wrap .i64 ((c:Int) * ((2 ^ (7 * i):Nat):Int))=_
  rw [← Int.natCast_mul,wrap64 (by omega) (by omega)]
 rw [e2,Nat.mod_eq_of_lt (show c<128 by omega)]
 show IntKind.wrap .i64 ((n:Int)+((c * 2 ^ (7 * i):Nat):Int))=_
 rw [wrap64 (by omega) (by omega),Nat.mul_comm];omega
theorem unit_step {i:Nat} (hi:i<8):imul .i64 ((2 ^ (7 * i):Nat):Int) 128=((2 ^ (7 * (i+1)):Nat):Int):=by
 have hp:=pow_mono7 hi
 have e7:2 ^ (7 * (i+1))=2 ^ (7 * i) * 128:=by rw [show 7 * (i+1)=7 * i+7 by omega,Nat.pow_add]
 show IntKind.wrap .i64 (((2 ^ (7 * i):Nat):Int) * 128)=_
 rw [wrap64 (by omega) (by omega),e7];omega
theorem rr_bad {S s:List UInt8} {a:Nat} {e:Int} (h:a≤S.length) (he:e ≠ 0):RR S (s,e) (S,((a:Int),e)) :=
 ⟨rfl,by show (0:Int)≤(a:Int);omega,by show (a:Int)≤(S.length:Int);omega,rfl,fun hh=>absurd hh he⟩
def IntOK (S:List UInt8) (p:Option (Int × Rdr)) (q:Option (Int × RefRdr)):Prop :=
 ∃ n r x,p=some (n,r)∧q=some (n,x)∧RR S r x∧0≤n∧n<72057594037927936∧(x.2.2 ≠ 0→n=0)
theorem int_bad (k m:Nat) (a b:Int) (s:List UInt8) (e:Int) (he:e ≠ 0):z0m.l3 k (m+1) a b (s,e)=some (0,(s,e)):=by
 rw [z0m.l3_eq,fine_is]
 simp only [bnd_some,he,decide_false,br_false]
theorem int_fin {S:List UInt8} {a i:Nat} (hl:a+i<S.length) (hS:S.length<4000000) {v:Int} (h0:0≤v) (h1:v<72057594037927936) :
  IntOK S (br (inS ((i+1:Nat):Int) (ilen (S.drop a)) (ilen (S.drop a))) (some (v,((piece (S.drop a) ((i+1:Nat):Int) (ilen (S.drop a))),(0:Int)))) none) (some (v,(S,((iadd .i64 ((a+i:Nat):Int) 1),(0:Int))))):=by
 have hin:inS ((i+1:Nat):Int) (ilen (S.drop a)) (ilen (S.drop a))=true:=by
  have q1:((i+1:Nat):Int)≤((S.drop a).length:Int):=by rw [List.length_drop];omega
  show (decide ((0:Int)≤((i+1:Nat):Int)) && decide (((i+1:Nat):Int)≤((S.drop a).length:Int)) && decide (((S.drop a).length:Int)≤((S.drop a).length:Int)))=true
  rw [decide_eq_true q1,decide_eq_true (show (0:Int)≤((i+1:Nat):Int) by omega),decide_eq_true (Int.le_refl _)];rfl
 rw [hin,iadd_nat (by omega)]
 refine ⟨_,_,_,rfl,rfl,⟨rfl,by show (0:Int)≤((a+i+1:Nat):Int);omega,by show ((a+i+1:Nat):Int)≤(S.length:Int);omega,rfl,fun _=>?_⟩,h0,h1,fun h=>absurd rfl h⟩
 show piece (S.drop a) ((i+1:Nat):Int) (ilen (S.drop a))=S.drop ((a+i+1:Nat):Int).toNat
 unfold piece ilen
 rw [Int.toNat_natCast,Int.toNat_natCast,Int.toNat_natCast,List.take_length,List.drop_drop]
 congr 1
theorem int_end (k:Nat) (S:List UInt8) (a:Nat) (ha:a≤S.length) (n u:Int) (m1 m2:Nat) :
  IntOK S (z0m.l3 k (m1+2) n ((8:Nat):Int) (S.drop a,0)) (z0g.l5 k (m2+1) n u ((8:Nat):Int) (S,((a:Int),0))):=by
  rw [z0m.l3_eq,z0g.l5_eq,fine_is]
  have e1:ieq ((8:Nat):Int) 8=true:=rfl
  have e2:ilt ((8:Nat):Int) 8=false:=rfl
  simp only [bnd_some,decide_true,br_true,e1,e2,br_false,fail_is,if_true]
  rw [int_bad k m1 _ _ _ 6 (by decide)]
  exact ⟨0,_,_,rfl,rfl,rr_bad ha (by decide),by decide,by decide,fun _=>rfl⟩
theorem int_step (k:Nat) (S:List UInt8) (a:Nat) (ha:a≤S.length) (hS:S.length<4000000) (i n m1 m2:Nat) (hi8:i<8) (hn:n<2 ^ (7 * i))
  (ih:∀ v:Nat,v<2 ^ (7 * (i+1))→IntOK S (z0m.l3 k (m1+1) (v:Int) ((i+1:Nat):Int) (S.drop a,0)) (z0g.l5 k m2 (v:Int) ((2 ^ (7 * (i+1)):Nat):Int) ((i+1:Nat):Int) (S,((a:Int),0)))) :
  IntOK S (z0m.l3 k (m1+2) (n:Int) (i:Int) (S.drop a,0)) (z0g.l5 k (m2+1) (n:Int) ((2 ^ (7 * i):Nat):Int) (i:Int) (S,((a:Int),0))):=by
  rw [z0m.l3_eq,z0g.l5_eq,fine_is]
  have e1:ieq (i:Int) 8=false:=by rw [ieq_dec];exact decide_eq_false (by omega)
  have e2:ilt (i:Int) 8=true:=decide_eq_true (by omega)
  have e3:iadd .i64 (a:Int) (i:Int)=((a+i:Nat):Int):=by rw [iadd_s (by omega) (by omega) (by omega) (by omega)];omega
  have e4:ile (ilen (S.drop a)) (i:Int)=decide (S.length≤a+i):=by
   unfold ile ilen;rw [List.length_drop];exact decide_eq_decide.2 ⟨fun h=>by omega,fun h=>by omega⟩
  have e5:ile (ilen S) ((a+i:Nat):Int)=decide (S.length≤a+i):=by
   unfold ile ilen;exact decide_eq_decide.2 ⟨fun h=>by omega,fun h=>by omega⟩
  have e6:inL (i:Int) (S.drop a)=decide (a+i<S.length):=by
   rw [inL_nat,List.length_drop];exact decide_eq_decide.2 ⟨fun h=>by omega,fun h=>by omega⟩
  have e8':inL ((a+i:Nat):Int) S=decide (a+i<S.length):=inL_nat _ _
  have e7:ilt (imul .i64 7 (i:Int)) 0=false:=by
   show decide (IntKind.wrap .i64 (7 * (i:Int))<0)=false
   rw [wrap64 (by omega) (by omega)];exact decide_eq_false (by omega)
  simp only [bnd_some,decide_true,br_true,e1,e2,br_false,fail_is,if_true,e3,e4,e5,e6,e7,e8',byteAt_drop]
  by_cases hl:S.length≤a+i
  ·simp only [hl,decide_true,br_true]
   rw [int_bad k m1 _ _ _ 4 (by decide)]
   exact ⟨0,_,_,rfl,rfl,rr_bad ha (by decide),by decide,by decide,fun _=>rfl⟩
  ·have hl2:a+i<S.length:=by omega
   simp only [hl,hl2,decide_true,decide_false,br_true,br_false]
   have hcr:=byteAt_rng S ((a+i:Nat):Int)
   obtain ⟨c,hc⟩:∃ c:Nat,byteAt S ((a+i:Nat):Int)=(c:Int):=⟨(byteAt S ((a+i:Nat):Int)).toNat,by omega⟩
   rw [hc] at hcr ⊢
   have hw:iwrap .i64 (c:Int)=(c:Int):=wrap64 (by omega) (by omega)
   have hc256:c<256:=by omega
   obtain ⟨g1,g2⟩:=num_step (c:=c) hi8 hc256 hn
   have e12:iadd .i64 (i:Int) 1=((i+1:Nat):Int):=iadd_nat (by omega)
   rw [hw,g1,e12]
   have e8:ile 128 (c:Int)=decide (128≤c):=by unfold ile;exact decide_eq_decide.2 ⟨fun h=>by omega,fun h=>by omega⟩
   have e9:ilt (c:Int) 128=decide (c<128):=by unfold ilt;exact decide_eq_decide.2 ⟨fun h=>by omega,fun h=>by omega⟩
   have e10:ieq (c:Int) 0=decide (c=0):=by rw [ieq_dec];exact decide_eq_decide.2 ⟨fun h=>by omega,fun h=>by omega⟩
   have e11:ilt 0 (i:Int)=decide (0<i):=ilt_nn 0 i
   rw [e8,e9,e10,e11]
   by_cases hc2:128≤c
   ·have hc3:¬ c<128:=by omega
    rw [decide_eq_true hc2,decide_eq_false hc3,br_true,br_false]
    rw [ref_step hi8 hc256 hn hc2,unit_step hi8]
    exact ih _ g2
   ·have hc3:c<128:=by omega
    rw [decide_eq_false hc2,decide_eq_true hc3,br_false,br_true]
    rw [ref_last hi8 hn hc3]
    have hp1:=pow_mono (show i+1≤8 by omega)
    obtain ⟨v,hv⟩:∃ v:Int,v=((2 ^ (7 * i) * (c % 128)+n:Nat):Int):=⟨_,rfl⟩
    have v0:0≤v:=by omega
    have v1:v<72057594037927936:=by omega
    rw [← hv]
    have fin:=int_fin hl2 hS v0 v1
    by_cases hc0:c=0
    ·simp only [hc0,decide_true,br_true]
     by_cases h0:0<i
     ·simp only [h0,decide_true,br_true]
      rw [int_bad k m1 _ _ _ 3 (by decide)]
      exact ⟨0,_,_,rfl,rfl,rr_bad ha (by decide),by decide,by decide,fun _=>rfl⟩
     ·simp only [h0,decide_false,br_false]
      exact fin
    ·simp only [hc0,decide_false,br_false]
     exact fin
theorem int_l (k:Nat) (S:List UInt8) (a:Nat) (ha:a≤S.length) (hS:S.length<4000000) (m:Nat):∀ (i n m1 m2:Nat),i+m=8→m+2≤m1→m+1≤m2→n<2 ^ (7 * i) →
  IntOK S (z0m.l3 k m1 (n:Int) (i:Int) (S.drop a,0)) (z0g.l5 k m2 (n:Int) ((2 ^ (7 * i):Nat):Int) (i:Int) (S,((a:Int),0))):=by
 induction m with
 | zero =>
  intro i n m1 m2 hi h1 h2 hn
  obtain ⟨q1,rfl⟩:∃ q,m1=q+2:=⟨m1 - 2,by omega⟩
  obtain ⟨q2,rfl⟩:∃ q,m2=q+1:=⟨m2 - 1,by omega⟩
  have:i=8:=by omega
  subst this
  exact int_end k S a ha _ _ q1 q2
 | succ m ih =>
  intro i n m1 m2 hi h1 h2 hn
  obtain ⟨q1,rfl⟩:∃ q,m1=q+2:=⟨m1 - 2,by omega⟩
  obtain ⟨q2,rfl⟩:∃ q,m2=q+1:=⟨m2 - 1,by omega⟩
  exact int_step k S a ha hS i n q1 q2 (by omega) hn fun v hv=>ih (i+1) v (q1+1) q2 (by omega) (by omega) (by omega) hv
theorem int_is (k:Nat) (S:List UInt8) (r:Rdr) (x:RefRdr) (h:RR S r x) (hS:S.length<4000000) (hk:12<k):IntOK S (z0m.f k r) (z0g.f k x):=by
 obtain ⟨s,b⟩:=r
 obtain ⟨S',a,e⟩:=x
 obtain ⟨h1,h2,h3,h4,h5⟩:=h
 simp only at h1 h2 h3 h4 h5
 subst h1;subst h4
 rw [z0m.f_eq,z0g.f_eq,ieq_dec,bnot_dec]
 by_cases hb:b=0
 ·subst hb
  simp only [not_true,decide_false,br_false]
  rw [h5 rfl]
  obtain ⟨A,hA⟩:∃ A:Nat,a=(A:Int):=⟨a.toNat,by omega⟩
  subst hA
  have:=int_l k S' A (by omega) hS 8 0 0 k k (by omega) (by omega) (by omega) (by decide)
  exact this
 ·simp only [hb,not_false_eq_true,decide_true,br_true]
  obtain ⟨m,rfl⟩:∃ m,k=m+1:=⟨k - 1,by omega⟩
  rw [int_bad (m+1) m _ _ _ b hb]
  exact ⟨0,_,_,rfl,rfl,⟨rfl,h2,h3,rfl,fun h=>absurd h hb⟩,by decide,by decide,fun _=>rfl⟩
theorem many_is (k:Nat) (S:List UInt8) (most:Int) (r:Rdr) (x:RefRdr) (h:RR S r x) (hS:S.length<4000000) (hk:12<k):∃ (n:Int) (r':Rdr) (x':RefRdr),z0f.f k most r=some (n,r')∧z08.f k most x=some (n,x')∧RR S r' x'∧0≤n∧n≤(S.length:Int)∧(n ≠ 0→n≤most):=by
 obtain ⟨n,r1,x1,e1,e2,hr,n0,n1,nb⟩:=int_is k S r x h hS hk
 rw [z0f.f_eq,z08.f_eq,e1,e2]
 simp only [bnd_some,fine_is,fail_is,ieq_dec,bnot_dec,br_dec,ilt_dec]
 obtain ⟨s1,b1⟩:=r1
 obtain ⟨S1,a1,e3⟩:=x1
 obtain ⟨q1,q2,q3,q4,q5⟩:=hr
 simp only at q1 q2 q3 q4 q5 nb ⊢
 subst q1;subst q4
 by_cases hb:b1=0
 ·subst hb
  have hl:(s1.length:Int)=(S1.length:Int) - a1:=by rw [q5 rfl,List.length_drop];omega
  have hsub:isub .i64 (ilen S1) a1=(S1.length:Int) - a1:=by unfold ilen;exact isub_s (by omega) (by omega) (by omega) (by omega)
  have hlen:ilen s1=(S1.length:Int) - a1:=hl
  simp only [hsub,hlen,not_true,if_false,if_true]
  by_cases c1:most<n
  ·rw [if_pos c1,if_pos c1]
   exact ⟨0,_,_,rfl,rfl,⟨rfl,q2,q3,rfl,fun h=>by cases h⟩,by omega,by omega,fun h=>absurd rfl h⟩
  ·rw [if_neg c1,if_neg c1]
   by_cases c2:(S1.length:Int) - a1<n
   ·rw [if_pos c2,if_pos c2]
    exact ⟨0,_,_,rfl,rfl,⟨rfl,q2,q3,rfl,fun h=>by cases h⟩,by omega,by omega,fun h=>absurd rfl h⟩
   ·rw [if_neg c2,if_neg c2]
    exact ⟨n,_,_,rfl,rfl,⟨rfl,q2,q3,rfl,q5⟩,n0,by omega,fun _=>by omega⟩
 ·simp only [hb,not_false_eq_true,if_true,if_false]
  exact ⟨0,_,_,rfl,rfl,⟨rfl,q2,q3,rfl,q5⟩,by omega,by omega,fun h=>absurd rfl h⟩
theorem fault_is (k:Nat) (r:Rdr):z09.f k r=some (r.2,r):=z09.f_eq k r
theorem left_is (k:Nat) (S:List UInt8) (r:Rdr) (x:RefRdr) (h:RR S r x) (hS:S.length<4000000):∃ n,z0d.f k r=some (n,r)∧z0a.f k x=some (n,x):=by
 rw [z0d.f_eq,z0a.f_eq,fine_is]
 obtain ⟨s1,b1⟩:=r
 obtain ⟨S1,a1,e3⟩:=x
 obtain ⟨q1,q2,q3,q4,q5⟩:=h
 simp only at q1 q2 q3 q4 q5 ⊢
 subst q1;subst q4
 simp only [bnd_some,ieq_dec,bnot_dec,br_dec]
 by_cases hb:b1=0
 ·subst hb
  refine ⟨ilen s1,by simp,?_⟩
  have hsub:isub .i64 (ilen S1) a1=ilen s1:=by unfold ilen;rw [isub_s (by omega) (by omega) (by omega) (by omega),q5 rfl,List.length_drop];omega
  simp [hsub]
 ·exact ⟨0,by simp [hb],by simp [hb]⟩
theorem open_rr (S:List UInt8):RR S (S,0) (S,(0,0)):=⟨rfl,Int.le_refl _,by show (0:Int)≤_;omega,rfl,fun _=>rfl⟩
theorem RR.fail {S:List UInt8} {r:Rdr} {x:RefRdr} (h:RR S r x) {e:Int} (he:e ≠ 0) (hb:x.2.2=0):RR S (r.1,e) (x.1,(x.2.1,e)):=⟨h.src,h.lo,h.hi,rfl,fun hh=>absurd hh he⟩
end Go.Proofs.YtggcagclpkhlhaaGreatDoor
end
noncomputable section
/- Dots, vectors, rows of dots and sets: the program and the document read the same. -/
namespace Go.Proofs.YtggcagclpkhlhaaGreatDoor
open Pal
theorem dotread_is (k:Nat) (S:List UInt8) (r:Rdr) (x:RefRdr) (h:RR S r x) (hS:S.length<4000000) (hk:12<k) :
  ∃ (d:Dot) (r':Rdr) (x':RefRdr),z1T.f k r=some (d,r')∧z1f.f k x=some (d,x')∧RR S r' x'∧(x'.2.2=0→rightD d=true):=by
 obtain ⟨a,r1,x1,e1,e2,h1,_,_,_⟩:=int_is k S r x h hS hk
 obtain ⟨b,r2,x2,e3,e4,h2,_,_,_⟩:=int_is k S r1 x1 h1 hS hk
 rw [z1T.f_eq,z1f.f_eq,e1,e2]
 simp only [bnd_some,e3,e4,fault_is,fail_is,ieq_dec,bnot_dec,br_dec,right_is,rright_is]
 obtain ⟨s2,b2⟩:=r2
 obtain ⟨S2,a2,c2⟩:=x2
 have hb:b2=c2:=h2.bad
 subst hb
 by_cases hz:b2=0
 ·subst hz
  simp only [if_true]
  cases hr:rightD (a,b) with
  | true =>
   have e:bnot true=false:=rfl
   simp only [e,br_false,not_true,if_false]
   exact ⟨(a,b),_,_,rfl,rfl,h2,fun _=>hr⟩
  | false =>
   have e:bnot false=true:=rfl
   simp only [e,br_true]
   exact ⟨(0,0),_,_,rfl,rfl,h2.fail (e:=2) (by decide) rfl,fun hh=>by cases hh⟩
 ·simp only [hz,not_false_eq_true,if_true,if_false]
  exact ⟨(0,0),_,_,rfl,rfl,h2,fun hh=>absurd hh hz⟩
theorem lread_l (k:Nat) (S:List UInt8) (hS:S.length<1000000) (hk:12<k) (N:Nat) (hN:N≤S.length):∀ (n i:Nat) (l:List Dot) (r:Rdr) (x:RefRdr),i≤N→N<n+i→l.length=i→RR S r x →
  ∃ (l':List Dot) (r':Rdr) (x':RefRdr),z0x.l3 k n l (N:Int) (i:Int) r=some (l',r')∧z0s.l4 k n (N:Int) l (i:Int) x=some (l',x')∧RR S r' x'∧l'.length≤N
 | 0,i,_,_,_,h,h',_,_=>by omega
 | n+1,i,l,r,x,h,h',hl,hr=>by
  rw [z0x.l3_eq,z0s.l4_eq,ilt_nn]
  by_cases hi:i<N
  ·obtain ⟨d,r1,x1,e1,e2,h1,_⟩:=dotread_is k S r x hr (by omega) hk
   have e4:iadd .i64 (i:Int) 1=((i+1:Nat):Int):=iadd_nat (by omega)
   rw [decide_eq_true hi,e1,e2,e4]
   simp only [br_true,bnd_some,room1 (show l.length<4000000 by omega)]
   exact lread_l k S hS hk N hN n (i+1) _ r1 x1 (by omega) (by omega) (by simp [app,hl]) h1
  ·rw [decide_eq_false hi]
   simp only [br_false,bnd_some,fault_is,ieq_dec,bnot_dec,br_dec]
   have hb:r.2=x.2.2:=hr.bad
   rw [hb]
   by_cases hz:x.2.2=0
   ·simp only [hz,not_true,if_false]
    exact ⟨l,_,_,rfl,rfl,hr,by omega⟩
   ·simp only [hz,not_false_eq_true,if_true]
    exact ⟨[],_,_,rfl,rfl,hr,by simp⟩
theorem lread_is (k:Nat) (S:List UInt8) (most:Int) (r:Rdr) (x:RefRdr) (h:RR S r x) (hS:S.length<1000000) (hk:12<k) (hk2:S.length<k) :
  ∃ (l:List Dot) (r':Rdr) (x':RefRdr),z0x.f k most r=some (l,r')∧z0s.f k most x=some (l,x')∧RR S r' x'∧l.length≤S.length∧(l ≠ []→(l.length:Int)≤most):=by
 obtain ⟨n,r1,x1,e1,e2,h1,n0,n1,nm⟩:=many_is k S most r x h (by omega) hk
 rw [z0x.f_eq,z0s.f_eq,e1,e2]
 simp only [bnd_some]
 obtain ⟨N,rfl⟩:∃ N:Nat,n=(N:Int):=⟨n.toNat,by omega⟩
 obtain ⟨l,r',x',g1,g2,g3,g4⟩:=lread_l k S hS hk N (by omega) k 0 [] r1 x1 (by omega) (by omega) rfl h1
 refine ⟨l,r',x',g1,g2,g3,by omega,fun hne=>?_⟩
 have hpos:0<l.length:=List.length_pos_iff.2 hne
 have:=nm (by omega)
 omega
end Go.Proofs.YtggcagclpkhlhaaGreatDoor
end
noncomputable section
/- Texts, values, paths: the program and the document read the same. -/
namespace Go.Proofs.YtggcagclpkhlhaaGreatDoor
open Pal
theorem inS_nn {a b c:Nat} (h1:a≤b) (h2:b≤c):inS (a:Int) (b:Int) (c:Int)=true:=by
 show (decide ((0:Int)≤(a:Int)) && decide ((a:Int)≤(b:Int)) && decide ((b:Int)≤(c:Int)))=true
 rw [decide_eq_true (show (0:Int)≤(a:Int) by omega),decide_eq_true (show (a:Int)≤(b:Int) by omega),decide_eq_true (show (b:Int)≤(c:Int) by omega)];rfl
theorem text_is (k:Nat) (S:List UInt8) (r:Rdr) (x:RefRdr) (h:RR S r x) (hS:S.length<4000000) (hk:12<k) :
  ∃ (t:List UInt8) (r':Rdr) (x':RefRdr),z0k.f k r=some (t,r')∧z0b.f k x=some (t,x')∧RR S r' x'∧t.length≤S.length:=by
 obtain ⟨n,r1,x1,e1,e2,h1,n0,n1,nb⟩:=int_is k S r x h hS hk
 obtain ⟨N,rfl⟩:∃ N:Nat,n=(N:Int):=⟨n.toNat,by omega⟩
 rw [z0k.f_eq,z0b.f_eq,e1,e2]
 simp only [bnd_some,fine_is,fail_is]
 obtain ⟨s1,b1⟩:=r1
 obtain ⟨S1,a1,c1⟩:=x1
 obtain ⟨q1,q2,q3,q4,q5⟩:=h1
 simp only at q1 q2 q3 q4 q5 nb ⊢
 subst q1;subst q4
 have bt:bnot true=false:=rfl
 have bf:bnot false=true:=rfl
 by_cases hb:b1=0
 case neg =>
  rw [ieq_dec,decide_eq_false hb,bf]
  simp only [br_true,br_false,bf]
  exact ⟨[],(s1,b1),(S1,(a1,b1)),rfl,rfl,⟨rfl,q2,q3,rfl,q5⟩,by simp⟩
 subst hb
 have hs1:=q5 rfl
 obtain ⟨A,rfl⟩:∃ A:Nat,a1=(A:Int):=⟨a1.toNat,by omega⟩
 rw [Int.toNat_natCast] at hs1
 have hA:A≤S1.length:=by omega
 have hlen:s1.length=S1.length - A:=by rw [hs1,List.length_drop]
 have hsub:isub .i64 (ilen S1) (A:Int)=(s1.length:Int):=by unfold ilen;rw [isub_s (by omega) (by omega) (by omega) (by omega)];omega
 have e0:ieq (0:Int) 0=true:=rfl
 have d0:decide ((0:Int)=0)=true:=rfl
 rw [e0,bt,d0,show ilt (ilen s1) (N:Int)=decide (s1.length<N) from ilt_nn s1.length N,hsub,show ilt (s1.length:Int) (N:Int)=decide (s1.length<N) from ilt_nn s1.length N]
 simp only [br_true,br_false,bt]
 by_cases hn:s1.length<N
 ·rw [decide_eq_true hn,br_true,br_true]
  simp only [if_true]
  have d4:decide ((4:Int)=0)=false:=rfl
  rw [d4,bf,br_true]
  exact ⟨[],(s1,4),(S1,((A:Int),4)),rfl,rfl,⟨rfl,q2,q3,rfl,fun h=>by cases h⟩,by simp⟩
 ·have hadd:iadd .i64 (A:Int) (N:Int)=((A+N:Nat):Int):=by rw [iadd_s (by omega) (by omega) (by omega) (by omega)];omega
  have i1:inS 0 (N:Int) (ilen s1)=true:=inS_nn (a:=0) (b:=N) (c:=s1.length) (by omega) (by omega)
  have i2:inS (N:Int) (ilen s1) (ilen s1)=true:=inS_nn (a:=N) (b:=s1.length) (c:=s1.length) (by omega) (by omega)
  have i3:inS (A:Int) ((A+N:Nat):Int) (ilen S1)=true:=inS_nn (a:=A) (b:=A+N) (c:=S1.length) (by omega) (by omega)
  have p1:piece s1 0 (N:Int)=s1.take N:=by unfold piece;simp
  have p2:piece s1 (N:Int) (ilen s1)=s1.drop N:=by unfold piece ilen;rw [Int.toNat_natCast,Int.toNat_natCast,List.take_length]
  have p3:piece S1 (A:Int) ((A+N:Nat):Int)=s1.take N:=by
   unfold piece;rw [Int.toNat_natCast,Int.toNat_natCast,hs1,List.take_drop]
  rw [decide_eq_false hn,br_false,br_false,i1,br_true,i2,br_true,hadd,i3,br_true,p1,p2,p3]
  refine ⟨s1.take N,(s1.drop N,0),(S1,(((A+N:Nat):Int),0)),rfl,rfl,⟨rfl,by show (0:Int)≤((A+N:Nat):Int);omega,by show ((A+N:Nat):Int)≤(S1.length:Int);omega,rfl,fun _=>?_⟩,by rw [List.length_take];omega⟩
  show s1.drop N=S1.drop ((A+N:Nat):Int).toNat
  rw [Int.toNat_natCast,hs1,List.drop_drop]
theorem pathr_l (k:Nat) (S:List UInt8) (hS:S.length<5000) (hk:5000<k) (hk2:k<1000000) (N:Nat) (hN:N≤8):∀ (n i:Nat) (p:List Str) (r:Rdr) (x:RefRdr),i≤N→N<n+i→p.length=i→(∀ s ∈ p,List.length s<k)→RR S r x →
  ∃ (p':List Str) (r':Rdr) (x':RefRdr),z1B.l3 k n p (N:Int) (i:Int) r=some (p',r')∧z18.l4 k n (N:Int) p (i:Int) x=some (p',x')∧RR S r' x'∧p'.length≤N∧∀ s ∈ p',List.length s<k
 | 0,i,_,_,_,h,h',_,_,_=>by omega
 | n+1,i,p,r,x,h,h',hp,hs,hr=>by
  rw [z1B.l3_eq,z18.l4_eq,ilt_nn]
  by_cases hi:i<N
  ·obtain ⟨t,r1,x1,e1,e2,h1,ht⟩:=text_is k S r x hr (by omega) (by omega)
   have e4:iadd .i64 (i:Int) 1=((i+1:Nat):Int):=iadd_nat (by omega)
   rw [decide_eq_true hi,e1,e2,e4]
   simp only [br_true,bnd_some,room1 (show p.length<4000000 by omega)]
   exact pathr_l k S hS hk hk2 N hN n (i+1) _ r1 x1 (by omega) (by omega) (by simp [app,hp]) (fun s hs'=>by
    simp only [app,List.mem_append,List.mem_singleton] at hs'
    rcases hs' with hs' | rfl
    ·exact hs s hs'
    ·omega) h1
  ·obtain ⟨e,g1,g2⟩:=path_is k p hs (by omega) hk2 (by omega)
   rw [decide_eq_false hi]
   simp only [br_false,bnd_some,g1,g2,fault_is,fail_is,z0c.f_eq,ieq_dec,bnot_dec,br_dec]
   obtain ⟨s2,c1⟩:=r
   obtain ⟨S2,a2,c2⟩:=x
   have hb:c1=c2:=hr.bad
   subst hb
   by_cases hz:c1=0
   ·subst hz
    simp only [if_true]
    by_cases he:e=0
    ·subst he
     simp only [not_true,if_false,if_true,bnd_some]
     exact ⟨p,_,_,rfl,rfl,hr,by omega,hs⟩
    ·simp only [he,not_false_eq_true,if_true,bnd_some]
     exact ⟨[],_,_,rfl,rfl,hr.fail he rfl,by simp,fun s hs=>by simp at hs⟩
   ·simp only [hz,not_false_eq_true,if_true,if_false]
    exact ⟨[],_,_,rfl,rfl,hr,by simp,fun s hs=>by simp at hs⟩
theorem pathr_is (k:Nat) (S:List UInt8) (r:Rdr) (x:RefRdr) (h:RR S r x) (hS:S.length<5000) (hk:5000<k) (hk2:k<1000000) :
  ∃ (p:List Str) (r':Rdr) (x':RefRdr),z1B.f k r=some (p,r')∧z18.f k x=some (p,x')∧RR S r' x'∧p.length≤8∧∀ s ∈ p,List.length s<k:=by
 obtain ⟨n,r1,x1,e1,e2,h1,n0,n1,nm⟩:=many_is k S 8 r x h (by omega) (by omega)
 rw [z1B.f_eq,z18.f_eq,e1,e2]
 simp only [bnd_some]
 obtain ⟨N,rfl⟩:∃ N:Nat,n=(N:Int):=⟨n.toNat,by omega⟩
 have hN:N≤8:=by
  by_cases h0:N=0
  ·omega
  ·have:=nm (by omega);omega
 obtain ⟨p,r',x',g1,g2,g3,g4,g5⟩:=pathr_l k S hS hk hk2 N hN k 0 [] r1 x1 (by omega) (by omega) rfl (fun s hs=>by simp at hs) h1
 exact ⟨p,r',x',g1,g2,g3,by omega,g5⟩
def unf (n:Nat):Int:=if n % 2=0 then ((n / 2:Nat):Int) else -(((n+1) / 2:Nat):Int)
theorem irem2 (n:Nat):irem (n:Int) 2=((n % 2:Nat):Int):=by
 rfl
theorem tdiv2 (q:Nat):(q:Int).tdiv 2=((q / 2:Nat):Int):=rfl
theorem unfold_is (k n:Nat) (hn:n<72057594037927936):z0C.f k (n:Int)=some (unf n)∧z0A.f k (n:Int)=some (unf n):=by
 rw [z0C.f_eq,z0A.f_eq,irem2]
 unfold unf
 by_cases h:n % 2=0
 ·have q:iquo .i64 (n:Int) 2=((n / 2:Nat):Int):=by
   show IntKind.wrap .i64 ((n:Int).tdiv 2)=_
   rw [tdiv2,wrap64 (by omega) (by omega)]
  rw [h,if_pos rfl,q];exact ⟨rfl,rfl⟩
 ·have h1:n % 2=1:=by omega
  have a1:iadd .i64 (n:Int) 1=((n+1:Nat):Int):=iadd_nat (by omega)
  have a2:isub .i64 0 ((n+1:Nat):Int)=-((n+1:Nat):Int):=by
   show IntKind.wrap .i64 (0 - ((n+1:Nat):Int))=_
   rw [wrap64 (by omega) (by omega)];omega
  have a3:iquo .i64 (-((n+1:Nat):Int)) 2=-(((n+1) / 2:Nat):Int):=by
   show IntKind.wrap .i64 ((-((n+1:Nat):Int)).tdiv 2)=_
   rw [Int.neg_tdiv,tdiv2,wrap64 (by omega) (by omega)]
  have a4:iquo .i64 (n:Int) 2=((n / 2:Nat):Int):=by
   show IntKind.wrap .i64 ((n:Int).tdiv 2)=_
   rw [tdiv2,wrap64 (by omega) (by omega)]
  have a5:isub .i64 0 ((n / 2:Nat):Int)=-((n / 2:Nat):Int):=by
   show IntKind.wrap .i64 (0 - ((n / 2:Nat):Int))=_
   rw [wrap64 (by omega) (by omega)];omega
  have a6:isub .i64 (-((n / 2:Nat):Int)) 1=-(((n+1) / 2:Nat):Int):=by
   show IntKind.wrap .i64 (-((n / 2:Nat):Int) - 1)=_
   rw [wrap64 (by omega) (by omega)];omega
  rw [h1,if_neg (by decide),a1,a2,a3,a4,a5,a6];exact ⟨rfl,rfl⟩
theorem valr_is (k : Nat) (S : List UInt8) (r : Rdr) (x : RefRdr) (h : RR S r x) (hS : S.length < 5000) (hk : 5000 < k) (hk2 : k < 1000000) :
    ∃ (v : Val) (r' : Rdr) (x' : RefRdr), z1A.f k r = some (v, r') ∧ z1t.f k x = some (v, x') ∧ RR S r' x' ∧ v.2.2.length < k := by
  obtain ⟨n, r1, x1, e1, e2, h1, n0, n1, nb⟩ := int_is k S r x h (by omega) (by omega)
  rw [z1A.f_eq, z1t.f_eq, e1, e2]
  simp only [bnd_some]
  have fin : ∀ (v : Val) (r2 : Rdr) (x2 : RefRdr), RR S r2 x2 → v.2.2.length < k → ∃ (v' : Val) (r' : Rdr) (x' : RefRdr),
      (bnd (z09.f k r2) fun q => br (ieq q.1 0) (bnd (z0W.f k v) fun q3 => br (bnot q3) (bnd (z0h.f k 2 q.2) fun q4 => bnd (z09.f k q4.2) fun q5 => br (bnot (ieq q5.1 0)) (some ((0, (0, [])), q5.2)) (some (v, q5.2))) (bnd (z09.f k q.2) fun q6 => br (bnot (ieq q6.1 0)) (some ((0, (0, [])), q6.2)) (some (v, q6.2)))) (bnd (z09.f k q.2) fun q7 => br (bnot (ieq q7.1 0)) (some ((0, (0, [])), q7.2)) (some (v, q7.2)))) = some (v', r') ∧
      (br (ieq x2.2.2 0) (bnd (z0D.f k v) fun q2 => br (bnot q2) (some ((0, (0, [])), (x2.1, (x2.2.1, 2)))) (br (bnot (ieq x2.2.2 0)) (some ((0, (0, [])), x2)) (some (v, x2)))) (br (bnot (ieq x2.2.2 0)) (some ((0, (0, [])), x2)) (some (v, x2)))) = some (v', x') ∧ RR S r' x' ∧ v'.2.2.length < k := by
    intro v r2 x2 h2 hv
    obtain ⟨b, g1, g2⟩ := val_is k v (by omega) hv hk2
    simp only [bnd_some, g1, g2, fault_is, fail_is, ieq_dec, bnot_dec, br_dec]
    obtain ⟨s2, c1⟩ := r2
    obtain ⟨S2, a2, c2⟩ := x2
    have hb : c1 = c2 := h2.bad
    subst hb
    by_cases hz : c1 = 0
    · subst hz
      simp only [if_true]
      cases b with
      | true =>
        have e : bnot true = false := rfl
        simp only [e, br_false, not_true, if_false]
        exact ⟨v, _, _, rfl, rfl, h2, hv⟩
      | false =>
        have e : bnot false = true := rfl
        simp only [e, br_true]
        exact ⟨(0, (0, [])), _, _, rfl, rfl, h2.fail (e := 2) (by decide) rfl, by show 0 < k; omega⟩
    · simp only [hz, not_false_eq_true, if_true, if_false]
      exact ⟨(0, (0, [])), _, _, rfl, rfl, h2, by show 0 < k; omega⟩
  cases ieq n 2 with
  | true =>
    obtain ⟨t, r2, x2, e3, e4, h2, ht⟩ := text_is k S r1 x1 h1 (by omega) (by omega)
    simp only [br_true]
    rw [e3, e4]
    simp only [bnd_some]
    exact fin (n, (0, t)) r2 x2 h2 (by show t.length < k; omega)
  | false =>
    obtain ⟨m, r2, x2, e3, e4, h2, m0, m1, mb⟩ := int_is k S r1 x1 h1 (by omega) (by omega)
    obtain ⟨M, rfl⟩ : ∃ M : Nat, m = (M : Int) := ⟨m.toNat, by omega⟩
    obtain ⟨u1, u2⟩ := unfold_is k M (by omega)
    simp only [br_false]
    rw [e3, e4]
    simp only [bnd_some]
    rw [u1, u2]
    simp only [bnd_some]
    exact fin (n, (unf M, [])) r2 x2 h2 (by show 0 < k; omega)
end Go.Proofs.YtggcagclpkhlhaaGreatDoor
end
noncomputable section
/- Operations: the end of reading one is the same in the program and the document. -/
namespace Go.Proofs.YtggcagclpkhlhaaGreatDoor
open Pal
theorem op_fin (k:Nat) (S:List UInt8) (hk:10<k) (hk2:k<1000000) (o:Op) (so:SizO k o) (r2:Rdr) (x2:RefRdr) (h2:RR S r2 x2):∃ (o':Op) (r':Rdr) (x':RefRdr),
  (bnd (z09.f k r2) fun q=>br (ieq q.1 0) (bnd (z1W.f k o) fun q3=>bnd (z0h.f k q3 q.2) fun q4=>bnd (z09.f k q4.2) fun q5=>br (bnot (ieq q5.1 0)) (some ((0,([],((0,(0,[])),(0,[])))),q5.2)) (some (o,q5.2))) (bnd (z09.f k q.2) fun q7=>br (bnot (ieq q7.1 0)) (some ((0,([],((0,(0,[])),(0,[])))),q7.2)) (some (o,q7.2))))=some (o',r') ∧
  (br (ieq x2.2.2 0) (bnd (z0F.f k o) fun q2=>bnd (z0c.f k q2 x2) fun q3=>br (bnot (ieq q3.2.2.2 0)) (some ((0,([],((0,(0,[])),(0,[])))),q3.2)) (some (o,q3.2))) (br (bnot (ieq x2.2.2 0)) (some ((0,([],((0,(0,[])),(0,[])))),x2)) (some (o,x2))))=some (o',x')∧RR S r' x'∧SizO k o':=by
 have hz0:SizO k (0,([],((0,(0,[])),(0,[])))):=⟨fun s hs=>by simp at hs,by show 0<k;omega,by show 0<k;omega,by show 0<k;omega⟩
 obtain ⟨e,g1,g2⟩:=op_is k o so.path so.names so.val so.seen hk hk2
 simp only [bnd_some,g1,g2,fault_is,fail_is,z0c.f_eq,ieq_dec,bnot_dec,br_dec]
 obtain ⟨s2,c1⟩:=r2
 obtain ⟨S2,a2,c2⟩:=x2
 have hb:c1=c2:=h2.bad
 subst hb
 by_cases hz:c1=0
 ·subst hz
  simp only [if_true,bnd_some]
  by_cases he:e=0
  ·subst he
   simp only [not_true,if_false]
   exact ⟨o,_,_,rfl,rfl,h2,so⟩
  ·simp only [he,not_false_eq_true,if_true]
   exact ⟨_,_,_,rfl,rfl,h2.fail he rfl,hz0⟩
 ·simp only [hz,not_false_eq_true,if_true,if_false]
  exact ⟨_,_,_,rfl,rfl,h2,hz0⟩
theorem seen_both (k:Nat) (S:List UInt8) (hS:S.length<5000) (hk:5000<k) (N:Nat) (hN:N≤S.length) (K:Int) (P:List Str) (V:Val) (A:Int) (z1:Int) (z2:List Str) (z3:Val) (z4:Int) (z5:List (Dot × Int)):∀ (n i:Nat) (l:List (Dot × Int)) (r:Rdr) (x:RefRdr),i≤N→N<n+i→l.length=i→RR S r x →
  ∃ (l':List (Dot × Int)) (r':Rdr) (x':RefRdr),z2b.l3 k n l (N:Int) (i:Int) r=some (l',r')∧l'.length≤N∧RR S r' x' ∧
   z1s.l13 k n (N:Int) (i:Int) z1 z2 z3 z4 z5 K P V A l x=br (ieq x'.2.2 0) (bnd (z0F.f k (K,(P,(V,(A,l'))))) fun q2=>bnd (z0c.f k q2 x') fun q3=>br (bnot (ieq q3.2.2.2 0)) (some ((0,([],((0,(0,[])),(0,[])))),q3.2)) (some ((K,(P,(V,(A,l')))),q3.2))) (br (bnot (ieq x'.2.2 0)) (some ((0,([],((0,(0,[])),(0,[])))),x')) (some ((K,(P,(V,(A,l')))),x')))
 | 0,i,_,_,_,h,h',_,_=>by omega
 | n+1,i,l,r,x,h,h',hl,hr=>by
  rw [z2b.l3_eq,z1s.l13_eq,ilt_nn]
  by_cases hi:i<N
  ·obtain ⟨d,r1,x1,e1,e2,h1,_⟩:=dotread_is k S r x hr (by omega) (by omega)
   obtain ⟨c,r2,x2,e3,e5,h2,_,_,_⟩:=int_is k S r1 x1 h1 (by omega) (by omega)
   have e4:iadd .i64 (i:Int) 1=((i+1:Nat):Int):=iadd_nat (by omega)
   rw [decide_eq_true hi,e1,e2,e4]
   simp only [br_true,bnd_some]
   rw [e3,e5]
   simp only [bnd_some,room1 (show l.length<4000000 by omega),br_true]
   exact seen_both k S hS hk N hN K P V A z1 z2 z3 z4 z5 n (i+1) _ r2 x2 (by omega) (by omega) (by simp [app,hl]) h2
  ·rw [decide_eq_false hi]
   exact ⟨l,r,x,rfl,by omega,hr,rfl⟩
end Go.Proofs.YtggcagclpkhlhaaGreatDoor
end
noncomputable section
/- An operation is read: the program and the document do the same. -/
namespace Go.Proofs.YtggcagclpkhlhaaGreatDoor
open Pal
theorem siz_of (k:Nat) (K:Int) (p:List Str) (v:Val) (A:Int) (l:List (Dot × Int)) (hp:p.length<k) (hs:∀ s ∈ p,List.length s<k) (hv:v.2.2.length<k) (hl:l.length<k):SizO k (K,(p,(v,(A,l)))):=⟨hs,hp,hv,hl⟩
set_option maxHeartbeats 4000000 in
theorem opr_is (k : Nat) (S : List UInt8) (r : Rdr) (x : RefRdr) (h : RR S r x) (hS : S.length < 5000) (hk : 5000 < k) (hk2 : k < 1000000) :
    ∃ (o : Op) (r' : Rdr) (x' : RefRdr), z2c.f k r = some (o, r') ∧ z1s.f k x = some (o, x') ∧ RR S r' x' ∧ SizO k o := by
  obtain ⟨K, r1, x1, e1, e2, h1, n0, n1, nb⟩ := int_is k S r x h (by omega) (by omega)
  rw [z2c.f_eq, z1s.f_eq, e1, e2]
  simp only [bnd_some]
  by_cases h0 : K = 0
  · subst h0
    exact ⟨(0, ([], ((0, (0, [])), (0, [])))), r1, x1, rfl, rfl, h1, siz_of k 0 [] (0, (0, [])) 0 [] (by show 0 < k; omega) (fun s hs => by simp at hs) (by show 0 < k; omega) (by show 0 < k; omega)⟩
  rw [show ieq K 0 = false from by rw [ieq_dec]; exact decide_eq_false h0]
  simp only [br_false]
  obtain ⟨p, r2, x2, e3, e4, h2, hp, hps⟩ := pathr_is k S r1 x1 h1 hS hk hk2
  rw [e3, e4]
  simp only [bnd_some]
  have hpk : p.length < k := by omega
  have hz : (0 : Nat) < k := by omega
  have fin := fun (K : Int) (v : Val) (A : Int) (l : List (Dot × Int)) (hv : v.2.2.length < k) (hl : l.length < k) (r3 : Rdr) (x3 : RefRdr) (h3 : RR S r3 x3) => op_fin k S (by omega) hk2 (K, (p, (v, (A, l)))) (siz_of k K p v A l hpk hps hv hl) r3 x3 h3
  have seen : ∀ (K : Int) (v : Val) (A : Int) (hv : v.2.2.length < k) (r3 : Rdr) (x3 : RefRdr) (h3 : RR S r3 x3), ∃ (o : Op) (r' : Rdr) (x' : RefRdr),
      (bnd (z2b.f k r3) fun r10 => bnd (z09.f k r10.2) fun q => br (ieq q.1 0) (bnd (z1W.f k (K, (p, (v, (A, r10.1))))) fun q3 => bnd (z0h.f k q3 q.2) fun q4 => bnd (z09.f k q4.2) fun q5 => br (bnot (ieq q5.1 0)) (some ((0, ([], ((0, (0, [])), (0, [])))), q5.2)) (some ((K, (p, (v, (A, r10.1)))), q5.2))) (bnd (z09.f k q.2) fun q7 => br (bnot (ieq q7.1 0)) (some ((0, ([], ((0, (0, [])), (0, [])))), q7.2)) (some ((K, (p, (v, (A, r10.1)))), q7.2)))) = some (o, r') ∧
      (bnd (z08.f k 256 x3) fun r5 => z1s.l13 k k r5.1 0 0 [] (0, (0, [])) 0 [] K p v A [] r5.2) = some (o, x') ∧ RR S r' x' ∧ SizO k o := by
    intro K v A hv r3 x3 h3
    obtain ⟨n, r4, x4, e5, e6, h4, m0, m1, mm⟩ := many_is k S 256 r3 x3 h3 (by omega) (by omega)
    obtain ⟨N, rfl⟩ : ∃ N : Nat, n = (N : Int) := ⟨n.toNat, by omega⟩
    obtain ⟨l, r5, x5, g1, g2, g3, g4⟩ := seen_both k S hS hk N (by omega) K p v A 0 [] (0, (0, [])) 0 [] k 0 [] r4 x4 (by omega) (by omega) rfl h4
    rw [show ((0 : Nat) : Int) = 0 from rfl] at g1 g4
    obtain ⟨o, r6, x6, f1, f2, f3, f4⟩ := fin K v A l hv (by omega) r5 x5 g3
    rw [z2b.f_eq, e5, e6]
    simp only [bnd_some]
    rw [g1, g4]
    simp only [bnd_some]
    exact ⟨o, r6, x6, f1, f2, f3, f4⟩
  by_cases c3 : K = 3
  · subst c3
    obtain ⟨m, r3, x3, e5, e6, h3, m0, m1, mb⟩ := int_is k S r2 x2 h2 (by omega) (by omega)
    obtain ⟨M, rfl⟩ : ∃ M : Nat, m = (M : Int) := ⟨m.toNat, by omega⟩
    obtain ⟨u1, u2⟩ := unfold_is k M (by omega)
    simp only [show ieq (3 : Int) 1 = false from rfl, show ieq (3 : Int) 2 = false from rfl, show ieq (3 : Int) 3 = true from rfl, show ieq (3 : Int) 4 = false from rfl, show ieq (3 : Int) 5 = false from rfl, br_true, br_false]
    rw [e5, e6]
    simp only [bnd_some]
    rw [u1, u2]
    simp only [bnd_some]
    exact fin 3 (0, (0, [])) (unf M) [] hz hz r3 x3 h3
  by_cases c1 : K = 1
  · subst c1
    obtain ⟨v, r3, x3, e5, e6, h3, hv⟩ := valr_is k S r2 x2 h2 hS hk hk2
    simp only [show ieq (1 : Int) 1 = true from rfl, show ieq (1 : Int) 2 = false from rfl, show ieq (1 : Int) 3 = false from rfl, show ieq (1 : Int) 4 = false from rfl, show ieq (1 : Int) 5 = false from rfl, br_true, br_false]
    rw [e5, e6]
    simp only [bnd_some]
    exact seen 1 v 0 hv r3 x3 h3
  by_cases c2 : K = 2
  · subst c2
    obtain ⟨v, r3, x3, e5, e6, h3, hv⟩ := valr_is k S r2 x2 h2 hS hk hk2
    simp only [show ieq (2 : Int) 1 = false from rfl, show ieq (2 : Int) 2 = true from rfl, show ieq (2 : Int) 3 = false from rfl, show ieq (2 : Int) 4 = false from rfl, show ieq (2 : Int) 5 = false from rfl, br_true, br_false]
    rw [e5, e6]
    simp only [bnd_some]
    exact fin 2 v 0 [] hv hz r3 x3 h3
  by_cases c4 : K = 4
  · subst c4
    obtain ⟨v, r3, x3, e5, e6, h3, hv⟩ := valr_is k S r2 x2 h2 hS hk hk2
    simp only [show ieq (4 : Int) 1 = false from rfl, show ieq (4 : Int) 2 = false from rfl, show ieq (4 : Int) 3 = false from rfl, show ieq (4 : Int) 4 = true from rfl, show ieq (4 : Int) 5 = false from rfl, br_true, br_false]
    rw [e5, e6]
    simp only [bnd_some]
    exact seen 4 v 0 hv r3 x3 h3
  by_cases c5 : K = 5
  · subst c5
    simp only [show ieq (5 : Int) 1 = false from rfl, show ieq (5 : Int) 2 = false from rfl, show ieq (5 : Int) 3 = false from rfl, show ieq (5 : Int) 4 = false from rfl, show ieq (5 : Int) 5 = true from rfl, br_true, br_false]
    exact seen 5 (0, (0, [])) 0 hz r2 x2 h2
  · have f : ∀ c : Int, K ≠ c → ieq K c = false := fun c hc => by rw [ieq_dec]; exact decide_eq_false hc
    simp only [f 1 c1, f 2 c2, f 3 c3, f 4 c4, f 5 c5, br_false]
    exact fin K (0, (0, [])) 0 [] hz hz r2 x2 h2
end Go.Proofs.YtggcagclpkhlhaaGreatDoor
end
noncomputable section
/- Counts: rows of dots with numbers, in order; joined, put, looked up. Plain facts. -/
namespace Go.Proofs.YtggcagclpkhlhaaGreatDoor
open Pal
abbrev Undo:=Dot × Int
def rightU (u:Undo):Bool:=rightD u.1 && decide (1≤u.2∧u.2≤64)
theorem rightU_iff (u:Undo):rightU u=true ↔ rightD u.1=true∧1≤u.2∧u.2≤64:=by simp [rightU]
structure CanU (l:List Undo):Prop where
 rt:∀ u ∈ l,rightU u=true
 srt:l.Pairwise (fun a b=>dotLt a.1 b.1=true)
theorem CanU.cons {u:Undo} {l:List Undo} (h:CanU l) (h1:rightU u=true) (h2:∀ v ∈ l,dotLt u.1 v.1=true):CanU (u::l) :=
 ⟨fun v hv=>by rcases List.mem_cons.1 hv with rfl | hv;exact h1;exact h.rt v hv,List.pairwise_cons.2 ⟨h2,h.srt⟩⟩
theorem dotLt_trans {a b c:Dot} (h1:dotLt a b=true) (h2:dotLt b c=true):dotLt a c=true:=dotLt_swo.trans _ _ _ h1 h2
end Go.Proofs.YtggcagclpkhlhaaGreatDoor
end
noncomputable section
/- Transactions in order, and states: plain facts. -/
namespace Go.Proofs.YtggcagclpkhlhaaGreatDoor
open Pal
abbrev Sta:=List Txn × (List (Dot × Int) × (DSet × (DSet × List (List Dot))))
abbrev Dlt:=List Txn × (List (Dot × Int) × List Dot)
structure CanT (l:List Txn):Prop where
 rt:∀ t ∈ l,rightD t.1=true
 srt:l.Pairwise (fun a b=>dotLt a.1 b.1=true)
theorem CanT.cons {u:Txn} {l:List Txn} (h:CanT l) (h1:rightD u.1=true) (h2:∀ v ∈ l,dotLt u.1 v.1=true):CanT (u::l) :=
 ⟨fun v hv=>by rcases List.mem_cons.1 hv with rfl | hv;exact h1;exact h.rt v hv,List.pairwise_cons.2 ⟨h2,h.srt⟩⟩
structure LenS (n:Nat) (s:Sta):Prop where
 tx:s.1.length≤n
 un:s.2.1.length≤n
 kn:s.2.2.1.2.length≤n
 se:s.2.2.2.1.2.length≤n
 re:∀ l ∈ s.2.2.2.2,l.length≤n
theorem LenS.mono {n m:Nat} {s:Sta} (h:LenS n s) (hnm:n≤m):LenS m s :=
 ⟨Nat.le_trans h.tx hnm,Nat.le_trans h.un hnm,Nat.le_trans h.kn hnm,Nat.le_trans h.se hnm,fun l hl=>Nat.le_trans (h.re l hl) hnm⟩
structure LenD (n:Nat) (d:Dlt):Prop where
 tx:d.1.length≤n
 un:d.2.1.length≤n
 se:d.2.2.length≤n
end Go.Proofs.YtggcagclpkhlhaaGreatDoor
end
noncomputable section
/- What the program's tally, and the document's, come to. -/
namespace Go.Proofs.YtggcagclpkhlhaaGreatDoor
open Pal
theorem rone_is (k:Nat) (u:Undo):z1G.f k u=some (rightU u):=by
 rw [z1G.f_eq,rright_is]
 simp only [bnd_some]
 unfold rightU
 cases rightD u.1 with
 | false=>rfl
 | true =>
  simp only [br_true,ile_dec,br_dec,Bool.true_and]
  by_cases h:1≤u.2
  ·rw [if_pos h];simp [h]
  ·rw [if_neg h];simp [h]
theorem deqU (a b:Undo):deq tUndo a b=decide (a=b):=deq_dec (τ:=tUndo) rfl a b
theorem canU_iff {l:List Undo}:CanU l ↔ ∀ j (h:j<l.length),rightU l[j]=true∧∀ h0:0<j,dotLt (l[j - 1]'(by omega)).1 l[j].1=true:=by
 constructor
 ·intro h j hj
  exact ⟨h.rt _ (List.getElem_mem hj),fun h0=>List.pairwise_iff_getElem.1 h.srt (j - 1) j (by omega) hj (by omega)⟩
 ·intro h
  refine ⟨fun u hu=>?_,List.pairwise_iff_getElem.2 fun i j hi hj hij=>?_⟩
  ·obtain ⟨j,hj,rfl⟩:=List.mem_iff_getElem.1 hu
   exact (h j hj).1
  ·have key:∀ d j (hj:j<l.length) (hd:d+1≤j),dotLt (l[j - (d+1)]'(by omega)).1 l[j].1=true:=by
    intro d
    induction d with
    | zero=>intro j hj hd;exact (h j hj).2 (by omega)
    | succ d ih =>
     intro j hj hd
     have h1:=ih j hj (by omega)
     have h2:=(h (j - (d+1)) (by omega)).2 (by omega)
     have e:j - (d+1) - 1=j - (d+1+1):=by omega
     simp only [e] at h2
     exact dotLt_trans h2 h1
   have:=key (j - i - 1) j hj (by omega)
   have e:j - (j - i - 1+1)=i:=by omega
   simpa only [e] using this
def okU (l:List Undo) (j:Nat):Prop:=∀ h:j<l.length,rightU l[j]=true∧∀ h0:0<j,dotLt (l[j - 1]'(by omega)).1 l[j].1=true
theorem rrightU_is (k:Nat) (l:List Undo) (hl:l.length<k) (hk:k<1000000):∃ b,z0M.f k l=some b∧(b=true ↔ CanU l):=by
 obtain ⟨b,hb,hbi⟩:=loop_all' l.length (fun n i=>z0M.l2 k n l (i:Int)) (okU l) (fun n i hi=>by
  simp only [z0M.l2_eq,ilt_nat,inL_nat,natOf_nat,hi,decide_true,br_true,rd_at' (e:=tUndo) hi,rone_is,bnd_some]
  cases hu:rightU l[i] with
  | false=>exact .inr ⟨fun h=>(by have:=(h hi).1;rw [hu] at this;cases this),rfl⟩
  | true =>
   have e1:bnot true=false:=rfl
   have e2:ilt 0 (i:Int)=decide (0<i):=ilt_nn 0 i
   rw [e1,e2,iadd_nat (by omega)]
   simp only [br_false]
   by_cases h0:0<i
   ·have hi1:i - 1<l.length:=by omega
    have e3:isub .i64 (i:Int) 1=((i - 1:Nat):Int):=by rw [isub_s (by omega) (by omega) (by omega) (by omega)];omega
    rw [e3,inL_nat,natOf_nat,rd_at' (e:=tUndo) hi1,rcmp_is]
    simp only [h0,hi1,decide_true,br_true,bnd_some,cmp_m1]
    cases hd:dotLt l[i - 1].1 l[i].1 with
    | true=>exact .inl ⟨fun _=>⟨hu,fun _=>hd⟩,rfl⟩
    | false=>exact .inr ⟨fun h=>(by have:=(h hi).2 h0;rw [hd] at this;cases this),rfl⟩
   ·simp only [h0,decide_false,br_false]
    exact .inl ⟨fun _=>⟨hu,fun h=>absurd h h0⟩,trivial⟩) (fun n=>by
  simp only [z0M.l2_eq,ilt_nat,Nat.lt_irrefl,decide_false,br_false]) k 0 (by omega) (by omega)
 rw [z0M.f_eq]
 refine ⟨b,hb,hbi.trans ?_⟩
 rw [canU_iff]
 exact ⟨fun h j hj=>h j (by omega) hj hj,fun h j _ _ hj=>h j hj⟩
theorem tcmp_is (k:Nat) (u v:Undo) (h3:3≤k):z0w.f k u v=some (cmpD u.1 v.1):=by
 obtain ⟨q,rfl⟩:∃ q,k=q+3:=⟨k - 3,by omega⟩
 rw [z0w.f_eq,cmpD_is];rfl
theorem rsameU_is (k:Nat) (a b:List Undo) (hl:a.length<k) (hk:k<1000000):z13.f k a b=some (decide (a=b)):=by
 rw [z13.f_eq,ieq_len,bnot_dec]
 by_cases h:a.length=b.length
 ·simp only [h,not_true,decide_false,br_false]
  exact loop_same a b h (fun n i=>z13.l4 k n a b (i:Int)) (fun n i hi hi'=>by
   simp only [z13.l4_eq,ilt_nat,inL_nat,natOf_nat,hi,hi',decide_true,br_true,rd_at' (e:=tUndo) hi,rd_at' (e:=tUndo) hi',deqU,bnot_dec,br_dec,iadd_nat (show i<4611686018427387904 by omega)]
   by_cases e:a[i]=b[i] <;> simp [e]) (fun n=>by simp only [z13.l4_eq,ilt_nat,Nat.lt_irrefl,decide_false,br_false]) k (by omega)
 ·have:a ≠ b:=fun e=>h (by rw [e])
  simp only [h,this,not_false_eq_true,decide_true,decide_false,br_true]
end Go.Proofs.YtggcagclpkhlhaaGreatDoor
end
noncomputable section
/- States: what the program's functions, and the document's, come to. -/
namespace Go.Proofs.YtggcagclpkhlhaaGreatDoor
open Pal
theorem deqVal (a b:Val):deq tValue a b=decide (a=b):=deq_dec (τ:=tValue) rfl a b
theorem rsameStr_is (k:Nat) (a b:List Str) (hl:a.length<k) (hk:k<1000000):z1b.f k a b=some (decide (a=b)):=by
 rw [z1b.f_eq,ieq_len,bnot_dec]
 by_cases h:a.length=b.length
 ·simp only [h,not_true,decide_false,br_false]
  exact loop_same a b h (fun n i=>z1b.l4 k n a b (i:Int)) (fun n i hi hi'=>by
   simp only [z1b.l4_eq,ilt_nat,inL_nat,natOf_nat,hi,hi',decide_true,br_true,rd_at' (e:=.str) hi,rd_at' (e:=.str) hi',seq_dec,bnot_dec,br_dec,iadd_nat (show i<4611686018427387904 by omega)]
   by_cases e:a[i]=b[i] <;> simp [e]) (fun n=>by simp only [z1b.l4_eq,ilt_nat,Nat.lt_irrefl,decide_false,br_false]) k (by omega)
 ·have:a ≠ b:=fun e=>h (by rw [e])
  simp only [h,this,not_false_eq_true,decide_true,decide_false,br_true]
theorem op_eq (a b:Op):a=b ↔ a.1=b.1∧a.2.2.1=b.2.2.1∧a.2.2.2.1=b.2.2.2.1∧a.2.1=b.2.1∧a.2.2.2.2=b.2.2.2.2:=by
 obtain ⟨a1,a2,a3,a4,a5⟩:=a;obtain ⟨b1,b2,b3,b4,b5⟩:=b
 simp only [Prod.mk.injEq]
 exact ⟨fun ⟨h1,h2,h3,h4,h5⟩=>⟨h1,h3,h4,h2,h5⟩,fun ⟨h1,h3,h4,h2,h5⟩=>⟨h1,h2,h3,h4,h5⟩⟩
structure LenO (n:Nat) (o:Op):Prop where
 path:o.2.1.length<n
 seen:o.2.2.2.2.length<n
theorem rsameOp_is (k:Nat) (a b:Op) (hl:LenO k a) (hk:k<1000000):z1a.f k a b=some (decide (a=b)):=by
 have:=hl.seen
 rw [z1a.f_eq,rsameStr_is k a.2.1 b.2.1 hl.path hk]
 simp only [ieq_dec,deqVal,bnot_dec,bnd_some,br_dec,ilen,Int.natCast_inj]
 rw [show decide (a=b)=decide (a.1=b.1∧a.2.2.1=b.2.2.1∧a.2.2.2.1=b.2.2.2.1∧a.2.1=b.2.1∧a.2.2.2.2=b.2.2.2.2) from decide_eq_decide.2 (op_eq a b)]
 by_cases h1:a.1=b.1
 ·by_cases h2:a.2.2.1=b.2.2.1
  ·by_cases h3:a.2.2.2.1=b.2.2.2.1
   ·by_cases h4:a.2.1=b.2.1
    ·by_cases h5:a.2.2.2.2.length=b.2.2.2.2.length
     ·simp only [h1,h2,h3,h4,h5,not_true,if_false,true_and]
      exact loop_same a.2.2.2.2 b.2.2.2.2 h5 (fun n i=>z1a.l4 k n (i:Int) a b) (fun n i hi hi'=>by
       simp only [z1a.l4_eq,ilt_nat,inL_nat,natOf_nat,hi,hi',decide_true,br_true,rd_at' (e:=tUndo) hi,rd_at' (e:=tUndo) hi',deqU,bnot_dec,br_dec,iadd_nat (show i<4611686018427387904 by omega)]
       by_cases e:a.2.2.2.2[i]=b.2.2.2.2[i] <;> simp [e]) (fun n=>by simp only [z1a.l4_eq,ilt_nat,Nat.lt_irrefl,decide_false,br_false]) k (by omega)
     ·have:a.2.2.2.2 ≠ b.2.2.2.2:=fun e=>h5 (by rw [e])
      simp [h1,h2,h3,h4,h5,this]
    ·simp [h1,h2,h3,h4]
   ·simp [h1,h2,h3]
  ·simp [h1,h2]
 ·simp [h1]
theorem deqDot (a b:Dot):deq tDot a b=decide (a=b):=deqD a b
theorem deqBool (a b:Bool):deq .bool a b=decide (a=b):=by cases a <;> cases b <;> rfl
theorem txn_eq (a b:Txn):a=b ↔ a.1=b.1∧a.2.1=b.2.1∧a.2.2.1=b.2.2.1∧a.2.2.2.1=b.2.2.2.1∧a.2.2.2.2=b.2.2.2.2:=by
 obtain ⟨a1,a2,a3,a4,a5⟩:=a;obtain ⟨b1,b2,b3,b4,b5⟩:=b
 simp only [Prod.mk.injEq]
structure LenT (n:Nat) (t:Txn):Prop where
 ops:t.2.2.2.2.length<n
 each:∀ o ∈ t.2.2.2.2,LenO n o
theorem rsameTxn_is (k:Nat) (a b:Txn) (hl:LenT k a) (hk:k<1000000):z1w.f k a b=some (decide (a=b)):=by
 have:=hl.ops
 rw [z1w.f_eq]
 simp only [ieq_dec,deqDot,deqBool,bnot_dec,bnd_some,br_dec,ilen,Int.natCast_inj]
 rw [show decide (a=b)=decide (a.1=b.1∧a.2.1=b.2.1∧a.2.2.1=b.2.2.1∧a.2.2.2.1=b.2.2.2.1∧a.2.2.2.2=b.2.2.2.2) from decide_eq_decide.2 (txn_eq a b)]
 by_cases h1:a.1=b.1
 ·by_cases h2:a.2.1=b.2.1
  ·by_cases h3:a.2.2.1=b.2.2.1
   ·by_cases h4:a.2.2.2.1=b.2.2.2.1
    ·by_cases h5:a.2.2.2.2.length=b.2.2.2.2.length
     ·simp only [h1,h2,h3,h4,h5,not_true,if_false,true_and]
      exact loop_same a.2.2.2.2 b.2.2.2.2 h5 (fun n i=>z1w.l4 k n (i:Int) a b) (fun n i hi hi'=>by
       simp only [z1w.l4_eq,ilt_nat,inL_nat,natOf_nat,hi,hi',decide_true,br_true,rd_at' (e:=tOp) hi,rd_at' (e:=tOp) hi',rsameOp_is k _ _ (hl.each _ (List.getElem_mem hi)) hk,bnd_some,bnot_dec,br_dec,iadd_nat (show i<4611686018427387904 by omega)]
       by_cases e:a.2.2.2.2[i]=b.2.2.2.2[i] <;> simp [e]) (fun n=>by simp only [z1w.l4_eq,ilt_nat,Nat.lt_irrefl,decide_false,br_false]) k (by omega)
     ·have:a.2.2.2.2 ≠ b.2.2.2.2:=fun e=>h5 (by rw [e])
      simp [h1,h2,h3,h4,h5,this]
    ·simp [h1,h2,h3,h4]
   ·simp [h1,h2,h3]
  ·simp [h1,h2]
 ·simp [h1]
theorem rallTxn_is (k:Nat) (a b:List Txn) (hl:a.length<k) (he:∀ t ∈ a,LenT k t) (hk:k<1000000):z1I.f k a b=some (decide (a=b)):=by
 rw [z1I.f_eq,ieq_len,bnot_dec]
 by_cases h:a.length=b.length
 ·simp only [h,not_true,decide_false,br_false]
  exact loop_same a b h (fun n i=>z1I.l4 k n a b (i:Int)) (fun n i hi hi'=>by
   simp only [z1I.l4_eq,ilt_nat,inL_nat,natOf_nat,hi,hi',decide_true,br_true,rd_at' (e:=tTxn) hi,rd_at' (e:=tTxn) hi',rsameTxn_is k _ _ (he _ (List.getElem_mem hi)) hk,bnd_some,bnot_dec,br_dec,iadd_nat (show i<4611686018427387904 by omega)]
   by_cases e:a[i]=b[i] <;> simp [e]) (fun n=>by simp only [z1I.l4_eq,ilt_nat,Nat.lt_irrefl,decide_false,br_false]) k (by omega)
 ·have:a ≠ b:=fun e=>h (by rw [e])
  simp only [h,this,not_false_eq_true,decide_true,decide_false,br_true]
end Go.Proofs.YtggcagclpkhlhaaGreatDoor
end
noncomputable section
/- Which states and deltas the document calls good: what is known of them. -/
namespace Go.Proofs.YtggcagclpkhlhaaGreatDoor
open Pal
def risAt (l:List Txn) (j:Nat):Prop:=∀ h:j+1<l.length,dotLt (l[j]'(by omega)).1 l[j+1].1=true
theorem ris_iff {l:List Txn}:l.Pairwise (fun a b=>dotLt a.1 b.1=true) ↔ ∀ j,0≤j→j<l.length - 1→risAt l j:=by
 constructor
 ·intro h j h1 h2 hj
  exact List.pairwise_iff_getElem.1 h j (j+1) (by omega) hj (by omega)
 ·intro h
  refine List.pairwise_iff_getElem.2 fun i j hi hj hij=>?_
  have key:∀ d i (hd:i+d+1<l.length),dotLt (l[i]'(by omega)).1 l[i+d+1].1=true:=by
   intro d
   induction d with
   | zero=>intro i hd;exact h i (by omega) (by omega) hd
   | succ d ih =>
    intro i hd
    exact dotLt_trans (ih i (by omega)) (h (i+d+1) (by omega) (by omega) (by omega))
  have:=key (j - i - 1) i (by omega)
  have e:i+(j - i - 1)+1=j:=by omega
  simpa only [e] using this
theorem rrises_is (k:Nat) (l:List Txn) (hl:l.length<k) (hk:k<1000000):∃ b,z0P.f k l=some b∧(b=true ↔ l.Pairwise (fun a b=>dotLt a.1 b.1=true)):=by
 rw [z0P.f_eq]
 obtain ⟨b,hb,hbi⟩:=loop_all' (l.length - 1) (fun n i=>z0P.l2 k n l ((i+1:Nat):Int)) (risAt l) (fun n i hi=>by
  have hi0:i<l.length:=by omega
  have hi1:i+1<l.length:=by omega
  have e3:isub .i64 ((i+1:Nat):Int) 1=(i:Int):=by rw [isub_s (by omega) (by omega) (by omega) (by omega)];omega
  have e4:iadd .i64 ((i+1:Nat):Int) 1=((i+1+1:Nat):Int):=iadd_nat (by omega)
  simp only [z0P.l2_eq,ilt_nat,e3,inL_nat,natOf_nat,hi0,hi1,decide_true,br_true,rd_at' (e:=tTxn) hi0,rd_at' (e:=tTxn) hi1,rcmp_is,bnd_some,cmp_m1,e4]
  cases hd:dotLt l[i].1 l[i+1].1 with
  | true=>exact .inl ⟨fun _=>hd,rfl⟩
  | false=>exact .inr ⟨fun h=>(by have:=h hi1;rw [hd] at this;cases this),rfl⟩) (fun n=>by
  simp only [z0P.l2_eq,ilt_nat,show ¬ l.length - 1+1<l.length by omega,decide_false,br_false]) k 0 (by omega) (by omega)
 exact ⟨b,hb,hbi.trans ris_iff.symm⟩
def emptyD:DSet:=(zarr 16 0,[])
def dotsOf (l:List Txn):List Dot:=l.map (·.1)
structure RightS (k:Nat) (s:Sta):Prop where
 many:s.1.length≤1000
 ris:s.1.Pairwise (fun a b=>dotLt a.1 b.1=true)
 un:CanU s.2.1
 se:Can s.2.2.2.1∧s.2.2.2.1.2.length≤4096
 chk:∀ t ∈ s.1,z0N.f k t=some 0
 redo:∀ l ∈ s.2.2.2.2,l.length≤1000∧∀ d ∈ l,rightD d=true
 kn:Can s.2.2.1∧s.2.2.1.2.length≤4096
 know:s.2.2.1=(dotsOf s.1).foldl putD emptyD
def chkAt (k:Nat) (l:List Txn) (j:Nat):Prop:=∀ h:j<l.length,z0N.f k l[j]=some 0
def rdAt (l:List Dot) (j:Nat):Prop:=∀ h:j<l.length,rightD l[j]=true
theorem rdAt_all {l:List Dot}:(∀ j,0≤j→j<l.length→rdAt l j) ↔ ∀ d ∈ l,rightD d=true:=by
 constructor
 ·intro h d hd
  obtain ⟨j,hj,rfl⟩:=List.mem_iff_getElem.1 hd
  exact h j (by omega) hj hj
 ·intro h j _ hj _;exact h _ (List.getElem_mem hj)
structure ShortS (s:Sta):Prop where
 tx:s.1.length≤20
 un:s.2.1.length≤100
 kn:s.2.2.1.2.length≤100
 se:s.2.2.2.1.2.length≤100
 each:∀ t ∈ s.1,ShortT t
 redo:∀ l ∈ s.2.2.2.2,l.length≤40
theorem ShortS.len {s:Sta} (h:ShortS s):LenS 100 s:=⟨Nat.le_trans h.tx (by decide),h.un,h.kn,h.se,fun l hl=>Nat.le_trans (h.redo l hl) (by decide)⟩
def shtAt (k:Nat) (l:List Txn) (j:Nat):Prop:=∀ h:j<l.length,z0O.f k l[j]=some true
theorem shtAt_all {k:Nat} {l:List Txn} (hk:1000<k) (hk2:k<1000000) (h:∀ j,0≤j→j<l.length→shtAt k l j):∀ t ∈ l,ShortT t:=by
 intro t ht
 obtain ⟨j,hj,rfl⟩:=List.mem_iff_getElem.1 ht
 obtain ⟨b,hb,hbi⟩:=rtxnshort_is k l[j] hk hk2
 rw [h j (by omega) hj hj] at hb
 injection hb with hb;exact hbi hb.symm
theorem sht_step (k:Nat) (t:Txn) (hk:1000<k) (hk2:k<1000000):∃ b,z0O.f k t=some b:=by
 obtain ⟨b,hb,_⟩:=rtxnshort_is k t hk hk2
 exact ⟨b,hb⟩
theorem ShortT.lenT {t:Txn} (h:ShortT t) {k:Nat} (hk:1000<k):LenT k t:=⟨by have:=h.len;omega,fun o ho=>⟨by have:=(h.ops o ho).path.1;omega,by have:=(h.ops o ho).seen;omega⟩⟩
structure ShortD (d:Dlt):Prop where
 tx:d.1.length≤20
 un:d.2.1.length≤100
 se:d.2.2.length≤100
 each:∀ t ∈ d.1,ShortT t
theorem ShortD.len {d:Dlt} (h:ShortD d):LenD 100 d:=⟨Nat.le_trans h.tx (by decide),h.un,h.se⟩
theorem rshortDl_is (k:Nat) (d:Dlt) (hk:1000<k) (hk2:k<1000000):∃ b,z0i.f k d=some b∧(b=true→ShortD d):=by
 rw [z0i.f_eq,show ilt 20 (ilen d.1)=decide (20<d.1.length) from ilt_lenR 20 _,show ilt 100 (ilen d.2.1)=decide (100<d.2.1.length) from ilt_lenR 100 _,show ilt 100 (ilen d.2.2)=decide (100<d.2.2.length) from ilt_lenR 100 _]
 simp only [br_dec]
 by_cases h1:20<d.1.length
 ·rw [if_pos h1];exact ⟨false,rfl,fun h=>by cases h⟩
 by_cases h2:100<d.2.1.length
 ·rw [if_neg h1,if_pos h2];exact ⟨false,rfl,fun h=>by cases h⟩
 by_cases h3:100<d.2.2.length
 ·rw [if_neg h1,if_neg h2,if_pos h3];exact ⟨false,rfl,fun h=>by cases h⟩
 rw [if_neg h1,if_neg h2,if_neg h3]
 obtain ⟨b,hb,hbi⟩:=loop_all' d.1.length (fun n i=>z0i.l4 k n (i:Int) d) (shtAt k d.1) (fun n i hi=>by
  have e3:iadd .i64 (i:Int) 1=((i+1:Nat):Int):=iadd_nat (by omega)
  obtain ⟨c,hc⟩:=sht_step k d.1[i] hk hk2
  simp only [z0i.l4_eq,ilt_nat,inL_nat,natOf_nat,hi,decide_true,br_true,rd_at' (e:=tTxn) hi,hc,bnd_some,e3]
  cases c with
  | false=>exact .inr ⟨fun h=>(by have:=h hi;rw [hc] at this;cases this),rfl⟩
  | true=>exact .inl ⟨fun _=>hc,rfl⟩) (fun n=>by simp only [z0i.l4_eq,ilt_nat,Nat.lt_irrefl,decide_false,br_false]) k 0 (by omega) (by omega)
 exact ⟨b,hb,fun h=>⟨by omega,by omega,by omega,shtAt_all hk hk2 (hbi.1 h)⟩⟩
structure RightDl (k:Nat) (d:Dlt):Prop where
 many:d.1.length≤1000
 ris:d.1.Pairwise (fun a b=>dotLt a.1 b.1=true)
 un:CanU d.2.1
 chk:∀ t ∈ d.1,z0N.f k t=some 0
 se:∀ x ∈ d.2.2,rightD x=true
theorem rrightDl_isG (k:Nat) (d:Dlt) (hsh:∀ t ∈ d.1,∃ e:Int,z0N.f k t=some e∧(e=0→rightD t.1=true)) (hul:d.2.1.length<k) (hsl:d.2.2.length<k) (hk:5000<k) (hk2:k<1000000):∃ b,z0j.f k d=some b∧(b=true ↔ RightDl k d):=by
 rw [z0j.f_eq,show ilt 1000 (ilen d.1)=decide (1000<d.1.length) from ilt_lenR 1000 d.1]
 by_cases hm:1000<d.1.length
 ·rw [decide_eq_true hm];exact ⟨false,rfl,⟨fun h=>(by cases h),fun h=>by have:=h.many;omega⟩⟩
 rw [decide_eq_false hm]
 obtain ⟨b1,g1,i1⟩:=rrises_is k d.1 (by omega) hk2
 obtain ⟨b2,g2,i2⟩:=rrightU_is k d.2.1 hul hk2
 rw [g1]
 simp only [br_false,bnd_some]
 cases b1 with
 | false=>exact ⟨false,rfl,⟨fun h=>(by cases h),fun h=>i1.2 h.ris⟩⟩
 | true =>
 have bt:bnot true=false:=rfl
 rw [bt,g2]
 simp only [br_false,bnd_some]
 cases b2 with
 | false=>exact ⟨false,rfl,⟨fun h=>(by cases h),fun h=>i2.2 h.un⟩⟩
 | true =>
 rw [bt]
 simp only [br_false]
 have seals:∃ b,z0j.l9 k k 0 d=some b∧(b=true ↔ ∀ j,0≤j→j<d.2.2.length→rdAt d.2.2 j):=by
  refine loop_all' d.2.2.length (fun n i=>z0j.l9 k n (i:Int) d) (rdAt d.2.2) (fun n i hi=>?_) (fun n=>?_) k 0 (by omega) (by omega)
  ·have e3:iadd .i64 (i:Int) 1=((i+1:Nat):Int):=iadd_nat (by omega)
   simp only [z0j.l9_eq,ilt_nat,inL_nat,natOf_nat,hi,decide_true,br_true,rd_at' (e:=tDot) hi,rright_is,bnd_some,e3]
   cases hd:rightD d.2.2[i] with
   | false=>exact .inr ⟨fun h=>(by have:=h hi;rw [hd] at this;cases this),rfl⟩
   | true=>exact .inl ⟨fun _=>hd,rfl⟩
  ·simp only [z0j.l9_eq,ilt_nat,Nat.lt_irrefl,decide_false,br_false]
 obtain ⟨b,hb,hbi⟩:=loop_all d.1.length (fun n i=>z0j.l4 k n (i:Int) d) (chkAt k d.1) (fun n i hi=>by
  have e3:iadd .i64 (i:Int) 1=((i+1:Nat):Int):=iadd_nat (by omega)
  obtain ⟨e,he,_⟩:=hsh _ (List.getElem_mem hi)
  simp only [z0j.l4_eq,ilt_nat,inL_nat,natOf_nat,hi,decide_true,br_true,rd_at' (e:=tTxn) hi,he,bnd_some,e3,ieq_dec,bnot_dec,br_dec]
  by_cases hz:e=0
  ·exact .inl ⟨fun _=>by rw [he,hz],if_neg (by simpa using hz)⟩
  ·exact .inr ⟨fun h=>by rw [h hi] at he;injection he with he;exact hz he.symm,if_pos hz⟩) _ _ seals (fun n=>by simp only [z0j.l4_eq,ilt_nat,Nat.lt_irrefl,decide_false,br_false]) k 0 (by omega) (by omega)
 refine ⟨b,hb,hbi.trans ⟨fun ⟨h1,h2⟩=>⟨by omega,i1.1 rfl,i2.1 rfl,fun t ht=>?_,rdAt_all.1 h2⟩,fun h=>⟨fun j _ hj _=>h.chk _ (List.getElem_mem hj),rdAt_all.2 h.se⟩⟩⟩
 obtain ⟨j,hj,rfl⟩:=List.mem_iff_getElem.1 ht
 exact h1 j (by omega) hj hj
theorem rrightDl_is (k:Nat) (d:Dlt) (hsh:∀ t ∈ d.1,ShortT t) (hul:d.2.1.length<k) (hsl:d.2.2.length<k) (hk:5000<k) (hk2:k<1000000):∃ b,z0j.f k d=some b∧(b=true ↔ RightDl k d) :=
 rrightDl_isG k d (fun t ht=>rtxn_is k t (hsh t ht) (by omega) hk2) hul hsl hk hk2
end Go.Proofs.YtggcagclpkhlhaaGreatDoor
end
noncomputable section
/- States with more of each: they may be, and the order does not matter. -/
namespace Go.Proofs.YtggcagclpkhlhaaGreatDoor
open Pal
end Go.Proofs.YtggcagclpkhlhaaGreatDoor
end
noncomputable section
/- What is known: joined, the same, within. -/
namespace Go.Proofs.YtggcagclpkhlhaaGreatDoor
open Pal
end Go.Proofs.YtggcagclpkhlhaaGreatDoor
end
noncomputable section
/- Counts that may be: the program's test. -/
namespace Go.Proofs.YtggcagclpkhlhaaGreatDoor
open Pal
theorem trightU2_is (k:Nat) (l:List Undo) (h3:3≤k) (hl:l.length<k) (hk:k<1000000):∃ b,z0U.f k l=some b∧(b=true ↔ CanU l):=by
 obtain ⟨b,hb,hbi⟩:=loop_all' l.length (fun n i=>z0U.l2 k n l l (ilen l) (i:Int)) (okU l) (fun n i hi=>by
  have e4:iadd .i64 (i:Int) 1=((i+1:Nat):Int):=iadd_nat (by omega)
  simp only [z0U.l2_eq,ilt_nat,inL_nat,natOf_nat,hi,decide_true,br_true,rd_at' (e:=tUndo) hi,right_is,bnd_some,e4]
  have key:∀ hr:rightU l[i]=false,¬ okU l i:=fun hr h=>by have:=(h hi).1;rw [hr] at this;cases this
  have bt:bnot true=false:=rfl
  have bf:bnot false=true:=rfl
  cases hd:rightD l[i].1 with
  | false=>exact .inr ⟨key (by unfold rightU;rw [hd];rfl),by rw [bf];rfl⟩
  | true =>
   rw [bt]
   simp only [br_false,ilt_dec,br_dec]
   by_cases h1:l[i].2<1
   ·exact .inr ⟨key (by unfold rightU;rw [hd,decide_eq_false (by omega)];rfl),if_pos h1⟩
   ·rw [if_neg h1]
    by_cases h2:64<l[i].2
    ·exact .inr ⟨key (by unfold rightU;rw [hd,decide_eq_false (by omega)];rfl),if_pos h2⟩
    ·rw [if_neg h2]
     have hu:rightU l[i]=true:=by unfold rightU;rw [hd,decide_eq_true (by omega)];rfl
     by_cases h0:0<i
     ·have hi1:i - 1<l.length:=by omega
      have e3:isub .i64 (i:Int) 1=((i - 1:Nat):Int):=by rw [isub_s (by omega) (by omega) (by omega) (by omega)];omega
      have e5:(0:Int)<(i:Int):=by omega
      rw [if_pos e5,e3,inL_nat,natOf_nat,rd_at' (e:=tUndo) hi1,tcmp_is k _ _ h3]
      simp only [hi1,decide_true,br_true,bnd_some,ile_dec,br_dec]
      have hcc:cmpD l[i - 1].1 l[i].1<0 ↔ dotLt l[i - 1].1 l[i].1=true:=by rw [← cmp_lt0];exact decide_eq_true_iff.symm
      by_cases hc:0≤cmpD l[i - 1].1 l[i].1
      ·exact .inr ⟨fun h=>by have:=hcc.2 ((h hi).2 h0);omega,if_pos hc⟩
      ·exact .inl ⟨fun _=>⟨hu,fun _=>hcc.1 (by omega)⟩,if_neg hc⟩
     ·have e5:¬ (0:Int)<(i:Int):=by omega
      exact .inl ⟨fun _=>⟨hu,fun h=>absurd h h0⟩,if_neg e5⟩) (fun n=>by
  simp only [z0U.l2_eq,ilt_nat,Nat.lt_irrefl,decide_false,br_false]) k 0 (by omega) (by omega)
 rw [z0U.f_eq]
 refine ⟨b,hb,hbi.trans ?_⟩
 rw [canU_iff]
 exact ⟨fun h j hj=>h j (by omega) hj hj,fun h j _ _ hj=>h j hj⟩
end Go.Proofs.YtggcagclpkhlhaaGreatDoor
end
noncomputable section
/- Whether a state may be: the program's word is the document's. -/
namespace Go.Proofs.YtggcagclpkhlhaaGreatDoor
open Pal
def risB (l:List Txn) (j:Nat):Prop:=∀ h:j<l.length,∀ h0:0<j,dotLt (l[j - 1]'(by omega)).1 l[j].1=true
theorem risB_iff {l:List Txn}:l.Pairwise (fun a b=>dotLt a.1 b.1=true) ↔ ∀ j,0≤j→j<l.length→risB l j:=by
 rw [ris_iff]
 constructor
 ·intro h j _ hj hj' h0
  have:=h (j - 1) (by omega) (by omega) (by omega)
  have e:j - 1+1=j:=by omega
  simpa only [e] using this
 ·intro h j _ hj hj'
  have:=h (j+1) (by omega) (by omega) hj' (by omega)
  simpa using this
theorem trises_is (k:Nat) (l:List Txn) (h3:3≤k) (hl:l.length<k) (hk:k<1000000):∃ b,z1R.f k l=some b∧(b=true ↔ l.Pairwise (fun a b=>dotLt a.1 b.1=true)):=by
 rw [z1R.f_eq]
 obtain ⟨b,hb,hbi⟩:=loop_all' l.length (fun n i=>z1R.l2 k n l l (ilen l) (i:Int)) (risB l) (fun n i hi=>by
  have e4:iadd .i64 (i:Int) 1=((i+1:Nat):Int):=iadd_nat (by omega)
  simp only [z1R.l2_eq,ilt_nat,inL_nat,natOf_nat,hi,decide_true,br_true,rd_at' (e:=tTxn) hi,e4]
  rw [show ilt 0 (i:Int)=decide (0<i) from ilt_nn 0 i]
  by_cases h0:0<i
  ·have hi1:i - 1<l.length:=by omega
   have e3:isub .i64 (i:Int) 1=((i - 1:Nat):Int):=by rw [isub_s (by omega) (by omega) (by omega) (by omega)];omega
   obtain ⟨q,rfl⟩:∃ q,k=q+3:=⟨k - 3,by omega⟩
   rw [decide_eq_true h0,br_true,e3,inL_nat,natOf_nat,rd_at' (e:=tTxn) hi1,decide_eq_true hi1,br_true,cmpD_is,bnd_some,show ile 0 (cmpD l[i - 1].1 l[i].1)=decide (0≤cmpD l[i - 1].1 l[i].1) from rfl]
   have hcc:cmpD l[i - 1].1 l[i].1<0 ↔ dotLt l[i - 1].1 l[i].1=true:=by rw [← cmp_lt0];exact decide_eq_true_iff.symm
   by_cases hc:0≤cmpD l[i - 1].1 l[i].1
   ·exact .inr ⟨fun h=>by have:=hcc.2 (h hi h0);omega,by rw [decide_eq_true hc,br_true]⟩
   ·exact .inl ⟨fun _ _=>hcc.1 (by omega),by rw [decide_eq_false hc,br_false]⟩
  ·exact .inl ⟨fun _ h=>absurd h h0,by rw [decide_eq_false h0,br_false]⟩) (fun n=>by
  simp only [z1R.l2_eq,ilt_nat,Nat.lt_irrefl,decide_false,br_false]) k 0 (by omega) (by omega)
 exact ⟨b,hb,hbi.trans risB_iff.symm⟩
end Go.Proofs.YtggcagclpkhlhaaGreatDoor
end
noncomputable section
/- What is told as bytes is read again: numbers. -/
namespace Go.Proofs.YtggcagclpkhlhaaGreatDoor
open Pal
theorem bk_byte {s r:List UInt8} {i:Nat} {b:UInt8} (h:s.drop i=b::r):i<s.length∧byteAt s (i:Int)=((b.toNat:Nat):Int)∧s.drop (i+1)=r:=by
 have hl:i<s.length:=by
  rcases Nat.lt_or_ge i s.length with h1 | h1
  ·exact h1
  ·rw [List.drop_eq_nil_of_le h1] at h;cases h
 rw [List.drop_eq_getElem_cons hl] at h
 injection h with h1 h2
 refine ⟨hl,?_,h2⟩
 unfold byteAt
 rw [Int.toNat_natCast,List.getD_eq_getElem?_getD,List.getElem?_eq_getElem hl,h1];rfl
theorem back_l (k:Nat) (s t:List UInt8) (hS:s.length<4000000):∀ (j i v n m:Nat),i+j=8→j+1≤m→n<2 ^ (7 * j)→(0<i→0<n)→v<2 ^ (7 * i)→s.drop i=packB n++t →
  z0m.l3 k m (v:Int) (i:Int) (s,0)=some (((2 ^ (7 * i) * n+v:Nat):Int),(t,0))
 | 0,i,v,n,m,hj,_,hn,hp,_,_=>by
  have h0:n<1:=hn
  have:=hp (by omega);omega
 | j+1,i,v,n,0,hj,hm,_,_,_,_=>by omega
 | j+1,i,v,n,m+1,hj,hm,hn,hp,hv,hd=>by
  have hi8:i<8:=by omega
  have e1:ieq (i:Int) 8=false:=by rw [ieq_dec];exact decide_eq_false (by omega)
  have e7:ilt (imul .i64 7 (i:Int)) 0=false:=by
   show decide (IntKind.wrap .i64 (7 * (i:Int))<0)=false
   rw [wrap64 (by omega) (by omega)];exact decide_eq_false (by omega)
  have e12:iadd .i64 (i:Int) 1=((i+1:Nat):Int):=iadd_nat (by omega)
  obtain ⟨c,b,r,hb,hc,hcb,hc256⟩:∃ (c:Nat) (b:UInt8) (r:List UInt8),packB n++t=b::r∧b.toNat=c∧(if n<128 then c=n∧r=t else c=n % 128+128∧r=packB (n / 128)++t)∧c<256:=by
   by_cases h:n<128
   ·refine ⟨n,UInt8.ofNat n,t,by rw [packB_lo h];rfl,?_,by rw [if_pos h];exact ⟨rfl,rfl⟩,by omega⟩
    rw [UInt8.toNat_ofNat'];omega
   ·refine ⟨n % 128+128,UInt8.ofNat (n % 128+128),packB (n / 128)++t,by rw [packB_hi h];rfl,?_,by rw [if_neg h];exact ⟨rfl,rfl⟩,by omega⟩
    rw [UInt8.toNat_ofNat'];omega
  rw [hb] at hd
  obtain ⟨hl,hby,hdr⟩:=bk_byte hd
  rw [hc] at hby
  have e4:ile (ilen s) (i:Int)=false:=by unfold ile ilen;exact decide_eq_false (by omega)
  have e6:inL (i:Int) s=true:=by rw [inL_nat];exact decide_eq_true hl
  have hw:iwrap .i64 (c:Int)=(c:Int):=wrap64 (by omega) (by omega)
  obtain ⟨g1,g2⟩:=num_step (c:=c) hi8 hc256 hv
  have e8:ile 128 (c:Int)=decide (128≤c):=by unfold ile;exact decide_eq_decide.2 ⟨fun h=>by omega,fun h=>by omega⟩
  have e10:ieq (c:Int) 0=decide (c=0):=by rw [ieq_dec];exact decide_eq_decide.2 ⟨fun h=>by omega,fun h=>by omega⟩
  have e11:ilt 0 (i:Int)=decide (0<i):=ilt_nn 0 i
  rw [z0m.l3_eq,fine_is]
  simp only [bnd_some,decide_true,br_true,e1,br_false,e4,e6,e7,hby,hw,e8,e10,e11,g1,e12]
  by_cases h:n<128
  ·rw [if_pos h] at hcb
   obtain ⟨hcn,hr⟩:=hcb
   have hcm:c % 128=n:=by omega
   have hc2:¬ 128≤c:=by omega
   rw [decide_eq_false hc2,br_false,hcm]
   have hin:inS ((i+1:Nat):Int) (ilen s) (ilen s)=true:=by
    have q1:((i+1:Nat):Int)≤(s.length:Int):=by omega
    show (decide ((0:Int)≤((i+1:Nat):Int)) && decide (((i+1:Nat):Int)≤(s.length:Int)) && decide ((s.length:Int)≤(s.length:Int)))=true
    rw [decide_eq_true q1,decide_eq_true (show (0:Int)≤((i+1:Nat):Int) by omega),decide_eq_true (Int.le_refl _)];rfl
   have hpc:piece s ((i+1:Nat):Int) (ilen s)=t:=by
    unfold piece ilen
    rw [Int.toNat_natCast,Int.toNat_natCast,List.take_length,hdr,hr]
   rw [hin,hpc,br_true]
   by_cases hc0:c=0
   ·have h0:¬ 0<i:=fun h=>by have:=hp h;omega
    rw [decide_eq_true hc0,decide_eq_false h0];rfl
   ·rw [decide_eq_false hc0];rfl
  ·rw [if_neg h] at hcb
   obtain ⟨hcn,hr⟩:=hcb
   have hcm:c % 128=n % 128:=by omega
   have hc2:128≤c:=by omega
   rw [decide_eq_true hc2,br_true,hcm]
   rw [hcm] at g2
   have e2:2 ^ (7 * (j+1))=2 ^ (7 * j) * 128:=by rw [show 7 * (j+1)=7 * j+7 by omega,Nat.pow_add]
   have e3:2 ^ (7 * (i+1))=2 ^ (7 * i) * 128:=by rw [show 7 * (i+1)=7 * i+7 by omega,Nat.pow_add]
   rw [back_l k s t hS j (i+1) _ (n / 128) m (by omega) (by omega) (by rw [e2] at hn;omega) (fun _=>by omega) g2 (by rw [hdr,hr])]
   have e5:2 ^ (7 * (i+1)) * (n / 128)+(2 ^ (7 * i) * (n % 128)+v)=2 ^ (7 * i) * n+v:=by
    have e9:2 ^ (7 * i) * n=2 ^ (7 * i) * (128 * (n / 128)+n % 128):=by rw [Nat.div_add_mod]
    rw [e3,e9,Nat.mul_add,Nat.mul_assoc];omega
   rw [e5]
theorem back_int (k n:Nat) (t:List UInt8) (hk:12<k) (hn:n<72057594037927936) (hS:(packB n++t).length<4000000):z0m.f k (packB n++t,0)=some ((n:Int),(t,0)):=by
 rw [z0m.f_eq]
 have:=back_l k (packB n++t) t hS 8 0 0 n k (by omega) (by omega) (by show n<2 ^ 56;exact hn) (fun h=>by omega) (by decide) rfl
 simpa using this
end Go.Proofs.YtggcagclpkhlhaaGreatDoor
end
