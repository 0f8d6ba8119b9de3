/- The functions that the statement reaches, and what they come to. Part 3. -/
import Derived.Test.YtggcagclpkhlhaaGreatDoorFw1
import Derived.Test.YtggcagclpkhlhaaGreatDoorFw2
import Derived.Test.YtggcagclpkhlhaaGreatDoorFw3
import Derived.Test.YtggcagclpkhlhaaGreatDoorRecordTells1
import Derived.Test.YtggcagclpkhlhaaGreatDoorRecordTells2
set_option linter.unusedVariables false
set_option linter.unusedSimpArgs false
set_option linter.unusedSectionVars false
noncomputable section
/- The program's functions, as plain equations. -/
namespace Go.Proofs.YtggcagclpkhlhaaGreatDoor
open Pal
set_option maxRecDepth 100000
@[reducible] def ref22_Read.sg:Sg:=⟨[.ref],[tref02Reader],.dat tState,[tref02Reader]⟩
@[reducible] def ref02_Reader_Left.sg:Sg:=⟨[.ref],[tref02Reader],.dat (.int .i64),[tref02Reader]⟩
@[reducible] def ref02_Reader_End.sg:Sg:=⟨[.ref],[tref02Reader],.dat (.int .i64),[tref02Reader]⟩
def z0i.body:Go.Code:=Tryz.f38.body.getD .skip
def z0i.rs:List Go.ResultVar:=Tryz.f38.results.toList
def z0i.regs:List (Nat × RInfo):=[(0,⟨[1],[1],[0],[],0,[],[],[],[],[]⟩),(1,ri [1,20] [1]),(2,ri [2] []),(3,ri [1,3] [1]),(4,⟨[1,3,25],[1],[],[],0,[1,3],[1],[],[],[]⟩),(6,ri [1,3,34] [1]),(7,ri [2] []),(5,ri [1,3] [1]),(8,ri [1,4] [1]),(9,⟨[1,4,39],[1],[],[],0,[1,4],[1],[],[],[]⟩),(11,ri [1,4,48] [1]),(12,ri [2] []),(10,ri [1,4] [1]),(13,ri [2] [])]
def z0i.cx (k:Nat):Cx:=⟨tt,pp,[(75,(z0T.e k)),(49,(z0Y.e k)),(48,(z0z.e k)),(77,(z0W.e k))],z0i.regs,k,mm⟩
@[reducible] def z0i.sg:Sg:=⟨[.dat tDelta],[],.dat .bool,[]⟩
def z0i.f (k:Nat) (a0:Ty.D tDelta):Option (Sg.Out z0i.sg):=Sg.fn z0i.sg (z0i.cx k) z0i.body z0i.rs a0
def z0i.l4 (k:Nat) (n:Nat) (x3:Ty.D (.int .i64)) (m1:Ty.D tDelta):Option (Sg.Out z0i.sg):=loopAt (z0i.cx k) z0i.body [1,1,0,1,0] 4 [1,3] [1] [] (Sg.K z0i.sg (z0i.cx k) z0i.rs) n ⟨[(1,.ref 1 []),(3,.dat (.int .i64) x3)],[(1,.dat tDelta m1)]⟩
def z0i.l9 (k:Nat) (n:Nat) (x4:Ty.D (.int .i64)) (m1:Ty.D tDelta):Option (Sg.Out z0i.sg):=loopAt (z0i.cx k) z0i.body [1,1,1,0,1,0] 9 [1,4] [1] [] (Sg.K z0i.sg (z0i.cx k) z0i.rs) n ⟨[(1,.ref 1 []),(4,.dat (.int .i64) x4)],[(1,.dat tDelta m1)]⟩
theorem z0i.f_eq (k:Nat) (a0:Ty.D tDelta):z0i.f k a0=br (ilt 1000 (ilen a0.1)) (some false) (bnd (z0T.f k a0.1) fun r0=>br (bnot r0) (some false) (bnd (z0Y.f k a0.2.1) fun r1=>br (bnot r1) (some false) (z0i.l4 k k 0 a0))):=by kernel_rfl
theorem z0i.l4_eq (k:Nat) (n4:Nat) (x3:Ty.D (.int .i64)) (m1:Ty.D tDelta):z0i.l4 k (n4+1) x3 m1=br (ilt x3 (ilen m1.1)) (br (inL x3 m1.1) (bnd (z0z.f k (rd tTxn m1.1 (natOf x3))) fun r0=>br (bnot (ieq r0 0)) (some false) (z0i.l4 k n4 (iadd .i64 x3 1) m1)) none) (z0i.l9 k k 0 m1):=by kernel_rfl
theorem z0i.l9_eq (k:Nat) (n9:Nat) (x4:Ty.D (.int .i64)) (m1:Ty.D tDelta):z0i.l9 k (n9+1) x4 m1=br (ilt x4 (ilen m1.2.2)) (br (inL x4 m1.2.2) (bnd (z0W.f k (rd tDot m1.2.2 (natOf x4))) fun r0=>br (bnot r0) (some false) (z0i.l9 k n9 (iadd .i64 x4 1) m1)) none) (some true):=by kernel_rfl
def z0i.e (k:Nat):Entry:=Sg.entry z0i.sg fun x=>z0i.f k x
theorem z0i.ok (k:Nat):CallOK Tryz.prog 38 (z0i.e k):=fn_ok (c:=z0i.cx k) (code:=z0i.body) (TT.of tt_ok pp_ok mm_ok) (fns_ok ⟨(z0T.ok k),(z0Y.ok k),(z0z.ok k),(z0W.ok k),trivial⟩) mixed Tryz.func38 (by kernel_rfl) (by kernel_rfl) (by kernel_rfl) (by kernel_rfl) (by kernel_rfl) (by kernel_rfl) (fun x=>by kernel_rfl)
def z11.body:Go.Code:=Tryz.f12.body.getD .skip
def z11.rs:List Go.ResultVar:=Tryz.f12.results.toList
def z11.regs:List (Nat × RInfo):=[(0,⟨[1],[1],[0],[],0,[],[],[],[],[]⟩),(1,ri [1,4] [1]),(2,ri [1,4,5] [1]),(3,ri [2] [25,41,46]),(4,ri [1,4,11] [1]),(5,ri [2] [25,41,46]),(6,ri [1,4,37] [1]),(7,ri [2] [25,41,46]),(8,ri [1,42] [1]),(9,ri [2] [25,41,46]),(10,ri [2] [25,41,46])]
def z11.cx (k:Nat):Cx:=⟨tt,pp,[(48,(z0z.e k)),(49,(z0Y.e k)),(38,(z0i.e k)),(19,(z0C.e k))],z11.regs,k,mm⟩
@[reducible] def z11.sg:Sg:=⟨[.dat tRecord],[],.dat .bool,[]⟩
def z11.f (k:Nat) (a0:Ty.D tRecord):Option (Sg.Out z11.sg):=Sg.fn z11.sg (z11.cx k) z11.body z11.rs a0
theorem z11.f_eq (k:Nat) (a0:Ty.D tRecord):z11.f k a0=br (ieq a0.1 1) (bnd (z0z.f k a0.2.1) fun r0=>some (ieq r0 0)) (br (ieq a0.1 2) (br (ile 0 a0.2.2.1) (br (ile a0.2.2.1 7) (bnd (z0Y.f k (a0.2.2.2.1::[])) fun r1=>br r1 (br (ile 0 a0.2.2.2.2.1) (some (ile a0.2.2.2.2.1 2)) (some false)) (some false)) (some false)) (some false)) (br (ieq a0.1 3) (bnd (z0i.f k a0.2.2.2.2.2.1) fun r2=>some r2) (br (ieq a0.1 4) (bnd (z0C.f k a0.2.2.2.2.2.2) fun r3=>some r3) (some false)))):=by kernel_rfl
def z11.e (k:Nat):Entry:=Sg.entry z11.sg fun x=>z11.f k x
theorem z11.ok (k:Nat):CallOK Tryz.prog 12 (z11.e k):=fn_ok (c:=z11.cx k) (code:=z11.body) (TT.of tt_ok pp_ok mm_ok) (fns_ok ⟨(z0z.ok k),(z0Y.ok k),(z0i.ok k),(z0C.ok k),trivial⟩) mixed Tryz.func12 (by kernel_rfl) (by kernel_rfl) (by kernel_rfl) (by kernel_rfl) (by kernel_rfl) (by kernel_rfl) (fun x=>by kernel_rfl)
@[reducible] def ref23_Parse.sg:Sg:=⟨[.dat .str],[],.t2 (.dat tRecord) (.dat (.int .i64)),[]⟩
def z1G.body:Go.Code:=Tryz.f217.body.getD .skip
def z1G.rs:List Go.ResultVar:=Tryz.f217.results.toList
def z1G.regs:List (Nat × RInfo):=[(0,ri [0,1] []),(1,ri [0,1,10] []),(2,ri [4] []),(3,ri [0,1,5] []),(4,⟨[0,1,5,14],[],[],[],0,[0,1,5],[],[],[],[]⟩),(6,rq [0,1,5,25] [] 9),(7,ri [4] []),(5,ri [0,1,5] []),(8,ri [4] [])]
def z1G.cx (k:Nat):Cx:=⟨tt,pp,[],z1G.regs,k,mm⟩
@[reducible] def z1G.sg:Sg:=⟨[.dat (.slc .str),.dat (.slc .str)],[],.dat .bool,[]⟩
def z1G.f (k:Nat) (a0:Ty.D (.slc .str)) (a1:Ty.D (.slc .str)):Option (Sg.Out z1G.sg):=Sg.fn z1G.sg (z1G.cx k) z1G.body z1G.rs (a0,a1)
def z1G.l4 (k:Nat) (n:Nat) (x0:Ty.D (.slc .str)) (x1:Ty.D (.slc .str)) (x5:Ty.D (.int .i64)):Option (Sg.Out z1G.sg):=loopAt (z1G.cx k) z1G.body [1,1,0,1,0] 4 [0,1,5] [] [] (Sg.K z1G.sg (z1G.cx k) z1G.rs) n ⟨[(0,.dat (.slc .str) x0),(1,.dat (.slc .str) x1),(5,.dat (.int .i64) x5)],[]⟩
theorem z1G.f_eq (k:Nat) (a0:Ty.D (.slc .str)) (a1:Ty.D (.slc .str)):z1G.f k a0 a1=br (bnot (ieq (ilen a0) (ilen a1))) (some false) (z1G.l4 k k a0 a1 0):=by kernel_rfl
theorem z1G.l4_eq (k:Nat) (n4:Nat) (x0:Ty.D (.slc .str)) (x1:Ty.D (.slc .str)) (x5:Ty.D (.int .i64)):z1G.l4 k (n4+1) x0 x1 x5=br (ilt x5 (ilen x0)) (br (inL x5 x0) (br (inL x5 x1) (br (bnot (seq (rd .str x0 (natOf x5)) (rd .str x1 (natOf x5)))) (some false) (z1G.l4 k n4 x0 x1 (iadd .i64 x5 1))) none) none) (some true):=by kernel_rfl
def z1G.e (k:Nat):Entry:=Sg.entry z1G.sg fun x=>z1G.f k x.1 x.2
theorem z1G.ok (k:Nat):CallOK Tryz.prog 217 (z1G.e k):=fn_ok (c:=z1G.cx k) (code:=z1G.body) (TT.of tt_ok pp_ok mm_ok) (fns_ok trivial) mixed Tryz.func217 (by kernel_rfl) (by kernel_rfl) (by kernel_rfl) (by kernel_rfl) (by kernel_rfl) (by kernel_rfl) (fun x=>by kernel_rfl)
def z1v.body:Go.Code:=Tryz.f166.body.getD .skip
def z1v.rs:List Go.ResultVar:=Tryz.f166.results.toList
def z1v.regs:List (Nat × RInfo):=[(0,⟨[2,3],[2,3],[0,1],[],0,[],[],[],[],[]⟩),(1,ri [2,3,41] [2,3]),(2,ri [4] []),(3,ri [2,3,5] [2,3]),(4,⟨[2,3,5,46],[2,3],[],[],0,[2,3,5],[2,3],[],[],[]⟩),(6,rq [2,3,5,59] [2,3] 11),(7,ri [4] []),(5,ri [2,3,5] [2,3]),(8,ri [4] [])]
def z1v.cx (k:Nat):Cx:=⟨tt,pp,[(217,(z1G.e k))],z1v.regs,k,mm⟩
@[reducible] def z1v.sg:Sg:=⟨[.dat tOp,.dat tOp],[],.dat .bool,[]⟩
def z1v.f (k:Nat) (a0:Ty.D tOp) (a1:Ty.D tOp):Option (Sg.Out z1v.sg):=Sg.fn z1v.sg (z1v.cx k) z1v.body z1v.rs (a0,a1)
def z1v.l4 (k:Nat) (n:Nat) (x5:Ty.D (.int .i64)) (m2:Ty.D tOp) (m3:Ty.D tOp):Option (Sg.Out z1v.sg):=loopAt (z1v.cx k) z1v.body [1,1,0,1,0] 4 [2,3,5] [2,3] [] (Sg.K z1v.sg (z1v.cx k) z1v.rs) n ⟨[(2,.ref 2 []),(3,.ref 3 []),(5,.dat (.int .i64) x5)],[(2,.dat tOp m2),(3,.dat tOp m3)]⟩
theorem z1v.f_eq (k:Nat) (a0:Ty.D tOp) (a1:Ty.D tOp):z1v.f k a0 a1=br (bnot (ieq a0.1 a1.1)) (some false) (br (bnot (deq tValue a0.2.2.1 a1.2.2.1)) (some false) (br (bnot (ieq a0.2.2.2.1 a1.2.2.2.1)) (some false) (bnd (z1G.f k a0.2.1 a1.2.1) fun r0=>br (bnot r0) (some false) (br (bnot (ieq (ilen a0.2.2.2.2) (ilen a1.2.2.2.2))) (some false) (z1v.l4 k k 0 a0 a1))))):=by kernel_rfl
theorem z1v.l4_eq (k:Nat) (n4:Nat) (x5:Ty.D (.int .i64)) (m2:Ty.D tOp) (m3:Ty.D tOp):z1v.l4 k (n4+1) x5 m2 m3=br (ilt x5 (ilen m2.2.2.2.2)) (br (inL x5 m2.2.2.2.2) (br (inL x5 m3.2.2.2.2) (br (bnot (deq tUndo (rd tUndo m2.2.2.2.2 (natOf x5)) (rd tUndo m3.2.2.2.2 (natOf x5)))) (some false) (z1v.l4 k n4 (iadd .i64 x5 1) m2 m3)) none) none) (some true):=by kernel_rfl
def z1v.e (k:Nat):Entry:=Sg.entry z1v.sg fun x=>z1v.f k x.1 x.2
theorem z1v.ok (k:Nat):CallOK Tryz.prog 166 (z1v.e k):=fn_ok (c:=z1v.cx k) (code:=z1v.body) (TT.of tt_ok pp_ok mm_ok) (fns_ok ⟨(z1G.ok k),trivial⟩) mixed Tryz.func166 (by kernel_rfl) (by kernel_rfl) (by kernel_rfl) (by kernel_rfl) (by kernel_rfl) (by kernel_rfl) (fun x=>by kernel_rfl)
def z1n.body:Go.Code:=Tryz.f113.body.getD .skip
def z1n.rs:List Go.ResultVar:=Tryz.f113.results.toList
def z1n.regs:List (Nat × RInfo):=[(0,⟨[2,3],[2,3],[0,1],[],0,[],[],[],[],[]⟩),(1,ri [2,3,40] [2,3]),(2,ri [4] []),(3,ri [2,3,5] [2,3]),(4,⟨[2,3,5,45],[2,3],[],[],0,[2,3,5],[2,3],[],[],[]⟩),(6,rq [2,3,5,59] [2,3] 12),(7,ri [4] []),(5,ri [2,3,5] [2,3]),(8,ri [4] [])]
def z1n.cx (k:Nat):Cx:=⟨tt,pp,[(166,(z1v.e k))],z1n.regs,k,mm⟩
@[reducible] def z1n.sg:Sg:=⟨[.dat tTxn,.dat tTxn],[],.dat .bool,[]⟩
def z1n.f (k:Nat) (a0:Ty.D tTxn) (a1:Ty.D tTxn):Option (Sg.Out z1n.sg):=Sg.fn z1n.sg (z1n.cx k) z1n.body z1n.rs (a0,a1)
def z1n.l4 (k:Nat) (n:Nat) (x5:Ty.D (.int .i64)) (m2:Ty.D tTxn) (m3:Ty.D tTxn):Option (Sg.Out z1n.sg):=loopAt (z1n.cx k) z1n.body [1,1,0,1,0] 4 [2,3,5] [2,3] [] (Sg.K z1n.sg (z1n.cx k) z1n.rs) n ⟨[(2,.ref 2 []),(3,.ref 3 []),(5,.dat (.int .i64) x5)],[(2,.dat tTxn m2),(3,.dat tTxn m3)]⟩
theorem z1n.f_eq (k:Nat) (a0:Ty.D tTxn) (a1:Ty.D tTxn):z1n.f k a0 a1=br (bnot (deq tDot a0.1 a1.1)) (some false) (br (bnot (ieq a0.2.1 a1.2.1)) (some false) (br (bnot (ieq a0.2.2.1 a1.2.2.1)) (some false) (br (bnot (deq .bool a0.2.2.2.1 a1.2.2.2.1)) (some false) (br (bnot (ieq (ilen a0.2.2.2.2) (ilen a1.2.2.2.2))) (some false) (z1n.l4 k k 0 a0 a1))))):=by kernel_rfl
theorem z1n.l4_eq (k:Nat) (n4:Nat) (x5:Ty.D (.int .i64)) (m2:Ty.D tTxn) (m3:Ty.D tTxn):z1n.l4 k (n4+1) x5 m2 m3=br (ilt x5 (ilen m2.2.2.2.2)) (br (inL x5 m2.2.2.2.2) (br (inL x5 m3.2.2.2.2) (bnd (z1v.f k (rd tOp m2.2.2.2.2 (natOf x5)) (rd tOp m3.2.2.2.2 (natOf x5))) fun r0=>br (bnot r0) (some false) (z1n.l4 k n4 (iadd .i64 x5 1) m2 m3)) none) none) (some true):=by kernel_rfl
def z1n.e (k:Nat):Entry:=Sg.entry z1n.sg fun x=>z1n.f k x.1 x.2
theorem z1n.ok (k:Nat):CallOK Tryz.prog 113 (z1n.e k):=fn_ok (c:=z1n.cx k) (code:=z1n.body) (TT.of tt_ok pp_ok mm_ok) (fns_ok ⟨(z1v.ok k),trivial⟩) mixed Tryz.func113 (by kernel_rfl) (by kernel_rfl) (by kernel_rfl) (by kernel_rfl) (by kernel_rfl) (by kernel_rfl) (fun x=>by kernel_rfl)
def z26.body:Go.Code:=Tryz.f69.body.getD .skip
def z26.rs:List Go.ResultVar:=Tryz.f69.results.toList
def z26.regs:List (Nat × RInfo):=[(0,ri [0,1] []),(1,ri [0,1,10] []),(2,ri [4] []),(3,ri [0,1,5] []),(4,⟨[0,1,5,14],[],[],[],0,[0,1,5],[],[],[],[]⟩),(6,rq [0,1,5,26] [] 10),(7,ri [4] []),(5,ri [0,1,5] []),(8,ri [4] [])]
def z26.cx (k:Nat):Cx:=⟨tt,pp,[(113,(z1n.e k))],z26.regs,k,mm⟩
@[reducible] def z26.sg:Sg:=⟨[.dat (.slc tTxn),.dat (.slc tTxn)],[],.dat .bool,[]⟩
def z26.f (k:Nat) (a0:Ty.D (.slc tTxn)) (a1:Ty.D (.slc tTxn)):Option (Sg.Out z26.sg):=Sg.fn z26.sg (z26.cx k) z26.body z26.rs (a0,a1)
def z26.l4 (k:Nat) (n:Nat) (x0:Ty.D (.slc tTxn)) (x1:Ty.D (.slc tTxn)) (x5:Ty.D (.int .i64)):Option (Sg.Out z26.sg):=loopAt (z26.cx k) z26.body [1,1,0,1,0] 4 [0,1,5] [] [] (Sg.K z26.sg (z26.cx k) z26.rs) n ⟨[(0,.dat (.slc tTxn) x0),(1,.dat (.slc tTxn) x1),(5,.dat (.int .i64) x5)],[]⟩
theorem z26.f_eq (k:Nat) (a0:Ty.D (.slc tTxn)) (a1:Ty.D (.slc tTxn)):z26.f k a0 a1=br (bnot (ieq (ilen a0) (ilen a1))) (some false) (z26.l4 k k a0 a1 0):=by kernel_rfl
theorem z26.l4_eq (k:Nat) (n4:Nat) (x0:Ty.D (.slc tTxn)) (x1:Ty.D (.slc tTxn)) (x5:Ty.D (.int .i64)):z26.l4 k (n4+1) x0 x1 x5=br (ilt x5 (ilen x0)) (br (inL x5 x0) (br (inL x5 x1) (bnd (z1n.f k (rd tTxn x0 (natOf x5)) (rd tTxn x1 (natOf x5))) fun r0=>br (bnot r0) (some false) (z26.l4 k n4 x0 x1 (iadd .i64 x5 1))) none) none) (some true):=by kernel_rfl
def z26.e (k:Nat):Entry:=Sg.entry z26.sg fun x=>z26.f k x.1 x.2
theorem z26.ok (k:Nat):CallOK Tryz.prog 69 (z26.e k):=fn_ok (c:=z26.cx k) (code:=z26.body) (TT.of tt_ok pp_ok mm_ok) (fns_ok ⟨(z1n.ok k),trivial⟩) mixed Tryz.func69 (by kernel_rfl) (by kernel_rfl) (by kernel_rfl) (by kernel_rfl) (by kernel_rfl) (by kernel_rfl) (fun x=>by kernel_rfl)
def z1f.body:Go.Code:=Tryz.f70.body.getD .skip
def z1f.rs:List Go.ResultVar:=Tryz.f70.results.toList
def z1f.regs:List (Nat × RInfo):=[(0,ri [0,1] []),(1,ri [0,1,10] []),(2,ri [4] []),(3,ri [0,1,5] []),(4,⟨[0,1,5,14],[],[],[],0,[0,1,5],[],[],[],[]⟩),(6,rq [0,1,5,25] [] 9),(7,ri [4] []),(5,ri [0,1,5] []),(8,ri [4] [])]
def z1f.cx (k:Nat):Cx:=⟨tt,pp,[],z1f.regs,k,mm⟩
@[reducible] def z1f.sg:Sg:=⟨[.dat (.slc tUndo),.dat (.slc tUndo)],[],.dat .bool,[]⟩
def z1f.f (k:Nat) (a0:Ty.D (.slc tUndo)) (a1:Ty.D (.slc tUndo)):Option (Sg.Out z1f.sg):=Sg.fn z1f.sg (z1f.cx k) z1f.body z1f.rs (a0,a1)
def z1f.l4 (k:Nat) (n:Nat) (x0:Ty.D (.slc tUndo)) (x1:Ty.D (.slc tUndo)) (x5:Ty.D (.int .i64)):Option (Sg.Out z1f.sg):=loopAt (z1f.cx k) z1f.body [1,1,0,1,0] 4 [0,1,5] [] [] (Sg.K z1f.sg (z1f.cx k) z1f.rs) n ⟨[(0,.dat (.slc tUndo) x0),(1,.dat (.slc tUndo) x1),(5,.dat (.int .i64) x5)],[]⟩
theorem z1f.f_eq (k:Nat) (a0:Ty.D (.slc tUndo)) (a1:Ty.D (.slc tUndo)):z1f.f k a0 a1=br (bnot (ieq (ilen a0) (ilen a1))) (some false) (z1f.l4 k k a0 a1 0):=by kernel_rfl
theorem z1f.l4_eq (k:Nat) (n4:Nat) (x0:Ty.D (.slc tUndo)) (x1:Ty.D (.slc tUndo)) (x5:Ty.D (.int .i64)):z1f.l4 k (n4+1) x0 x1 x5=br (ilt x5 (ilen x0)) (br (inL x5 x0) (br (inL x5 x1) (br (bnot (deq tUndo (rd tUndo x0 (natOf x5)) (rd tUndo x1 (natOf x5)))) (some false) (z1f.l4 k n4 x0 x1 (iadd .i64 x5 1))) none) none) (some true):=by kernel_rfl
def z1f.e (k:Nat):Entry:=Sg.entry z1f.sg fun x=>z1f.f k x.1 x.2
theorem z1f.ok (k:Nat):CallOK Tryz.prog 70 (z1f.e k):=fn_ok (c:=z1f.cx k) (code:=z1f.body) (TT.of tt_ok pp_ok mm_ok) (fns_ok trivial) mixed Tryz.func70 (by kernel_rfl) (by kernel_rfl) (by kernel_rfl) (by kernel_rfl) (by kernel_rfl) (by kernel_rfl) (fun x=>by kernel_rfl)
@[reducible] def ref23_SameDelta.sg:Sg:=⟨[.dat tDelta,.dat tDelta],[],.dat .bool,[]⟩
def z1i.body:Go.Code:=Tryz.f17.body.getD .skip
def z1i.rs:List Go.ResultVar:=Tryz.f17.results.toList
def z1i.regs:List (Nat × RInfo):=[(0,⟨[2,3],[2,3],[0,1],[],0,[],[],[],[],[]⟩),(1,ri [2,3,5] [2,3]),(2,⟨[2,3,5,7],[2,3],[],[],0,[2,3,5],[2,3],[],[],[]⟩),(4,rq [2,3,5,19] [2,3] 10),(5,ri [4] [24,30,37,44]),(3,ri [2,3,5] [2,3]),(6,ri [4] [24,30,37,44])]
def z1i.cx (k:Nat):Cx:=⟨tt,pp,[(68,(z1h.e k)),(69,(z26.e k)),(70,(z1f.e k)),(71,(z18.e k))],z1i.regs,k,mm⟩
@[reducible] def z1i.sg:Sg:=⟨[.dat tState,.dat tState],[],.dat .bool,[]⟩
def z1i.f (k:Nat) (a0:Ty.D tState) (a1:Ty.D tState):Option (Sg.Out z1i.sg):=Sg.fn z1i.sg (z1i.cx k) z1i.body z1i.rs (a0,a1)
def z1i.l2 (k:Nat) (n:Nat) (x5:Ty.D (.int .i64)) (m2:Ty.D tState) (m3:Ty.D tState):Option (Sg.Out z1i.sg):=loopAt (z1i.cx k) z1i.body [1,0,1,0] 2 [2,3,5] [2,3] [] (Sg.K z1i.sg (z1i.cx k) z1i.rs) n ⟨[(2,.ref 2 []),(3,.ref 3 []),(5,.dat (.int .i64) x5)],[(2,.dat tState m2),(3,.dat tState m3)]⟩
theorem z1i.f_eq (k:Nat) (a0:Ty.D tState) (a1:Ty.D tState):z1i.f k a0 a1=z1i.l2 k k 0 a0 a1:=by kernel_rfl
theorem z1i.l2_eq (k:Nat) (n2:Nat) (x5:Ty.D (.int .i64)) (m2:Ty.D tState) (m3:Ty.D tState):z1i.l2 k (n2+1) x5 m2 m3=br (ilt x5 8) (br (inB x5 8) (br (inB x5 8) (bnd (z1h.f k (rd (.slc tDot) m2.2.2.2.2 (natOf x5)) (rd (.slc tDot) m3.2.2.2.2 (natOf x5))) fun r0=>br (bnot r0) (some false) (z1i.l2 k n2 (iadd .i64 x5 1) m2 m3)) none) none) (bnd (z26.f k m2.1 m3.1) fun r1=>br r1 (bnd (z1f.f k m2.2.1 m3.2.1) fun r2=>br r2 (bnd (z18.f k m2.2.2.1 m3.2.2.1) fun r3=>br r3 (bnd (z18.f k m2.2.2.2.1 m3.2.2.2.1) fun r4=>some r4) (some false)) (some false)) (some false)):=by kernel_rfl
def z1i.e (k:Nat):Entry:=Sg.entry z1i.sg fun x=>z1i.f k x.1 x.2
theorem z1i.ok (k:Nat):CallOK Tryz.prog 17 (z1i.e k):=fn_ok (c:=z1i.cx k) (code:=z1i.body) (TT.of tt_ok pp_ok mm_ok) (fns_ok ⟨(z1h.ok k),(z26.ok k),(z1f.ok k),(z18.ok k),trivial⟩) mixed Tryz.func17 (by kernel_rfl) (by kernel_rfl) (by kernel_rfl) (by kernel_rfl) (by kernel_rfl) (by kernel_rfl) (fun x=>by kernel_rfl)
@[reducible] def ref23_Same.sg:Sg:=⟨[.dat tRecord,.dat tRecord],[],.dat .bool,[]⟩
def z1y.body:Go.Code:=Tryz.f186.body.getD .skip
def z1y.rs:List Go.ResultVar:=Tryz.f186.results.toList
def z1y.regs:List (Nat × RInfo):=[(0,⟨[2,3],[2,3],[0],[],0,[],[],[],[],[]⟩),(1,ri [4] [8])]
def z1y.cx (k:Nat):Cx:=⟨tt,pp,[(176,(z0H.e k))],z1y.regs,k,mm⟩
@[reducible] def z1y.sg:Sg:=⟨[.dat tTxn,.dat tDot],[],.dat (.int .i64),[]⟩
def z1y.f (k:Nat) (a0:Ty.D tTxn) (a1:Ty.D tDot):Option (Sg.Out z1y.sg):=Sg.fn z1y.sg (z1y.cx k) z1y.body z1y.rs (a0,a1)
theorem z1y.f_eq (k:Nat) (a0:Ty.D tTxn) (a1:Ty.D tDot):z1y.f k a0 a1=bnd (z0H.f k a0.1 a1) fun r0=>some r0:=by kernel_rfl
def z1y.e (k:Nat):Entry:=Sg.entry z1y.sg fun x=>z1y.f k x.1 x.2
theorem z1y.ok (k:Nat):CallOK Tryz.prog 186 (z1y.e k):=fn_ok (c:=z1y.cx k) (code:=z1y.body) (TT.of tt_ok pp_ok mm_ok) (fns_ok ⟨(z0H.ok k),trivial⟩) mixed Tryz.func186 (by kernel_rfl) (by kernel_rfl) (by kernel_rfl) (by kernel_rfl) (by kernel_rfl) (by kernel_rfl) (fun x=>by kernel_rfl)
def z01.body:Go.Code:=Tryz.f185.body.getD .skip
def z01.rs:List Go.ResultVar:=Tryz.f185.results.toList
def z01.regs:List (Nat × RInfo):=[(0,ri [0,2,4] [4]),(1,ri [0,2,4,8] [4]),(2,ri [0,2,4,8,9,10] [4]),(3,⟨[0,2,4,8,9,10,17],[4],[],[],0,[0,2,4,8,9,10],[4],[],[],[]⟩),(4,ri [0,2,4,8,9,10,11] [4]),(5,⟨[0,2,4,8,9,10,11,31],[4],[],[],8,[],[],[],[[],[],[],[],[],[],[4,5],[6,4,5]],[]⟩),(6,ri [0,2,4,8,9,10] [4]),(7,ri [0,2,4,8,9,10] [4]),(8,⟨[6,7],[],[],[],15,[],[],[],[[],[],[],[],[],[],[],[],[],[],[],[9,10],[11,9,10],[11,9,10],[11,9,10],[11,9,10]],[]⟩)]
def z01.cx (k:Nat):Cx:=⟨tt,pp,[(186,(z1y.e k))],z01.regs,k,mm⟩
@[reducible] def z01.sg:Sg:=⟨[.dat (.slc tTxn),.dat tDot,.fn 186 0],[],.t2 (.dat (.int .i64)) (.dat .bool),[]⟩
def z01.f (k:Nat) (a0:Ty.D (.slc tTxn)) (a1:Ty.D tDot):Option (Sg.Out z01.sg):=Sg.fn z01.sg (z01.cx k) z01.body z01.rs (a0,a1)
def z01.l3 (k:Nat) (n:Nat) (x0:Ty.D (.slc tTxn)) (x8:Ty.D (.int .i64)) (x9:Ty.D (.int .i64)) (x10:Ty.D (.int .i64)) (m4:Ty.D tDot):Option (Sg.Out z01.sg):=loopAt (z01.cx k) z01.body [1,1,1,0,0] 3 [0,2,4,8,9,10] [4] [] (Sg.K z01.sg (z01.cx k) z01.rs) n ⟨[(0,.dat (.slc tTxn) x0),(2,.fn 186 []),(4,.ref 4 []),(8,.dat (.int .i64) x8),(9,.dat (.int .i64) x9),(10,.dat (.int .i64) x10)],[(4,.dat tDot m4)]⟩
theorem z01.f_eq (k:Nat) (a0:Ty.D (.slc tTxn)) (a1:Ty.D tDot):z01.f k a0 a1=z01.l3 k k a0 (ilen a0) 0 (ilen a0) a1:=by kernel_rfl
theorem z01.l3_eq (k:Nat) (n3:Nat) (x0:Ty.D (.slc tTxn)) (x8:Ty.D (.int .i64)) (x9:Ty.D (.int .i64)) (x10:Ty.D (.int .i64)) (m4:Ty.D tDot):z01.l3 k (n3+1) x0 x8 x9 x10 m4=br (ilt x9 x10) (br (inL (iwrap .i64 (ishr .u64 (iwrap .u64 (iadd .i64 x9 x10)) 1)) x0) (bnd (z1y.f k (rd tTxn x0 (natOf (iwrap .i64 (ishr .u64 (iwrap .u64 (iadd .i64 x9 x10)) 1)))) m4) fun r0=>br (ilt r0 0) (z01.l3 k n3 x0 x8 (iadd .i64 (iwrap .i64 (ishr .u64 (iwrap .u64 (iadd .i64 x9 x10)) 1)) 1) x10 m4) (z01.l3 k n3 x0 x8 x9 (iwrap .i64 (ishr .u64 (iwrap .u64 (iadd .i64 x9 x10)) 1)) m4)) none) (br (ilt x9 x8) (br (inL x9 x0) (bnd (z1y.f k (rd tTxn x0 (natOf x9)) m4) fun r1=>some (x9,(ieq r1 0))) none) (some (x9,false))):=by kernel_rfl
def z01.e (k:Nat):Entry:=Sg.entry z01.sg fun x=>z01.f k x.1 x.2
theorem z01.ok (k:Nat):CallOK Tryz.prog 185 (z01.e k):=fn_ok (c:=z01.cx k) (code:=z01.body) (TT.of tt_ok pp_ok mm_ok) (fns_ok ⟨(z1y.ok k),trivial⟩) mixed Tryz.func185 (by kernel_rfl) (by kernel_rfl) (by kernel_rfl) (by kernel_rfl) (by kernel_rfl) (by kernel_rfl) (fun x=>by kernel_rfl)
def z2h.body:Go.Code:=Tryz.f134.body.getD .skip
def z2h.rs:List Go.ResultVar:=Tryz.f134.results.toList
def z2h.regs:List (Nat × RInfo):=[(0,ri [0,3] [3]),(1,ri [5,6] [10]),(2,ri [5,14] [10]),(3,ri [4] [10]),(4,ri [4] [10])]
def z2h.cx (k:Nat):Cx:=⟨tt,pp,[(185,(z01.e k)),(186,(z1y.e k))],z2h.regs,k,mm⟩
@[reducible] def z2h.sg:Sg:=⟨[.dat (.slc tTxn),.dat tDot],[],.dat (.int .i64),[]⟩
def z2h.f (k:Nat) (a0:Ty.D (.slc tTxn)) (a1:Ty.D tDot):Option (Sg.Out z2h.sg):=Sg.fn z2h.sg (z2h.cx k) z2h.body z2h.rs (a0,a1)
theorem z2h.f_eq (k:Nat) (a0:Ty.D (.slc tTxn)) (a1:Ty.D tDot):z2h.f k a0 a1=bnd (z01.f k a0 a1) fun r0=>br (bnot r0.2) (some (-1)) (some r0.1):=by kernel_rfl
def z2h.e (k:Nat):Entry:=Sg.entry z2h.sg fun x=>z2h.f k x.1 x.2
theorem z2h.ok (k:Nat):CallOK Tryz.prog 134 (z2h.e k):=fn_ok (c:=z2h.cx k) (code:=z2h.body) (TT.of tt_ok pp_ok mm_ok) (fns_ok ⟨(z01.ok k),(z1y.ok k),trivial⟩) mixed Tryz.func134 (by kernel_rfl) (by kernel_rfl) (by kernel_rfl) (by kernel_rfl) (by kernel_rfl) (by kernel_rfl) (fun x=>by kernel_rfl)
def z1Q.body:Go.Code:=Tryz.f187.body.getD .skip
def z1Q.rs:List Go.ResultVar:=Tryz.f187.results.toList
def z1Q.regs:List (Nat × RInfo):=[(0,⟨[2,3],[2,3],[0],[],0,[],[],[],[],[]⟩),(1,ri [4] [8])]
def z1Q.cx (k:Nat):Cx:=⟨tt,pp,[(176,(z0H.e k))],z1Q.regs,k,mm⟩
@[reducible] def z1Q.sg:Sg:=⟨[.dat tTxn,.dat tDot],[],.dat (.int .i64),[]⟩
def z1Q.f (k:Nat) (a0:Ty.D tTxn) (a1:Ty.D tDot):Option (Sg.Out z1Q.sg):=Sg.fn z1Q.sg (z1Q.cx k) z1Q.body z1Q.rs (a0,a1)
theorem z1Q.f_eq (k:Nat) (a0:Ty.D tTxn) (a1:Ty.D tDot):z1Q.f k a0 a1=bnd (z0H.f k a0.1 a1) fun r0=>some r0:=by kernel_rfl
def z1Q.e (k:Nat):Entry:=Sg.entry z1Q.sg fun x=>z1Q.f k x.1 x.2
theorem z1Q.ok (k:Nat):CallOK Tryz.prog 187 (z1Q.e k):=fn_ok (c:=z1Q.cx k) (code:=z1Q.body) (TT.of tt_ok pp_ok mm_ok) (fns_ok ⟨(z0H.ok k),trivial⟩) mixed Tryz.func187 (by kernel_rfl) (by kernel_rfl) (by kernel_rfl) (by kernel_rfl) (by kernel_rfl) (by kernel_rfl) (fun x=>by kernel_rfl)
def z02.body:Go.Code:=Tryz.f185.body.getD .skip
def z02.rs:List Go.ResultVar:=Tryz.f185.results.toList
def z02.regs:List (Nat × RInfo):=[(0,ri [0,2,4] [4]),(1,ri [0,2,4,8] [4]),(2,ri [0,2,4,8,9,10] [4]),(3,⟨[0,2,4,8,9,10,17],[4],[],[],0,[0,2,4,8,9,10],[4],[],[],[]⟩),(4,ri [0,2,4,8,9,10,11] [4]),(5,⟨[0,2,4,8,9,10,11,31],[4],[],[],8,[],[],[],[[],[],[],[],[],[],[4,5],[6,4,5]],[]⟩),(6,ri [0,2,4,8,9,10] [4]),(7,ri [0,2,4,8,9,10] [4]),(8,⟨[6,7],[],[],[],15,[],[],[],[[],[],[],[],[],[],[],[],[],[],[],[9,10],[11,9,10],[11,9,10],[11,9,10],[11,9,10]],[]⟩)]
def z02.cx (k:Nat):Cx:=⟨tt,pp,[(187,(z1Q.e k))],z02.regs,k,mm⟩
@[reducible] def z02.sg:Sg:=⟨[.dat (.slc tTxn),.dat tDot,.fn 187 0],[],.t2 (.dat (.int .i64)) (.dat .bool),[]⟩
def z02.f (k:Nat) (a0:Ty.D (.slc tTxn)) (a1:Ty.D tDot):Option (Sg.Out z02.sg):=Sg.fn z02.sg (z02.cx k) z02.body z02.rs (a0,a1)
def z02.l3 (k:Nat) (n:Nat) (x0:Ty.D (.slc tTxn)) (x8:Ty.D (.int .i64)) (x9:Ty.D (.int .i64)) (x10:Ty.D (.int .i64)) (m4:Ty.D tDot):Option (Sg.Out z02.sg):=loopAt (z02.cx k) z02.body [1,1,1,0,0] 3 [0,2,4,8,9,10] [4] [] (Sg.K z02.sg (z02.cx k) z02.rs) n ⟨[(0,.dat (.slc tTxn) x0),(2,.fn 187 []),(4,.ref 4 []),(8,.dat (.int .i64) x8),(9,.dat (.int .i64) x9),(10,.dat (.int .i64) x10)],[(4,.dat tDot m4)]⟩
theorem z02.f_eq (k:Nat) (a0:Ty.D (.slc tTxn)) (a1:Ty.D tDot):z02.f k a0 a1=z02.l3 k k a0 (ilen a0) 0 (ilen a0) a1:=by kernel_rfl
theorem z02.l3_eq (k:Nat) (n3:Nat) (x0:Ty.D (.slc tTxn)) (x8:Ty.D (.int .i64)) (x9:Ty.D (.int .i64)) (x10:Ty.D (.int .i64)) (m4:Ty.D tDot):z02.l3 k (n3+1) x0 x8 x9 x10 m4=br (ilt x9 x10) (br (inL (iwrap .i64 (ishr .u64 (iwrap .u64 (iadd .i64 x9 x10)) 1)) x0) (bnd (z1Q.f k (rd tTxn x0 (natOf (iwrap .i64 (ishr .u64 (iwrap .u64 (iadd .i64 x9 x10)) 1)))) m4) fun r0=>br (ilt r0 0) (z02.l3 k n3 x0 x8 (iadd .i64 (iwrap .i64 (ishr .u64 (iwrap .u64 (iadd .i64 x9 x10)) 1)) 1) x10 m4) (z02.l3 k n3 x0 x8 x9 (iwrap .i64 (ishr .u64 (iwrap .u64 (iadd .i64 x9 x10)) 1)) m4)) none) (br (ilt x9 x8) (br (inL x9 x0) (bnd (z1Q.f k (rd tTxn x0 (natOf x9)) m4) fun r1=>some (x9,(ieq r1 0))) none) (some (x9,false))):=by kernel_rfl
def z02.e (k:Nat):Entry:=Sg.entry z02.sg fun x=>z02.f k x.1 x.2
theorem z02.ok (k:Nat):CallOK Tryz.prog 185 (z02.e k):=fn_ok (c:=z02.cx k) (code:=z02.body) (TT.of tt_ok pp_ok mm_ok) (fns_ok ⟨(z1Q.ok k),trivial⟩) mixed Tryz.func185 (by kernel_rfl) (by kernel_rfl) (by kernel_rfl) (by kernel_rfl) (by kernel_rfl) (by kernel_rfl) (fun x=>by kernel_rfl)
def z2v.body:Go.Code:=Tryz.f135.body.getD .skip
def z2v.rs:List Go.ResultVar:=Tryz.f135.results.toList
def z2v.regs:List (Nat × RInfo):=[(0,⟨[0,3],[3],[0],[],0,[],[],[1],[],[]⟩),(1,⟨[0,3,5,6],[3,11],[],[],0,[],[],[0,3],[],[]⟩),(2,⟨[0,3,5,14],[3,11],[],[],0,[],[],[6],[],[]⟩),(3,⟨[4],[21],[0,1],[],0,[],[],[],[],[]⟩),(4,⟨[4],[21],[5,6],[],6,[],[],[0,5,3],[],[]⟩)]
def z2v.cx (k:Nat):Cx:=⟨tt,pp,[(185,(Entry.alt z01.sg (z01.e k) (z02.e k))),(187,(z1Q.e k)),(140,(cloneE tTxn)),(188,(insE tTxn))],z2v.regs,k,mm⟩
@[reducible] def z2v.sg:Sg:=⟨[.dat (.slc tTxn),.dat tTxn],[],.dat (.slc tTxn),[]⟩
def z2v.f (k:Nat) (a0:Ty.D (.slc tTxn)) (a1:Ty.D tTxn):Option (Sg.Out z2v.sg):=Sg.fn z2v.sg (z2v.cx k) z2v.body z2v.rs (a0,a1)
theorem z2v.f_eq (k:Nat) (a0:Ty.D (.slc tTxn)) (a1:Ty.D tTxn):z2v.f k a0 a1=bnd (z02.f k a0 a1.1) fun r0=>br r0.2 (some a0) (br (room ([]:List Int) a0) (br (inS 0 r0.1 (ilen a0)) (br (room a0 (a1::[])) (some (insAt a0 r0.1 (a1::[]))) none) none) none):=by kernel_rfl
def z2v.e (k:Nat):Entry:=Sg.entry z2v.sg fun x=>z2v.f k x.1 x.2
theorem z2v.ok (k:Nat):CallOK Tryz.prog 135 (z2v.e k):=fn_ok (c:=z2v.cx k) (code:=z2v.body) (TT.of tt_ok pp_ok mm_ok) (fns_ok ⟨(alt_ok (z01.ok k) (z02.ok k)),(z1Q.ok k),cloneTxn_ok,insTxn_ok,trivial⟩) mixed Tryz.func135 (by kernel_rfl) (by kernel_rfl) (by kernel_rfl) (by kernel_rfl) (by kernel_rfl) (by kernel_rfl) (fun x=>by kernel_rfl)
def z2r.body:Go.Code:=Tryz.f232.body.getD .skip
def z2r.rs:List Go.ResultVar:=Tryz.f232.results.toList
def z2r.regs:List (Nat × RInfo):=[(0,ri [2,3] [2,3]),(1,rq [4] [6] 11)]
def z2r.cx (k:Nat):Cx:=⟨tt,pp,[(119,(z1P.e k))],z2r.regs,k,mm⟩
@[reducible] def z2r.sg:Sg:=⟨[.dat tVec,.dat tDot],[],.dat .bool,[]⟩
def z2r.f (k:Nat) (a0:Ty.D tVec) (a1:Ty.D tDot):Option (Sg.Out z2r.sg):=Sg.fn z2r.sg (z2r.cx k) z2r.body z2r.rs (a0,a1)
theorem z2r.f_eq (k:Nat) (a0:Ty.D tVec) (a1:Ty.D tDot):z2r.f k a0 a1=bnd (z1P.f k a1) fun r0=>br r0 (br (inB a1.1 16) (some (ile a1.2 (rd (.int .i64) a0 (natOf a1.1)))) none) (some false):=by kernel_rfl
def z2r.e (k:Nat):Entry:=Sg.entry z2r.sg fun x=>z2r.f k x.1 x.2
theorem z2r.ok (k:Nat):CallOK Tryz.prog 232 (z2r.e k):=fn_ok (c:=z2r.cx k) (code:=z2r.body) (TT.of tt_ok pp_ok mm_ok) (fns_ok ⟨(z1P.ok k),trivial⟩) mixed Tryz.func232 (by kernel_rfl) (by kernel_rfl) (by kernel_rfl) (by kernel_rfl) (by kernel_rfl) (by kernel_rfl) (fun x=>by kernel_rfl)
def z00.body:Go.Code:=Tryz.f190.body.getD .skip
def z00.rs:List Go.ResultVar:=Tryz.f190.results.toList
def z00.regs:List (Nat × RInfo):=[(0,ri [0,2,4] [4]),(1,ri [0,2,4,8] [4]),(2,ri [0,2,4,8,9,10] [4]),(3,⟨[0,2,4,8,9,10,17],[4],[],[],0,[0,2,4,8,9,10],[4],[],[],[]⟩),(4,ri [0,2,4,8,9,10,11] [4]),(5,⟨[0,2,4,8,9,10,11,31],[4],[],[],8,[],[],[],[[],[],[],[],[],[],[4,5],[6,4,5]],[]⟩),(6,ri [0,2,4,8,9,10] [4]),(7,ri [0,2,4,8,9,10] [4]),(8,⟨[6,7],[],[],[],15,[],[],[],[[],[],[],[],[],[],[],[],[],[],[],[9,10],[11,9,10],[11,9,10],[11,9,10],[11,9,10]],[]⟩)]
def z00.cx (k:Nat):Cx:=⟨tt,pp,[(176,(z0H.e k))],z00.regs,k,mm⟩
@[reducible] def z00.sg:Sg:=⟨[.dat (.slc tDot),.dat tDot,.fn 176 0],[],.t2 (.dat (.int .i64)) (.dat .bool),[]⟩
def z00.f (k:Nat) (a0:Ty.D (.slc tDot)) (a1:Ty.D tDot):Option (Sg.Out z00.sg):=Sg.fn z00.sg (z00.cx k) z00.body z00.rs (a0,a1)
def z00.l3 (k:Nat) (n:Nat) (x0:Ty.D (.slc tDot)) (x8:Ty.D (.int .i64)) (x9:Ty.D (.int .i64)) (x10:Ty.D (.int .i64)) (m4:Ty.D tDot):Option (Sg.Out z00.sg):=loopAt (z00.cx k) z00.body [1,1,1,0,0] 3 [0,2,4,8,9,10] [4] [] (Sg.K z00.sg (z00.cx k) z00.rs) n ⟨[(0,.dat (.slc tDot) x0),(2,.fn 176 []),(4,.ref 4 []),(8,.dat (.int .i64) x8),(9,.dat (.int .i64) x9),(10,.dat (.int .i64) x10)],[(4,.dat tDot m4)]⟩
theorem z00.f_eq (k:Nat) (a0:Ty.D (.slc tDot)) (a1:Ty.D tDot):z00.f k a0 a1=z00.l3 k k a0 (ilen a0) 0 (ilen a0) a1:=by kernel_rfl
theorem z00.l3_eq (k:Nat) (n3:Nat) (x0:Ty.D (.slc tDot)) (x8:Ty.D (.int .i64)) (x9:Ty.D (.int .i64)) (x10:Ty.D (.int .i64)) (m4:Ty.D tDot):z00.l3 k (n3+1) x0 x8 x9 x10 m4=br (ilt x9 x10) (br (inL (iwrap .i64 (ishr .u64 (iwrap .u64 (iadd .i64 x9 x10)) 1)) x0) (bnd (z0H.f k (rd tDot x0 (natOf (iwrap .i64 (ishr .u64 (iwrap .u64 (iadd .i64 x9 x10)) 1)))) m4) fun r0=>br (ilt r0 0) (z00.l3 k n3 x0 x8 (iadd .i64 (iwrap .i64 (ishr .u64 (iwrap .u64 (iadd .i64 x9 x10)) 1)) 1) x10 m4) (z00.l3 k n3 x0 x8 x9 (iwrap .i64 (ishr .u64 (iwrap .u64 (iadd .i64 x9 x10)) 1)) m4)) none) (br (ilt x9 x8) (br (inL x9 x0) (bnd (z0H.f k (rd tDot x0 (natOf x9)) m4) fun r1=>some (x9,(ieq r1 0))) none) (some (x9,false))):=by kernel_rfl
def z00.e (k:Nat):Entry:=Sg.entry z00.sg fun x=>z00.f k x.1 x.2
theorem z00.ok (k:Nat):CallOK Tryz.prog 190 (z00.e k):=fn_ok (c:=z00.cx k) (code:=z00.body) (TT.of tt_ok pp_ok mm_ok) (fns_ok ⟨(z0H.ok k),trivial⟩) mixed Tryz.func190 (by kernel_rfl) (by kernel_rfl) (by kernel_rfl) (by kernel_rfl) (by kernel_rfl) (by kernel_rfl) (fun x=>by kernel_rfl)
def z2i.body:Go.Code:=Tryz.f189.body.getD .skip
def z2i.rs:List Go.ResultVar:=Tryz.f189.results.toList
def z2i.regs:List (Nat × RInfo):=[(0,⟨[2,3],[2,3],[0],[],0,[],[],[],[],[]⟩),(1,ri [2,3,10] [2,3,10]),(2,ri [4] [15]),(3,ri [6] [15]),(4,ri [4] [15])]
def z2i.cx (k:Nat):Cx:=⟨tt,pp,[(232,(z2r.e k)),(190,(z00.e k)),(176,(z0H.e k))],z2i.regs,k,mm⟩
@[reducible] def z2i.sg:Sg:=⟨[.dat tDots,.dat tDot],[],.dat .bool,[]⟩
def z2i.f (k:Nat) (a0:Ty.D tDots) (a1:Ty.D tDot):Option (Sg.Out z2i.sg):=Sg.fn z2i.sg (z2i.cx k) z2i.body z2i.rs (a0,a1)
theorem z2i.f_eq (k:Nat) (a0:Ty.D tDots) (a1:Ty.D tDot):z2i.f k a0 a1=bnd (z2r.f k a0.1 a1) fun r0=>br r0 (some true) (bnd (z00.f k a0.2 a1) fun r1=>some r1.2):=by kernel_rfl
def z2i.e (k:Nat):Entry:=Sg.entry z2i.sg fun x=>z2i.f k x.1 x.2
theorem z2i.ok (k:Nat):CallOK Tryz.prog 189 (z2i.e k):=fn_ok (c:=z2i.cx k) (code:=z2i.body) (TT.of tt_ok pp_ok mm_ok) (fns_ok ⟨(z2r.ok k),(z00.ok k),(z0H.ok k),trivial⟩) mixed Tryz.func189 (by kernel_rfl) (by kernel_rfl) (by kernel_rfl) (by kernel_rfl) (by kernel_rfl) (by kernel_rfl) (fun x=>by kernel_rfl)
def z2l.body:Go.Code:=Tryz.f136.body.getD .skip
def z2l.rs:List Go.ResultVar:=Tryz.f136.results.toList
def z2l.regs:List (Nat × RInfo):=[(0,⟨[2,3,4],[2,3,4],[0],[],0,[],[],[0,1],[],[]⟩),(1,⟨[2,3,4,14],[2,3,4,13],[],[],0,[],[],[3,2],[],[]⟩),(2,⟨[4],[4],[1],[],0,[],[],[2,4],[],[]⟩),(3,⟨[2,3,4,5],[2,3,4,20],[],[],0,[],[],[2,3],[],[]⟩),(4,⟨[4],[4],[8,10],[],10,[],[],[2,5,3,4],[[],[],[],[],[3],[],[],[6],[3,6],[1,3,6],[1,3,6]],[]⟩)]
def z2l.cx (k:Nat):Cx:=⟨tt,pp,[(119,(z1P.e k)),(189,(z2i.e k)),(190,(z00.e k)),(176,(z0H.e k)),(138,(cloneE tDot)),(191,(insE tDot)),(183,(z1U.e k))],z2l.regs,k,mm⟩
@[reducible] def z2l.sg:Sg:=⟨[.dat tDots,.dat tDot],[],.dat tDots,[]⟩
def z2l.f (k:Nat) (a0:Ty.D tDots) (a1:Ty.D tDot):Option (Sg.Out z2l.sg):=Sg.fn z2l.sg (z2l.cx k) z2l.body z2l.rs (a0,a1)
theorem z2l.f_eq (k:Nat) (a0:Ty.D tDots) (a1:Ty.D tDot):z2l.f k a0 a1=bnd (z1P.f k a1) fun r0=>br (bnot r0) (some a0) (bnd (z2i.f k a0 a1) fun r1=>br r1 (some a0) (bnd (z00.f k a0.2 a1) fun r2=>br (room ([]:List Int) a0.2) (br (inS 0 r2.1 (ilen a0.2)) (br (room a0.2 (a1::[])) (bnd (z1U.f k a0.1 (insAt a0.2 r2.1 (a1::[]))) fun r3=>some r3) none) none) none)):=by kernel_rfl
def z2l.e (k:Nat):Entry:=Sg.entry z2l.sg fun x=>z2l.f k x.1 x.2
theorem z2l.ok (k:Nat):CallOK Tryz.prog 136 (z2l.e k):=fn_ok (c:=z2l.cx k) (code:=z2l.body) (TT.of tt_ok pp_ok mm_ok) (fns_ok ⟨(z1P.ok k),(z2i.ok k),(z00.ok k),(z0H.ok k),cloneDot_ok,insDot_ok,(z1U.ok k),trivial⟩) mixed Tryz.func136 (by kernel_rfl) (by kernel_rfl) (by kernel_rfl) (by kernel_rfl) (by kernel_rfl) (by kernel_rfl) (fun x=>by kernel_rfl)
def z29.body:Go.Code:=Tryz.f55.body.getD .skip
def z29.rs:List Go.ResultVar:=Tryz.f55.results.toList
def z29.regs:List (Nat × RInfo):=[(0,⟨[2,3,4],[2,3,4],[0,1],[],0,[],[],[],[],[]⟩),(1,ri [2,3,4,10] [2,3,4]),(2,⟨[4],[4],[1],[],0,[],[],[],[],[]⟩),(3,⟨[2,3,4],[2,3,4],[5],[],0,[],[],[],[],[]⟩),(4,⟨[2,4],[2,4],[6],[],0,[],[],[],[],[]⟩),(5,⟨[4],[4],[1],[],0,[],[],[],[],[]⟩)]
def z29.cx (k:Nat):Cx:=⟨tt,pp,[(134,(z2h.e k)),(135,(z2v.e k)),(136,(z2l.e k))],z29.regs,k,mm⟩
@[reducible] def z29.sg:Sg:=⟨[.dat tState,.dat tTxn],[],.dat tState,[]⟩
def z29.f (k:Nat) (a0:Ty.D tState) (a1:Ty.D tTxn):Option (Sg.Out z29.sg):=Sg.fn z29.sg (z29.cx k) z29.body z29.rs (a0,a1)
theorem z29.f_eq (k:Nat) (a0:Ty.D tState) (a1:Ty.D tTxn):z29.f k a0 a1=bnd (z2h.f k a0.1 a1.1) fun r0=>br (ile 0 r0) (some a0) (bnd (z2v.f k a0.1 a1) fun r1=>bnd (z2l.f k a0.2.2.1 a1.1) fun r2=>some (r1,(a0.2.1,(r2,a0.2.2.2)))):=by kernel_rfl
def z29.e (k:Nat):Entry:=Sg.entry z29.sg fun x=>z29.f k x.1 x.2
theorem z29.ok (k:Nat):CallOK Tryz.prog 55 (z29.e k):=fn_ok (c:=z29.cx k) (code:=z29.body) (TT.of tt_ok pp_ok mm_ok) (fns_ok ⟨(z2h.ok k),(z2v.ok k),(z2l.ok k),trivial⟩) mixed Tryz.func55 (by kernel_rfl) (by kernel_rfl) (by kernel_rfl) (by kernel_rfl) (by kernel_rfl) (by kernel_rfl) (fun x=>by kernel_rfl)
def z1B.body:Go.Code:=Tryz.f137.body.getD .skip
def z1B.rs:List Go.ResultVar:=Tryz.f137.results.toList
def z1B.regs:List (Nat × RInfo):=[(0,ri [0,1] []),(1,ri [0,1,5] []),(2,⟨[0,1,5,14],[],[],[],0,[0,1,5],[],[],[],[]⟩),(3,ri [0,1,5,6] [29]),(4,ri [0,1,5,6,15] [29]),(5,ri [0,1,5,6] [29]),(6,ri [0,1,5,6,19] [29]),(7,rq [0,1,5,6] [29] 7),(10,ri [0,1,5,6,51] [29]),(11,⟨[0,1,5],[],[0,5,8,9],[],9,[],[],[],[],[]⟩),(12,ri [0,1,5,62] []),(13,⟨[0,1,5],[],[0,5,8,9],[],9,[],[],[],[],[]⟩),(8,⟨[0,1,5],[],[0,16,17],[],17,[],[],[],[],[]⟩),(9,⟨[0,1,5],[],[4,5],[],5,[],[],[],[],[]⟩),(14,⟨[4],[],[0,1],[],0,[],[],[],[],[]⟩)]
def z1B.cx (k:Nat):Cx:=⟨tt,pp,[(122,(z0m.e k))],z1B.regs,k,mm⟩
@[reducible] def z1B.sg:Sg:=⟨[.dat (.slc tUndo),.dat (.slc tUndo)],[],.own tUndo,[]⟩
def z1B.f (k:Nat) (a0:Ty.D (.slc tUndo)) (a1:Ty.D (.slc tUndo)):Option (Sg.Out z1B.sg):=Sg.fn z1B.sg (z1B.cx k) z1B.body z1B.rs (a0,a1)
def z1B.l2 (k:Nat) (n:Nat) (x0:Ty.D (.slc tUndo)) (x1:Ty.D (.slc tUndo)) (x5:List (Ty.D tUndo)):Option (Sg.Out z1B.sg):=loopAt (z1B.cx k) z1B.body [1,1,0,0] 2 [0,1,5] [] [] (Sg.K z1B.sg (z1B.cx k) z1B.rs) n ⟨[(0,.dat (.slc tUndo) x0),(1,.dat (.slc tUndo) x1),(5,.own tUndo x5)],[]⟩
theorem z1B.f_eq (k:Nat) (a0:Ty.D (.slc tUndo)) (a1:Ty.D (.slc tUndo)):z1B.f k a0 a1=z1B.l2 k k a0 a1 []:=by kernel_rfl
theorem z1B.l2_eq (k:Nat) (n2:Nat) (x0:Ty.D (.slc tUndo)) (x1:Ty.D (.slc tUndo)) (x5:List (Ty.D tUndo)):z1B.l2 k (n2+1) x0 x1 x5=br (ilt 0 (ilen x0)) (br (ieq (ilen x0) 0) (br (inL 0 x1) (br (room x5 ((rd tUndo x1 (natOf 0))::[])) (br (inS 1 (ilen x1) (ilen x1)) (z1B.l2 k n2 x0 (piece x1 1 (ilen x1)) (app x5 ((rd tUndo x1 (natOf 0))::[]))) none) none) none) (br (ilt 0 (ilen x1)) (br (inL 0 x0) (br (inL 0 x1) (bnd (z0m.f k (rd tUndo x0 (natOf 0)) (rd tUndo x1 (natOf 0))) fun r0=>br (ilt r0 0) (br (inL 0 x0) (br (room x5 ((rd tUndo x0 (natOf 0))::[])) (br (inS 1 (ilen x0) (ilen x0)) (z1B.l2 k n2 (piece x0 1 (ilen x0)) x1 (app x5 ((rd tUndo x0 (natOf 0))::[]))) none) none) none) (br (ilt 0 r0) (br (inL 0 x1) (br (room x5 ((rd tUndo x1 (natOf 0))::[])) (br (inS 1 (ilen x1) (ilen x1)) (z1B.l2 k n2 x0 (piece x1 1 (ilen x1)) (app x5 ((rd tUndo x1 (natOf 0))::[]))) none) none) none) (br (inL 0 x0) (br (inL 0 x0) (br (inL 0 x1) (br (room x5 (((rd tUndo x0 (natOf 0)).1,(imax ((rd tUndo x0 (natOf 0)).2) ((rd tUndo x1 (natOf 0)).2)))::[])) (br (inS 1 (ilen x0) (ilen x0)) (br (inS 1 (ilen x1) (ilen x1)) (z1B.l2 k n2 (piece x0 1 (ilen x0)) (piece x1 1 (ilen x1)) (app x5 (((rd tUndo x0 (natOf 0)).1,(imax ((rd tUndo x0 (natOf 0)).2) ((rd tUndo x1 (natOf 0)).2)))::[]))) none) none) none) none) none) none))) none) none) (br (inL 0 x0) (br (room x5 ((rd tUndo x0 (natOf 0))::[])) (br (inS 1 (ilen x0) (ilen x0)) (z1B.l2 k n2 (piece x0 1 (ilen x0)) x1 (app x5 ((rd tUndo x0 (natOf 0))::[]))) none) none) none))) (br (ilt 0 (ilen x1)) (br (ieq (ilen x0) 0) (br (inL 0 x1) (br (room x5 ((rd tUndo x1 (natOf 0))::[])) (br (inS 1 (ilen x1) (ilen x1)) (z1B.l2 k n2 x0 (piece x1 1 (ilen x1)) (app x5 ((rd tUndo x1 (natOf 0))::[]))) none) none) none) (br (ilt 0 (ilen x1)) (br (inL 0 x0) (br (inL 0 x1) (bnd (z0m.f k (rd tUndo x0 (natOf 0)) (rd tUndo x1 (natOf 0))) fun r1=>br (ilt r1 0) (br (inL 0 x0) (br (room x5 ((rd tUndo x0 (natOf 0))::[])) (br (inS 1 (ilen x0) (ilen x0)) (z1B.l2 k n2 (piece x0 1 (ilen x0)) x1 (app x5 ((rd tUndo x0 (natOf 0))::[]))) none) none) none) (br (ilt 0 r1) (br (inL 0 x1) (br (room x5 ((rd tUndo x1 (natOf 0))::[])) (br (inS 1 (ilen x1) (ilen x1)) (z1B.l2 k n2 x0 (piece x1 1 (ilen x1)) (app x5 ((rd tUndo x1 (natOf 0))::[]))) none) none) none) (br (inL 0 x0) (br (inL 0 x0) (br (inL 0 x1) (br (room x5 (((rd tUndo x0 (natOf 0)).1,(imax ((rd tUndo x0 (natOf 0)).2) ((rd tUndo x1 (natOf 0)).2)))::[])) (br (inS 1 (ilen x0) (ilen x0)) (br (inS 1 (ilen x1) (ilen x1)) (z1B.l2 k n2 (piece x0 1 (ilen x0)) (piece x1 1 (ilen x1)) (app x5 (((rd tUndo x0 (natOf 0)).1,(imax ((rd tUndo x0 (natOf 0)).2) ((rd tUndo x1 (natOf 0)).2)))::[]))) none) none) none) none) none) none))) none) none) (br (inL 0 x0) (br (room x5 ((rd tUndo x0 (natOf 0))::[])) (br (inS 1 (ilen x0) (ilen x0)) (z1B.l2 k n2 (piece x0 1 (ilen x0)) x1 (app x5 ((rd tUndo x0 (natOf 0))::[]))) none) none) none))) (some x5)):=by kernel_rfl
def z1B.e (k:Nat):Entry:=Sg.entry z1B.sg fun x=>z1B.f k x.1 x.2
theorem z1B.ok (k:Nat):CallOK Tryz.prog 137 (z1B.e k):=fn_ok (c:=z1B.cx k) (code:=z1B.body) (TT.of tt_ok pp_ok mm_ok) (fns_ok ⟨(z0m.ok k),trivial⟩) mixed Tryz.func137 (by kernel_rfl) (by kernel_rfl) (by kernel_rfl) (by kernel_rfl) (by kernel_rfl) (by kernel_rfl) (fun x=>by kernel_rfl)
def z0F.body:Go.Code:=Tryz.f56.body.getD .skip
def z0F.rs:List Go.ResultVar:=Tryz.f56.results.toList
def z0F.regs:List (Nat × RInfo):=[(0,⟨[1,2,4],[2,4],[0],[],0,[],[],[],[],[]⟩),(1,⟨[2,4],[2,4],[5],[],0,[],[],[],[],[]⟩),(2,⟨[4],[4],[1],[],0,[],[],[],[],[]⟩)]
def z0F.cx (k:Nat):Cx:=⟨tt,pp,[(137,(z1B.e k))],z0F.regs,k,mm⟩
@[reducible] def z0F.sg:Sg:=⟨[.dat tState,.dat (.slc tUndo)],[],.dat tState,[]⟩
def z0F.f (k:Nat) (a0:Ty.D tState) (a1:Ty.D (.slc tUndo)):Option (Sg.Out z0F.sg):=Sg.fn z0F.sg (z0F.cx k) z0F.body z0F.rs (a0,a1)
theorem z0F.f_eq (k:Nat) (a0:Ty.D tState) (a1:Ty.D (.slc tUndo)):z0F.f k a0 a1=bnd (z1B.f k a0.2.1 a1) fun r0=>some (a0.1,(r0,a0.2.2)):=by kernel_rfl
def z0F.e (k:Nat):Entry:=Sg.entry z0F.sg fun x=>z0F.f k x.1 x.2
theorem z0F.ok (k:Nat):CallOK Tryz.prog 56 (z0F.e k):=fn_ok (c:=z0F.cx k) (code:=z0F.body) (TT.of tt_ok pp_ok mm_ok) (fns_ok ⟨(z1B.ok k),trivial⟩) mixed Tryz.func56 (by kernel_rfl) (by kernel_rfl) (by kernel_rfl) (by kernel_rfl) (by kernel_rfl) (by kernel_rfl) (fun x=>by kernel_rfl)
def z0P.body:Go.Code:=Tryz.f57.body.getD .skip
def z0P.rs:List Go.ResultVar:=Tryz.f57.results.toList
def z0P.regs:List (Nat × RInfo):=[(0,⟨[0,3],[3],[0],[],0,[],[],[],[],[]⟩),(1,ri [0,3,7] [3]),(2,ri [0,3,7,8] [3]),(3,⟨[4],[37],[6,7],[],7,[],[],[],[],[]⟩),(4,ri [0,3,17] [3]),(5,ri [0,3,5] [3]),(6,⟨[0,3,5,23],[3],[],[],0,[0,3,5],[3],[],[],[]⟩),(8,rq [0,3,5,33] [3] 8),(9,⟨[4],[37],[4],[],0,[],[],[],[],[]⟩),(7,ri [0,3,5] [3]),(10,⟨[4],[37],[0,1],[],0,[],[],[],[],[]⟩)]
def z0P.cx (k:Nat):Cx:=⟨tt,pp,[(138,(cloneO tDot))],z0P.regs,k,mm⟩
@[reducible] def z0P.sg:Sg:=⟨[.dat (.slc tDot),.dat tRecord],[],.dat (.slc tDot),[]⟩
def z0P.f (k:Nat) (a0:Ty.D (.slc tDot)) (a1:Ty.D tRecord):Option (Sg.Out z0P.sg):=Sg.fn z0P.sg (z0P.cx k) z0P.body z0P.rs (a0,a1)
def z0P.l6 (k:Nat) (n:Nat) (x0:Ty.D (.slc tDot)) (x5:Ty.D (.int .i64)) (m3:Ty.D tRecord):Option (Sg.Out z0P.sg):=loopAt (z0P.cx k) z0P.body [1,0,1,0,1,1,1,0,1,0] 6 [0,3,5] [3] [] (Sg.K z0P.sg (z0P.cx k) z0P.rs) n ⟨[(0,.dat (.slc tDot) x0),(3,.ref 3 []),(5,.dat (.int .i64) x5)],[(3,.dat tRecord m3)]⟩
theorem z0P.f_eq (k:Nat) (a0:Ty.D (.slc tDot)) (a1:Ty.D tRecord):z0P.f k a0 a1=br (ieq a1.2.2.2.2.1 1) (br (room ([]:List Int) a0) (br (room a0 (a1.2.2.2.1.1::[])) (some (app a0 (a1.2.2.2.1.1::[]))) none) none) (br (ieq a1.2.2.2.2.1 2) (z0P.l6 k k a0 (isub .i64 (ilen a0) 1) a1) (some a0)):=by kernel_rfl
theorem z0P.l6_eq (k:Nat) (n6:Nat) (x0:Ty.D (.slc tDot)) (x5:Ty.D (.int .i64)) (m3:Ty.D tRecord):z0P.l6 k (n6+1) x0 x5 m3=br (ile 0 x5) (br (inL x5 x0) (br (deq tDot (rd tDot x0 (natOf x5)) m3.2.2.2.1.1) (br (inS 0 x5 (ilen x0)) (br (room ([]:List Int) (piece x0 0 x5)) (some (piece x0 0 x5)) none) none) (z0P.l6 k n6 x0 (isub .i64 x5 1) m3)) none) (some x0):=by kernel_rfl
def z0P.e (k:Nat):Entry:=Sg.entry z0P.sg fun x=>z0P.f k x.1 x.2
theorem z0P.ok (k:Nat):CallOK Tryz.prog 57 (z0P.e k):=fn_ok (c:=z0P.cx k) (code:=z0P.body) (TT.of tt_ok pp_ok mm_ok) (fns_ok ⟨cloneODot_ok,trivial⟩) mixed Tryz.func57 (by kernel_rfl) (by kernel_rfl) (by kernel_rfl) (by kernel_rfl) (by kernel_rfl) (by kernel_rfl) (fun x=>by kernel_rfl)
def z0d.body:Go.Code:=Tryz.f235.body.getD .skip
def z0d.rs:List Go.ResultVar:=Tryz.f235.results.toList
def z0d.regs:List (Nat × RInfo):=[(0,ri [0] []),(1,ri [0,3] []),(2,ri [0,3,9,10,11] []),(3,⟨[0,3,9,10,11,12],[],[],[],0,[0,3,9,10,11],[],[],[],[]⟩),(4,⟨[0,3,5,9,10,11],[],[2],[],0,[],[],[],[],[]⟩),(5,ri [0,3,9,10,11] []),(6,ri [0,3,9,10,11,20] []),(7,ri [0,3,9,10,11] []),(8,ri [0,3,9,10,11] []),(9,⟨[0,6],[24],[2],[],0,[],[],[],[],[]⟩),(10,ri [6,25,26,27] [24]),(11,⟨[6,25,26,27,28],[24],[],[],0,[6,25,26,27],[24],[],[],[]⟩),(12,⟨[6,8,25,26,27],[24],[2],[],0,[],[],[],[],[]⟩),(13,⟨[6,25,26,27],[24],[0,2,3],[],0,[],[],[],[],[]⟩),(14,ri [6,25,26,27] [24]),(15,⟨[2],[24],[0,1],[],0,[],[],[],[],[]⟩)]
def z0d.cx (k:Nat):Cx:=⟨tt,pp,[(261,(growE tDot))],z0d.regs,k,mm⟩
@[reducible] def z0d.sg:Sg:=⟨[.dat (.slc (.slc tDot))],[],.raw tDot,[]⟩
def z0d.f (k:Nat) (a0:Ty.D (.slc (.slc tDot))):Option (Sg.Out z0d.sg):=Sg.fn z0d.sg (z0d.cx k) z0d.body z0d.rs a0
def z0d.l3 (k:Nat) (n:Nat) (x0:Ty.D (.slc (.slc tDot))) (x3:Ty.D (.int .i64)) (x9:Ty.D (.slc (.slc tDot))) (x10:Ty.D (.int .i64)) (x11:Ty.D (.int .i64)):Option (Sg.Out z0d.sg):=loopAt (z0d.cx k) z0d.body [1,1,0,1,0] 3 [0,3,9,10,11] [] [] (Sg.K z0d.sg (z0d.cx k) z0d.rs) n ⟨[(0,.dat (.slc (.slc tDot)) x0),(3,.dat (.int .i64) x3),(9,.dat (.slc (.slc tDot)) x9),(10,.dat (.int .i64) x10),(11,.dat (.int .i64) x11)],[]⟩
def z0d.l11 (k:Nat) (n:Nat) (x6:List (Ty.D tDot)) (x25:Ty.D (.slc (.slc tDot))) (x26:Ty.D (.int .i64)) (x27:Ty.D (.int .i64)):Option (Sg.Out z0d.sg):=loopAt (z0d.cx k) z0d.body [1,1,1,1,0,1,0] 11 [6,25,26,27] [24] [] (Sg.K z0d.sg (z0d.cx k) z0d.rs) n ⟨[(6,.own tDot x6),(25,.dat (.slc (.slc tDot)) x25),(26,.dat (.int .i64) x26),(27,.dat (.int .i64) x27)],[]⟩
theorem z0d.f_eq (k:Nat) (a0:Ty.D (.slc (.slc tDot))):z0d.f k a0=z0d.l3 k k a0 0 a0 (ilen a0) 0:=by kernel_rfl
theorem z0d.l3_eq (k:Nat) (n3:Nat) (x0:Ty.D (.slc (.slc tDot))) (x3:Ty.D (.int .i64)) (x9:Ty.D (.slc (.slc tDot))) (x10:Ty.D (.int .i64)) (x11:Ty.D (.int .i64)):z0d.l3 k (n3+1) x0 x3 x9 x10 x11=br (ilt x11 x10) (br (inL x11 x9) (br (ilt (iadd .i64 x3 (ilen (rd (.slc tDot) x9 (natOf x11)))) 0) none (z0d.l3 k n3 x0 (iadd .i64 x3 (ilen (rd (.slc tDot) x9 (natOf x11)))) x9 x10 (iadd .i64 x11 1))) none) (br (ilt x3 0) none (br (ilt 4294967296 x3) none (br (room ([]:List Int) ([]:List Int)) (z0d.l11 k k [] x0 (ilen x0) 0) none))):=by kernel_rfl
theorem z0d.l11_eq (k:Nat) (n11:Nat) (x6:List (Ty.D tDot)) (x25:Ty.D (.slc (.slc tDot))) (x26:Ty.D (.int .i64)) (x27:Ty.D (.int .i64)):z0d.l11 k (n11+1) x6 x25 x26 x27=br (ilt x27 x26) (br (inL x27 x25) (br (room x6 (rd (.slc tDot) x25 (natOf x27))) (z0d.l11 k n11 (app x6 (rd (.slc tDot) x25 (natOf x27))) x25 x26 (iadd .i64 x27 1)) none) none) (some x6):=by kernel_rfl
def z0d.e (k:Nat):Entry:=Sg.entry z0d.sg fun x=>z0d.f k x
theorem z0d.ok (k:Nat):CallOK Tryz.prog 235 (z0d.e k):=fn_ok (c:=z0d.cx k) (code:=z0d.body) (TT.of tt_ok pp_ok mm_ok) (fns_ok ⟨growDot_ok,trivial⟩) mixed Tryz.func235 (by kernel_rfl) (by kernel_rfl) (by kernel_rfl) (by kernel_rfl) (by kernel_rfl) (by kernel_rfl) (fun x=>by kernel_rfl)
def z1k.body:Go.Code:=Tryz.f263.body.getD .skip
def z1k.rs:List Go.ResultVar:=Tryz.f263.results.toList
def z1k.regs:List (Nat × RInfo):=[(0,ri [0,1] []),(1,ri [4] [])]
def z1k.cx (k:Nat):Cx:=⟨tt,pp,[],z1k.regs,k,mm⟩
@[reducible] def z1k.sg:Sg:=⟨[.dat (.int .i64),.dat (.int .i64)],[],.dat (.int .i64),[]⟩
def z1k.f (k:Nat) (a0:Ty.D (.int .i64)) (a1:Ty.D (.int .i64)):Option (Sg.Out z1k.sg):=Sg.fn z1k.sg (z1k.cx k) z1k.body z1k.rs (a0,a1)
theorem z1k.f_eq (k:Nat) (a0:Ty.D (.int .i64)) (a1:Ty.D (.int .i64)):z1k.f k a0 a1=some (imax a0 a1):=by kernel_rfl
def z1k.e (k:Nat):Entry:=Sg.entry z1k.sg fun x=>z1k.f k x.1 x.2
theorem z1k.ok (k:Nat):CallOK Tryz.prog 263 (z1k.e k):=fn_ok (c:=z1k.cx k) (code:=z1k.body) (TT.of tt_ok pp_ok mm_ok) (fns_ok trivial) mixed Tryz.func263 (by kernel_rfl) (by kernel_rfl) (by kernel_rfl) (by kernel_rfl) (by kernel_rfl) (by kernel_rfl) (fun x=>by kernel_rfl)
def z0f.body:Go.Code:=Tryz.f262.body.getD .skip
def z0f.rs:List Go.ResultVar:=Tryz.f262.results.toList
def z0f.regs:List (Nat × RInfo):=[(0,ri [2,3,4,6] [3,4,6]),(1,ri [2,3,4,6,8] [3,4,6]),(2,⟨[2,3,4,6,8,9],[3,4,6],[],[],0,[2,3,4,6,8],[3,4,6],[],[],[]⟩),(3,ri [2,3,4,6,7,8] [3,4,6]),(4,⟨[2,3,4,6,8],[3,4,6],[],[],9,[],[],[],[[],[],[],[],[],[],[],[],[4,7],[4,7,8],[4,7,8]],[]⟩),(5,ri [2,3,4,6,8] [3,4,6]),(6,ri [6] [6])]
def z0f.cx (k:Nat):Cx:=⟨tt,pp,[(263,(z1k.e k))],z0f.regs,k,mm⟩
@[reducible] def z0f.sg:Sg:=⟨[.dat tVec,.dat tVec,.fn 263 0],[],.dat tVec,[]⟩
def z0f.f (k:Nat) (a0:Ty.D tVec) (a1:Ty.D tVec):Option (Sg.Out z0f.sg):=Sg.fn z0f.sg (z0f.cx k) z0f.body z0f.rs (a0,a1)
def z0f.l2 (k:Nat) (n:Nat) (x8:Ty.D (.int .i64)) (m3:Ty.D tVec) (m4:Ty.D tVec) (m6:Ty.D tVec):Option (Sg.Out z0f.sg):=loopAt (z0f.cx k) z0f.body [1,0,1,0] 2 [2,3,4,6,8] [3,4,6] [] (Sg.K z0f.sg (z0f.cx k) z0f.rs) n ⟨[(2,.fn 263 []),(3,.ref 3 []),(4,.ref 4 []),(6,.ref 6 []),(8,.dat (.int .i64) x8)],[(3,.dat tVec m3),(4,.dat tVec m4),(6,.dat tVec m6)]⟩
theorem z0f.f_eq (k:Nat) (a0:Ty.D tVec) (a1:Ty.D tVec):z0f.f k a0 a1=z0f.l2 k k 0 a0 a1 (zarr 16 0):=by kernel_rfl
theorem z0f.l2_eq (k:Nat) (n2:Nat) (x8:Ty.D (.int .i64)) (m3:Ty.D tVec) (m4:Ty.D tVec) (m6:Ty.D tVec):z0f.l2 k (n2+1) x8 m3 m4 m6=br (ilt x8 16) (br (inB x8 16) (br (inB x8 16) (bnd (z1k.f k (rd (.int .i64) m3 (natOf x8)) (rd (.int .i64) m4 (natOf x8))) fun r0=>br (inB x8 16) (z0f.l2 k n2 (iadd .i64 x8 1) (upd m3 (natOf x8) r0) m4 m6) none) none) none) (some m3):=by kernel_rfl
def z0f.e (k:Nat):Entry:=Sg.entry z0f.sg fun x=>z0f.f k x.1 x.2
theorem z0f.ok (k:Nat):CallOK Tryz.prog 262 (z0f.e k):=fn_ok (c:=z0f.cx k) (code:=z0f.body) (TT.of tt_ok pp_ok mm_ok) (fns_ok ⟨(z1k.ok k),trivial⟩) mixed Tryz.func262 (by kernel_rfl) (by kernel_rfl) (by kernel_rfl) (by kernel_rfl) (by kernel_rfl) (by kernel_rfl) (fun x=>by kernel_rfl)
def z2k.body:Go.Code:=Tryz.f236.body.getD .skip
def z2k.rs:List Go.ResultVar:=Tryz.f236.results.toList
def z2k.regs:List (Nat × RInfo):=[(0,ri [2,3,4] [2,3,4]),(1,ri [4] [4])]
def z2k.cx (k:Nat):Cx:=⟨tt,pp,[(262,(z0f.e k)),(263,(z1k.e k))],z2k.regs,k,mm⟩
@[reducible] def z2k.sg:Sg:=⟨[.dat tVec,.dat tVec],[],.dat tVec,[]⟩
def z2k.f (k:Nat) (a0:Ty.D tVec) (a1:Ty.D tVec):Option (Sg.Out z2k.sg):=Sg.fn z2k.sg (z2k.cx k) z2k.body z2k.rs (a0,a1)
theorem z2k.f_eq (k:Nat) (a0:Ty.D tVec) (a1:Ty.D tVec):z2k.f k a0 a1=bnd (z0f.f k a0 a1) fun r0=>some r0:=by kernel_rfl
def z2k.e (k:Nat):Entry:=Sg.entry z2k.sg fun x=>z2k.f k x.1 x.2
theorem z2k.ok (k:Nat):CallOK Tryz.prog 236 (z2k.e k):=fn_ok (c:=z2k.cx k) (code:=z2k.body) (TT.of tt_ok pp_ok mm_ok) (fns_ok ⟨(z0f.ok k),(z1k.ok k),trivial⟩) mixed Tryz.func236 (by kernel_rfl) (by kernel_rfl) (by kernel_rfl) (by kernel_rfl) (by kernel_rfl) (by kernel_rfl) (fun x=>by kernel_rfl)
def z1w.body:Go.Code:=Tryz.f192.body.getD .skip
def z1w.rs:List Go.ResultVar:=Tryz.f192.results.toList
def z1w.regs:List (Nat × RInfo):=[(0,⟨[2,3,4],[2,3,4],[0,1],[],0,[],[],[0,1],[],[]⟩),(1,⟨[2,3,4,5],[2,3,4,11],[6],[],0,[],[],[2,3],[],[]⟩),(2,⟨[2,3,4,5],[2,3,4,11],[0,1],[0],0,[],[],[],[],[]⟩),(3,⟨[4],[4],[7],[],0,[],[],[2,3,5,4],[],[]⟩)]
def z1w.cx (k:Nat):Cx:=⟨tt,pp,[(235,(z0d.e k)),(182,(sortE tDot 176 dotLt)),(176,(z0H.e k)),(236,(z2k.e k)),(183,(z1U.e k))],z1w.regs,k,mm⟩
@[reducible] def z1w.sg:Sg:=⟨[.dat tDots,.dat tDots],[],.dat tDots,[]⟩
def z1w.f (k:Nat) (a0:Ty.D tDots) (a1:Ty.D tDots):Option (Sg.Out z1w.sg):=Sg.fn z1w.sg (z1w.cx k) z1w.body z1w.rs (a0,a1)
theorem z1w.f_eq (k:Nat) (a0:Ty.D tDots) (a1:Ty.D tDots):z1w.f k a0 a1=bnd (z0d.f k (a0.2::(a1.2::[]))) fun r0=>br (room ([]:List Int) r0) (bnd (z2k.f k a0.1 a1.1) fun r1=>bnd (z1U.f k r1 (isort dotLt r0)) fun r2=>some r2) none:=by kernel_rfl
def z1w.e (k:Nat):Entry:=Sg.entry z1w.sg fun x=>z1w.f k x.1 x.2
theorem z1w.ok (k:Nat):CallOK Tryz.prog 192 (z1w.e k):=fn_ok (c:=z1w.cx k) (code:=z1w.body) (TT.of tt_ok pp_ok mm_ok) (fns_ok ⟨(z0d.ok k),sortDot_ok,(z0H.ok k),(z2k.ok k),(z1U.ok k),trivial⟩) mixed Tryz.func192 (by kernel_rfl) (by kernel_rfl) (by kernel_rfl) (by kernel_rfl) (by kernel_rfl) (by kernel_rfl) (fun x=>by kernel_rfl)
def z1I.body:Go.Code:=Tryz.f139.body.getD .skip
def z1I.rs:List Go.ResultVar:=Tryz.f139.results.toList
def z1I.regs:List (Nat × RInfo):=[(0,⟨[1,2,4],[2,4],[0],[],0,[],[],[],[],[]⟩),(1,⟨[2,4],[2,4],[6],[],5,[],[],[],[[],[],[],[],[1],[1],[1]],[]⟩),(2,⟨[4],[4],[1],[],0,[],[],[],[],[]⟩)]
def z1I.cx (k:Nat):Cx:=⟨tt,pp,[(129,(z2s.e k)),(192,(z1w.e k))],z1I.regs,k,mm⟩
@[reducible] def z1I.sg:Sg:=⟨[.dat tState,.dat (.slc tDot)],[],.dat tState,[]⟩
def z1I.f (k:Nat) (a0:Ty.D tState) (a1:Ty.D (.slc tDot)):Option (Sg.Out z1I.sg):=Sg.fn z1I.sg (z1I.cx k) z1I.body z1I.rs (a0,a1)
theorem z1I.f_eq (k:Nat) (a0:Ty.D tState) (a1:Ty.D (.slc tDot)):z1I.f k a0 a1=bnd (z2s.f k a1) fun r0=>bnd (z1w.f k a0.2.2.2.1 r0) fun r1=>some (a0.1,(a0.2.1,(a0.2.2.1,(r1,a0.2.2.2.2)))):=by kernel_rfl
def z1I.e (k:Nat):Entry:=Sg.entry z1I.sg fun x=>z1I.f k x.1 x.2
theorem z1I.ok (k:Nat):CallOK Tryz.prog 139 (z1I.e k):=fn_ok (c:=z1I.cx k) (code:=z1I.body) (TT.of tt_ok pp_ok mm_ok) (fns_ok ⟨(z2s.ok k),(z1w.ok k),trivial⟩) mixed Tryz.func139 (by kernel_rfl) (by kernel_rfl) (by kernel_rfl) (by kernel_rfl) (by kernel_rfl) (by kernel_rfl) (fun x=>by kernel_rfl)
def z0q.body:Go.Code:=Tryz.f58.body.getD .skip
def z0q.rs:List Go.ResultVar:=Tryz.f58.results.toList
def z0q.regs:List (Nat × RInfo):=[(0,⟨[2,3,4],[2,3,4],[0,1],[],0,[],[],[],[],[]⟩),(1,ri [2,3,4,8,9,10] [2,3,4]),(2,⟨[2,3,4,8,9,10,11],[2,3,4],[],[],0,[2,3,4,8,9,10],[2,3,4],[],[],[]⟩),(3,⟨[2,3,4,6,8,9,10],[2,3,4,6],[3],[],0,[],[],[],[],[]⟩),(4,⟨[2,3,4,8,9,10],[2,3,4],[3],[],0,[],[],[],[],[]⟩),(5,ri [2,3,4,8,9,10] [2,3,4]),(6,⟨[4],[4],[7],[],7,[],[],[],[[],[],[],[0,2],[],[],[0,2,5],[0,2,5]],[]⟩)]
def z0q.cx (k:Nat):Cx:=⟨tt,pp,[(55,(z29.e k)),(56,(z0F.e k)),(139,(z1I.e k))],z0q.regs,k,mm⟩
@[reducible] def z0q.sg:Sg:=⟨[.dat tState,.dat tDelta],[],.dat tState,[]⟩
def z0q.f (k:Nat) (a0:Ty.D tState) (a1:Ty.D tDelta):Option (Sg.Out z0q.sg):=Sg.fn z0q.sg (z0q.cx k) z0q.body z0q.rs (a0,a1)
def z0q.l2 (k:Nat) (n:Nat) (x8:Ty.D (.slc tTxn)) (x9:Ty.D (.int .i64)) (x10:Ty.D (.int .i64)) (m2:Ty.D tState) (m3:Ty.D tDelta) (m4a:List (Ty.D tTxn)) (m4ba:List (Ty.D tUndo)) (m4bbaa:Ty.D tVec) (m4bbab:List (Ty.D tDot)) (m4bbbaa:Ty.D tVec) (m4bbbab:List (Ty.D tDot)) (m4bbbb:Ty.D (.arr 8 (.slc tDot))):Option (Sg.Out z0q.sg):=loopAt (z0q.cx k) z0q.body [1,0,1,0] 2 [2,3,4,8,9,10] [2,3,4] [] (Sg.K z0q.sg (z0q.cx k) z0q.rs) n ⟨[(2,.ref 2 []),(3,.ref 3 []),(4,.ref 4 []),(8,.dat (.slc tTxn) x8),(9,.dat (.int .i64) x9),(10,.dat (.int .i64) x10)],[(2,.dat tState m2),(3,.dat tDelta m3),(4,.pr (.own tTxn m4a) (.pr (.own tUndo m4ba) (.pr (.pr (.dat tVec m4bbaa) (.own tDot m4bbab)) (.pr (.pr (.dat tVec m4bbbaa) (.own tDot m4bbbab)) (.dat (.arr 8 (.slc tDot)) m4bbbb)))))]⟩
theorem z0q.f_eq (k:Nat) (a0:Ty.D tState) (a1:Ty.D tDelta):z0q.f k a0 a1=z0q.l2 k k a1.1 (ilen a1.1) 0 a0 a1 [] [] (zarr 16 0) [] (zarr 16 0) [] (zarr 8 []):=by kernel_rfl
theorem z0q.l2_eq (k:Nat) (n2:Nat) (x8:Ty.D (.slc tTxn)) (x9:Ty.D (.int .i64)) (x10:Ty.D (.int .i64)) (m2:Ty.D tState) (m3:Ty.D tDelta) (m4a:List (Ty.D tTxn)) (m4ba:List (Ty.D tUndo)) (m4bbaa:Ty.D tVec) (m4bbab:List (Ty.D tDot)) (m4bbbaa:Ty.D tVec) (m4bbbab:List (Ty.D tDot)) (m4bbbb:Ty.D (.arr 8 (.slc tDot))):z0q.l2 k (n2+1) x8 x9 x10 m2 m3 m4a m4ba m4bbaa m4bbab m4bbbaa m4bbbab m4bbbb=br (ilt x10 x9) (br (inL x10 x8) (bnd (z29.f k m2 (rd tTxn x8 (natOf x10))) fun r0=>z0q.l2 k n2 x8 x9 (iadd .i64 x10 1) r0 m3 m4a m4ba m4bbaa m4bbab m4bbbaa m4bbbab m4bbbb) none) (bnd (z0F.f k m2 m3.2.1) fun r1=>bnd (z1I.f k r1 m3.2.2) fun r2=>some r2):=by kernel_rfl
def z0q.e (k:Nat):Entry:=Sg.entry z0q.sg fun x=>z0q.f k x.1 x.2
theorem z0q.ok (k:Nat):CallOK Tryz.prog 58 (z0q.e k):=fn_ok (c:=z0q.cx k) (code:=z0q.body) (TT.of tt_ok pp_ok mm_ok) (fns_ok ⟨(z29.ok k),(z0F.ok k),(z1I.ok k),trivial⟩) mixed Tryz.func58 (by kernel_rfl) (by kernel_rfl) (by kernel_rfl) (by kernel_rfl) (by kernel_rfl) (by kernel_rfl) (fun x=>by kernel_rfl)
def z0J.body:Go.Code:=Tryz.f59.body.getD .skip
def z0J.rs:List Go.ResultVar:=Tryz.f59.results.toList
def z0J.regs:List (Nat × RInfo):=[(0,⟨[1,2],[1,2],[0],[],0,[],[],[],[],[]⟩),(1,⟨[1,2],[1,2],[4],[],0,[],[],[],[],[]⟩),(2,⟨[1,2],[1,2],[4],[],0,[],[],[],[],[]⟩),(3,⟨[1,2],[1,2],[6],[],0,[],[],[],[],[]⟩),(4,⟨[1,2],[1,2],[6],[],0,[],[],[],[],[]⟩),(5,ri [1,2,26,27] [1,2]),(6,⟨[1,2,26,27,28],[1,2],[],[],0,[1,2,26,27],[1,2],[],[],[]⟩),(7,⟨[1,2,3,4,26,27],[1,2],[3],[],0,[],[],[],[],[]⟩),(8,⟨[1,2,26,27],[1,2],[5],[],0,[],[],[],[],[]⟩),(9,ri [1,2,26,27] [1,2]),(10,⟨[2],[2],[1],[],0,[],[],[],[],[]⟩)]
def z0J.cx (k:Nat):Cx:=⟨tt,pp,[(140,(cloneO tTxn)),(141,(cloneO tUndo)),(138,(cloneO tDot))],z0J.regs,k,mm⟩
@[reducible] def z0J.sg:Sg:=⟨[.dat tState],[],.dat tState,[]⟩
def z0J.f (k:Nat) (a0:Ty.D tState):Option (Sg.Out z0J.sg):=Sg.fn z0J.sg (z0J.cx k) z0J.body z0J.rs a0
def z0J.l6 (k:Nat) (n:Nat) (x26:Ty.D (.arr 8 (.slc tDot))) (x27:Ty.D (.int .i64)) (m1a:List (Ty.D tTxn)) (m1ba:List (Ty.D tUndo)) (m1bbaa:Ty.D tVec) (m1bbab:List (Ty.D tDot)) (m1bbbaa:Ty.D tVec) (m1bbbab:List (Ty.D tDot)) (m1bbbb:Ty.D (.arr 8 (.slc tDot))) (m2a:List (Ty.D tTxn)) (m2ba:List (Ty.D tUndo)) (m2bbaa:Ty.D tVec) (m2bbab:List (Ty.D tDot)) (m2bbbaa:Ty.D tVec) (m2bbbab:List (Ty.D tDot)) (m2bbbb:Ty.D (.arr 8 (.slc tDot))):Option (Sg.Out z0J.sg):=loopAt (z0J.cx k) z0J.body [1,1,1,1,1,0,1,0] 6 [1,2,26,27] [1,2] [] (Sg.K z0J.sg (z0J.cx k) z0J.rs) n ⟨[(1,.ref 1 []),(2,.ref 2 []),(26,.dat (.arr 8 (.slc tDot)) x26),(27,.dat (.int .i64) x27)],[(1,.pr (.own tTxn m1a) (.pr (.own tUndo m1ba) (.pr (.pr (.dat tVec m1bbaa) (.own tDot m1bbab)) (.pr (.pr (.dat tVec m1bbbaa) (.own tDot m1bbbab)) (.dat (.arr 8 (.slc tDot)) m1bbbb))))),(2,.pr (.own tTxn m2a) (.pr (.own tUndo m2ba) (.pr (.pr (.dat tVec m2bbaa) (.own tDot m2bbab)) (.pr (.pr (.dat tVec m2bbbaa) (.own tDot m2bbbab)) (.dat (.arr 8 (.slc tDot)) m2bbbb)))))]⟩
theorem z0J.f_eq (k:Nat) (a0:Ty.D tState):z0J.f k a0=br (room ([]:List Int) a0.1) (br (room ([]:List Int) a0.2.1) (br (room ([]:List Int) a0.2.2.1.2) (br (room ([]:List Int) a0.2.2.2.1.2) (z0J.l6 k k a0.2.2.2.2 0 a0.1 a0.2.1 a0.2.2.1.1 a0.2.2.1.2 a0.2.2.2.1.1 a0.2.2.2.1.2 a0.2.2.2.2 [] [] (zarr 16 0) [] (zarr 16 0) [] (zarr 8 [])) none) none) none) none:=by kernel_rfl
theorem z0J.l6_eq (k:Nat) (n6:Nat) (x26:Ty.D (.arr 8 (.slc tDot))) (x27:Ty.D (.int .i64)) (m1a:List (Ty.D tTxn)) (m1ba:List (Ty.D tUndo)) (m1bbaa:Ty.D tVec) (m1bbab:List (Ty.D tDot)) (m1bbbaa:Ty.D tVec) (m1bbbab:List (Ty.D tDot)) (m1bbbb:Ty.D (.arr 8 (.slc tDot))) (m2a:List (Ty.D tTxn)) (m2ba:List (Ty.D tUndo)) (m2bbaa:Ty.D tVec) (m2bbab:List (Ty.D tDot)) (m2bbbaa:Ty.D tVec) (m2bbbab:List (Ty.D tDot)) (m2bbbb:Ty.D (.arr 8 (.slc tDot))):z0J.l6 k (n6+1) x26 x27 m1a m1ba m1bbaa m1bbab m1bbbaa m1bbbab m1bbbb m2a m2ba m2bbaa m2bbab m2bbbaa m2bbbab m2bbbb=br (ilt x27 8) (br (inB x27 8) (br (room ([]:List Int) (rd (.slc tDot) x26 (natOf x27))) (br (inB x27 8) (z0J.l6 k n6 x26 (iadd .i64 x27 1) m1a m1ba m1bbaa m1bbab m1bbbaa m1bbbab (upd m1bbbb (natOf x27) (rd (.slc tDot) x26 (natOf x27))) m2a m2ba m2bbaa m2bbab m2bbbaa m2bbbab m2bbbb) none) none) none) (some (m1a,(m1ba,((m1bbaa,m1bbab),((m1bbbaa,m1bbbab),m1bbbb))))):=by kernel_rfl
def z0J.e (k:Nat):Entry:=Sg.entry z0J.sg fun x=>z0J.f k x
theorem z0J.ok (k:Nat):CallOK Tryz.prog 59 (z0J.e k):=fn_ok (c:=z0J.cx k) (code:=z0J.body) (TT.of tt_ok pp_ok mm_ok) (fns_ok ⟨cloneOTxn_ok,cloneOUndo_ok,cloneODot_ok,trivial⟩) mixed Tryz.func59 (by kernel_rfl) (by kernel_rfl) (by kernel_rfl) (by kernel_rfl) (by kernel_rfl) (by kernel_rfl) (fun x=>by kernel_rfl)
def z0M.body:Go.Code:=Tryz.f14.body.getD .skip
def z0M.rs:List Go.ResultVar:=Tryz.f14.results.toList
def z0M.regs:List (Nat × RInfo):=[(0,⟨[2,3,4],[2,3,4],[0,1],[],0,[],[],[],[],[]⟩),(1,ri [2,3,4,6] [2,3,4]),(2,ri [2,3,4,6,7] [2,3,4]),(3,⟨[2,3,4],[2,3,4],[4],[],0,[],[],[],[],[]⟩),(4,ri [2,4] [2,4]),(5,ri [2,3,4,6,18] [2,3,4]),(6,⟨[2,3,4],[2,3,4],[5],[],0,[],[],[],[],[]⟩),(7,⟨[2,4],[2,4],[11],[],12,[],[],[],[[],[],[],[],[],[3],[3],[],[6,3,7],[],[1,3,6,7],[1,3,6,7]],[]⟩),(8,ri [2,3,4,6,36] [2,3,4]),(9,⟨[4],[4],[4],[],0,[],[],[],[],[]⟩),(10,ri [2,3,4,42] [2,3,4]),(11,⟨[4],[4],[3],[],0,[],[],[],[],[]⟩),(12,⟨[4],[4],[1],[],0,[],[],[],[],[]⟩)]
def z0M.cx (k:Nat):Cx:=⟨tt,pp,[(55,(z29.e k)),(56,(z0F.e k)),(57,(z0P.e k)),(58,(z0q.e k)),(59,(z0J.e k))],z0M.regs,k,mm⟩
@[reducible] def z0M.sg:Sg:=⟨[.dat tState,.dat tRecord],[],.dat tState,[]⟩
def z0M.f (k:Nat) (a0:Ty.D tState) (a1:Ty.D tRecord):Option (Sg.Out z0M.sg):=Sg.fn z0M.sg (z0M.cx k) z0M.body z0M.rs (a0,a1)
theorem z0M.f_eq (k:Nat) (a0:Ty.D tState) (a1:Ty.D tRecord):z0M.f k a0 a1=br (ieq a1.1 1) (bnd (z29.f k a0 a1.2.1) fun r0=>br (inB a1.2.1.2.1 8) (some (r0.1,(r0.2.1,(r0.2.2.1,(r0.2.2.2.1,(upd r0.2.2.2.2 (natOf a1.2.1.2.1) [])))))) none) (br (ieq a1.1 2) (bnd (z0F.f k a0 (a1.2.2.2.1::[])) fun r1=>br (inB a1.2.2.1 8) (bnd (z0P.f k (rd (.slc tDot) r1.2.2.2.2 (natOf a1.2.2.1)) a1) fun r2=>br (inB a1.2.2.1 8) (some (r1.1,(r1.2.1,(r1.2.2.1,(r1.2.2.2.1,(upd r1.2.2.2.2 (natOf a1.2.2.1) r2)))))) none) none) (br (ieq a1.1 3) (bnd (z0q.f k a0 a1.2.2.2.2.2.1) fun r3=>some r3) (br (ieq a1.1 4) (bnd (z0J.f k a1.2.2.2.2.2.2) fun r4=>some r4) (some a0)))):=by kernel_rfl
def z0M.e (k:Nat):Entry:=Sg.entry z0M.sg fun x=>z0M.f k x.1 x.2
theorem z0M.ok (k:Nat):CallOK Tryz.prog 14 (z0M.e k):=fn_ok (c:=z0M.cx k) (code:=z0M.body) (TT.of tt_ok pp_ok mm_ok) (fns_ok ⟨(z29.ok k),(z0F.ok k),(z0P.ok k),(z0q.ok k),(z0J.ok k),trivial⟩) mixed Tryz.func14 (by kernel_rfl) (by kernel_rfl) (by kernel_rfl) (by kernel_rfl) (by kernel_rfl) (by kernel_rfl) (fun x=>by kernel_rfl)
def z0Q.body:Go.Code:=Tryz.f11.body.getD .skip
def z0Q.rs:List Go.ResultVar:=Tryz.f11.results.toList
def z0Q.regs:List (Nat × RInfo):=[(0,ri [] []),(1,ri [1] [1]),(2,⟨[1,2],[1,2],[6],[],0,[],[],[],[],[]⟩),(3,⟨[1,2,3],[1,2,3],[6],[],0,[],[],[],[],[]⟩),(4,⟨[1,2,4],[1,2,4],[5],[],0,[],[],[],[],[]⟩),(5,rq [0] [] 27)]
def z0Q.cx (k:Nat):Cx:=⟨tt,pp,[(14,(z0M.e k))],z0Q.regs,k,mm⟩
@[reducible] def z0Q.sg:Sg:=⟨[],[],.dat .bool,[]⟩
def z0Q.f (k:Nat):Option (Sg.Out z0Q.sg):=Sg.fn z0Q.sg (z0Q.cx k) z0Q.body z0Q.rs ()
def z0Q.e (k:Nat):Entry:=Sg.entry z0Q.sg fun x=>z0Q.f k
theorem z0Q.ok (k:Nat):CallOK Tryz.prog 11 (z0Q.e k):=fn_ok (c:=z0Q.cx k) (code:=z0Q.body) (TT.of tt_ok pp_ok mm_ok) (fns_ok ⟨(z0M.ok k),trivial⟩) mixed Tryz.func11 (by kernel_rfl) (by kernel_rfl) (by kernel_rfl) (by kernel_rfl) (by kernel_rfl) (by kernel_rfl) (fun x=>by kernel_rfl)
@[reducible] def law23_RecordParses.sg:Sg:=⟨[.dat .str],[],.dat .bool,[]⟩
def z14.body:Go.Code:=Tryz.f167.body.getD .skip
def z14.rs:List Go.ResultVar:=Tryz.f167.results.toList
def z14.regs:List (Nat × RInfo):=[(0,ri [0] []),(1,ri [0,6] []),(2,ri [2] []),(3,ri [0,3] []),(4,⟨[0,3,10],[],[],[],0,[0,3],[],[],[],[]⟩),(6,ri [0,3,18] []),(7,ri [2] []),(5,ri [0,3] []),(8,ri [2] [])]
def z14.cx (k:Nat):Cx:=⟨tt,pp,[],z14.regs,k,mm⟩
@[reducible] def z14.sg:Sg:=⟨[.dat (.slc .str)],[],.dat .bool,[]⟩
def z14.f (k:Nat) (a0:Ty.D (.slc .str)):Option (Sg.Out z14.sg):=Sg.fn z14.sg (z14.cx k) z14.body z14.rs a0
def z14.l4 (k:Nat) (n:Nat) (x0:Ty.D (.slc .str)) (x3:Ty.D (.int .i64)):Option (Sg.Out z14.sg):=loopAt (z14.cx k) z14.body [1,1,0,1,0] 4 [0,3] [] [] (Sg.K z14.sg (z14.cx k) z14.rs) n ⟨[(0,.dat (.slc .str) x0),(3,.dat (.int .i64) x3)],[]⟩
theorem z14.f_eq (k:Nat) (a0:Ty.D (.slc .str)):z14.f k a0=br (ilt 12 (ilen a0)) (some false) (z14.l4 k k a0 0):=by kernel_rfl
theorem z14.l4_eq (k:Nat) (n4:Nat) (x0:Ty.D (.slc .str)) (x3:Ty.D (.int .i64)):z14.l4 k (n4+1) x0 x3=br (ilt x3 (ilen x0)) (br (inL x3 x0) (br (ilt 120 (ilen (rd .str x0 (natOf x3)))) (some false) (z14.l4 k n4 x0 (iadd .i64 x3 1))) none) (some true):=by kernel_rfl
def z14.e (k:Nat):Entry:=Sg.entry z14.sg fun x=>z14.f k x
theorem z14.ok (k:Nat):CallOK Tryz.prog 167 (z14.e k):=fn_ok (c:=z14.cx k) (code:=z14.body) (TT.of tt_ok pp_ok mm_ok) (fns_ok trivial) mixed Tryz.func167 (by kernel_rfl) (by kernel_rfl) (by kernel_rfl) (by kernel_rfl) (by kernel_rfl) (by kernel_rfl) (fun x=>by kernel_rfl)
def z0L.body:Go.Code:=Tryz.f114.body.getD .skip
def z0L.rs:List Go.ResultVar:=Tryz.f114.results.toList
def z0L.regs:List (Nat × RInfo):=[(0,⟨[1],[1],[0],[],0,[],[],[],[],[]⟩),(1,ri [2] [5])]
def z0L.cx (k:Nat):Cx:=⟨tt,pp,[(167,(z14.e k))],z0L.regs,k,mm⟩
@[reducible] def z0L.sg:Sg:=⟨[.dat tOp],[],.dat .bool,[]⟩
def z0L.f (k:Nat) (a0:Ty.D tOp):Option (Sg.Out z0L.sg):=Sg.fn z0L.sg (z0L.cx k) z0L.body z0L.rs a0
theorem z0L.f_eq (k:Nat) (a0:Ty.D tOp):z0L.f k a0=bnd (z14.f k a0.2.1) fun r0=>br r0 (br (ile (ilen a0.2.2.1.2.2) 200) (some (ile (ilen a0.2.2.2.2) 300)) (some false)) (some false):=by kernel_rfl
def z0L.e (k:Nat):Entry:=Sg.entry z0L.sg fun x=>z0L.f k x
theorem z0L.ok (k:Nat):CallOK Tryz.prog 114 (z0L.e k):=fn_ok (c:=z0L.cx k) (code:=z0L.body) (TT.of tt_ok pp_ok mm_ok) (fns_ok ⟨(z14.ok k),trivial⟩) mixed Tryz.func114 (by kernel_rfl) (by kernel_rfl) (by kernel_rfl) (by kernel_rfl) (by kernel_rfl) (by kernel_rfl) (fun x=>by kernel_rfl)
def z10.body:Go.Code:=Tryz.f47.body.getD .skip
def z10.rs:List Go.ResultVar:=Tryz.f47.results.toList
def z10.regs:List (Nat × RInfo):=[(0,⟨[1],[1],[0],[],0,[],[],[],[],[]⟩),(1,ri [1,7] [1]),(2,ri [2] []),(3,ri [1,3] [1]),(4,⟨[1,3,12],[1],[],[],0,[1,3],[1],[],[],[]⟩),(6,ri [1,3,21] [1]),(7,ri [2] []),(5,ri [1,3] [1]),(8,ri [2] [])]
def z10.cx (k:Nat):Cx:=⟨tt,pp,[(114,(z0L.e k))],z10.regs,k,mm⟩
@[reducible] def z10.sg:Sg:=⟨[.dat tTxn],[],.dat .bool,[]⟩
def z10.f (k:Nat) (a0:Ty.D tTxn):Option (Sg.Out z10.sg):=Sg.fn z10.sg (z10.cx k) z10.body z10.rs a0
def z10.l4 (k:Nat) (n:Nat) (x3:Ty.D (.int .i64)) (m1:Ty.D tTxn):Option (Sg.Out z10.sg):=loopAt (z10.cx k) z10.body [1,1,0,1,0] 4 [1,3] [1] [] (Sg.K z10.sg (z10.cx k) z10.rs) n ⟨[(1,.ref 1 []),(3,.dat (.int .i64) x3)],[(1,.dat tTxn m1)]⟩
theorem z10.f_eq (k:Nat) (a0:Ty.D tTxn):z10.f k a0=br (ilt 20 (ilen a0.2.2.2.2)) (some false) (z10.l4 k k 0 a0):=by kernel_rfl
theorem z10.l4_eq (k:Nat) (n4:Nat) (x3:Ty.D (.int .i64)) (m1:Ty.D tTxn):z10.l4 k (n4+1) x3 m1=br (ilt x3 (ilen m1.2.2.2.2)) (br (inL x3 m1.2.2.2.2) (bnd (z0L.f k (rd tOp m1.2.2.2.2 (natOf x3))) fun r0=>br (bnot r0) (some false) (z10.l4 k n4 (iadd .i64 x3 1) m1)) none) (some true):=by kernel_rfl
def z10.e (k:Nat):Entry:=Sg.entry z10.sg fun x=>z10.f k x
theorem z10.ok (k:Nat):CallOK Tryz.prog 47 (z10.e k):=fn_ok (c:=z10.cx k) (code:=z10.body) (TT.of tt_ok pp_ok mm_ok) (fns_ok ⟨(z0L.ok k),trivial⟩) mixed Tryz.func47 (by kernel_rfl) (by kernel_rfl) (by kernel_rfl) (by kernel_rfl) (by kernel_rfl) (by kernel_rfl) (fun x=>by kernel_rfl)
def z0h.body:Go.Code:=Tryz.f37.body.getD .skip
def z0h.rs:List Go.ResultVar:=Tryz.f37.results.toList
def z0h.regs:List (Nat × RInfo):=[(0,⟨[1],[1],[0],[],0,[],[],[],[],[]⟩),(1,ri [1,19] [1]),(2,ri [2] []),(3,ri [1,3] [1]),(4,⟨[1,3,24],[1],[],[],0,[1,3],[1],[],[],[]⟩),(6,ri [1,3,33] [1]),(7,ri [2] []),(5,ri [1,3] [1]),(8,ri [2] [])]
def z0h.cx (k:Nat):Cx:=⟨tt,pp,[(47,(z10.e k))],z0h.regs,k,mm⟩
@[reducible] def z0h.sg:Sg:=⟨[.dat tDelta],[],.dat .bool,[]⟩
def z0h.f (k:Nat) (a0:Ty.D tDelta):Option (Sg.Out z0h.sg):=Sg.fn z0h.sg (z0h.cx k) z0h.body z0h.rs a0
def z0h.l4 (k:Nat) (n:Nat) (x3:Ty.D (.int .i64)) (m1:Ty.D tDelta):Option (Sg.Out z0h.sg):=loopAt (z0h.cx k) z0h.body [1,1,0,1,0] 4 [1,3] [1] [] (Sg.K z0h.sg (z0h.cx k) z0h.rs) n ⟨[(1,.ref 1 []),(3,.dat (.int .i64) x3)],[(1,.dat tDelta m1)]⟩
theorem z0h.f_eq (k:Nat) (a0:Ty.D tDelta):z0h.f k a0=br (ilt 20 (ilen a0.1)) (some false) (br (ilt 100 (ilen a0.2.1)) (some false) (br (ilt 100 (ilen a0.2.2)) (some false) (z0h.l4 k k 0 a0))):=by kernel_rfl
theorem z0h.l4_eq (k:Nat) (n4:Nat) (x3:Ty.D (.int .i64)) (m1:Ty.D tDelta):z0h.l4 k (n4+1) x3 m1=br (ilt x3 (ilen m1.1)) (br (inL x3 m1.1) (bnd (z10.f k (rd tTxn m1.1 (natOf x3))) fun r0=>br (bnot r0) (some false) (z0h.l4 k n4 (iadd .i64 x3 1) m1)) none) (some true):=by kernel_rfl
def z0h.e (k:Nat):Entry:=Sg.entry z0h.sg fun x=>z0h.f k x
theorem z0h.ok (k:Nat):CallOK Tryz.prog 37 (z0h.e k):=fn_ok (c:=z0h.cx k) (code:=z0h.body) (TT.of tt_ok pp_ok mm_ok) (fns_ok ⟨(z10.ok k),trivial⟩) mixed Tryz.func37 (by kernel_rfl) (by kernel_rfl) (by kernel_rfl) (by kernel_rfl) (by kernel_rfl) (by kernel_rfl) (fun x=>by kernel_rfl)
def z0Z.body:Go.Code:=Tryz.f46.body.getD .skip
def z0Z.rs:List Go.ResultVar:=Tryz.f46.results.toList
def z0Z.regs:List (Nat × RInfo):=[(0,⟨[1],[1],[0],[],0,[],[],[],[],[]⟩),(1,ri [1,28] [1]),(2,ri [2] []),(3,ri [1,3] [1]),(4,⟨[1,3,33],[1],[],[],0,[1,3],[1],[],[],[]⟩),(6,ri [1,3,42] [1]),(7,ri [2] []),(5,ri [1,3] [1]),(8,ri [1,4] [1]),(9,⟨[1,4,44],[1],[],[],0,[1,4],[1],[],[],[]⟩),(11,ri [1,4,52] [1]),(12,ri [2] []),(10,ri [1,4] [1]),(13,ri [2] [])]
def z0Z.cx (k:Nat):Cx:=⟨tt,pp,[(47,(z10.e k))],z0Z.regs,k,mm⟩
@[reducible] def z0Z.sg:Sg:=⟨[.dat tState],[],.dat .bool,[]⟩
def z0Z.f (k:Nat) (a0:Ty.D tState):Option (Sg.Out z0Z.sg):=Sg.fn z0Z.sg (z0Z.cx k) z0Z.body z0Z.rs a0
def z0Z.l4 (k:Nat) (n:Nat) (x3:Ty.D (.int .i64)) (m1:Ty.D tState):Option (Sg.Out z0Z.sg):=loopAt (z0Z.cx k) z0Z.body [1,1,0,1,0] 4 [1,3] [1] [] (Sg.K z0Z.sg (z0Z.cx k) z0Z.rs) n ⟨[(1,.ref 1 []),(3,.dat (.int .i64) x3)],[(1,.dat tState m1)]⟩
def z0Z.l9 (k:Nat) (n:Nat) (x4:Ty.D (.int .i64)) (m1:Ty.D tState):Option (Sg.Out z0Z.sg):=loopAt (z0Z.cx k) z0Z.body [1,1,1,0,1,0] 9 [1,4] [1] [] (Sg.K z0Z.sg (z0Z.cx k) z0Z.rs) n ⟨[(1,.ref 1 []),(4,.dat (.int .i64) x4)],[(1,.dat tState m1)]⟩
theorem z0Z.f_eq (k:Nat) (a0:Ty.D tState):z0Z.f k a0=br (ilt 20 (ilen a0.1)) (some false) (br (ilt 100 (ilen a0.2.1)) (some false) (br (ilt 100 (ilen a0.2.2.1.2)) (some false) (br (ilt 100 (ilen a0.2.2.2.1.2)) (some false) (z0Z.l4 k k 0 a0)))):=by kernel_rfl
theorem z0Z.l4_eq (k:Nat) (n4:Nat) (x3:Ty.D (.int .i64)) (m1:Ty.D tState):z0Z.l4 k (n4+1) x3 m1=br (ilt x3 (ilen m1.1)) (br (inL x3 m1.1) (bnd (z10.f k (rd tTxn m1.1 (natOf x3))) fun r0=>br (bnot r0) (some false) (z0Z.l4 k n4 (iadd .i64 x3 1) m1)) none) (z0Z.l9 k k 0 m1):=by kernel_rfl
theorem z0Z.l9_eq (k:Nat) (n9:Nat) (x4:Ty.D (.int .i64)) (m1:Ty.D tState):z0Z.l9 k (n9+1) x4 m1=br (ilt x4 8) (br (inB x4 8) (br (ilt 40 (ilen (rd (.slc tDot) m1.2.2.2.2 (natOf x4)))) (some false) (z0Z.l9 k n9 (iadd .i64 x4 1) m1)) none) (some true):=by kernel_rfl
def z0Z.e (k:Nat):Entry:=Sg.entry z0Z.sg fun x=>z0Z.f k x
theorem z0Z.ok (k:Nat):CallOK Tryz.prog 46 (z0Z.e k):=fn_ok (c:=z0Z.cx k) (code:=z0Z.body) (TT.of tt_ok pp_ok mm_ok) (fns_ok ⟨(z10.ok k),trivial⟩) mixed Tryz.func46 (by kernel_rfl) (by kernel_rfl) (by kernel_rfl) (by kernel_rfl) (by kernel_rfl) (by kernel_rfl) (fun x=>by kernel_rfl)
def z0N.body:Go.Code:=Tryz.f10.body.getD .skip
def z0N.rs:List Go.ResultVar:=Tryz.f10.results.toList
def z0N.regs:List (Nat × RInfo):=[(0,⟨[1],[1],[0],[],0,[],[],[],[],[]⟩),(1,ri [2] [5,9,14])]
def z0N.cx (k:Nat):Cx:=⟨tt,pp,[(47,(z10.e k)),(37,(z0h.e k)),(46,(z0Z.e k))],z0N.regs,k,mm⟩
@[reducible] def z0N.sg:Sg:=⟨[.dat tRecord],[],.dat .bool,[]⟩
def z0N.f (k:Nat) (a0:Ty.D tRecord):Option (Sg.Out z0N.sg):=Sg.fn z0N.sg (z0N.cx k) z0N.body z0N.rs a0
theorem z0N.f_eq (k:Nat) (a0:Ty.D tRecord):z0N.f k a0=bnd (z10.f k a0.2.1) fun r0=>br r0 (bnd (z0h.f k a0.2.2.2.2.2.1) fun r1=>br r1 (bnd (z0Z.f k a0.2.2.2.2.2.2) fun r2=>some r2) (some false)) (some false):=by kernel_rfl
def z0N.e (k:Nat):Entry:=Sg.entry z0N.sg fun x=>z0N.f k x
theorem z0N.ok (k:Nat):CallOK Tryz.prog 10 (z0N.e k):=fn_ok (c:=z0N.cx k) (code:=z0N.body) (TT.of tt_ok pp_ok mm_ok) (fns_ok ⟨(z10.ok k),(z0h.ok k),(z0Z.ok k),trivial⟩) mixed Tryz.func10 (by kernel_rfl) (by kernel_rfl) (by kernel_rfl) (by kernel_rfl) (by kernel_rfl) (by kernel_rfl) (fun x=>by kernel_rfl)
def z2j.body:Go.Code:=Tryz.f62.body.getD .skip
def z2j.rs:List Go.ResultVar:=Tryz.f62.results.toList
def z2j.regs:List (Nat × RInfo):=[(0,ri [1] [1]),(1,rq [2] [] 7)]
def z2j.cx (k:Nat):Cx:=⟨tt,pp,[(60,packIntE)],z2j.regs,k,mm⟩
@[reducible] def z2j.sg:Sg:=⟨[.dat tDot],[],.dat .str,[]⟩
def z2j.f (k:Nat) (a0:Ty.D tDot):Option (Sg.Out z2j.sg):=Sg.fn z2j.sg (z2j.cx k) z2j.body z2j.rs a0
theorem z2j.f_eq (k:Nat) (a0:Ty.D tDot):z2j.f k a0=bnd (packI a0.1) fun r0=>bnd (packI a0.2) fun r1=>br (roomS r0 r1) (some (app r0 r1)) none:=by kernel_rfl
def z2j.e (k:Nat):Entry:=Sg.entry z2j.sg fun x=>z2j.f k x
theorem z2j.ok (k:Nat):CallOK Tryz.prog 62 (z2j.e k):=fn_ok (c:=z2j.cx k) (code:=z2j.body) (TT.of tt_ok pp_ok mm_ok) (fns_ok ⟨packint_ok,trivial⟩) mixed Tryz.func62 (by kernel_rfl) (by kernel_rfl) (by kernel_rfl) (by kernel_rfl) (by kernel_rfl) (by kernel_rfl) (fun x=>by kernel_rfl)
def z1Z.body:Go.Code:=Tryz.f158.body.getD .skip
def z1Z.rs:List Go.ResultVar:=Tryz.f158.results.toList
def z1Z.regs:List (Nat × RInfo):=[(0,ri [0] []),(1,ri [2] [])]
def z1Z.cx (k:Nat):Cx:=⟨tt,pp,[(60,packIntE)],z1Z.regs,k,mm⟩
@[reducible] def z1Z.sg:Sg:=⟨[.dat .str],[],.dat .str,[]⟩
def z1Z.f (k:Nat) (a0:Ty.D .str):Option (Sg.Out z1Z.sg):=Sg.fn z1Z.sg (z1Z.cx k) z1Z.body z1Z.rs a0
theorem z1Z.f_eq (k:Nat) (a0:Ty.D .str):z1Z.f k a0=bnd (packI (ilen a0)) fun r0=>br (roomS r0 a0) (some (app r0 a0)) none:=by kernel_rfl
def z1Z.e (k:Nat):Entry:=Sg.entry z1Z.sg fun x=>z1Z.f k x
theorem z1Z.ok (k:Nat):CallOK Tryz.prog 158 (z1Z.e k):=fn_ok (c:=z1Z.cx k) (code:=z1Z.body) (TT.of tt_ok pp_ok mm_ok) (fns_ok ⟨packint_ok,trivial⟩) mixed Tryz.func158 (by kernel_rfl) (by kernel_rfl) (by kernel_rfl) (by kernel_rfl) (by kernel_rfl) (by kernel_rfl) (fun x=>by kernel_rfl)
def z27.body:Go.Code:=Tryz.f194.body.getD .skip
def z27.rs:List Go.ResultVar:=Tryz.f194.results.toList
def z27.regs:List (Nat × RInfo):=[(0,ri [0] []),(1,ri [0,3] [8]),(2,ri [3,9,10,11] [8]),(3,⟨[3,9,10,11,12],[8],[],[],0,[3,9,10,11],[8],[],[],[]⟩),(4,ri [3,5,9,10,11] [8]),(5,ri [3,9,10,11] [8]),(6,ri [3,9,10,11] [8]),(7,ri [2] [8])]
def z27.cx (k:Nat):Cx:=⟨tt,pp,[(60,packIntE),(158,(z1Z.e k))],z27.regs,k,mm⟩
@[reducible] def z27.sg:Sg:=⟨[.dat (.slc .str)],[],.dat .str,[]⟩
def z27.f (k:Nat) (a0:Ty.D (.slc .str)):Option (Sg.Out z27.sg):=Sg.fn z27.sg (z27.cx k) z27.body z27.rs a0
def z27.l3 (k:Nat) (n:Nat) (x3:Ty.D .str) (x9:Ty.D (.slc .str)) (x10:Ty.D (.int .i64)) (x11:Ty.D (.int .i64)):Option (Sg.Out z27.sg):=loopAt (z27.cx k) z27.body [1,1,0,1,0] 3 [3,9,10,11] [8] [] (Sg.K z27.sg (z27.cx k) z27.rs) n ⟨[(3,.dat .str x3),(9,.dat (.slc .str) x9),(10,.dat (.int .i64) x10),(11,.dat (.int .i64) x11)],[]⟩
theorem z27.f_eq (k:Nat) (a0:Ty.D (.slc .str)):z27.f k a0=bnd (packI (ilen a0)) fun r0=>z27.l3 k k r0 a0 (ilen a0) 0:=by kernel_rfl
theorem z27.l3_eq (k:Nat) (n3:Nat) (x3:Ty.D .str) (x9:Ty.D (.slc .str)) (x10:Ty.D (.int .i64)) (x11:Ty.D (.int .i64)):z27.l3 k (n3+1) x3 x9 x10 x11=br (ilt x11 x10) (br (inL x11 x9) (bnd (z1Z.f k (rd .str x9 (natOf x11))) fun r0=>br (roomS x3 r0) (z27.l3 k n3 (app x3 r0) x9 x10 (iadd .i64 x11 1)) none) none) (some x3):=by kernel_rfl
def z27.e (k:Nat):Entry:=Sg.entry z27.sg fun x=>z27.f k x
theorem z27.ok (k:Nat):CallOK Tryz.prog 194 (z27.e k):=fn_ok (c:=z27.cx k) (code:=z27.body) (TT.of tt_ok pp_ok mm_ok) (fns_ok ⟨packint_ok,(z1Z.ok k),trivial⟩) mixed Tryz.func194 (by kernel_rfl) (by kernel_rfl) (by kernel_rfl) (by kernel_rfl) (by kernel_rfl) (by kernel_rfl) (fun x=>by kernel_rfl)
def z1L.body:Go.Code:=Tryz.f195.body.getD .skip
def z1L.rs:List Go.ResultVar:=Tryz.f195.results.toList
def z1L.regs:List (Nat × RInfo):=[(0,ri [0] []),(1,ri [0,4] []),(2,ri [2] []),(3,ri [2] [])]
def z1L.cx (k:Nat):Cx:=⟨tt,pp,[],z1L.regs,k,mm⟩
@[reducible] def z1L.sg:Sg:=⟨[.dat (.int .i64)],[],.dat (.int .i64),[]⟩
def z1L.f (k:Nat) (a0:Ty.D (.int .i64)):Option (Sg.Out z1L.sg):=Sg.fn z1L.sg (z1L.cx k) z1L.body z1L.rs a0
theorem z1L.f_eq (k:Nat) (a0:Ty.D (.int .i64)):z1L.f k a0=br (ilt a0 0) (some (isub .i64 (imul .i64 (-2) a0) 1)) (some (imul .i64 2 a0)):=by kernel_rfl
def z1L.e (k:Nat):Entry:=Sg.entry z1L.sg fun x=>z1L.f k x
theorem z1L.ok (k:Nat):CallOK Tryz.prog 195 (z1L.e k):=fn_ok (c:=z1L.cx k) (code:=z1L.body) (TT.of tt_ok pp_ok mm_ok) (fns_ok trivial) mixed Tryz.func195 (by kernel_rfl) (by kernel_rfl) (by kernel_rfl) (by kernel_rfl) (by kernel_rfl) (by kernel_rfl) (fun x=>by kernel_rfl)
def z1p.body:Go.Code:=Tryz.f196.body.getD .skip
def z1p.rs:List Go.ResultVar:=Tryz.f196.results.toList
def z1p.regs:List (Nat × RInfo):=[(0,ri [1] [1]),(1,ri [1,5] [1]),(2,rq [2] [] 7),(3,rq [2] [] 8)]
def z1p.cx (k:Nat):Cx:=⟨tt,pp,[(60,packIntE),(158,(z1Z.e k)),(195,(z1L.e k))],z1p.regs,k,mm⟩
@[reducible] def z1p.sg:Sg:=⟨[.dat tValue],[],.dat .str,[]⟩
def z1p.f (k:Nat) (a0:Ty.D tValue):Option (Sg.Out z1p.sg):=Sg.fn z1p.sg (z1p.cx k) z1p.body z1p.rs a0
theorem z1p.f_eq (k:Nat) (a0:Ty.D tValue):z1p.f k a0=br (ieq a0.1 2) (bnd (packI a0.1) fun r0=>bnd (z1Z.f k a0.2.2) fun r1=>br (roomS r0 r1) (some (app r0 r1)) none) (bnd (packI a0.1) fun r2=>bnd (z1L.f k a0.2.1) fun r3=>bnd (packI r3) fun r4=>br (roomS r2 r4) (some (app r2 r4)) none):=by kernel_rfl
def z1p.e (k:Nat):Entry:=Sg.entry z1p.sg fun x=>z1p.f k x
theorem z1p.ok (k:Nat):CallOK Tryz.prog 196 (z1p.e k):=fn_ok (c:=z1p.cx k) (code:=z1p.body) (TT.of tt_ok pp_ok mm_ok) (fns_ok ⟨packint_ok,(z1Z.ok k),(z1L.ok k),trivial⟩) mixed Tryz.func196 (by kernel_rfl) (by kernel_rfl) (by kernel_rfl) (by kernel_rfl) (by kernel_rfl) (by kernel_rfl) (fun x=>by kernel_rfl)
def z2u.body:Go.Code:=Tryz.f144.body.getD .skip
def z2u.rs:List Go.ResultVar:=Tryz.f144.results.toList
def z2u.regs:List (Nat × RInfo):=[(0,⟨[1],[1],[0],[],0,[],[],[],[],[]⟩),(1,ri [1,3] [1,8]),(2,ri [1,3,10] [1,8,10]),(3,ri [2] [8]),(4,ri [1,3] [1,8]),(5,ri [1,3,18] [1,8]),(6,ri [1,3,18,19] [1,8]),(7,ri [2] [8]),(8,ri [1,3,18,27] [1,8]),(9,ri [1,3,18,27] [1,8]),(10,ri [1,3,27] [1,8]),(11,ri [1,3] [1,8]),(12,ri [1,3,38] [1,8]),(13,ri [2] [8]),(14,ri [1,3] [1,8]),(15,ri [3,47,48,49] [8]),(16,⟨[3,47,48,49,50],[8],[],[],0,[3,47,48,49],[8],[],[],[]⟩),(17,ri [3,5,47,48,49] [5,8]),(18,rq [3,47,48,49] [8] 9),(19,ri [3,47,48,49] [8]),(20,ri [2] [8])]
def z2u.cx (k:Nat):Cx:=⟨tt,pp,[(60,packIntE),(120,(z2t.e k)),(194,(z27.e k)),(195,(z1L.e k)),(196,(z1p.e k)),(62,(z2j.e k))],z2u.regs,k,mm⟩
@[reducible] def z2u.sg:Sg:=⟨[.dat tOp],[],.dat .str,[]⟩
def z2u.f (k:Nat) (a0:Ty.D tOp):Option (Sg.Out z2u.sg):=Sg.fn z2u.sg (z2u.cx k) z2u.body z2u.rs a0
def z2u.l16 (k:Nat) (n:Nat) (x3:Ty.D .str) (x47:Ty.D (.slc tUndo)) (x48:Ty.D (.int .i64)) (x49:Ty.D (.int .i64)):Option (Sg.Out z2u.sg):=loopAt (z2u.cx k) z2u.body [1,1,1,1,1,1,1,0,1,0] 16 [3,47,48,49] [8] [] (Sg.K z2u.sg (z2u.cx k) z2u.rs) n ⟨[(3,.dat .str x3),(47,.dat (.slc tUndo) x47),(48,.dat (.int .i64) x48),(49,.dat (.int .i64) x49)],[]⟩
theorem z2u.f_eq (k:Nat) (a0:Ty.D tOp):z2u.f k a0=bnd (packI a0.1) fun r0=>bnd (z2t.f k a0) fun r1=>br r1 (some r0) (bnd (z27.f k a0.2.1) fun r2=>br (roomS r0 r2) (br (ieq a0.1 3) (bnd (z1L.f k a0.2.2.2.1) fun r3=>bnd (packI r3) fun r4=>br (roomS (app r0 r2) r4) (some (app (app r0 r2) r4)) none) (br (ieq a0.1 1) (br (ieq a0.1 1) (bnd (z1p.f k a0.2.2.1) fun r5=>br (roomS (app r0 r2) r5) (br (ieq a0.1 2) (some (app (app r0 r2) r5)) (bnd (packI (ilen a0.2.2.2.2)) fun r6=>br (roomS (app (app r0 r2) r5) r6) (z2u.l16 k k (app (app (app r0 r2) r5) r6) a0.2.2.2.2 (ilen a0.2.2.2.2) 0) none)) none) (br (ieq a0.1 2) (some (app r0 r2)) (bnd (packI (ilen a0.2.2.2.2)) fun r7=>br (roomS (app r0 r2) r7) (z2u.l16 k k (app (app r0 r2) r7) a0.2.2.2.2 (ilen a0.2.2.2.2) 0) none))) (br (ieq a0.1 2) (br (ieq a0.1 2) (bnd (z1p.f k a0.2.2.1) fun r8=>br (roomS (app r0 r2) r8) (br (ieq a0.1 2) (some (app (app r0 r2) r8)) (bnd (packI (ilen a0.2.2.2.2)) fun r9=>br (roomS (app (app r0 r2) r8) r9) (z2u.l16 k k (app (app (app r0 r2) r8) r9) a0.2.2.2.2 (ilen a0.2.2.2.2) 0) none)) none) (br (ieq a0.1 2) (some (app r0 r2)) (bnd (packI (ilen a0.2.2.2.2)) fun r10=>br (roomS (app r0 r2) r10) (z2u.l16 k k (app (app r0 r2) r10) a0.2.2.2.2 (ilen a0.2.2.2.2) 0) none))) (br (ieq a0.1 4) (bnd (z1p.f k a0.2.2.1) fun r11=>br (roomS (app r0 r2) r11) (br (ieq a0.1 2) (some (app (app r0 r2) r11)) (bnd (packI (ilen a0.2.2.2.2)) fun r12=>br (roomS (app (app r0 r2) r11) r12) (z2u.l16 k k (app (app (app r0 r2) r11) r12) a0.2.2.2.2 (ilen a0.2.2.2.2) 0) none)) none) (br (ieq a0.1 2) (some (app r0 r2)) (bnd (packI (ilen a0.2.2.2.2)) fun r13=>br (roomS (app r0 r2) r13) (z2u.l16 k k (app (app r0 r2) r13) a0.2.2.2.2 (ilen a0.2.2.2.2) 0) none)))))) none):=by kernel_rfl
theorem z2u.l16_eq (k:Nat) (n16:Nat) (x3:Ty.D .str) (x47:Ty.D (.slc tUndo)) (x48:Ty.D (.int .i64)) (x49:Ty.D (.int .i64)):z2u.l16 k (n16+1) x3 x47 x48 x49=br (ilt x49 x48) (br (inL x49 x47) (bnd (z2j.f k ((rd tUndo x47 (natOf x49)).1)) fun r0=>bnd (packI ((rd tUndo x47 (natOf x49)).2)) fun r1=>br (roomS r0 r1) (br (roomS x3 (app r0 r1)) (z2u.l16 k n16 (app x3 (app r0 r1)) x47 x48 (iadd .i64 x49 1)) none) none) none) (some x3):=by kernel_rfl
def z2u.e (k:Nat):Entry:=Sg.entry z2u.sg fun x=>z2u.f k x
theorem z2u.ok (k:Nat):CallOK Tryz.prog 144 (z2u.e k):=fn_ok (c:=z2u.cx k) (code:=z2u.body) (TT.of tt_ok pp_ok mm_ok) (fns_ok ⟨packint_ok,(z2t.ok k),(z27.ok k),(z1L.ok k),(z1p.ok k),(z2j.ok k),trivial⟩) mixed Tryz.func144 (by kernel_rfl) (by kernel_rfl) (by kernel_rfl) (by kernel_rfl) (by kernel_rfl) (by kernel_rfl) (fun x=>by kernel_rfl)
def z2m.body:Go.Code:=Tryz.f61.body.getD .skip
def z2m.rs:List Go.ResultVar:=Tryz.f61.results.toList
def z2m.regs:List (Nat × RInfo):=[(0,⟨[1],[1],[0],[],0,[],[],[],[],[]⟩),(1,ri [1,3] [1]),(2,ri [1,3,8] [1]),(3,ri [1,3] [1]),(4,rq [1,4] [1] 19),(5,ri [4,29,30,31] []),(6,⟨[4,29,30,31,32],[],[],[],0,[4,29,30,31],[],[],[],[]⟩),(7,⟨[4,6,29,30,31],[6],[3],[],0,[],[],[],[],[]⟩),(8,ri [4,29,30,31] []),(9,ri [4,29,30,31] []),(10,ri [2] [])]
def z2m.cx (k:Nat):Cx:=⟨tt,pp,[(62,(z2j.e k)),(60,packIntE),(144,(z2u.e k))],z2m.regs,k,mm⟩
@[reducible] def z2m.sg:Sg:=⟨[.dat tTxn],[],.dat .str,[]⟩
def z2m.f (k:Nat) (a0:Ty.D tTxn):Option (Sg.Out z2m.sg):=Sg.fn z2m.sg (z2m.cx k) z2m.body z2m.rs a0
def z2m.l6 (k:Nat) (n:Nat) (x4:Ty.D .str) (x29:Ty.D (.slc tOp)) (x30:Ty.D (.int .i64)) (x31:Ty.D (.int .i64)):Option (Sg.Out z2m.sg):=loopAt (z2m.cx k) z2m.body [1,1,1,1,0,1,0] 6 [4,29,30,31] [] [] (Sg.K z2m.sg (z2m.cx k) z2m.rs) n ⟨[(4,.dat .str x4),(29,.dat (.slc tOp) x29),(30,.dat (.int .i64) x30),(31,.dat (.int .i64) x31)],[]⟩
theorem z2m.f_eq (k:Nat) (a0:Ty.D tTxn):z2m.f k a0=br a0.2.2.2.1 (bnd (z2j.f k a0.1) fun r0=>bnd (packI a0.2.1) fun r1=>br (roomS r0 r1) (bnd (packI a0.2.2.1) fun r2=>br (roomS (app r0 r1) r2) (bnd (packI 1) fun r3=>br (roomS (app (app r0 r1) r2) r3) (bnd (packI (ilen a0.2.2.2.2)) fun r4=>br (roomS (app (app (app r0 r1) r2) r3) r4) (z2m.l6 k k (app (app (app (app r0 r1) r2) r3) r4) a0.2.2.2.2 (ilen a0.2.2.2.2) 0) none) none) none) none) (bnd (z2j.f k a0.1) fun r5=>bnd (packI a0.2.1) fun r6=>br (roomS r5 r6) (bnd (packI a0.2.2.1) fun r7=>br (roomS (app r5 r6) r7) (bnd (packI 0) fun r8=>br (roomS (app (app r5 r6) r7) r8) (bnd (packI (ilen a0.2.2.2.2)) fun r9=>br (roomS (app (app (app r5 r6) r7) r8) r9) (z2m.l6 k k (app (app (app (app r5 r6) r7) r8) r9) a0.2.2.2.2 (ilen a0.2.2.2.2) 0) none) none) none) none):=by kernel_rfl
theorem z2m.l6_eq (k:Nat) (n6:Nat) (x4:Ty.D .str) (x29:Ty.D (.slc tOp)) (x30:Ty.D (.int .i64)) (x31:Ty.D (.int .i64)):z2m.l6 k (n6+1) x4 x29 x30 x31=br (ilt x31 x30) (br (inL x31 x29) (bnd (z2u.f k (rd tOp x29 (natOf x31))) fun r0=>br (roomS x4 r0) (z2m.l6 k n6 (app x4 r0) x29 x30 (iadd .i64 x31 1)) none) none) (some x4):=by kernel_rfl
def z2m.e (k:Nat):Entry:=Sg.entry z2m.sg fun x=>z2m.f k x
theorem z2m.ok (k:Nat):CallOK Tryz.prog 61 (z2m.e k):=fn_ok (c:=z2m.cx k) (code:=z2m.body) (TT.of tt_ok pp_ok mm_ok) (fns_ok ⟨(z2j.ok k),packint_ok,(z2u.ok k),trivial⟩) mixed Tryz.func61 (by kernel_rfl) (by kernel_rfl) (by kernel_rfl) (by kernel_rfl) (by kernel_rfl) (by kernel_rfl) (fun x=>by kernel_rfl)
def z2g.body:Go.Code:=Tryz.f99.body.getD .skip
def z2g.rs:List Go.ResultVar:=Tryz.f99.results.toList
def z2g.regs:List (Nat × RInfo):=[(0,ri [0] []),(1,ri [0,3] [8]),(2,ri [3,9,10,11] [8]),(3,⟨[3,9,10,11,12],[8],[],[],0,[3,9,10,11],[8],[],[],[]⟩),(4,⟨[3,5,9,10,11],[5,8],[3],[],0,[],[],[],[],[]⟩),(5,ri [3,9,10,11] [8]),(6,ri [3,9,10,11] [8]),(7,ri [2] [8])]
def z2g.cx (k:Nat):Cx:=⟨tt,pp,[(60,packIntE),(61,(z2m.e k))],z2g.regs,k,mm⟩
@[reducible] def z2g.sg:Sg:=⟨[.dat (.slc tTxn)],[],.dat .str,[]⟩
def z2g.f (k:Nat) (a0:Ty.D (.slc tTxn)):Option (Sg.Out z2g.sg):=Sg.fn z2g.sg (z2g.cx k) z2g.body z2g.rs a0
def z2g.l3 (k:Nat) (n:Nat) (x3:Ty.D .str) (x9:Ty.D (.slc tTxn)) (x10:Ty.D (.int .i64)) (x11:Ty.D (.int .i64)):Option (Sg.Out z2g.sg):=loopAt (z2g.cx k) z2g.body [1,1,0,1,0] 3 [3,9,10,11] [8] [] (Sg.K z2g.sg (z2g.cx k) z2g.rs) n ⟨[(3,.dat .str x3),(9,.dat (.slc tTxn) x9),(10,.dat (.int .i64) x10),(11,.dat (.int .i64) x11)],[]⟩
theorem z2g.f_eq (k:Nat) (a0:Ty.D (.slc tTxn)):z2g.f k a0=bnd (packI (ilen a0)) fun r0=>z2g.l3 k k r0 a0 (ilen a0) 0:=by kernel_rfl
theorem z2g.l3_eq (k:Nat) (n3:Nat) (x3:Ty.D .str) (x9:Ty.D (.slc tTxn)) (x10:Ty.D (.int .i64)) (x11:Ty.D (.int .i64)):z2g.l3 k (n3+1) x3 x9 x10 x11=br (ilt x11 x10) (br (inL x11 x9) (bnd (z2m.f k (rd tTxn x9 (natOf x11))) fun r0=>br (roomS x3 r0) (z2g.l3 k n3 (app x3 r0) x9 x10 (iadd .i64 x11 1)) none) none) (some x3):=by kernel_rfl
def z2g.e (k:Nat):Entry:=Sg.entry z2g.sg fun x=>z2g.f k x
theorem z2g.ok (k:Nat):CallOK Tryz.prog 99 (z2g.e k):=fn_ok (c:=z2g.cx k) (code:=z2g.body) (TT.of tt_ok pp_ok mm_ok) (fns_ok ⟨packint_ok,(z2m.ok k),trivial⟩) mixed Tryz.func99 (by kernel_rfl) (by kernel_rfl) (by kernel_rfl) (by kernel_rfl) (by kernel_rfl) (by kernel_rfl) (fun x=>by kernel_rfl)
def z1d.body:Go.Code:=Tryz.f100.body.getD .skip
def z1d.rs:List Go.ResultVar:=Tryz.f100.results.toList
def z1d.regs:List (Nat × RInfo):=[(0,ri [0] []),(1,ri [0,3] [8]),(2,ri [3,9,10,11] [8]),(3,⟨[3,9,10,11,12],[8],[],[],0,[3,9,10,11],[8],[],[],[]⟩),(4,ri [3,5,9,10,11] [5,8]),(5,rq [3,9,10,11] [8] 9),(6,ri [3,9,10,11] [8]),(7,ri [2] [8])]
def z1d.cx (k:Nat):Cx:=⟨tt,pp,[(60,packIntE),(62,(z2j.e k))],z1d.regs,k,mm⟩
@[reducible] def z1d.sg:Sg:=⟨[.dat (.slc tUndo)],[],.dat .str,[]⟩
def z1d.f (k:Nat) (a0:Ty.D (.slc tUndo)):Option (Sg.Out z1d.sg):=Sg.fn z1d.sg (z1d.cx k) z1d.body z1d.rs a0
def z1d.l3 (k:Nat) (n:Nat) (x3:Ty.D .str) (x9:Ty.D (.slc tUndo)) (x10:Ty.D (.int .i64)) (x11:Ty.D (.int .i64)):Option (Sg.Out z1d.sg):=loopAt (z1d.cx k) z1d.body [1,1,0,1,0] 3 [3,9,10,11] [8] [] (Sg.K z1d.sg (z1d.cx k) z1d.rs) n ⟨[(3,.dat .str x3),(9,.dat (.slc tUndo) x9),(10,.dat (.int .i64) x10),(11,.dat (.int .i64) x11)],[]⟩
theorem z1d.f_eq (k:Nat) (a0:Ty.D (.slc tUndo)):z1d.f k a0=bnd (packI (ilen a0)) fun r0=>z1d.l3 k k r0 a0 (ilen a0) 0:=by kernel_rfl
theorem z1d.l3_eq (k:Nat) (n3:Nat) (x3:Ty.D .str) (x9:Ty.D (.slc tUndo)) (x10:Ty.D (.int .i64)) (x11:Ty.D (.int .i64)):z1d.l3 k (n3+1) x3 x9 x10 x11=br (ilt x11 x10) (br (inL x11 x9) (bnd (z2j.f k ((rd tUndo x9 (natOf x11)).1)) fun r0=>bnd (packI ((rd tUndo x9 (natOf x11)).2)) fun r1=>br (roomS r0 r1) (br (roomS x3 (app r0 r1)) (z1d.l3 k n3 (app x3 (app r0 r1)) x9 x10 (iadd .i64 x11 1)) none) none) none) (some x3):=by kernel_rfl
def z1d.e (k:Nat):Entry:=Sg.entry z1d.sg fun x=>z1d.f k x
theorem z1d.ok (k:Nat):CallOK Tryz.prog 100 (z1d.e k):=fn_ok (c:=z1d.cx k) (code:=z1d.body) (TT.of tt_ok pp_ok mm_ok) (fns_ok ⟨packint_ok,(z2j.ok k),trivial⟩) mixed Tryz.func100 (by kernel_rfl) (by kernel_rfl) (by kernel_rfl) (by kernel_rfl) (by kernel_rfl) (by kernel_rfl) (fun x=>by kernel_rfl)
def z2d.body:Go.Code:=Tryz.f101.body.getD .skip
def z2d.rs:List Go.ResultVar:=Tryz.f101.results.toList
def z2d.regs:List (Nat × RInfo):=[(0,ri [0] []),(1,ri [0,3] [8]),(2,ri [3,9,10,11] [8]),(3,⟨[3,9,10,11,12],[8],[],[],0,[3,9,10,11],[8],[],[],[]⟩),(4,ri [3,5,9,10,11] [5,8]),(5,ri [3,9,10,11] [8]),(6,ri [3,9,10,11] [8]),(7,ri [2] [8])]
def z2d.cx (k:Nat):Cx:=⟨tt,pp,[(60,packIntE),(62,(z2j.e k))],z2d.regs,k,mm⟩
@[reducible] def z2d.sg:Sg:=⟨[.dat (.slc tDot)],[],.dat .str,[]⟩
def z2d.f (k:Nat) (a0:Ty.D (.slc tDot)):Option (Sg.Out z2d.sg):=Sg.fn z2d.sg (z2d.cx k) z2d.body z2d.rs a0
def z2d.l3 (k:Nat) (n:Nat) (x3:Ty.D .str) (x9:Ty.D (.slc tDot)) (x10:Ty.D (.int .i64)) (x11:Ty.D (.int .i64)):Option (Sg.Out z2d.sg):=loopAt (z2d.cx k) z2d.body [1,1,0,1,0] 3 [3,9,10,11] [8] [] (Sg.K z2d.sg (z2d.cx k) z2d.rs) n ⟨[(3,.dat .str x3),(9,.dat (.slc tDot) x9),(10,.dat (.int .i64) x10),(11,.dat (.int .i64) x11)],[]⟩
theorem z2d.f_eq (k:Nat) (a0:Ty.D (.slc tDot)):z2d.f k a0=bnd (packI (ilen a0)) fun r0=>z2d.l3 k k r0 a0 (ilen a0) 0:=by kernel_rfl
theorem z2d.l3_eq (k:Nat) (n3:Nat) (x3:Ty.D .str) (x9:Ty.D (.slc tDot)) (x10:Ty.D (.int .i64)) (x11:Ty.D (.int .i64)):z2d.l3 k (n3+1) x3 x9 x10 x11=br (ilt x11 x10) (br (inL x11 x9) (bnd (z2j.f k (rd tDot x9 (natOf x11))) fun r0=>br (roomS x3 r0) (z2d.l3 k n3 (app x3 r0) x9 x10 (iadd .i64 x11 1)) none) none) (some x3):=by kernel_rfl
def z2d.e (k:Nat):Entry:=Sg.entry z2d.sg fun x=>z2d.f k x
theorem z2d.ok (k:Nat):CallOK Tryz.prog 101 (z2d.e k):=fn_ok (c:=z2d.cx k) (code:=z2d.body) (TT.of tt_ok pp_ok mm_ok) (fns_ok ⟨packint_ok,(z2j.ok k),trivial⟩) mixed Tryz.func101 (by kernel_rfl) (by kernel_rfl) (by kernel_rfl) (by kernel_rfl) (by kernel_rfl) (by kernel_rfl) (fun x=>by kernel_rfl)
def z0s.body:Go.Code:=Tryz.f39.body.getD .skip
def z0s.rs:List Go.ResultVar:=Tryz.f39.results.toList
def z0s.regs:List (Nat × RInfo):=[(0,⟨[1],[1],[0],[],0,[],[],[],[],[]⟩),(1,rq [2] [] 11)]
def z0s.cx (k:Nat):Cx:=⟨tt,pp,[(99,(z2g.e k)),(100,(z1d.e k)),(101,(z2d.e k))],z0s.regs,k,mm⟩
@[reducible] def z0s.sg:Sg:=⟨[.dat tDelta],[],.dat .str,[]⟩
def z0s.f (k:Nat) (a0:Ty.D tDelta):Option (Sg.Out z0s.sg):=Sg.fn z0s.sg (z0s.cx k) z0s.body z0s.rs a0
theorem z0s.f_eq (k:Nat) (a0:Ty.D tDelta):z0s.f k a0=bnd (z2g.f k a0.1) fun r0=>bnd (z1d.f k a0.2.1) fun r1=>br (roomS r0 r1) (bnd (z2d.f k a0.2.2) fun r2=>br (roomS (app r0 r1) r2) (some (app (app r0 r1) r2)) none) none:=by kernel_rfl
def z0s.e (k:Nat):Entry:=Sg.entry z0s.sg fun x=>z0s.f k x
theorem z0s.ok (k:Nat):CallOK Tryz.prog 39 (z0s.e k):=fn_ok (c:=z0s.cx k) (code:=z0s.body) (TT.of tt_ok pp_ok mm_ok) (fns_ok ⟨(z2g.ok k),(z1d.ok k),(z2d.ok k),trivial⟩) mixed Tryz.func39 (by kernel_rfl) (by kernel_rfl) (by kernel_rfl) (by kernel_rfl) (by kernel_rfl) (by kernel_rfl) (fun x=>by kernel_rfl)
def z2p.body:Go.Code:=Tryz.f197.body.getD .skip
def z2p.rs:List Go.ResultVar:=Tryz.f197.results.toList
def z2p.regs:List (Nat × RInfo):=[(0,ri [1] [1]),(1,ri [1,3] [1]),(2,ri [3,6,7] []),(3,⟨[3,6,7,8],[],[],[],0,[3,6,7],[],[],[],[]⟩),(4,ri [3,5,6,7] []),(5,ri [3,6,7] []),(6,ri [3,6,7] []),(7,ri [2] [])]
def z2p.cx (k:Nat):Cx:=⟨tt,pp,[(60,packIntE)],z2p.regs,k,mm⟩
@[reducible] def z2p.sg:Sg:=⟨[.dat tVec],[],.dat .str,[]⟩
def z2p.f (k:Nat) (a0:Ty.D tVec):Option (Sg.Out z2p.sg):=Sg.fn z2p.sg (z2p.cx k) z2p.body z2p.rs a0
def z2p.l3 (k:Nat) (n:Nat) (x3:Ty.D .str) (x6:Ty.D tVec) (x7:Ty.D (.int .i64)):Option (Sg.Out z2p.sg):=loopAt (z2p.cx k) z2p.body [1,1,0,1,0] 3 [3,6,7] [] [] (Sg.K z2p.sg (z2p.cx k) z2p.rs) n ⟨[(3,.dat .str x3),(6,.dat tVec x6),(7,.dat (.int .i64) x7)],[]⟩
theorem z2p.f_eq (k:Nat) (a0:Ty.D tVec):z2p.f k a0=z2p.l3 k k [] a0 0:=by kernel_rfl
theorem z2p.l3_eq (k:Nat) (n3:Nat) (x3:Ty.D .str) (x6:Ty.D tVec) (x7:Ty.D (.int .i64)):z2p.l3 k (n3+1) x3 x6 x7=br (ilt x7 16) (br (inB x7 16) (bnd (packI (rd (.int .i64) x6 (natOf x7))) fun r0=>br (roomS x3 r0) (z2p.l3 k n3 (app x3 r0) x6 (iadd .i64 x7 1)) none) none) (some x3):=by kernel_rfl
def z2p.e (k:Nat):Entry:=Sg.entry z2p.sg fun x=>z2p.f k x
theorem z2p.ok (k:Nat):CallOK Tryz.prog 197 (z2p.e k):=fn_ok (c:=z2p.cx k) (code:=z2p.body) (TT.of tt_ok pp_ok mm_ok) (fns_ok ⟨packint_ok,trivial⟩) mixed Tryz.func197 (by kernel_rfl) (by kernel_rfl) (by kernel_rfl) (by kernel_rfl) (by kernel_rfl) (by kernel_rfl) (fun x=>by kernel_rfl)
def z1V.body:Go.Code:=Tryz.f145.body.getD .skip
def z1V.rs:List Go.ResultVar:=Tryz.f145.results.toList
def z1V.regs:List (Nat × RInfo):=[(0,⟨[1],[1],[0],[],0,[],[],[],[],[]⟩),(1,rq [2] [] 7)]
def z1V.cx (k:Nat):Cx:=⟨tt,pp,[(197,(z2p.e k)),(101,(z2d.e k))],z1V.regs,k,mm⟩
@[reducible] def z1V.sg:Sg:=⟨[.dat tDots],[],.dat .str,[]⟩
def z1V.f (k:Nat) (a0:Ty.D tDots):Option (Sg.Out z1V.sg):=Sg.fn z1V.sg (z1V.cx k) z1V.body z1V.rs a0
theorem z1V.f_eq (k:Nat) (a0:Ty.D tDots):z1V.f k a0=bnd (z2p.f k a0.1) fun r0=>bnd (z2d.f k a0.2) fun r1=>br (roomS r0 r1) (some (app r0 r1)) none:=by kernel_rfl
def z1V.e (k:Nat):Entry:=Sg.entry z1V.sg fun x=>z1V.f k x
theorem z1V.ok (k:Nat):CallOK Tryz.prog 145 (z1V.e k):=fn_ok (c:=z1V.cx k) (code:=z1V.body) (TT.of tt_ok pp_ok mm_ok) (fns_ok ⟨(z2p.ok k),(z2d.ok k),trivial⟩) mixed Tryz.func145 (by kernel_rfl) (by kernel_rfl) (by kernel_rfl) (by kernel_rfl) (by kernel_rfl) (by kernel_rfl) (fun x=>by kernel_rfl)
def z1u.body:Go.Code:=Tryz.f63.body.getD .skip
def z1u.rs:List Go.ResultVar:=Tryz.f63.results.toList
def z1u.regs:List (Nat × RInfo):=[(0,⟨[1],[1],[0],[],0,[],[],[],[],[]⟩),(1,rq [1,3] [1] 11),(2,ri [3,18,19] []),(3,⟨[3,18,19,20],[],[],[],0,[3,18,19],[],[],[],[]⟩),(4,⟨[3,5,18,19],[],[1],[],0,[],[],[],[],[]⟩),(5,ri [3,18,19] []),(6,ri [3,18,19] []),(7,ri [2] [])]
def z1u.cx (k:Nat):Cx:=⟨tt,pp,[(99,(z2g.e k)),(100,(z1d.e k)),(145,(z1V.e k)),(101,(z2d.e k))],z1u.regs,k,mm⟩
@[reducible] def z1u.sg:Sg:=⟨[.dat tState],[],.dat .str,[]⟩
def z1u.f (k:Nat) (a0:Ty.D tState):Option (Sg.Out z1u.sg):=Sg.fn z1u.sg (z1u.cx k) z1u.body z1u.rs a0
def z1u.l3 (k:Nat) (n:Nat) (x3:Ty.D .str) (x18:Ty.D (.arr 8 (.slc tDot))) (x19:Ty.D (.int .i64)):Option (Sg.Out z1u.sg):=loopAt (z1u.cx k) z1u.body [1,1,0,1,0] 3 [3,18,19] [] [] (Sg.K z1u.sg (z1u.cx k) z1u.rs) n ⟨[(3,.dat .str x3),(18,.dat (.arr 8 (.slc tDot)) x18),(19,.dat (.int .i64) x19)],[]⟩
theorem z1u.f_eq (k:Nat) (a0:Ty.D tState):z1u.f k a0=bnd (z2g.f k a0.1) fun r0=>bnd (z1d.f k a0.2.1) fun r1=>br (roomS r0 r1) (bnd (z1V.f k a0.2.2.2.1) fun r2=>br (roomS (app r0 r1) r2) (z1u.l3 k k (app (app r0 r1) r2) a0.2.2.2.2 0) none) none:=by kernel_rfl
theorem z1u.l3_eq (k:Nat) (n3:Nat) (x3:Ty.D .str) (x18:Ty.D (.arr 8 (.slc tDot))) (x19:Ty.D (.int .i64)):z1u.l3 k (n3+1) x3 x18 x19=br (ilt x19 8) (br (inB x19 8) (bnd (z2d.f k (rd (.slc tDot) x18 (natOf x19))) fun r0=>br (roomS x3 r0) (z1u.l3 k n3 (app x3 r0) x18 (iadd .i64 x19 1)) none) none) (some x3):=by kernel_rfl
def z1u.e (k:Nat):Entry:=Sg.entry z1u.sg fun x=>z1u.f k x
theorem z1u.ok (k:Nat):CallOK Tryz.prog 63 (z1u.e k):=fn_ok (c:=z1u.cx k) (code:=z1u.body) (TT.of tt_ok pp_ok mm_ok) (fns_ok ⟨(z2g.ok k),(z1d.ok k),(z1V.ok k),(z2d.ok k),trivial⟩) mixed Tryz.func63 (by kernel_rfl) (by kernel_rfl) (by kernel_rfl) (by kernel_rfl) (by kernel_rfl) (by kernel_rfl) (fun x=>by kernel_rfl)
def z0S.body:Go.Code:=Tryz.f15.body.getD .skip
def z0S.rs:List Go.ResultVar:=Tryz.f15.results.toList
def z0S.regs:List (Nat × RInfo):=[(0,⟨[1],[1],[0],[],0,[],[],[],[],[]⟩),(1,ri [1,3] [1,6]),(2,ri [1,3,8] [1,6]),(3,ri [1,3,8,9] [1,6]),(4,ri [2] []),(5,ri [1,3,8,16] [1,6]),(6,rq [2] [] 19),(7,ri [1,3,37] [1,6]),(8,ri [2] []),(9,ri [2] [])]
def z0S.cx (k:Nat):Cx:=⟨tt,pp,[(60,packIntE),(61,(z2m.e k)),(62,(z2j.e k)),(39,(z0s.e k)),(63,(z1u.e k))],z0S.regs,k,mm⟩
@[reducible] def z0S.sg:Sg:=⟨[.dat tRecord],[],.dat .str,[]⟩
def z0S.f (k:Nat) (a0:Ty.D tRecord):Option (Sg.Out z0S.sg):=Sg.fn z0S.sg (z0S.cx k) z0S.body z0S.rs a0
theorem z0S.f_eq (k:Nat) (a0:Ty.D tRecord):z0S.f k a0=bnd (packI a0.1) fun r0=>br (ieq a0.1 1) (bnd (z2m.f k a0.2.1) fun r1=>br (roomS r0 r1) (some (app r0 r1)) none) (br (ieq a0.1 2) (bnd (packI a0.2.2.1) fun r2=>br (roomS r0 r2) (bnd (z2j.f k a0.2.2.2.1.1) fun r3=>br (roomS (app r0 r2) r3) (bnd (packI a0.2.2.2.1.2) fun r4=>br (roomS (app (app r0 r2) r3) r4) (bnd (packI a0.2.2.2.2.1) fun r5=>br (roomS (app (app (app r0 r2) r3) r4) r5) (some (app (app (app (app r0 r2) r3) r4) r5)) none) none) none) none) (br (ieq a0.1 3) (bnd (z0s.f k a0.2.2.2.2.2.1) fun r6=>br (roomS r0 r6) (some (app r0 r6)) none) (bnd (z1u.f k a0.2.2.2.2.2.2) fun r7=>br (roomS r0 r7) (some (app r0 r7)) none))):=by kernel_rfl
def z0S.e (k:Nat):Entry:=Sg.entry z0S.sg fun x=>z0S.f k x
theorem z0S.ok (k:Nat):CallOK Tryz.prog 15 (z0S.e k):=fn_ok (c:=z0S.cx k) (code:=z0S.body) (TT.of tt_ok pp_ok mm_ok) (fns_ok ⟨packint_ok,(z2m.ok k),(z2j.ok k),(z0s.ok k),(z1u.ok k),trivial⟩) mixed Tryz.func15 (by kernel_rfl) (by kernel_rfl) (by kernel_rfl) (by kernel_rfl) (by kernel_rfl) (by kernel_rfl) (fun x=>by kernel_rfl)
@[reducible] def ref23_Bare.sg:Sg:=⟨[.dat tRecord],[],.dat tRecord,[]⟩
@[reducible] def law23_RecordBack.sg:Sg:=⟨[.dat tRecord],[],.dat .bool,[]⟩
def z1C.body:Go.Code:=Tryz.f66.body.getD .skip
def z1C.rs:List Go.ResultVar:=Tryz.f66.results.toList
def z1C.regs:List (Nat × RInfo):=[(0,ri [1] [1]),(1,rq [2] [] 7)]
def z1C.cx (k:Nat):Cx:=⟨tt,pp,[(64,packIntE)],z1C.regs,k,mm⟩
@[reducible] def z1C.sg:Sg:=⟨[.dat tDot],[],.dat .str,[]⟩
def z1C.f (k:Nat) (a0:Ty.D tDot):Option (Sg.Out z1C.sg):=Sg.fn z1C.sg (z1C.cx k) z1C.body z1C.rs a0
theorem z1C.f_eq (k:Nat) (a0:Ty.D tDot):z1C.f k a0=bnd (packI a0.1) fun r0=>bnd (packI a0.2) fun r1=>br (roomS r0 r1) (some (app r0 r1)) none:=by kernel_rfl
def z1C.e (k:Nat):Entry:=Sg.entry z1C.sg fun x=>z1C.f k x
theorem z1C.ok (k:Nat):CallOK Tryz.prog 66 (z1C.e k):=fn_ok (c:=z1C.cx k) (code:=z1C.body) (TT.of tt_ok pp_ok mm_ok) (fns_ok ⟨rpackint_ok,trivial⟩) mixed Tryz.func66 (by kernel_rfl) (by kernel_rfl) (by kernel_rfl) (by kernel_rfl) (by kernel_rfl) (by kernel_rfl) (fun x=>by kernel_rfl)
def z1r.body:Go.Code:=Tryz.f154.body.getD .skip
def z1r.rs:List Go.ResultVar:=Tryz.f154.results.toList
def z1r.regs:List (Nat × RInfo):=[(0,ri [0] []),(1,ri [2] [])]
def z1r.cx (k:Nat):Cx:=⟨tt,pp,[(64,packIntE)],z1r.regs,k,mm⟩
@[reducible] def z1r.sg:Sg:=⟨[.dat .str],[],.dat .str,[]⟩
def z1r.f (k:Nat) (a0:Ty.D .str):Option (Sg.Out z1r.sg):=Sg.fn z1r.sg (z1r.cx k) z1r.body z1r.rs a0
theorem z1r.f_eq (k:Nat) (a0:Ty.D .str):z1r.f k a0=bnd (packI (ilen a0)) fun r0=>br (roomS r0 a0) (some (app r0 a0)) none:=by kernel_rfl
def z1r.e (k:Nat):Entry:=Sg.entry z1r.sg fun x=>z1r.f k x
theorem z1r.ok (k:Nat):CallOK Tryz.prog 154 (z1r.e k):=fn_ok (c:=z1r.cx k) (code:=z1r.body) (TT.of tt_ok pp_ok mm_ok) (fns_ok ⟨rpackint_ok,trivial⟩) mixed Tryz.func154 (by kernel_rfl) (by kernel_rfl) (by kernel_rfl) (by kernel_rfl) (by kernel_rfl) (by kernel_rfl) (fun x=>by kernel_rfl)
def z1g.body:Go.Code:=Tryz.f198.body.getD .skip
def z1g.rs:List Go.ResultVar:=Tryz.f198.results.toList
def z1g.regs:List (Nat × RInfo):=[(0,ri [0] []),(1,ri [0,3] [7]),(2,ri [0,3,4] [7]),(3,⟨[0,3,4,11],[7],[],[],0,[0,3,4],[7],[],[],[]⟩),(5,ri [0,3,4] [7]),(4,ri [0,3,4] [7]),(6,ri [2] [7])]
def z1g.cx (k:Nat):Cx:=⟨tt,pp,[(64,packIntE),(154,(z1r.e k))],z1g.regs,k,mm⟩
@[reducible] def z1g.sg:Sg:=⟨[.dat (.slc .str)],[],.dat .str,[]⟩
def z1g.f (k:Nat) (a0:Ty.D (.slc .str)):Option (Sg.Out z1g.sg):=Sg.fn z1g.sg (z1g.cx k) z1g.body z1g.rs a0
def z1g.l3 (k:Nat) (n:Nat) (x0:Ty.D (.slc .str)) (x3:Ty.D .str) (x4:Ty.D (.int .i64)):Option (Sg.Out z1g.sg):=loopAt (z1g.cx k) z1g.body [1,1,0,1,0] 3 [0,3,4] [7] [] (Sg.K z1g.sg (z1g.cx k) z1g.rs) n ⟨[(0,.dat (.slc .str) x0),(3,.dat .str x3),(4,.dat (.int .i64) x4)],[]⟩
theorem z1g.f_eq (k:Nat) (a0:Ty.D (.slc .str)):z1g.f k a0=bnd (packI (ilen a0)) fun r0=>z1g.l3 k k a0 r0 0:=by kernel_rfl
theorem z1g.l3_eq (k:Nat) (n3:Nat) (x0:Ty.D (.slc .str)) (x3:Ty.D .str) (x4:Ty.D (.int .i64)):z1g.l3 k (n3+1) x0 x3 x4=br (ilt x4 (ilen x0)) (br (inL x4 x0) (bnd (z1r.f k (rd .str x0 (natOf x4))) fun r0=>br (roomS x3 r0) (z1g.l3 k n3 x0 (app x3 r0) (iadd .i64 x4 1)) none) none) (some x3):=by kernel_rfl
def z1g.e (k:Nat):Entry:=Sg.entry z1g.sg fun x=>z1g.f k x
theorem z1g.ok (k:Nat):CallOK Tryz.prog 198 (z1g.e k):=fn_ok (c:=z1g.cx k) (code:=z1g.body) (TT.of tt_ok pp_ok mm_ok) (fns_ok ⟨rpackint_ok,(z1r.ok k),trivial⟩) mixed Tryz.func198 (by kernel_rfl) (by kernel_rfl) (by kernel_rfl) (by kernel_rfl) (by kernel_rfl) (by kernel_rfl) (fun x=>by kernel_rfl)
def z1E.body:Go.Code:=Tryz.f199.body.getD .skip
def z1E.rs:List Go.ResultVar:=Tryz.f199.results.toList
def z1E.regs:List (Nat × RInfo):=[(0,ri [0] []),(1,ri [0,4] []),(2,ri [2] []),(3,ri [2] [])]
def z1E.cx (k:Nat):Cx:=⟨tt,pp,[],z1E.regs,k,mm⟩
@[reducible] def z1E.sg:Sg:=⟨[.dat (.int .i64)],[],.dat (.int .i64),[]⟩
def z1E.f (k:Nat) (a0:Ty.D (.int .i64)):Option (Sg.Out z1E.sg):=Sg.fn z1E.sg (z1E.cx k) z1E.body z1E.rs a0
theorem z1E.f_eq (k:Nat) (a0:Ty.D (.int .i64)):z1E.f k a0=br (ilt a0 0) (some (isub .i64 (isub .i64 (isub .i64 0 a0) a0) 1)) (some (iadd .i64 a0 a0)):=by kernel_rfl
def z1E.e (k:Nat):Entry:=Sg.entry z1E.sg fun x=>z1E.f k x
theorem z1E.ok (k:Nat):CallOK Tryz.prog 199 (z1E.e k):=fn_ok (c:=z1E.cx k) (code:=z1E.body) (TT.of tt_ok pp_ok mm_ok) (fns_ok trivial) mixed Tryz.func199 (by kernel_rfl) (by kernel_rfl) (by kernel_rfl) (by kernel_rfl) (by kernel_rfl) (by kernel_rfl) (fun x=>by kernel_rfl)
def z1l.body:Go.Code:=Tryz.f200.body.getD .skip
def z1l.rs:List Go.ResultVar:=Tryz.f200.results.toList
def z1l.regs:List (Nat × RInfo):=[(0,ri [1] [1]),(1,ri [1,5] [1]),(2,rq [2] [] 5),(3,rq [2] [] 8)]
def z1l.cx (k:Nat):Cx:=⟨tt,pp,[(64,packIntE),(154,(z1r.e k)),(199,(z1E.e k))],z1l.regs,k,mm⟩
@[reducible] def z1l.sg:Sg:=⟨[.dat tValue],[],.dat .str,[]⟩
def z1l.f (k:Nat) (a0:Ty.D tValue):Option (Sg.Out z1l.sg):=Sg.fn z1l.sg (z1l.cx k) z1l.body z1l.rs a0
theorem z1l.f_eq (k:Nat) (a0:Ty.D tValue):z1l.f k a0=br (ieq a0.1 2) (bnd (packI 2) fun r0=>bnd (z1r.f k a0.2.2) fun r1=>br (roomS r0 r1) (some (app r0 r1)) none) (bnd (packI a0.1) fun r2=>bnd (z1E.f k a0.2.1) fun r3=>bnd (packI r3) fun r4=>br (roomS r2 r4) (some (app r2 r4)) none):=by kernel_rfl
def z1l.e (k:Nat):Entry:=Sg.entry z1l.sg fun x=>z1l.f k x
theorem z1l.ok (k:Nat):CallOK Tryz.prog 200 (z1l.e k):=fn_ok (c:=z1l.cx k) (code:=z1l.body) (TT.of tt_ok pp_ok mm_ok) (fns_ok ⟨rpackint_ok,(z1r.ok k),(z1E.ok k),trivial⟩) mixed Tryz.func200 (by kernel_rfl) (by kernel_rfl) (by kernel_rfl) (by kernel_rfl) (by kernel_rfl) (by kernel_rfl) (fun x=>by kernel_rfl)
def z17.body:Go.Code:=Tryz.f146.body.getD .skip
def z17.rs:List Go.ResultVar:=Tryz.f146.results.toList
def z17.regs:List (Nat × RInfo):=[(0,⟨[1],[1],[0],[],0,[],[],[],[],[]⟩),(1,ri [1,3] [1,7]),(2,ri [1,3,9] [1,7,9]),(3,ri [2] [7]),(4,ri [1,3] [1,7]),(5,ri [1,3,18] [1,7]),(6,ri [2] [7]),(7,ri [1,3,27] [1,7]),(8,ri [1,3] [1,7]),(9,ri [1,3,35] [1,7]),(10,ri [2] [7]),(11,ri [1,3] [1,7]),(12,ri [1,3,4] [1,7]),(13,⟨[1,3,4,47],[1,7],[],[],0,[1,3,4],[1,7],[],[],[]⟩),(15,rq [1,3,4] [1,7] 17),(14,ri [1,3,4] [1,7]),(16,ri [2] [7])]
def z17.cx (k:Nat):Cx:=⟨tt,pp,[(64,packIntE),(116,(z1t.e k)),(198,(z1g.e k)),(199,(z1E.e k)),(200,(z1l.e k)),(66,(z1C.e k))],z17.regs,k,mm⟩
@[reducible] def z17.sg:Sg:=⟨[.dat tOp],[],.dat .str,[]⟩
def z17.f (k:Nat) (a0:Ty.D tOp):Option (Sg.Out z17.sg):=Sg.fn z17.sg (z17.cx k) z17.body z17.rs a0
def z17.l13 (k:Nat) (n:Nat) (x3:Ty.D .str) (x4:Ty.D (.int .i64)) (m1:Ty.D tOp):Option (Sg.Out z17.sg):=loopAt (z17.cx k) z17.body [1,1,1,1,1,1,1,1,0,1,0] 13 [1,3,4] [1,7] [] (Sg.K z17.sg (z17.cx k) z17.rs) n ⟨[(1,.ref 1 []),(3,.dat .str x3),(4,.dat (.int .i64) x4)],[(1,.dat tOp m1)]⟩
theorem z17.f_eq (k:Nat) (a0:Ty.D tOp):z17.f k a0=bnd (packI a0.1) fun r0=>bnd (z1t.f k a0) fun r1=>br r1 (some r0) (bnd (z1g.f k a0.2.1) fun r2=>br (roomS r0 r2) (br (ieq a0.1 3) (bnd (z1E.f k a0.2.2.2.1) fun r3=>bnd (packI r3) fun r4=>br (roomS (app r0 r2) r4) (some (app (app r0 r2) r4)) none) (br (bnot (ieq a0.1 5)) (bnd (z1l.f k a0.2.2.1) fun r5=>br (roomS (app r0 r2) r5) (br (ieq a0.1 2) (some (app (app r0 r2) r5)) (bnd (packI (ilen a0.2.2.2.2)) fun r6=>br (roomS (app (app r0 r2) r5) r6) (z17.l13 k k (app (app (app r0 r2) r5) r6) 0 a0) none)) none) (br (ieq a0.1 2) (some (app r0 r2)) (bnd (packI (ilen a0.2.2.2.2)) fun r7=>br (roomS (app r0 r2) r7) (z17.l13 k k (app (app r0 r2) r7) 0 a0) none)))) none):=by kernel_rfl
theorem z17.l13_eq (k:Nat) (n13:Nat) (x3:Ty.D .str) (x4:Ty.D (.int .i64)) (m1:Ty.D tOp):z17.l13 k (n13+1) x3 x4 m1=br (ilt x4 (ilen m1.2.2.2.2)) (br (inL x4 m1.2.2.2.2) (bnd (z1C.f k ((rd tUndo m1.2.2.2.2 (natOf x4)).1)) fun r0=>br (roomS x3 r0) (br (inL x4 m1.2.2.2.2) (bnd (packI ((rd tUndo m1.2.2.2.2 (natOf x4)).2)) fun r1=>br (roomS (app x3 r0) r1) (z17.l13 k n13 (app (app x3 r0) r1) (iadd .i64 x4 1) m1) none) none) none) none) (some x3):=by kernel_rfl
def z17.e (k:Nat):Entry:=Sg.entry z17.sg fun x=>z17.f k x
theorem z17.ok (k:Nat):CallOK Tryz.prog 146 (z17.e k):=fn_ok (c:=z17.cx k) (code:=z17.body) (TT.of tt_ok pp_ok mm_ok) (fns_ok ⟨rpackint_ok,(z1t.ok k),(z1g.ok k),(z1E.ok k),(z1l.ok k),(z1C.ok k),trivial⟩) mixed Tryz.func146 (by kernel_rfl) (by kernel_rfl) (by kernel_rfl) (by kernel_rfl) (by kernel_rfl) (by kernel_rfl) (fun x=>by kernel_rfl)
def z1z.body:Go.Code:=Tryz.f65.body.getD .skip
def z1z.rs:List Go.ResultVar:=Tryz.f65.results.toList
def z1z.regs:List (Nat × RInfo):=[(0,⟨[1],[1],[0],[],0,[],[],[],[],[]⟩),(1,rq [1,3] [1] 11),(2,ri [1,3,17] [1]),(3,ri [1,3] [1]),(4,ri [1,3] [1]),(5,ri [1,3] [1]),(6,ri [1,3,4] [1]),(7,⟨[1,3,4,34],[1],[],[],0,[1,3,4],[1],[],[],[]⟩),(9,ri [1,3,4] [1]),(8,ri [1,3,4] [1]),(10,ri [2] [])]
def z1z.cx (k:Nat):Cx:=⟨tt,pp,[(66,(z1C.e k)),(64,packIntE),(146,(z17.e k))],z1z.regs,k,mm⟩
@[reducible] def z1z.sg:Sg:=⟨[.dat tTxn],[],.dat .str,[]⟩
def z1z.f (k:Nat) (a0:Ty.D tTxn):Option (Sg.Out z1z.sg):=Sg.fn z1z.sg (z1z.cx k) z1z.body z1z.rs a0
def z1z.l7 (k:Nat) (n:Nat) (x3:Ty.D .str) (x4:Ty.D (.int .i64)) (m1:Ty.D tTxn):Option (Sg.Out z1z.sg):=loopAt (z1z.cx k) z1z.body [1,1,1,1,0,1,0] 7 [1,3,4] [1] [] (Sg.K z1z.sg (z1z.cx k) z1z.rs) n ⟨[(1,.ref 1 []),(3,.dat .str x3),(4,.dat (.int .i64) x4)],[(1,.dat tTxn m1)]⟩
theorem z1z.f_eq (k:Nat) (a0:Ty.D tTxn):z1z.f k a0=bnd (z1C.f k a0.1) fun r0=>bnd (packI a0.2.1) fun r1=>br (roomS r0 r1) (bnd (packI a0.2.2.1) fun r2=>br (roomS (app r0 r1) r2) (br a0.2.2.2.1 (bnd (packI 1) fun r3=>br (roomS (app (app r0 r1) r2) r3) (bnd (packI (ilen a0.2.2.2.2)) fun r4=>br (roomS (app (app (app r0 r1) r2) r3) r4) (z1z.l7 k k (app (app (app (app r0 r1) r2) r3) r4) 0 a0) none) none) (bnd (packI 0) fun r5=>br (roomS (app (app r0 r1) r2) r5) (bnd (packI (ilen a0.2.2.2.2)) fun r6=>br (roomS (app (app (app r0 r1) r2) r5) r6) (z1z.l7 k k (app (app (app (app r0 r1) r2) r5) r6) 0 a0) none) none)) none) none:=by kernel_rfl
theorem z1z.l7_eq (k:Nat) (n7:Nat) (x3:Ty.D .str) (x4:Ty.D (.int .i64)) (m1:Ty.D tTxn):z1z.l7 k (n7+1) x3 x4 m1=br (ilt x4 (ilen m1.2.2.2.2)) (br (inL x4 m1.2.2.2.2) (bnd (z17.f k (rd tOp m1.2.2.2.2 (natOf x4))) fun r0=>br (roomS x3 r0) (z1z.l7 k n7 (app x3 r0) (iadd .i64 x4 1) m1) none) none) (some x3):=by kernel_rfl
def z1z.e (k:Nat):Entry:=Sg.entry z1z.sg fun x=>z1z.f k x
theorem z1z.ok (k:Nat):CallOK Tryz.prog 65 (z1z.e k):=fn_ok (c:=z1z.cx k) (code:=z1z.body) (TT.of tt_ok pp_ok mm_ok) (fns_ok ⟨(z1C.ok k),rpackint_ok,(z17.ok k),trivial⟩) mixed Tryz.func65 (by kernel_rfl) (by kernel_rfl) (by kernel_rfl) (by kernel_rfl) (by kernel_rfl) (by kernel_rfl) (fun x=>by kernel_rfl)
end Go.Proofs.YtggcagclpkhlhaaGreatDoor
end
noncomputable section
/- The program's functions, as plain equations. -/
namespace Go.Proofs.YtggcagclpkhlhaaGreatDoor
open Pal
set_option maxRecDepth 100000
def z1x.body:Go.Code:=Tryz.f102.body.getD .skip
def z1x.rs:List Go.ResultVar:=Tryz.f102.results.toList
def z1x.regs:List (Nat × RInfo):=[(0,ri [0] []),(1,ri [0,3] [7]),(2,ri [0,3,4] [7]),(3,⟨[0,3,4,11],[7],[],[],0,[0,3,4],[7],[],[],[]⟩),(5,ri [0,3,4] [7]),(4,ri [0,3,4] [7]),(6,ri [2] [7])]
def z1x.cx (k:Nat):Cx:=⟨tt,pp,[(64,packIntE),(65,(z1z.e k))],z1x.regs,k,mm⟩
@[reducible] def z1x.sg:Sg:=⟨[.dat (.slc tTxn)],[],.dat .str,[]⟩
def z1x.f (k:Nat) (a0:Ty.D (.slc tTxn)):Option (Sg.Out z1x.sg):=Sg.fn z1x.sg (z1x.cx k) z1x.body z1x.rs a0
def z1x.l3 (k:Nat) (n:Nat) (x0:Ty.D (.slc tTxn)) (x3:Ty.D .str) (x4:Ty.D (.int .i64)):Option (Sg.Out z1x.sg):=loopAt (z1x.cx k) z1x.body [1,1,0,1,0] 3 [0,3,4] [7] [] (Sg.K z1x.sg (z1x.cx k) z1x.rs) n ⟨[(0,.dat (.slc tTxn) x0),(3,.dat .str x3),(4,.dat (.int .i64) x4)],[]⟩
theorem z1x.f_eq (k:Nat) (a0:Ty.D (.slc tTxn)):z1x.f k a0=bnd (packI (ilen a0)) fun r0=>z1x.l3 k k a0 r0 0:=by kernel_rfl
theorem z1x.l3_eq (k:Nat) (n3:Nat) (x0:Ty.D (.slc tTxn)) (x3:Ty.D .str) (x4:Ty.D (.int .i64)):z1x.l3 k (n3+1) x0 x3 x4=br (ilt x4 (ilen x0)) (br (inL x4 x0) (bnd (z1z.f k (rd tTxn x0 (natOf x4))) fun r0=>br (roomS x3 r0) (z1x.l3 k n3 x0 (app x3 r0) (iadd .i64 x4 1)) none) none) (some x3):=by kernel_rfl
def z1x.e (k:Nat):Entry:=Sg.entry z1x.sg fun x=>z1x.f k x
theorem z1x.ok (k:Nat):CallOK Tryz.prog 102 (z1x.e k):=fn_ok (c:=z1x.cx k) (code:=z1x.body) (TT.of tt_ok pp_ok mm_ok) (fns_ok ⟨rpackint_ok,(z1z.ok k),trivial⟩) mixed Tryz.func102 (by kernel_rfl) (by kernel_rfl) (by kernel_rfl) (by kernel_rfl) (by kernel_rfl) (by kernel_rfl) (fun x=>by kernel_rfl)
def z1J.body:Go.Code:=Tryz.f103.body.getD .skip
def z1J.rs:List Go.ResultVar:=Tryz.f103.results.toList
def z1J.regs:List (Nat × RInfo):=[(0,ri [0] []),(1,ri [0,3] [7]),(2,ri [0,3,4] [7]),(3,⟨[0,3,4,11],[7],[],[],0,[0,3,4],[7],[],[],[]⟩),(5,rq [0,3,4] [7] 15),(4,ri [0,3,4] [7]),(6,ri [2] [7])]
def z1J.cx (k:Nat):Cx:=⟨tt,pp,[(64,packIntE),(66,(z1C.e k))],z1J.regs,k,mm⟩
@[reducible] def z1J.sg:Sg:=⟨[.dat (.slc tUndo)],[],.dat .str,[]⟩
def z1J.f (k:Nat) (a0:Ty.D (.slc tUndo)):Option (Sg.Out z1J.sg):=Sg.fn z1J.sg (z1J.cx k) z1J.body z1J.rs a0
def z1J.l3 (k:Nat) (n:Nat) (x0:Ty.D (.slc tUndo)) (x3:Ty.D .str) (x4:Ty.D (.int .i64)):Option (Sg.Out z1J.sg):=loopAt (z1J.cx k) z1J.body [1,1,0,1,0] 3 [0,3,4] [7] [] (Sg.K z1J.sg (z1J.cx k) z1J.rs) n ⟨[(0,.dat (.slc tUndo) x0),(3,.dat .str x3),(4,.dat (.int .i64) x4)],[]⟩
theorem z1J.f_eq (k:Nat) (a0:Ty.D (.slc tUndo)):z1J.f k a0=bnd (packI (ilen a0)) fun r0=>z1J.l3 k k a0 r0 0:=by kernel_rfl
theorem z1J.l3_eq (k:Nat) (n3:Nat) (x0:Ty.D (.slc tUndo)) (x3:Ty.D .str) (x4:Ty.D (.int .i64)):z1J.l3 k (n3+1) x0 x3 x4=br (ilt x4 (ilen x0)) (br (inL x4 x0) (bnd (z1C.f k ((rd tUndo x0 (natOf x4)).1)) fun r0=>br (roomS x3 r0) (br (inL x4 x0) (bnd (packI ((rd tUndo x0 (natOf x4)).2)) fun r1=>br (roomS (app x3 r0) r1) (z1J.l3 k n3 x0 (app (app x3 r0) r1) (iadd .i64 x4 1)) none) none) none) none) (some x3):=by kernel_rfl
def z1J.e (k:Nat):Entry:=Sg.entry z1J.sg fun x=>z1J.f k x
theorem z1J.ok (k:Nat):CallOK Tryz.prog 103 (z1J.e k):=fn_ok (c:=z1J.cx k) (code:=z1J.body) (TT.of tt_ok pp_ok mm_ok) (fns_ok ⟨rpackint_ok,(z1C.ok k),trivial⟩) mixed Tryz.func103 (by kernel_rfl) (by kernel_rfl) (by kernel_rfl) (by kernel_rfl) (by kernel_rfl) (by kernel_rfl) (fun x=>by kernel_rfl)
def z1F.body:Go.Code:=Tryz.f104.body.getD .skip
def z1F.rs:List Go.ResultVar:=Tryz.f104.results.toList
def z1F.regs:List (Nat × RInfo):=[(0,ri [0] []),(1,ri [0,3] [7]),(2,ri [0,3,4] [7]),(3,⟨[0,3,4,11],[7],[],[],0,[0,3,4],[7],[],[],[]⟩),(5,ri [0,3,4] [7]),(4,ri [0,3,4] [7]),(6,ri [2] [7])]
def z1F.cx (k:Nat):Cx:=⟨tt,pp,[(64,packIntE),(66,(z1C.e k))],z1F.regs,k,mm⟩
@[reducible] def z1F.sg:Sg:=⟨[.dat (.slc tDot)],[],.dat .str,[]⟩
def z1F.f (k:Nat) (a0:Ty.D (.slc tDot)):Option (Sg.Out z1F.sg):=Sg.fn z1F.sg (z1F.cx k) z1F.body z1F.rs a0
def z1F.l3 (k:Nat) (n:Nat) (x0:Ty.D (.slc tDot)) (x3:Ty.D .str) (x4:Ty.D (.int .i64)):Option (Sg.Out z1F.sg):=loopAt (z1F.cx k) z1F.body [1,1,0,1,0] 3 [0,3,4] [7] [] (Sg.K z1F.sg (z1F.cx k) z1F.rs) n ⟨[(0,.dat (.slc tDot) x0),(3,.dat .str x3),(4,.dat (.int .i64) x4)],[]⟩
theorem z1F.f_eq (k:Nat) (a0:Ty.D (.slc tDot)):z1F.f k a0=bnd (packI (ilen a0)) fun r0=>z1F.l3 k k a0 r0 0:=by kernel_rfl
theorem z1F.l3_eq (k:Nat) (n3:Nat) (x0:Ty.D (.slc tDot)) (x3:Ty.D .str) (x4:Ty.D (.int .i64)):z1F.l3 k (n3+1) x0 x3 x4=br (ilt x4 (ilen x0)) (br (inL x4 x0) (bnd (z1C.f k (rd tDot x0 (natOf x4))) fun r0=>br (roomS x3 r0) (z1F.l3 k n3 x0 (app x3 r0) (iadd .i64 x4 1)) none) none) (some x3):=by kernel_rfl
def z1F.e (k:Nat):Entry:=Sg.entry z1F.sg fun x=>z1F.f k x
theorem z1F.ok (k:Nat):CallOK Tryz.prog 104 (z1F.e k):=fn_ok (c:=z1F.cx k) (code:=z1F.body) (TT.of tt_ok pp_ok mm_ok) (fns_ok ⟨rpackint_ok,(z1C.ok k),trivial⟩) mixed Tryz.func104 (by kernel_rfl) (by kernel_rfl) (by kernel_rfl) (by kernel_rfl) (by kernel_rfl) (by kernel_rfl) (fun x=>by kernel_rfl)
def z0G.body:Go.Code:=Tryz.f40.body.getD .skip
def z0G.rs:List Go.ResultVar:=Tryz.f40.results.toList
def z0G.regs:List (Nat × RInfo):=[(0,⟨[1],[1],[0],[],0,[],[],[],[],[]⟩),(1,rq [2] [] 11)]
def z0G.cx (k:Nat):Cx:=⟨tt,pp,[(102,(z1x.e k)),(103,(z1J.e k)),(104,(z1F.e k))],z0G.regs,k,mm⟩
@[reducible] def z0G.sg:Sg:=⟨[.dat tDelta],[],.dat .str,[]⟩
def z0G.f (k:Nat) (a0:Ty.D tDelta):Option (Sg.Out z0G.sg):=Sg.fn z0G.sg (z0G.cx k) z0G.body z0G.rs a0
theorem z0G.f_eq (k:Nat) (a0:Ty.D tDelta):z0G.f k a0=bnd (z1x.f k a0.1) fun r0=>bnd (z1J.f k a0.2.1) fun r1=>br (roomS r0 r1) (bnd (z1F.f k a0.2.2) fun r2=>br (roomS (app r0 r1) r2) (some (app (app r0 r1) r2)) none) none:=by kernel_rfl
def z0G.e (k:Nat):Entry:=Sg.entry z0G.sg fun x=>z0G.f k x
theorem z0G.ok (k:Nat):CallOK Tryz.prog 40 (z0G.e k):=fn_ok (c:=z0G.cx k) (code:=z0G.body) (TT.of tt_ok pp_ok mm_ok) (fns_ok ⟨(z1x.ok k),(z1J.ok k),(z1F.ok k),trivial⟩) mixed Tryz.func40 (by kernel_rfl) (by kernel_rfl) (by kernel_rfl) (by kernel_rfl) (by kernel_rfl) (by kernel_rfl) (fun x=>by kernel_rfl)
@[reducible] def law23_RecordReads.sg:Sg:=⟨[.dat .str,.dat tDelta],[],.dat .bool,[]⟩
def z15.body:Go.Code:=Tryz.f9.body.getD .skip
def z15.rs:List Go.ResultVar:=Tryz.f9.results.toList
def z15.regs:List (Nat × RInfo):=[(0,⟨[1],[1],[0],[],0,[],[],[],[],[]⟩),(1,ri [2] [4,7])]
def z15.cx (k:Nat):Cx:=⟨tt,pp,[(46,(z0Z.e k)),(19,(z0C.e k))],z15.regs,k,mm⟩
@[reducible] def z15.sg:Sg:=⟨[.dat tState],[],.dat .bool,[]⟩
def z15.f (k:Nat) (a0:Ty.D tState):Option (Sg.Out z15.sg):=Sg.fn z15.sg (z15.cx k) z15.body z15.rs a0
theorem z15.f_eq (k:Nat) (a0:Ty.D tState):z15.f k a0=bnd (z0Z.f k a0) fun r0=>br r0 (bnd (z0C.f k a0) fun r1=>some r1) (some false):=by kernel_rfl
def z15.e (k:Nat):Entry:=Sg.entry z15.sg fun x=>z15.f k x
theorem z15.ok (k:Nat):CallOK Tryz.prog 9 (z15.e k):=fn_ok (c:=z15.cx k) (code:=z15.body) (TT.of tt_ok pp_ok mm_ok) (fns_ok ⟨(z0Z.ok k),(z0C.ok k),trivial⟩) mixed Tryz.func9 (by kernel_rfl) (by kernel_rfl) (by kernel_rfl) (by kernel_rfl) (by kernel_rfl) (by kernel_rfl) (fun x=>by kernel_rfl)
def z1c.body:Go.Code:=Tryz.f201.body.getD .skip
def z1c.rs:List Go.ResultVar:=Tryz.f201.results.toList
def z1c.regs:List (Nat × RInfo):=[(0,ri [1] [1]),(1,ri [1,3] [1]),(2,ri [1,3,4] [1]),(3,⟨[1,3,4,6],[1],[],[],0,[1,3,4],[1],[],[],[]⟩),(5,ri [1,3,4] [1]),(4,ri [1,3,4] [1]),(6,ri [2] [])]
def z1c.cx (k:Nat):Cx:=⟨tt,pp,[(64,packIntE)],z1c.regs,k,mm⟩
@[reducible] def z1c.sg:Sg:=⟨[.dat tVec],[],.dat .str,[]⟩
def z1c.f (k:Nat) (a0:Ty.D tVec):Option (Sg.Out z1c.sg):=Sg.fn z1c.sg (z1c.cx k) z1c.body z1c.rs a0
def z1c.l3 (k:Nat) (n:Nat) (x3:Ty.D .str) (x4:Ty.D (.int .i64)) (m1:Ty.D tVec):Option (Sg.Out z1c.sg):=loopAt (z1c.cx k) z1c.body [1,1,0,1,0] 3 [1,3,4] [1] [] (Sg.K z1c.sg (z1c.cx k) z1c.rs) n ⟨[(1,.ref 1 []),(3,.dat .str x3),(4,.dat (.int .i64) x4)],[(1,.dat tVec m1)]⟩
theorem z1c.f_eq (k:Nat) (a0:Ty.D tVec):z1c.f k a0=z1c.l3 k k [] 0 a0:=by kernel_rfl
theorem z1c.l3_eq (k:Nat) (n3:Nat) (x3:Ty.D .str) (x4:Ty.D (.int .i64)) (m1:Ty.D tVec):z1c.l3 k (n3+1) x3 x4 m1=br (ilt x4 16) (br (inB x4 16) (bnd (packI (rd (.int .i64) m1 (natOf x4))) fun r0=>br (roomS x3 r0) (z1c.l3 k n3 (app x3 r0) (iadd .i64 x4 1) m1) none) none) (some x3):=by kernel_rfl
def z1c.e (k:Nat):Entry:=Sg.entry z1c.sg fun x=>z1c.f k x
theorem z1c.ok (k:Nat):CallOK Tryz.prog 201 (z1c.e k):=fn_ok (c:=z1c.cx k) (code:=z1c.body) (TT.of tt_ok pp_ok mm_ok) (fns_ok ⟨rpackint_ok,trivial⟩) mixed Tryz.func201 (by kernel_rfl) (by kernel_rfl) (by kernel_rfl) (by kernel_rfl) (by kernel_rfl) (by kernel_rfl) (fun x=>by kernel_rfl)
def z1A.body:Go.Code:=Tryz.f147.body.getD .skip
def z1A.rs:List Go.ResultVar:=Tryz.f147.results.toList
def z1A.regs:List (Nat × RInfo):=[(0,⟨[1],[1],[0],[],0,[],[],[],[],[]⟩),(1,rq [2] [] 7)]
def z1A.cx (k:Nat):Cx:=⟨tt,pp,[(201,(z1c.e k)),(104,(z1F.e k))],z1A.regs,k,mm⟩
@[reducible] def z1A.sg:Sg:=⟨[.dat tDots],[],.dat .str,[]⟩
def z1A.f (k:Nat) (a0:Ty.D tDots):Option (Sg.Out z1A.sg):=Sg.fn z1A.sg (z1A.cx k) z1A.body z1A.rs a0
theorem z1A.f_eq (k:Nat) (a0:Ty.D tDots):z1A.f k a0=bnd (z1c.f k a0.1) fun r0=>bnd (z1F.f k a0.2) fun r1=>br (roomS r0 r1) (some (app r0 r1)) none:=by kernel_rfl
def z1A.e (k:Nat):Entry:=Sg.entry z1A.sg fun x=>z1A.f k x
theorem z1A.ok (k:Nat):CallOK Tryz.prog 147 (z1A.e k):=fn_ok (c:=z1A.cx k) (code:=z1A.body) (TT.of tt_ok pp_ok mm_ok) (fns_ok ⟨(z1c.ok k),(z1F.ok k),trivial⟩) mixed Tryz.func147 (by kernel_rfl) (by kernel_rfl) (by kernel_rfl) (by kernel_rfl) (by kernel_rfl) (by kernel_rfl) (fun x=>by kernel_rfl)
def z1K.body:Go.Code:=Tryz.f67.body.getD .skip
def z1K.rs:List Go.ResultVar:=Tryz.f67.results.toList
def z1K.regs:List (Nat × RInfo):=[(0,⟨[1],[1],[0],[],0,[],[],[],[],[]⟩),(1,rq [1,3] [1] 11),(2,ri [1,3,4] [1]),(3,⟨[1,3,4,17],[1],[],[],0,[1,3,4],[1],[],[],[]⟩),(5,ri [1,3,4] [1]),(4,ri [1,3,4] [1]),(6,ri [2] [])]
def z1K.cx (k:Nat):Cx:=⟨tt,pp,[(102,(z1x.e k)),(103,(z1J.e k)),(147,(z1A.e k)),(104,(z1F.e k))],z1K.regs,k,mm⟩
@[reducible] def z1K.sg:Sg:=⟨[.dat tState],[],.dat .str,[]⟩
def z1K.f (k:Nat) (a0:Ty.D tState):Option (Sg.Out z1K.sg):=Sg.fn z1K.sg (z1K.cx k) z1K.body z1K.rs a0
def z1K.l3 (k:Nat) (n:Nat) (x3:Ty.D .str) (x4:Ty.D (.int .i64)) (m1:Ty.D tState):Option (Sg.Out z1K.sg):=loopAt (z1K.cx k) z1K.body [1,1,0,1,0] 3 [1,3,4] [1] [] (Sg.K z1K.sg (z1K.cx k) z1K.rs) n ⟨[(1,.ref 1 []),(3,.dat .str x3),(4,.dat (.int .i64) x4)],[(1,.dat tState m1)]⟩
theorem z1K.f_eq (k:Nat) (a0:Ty.D tState):z1K.f k a0=bnd (z1x.f k a0.1) fun r0=>bnd (z1J.f k a0.2.1) fun r1=>br (roomS r0 r1) (bnd (z1A.f k a0.2.2.2.1) fun r2=>br (roomS (app r0 r1) r2) (z1K.l3 k k (app (app r0 r1) r2) 0 a0) none) none:=by kernel_rfl
theorem z1K.l3_eq (k:Nat) (n3:Nat) (x3:Ty.D .str) (x4:Ty.D (.int .i64)) (m1:Ty.D tState):z1K.l3 k (n3+1) x3 x4 m1=br (ilt x4 8) (br (inB x4 8) (bnd (z1F.f k (rd (.slc tDot) m1.2.2.2.2 (natOf x4))) fun r0=>br (roomS x3 r0) (z1K.l3 k n3 (app x3 r0) (iadd .i64 x4 1) m1) none) none) (some x3):=by kernel_rfl
def z1K.e (k:Nat):Entry:=Sg.entry z1K.sg fun x=>z1K.f k x
theorem z1K.ok (k:Nat):CallOK Tryz.prog 67 (z1K.e k):=fn_ok (c:=z1K.cx k) (code:=z1K.body) (TT.of tt_ok pp_ok mm_ok) (fns_ok ⟨(z1x.ok k),(z1J.ok k),(z1A.ok k),(z1F.ok k),trivial⟩) mixed Tryz.func67 (by kernel_rfl) (by kernel_rfl) (by kernel_rfl) (by kernel_rfl) (by kernel_rfl) (by kernel_rfl) (fun x=>by kernel_rfl)
def z1e.body:Go.Code:=Tryz.f16.body.getD .skip
def z1e.rs:List Go.ResultVar:=Tryz.f16.results.toList
def z1e.regs:List (Nat × RInfo):=[(0,⟨[1],[1],[0],[],0,[],[],[],[],[]⟩),(1,ri [1,3] [1,6]),(2,ri [1,3,8] [1,6]),(3,ri [1,3,8,9] [1,6]),(4,ri [2] []),(5,ri [1,3,8,16] [1,6]),(6,rq [2] [] 19),(7,ri [1,3,37] [1,6]),(8,ri [2] []),(9,ri [2] [])]
def z1e.cx (k:Nat):Cx:=⟨tt,pp,[(64,packIntE),(65,(z1z.e k)),(66,(z1C.e k)),(40,(z0G.e k)),(67,(z1K.e k))],z1e.regs,k,mm⟩
@[reducible] def z1e.sg:Sg:=⟨[.dat tRecord],[],.dat .str,[]⟩
def z1e.f (k:Nat) (a0:Ty.D tRecord):Option (Sg.Out z1e.sg):=Sg.fn z1e.sg (z1e.cx k) z1e.body z1e.rs a0
theorem z1e.f_eq (k:Nat) (a0:Ty.D tRecord):z1e.f k a0=bnd (packI a0.1) fun r0=>br (ieq a0.1 1) (bnd (z1z.f k a0.2.1) fun r1=>br (roomS r0 r1) (some (app r0 r1)) none) (br (ieq a0.1 2) (bnd (packI a0.2.2.1) fun r2=>br (roomS r0 r2) (bnd (z1C.f k a0.2.2.2.1.1) fun r3=>br (roomS (app r0 r2) r3) (bnd (packI a0.2.2.2.1.2) fun r4=>br (roomS (app (app r0 r2) r3) r4) (bnd (packI a0.2.2.2.2.1) fun r5=>br (roomS (app (app (app r0 r2) r3) r4) r5) (some (app (app (app (app r0 r2) r3) r4) r5)) none) none) none) none) (br (ieq a0.1 3) (bnd (z0G.f k a0.2.2.2.2.2.1) fun r6=>br (roomS r0 r6) (some (app r0 r6)) none) (bnd (z1K.f k a0.2.2.2.2.2.2) fun r7=>br (roomS r0 r7) (some (app r0 r7)) none))):=by kernel_rfl
def z1e.e (k:Nat):Entry:=Sg.entry z1e.sg fun x=>z1e.f k x
theorem z1e.ok (k:Nat):CallOK Tryz.prog 16 (z1e.e k):=fn_ok (c:=z1e.cx k) (code:=z1e.body) (TT.of tt_ok pp_ok mm_ok) (fns_ok ⟨rpackint_ok,(z1z.ok k),(z1C.ok k),(z0G.ok k),(z1K.ok k),trivial⟩) mixed Tryz.func16 (by kernel_rfl) (by kernel_rfl) (by kernel_rfl) (by kernel_rfl) (by kernel_rfl) (by kernel_rfl) (fun x=>by kernel_rfl)
def z1q.body:Go.Code:=Tryz.f148.body.getD .skip
def z1q.rs:List Go.ResultVar:=Tryz.f148.results.toList
def z1q.regs:List (Nat × RInfo):=[(0,ri [0,3] [3]),(1,ri [0,3,5] [3]),(2,⟨[0,3,5,9],[3],[],[],0,[0,3,5],[3],[],[],[]⟩),(4,rq [0,3,5,18] [3] 7),(5,ri [4] []),(3,ri [0,3,5] [3]),(6,ri [4] [])]
def z1q.cx (k:Nat):Cx:=⟨tt,pp,[],z1q.regs,k,mm⟩
@[reducible] def z1q.sg:Sg:=⟨[.dat (.slc tTxn),.dat tDot],[],.dat (.int .i64),[]⟩
def z1q.f (k:Nat) (a0:Ty.D (.slc tTxn)) (a1:Ty.D tDot):Option (Sg.Out z1q.sg):=Sg.fn z1q.sg (z1q.cx k) z1q.body z1q.rs (a0,a1)
def z1q.l2 (k:Nat) (n:Nat) (x0:Ty.D (.slc tTxn)) (x5:Ty.D (.int .i64)) (m3:Ty.D tDot):Option (Sg.Out z1q.sg):=loopAt (z1q.cx k) z1q.body [1,0,1,0] 2 [0,3,5] [3] [] (Sg.K z1q.sg (z1q.cx k) z1q.rs) n ⟨[(0,.dat (.slc tTxn) x0),(3,.ref 3 []),(5,.dat (.int .i64) x5)],[(3,.dat tDot m3)]⟩
theorem z1q.f_eq (k:Nat) (a0:Ty.D (.slc tTxn)) (a1:Ty.D tDot):z1q.f k a0 a1=z1q.l2 k k a0 0 a1:=by kernel_rfl
theorem z1q.l2_eq (k:Nat) (n2:Nat) (x0:Ty.D (.slc tTxn)) (x5:Ty.D (.int .i64)) (m3:Ty.D tDot):z1q.l2 k (n2+1) x0 x5 m3=br (ilt x5 (ilen x0)) (br (inL x5 x0) (br (deq tDot ((rd tTxn x0 (natOf x5)).1) m3) (some x5) (z1q.l2 k n2 x0 (iadd .i64 x5 1) m3)) none) (some (-1)):=by kernel_rfl
def z1q.e (k:Nat):Entry:=Sg.entry z1q.sg fun x=>z1q.f k x.1 x.2
theorem z1q.ok (k:Nat):CallOK Tryz.prog 148 (z1q.e k):=fn_ok (c:=z1q.cx k) (code:=z1q.body) (TT.of tt_ok pp_ok mm_ok) (fns_ok trivial) mixed Tryz.func148 (by kernel_rfl) (by kernel_rfl) (by kernel_rfl) (by kernel_rfl) (by kernel_rfl) (by kernel_rfl) (fun x=>by kernel_rfl)
def z1N.body:Go.Code:=Tryz.f149.body.getD .skip
def z1N.rs:List Go.ResultVar:=Tryz.f149.results.toList
def z1N.regs:List (Nat × RInfo):=[(0,⟨[0,3],[3],[0],[],0,[],[],[],[],[]⟩),(1,ri [0,3,12] [3]),(2,⟨[4],[],[0,1],[],0,[],[],[],[],[]⟩),(3,ri [0,3,5] [3]),(4,ri [0,3,5,6] [3]),(5,ri [0,3,5,6,7] [3]),(6,⟨[0,3,5,6,7,17],[3],[],[],0,[0,3,5,6,7],[3],[],[],[]⟩),(8,rq [0,3,5,6,7,32] [3] 13),(9,⟨[0,3,5,7],[3],[0,3,4],[],0,[],[],[],[],[]⟩),(10,ri [0,3,5,6,7] [3]),(11,⟨[0,3,5,6,7],[3],[0,6,7],[],0,[],[],[],[],[]⟩),(7,ri [0,3,5,6,7] [3]),(12,ri [3,5,45] [3]),(13,⟨[5],[],[0,3,4],[],0,[],[],[],[],[]⟩),(14,⟨[4],[],[0,1],[],0,[],[],[],[],[]⟩)]
def z1N.cx (k:Nat):Cx:=⟨tt,pp,[(148,(z1q.e k)),(118,(z0p.e k))],z1N.regs,k,mm⟩
@[reducible] def z1N.sg:Sg:=⟨[.dat (.slc tTxn),.dat tTxn],[],.dat (.slc tTxn),[]⟩
def z1N.f (k:Nat) (a0:Ty.D (.slc tTxn)) (a1:Ty.D tTxn):Option (Sg.Out z1N.sg):=Sg.fn z1N.sg (z1N.cx k) z1N.body z1N.rs (a0,a1)
def z1N.l6 (k:Nat) (n:Nat) (x0:Ty.D (.slc tTxn)) (x5:List (Ty.D tTxn)) (x6:Ty.D .bool) (x7:Ty.D (.int .i64)) (m3:Ty.D tTxn):Option (Sg.Out z1N.sg):=loopAt (z1N.cx k) z1N.body [1,1,1,1,0,1,0] 6 [0,3,5,6,7] [3] [] (Sg.K z1N.sg (z1N.cx k) z1N.rs) n ⟨[(0,.dat (.slc tTxn) x0),(3,.ref 3 []),(5,.own tTxn x5),(6,.dat .bool x6),(7,.dat (.int .i64) x7)],[(3,.dat tTxn m3)]⟩
theorem z1N.f_eq (k:Nat) (a0:Ty.D (.slc tTxn)) (a1:Ty.D tTxn):z1N.f k a0 a1=bnd (z1q.f k a0 a1.1) fun r0=>br (ile 0 r0) (some a0) (z1N.l6 k k a0 [] false 0 a1):=by kernel_rfl
theorem z1N.l6_eq (k:Nat) (n6:Nat) (x0:Ty.D (.slc tTxn)) (x5:List (Ty.D tTxn)) (x6:Ty.D .bool) (x7:Ty.D (.int .i64)) (m3:Ty.D tTxn):z1N.l6 k (n6+1) x0 x5 x6 x7 m3=br (ilt x7 (ilen x0)) (br (bnot x6) (br (inL x7 x0) (bnd (z0p.f k m3.1 ((rd tTxn x0 (natOf x7)).1)) fun r0=>br (ilt r0 0) (br (room x5 (m3::[])) (br (inL x7 x0) (br (room (app x5 (m3::[])) ((rd tTxn x0 (natOf x7))::[])) (z1N.l6 k n6 x0 (app (app x5 (m3::[])) ((rd tTxn x0 (natOf x7))::[])) true (iadd .i64 x7 1) m3) none) none) none) (br (inL x7 x0) (br (room x5 ((rd tTxn x0 (natOf x7))::[])) (z1N.l6 k n6 x0 (app x5 ((rd tTxn x0 (natOf x7))::[])) x6 (iadd .i64 x7 1) m3) none) none)) none) (br (inL x7 x0) (br (room x5 ((rd tTxn x0 (natOf x7))::[])) (z1N.l6 k n6 x0 (app x5 ((rd tTxn x0 (natOf x7))::[])) x6 (iadd .i64 x7 1) m3) none) none)) (br (bnot x6) (br (room x5 (m3::[])) (some (app x5 (m3::[]))) none) (some x5)):=by kernel_rfl
def z1N.e (k:Nat):Entry:=Sg.entry z1N.sg fun x=>z1N.f k x.1 x.2
theorem z1N.ok (k:Nat):CallOK Tryz.prog 149 (z1N.e k):=fn_ok (c:=z1N.cx k) (code:=z1N.body) (TT.of tt_ok pp_ok mm_ok) (fns_ok ⟨(z1q.ok k),(z0p.ok k),trivial⟩) mixed Tryz.func149 (by kernel_rfl) (by kernel_rfl) (by kernel_rfl) (by kernel_rfl) (by kernel_rfl) (by kernel_rfl) (fun x=>by kernel_rfl)
def z1S.body:Go.Code:=Tryz.f72.body.getD .skip
def z1S.rs:List Go.ResultVar:=Tryz.f72.results.toList
def z1S.regs:List (Nat × RInfo):=[(0,⟨[2,3,4],[2,3,4],[0,1],[],0,[],[],[],[],[]⟩),(1,ri [2,3,4,10] [2,3,4]),(2,⟨[4],[4],[1],[],0,[],[],[],[],[]⟩),(3,⟨[2,3,4],[2,3,4],[5],[],0,[],[],[],[],[]⟩),(4,⟨[2,4],[2,4],[6],[],0,[],[],[],[],[]⟩),(5,⟨[4],[4],[1],[],0,[],[],[],[],[]⟩)]
def z1S.cx (k:Nat):Cx:=⟨tt,pp,[(148,(z1q.e k)),(149,(z1N.e k)),(150,(z2a.e k))],z1S.regs,k,mm⟩
@[reducible] def z1S.sg:Sg:=⟨[.dat tState,.dat tTxn],[],.dat tState,[]⟩
def z1S.f (k:Nat) (a0:Ty.D tState) (a1:Ty.D tTxn):Option (Sg.Out z1S.sg):=Sg.fn z1S.sg (z1S.cx k) z1S.body z1S.rs (a0,a1)
theorem z1S.f_eq (k:Nat) (a0:Ty.D tState) (a1:Ty.D tTxn):z1S.f k a0 a1=bnd (z1q.f k a0.1 a1.1) fun r0=>br (ile 0 r0) (some a0) (bnd (z1N.f k a0.1 a1) fun r1=>bnd (z2a.f k a0.2.2.1 a1.1) fun r2=>some (r1,(a0.2.1,(r2,a0.2.2.2)))):=by kernel_rfl
def z1S.e (k:Nat):Entry:=Sg.entry z1S.sg fun x=>z1S.f k x.1 x.2
theorem z1S.ok (k:Nat):CallOK Tryz.prog 72 (z1S.e k):=fn_ok (c:=z1S.cx k) (code:=z1S.body) (TT.of tt_ok pp_ok mm_ok) (fns_ok ⟨(z1q.ok k),(z1N.ok k),(z2a.ok k),trivial⟩) mixed Tryz.func72 (by kernel_rfl) (by kernel_rfl) (by kernel_rfl) (by kernel_rfl) (by kernel_rfl) (by kernel_rfl) (fun x=>by kernel_rfl)
def z2b.body:Go.Code:=Tryz.f239.body.getD .skip
def z2b.rs:List Go.ResultVar:=Tryz.f239.results.toList
def z2b.regs:List (Nat × RInfo):=[(0,ri [0,3] [3]),(1,ri [0,3,5] [3]),(2,⟨[0,3,5,9],[3],[],[],0,[0,3,5],[3],[],[],[]⟩),(4,rq [0,3,5,18] [3] 7),(5,ri [4] []),(3,ri [0,3,5] [3]),(6,ri [4] [])]
def z2b.cx (k:Nat):Cx:=⟨tt,pp,[],z2b.regs,k,mm⟩
@[reducible] def z2b.sg:Sg:=⟨[.dat (.slc tUndo),.dat tDot],[],.dat (.int .i64),[]⟩
def z2b.f (k:Nat) (a0:Ty.D (.slc tUndo)) (a1:Ty.D tDot):Option (Sg.Out z2b.sg):=Sg.fn z2b.sg (z2b.cx k) z2b.body z2b.rs (a0,a1)
def z2b.l2 (k:Nat) (n:Nat) (x0:Ty.D (.slc tUndo)) (x5:Ty.D (.int .i64)) (m3:Ty.D tDot):Option (Sg.Out z2b.sg):=loopAt (z2b.cx k) z2b.body [1,0,1,0] 2 [0,3,5] [3] [] (Sg.K z2b.sg (z2b.cx k) z2b.rs) n ⟨[(0,.dat (.slc tUndo) x0),(3,.ref 3 []),(5,.dat (.int .i64) x5)],[(3,.dat tDot m3)]⟩
theorem z2b.f_eq (k:Nat) (a0:Ty.D (.slc tUndo)) (a1:Ty.D tDot):z2b.f k a0 a1=z2b.l2 k k a0 0 a1:=by kernel_rfl
theorem z2b.l2_eq (k:Nat) (n2:Nat) (x0:Ty.D (.slc tUndo)) (x5:Ty.D (.int .i64)) (m3:Ty.D tDot):z2b.l2 k (n2+1) x0 x5 m3=br (ilt x5 (ilen x0)) (br (inL x5 x0) (br (deq tDot ((rd tUndo x0 (natOf x5)).1) m3) (br (inL x5 x0) (some ((rd tUndo x0 (natOf x5)).2)) none) (z2b.l2 k n2 x0 (iadd .i64 x5 1) m3)) none) (some 0):=by kernel_rfl
def z2b.e (k:Nat):Entry:=Sg.entry z2b.sg fun x=>z2b.f k x.1 x.2
theorem z2b.ok (k:Nat):CallOK Tryz.prog 239 (z2b.e k):=fn_ok (c:=z2b.cx k) (code:=z2b.body) (TT.of tt_ok pp_ok mm_ok) (fns_ok trivial) mixed Tryz.func239 (by kernel_rfl) (by kernel_rfl) (by kernel_rfl) (by kernel_rfl) (by kernel_rfl) (by kernel_rfl) (fun x=>by kernel_rfl)
def z1T.body:Go.Code:=Tryz.f204.body.getD .skip
def z1T.rs:List Go.ResultVar:=Tryz.f204.results.toList
def z1T.regs:List (Nat × RInfo):=[(0,ri [0,3] [3]),(1,rq [0,3,20] [3] 12),(2,⟨[4],[],[0,1],[],0,[],[],[],[],[]⟩),(3,ri [0,3,5] [3]),(4,ri [0,3,5,6] [3]),(5,ri [0,3,5,6,7] [3]),(6,⟨[0,3,5,6,7,25],[3],[],[],0,[0,3,5,6,7],[3],[],[],[]⟩),(8,rq [0,3,5,6,7,8] [3,35] 8),(9,ri [0,3,5,6,7,8,41] [3,35]),(10,⟨[0,3,5,7,8],[3,35],[0,3,4],[],0,[],[],[],[],[]⟩),(11,ri [0,3,5,6,7,8] [3,35]),(12,ri [0,3,5,6,7,47] [3]),(13,⟨[0,3,5,6,7],[3],[0,6,7],[],0,[],[],[],[],[]⟩),(7,ri [0,3,5,6,7] [3]),(14,ri [3,5,56] [3]),(15,⟨[5],[],[0,3,4],[],0,[],[],[],[],[]⟩),(16,⟨[4],[],[0,1],[],0,[],[],[],[],[]⟩)]
def z1T.cx (k:Nat):Cx:=⟨tt,pp,[(117,(z23.e k)),(239,(z2b.e k)),(118,(z0p.e k))],z1T.regs,k,mm⟩
@[reducible] def z1T.sg:Sg:=⟨[.dat (.slc tUndo),.dat tUndo],[],.dat (.slc tUndo),[]⟩
def z1T.f (k:Nat) (a0:Ty.D (.slc tUndo)) (a1:Ty.D tUndo):Option (Sg.Out z1T.sg):=Sg.fn z1T.sg (z1T.cx k) z1T.body z1T.rs (a0,a1)
def z1T.l6 (k:Nat) (n:Nat) (x0:Ty.D (.slc tUndo)) (x5:List (Ty.D tUndo)) (x6:Ty.D .bool) (x7:Ty.D (.int .i64)) (m3:Ty.D tUndo):Option (Sg.Out z1T.sg):=loopAt (z1T.cx k) z1T.body [1,1,1,1,0,1,0] 6 [0,3,5,6,7] [3] [] (Sg.K z1T.sg (z1T.cx k) z1T.rs) n ⟨[(0,.dat (.slc tUndo) x0),(3,.ref 3 []),(5,.own tUndo x5),(6,.dat .bool x6),(7,.dat (.int .i64) x7)],[(3,.dat tUndo m3)]⟩
theorem z1T.f_eq (k:Nat) (a0:Ty.D (.slc tUndo)) (a1:Ty.D tUndo):z1T.f k a0 a1=bnd (z23.f k a1) fun r0=>br (bnot r0) (some a0) (bnd (z2b.f k a0 a1.1) fun r1=>br (ile a1.2 r1) (some a0) (z1T.l6 k k a0 [] false 0 a1)):=by kernel_rfl
theorem z1T.l6_eq (k:Nat) (n6:Nat) (x0:Ty.D (.slc tUndo)) (x5:List (Ty.D tUndo)) (x6:Ty.D .bool) (x7:Ty.D (.int .i64)) (m3:Ty.D tUndo):z1T.l6 k (n6+1) x0 x5 x6 x7 m3=br (ilt x7 (ilen x0)) (br (inL x7 x0) (bnd (z0p.f k m3.1 ((rd tUndo x0 (natOf x7)).1)) fun r0=>br (bnot x6) (br (ile r0 0) (br (room x5 (m3::[])) (br (bnot (ieq r0 0)) (br (inL x7 x0) (br (room (app x5 (m3::[])) ((rd tUndo x0 (natOf x7))::[])) (z1T.l6 k n6 x0 (app (app x5 (m3::[])) ((rd tUndo x0 (natOf x7))::[])) true (iadd .i64 x7 1) m3) none) none) (z1T.l6 k n6 x0 (app x5 (m3::[])) true (iadd .i64 x7 1) m3)) none) (br (bnot (ieq r0 0)) (br (inL x7 x0) (br (room x5 ((rd tUndo x0 (natOf x7))::[])) (z1T.l6 k n6 x0 (app x5 ((rd tUndo x0 (natOf x7))::[])) x6 (iadd .i64 x7 1) m3) none) none) (z1T.l6 k n6 x0 x5 x6 (iadd .i64 x7 1) m3))) (br (bnot (ieq r0 0)) (br (inL x7 x0) (br (room x5 ((rd tUndo x0 (natOf x7))::[])) (z1T.l6 k n6 x0 (app x5 ((rd tUndo x0 (natOf x7))::[])) x6 (iadd .i64 x7 1) m3) none) none) (z1T.l6 k n6 x0 x5 x6 (iadd .i64 x7 1) m3))) none) (br (bnot x6) (br (room x5 (m3::[])) (some (app x5 (m3::[]))) none) (some x5)):=by kernel_rfl
def z1T.e (k:Nat):Entry:=Sg.entry z1T.sg fun x=>z1T.f k x.1 x.2
theorem z1T.ok (k:Nat):CallOK Tryz.prog 204 (z1T.e k):=fn_ok (c:=z1T.cx k) (code:=z1T.body) (TT.of tt_ok pp_ok mm_ok) (fns_ok ⟨(z23.ok k),(z2b.ok k),(z0p.ok k),trivial⟩) mixed Tryz.func204 (by kernel_rfl) (by kernel_rfl) (by kernel_rfl) (by kernel_rfl) (by kernel_rfl) (by kernel_rfl) (fun x=>by kernel_rfl)
def z1a.body:Go.Code:=Tryz.f151.body.getD .skip
def z1a.rs:List Go.ResultVar:=Tryz.f151.results.toList
def z1a.regs:List (Nat × RInfo):=[(0,ri [0,1] []),(1,⟨[1,5],[19],[0,1],[],0,[],[],[],[],[]⟩),(2,ri [1,5,6] [19]),(3,⟨[1,5,6,11],[19],[],[],0,[1,5,6],[19],[],[],[]⟩),(5,⟨[1,5,6],[19],[6],[],0,[],[],[],[],[]⟩),(4,ri [1,5,6] [19]),(6,⟨[4],[19],[0,1],[],0,[],[],[],[],[]⟩)]
def z1a.cx (k:Nat):Cx:=⟨tt,pp,[(204,(z1T.e k))],z1a.regs,k,mm⟩
@[reducible] def z1a.sg:Sg:=⟨[.dat (.slc tUndo),.dat (.slc tUndo)],[],.dat (.slc tUndo),[]⟩
def z1a.f (k:Nat) (a0:Ty.D (.slc tUndo)) (a1:Ty.D (.slc tUndo)):Option (Sg.Out z1a.sg):=Sg.fn z1a.sg (z1a.cx k) z1a.body z1a.rs (a0,a1)
def z1a.l3 (k:Nat) (n:Nat) (x1:Ty.D (.slc tUndo)) (x5:Ty.D (.slc tUndo)) (x6:Ty.D (.int .i64)):Option (Sg.Out z1a.sg):=loopAt (z1a.cx k) z1a.body [1,1,0,1,0] 3 [1,5,6] [19] [] (Sg.K z1a.sg (z1a.cx k) z1a.rs) n ⟨[(1,.dat (.slc tUndo) x1),(5,.dat (.slc tUndo) x5),(6,.dat (.int .i64) x6)],[]⟩
theorem z1a.f_eq (k:Nat) (a0:Ty.D (.slc tUndo)) (a1:Ty.D (.slc tUndo)):z1a.f k a0 a1=z1a.l3 k k a1 a0 0:=by kernel_rfl
theorem z1a.l3_eq (k:Nat) (n3:Nat) (x1:Ty.D (.slc tUndo)) (x5:Ty.D (.slc tUndo)) (x6:Ty.D (.int .i64)):z1a.l3 k (n3+1) x1 x5 x6=br (ilt x6 (ilen x1)) (br (inL x6 x1) (bnd (z1T.f k x5 (rd tUndo x1 (natOf x6))) fun r0=>z1a.l3 k n3 x1 r0 (iadd .i64 x6 1)) none) (some x5):=by kernel_rfl
def z1a.e (k:Nat):Entry:=Sg.entry z1a.sg fun x=>z1a.f k x.1 x.2
theorem z1a.ok (k:Nat):CallOK Tryz.prog 151 (z1a.e k):=fn_ok (c:=z1a.cx k) (code:=z1a.body) (TT.of tt_ok pp_ok mm_ok) (fns_ok ⟨(z1T.ok k),trivial⟩) mixed Tryz.func151 (by kernel_rfl) (by kernel_rfl) (by kernel_rfl) (by kernel_rfl) (by kernel_rfl) (by kernel_rfl) (fun x=>by kernel_rfl)
def z0R.body:Go.Code:=Tryz.f73.body.getD .skip
def z0R.rs:List Go.ResultVar:=Tryz.f73.results.toList
def z0R.regs:List (Nat × RInfo):=[(0,⟨[1,2,4],[2,4],[0],[],0,[],[],[],[],[]⟩),(1,⟨[2,4],[2,4],[5],[],0,[],[],[],[],[]⟩),(2,⟨[4],[4],[1],[],0,[],[],[],[],[]⟩)]
def z0R.cx (k:Nat):Cx:=⟨tt,pp,[(151,(z1a.e k))],z0R.regs,k,mm⟩
@[reducible] def z0R.sg:Sg:=⟨[.dat tState,.dat (.slc tUndo)],[],.dat tState,[]⟩
def z0R.f (k:Nat) (a0:Ty.D tState) (a1:Ty.D (.slc tUndo)):Option (Sg.Out z0R.sg):=Sg.fn z0R.sg (z0R.cx k) z0R.body z0R.rs (a0,a1)
theorem z0R.f_eq (k:Nat) (a0:Ty.D tState) (a1:Ty.D (.slc tUndo)):z0R.f k a0 a1=bnd (z1a.f k a0.2.1 a1) fun r0=>some (a0.1,(r0,a0.2.2)):=by kernel_rfl
def z0R.e (k:Nat):Entry:=Sg.entry z0R.sg fun x=>z0R.f k x.1 x.2
theorem z0R.ok (k:Nat):CallOK Tryz.prog 73 (z0R.e k):=fn_ok (c:=z0R.cx k) (code:=z0R.body) (TT.of tt_ok pp_ok mm_ok) (fns_ok ⟨(z1a.ok k),trivial⟩) mixed Tryz.func73 (by kernel_rfl) (by kernel_rfl) (by kernel_rfl) (by kernel_rfl) (by kernel_rfl) (by kernel_rfl) (fun x=>by kernel_rfl)
def z1b.body:Go.Code:=Tryz.f152.body.getD .skip
def z1b.rs:List Go.ResultVar:=Tryz.f152.results.toList
def z1b.regs:List (Nat × RInfo):=[(0,⟨[1,2,4],[2,4],[0],[],0,[],[],[],[],[]⟩),(1,ri [1,2,4,5] [2,4]),(2,⟨[1,2,4,5,9],[2,4],[],[],0,[1,2,4,5],[2,4],[],[],[]⟩),(4,⟨[1,2,4,5],[2,4],[8],[],7,[],[],[],[[],[],[],[],[],[],[1,5],[1,5],[1,5]],[]⟩),(3,ri [1,2,4,5] [2,4]),(5,⟨[4],[4],[1],[],0,[],[],[],[],[]⟩)]
def z1b.cx (k:Nat):Cx:=⟨tt,pp,[(150,(z2a.e k))],z1b.regs,k,mm⟩
@[reducible] def z1b.sg:Sg:=⟨[.dat tState,.dat (.slc tDot)],[],.dat tState,[]⟩
def z1b.f (k:Nat) (a0:Ty.D tState) (a1:Ty.D (.slc tDot)):Option (Sg.Out z1b.sg):=Sg.fn z1b.sg (z1b.cx k) z1b.body z1b.rs (a0,a1)
def z1b.l2 (k:Nat) (n:Nat) (x1:Ty.D (.slc tDot)) (x5:Ty.D (.int .i64)) (m2:Ty.D tState) (m4a:List (Ty.D tTxn)) (m4ba:List (Ty.D tUndo)) (m4bbaa:Ty.D tVec) (m4bbab:List (Ty.D tDot)) (m4bbbaa:Ty.D tVec) (m4bbbab:List (Ty.D tDot)) (m4bbbb:Ty.D (.arr 8 (.slc tDot))):Option (Sg.Out z1b.sg):=loopAt (z1b.cx k) z1b.body [1,0,1,0] 2 [1,2,4,5] [2,4] [] (Sg.K z1b.sg (z1b.cx k) z1b.rs) n ⟨[(1,.dat (.slc tDot) x1),(2,.ref 2 []),(4,.ref 4 []),(5,.dat (.int .i64) x5)],[(2,.dat tState m2),(4,.pr (.own tTxn m4a) (.pr (.own tUndo m4ba) (.pr (.pr (.dat tVec m4bbaa) (.own tDot m4bbab)) (.pr (.pr (.dat tVec m4bbbaa) (.own tDot m4bbbab)) (.dat (.arr 8 (.slc tDot)) m4bbbb)))))]⟩
theorem z1b.f_eq (k:Nat) (a0:Ty.D tState) (a1:Ty.D (.slc tDot)):z1b.f k a0 a1=z1b.l2 k k a1 0 a0 [] [] (zarr 16 0) [] (zarr 16 0) [] (zarr 8 []):=by kernel_rfl
theorem z1b.l2_eq (k:Nat) (n2:Nat) (x1:Ty.D (.slc tDot)) (x5:Ty.D (.int .i64)) (m2:Ty.D tState) (m4a:List (Ty.D tTxn)) (m4ba:List (Ty.D tUndo)) (m4bbaa:Ty.D tVec) (m4bbab:List (Ty.D tDot)) (m4bbbaa:Ty.D tVec) (m4bbbab:List (Ty.D tDot)) (m4bbbb:Ty.D (.arr 8 (.slc tDot))):z1b.l2 k (n2+1) x1 x5 m2 m4a m4ba m4bbaa m4bbab m4bbbaa m4bbbab m4bbbb=br (ilt x5 (ilen x1)) (br (inL x5 x1) (bnd (z2a.f k m2.2.2.2.1 (rd tDot x1 (natOf x5))) fun r0=>z1b.l2 k n2 x1 (iadd .i64 x5 1) (m2.1,(m2.2.1,(m2.2.2.1,(r0,m2.2.2.2.2)))) m4a m4ba m4bbaa m4bbab m4bbbaa m4bbbab m4bbbb) none) (some m2):=by kernel_rfl
def z1b.e (k:Nat):Entry:=Sg.entry z1b.sg fun x=>z1b.f k x.1 x.2
theorem z1b.ok (k:Nat):CallOK Tryz.prog 152 (z1b.e k):=fn_ok (c:=z1b.cx k) (code:=z1b.body) (TT.of tt_ok pp_ok mm_ok) (fns_ok ⟨(z2a.ok k),trivial⟩) mixed Tryz.func152 (by kernel_rfl) (by kernel_rfl) (by kernel_rfl) (by kernel_rfl) (by kernel_rfl) (by kernel_rfl) (fun x=>by kernel_rfl)
def z0u.body:Go.Code:=Tryz.f74.body.getD .skip
def z0u.rs:List Go.ResultVar:=Tryz.f74.results.toList
def z0u.regs:List (Nat × RInfo):=[(0,⟨[2,3,4],[2,3,4],[0,1],[],0,[],[],[],[],[]⟩),(1,ri [2,3,4,5] [2,3,4]),(2,⟨[2,3,4,5,10],[2,3,4],[],[],0,[2,3,4,5],[2,3,4],[],[],[]⟩),(4,⟨[2,3,4,5],[2,3,4],[7],[],7,[],[],[],[[],[],[],[],[2],[2],[0,5,2],[0,5,2]],[]⟩),(3,ri [2,3,4,5] [2,3,4]),(5,⟨[2,3,4],[2,3,4],[4],[],0,[],[],[],[],[]⟩),(6,⟨[4],[4],[4],[],0,[],[],[],[],[]⟩)]
def z0u.cx (k:Nat):Cx:=⟨tt,pp,[(72,(z1S.e k)),(73,(z0R.e k)),(152,(z1b.e k))],z0u.regs,k,mm⟩
@[reducible] def z0u.sg:Sg:=⟨[.dat tState,.dat tDelta],[],.dat tState,[]⟩
def z0u.f (k:Nat) (a0:Ty.D tState) (a1:Ty.D tDelta):Option (Sg.Out z0u.sg):=Sg.fn z0u.sg (z0u.cx k) z0u.body z0u.rs (a0,a1)
def z0u.l2 (k:Nat) (n:Nat) (x5:Ty.D (.int .i64)) (m2:Ty.D tState) (m3:Ty.D tDelta) (m4a:List (Ty.D tTxn)) (m4ba:List (Ty.D tUndo)) (m4bbaa:Ty.D tVec) (m4bbab:List (Ty.D tDot)) (m4bbbaa:Ty.D tVec) (m4bbbab:List (Ty.D tDot)) (m4bbbb:Ty.D (.arr 8 (.slc tDot))):Option (Sg.Out z0u.sg):=loopAt (z0u.cx k) z0u.body [1,0,1,0] 2 [2,3,4,5] [2,3,4] [] (Sg.K z0u.sg (z0u.cx k) z0u.rs) n ⟨[(2,.ref 2 []),(3,.ref 3 []),(4,.ref 4 []),(5,.dat (.int .i64) x5)],[(2,.dat tState m2),(3,.dat tDelta m3),(4,.pr (.own tTxn m4a) (.pr (.own tUndo m4ba) (.pr (.pr (.dat tVec m4bbaa) (.own tDot m4bbab)) (.pr (.pr (.dat tVec m4bbbaa) (.own tDot m4bbbab)) (.dat (.arr 8 (.slc tDot)) m4bbbb)))))]⟩
theorem z0u.f_eq (k:Nat) (a0:Ty.D tState) (a1:Ty.D tDelta):z0u.f k a0 a1=z0u.l2 k k 0 a0 a1 [] [] (zarr 16 0) [] (zarr 16 0) [] (zarr 8 []):=by kernel_rfl
theorem z0u.l2_eq (k:Nat) (n2:Nat) (x5:Ty.D (.int .i64)) (m2:Ty.D tState) (m3:Ty.D tDelta) (m4a:List (Ty.D tTxn)) (m4ba:List (Ty.D tUndo)) (m4bbaa:Ty.D tVec) (m4bbab:List (Ty.D tDot)) (m4bbbaa:Ty.D tVec) (m4bbbab:List (Ty.D tDot)) (m4bbbb:Ty.D (.arr 8 (.slc tDot))):z0u.l2 k (n2+1) x5 m2 m3 m4a m4ba m4bbaa m4bbab m4bbbaa m4bbbab m4bbbb=br (ilt x5 (ilen m3.1)) (br (inL x5 m3.1) (bnd (z1S.f k m2 (rd tTxn m3.1 (natOf x5))) fun r0=>z0u.l2 k n2 (iadd .i64 x5 1) r0 m3 m4a m4ba m4bbaa m4bbab m4bbbaa m4bbbab m4bbbb) none) (bnd (z0R.f k m2 m3.2.1) fun r1=>bnd (z1b.f k r1 m3.2.2) fun r2=>some r2):=by kernel_rfl
def z0u.e (k:Nat):Entry:=Sg.entry z0u.sg fun x=>z0u.f k x.1 x.2
theorem z0u.ok (k:Nat):CallOK Tryz.prog 74 (z0u.e k):=fn_ok (c:=z0u.cx k) (code:=z0u.body) (TT.of tt_ok pp_ok mm_ok) (fns_ok ⟨(z1S.ok k),(z0R.ok k),(z1b.ok k),trivial⟩) mixed Tryz.func74 (by kernel_rfl) (by kernel_rfl) (by kernel_rfl) (by kernel_rfl) (by kernel_rfl) (by kernel_rfl) (fun x=>by kernel_rfl)
def z1M.body:Go.Code:=Tryz.f18.body.getD .skip
def z1M.rs:List Go.ResultVar:=Tryz.f18.results.toList
def z1M.regs:List (Nat × RInfo):=[(0,⟨[2,3,4],[2,3,4],[0,1],[],0,[],[],[],[],[]⟩),(1,ri [2,3,4,9] [2,3,4]),(2,ri [2,3,4,9,10] [2,3,4]),(3,⟨[2,3,4],[2,3,4],[4],[],0,[],[],[],[],[]⟩),(4,ri [2,4] [2,4]),(5,ri [2,3,4,9,21] [2,3,4]),(6,⟨[2,3,4],[2,3,4],[5],[],0,[],[],[],[],[]⟩),(7,ri [2,3,4,5] [2,3,4]),(8,⟨[2,3,4,5],[2,3,4],[0,6,7],[],0,[],[],[],[],[]⟩),(9,ri [2,3,4,5,37] [2,3,4]),(10,⟨[2,3,4,5],[2,3,4],[0,5,6],[],0,[],[],[],[],[]⟩),(11,ri [2,3,4,5,6] [2,3,4]),(12,ri [2,3,4,5,6,7] [2,3,4]),(13,⟨[2,3,4,5,6,7,47],[2,3,4],[],[],0,[2,3,4,5,6,7],[2,3,4],[],[],[]⟩),(15,rq [2,3,4,5,6,7,57] [2,3,4] 8),(16,ri [2,3,4,5,6,7] [2,3,4]),(14,ri [2,3,4,5,6,7] [2,3,4]),(17,ri [2,3,4,5,6,65] [2,3,4]),(18,⟨[2,3,4,5],[2,3,4],[3],[],0,[],[],[],[],[]⟩),(19,⟨[2,4],[2,4],[5],[],0,[],[],[],[],[]⟩),(20,ri [2,3,4,9,74] [2,3,4]),(21,⟨[4],[4],[4],[],0,[],[],[],[],[]⟩),(22,ri [2,3,4,80] [2,3,4]),(23,⟨[4],[4],[2],[],0,[],[],[],[],[]⟩),(24,⟨[4],[4],[1],[],0,[],[],[],[],[]⟩)]
def z1M.cx (k:Nat):Cx:=⟨tt,pp,[(72,(z1S.e k)),(73,(z0R.e k)),(74,(z0u.e k))],z1M.regs,k,mm⟩
@[reducible] def z1M.sg:Sg:=⟨[.dat tState,.dat tRecord],[],.dat tState,[]⟩
def z1M.f (k:Nat) (a0:Ty.D tState) (a1:Ty.D tRecord):Option (Sg.Out z1M.sg):=Sg.fn z1M.sg (z1M.cx k) z1M.body z1M.rs (a0,a1)
def z1M.l13 (k:Nat) (n:Nat) (x5:List (Ty.D tDot)) (x6:Ty.D (.int .i64)) (x7:Ty.D (.int .i64)) (m2:Ty.D tState) (m3:Ty.D tRecord) (m4a:List (Ty.D tTxn)) (m4ba:List (Ty.D tUndo)) (m4bbaa:Ty.D tVec) (m4bbab:List (Ty.D tDot)) (m4bbbaa:Ty.D tVec) (m4bbbab:List (Ty.D tDot)) (m4bbbb:Ty.D (.arr 8 (.slc tDot))):Option (Sg.Out z1M.sg):=loopAt (z1M.cx k) z1M.body [1,0,1,0,1,1,1,0,1,1,1,1,1,0,1,0] 13 [2,3,4,5,6,7] [2,3,4] [] (Sg.K z1M.sg (z1M.cx k) z1M.rs) n ⟨[(2,.ref 2 []),(3,.ref 3 []),(4,.ref 4 []),(5,.own tDot x5),(6,.dat (.int .i64) x6),(7,.dat (.int .i64) x7)],[(2,.dat tState m2),(3,.dat tRecord m3),(4,.pr (.own tTxn m4a) (.pr (.own tUndo m4ba) (.pr (.pr (.dat tVec m4bbaa) (.own tDot m4bbab)) (.pr (.pr (.dat tVec m4bbbaa) (.own tDot m4bbbab)) (.dat (.arr 8 (.slc tDot)) m4bbbb)))))]⟩
theorem z1M.f_eq (k:Nat) (a0:Ty.D tState) (a1:Ty.D tRecord):z1M.f k a0 a1=br (ieq a1.1 1) (bnd (z1S.f k a0 a1.2.1) fun r0=>br (inB a1.2.1.2.1 8) (some (r0.1,(r0.2.1,(r0.2.2.1,(r0.2.2.2.1,(upd r0.2.2.2.2 (natOf a1.2.1.2.1) [])))))) none) (br (ieq a1.1 2) (bnd (z0R.f k a0 (a1.2.2.2.1::[])) fun r1=>br (inB a1.2.2.1 8) (br (room ([]:List Int) (rd (.slc tDot) r1.2.2.2.2 (natOf a1.2.2.1))) (br (ieq a1.2.2.2.2.1 1) (br (room (app [] (rd (.slc tDot) r1.2.2.2.2 (natOf a1.2.2.1))) (a1.2.2.2.1.1::[])) (z1M.l13 k k (app (app [] (rd (.slc tDot) r1.2.2.2.2 (natOf a1.2.2.1))) (a1.2.2.2.1.1::[])) (-1) 0 r1 a1 [] [] (zarr 16 0) [] (zarr 16 0) [] (zarr 8 [])) none) (z1M.l13 k k (app [] (rd (.slc tDot) r1.2.2.2.2 (natOf a1.2.2.1))) (-1) 0 r1 a1 [] [] (zarr 16 0) [] (zarr 16 0) [] (zarr 8 []))) none) none) (br (ieq a1.1 3) (bnd (z0u.f k a0 a1.2.2.2.2.2.1) fun r2=>some r2) (br (ieq a1.1 4) (some a1.2.2.2.2.2.2) (some a0)))):=by kernel_rfl
theorem z1M.l13_eq (k:Nat) (n13:Nat) (x5:List (Ty.D tDot)) (x6:Ty.D (.int .i64)) (x7:Ty.D (.int .i64)) (m2:Ty.D tState) (m3:Ty.D tRecord) (m4a:List (Ty.D tTxn)) (m4ba:List (Ty.D tUndo)) (m4bbaa:Ty.D tVec) (m4bbab:List (Ty.D tDot)) (m4bbbaa:Ty.D tVec) (m4bbbab:List (Ty.D tDot)) (m4bbbb:Ty.D (.arr 8 (.slc tDot))):z1M.l13 k (n13+1) x5 x6 x7 m2 m3 m4a m4ba m4bbaa m4bbab m4bbbaa m4bbbab m4bbbb=br (ilt x7 (ilen x5)) (br (inL x7 x5) (br (deq tDot (rd tDot x5 (natOf x7)) m3.2.2.2.1.1) (z1M.l13 k n13 x5 x7 (iadd .i64 x7 1) m2 m3 m4a m4ba m4bbaa m4bbab m4bbbaa m4bbbab m4bbbb) (z1M.l13 k n13 x5 x6 (iadd .i64 x7 1) m2 m3 m4a m4ba m4bbaa m4bbab m4bbbaa m4bbbab m4bbbb)) none) (br (ieq m3.2.2.2.2.1 2) (br (ile 0 x6) (br (inS 0 x6 (ilen x5)) (br (inB m3.2.2.1 8) (some (m2.1,(m2.2.1,(m2.2.2.1,(m2.2.2.2.1,(upd m2.2.2.2.2 (natOf m3.2.2.1) (piece x5 0 x6))))))) none) none) (br (inB m3.2.2.1 8) (some (m2.1,(m2.2.1,(m2.2.2.1,(m2.2.2.2.1,(upd m2.2.2.2.2 (natOf m3.2.2.1) x5)))))) none)) (br (inB m3.2.2.1 8) (some (m2.1,(m2.2.1,(m2.2.2.1,(m2.2.2.2.1,(upd m2.2.2.2.2 (natOf m3.2.2.1) x5)))))) none)):=by kernel_rfl
def z1M.e (k:Nat):Entry:=Sg.entry z1M.sg fun x=>z1M.f k x.1 x.2
theorem z1M.ok (k:Nat):CallOK Tryz.prog 18 (z1M.e k):=fn_ok (c:=z1M.cx k) (code:=z1M.body) (TT.of tt_ok pp_ok mm_ok) (fns_ok ⟨(z1S.ok k),(z0R.ok k),(z0u.ok k),trivial⟩) mixed Tryz.func18 (by kernel_rfl) (by kernel_rfl) (by kernel_rfl) (by kernel_rfl) (by kernel_rfl) (by kernel_rfl) (fun x=>by kernel_rfl)
def z0g.body:Go.Code:=Tryz.f3.body.getD .skip
def z0g.rs:List Go.ResultVar:=Tryz.f3.results.toList
def z0g.regs:List (Nat × RInfo):=[(0,⟨[2,3],[2,3],[0,1],[],0,[],[],[],[],[]⟩),(1,ri [2,3,14] [2,3]),(2,ri [4] [15,24,38,42,45]),(3,ri [2,3,5] [2,3,17]),(4,ri [2,3,5,21] [2,3,17]),(5,ri [4] [15,24,38,42,45]),(6,ri [2,3,23] [2,3]),(7,ri [4] [15,24,38,42,45]),(8,⟨[2,3,6],[2,3,6],[4],[],0,[],[],[],[],[]⟩),(9,rq [4] [15,24,38,42,45] 19)]
def z0g.cx (k:Nat):Cx:=⟨tt,pp,[(9,(z15.e k)),(10,(z0N.e k)),(11,(z0Q.e k)),(12,(z11.e k)),(13,(z0v.e k)),(14,(z0M.e k)),(15,(z0S.e k)),(16,(z1e.e k)),(18,(z1M.e k)),(17,(z1i.e k)),(19,(z0C.e k))],z0g.regs,k,mm⟩
@[reducible] def z0g.sg:Sg:=⟨[.dat tState,.dat tRecord],[],.dat .bool,[]⟩
def z0g.f (k:Nat) (a0:Ty.D tState) (a1:Ty.D tRecord):Option (Sg.Out z0g.sg):=Sg.fn z0g.sg (z0g.cx k) z0g.body z0g.rs (a0,a1)
theorem z0g.f_eq (k:Nat) (a0:Ty.D tState) (a1:Ty.D tRecord):z0g.f k a0 a1=bnd (z15.f k a0) fun r0=>br (bnot r0) (bnd (z0Q.f k) fun r1=>some r1) (bnd (z0N.f k a1) fun r2=>br (bnot r2) (bnd (z0Q.f k) fun r3=>some r3) (bnd (z11.f k a1) fun r4=>bnd (z0v.f k a1) fun r5=>br (bnot (deq .bool r5 r4)) (some false) (br (bnot r4) (bnd (z0Q.f k) fun r6=>some r6) (bnd (z0M.f k a0 a1) fun r7=>bnd (z0S.f k a1) fun r8=>bnd (z1e.f k a1) fun r9=>br (seq r8 r9) (bnd (z1M.f k a0 a1) fun r10=>bnd (z1i.f k r7 r10) fun r11=>br r11 (bnd (z0C.f k r7) fun r12=>br r12 (bnd (z0Q.f k) fun r13=>some r13) (some false)) (some false)) (some false))))):=by kernel_rfl
def z0g.e (k:Nat):Entry:=Sg.entry z0g.sg fun x=>z0g.f k x.1 x.2
theorem z0g.ok (k:Nat):CallOK Tryz.prog 3 (z0g.e k):=fn_ok (c:=z0g.cx k) (code:=z0g.body) (TT.of tt_ok pp_ok mm_ok) (fns_ok ⟨(z15.ok k),(z0N.ok k),(z0Q.ok k),(z11.ok k),(z0v.ok k),(z0M.ok k),(z0S.ok k),(z1e.ok k),(z1M.ok k),(z1i.ok k),(z0C.ok k),trivial⟩) mixed Tryz.func3 (by kernel_rfl) (by kernel_rfl) (by kernel_rfl) (by kernel_rfl) (by kernel_rfl) (by kernel_rfl) (fun x=>by kernel_rfl)
end Go.Proofs.YtggcagclpkhlhaaGreatDoor
end
noncomputable section
/- Sets of dots: one way to stand. -/
namespace Go.Proofs.YtggcagclpkhlhaaGreatDoor
open Pal
abbrev Vec:=List Int
abbrev DSet:=Vec × List Dot
def vat (v:Vec) (r:Int):Int:=rd (.int .i64) v (natOf r)
theorem rightD_iff (d:Dot):rightD d=true ↔ 0≤d.1∧d.1<16∧1≤d.2∧d.2≤1048576:=by unfold rightD;rw [decide_eq_true_iff]
theorem vat_get {v:Vec} {i:Nat} (h:i<v.length):vat v (i:Int)=v[i]:=by unfold vat;rw [natOf_nat];exact rd_at' (e:=.int .i64) h
theorem vat_upd {v:Vec} {r:Int} {x:Int} (h0:0≤r) (h1:r<v.length) (q:Int) (hq:0≤q):vat (upd v (natOf r) x) q=if q=r then x else vat v q:=by
 obtain ⟨a,rfl⟩:=Int.eq_ofNat_of_zero_le h0
 obtain ⟨b,rfl⟩:=Int.eq_ofNat_of_zero_le hq
 have ha:a<v.length:=by omega
 show ((v.set a x).getD b (0:Int))=if ((b:Int)=(a:Int)) then x else v.getD b (0:Int)
 rw [List.getD_eq_getElem?_getD,List.getD_eq_getElem?_getD,List.getElem?_set]
 by_cases h:a=b
 ·subst h;rw [if_pos rfl,if_pos ha,if_pos rfl];rfl
 ·rw [if_neg h,if_neg (by omega)]
structure VOk (v:Vec):Prop where
 len:v.length=16
 lo:∀ r,0≤r→r<16→0≤vat v r
 hi:∀ r,0≤r→r<16→vat v r≤1048576
structure Can (s:DSet):Prop where
 vok:VOk s.1
 rt:∀ d ∈ s.2,rightD d=true
 gap:∀ d ∈ s.2,vat s.1 d.1+1<d.2
 srt:s.2.Pairwise (fun a b=>dotLt a b=true)
def Mem (s:DSet) (d:Dot):Prop:=rightD d=true∧(d.2≤vat s.1 d.1∨d ∈ s.2)
theorem vec_ext {v u:Vec} (h1:v.length=16) (h2:u.length=16) (h:∀ r,0≤r→r<16→vat v r=vat u r):v=u:=by
 apply List.ext_getElem (by omega)
 intro i a b
 have:=h (i:Int) (by omega) (by omega)
 rwa [vat_get a,vat_get b] at this
theorem dotLt_asym {a b:Dot} (h:dotLt a b=true):dotLt b a=false:=by
 rw [← Bool.not_eq_true,dotLt_iff];rw [dotLt_iff] at h;omega
theorem srt_nodup {l:List Dot} (h:l.Pairwise (fun a b=>dotLt a b=true)):l.Nodup :=
 h.imp fun {a b} hab e=>by subst e;rw [dotLt_swo.irrefl] at hab;cases hab
theorem srt_unique {l m:List Dot} (h1:l.Pairwise (fun a b=>dotLt a b=true)) (h2:m.Pairwise (fun a b=>dotLt a b=true)) (h:∀ d,d ∈ l ↔ d ∈ m):l=m :=
 sorted_unique dotLt_tot ((List.perm_ext_iff_of_nodup (srt_nodup h1) (srt_nodup h2)).2 h) (h1.imp dotLt_asym) (h2.imp dotLt_asym)
theorem can_le {s t:DSet} (hs:Can s) (ht:Can t) (h:∀ d,Mem s d→Mem t d) (r:Int) (h0:0≤r) (h1:r<16):vat s.1 r≤vat t.1 r:=by
 rcases (by omega:vat t.1 r<vat s.1 r∨vat s.1 r≤vat t.1 r) with hlt | hge
 ·exfalso
  have a:=ht.vok.lo r h0 h1
  have b:=hs.vok.hi r h0 h1
  have hr:rightD (r,vat t.1 r+1)=true:=(rightD_iff _).2 ⟨h0,h1,by show 1≤vat t.1 r+1;omega,by show vat t.1 r+1≤1048576;omega⟩
  have hm:=h (r,vat t.1 r+1) ⟨hr,.inl (by show vat t.1 r+1≤vat s.1 r;omega)⟩
  rcases hm.2 with c | c
  ·have:vat t.1 r+1≤vat t.1 r:=c;omega
  ·have:vat t.1 r+1<vat t.1 r+1:=ht.gap _ c;omega
 ·exact hge
theorem can_unique {s t:DSet} (hs:Can s) (ht:Can t) (h:∀ d,Mem s d ↔ Mem t d):s=t:=by
 have hv:∀ r,0≤r→r<16→vat s.1 r=vat t.1 r:=fun r h0 h1=>Int.le_antisymm (can_le hs ht (fun d=>(h d).1) r h0 h1) (can_le ht hs (fun d=>(h d).2) r h0 h1)
 apply Prod.ext
 ·exact vec_ext hs.vok.len ht.vok.len hv
 ·refine srt_unique hs.srt ht.srt fun d=>⟨fun hd=>?_,fun hd=>?_⟩
  ·have hr:=hs.rt d hd
   obtain ⟨a,b,_,_⟩:=(rightD_iff d).1 hr
   rcases ((h d).1 ⟨hr,.inr hd⟩).2 with c | c
   ·have:=hs.gap d hd;rw [hv d.1 a b] at this;omega
   ·exact c
  ·have hr:=ht.rt d hd
   obtain ⟨a,b,_,_⟩:=(rightD_iff d).1 hr
   rcases ((h d).2 ⟨hr,.inr hd⟩).2 with c | c
   ·have:=ht.gap d hd;rw [← hv d.1 a b] at this;omega
   ·exact c
def put1 (s:DSet) (d:Dot):DSet :=
 if d.2≤vat s.1 d.1 then s else if d.2=vat s.1 d.1+1 then (upd s.1 (natOf d.1) d.2,s.2) else if s.2.getLast? = some d then s else (s.1,s.2++[d])
theorem put1_can {s:DSet} {d:Dot} (hs:Can s) (hd:rightD d=true) (hb:∀ e ∈ s.2,dotLt d e=false):Can (put1 s d)∧(∀ x,Mem (put1 s d) x ↔ Mem s x∨x=d)∧(∀ e ∈ (put1 s d).2,e ∈ s.2∨e=d):=by
 obtain ⟨a,b,c1,c2⟩:=(rightD_iff d).1 hd
 have hlen:=hs.vok.len
 unfold put1
 by_cases h1:d.2≤vat s.1 d.1
 ·rw [if_pos h1]
  exact ⟨hs,fun x=>⟨.inl,fun h=>h.elim id fun e=>by subst e;exact ⟨hd,.inl h1⟩⟩,fun e he=>.inl he⟩
 ·rw [if_neg h1]
  by_cases h2:d.2=vat s.1 d.1+1
  ·rw [if_pos h2]
   have hne:∀ e ∈ s.2,e.1 ≠ d.1:=fun e he hee=>by
    have g:=hs.gap e he
    have:=hb e he
    rw [← Bool.not_eq_true,dotLt_iff] at this
    rw [hee] at g
    omega
   have hv:∀ q,0≤q→q<16→vat (upd s.1 (natOf d.1) d.2) q=if q=d.1 then d.2 else vat s.1 q:=fun q h0 _=>vat_upd a (by omega) q h0
   refine ⟨⟨⟨by simp [upd,hlen],fun r h0 h1=>?_,fun r h0 h1=>?_⟩,hs.rt,fun e he=>?_,hs.srt⟩,fun x=>⟨fun ⟨hr,h⟩=>?_,fun h=>?_⟩,fun e he=>.inl he⟩
   ·rw [hv r h0 h1];split
    ·omega
    ·exact hs.vok.lo r h0 h1
   ·rw [hv r h0 h1];split
    ·omega
    ·exact hs.vok.hi r h0 h1
   ·obtain ⟨q0,q1,_,_⟩:=(rightD_iff e).1 (hs.rt e he)
    show vat (upd s.1 (natOf d.1) d.2) e.1+1<e.2
    rw [hv e.1 q0 q1,if_neg (hne e he)];exact hs.gap e he
   ·obtain ⟨q0,q1,_,_⟩:=(rightD_iff x).1 hr
    rcases h with h | h
    ·have h:x.2≤vat (upd s.1 (natOf d.1) d.2) x.1:=h
     rw [hv x.1 q0 q1] at h
     split at h
     ·rename_i hx
      by_cases he:x.2=d.2
      ·exact .inr (Prod.ext hx he)
      ·exact .inl ⟨hr,.inl (by rw [hx];omega)⟩
     ·exact .inl ⟨hr,.inl h⟩
    ·exact .inl ⟨hr,.inr h⟩
   ·rcases h with ⟨hr,h⟩ | rfl
    ·obtain ⟨q0,q1,_,_⟩:=(rightD_iff x).1 hr
     rcases h with h | h
     ·refine ⟨hr,.inl ?_⟩
      show x.2≤vat (upd s.1 (natOf d.1) d.2) x.1
      rw [hv x.1 q0 q1];split
      ·rename_i hx;rw [hx] at h;omega
      ·exact h
     ·exact ⟨hr,.inr h⟩
    ·refine ⟨hd,.inl ?_⟩
     show x.2≤vat (upd s.1 (natOf x.1) x.2) x.1
     rw [hv x.1 a b,if_pos rfl];exact Int.le_refl _
  ·rw [if_neg h2]
   by_cases h3:s.2.getLast? = some d
   ·rw [if_pos h3]
    have hmem:d ∈ s.2:=List.mem_of_getLast? h3
    exact ⟨hs,fun x=>⟨.inl,fun h=>h.elim id fun e=>by subst e;exact ⟨hd,.inr hmem⟩⟩,fun e he=>.inl he⟩
   ·rw [if_neg h3]
    have hlt:∀ e ∈ s.2,dotLt e d=true:=by
     intro e he
     cases hh:dotLt e d with
     | true=>rfl
     | false =>
      exfalso
      have heq:=dotLt_tot e d hh (hb e he)
      subst heq
      obtain ⟨p,q,hpq⟩:=List.append_of_mem he
      cases q with
      | nil=>rw [hpq] at h3;simp at h3
      | cons z zs =>
       have hsr:=hs.srt
       rw [hpq] at hsr
       have h5:=(List.pairwise_append.1 hsr).2.1
       have h6:=(List.pairwise_cons.1 h5).1 z (by simp)
       have h7:=hb z (by rw [hpq];simp)
       rw [h6] at h7;cases h7
    refine ⟨⟨hs.vok,fun e he=>?_,fun e he=>?_,?_⟩,fun x=>⟨fun ⟨hr,h⟩=>?_,fun h=>?_⟩,fun e he=>?_⟩
    ·rcases List.mem_append.1 he with he | he
     ·exact hs.rt e he
     ·rw [List.mem_singleton.1 he];exact hd
    ·rcases List.mem_append.1 he with he | he
     ·exact hs.gap e he
     ·rw [List.mem_singleton.1 he];show vat s.1 d.1+1<d.2;omega
    ·exact List.pairwise_append.2 ⟨hs.srt,List.pairwise_singleton _ _,fun e he f hf=>by rw [List.mem_singleton.1 hf];exact hlt e he⟩
    ·rcases h with h | h
     ·exact .inl ⟨hr,.inl h⟩
     ·rcases List.mem_append.1 h with h | h
      ·exact .inl ⟨hr,.inr h⟩
      ·exact .inr (List.mem_singleton.1 h)
    ·rcases h with ⟨hr,h⟩ | rfl
     ·exact ⟨hr,h.imp id fun h=>List.mem_append.2 (.inl h)⟩
     ·exact ⟨hd,.inr (List.mem_append.2 (.inr (by simp)))⟩
    ·rcases List.mem_append.1 he with he | he
     ·exact .inl he
     ·exact .inr (List.mem_singleton.1 he)
def mk (v:Vec) (l:List Dot):DSet:=l.foldl put1 (v,[])
theorem mk_can {v : Vec} (hv : VOk v) : ∀ (l : List Dot), (∀ d ∈ l, rightD d = true) → l.Pairwise (fun a b => dotLt b a = false) →
    Can (mk v l) ∧ (∀ x, Mem (mk v l) x ↔ rightD x = true ∧ (x.2 ≤ vat v x.1 ∨ x ∈ l)) ∧ (mk v l).2.length ≤ l.length ∧ ∀ e ∈ (mk v l).2, e ∈ l := by
  have key : ∀ (l p : List Dot) (s : DSet), (∀ d ∈ p ++ l, rightD d = true) → (p ++ l).Pairwise (fun a b => dotLt b a = false) → Can s → (∀ x, Mem s x ↔ rightD x = true ∧ (x.2 ≤ vat v x.1 ∨ x ∈ p)) → s.2.length ≤ p.length → (∀ e ∈ s.2, e ∈ p) →
      Can (l.foldl put1 s) ∧ (∀ x, Mem (l.foldl put1 s) x ↔ rightD x = true ∧ (x.2 ≤ vat v x.1 ∨ x ∈ p ++ l)) ∧ (l.foldl put1 s).2.length ≤ (p ++ l).length ∧ ∀ e ∈ (l.foldl put1 s).2, e ∈ p ++ l := by
    intro l
    induction l with
    | nil => intro p s _ _ hc hm hl he; rw [List.append_nil]; exact ⟨hc, hm, hl, he⟩
    | cons d l ih =>
      intro p s hr hp hc hm hl he
      have hd : rightD d = true := hr d (by simp)
      have hbb : ∀ e ∈ s.2, dotLt d e = false := fun e hee => (List.pairwise_append.1 hp).2.2 e (he e hee) d (by simp)
      obtain ⟨c1, c2, c3⟩ := put1_can hc hd hbb
      have := ih (p ++ [d]) (put1 s d) (by simpa using hr) (by simpa using hp) c1 (fun x => by
          rw [c2, hm]
          constructor
          · rintro (⟨h1, h2⟩ | rfl)
            · exact ⟨h1, h2.imp id fun h => List.mem_append.2 (.inl h)⟩
            · exact ⟨hd, .inr (by simp)⟩
          · rintro ⟨h1, h2 | h2⟩
            · exact .inl ⟨h1, .inl h2⟩
            · rcases List.mem_append.1 h2 with h3 | h3
              · exact .inl ⟨h1, .inr h3⟩
              · exact .inr (List.mem_singleton.1 h3)) (by
          unfold put1; simp only [List.length_append, List.length_singleton]
          split
          · omega
          · split
            · show s.2.length ≤ _; omega
            · split
              · omega
              · simp; omega) (fun e hee => by
          rcases c3 e hee with h | h
          · exact List.mem_append.2 (.inl (he e h))
          · exact List.mem_append.2 (.inr (by simp [h])))
      rw [List.append_assoc] at this; exact this
  intro l hr hs
  have h0 : Can (v, []) := ⟨hv, fun d hd => by simp at hd, fun d hd => by simp at hd, List.Pairwise.nil⟩
  have := key l [] (v, []) (by simpa using hr) (by simpa using hs) h0 (fun x => by simp [Mem]) (Nat.le_refl _) (fun e he => he)
  exact this
end Go.Proofs.YtggcagclpkhlhaaGreatDoor
end
noncomputable section
/- What the functions of the layer of dots compute. -/
namespace Go.Proofs.YtggcagclpkhlhaaGreatDoor
open Pal
theorem iadd_s {a b:Int} (h1:-1000000000000≤a) (h2:a≤1000000000000) (h3:-1000000000000≤b) (h4:b≤1000000000000):iadd .i64 a b=a+b:=by
 have e1:((2:Int) ^ 63)=9223372036854775808:=by decide
 show IntKind.wrap .i64 (a+b)=_
 rw [wrap_i64 (by rw [e1];omega) (by rw [e1];omega)]
theorem isub_s {a b:Int} (h1:-1000000000000≤a) (h2:a≤1000000000000) (h3:-1000000000000≤b) (h4:b≤1000000000000):isub .i64 a b=a - b:=by
 have e1:((2:Int) ^ 63)=9223372036854775808:=by decide
 show IntKind.wrap .i64 (a - b)=_
 rw [wrap_i64 (by rw [e1];omega) (by rw [e1];omega)]
theorem inB16 {r:Int} (h0:0≤r) (h1:r<16):inB r 16=true:=by simp [inB,h0];omega
theorem room1 {α:Type} {xs:List α} {x:α} (h:xs.length<4000000):room xs (x::[])=true:=by simp [room];omega
theorem ile_dec (a b:Int):ile a b=decide (a≤b):=rfl
theorem ilt_dec (a b:Int):ilt a b=decide (a<b):=rfl
theorem deqD (a b:Dot):deq tDot a b=decide (a=b):=deq_dec (τ:=tDot) rfl a b
theorem last_rd {M:List Dot} {m:Nat} (hl:M.length=m+1) (hb:m<4000000):rd tDot M (natOf (isub .i64 (ilen M) 1))=M[m]:=by
 rw [isub_s (by unfold ilen;omega) (by unfold ilen;omega) (by omega) (by omega),show ilen M - 1=(m:Int) by unfold ilen;omega,natOf_nat]
 exact rd_at' (e:=tDot) (by omega)
theorem last_in {M:List Dot} {m:Nat} (hl:M.length=m+1) (hb:m<4000000):inL (isub .i64 (ilen M) 1) M=true:=by
 rw [isub_s (by unfold ilen;omega) (by unfold ilen;omega) (by omega) (by omega),show ilen M - 1=(m:Int) by unfold ilen;omega,inL_nat]
 simp;omega
theorem getLast_is {M:List Dot} {m:Nat} (hl:M.length=m+1):M.getLast? = some M[m]:=by
 rw [List.getLast?_eq_getElem?];exact List.getElem?_eq_some_iff.2 ⟨by omega,by simp [hl]⟩
theorem take_next {l:List Dot} {i:Nat} (hi:i<l.length):l.take (i+1)=l.take i++[l[i]]:=by rw [List.take_add_one,List.getElem?_eq_getElem hi];rfl
theorem made_l (k:Nat) (l:List Dot) (hl:l.length<1000000) (hr:∀ d ∈ l,rightD d=true) (hs:l.Pairwise (fun a b=>dotLt b a=false)) (v:Vec) (hv:VOk v) (za:Vec) (zb:List Dot):∀ (n i:Nat),i≤l.length→l.length<n+i →
  z1U.l3 k n l (ilen l) (i:Int) za zb (mk v (l.take i)).1 (mk v (l.take i)).2=some (mk v l)
 | 0,i,h,h'=>by omega
 | n+1,i,h,h'=>by
  rw [z1U.l3_eq,ilt_nat,inL_nat,natOf_nat]
  by_cases hi:i<l.length
  ·have hstep:mk v (l.take (i+1))=put1 (mk v (l.take i)) l[i]:=by rw [take_next hi];unfold mk;rw [List.foldl_append];rfl
   obtain ⟨hc,hm,hml,_⟩:=mk_can hv (l.take i) (fun d hd=>hr d (List.mem_of_mem_take hd)) (hs.sublist (List.take_sublist i l))
   have ih:=made_l k l hl hr hs v hv za zb n (i+1) (by omega) (by omega)
   rw [hstep] at ih
   have hmk:mk v (l.take i)=mk v (l.take i):=rfl
   generalize mk v (l.take i)=s at hc hm hml ih hstep ⊢
   obtain ⟨V,M⟩:=s
   obtain ⟨r0,r1,r2,r3⟩:=(rightD_iff l[i]).1 (hr _ (List.getElem_mem hi))
   rw [rd_at' (e:=tDot) hi,iadd_nat (by omega)]
   obtain ⟨d,hd⟩:∃ d:Dot,d=l[i]:=⟨_,rfl⟩
   rw [← hd] at r0 r1 r2 r3 ih ⊢
   have hvv:rd (.int .i64) V (natOf d.1)=vat V d.1:=rfl
   have v0:=hc.vok.lo d.1 r0 r1
   have v1:=hc.vok.hi d.1 r0 r1
   have v0':0≤vat V d.1:=v0
   have v1':vat V d.1≤1048576:=v1
   have hML:M.length≤i:=by have:M.length≤(l.take i).length:=hml;rw [List.length_take] at this;omega
   simp only [hi,decide_true,br_true,inB16 r0 r1,hvv,ile_dec]
   rw [iadd_s (by omega) (by omega) (by omega) (by omega),ieq_dec,ieq_dec]
   unfold put1 at ih
   by_cases h1:d.2≤vat V d.1
   ·simp only [h1,decide_true,br_true,if_true] at ih ⊢;exact ih
   ·by_cases h2:d.2=vat V d.1+1
    ·rw [if_neg h1,if_pos h2] at ih
     rw [decide_eq_false h1,decide_eq_true h2];exact ih
    ·simp only [h1,h2,decide_false,br_false,if_false] at ih ⊢
     rw [room1 (by omega)]
     cases hM:M.length with
     | zero =>
      have hM0:M=[]:=List.eq_nil_of_length_eq_zero hM
      subst hM0
      simp only [List.getLast?_nil,reduceCtorEq,if_false] at ih
      have:decide (ilen ([]:List Dot)=0)=true:=rfl
      rw [this];simp only [br_true];exact ih
     | succ m =>
      have h4:¬ (ilen M=0):=by unfold ilen;omega
      rw [last_in hM (by omega),last_rd hM (by omega),deqD,bnot_dec]
      simp only [h4,decide_false,br_true,br_false]
      rw [getLast_is hM] at ih
      by_cases h5:M[m]=d
      ·simp only [h5,if_true,decide_true,decide_false,not_true,br_false] at ih ⊢;exact ih
      ·have h6:¬ (some M[m]=some d):=fun e=>h5 (Option.some.inj e)
       simp only [h5,h6,if_false,not_false_eq_true,decide_true,br_true] at ih ⊢;exact ih
  ·have:i=l.length:=by omega
   subst this
   simp only [List.take_length,Nat.lt_irrefl,decide_false,br_false]
theorem made_is (k:Nat) (l:List Dot) (hl:l.length<k) (hk:k<1000000) (hr:∀ d ∈ l,rightD d=true) (hs:l.Pairwise (fun a b=>dotLt b a=false)) (v:Vec) (hv:VOk v):z1U.f k v l=some (mk v l):=by
 rw [z1U.f_eq]
 exact made_l k l (by omega) hr hs v hv (zarr 16 0) [] k 0 (by omega) (by omega)
theorem vok0:VOk (zarr 16 0):=⟨rfl,fun r h0 h1=>by
  obtain ⟨a,rfl⟩:=Int.eq_ofNat_of_zero_le h0
  have:a<16:=by omega
  have e:vat (zarr 16 0) (a:Int)=0:=by rw [vat_get (by show a<16;omega)];exact List.getElem_replicate ..
  rw [e];exact Int.le_refl _,fun r h0 h1=>by
  obtain ⟨a,rfl⟩:=Int.eq_ofNat_of_zero_le h0
  have e:vat (zarr 16 0) (a:Int)=0:=by rw [vat_get (by show a<16;omega)];exact List.getElem_replicate ..
  rw [e];decide⟩
theorem vat0 (r:Int) (h0:0≤r) (h1:r<16):vat (zarr 16 0) r=0:=by
 obtain ⟨a,rfl⟩:=Int.eq_ofNat_of_zero_le h0
 rw [vat_get (by show a<16;omega)];exact List.getElem_replicate ..
def ofD (l:List Dot):DSet:=mk (zarr 16 0) (isort dotLt (kept rightD l))
theorem kept_mem {l:List Dot} {d:Dot}:d ∈ isort dotLt (kept rightD l) ↔ d ∈ l∧rightD d=true:=by
 rw [(isort_perm dotLt _).mem_iff];unfold kept;rw [List.mem_filter]
theorem ofD_can (l:List Dot):Can (ofD l)∧(∀ x,Mem (ofD l) x ↔ rightD x=true∧x ∈ l)∧(ofD l).2.length≤l.length:=by
 obtain ⟨h1,h2,h3,_⟩:=mk_can vok0 (isort dotLt (kept rightD l)) (fun d hd=>(kept_mem.1 hd).2) (isort_sorted dotLt_swo _)
 refine ⟨h1,fun x=>?_,?_⟩
 ·rw [show Mem (ofD l) x ↔ _ from h2 x,kept_mem]
  constructor
  ·rintro ⟨a,b | b⟩
   ·obtain ⟨q0,q1,q2,_⟩:=(rightD_iff x).1 a
    rw [vat0 x.1 q0 q1] at b;omega
   ·exact ⟨a,b.1⟩
  ·rintro ⟨a,b⟩;exact ⟨a,.inr ⟨b,a⟩⟩
 ·refine Nat.le_trans h3 ?_
  rw [(isort_perm dotLt _).length_eq];exact List.length_filter_le _ _
theorem of_is (k:Nat) (l:List Dot) (hl:l.length<k) (hk:k<1000000):z2s.f k l=some (ofD l):=by
 have h1:room ([]:List Int) l=true:=by simp [room];omega
 have h2:(kept rightD l).length≤l.length:=List.length_filter_le _ _
 have h3:room ([]:List Int) (kept dotKeep l)=true:=by simp [room];have:(kept dotKeep l).length≤l.length:=h2;omega
 rw [z2s.f_eq,h1,h3]
 simp only [br_true]
 rw [made_is k _ (by rw [(isort_perm dotLt _).length_eq];exact Nat.lt_of_le_of_lt h2 hl) hk (fun d hd=>(kept_mem.1 hd).2) (isort_sorted dotLt_swo _) _ vok0]
 rfl
theorem rright_is (k:Nat) (d:Dot):z0W.f k d=some (rightD d):=by
 rw [z0W.f_eq]
 have:ile d.1 15=ilt d.1 16:=by unfold ile ilt;congr 1;exact propext ⟨fun h=>by omega,fun h=>by omega⟩
 rw [this]
 have:=right_is k d
 rw [z1P.f_eq] at this
 exact this
def memB (s:DSet) (d:Dot):Bool:=rightD d && (decide (d.2≤vat s.1 d.1) || decide (d ∈ s.2))
theorem memB_iff (s:DSet) (d:Dot):memB s d=true ↔ Mem s d:=by simp [memB,Mem]
theorem vhas_is (k:Nat) (v:Vec) (d:Dot):z2r.f k v d=some (rightD d && decide (d.2≤vat v d.1)):=by
 rw [z2r.f_eq,right_is]
 simp only [bnd]
 cases h:rightD d with
 | false=>rfl
 | true =>
  obtain ⟨a,b,_,_⟩:=(rightD_iff d).1 h
  rw [inB16 a b];rfl
theorem rvhas_is (k:Nat) (v:Vec) (d:Dot):z1X.f k v d=some (rightD d && decide (d.2≤vat v d.1)):=by
 rw [z1X.f_eq,rright_is]
 simp only [bnd]
 cases h:rightD d with
 | false=>rfl
 | true =>
  obtain ⟨a,b,_,_⟩:=(rightD_iff d).1 h
  rw [inB16 a b];rfl
theorem any_step {α:Type} {xs:List α} {i:Nat} (h:i<xs.length) (p:α→Bool):(xs.drop i).any p=(p xs[i] || (xs.drop (i+1)).any p):=by
 rw [List.drop_eq_getElem_cons h,List.any_cons]
theorem rhas_l (k:Nat) (s:DSet) (d:Dot) (hl:s.2.length<1000000):∀ (n i:Nat),i≤s.2.length→s.2.length<n+i→z1Y.l4 k n (i:Int) s d=some ((s.2.drop i).any fun e=>decide (e=d))
 | 0,i,h,h'=>by omega
 | n+1,i,h,h'=>by
  rw [z1Y.l4_eq,ilt_nat,inL_nat,natOf_nat]
  by_cases hi:i<s.2.length
  ·rw [any_step hi,rd_at' (e:=tDot) hi,deqD,iadd_nat (by omega),rhas_l k s d hl n (i+1) (by omega) (by omega)]
   by_cases he:s.2[i]=d <;> simp [hi,he,br_true,br_false]
  ·rw [List.drop_of_length_le (by omega)];simp [hi,br_false]
theorem any_mem (l:List Dot) (d:Dot):(l.any fun e=>decide (e=d))=decide (d ∈ l):=by
 rw [Bool.eq_iff_iff];simp
theorem rhas_is (k:Nat) (s:DSet) (d:Dot) (hl:s.2.length<k) (hk:k<1000000) (hr:∀ e ∈ s.2,rightD e=true):z1Y.f k s d=some (memB s d):=by
 rw [z1Y.f_eq,rvhas_is]
 simp only [bnd]
 have:=rhas_l k s d (by omega) k 0 (by omega) (by omega)
 rw [List.drop_zero,any_mem] at this
 rw [show z1Y.l4 k k 0 s d=_ from this]
 unfold memB
 cases h:rightD d with
 | false =>
  have:d ∉ s.2:=fun hd=>by rw [hr d hd] at h;cases h
  simp [this,br_false]
 | true =>
  by_cases h2:d.2≤vat s.1 d.1 <;> simp [h2,br_true,br_false]
end Go.Proofs.YtggcagclpkhlhaaGreatDoor
end
noncomputable section
/- What the functions of the layer of dots compute, on. -/
namespace Go.Proofs.YtggcagclpkhlhaaGreatDoor
open Pal
theorem wrap_u64 {n:Int} (h1:0≤n) (h2:n<2 ^ 63):IntKind.wrap .u64 n=n:=by
 have e1:((2:Int) ^ 63)=9223372036854775808:=by decide
 rw [e1] at h2
 simp only [IntKind.wrap,IntKind.signed,IntKind.bits]
 simp
 omega
theorem mid_is {i j:Nat} (h:i+j<1000000000):iwrap .i64 (ishr .u64 (iwrap .u64 (iadd .i64 (i:Int) (j:Int))) 1)=(((i+j) / 2:Nat):Int):=by
 have e1:((2:Int) ^ 63)=9223372036854775808:=by decide
 rw [iadd_s (by omega) (by omega) (by omega) (by omega)]
 unfold iwrap ishr
 rw [wrap_u64 (by omega) (by rw [e1];omega)]
 have e2:(2:Int) ^ (min (1:Int).toNat (IntKind.bits .u64))=2:=by decide
 rw [e2,show (i:Int)+(j:Int)=((i+j:Nat):Int) by omega]
 have e3:Int.fdiv ((i+j:Nat):Int) 2=(((i+j) / 2:Nat):Int):=by
  rw [Int.fdiv_eq_ediv_of_nonneg _ (by decide)];rfl
 rw [e3,wrap_i64 (by rw [e1];omega) (by rw [e1];omega)]
def Found (l:List Dot) (d:Dot) (p:Nat) (b:Bool):Prop :=
 p≤l.length∧(∀ j (h:j<l.length),j<p→dotLt l[j] d=true)∧(∀ j (h:j<l.length),p≤j→dotLt l[j] d=false)∧b=decide (d ∈ l)
theorem srt_get {l:List Dot} (hs:l.Pairwise (fun a b=>dotLt a b=true)) {i j:Nat} (hi:i<l.length) (hj:j<l.length) (h:i<j):dotLt l[i] l[j]=true:=List.pairwise_iff_getElem.1 hs i j hi hj h
theorem cmp_lt0 (a b:Dot):ilt (cmpD a b) 0=dotLt a b:=rfl
theorem cmp_eq0 (a b:Dot):ieq (cmpD a b) 0=decide (a=b):=by
 rw [ieq_dec];congr 1
 unfold cmpD
 apply propext
 by_cases h:a.1=b.1
 ·rw [if_pos ((cmpI_eq _ _).2 h),cmpI_eq];exact ⟨fun h2=>Prod.ext h h2,fun e=>by rw [e]⟩
 ·rw [if_neg (fun e=>h ((cmpI_eq _ _).1 e)),cmpI_eq];exact ⟨fun e=>absurd e h,fun e=>by rw [e]⟩
theorem bs_l (k:Nat) (l:List Dot) (d:Dot) (hl:l.length<1000000) (hs:l.Pairwise (fun a b=>dotLt a b=true)):∀ (n i j:Nat),i≤j→j≤l.length→j<n+i→(∀ t (h:t<l.length),t<i→dotLt l[t] d=true)→(∀ t (h:t<l.length),j≤t→dotLt l[t] d=false) →
  ∃ p b,Found l d p b∧z00.l3 (k+3) n l (ilen l) (i:Int) (j:Int) d=some ((p:Int),b)
 | 0,i,j,h,_,h',_,_=>by omega
 | n+1,i,j,hij,hj,hn,h1,h2=>by
  rw [z00.l3_eq,ilt_nn,mid_is (by omega)]
  by_cases hlt:i<j
  ·have hm:(i+j) / 2<l.length:=by omega
   rw [inL_nat,natOf_nat,rd_at' (e:=tDot) hm,cmpD_is]
   simp only [hlt,hm,decide_true,br_true,br_false,bnd,cmp_lt0]
   have hi':i≤(i+j) / 2:=by omega
   have hj':(i+j) / 2<j:=by omega
   generalize (i+j) / 2=m at hm hi' hj' ⊢
   cases hc:dotLt l[m] d with
   | true =>
    rw [iadd_nat (by omega)]
    simp only [br_true]
    exact bs_l k l d hl hs n (m+1) j (by omega) hj (by omega) (fun t ht htm=>by
     rcases Nat.lt_or_ge t m with h | h
     ·exact dotLt_swo.trans _ _ _ (srt_get hs ht hm h) hc
     ·have:t=m:=by omega
      subst this;exact hc) h2
   | false =>
    simp only [br_false]
    exact bs_l k l d hl hs n i m hi' (by omega) (by omega) h1 (fun t ht htm=>by
     rcases Nat.lt_or_ge m t with h | h
     ·cases hh:dotLt l[t] d with
      | false=>rfl
      | true=>exfalso;have:=dotLt_swo.trans _ _ _ (srt_get hs hm ht h) hh;rw [hc] at this;cases this
     ·have:t=m:=by omega
      subst this;exact hc)
  ·have:i=j:=by omega
   subst this
   have hge:∀ t (h:t<l.length),l[t]=d→i≤t:=fun t h e=>by
    rcases Nat.lt_or_ge t i with hh | hh
    ·have:=h1 t h hh;rw [e,dotLt_swo.irrefl] at this;cases this
    ·exact hh
   simp only [Nat.lt_irrefl,decide_false,br_false,ilt_nat,inL_nat,natOf_nat]
   by_cases hil:i<l.length
   ·rw [rd_at' (e:=tDot) hil,cmpD_is]
    simp only [hil,decide_true,br_true,bnd,cmp_eq0]
    refine ⟨i,_,⟨hj,h1,h2,?_⟩,rfl⟩
    congr 1
    apply propext
    constructor
    ·intro e;rw [← e];exact List.getElem_mem hil
    ·intro e
     obtain ⟨t,ht,he⟩:=List.getElem_of_mem e
     have h3:=hge t ht he
     rcases Nat.lt_or_ge i t with hh | hh
     ·have h4:=srt_get hs hil ht hh
      rw [he] at h4
      have:=h2 i hil (Nat.le_refl _)
      rw [h4] at this;cases this
     ·have:t=i:=by omega
      subst this;exact he
   ·simp only [hil,decide_false,br_false]
    refine ⟨i,_,⟨hj,h1,h2,?_⟩,rfl⟩
    symm;rw [decide_eq_false_iff_not]
    intro e
    obtain ⟨t,ht,he⟩:=List.getElem_of_mem e
    have:=hge t ht he;omega
theorem bs_is (k:Nat) (l:List Dot) (d:Dot) (h3:3≤k) (hl:l.length<k) (hk:k<1000000) (hs:l.Pairwise (fun a b=>dotLt a b=true)):∃ p b,Found l d p b∧z00.f k l d=some ((p:Int),b):=by
 obtain ⟨q,rfl⟩:∃ q,k=q+3:=⟨k - 3,by omega⟩
 rw [z00.f_eq]
 exact bs_l q l d (by omega) hs (q+3) 0 l.length (by omega) (Nat.le_refl _) (by omega) (fun t _ h=>by omega) (fun t h h'=>by omega)
theorem has_is (k:Nat) (s:DSet) (d:Dot) (h3:3≤k) (hl:s.2.length<k) (hk:k<1000000) (hs:Can s):z2i.f k s d=some (memB s d):=by
 rw [z2i.f_eq,vhas_is]
 simp only [bnd]
 obtain ⟨p,b,hf,he⟩:=bs_is k s.2 d h3 hl hk hs.srt
 rw [he,hf.2.2.2]
 unfold memB
 cases h:rightD d with
 | false =>
  have:d ∉ s.2:=fun hd=>by rw [hs.rt d hd] at h;cases h
  simp [this,br_false]
 | true =>
  by_cases h2:d.2≤vat s.1 d.1 <;> simp [h2,br_true,br_false]
def insR (d:Dot):List Dot→List Dot
 | []=>[d]
 | y::r=>if dotLt d y then d::y::r else y::insR d r
theorem insR_perm (d:Dot):∀ l,(insR d l).Perm (d::l)
 | []=>List.Perm.refl _
 | y::r=>by
  unfold insR
  split
  ·exact List.Perm.refl _
  ·exact ((insR_perm d r).cons y).trans (List.Perm.swap d y r)
theorem insR_srt {d:Dot}:∀ {l:List Dot},l.Pairwise (fun a b=>dotLt a b=true)→d ∉ l→(insR d l).Pairwise (fun a b=>dotLt a b=true)
 | [],_,_=>List.pairwise_singleton _ _
 | y::r,h,hd=>by
  have h':=List.pairwise_cons.1 h
  unfold insR
  split
  ·rename_i hy
   refine List.pairwise_cons.2 ⟨fun z hz=>?_,h⟩
   rcases List.mem_cons.1 hz with rfl | hz
   ·exact hy
   ·exact dotLt_swo.trans _ _ _ hy (h'.1 z hz)
  ·rename_i hy
   have hyd:dotLt y d=true:=by
    cases hh:dotLt y d with
    | true=>rfl
    | false=>exact absurd (by rw [dotLt_tot y d hh (by simpa using hy)];exact List.mem_cons_self) hd
   refine List.pairwise_cons.2 ⟨fun z hz=>?_,insR_srt h'.2 (fun hh=>hd (List.mem_cons_of_mem _ hh))⟩
   rcases List.mem_cons.1 ((insR_perm d r).mem_iff.1 hz) with rfl | hz
   ·exact hyd
   ·exact h'.1 z hz
theorem insAt_is {l:List Dot} {d:Dot} {p:Nat} {b:Bool} (hf:Found l d p b) (hd:d ∉ l) (hs:l.Pairwise (fun a b=>dotLt a b=true)):insAt l (p:Int) (d::[])=insR d l:=by
 have hlt:∀ t (h:t<l.length),p≤t→dotLt d l[t]=true:=fun t h hp=>by
  cases hh:dotLt d l[t] with
  | true=>rfl
  | false=>exact absurd (by rw [dotLt_tot d l[t] hh (hf.2.2.1 t h hp)];exact List.getElem_mem h) hd
 have e:insAt l (p:Int) (d::[])=l.take p++d::l.drop p:=rfl
 refine srt_unique ?_ (insR_srt hs hd) fun x=>?_
 ·rw [e]
  refine List.pairwise_append.2 ⟨hs.sublist (List.take_sublist _ _),List.pairwise_cons.2 ⟨fun z hz=>?_,hs.sublist (List.drop_sublist _ _)⟩,fun x hx y hy=>?_⟩
  ·obtain ⟨t,ht,rfl⟩:=List.getElem_of_mem hz
   rw [List.getElem_drop]
   exact hlt _ (by rw [List.length_drop] at ht;omega) (by omega)
  ·obtain ⟨t,ht,rfl⟩:=List.getElem_of_mem hx
   rw [List.getElem_take]
   have ht2:t<p∧t<l.length:=by rw [List.length_take] at ht;omega
   have h1:=hf.2.1 t ht2.2 ht2.1
   rcases List.mem_cons.1 hy with rfl | hy
   ·exact h1
   ·obtain ⟨u,hu,rfl⟩:=List.getElem_of_mem hy
    rw [List.getElem_drop]
    exact srt_get hs ht2.2 (by rw [List.length_drop] at hu;omega) (by omega)
 ·rw [e,(insR_perm d l).mem_iff,List.mem_append,List.mem_cons,List.mem_cons]
  have:x ∈ l ↔ x ∈ l.take p∨x ∈ l.drop p:=by rw [← List.mem_append,List.take_append_drop]
  rw [this]
  exact ⟨fun h=>h.elim (fun h=>.inr (.inl h)) (fun h=>h.elim .inl (fun h=>.inr (.inr h))),fun h=>h.elim (fun h=>.inr (.inl h)) (fun h=>h.elim .inl (fun h=>.inr (.inr h)))⟩
def putD (s:DSet) (d:Dot):DSet:=if memB s d=true∨rightD d=false then s else mk s.1 (insR d s.2)
theorem insR_weak {d:Dot} {l:List Dot} (hs:l.Pairwise (fun a b=>dotLt a b=true)) (hd:d ∉ l):(insR d l).Pairwise (fun a b=>dotLt b a=false):=(insR_srt hs hd).imp dotLt_asym
theorem putD_can {s:DSet} (hs:Can s) (d:Dot):Can (putD s d)∧(∀ x,Mem (putD s d) x ↔ Mem s x∨(rightD d=true∧x=d))∧(putD s d).2.length≤s.2.length+1:=by
 unfold putD
 by_cases h:memB s d=true∨rightD d=false
 ·rw [if_pos h]
  refine ⟨hs,fun x=>⟨.inl,fun hh=>hh.elim id fun ⟨h1,h2⟩=>?_⟩,by omega⟩
  subst h2
  rcases h with h | h
  ·exact (memB_iff s x).1 h
  ·rw [h] at h1;cases h1
 ·rw [if_neg h]
  have h1:¬ Mem s d:=fun hm=>h (.inl ((memB_iff s d).2 hm))
  have h2:rightD d=true:=by cases hh:rightD d with
   | true=>rfl
   | false=>exact absurd (.inr hh) h
  have hn:d ∉ s.2:=fun hd=>h1 ⟨h2,.inr hd⟩
  obtain ⟨q1,q2,q3,_⟩:=mk_can hs.vok (insR d s.2) (fun e he=>by
   rcases List.mem_cons.1 ((insR_perm d s.2).mem_iff.1 he) with rfl | he
   ·exact h2
   ·exact hs.rt e he) (insR_weak hs.srt hn)
  refine ⟨q1,fun x=>?_,by rw [(insR_perm d s.2).length_eq] at q3;simpa using q3⟩
  rw [q2,(insR_perm d s.2).mem_iff,List.mem_cons]
  constructor
  ·rintro ⟨a,b | b | b⟩
   ·exact .inl ⟨a,.inl b⟩
   ·exact .inr ⟨h2,b⟩
   ·exact .inl ⟨a,.inr b⟩
  ·rintro (⟨a,b⟩ | ⟨a,b⟩)
   ·exact ⟨a,b.imp id .inr⟩
   ·exact ⟨by rw [b];exact a,.inr (.inl b)⟩
theorem put_is (k:Nat) (s:DSet) (d:Dot) (h3:3≤k) (hl:s.2.length+1<k) (hk:k<1000000) (hs:Can s):z2l.f k s d=some (putD s d):=by
 rw [z2l.f_eq,right_is,has_is k s d h3 (by omega) hk hs]
 simp only [bnd]
 unfold putD
 cases h:rightD d with
 | false=>simp [bnot,br_true]
 | true =>
  cases hm:memB s d with
  | true=>simp [bnot,br_true,br_false]
  | false =>
   have hn:d ∉ s.2:=fun hd=>by
    have:=(memB_iff s d).2 ⟨h,.inr hd⟩
    rw [hm] at this;cases this
   obtain ⟨p,b,hf,he⟩:=bs_is k s.2 d h3 (by omega) hk hs.srt
   rw [he]
   dsimp only
   have e1:room ([]:List Int) s.2=true:=by simp [room];omega
   have e2:inS 0 (p:Int) (ilen s.2)=true:=by have:=hf.1;simp [inS,ilen];omega
   have hb0:bnot true=false:=rfl
   rw [e1,e2,room1 (by omega),insAt_is hf hn hs.srt,hb0]
   simp only [br_true,br_false]
   rw [made_is k _ (by rw [(insR_perm d s.2).length_eq];simpa using hl) hk (fun e he=>by
    rcases List.mem_cons.1 ((insR_perm d s.2).mem_iff.1 he) with rfl | he
    ·exact h
    ·exact hs.rt e he) (insR_weak hs.srt hn) _ hs.vok]
   simp
end Go.Proofs.YtggcagclpkhlhaaGreatDoor
end
noncomputable section
/- What the document's functions of the layer of dots compute. -/
namespace Go.Proofs.YtggcagclpkhlhaaGreatDoor
open Pal
theorem filled_l (k:Nat) (s:DSet) (hl:s.2.length<1000000) (hr:∀ d ∈ s.2,rightD d=true) (hs:s.2.Pairwise (fun a b=>dotLt a b=true)) (hv:VOk s.1) (za:Vec) (zb:List Dot):∀ (n i:Nat),i≤s.2.length→s.2.length<n+i →
  z0w.l3 k n (i:Int) s za zb (mk s.1 (s.2.take i)).1 (mk s.1 (s.2.take i)).2=some (mk s.1 s.2)
 | 0,i,h,h'=>by omega
 | n+1,i,h,h'=>by
  rw [z0w.l3_eq,ilt_nat,inL_nat,natOf_nat]
  by_cases hi:i<s.2.length
  ·have hstep:mk s.1 (s.2.take (i+1))=put1 (mk s.1 (s.2.take i)) s.2[i]:=by rw [take_next hi];unfold mk;rw [List.foldl_append];rfl
   have hws:s.2.Pairwise (fun a b=>dotLt b a=false):=hs.imp dotLt_asym
   obtain ⟨hc,hm,hml,hin⟩:=mk_can hv (s.2.take i) (fun d hd=>hr d (List.mem_of_mem_take hd)) (hws.sublist (List.take_sublist i s.2))
   have ih:=filled_l k s hl hr hs hv za zb n (i+1) (by omega) (by omega)
   rw [hstep] at ih
   have hnl:(mk s.1 (s.2.take i)).2.getLast? ≠ some s.2[i]:=fun e=>by
    have h1:=hin _ (List.mem_of_getLast? e)
    obtain ⟨t,ht,he⟩:=List.getElem_of_mem h1
    have ht2:t<i:=by rw [List.length_take] at ht;omega
    rw [List.getElem_take] at he
    have:=srt_get hs (by omega) hi ht2
    rw [he,dotLt_swo.irrefl] at this;cases this
   generalize mk s.1 (s.2.take i)=t at hc hm hml ih hstep hin hnl ⊢
   obtain ⟨V,M⟩:=t
   obtain ⟨r0,r1,r2,r3⟩:=(rightD_iff s.2[i]).1 (hr _ (List.getElem_mem hi))
   rw [rd_at' (e:=tDot) hi,iadd_nat (by omega)]
   obtain ⟨d,hd⟩:∃ d:Dot,d=s.2[i]:=⟨_,rfl⟩
   rw [← hd] at r0 r1 r2 r3 ih hnl ⊢
   have hvv:rd (.int .i64) V (natOf d.1)=vat V d.1:=rfl
   have v0:0≤vat V d.1:=hc.vok.lo d.1 r0 r1
   have v1:vat V d.1≤1048576:=hc.vok.hi d.1 r0 r1
   have hML:M.length≤i:=by have:M.length≤(s.2.take i).length:=hml;rw [List.length_take] at this;omega
   simp only [hi,decide_true,br_true,inB16 r0 r1,hvv,ilt_dec]
   rw [iadd_s (by omega) (by omega) (by omega) (by omega),ieq_dec]
   unfold put1 at ih
   by_cases h1:d.2≤vat V d.1
   ·rw [if_pos h1] at ih
    rw [decide_eq_false (show ¬ d.2=vat V d.1+1 by omega),decide_eq_false (show ¬ vat V d.1<d.2 by omega)]
    exact ih
   ·rw [if_neg h1] at ih
    by_cases h2:d.2=vat V d.1+1
    ·rw [if_pos h2] at ih
     rw [decide_eq_true h2];exact ih
    ·rw [if_neg h2,if_neg hnl] at ih
     rw [decide_eq_false h2,decide_eq_true (show vat V d.1<d.2 by omega),room1 (by omega)]
     exact ih
  ·have:i=s.2.length:=by omega
   subst this
   simp only [List.take_length,Nat.lt_irrefl,decide_false,br_false]
theorem filled_is (k:Nat) (s:DSet) (hl:s.2.length<k) (hk:k<1000000) (hr:∀ d ∈ s.2,rightD d=true) (hs:s.2.Pairwise (fun a b=>dotLt a b=true)) (hv:VOk s.1):z0w.f k s=some (mk s.1 s.2):=by
 rw [z0w.f_eq]
 exact filled_l k s (by omega) hr hs hv (zarr 16 0) [] k 0 (by omega) (by omega)
theorem rcmp_is (k:Nat) (a b:Dot):z0p.f k a b=some (cmpD a b):=by
 rw [z0p.f_eq,z1o.f_eq,z1o.f_eq,ieq_dec,bnot_dec]
 have hI:∀ x y:Int,br (ilt x y) (some (-1)) (br (ilt y x) (some 1) (some 0))=some (cmpI x y):=fun x y=>by
  unfold cmpI
  by_cases h1:x<y
  ·simp [ilt,h1,br_true]
  ·by_cases h2:y<x <;> simp [ilt,h1,h2,br_true,br_false]
 have hI':∀ x y:Int,bnd (br (ilt x y) (some (-1)) (br (ilt y x) (some 1) (some 0))) (fun r=>some r)=some (cmpI x y):=fun x y=>by rw [hI];rfl
 rw [hI',hI']
 unfold cmpD
 by_cases h:a.1=b.1
 ·rw [if_pos ((cmpI_eq _ _).2 h)];simp [h,br_false]
 ·rw [if_neg (fun e=>h ((cmpI_eq _ _).1 e))];simp [h,br_true]
theorem rput_l (k : Nat) (s : DSet) (d : Dot) (hl : s.2.length < 1000000) (za : Vec) (zb : List Dot) : ∀ (n i : Nat) (x : List Dot) (b : Bool), i ≤ s.2.length → s.2.length < n + i → x.length ≤ i + b.toNat →
    z2a.l6 k n x b (i : Int) s d za zb = bnd (z0w.f k (s.1, x ++ if b then s.2.drop i else insR d (s.2.drop i))) fun r => some r
  | 0, i, _, _, h, h', _ => by omega
  | n + 1, i, x, b, h, h', hx => by
    rw [z2a.l6_eq, ilt_nat, inL_nat, natOf_nat]
    by_cases hi : i < s.2.length
    · rw [List.drop_eq_getElem_cons hi, rd_at' (e := tDot) hi, iadd_nat (by omega), rcmp_is]
      have hbn : b.toNat ≤ 1 := by cases b <;> decide
      have hrm : ∀ y : Dot, room x (y :: []) = true := fun y => room1 (by omega)
      have hrm2 : ∀ y z : Dot, room (app x (y :: [])) (z :: []) = true := fun y z => room1 (by simp [app]; omega)
      simp only [hi, decide_true, br_true, bnd_some, cmp_lt0, hrm, hrm2]
      cases b with
      | true =>
        have hb : bnot true = false := rfl
        rw [hb]
        simp only [br_false]
        rw [rput_l k s d hl za zb n (i + 1) _ true (by omega) (by omega) (by simp [app] at hx ⊢; omega)]
        simp [app]
      | false =>
        have hb : bnot false = true := rfl
        rw [hb]
        simp only [br_true, Bool.false_eq_true, if_false]
        unfold insR
        cases hc : dotLt d s.2[i] with
        | true =>
          simp only [br_true, if_true]
          rw [rput_l k s d hl za zb n (i + 1) _ true (by omega) (by omega) (by simp [app] at hx ⊢; omega)]
          simp [app]
        | false =>
          simp only [br_false, Bool.false_eq_true, if_false]
          rw [rput_l k s d hl za zb n (i + 1) _ false (by omega) (by omega) (by simp [app] at hx ⊢; omega)]
          simp [app]
    · rw [List.drop_of_length_le (by omega)]
      simp only [hi, decide_false, br_false]
      cases b with
      | true => have hb : bnot true = false := rfl
                rw [hb]; simp [br_false]
      | false => have hb : bnot false = true := rfl
                 have hx' : x.length ≤ i := hx
                 rw [hb, room1 (by omega)]; simp [br_true, insR, app]
theorem rput_is (k:Nat) (s:DSet) (d:Dot) (hl:s.2.length+1<k) (hk:k<1000000) (hs:Can s):z2a.f k s d=some (putD s d):=by
 rw [z2a.f_eq,rright_is,rhas_is k s d (by omega) hk hs.rt]
 simp only [bnd_some]
 unfold putD
 cases h:rightD d with
 | false=>simp [bnot,br_true]
 | true =>
  cases hm:memB s d with
  | true=>simp [bnot,br_true,br_false]
  | false =>
   have hn:d ∉ s.2:=fun hd=>by
    have:=(memB_iff s d).2 ⟨h,.inr hd⟩
    rw [hm] at this;cases this
   have hb0:bnot true=false:=rfl
   rw [hb0]
   simp only [br_false]
   have:=rput_l k s d (by omega) (zarr 16 0) [] k 0 [] false (by omega) (by omega) (by simp)
   rw [show z2a.l6 k k [] false 0 s d (zarr 16 0) []=_ from this]
   simp only [List.drop_zero,List.nil_append,Bool.false_eq_true,if_false]
   rw [filled_is k (s.1,insR d s.2) (by show (insR d s.2).length<k;rw [(insR_perm d s.2).length_eq];simpa using hl) hk (fun e he=>by
    rcases List.mem_cons.1 ((insR_perm d s.2).mem_iff.1 he) with rfl | he
    ·exact h
    ·exact hs.rt e he) (insR_srt hs.srt hn) hs.vok]
   simp [bnd]
end Go.Proofs.YtggcagclpkhlhaaGreatDoor
end
noncomputable section
/- The same, and right, among sets of dots. -/
namespace Go.Proofs.YtggcagclpkhlhaaGreatDoor
open Pal
theorem eqD_l (k:Nat) (xs ys:List Dot) (hl:xs.length=ys.length) (hb:xs.length<1000000):∀ (n i:Nat),i≤xs.length→xs.length<n+i →
  z0e.l4 k n xs ys (ilen xs) (i:Int)=some (zall (fun x y=>decide (x=y)) (xs.drop i) (ys.drop i))
 | 0,i,h,h'=>by omega
 | n+1,i,h,h'=>by
  rw [z0e.l4_eq,ilt_nat,inL_nat,inL_nat,natOf_nat]
  by_cases hi:i<xs.length
  ·have hi':i<ys.length:=by omega
   rw [zall_step hi hi',rd_at' (e:=tDot) hi,rd_at' (e:=tDot) hi',deqD,bnot_dec,iadd_nat (by omega)]
   simp only [hi,hi',decide_true,br_true]
   by_cases he:xs[i]=ys[i]
   ·simp only [he,not_true,decide_true,decide_false,br_false,Bool.true_and]
    exact eqD_l k xs ys hl hb n (i+1) (by omega) (by omega)
   ·simp only [he,not_false_eq_true,decide_false,decide_true,br_true,Bool.false_and]
  ·rw [zall_end (by omega)]
   simp only [hi,decide_false,br_false]
theorem eqD (k:Nat) (xs ys:List Dot) (hb:xs.length<k) (hk:k<1000000):z0e.f k xs ys=some (decide (xs=ys)):=by
 rw [z0e.f_eq,ieq_len,bnot_dec]
 by_cases hl:xs.length=ys.length
 ·simp only [hl,not_true,decide_false,br_false]
  have:=eqD_l k xs ys hl (by omega) k 0 (by omega) (by omega)
  simp only [List.drop_zero,zall_eq xs ys hl] at this
  exact this
 ·have:xs ≠ ys:=fun e=>hl (by rw [e])
  simp only [hl,this,not_false_eq_true,decide_true,decide_false,br_true]
theorem reqD_l (k:Nat) (xs ys:List Dot) (hl:xs.length=ys.length) (hb:xs.length<1000000):∀ (n i:Nat),i≤xs.length→xs.length<n+i →
  z1h.l4 k n xs ys (i:Int)=some (zall (fun x y=>decide (x=y)) (xs.drop i) (ys.drop i))
 | 0,i,h,h'=>by omega
 | n+1,i,h,h'=>by
  rw [z1h.l4_eq,ilt_nat,inL_nat,inL_nat,natOf_nat]
  by_cases hi:i<xs.length
  ·have hi':i<ys.length:=by omega
   rw [zall_step hi hi',rd_at' (e:=tDot) hi,rd_at' (e:=tDot) hi',deqD,bnot_dec,iadd_nat (by omega)]
   simp only [hi,hi',decide_true,br_true]
   by_cases he:xs[i]=ys[i]
   ·simp only [he,not_true,decide_true,decide_false,br_false,Bool.true_and]
    exact reqD_l k xs ys hl hb n (i+1) (by omega) (by omega)
   ·simp only [he,not_false_eq_true,decide_false,decide_true,br_true,Bool.false_and]
  ·rw [zall_end (by omega)]
   simp only [hi,decide_false,br_false]
theorem reqD (k:Nat) (xs ys:List Dot) (hb:xs.length<k) (hk:k<1000000):z1h.f k xs ys=some (decide (xs=ys)):=by
 rw [z1h.f_eq,ieq_len,bnot_dec]
 by_cases hl:xs.length=ys.length
 ·simp only [hl,not_true,decide_false,br_false]
  have:=reqD_l k xs ys hl (by omega) k 0 (by omega) (by omega)
  simp only [List.drop_zero,zall_eq xs ys hl] at this
  exact this
 ·have:xs ≠ ys:=fun e=>hl (by rw [e])
  simp only [hl,this,not_false_eq_true,decide_true,decide_false,br_true]
theorem deqV (a b:Vec):deq tVec a b=decide (a=b):=by
 have h:=deq_iff tVec rfl a b
 by_cases he:a=b
 ·rw [decide_eq_true he];exact h.2 he
 ·rw [decide_eq_false he,← Bool.not_eq_true,h];exact he
theorem same_is (k:Nat) (s t:DSet) (hb:s.2.length<k) (hk:k<1000000):z1O.f k s t=some (decide (s=t)):=by
 rw [z1O.f_eq,deqV,eqD k _ _ hb hk]
 obtain ⟨a,b⟩:=s
 obtain ⟨c,d⟩:=t
 by_cases h1:a=c <;> by_cases h2:b=d <;> simp [h1,h2,br_true,br_false,bnd]
theorem rsame_is (k:Nat) (s t:DSet) (hb:s.2.length<k) (hk:k<1000000):z18.f k s t=some (decide (s=t)):=by
 rw [z18.f_eq,deqV,reqD k _ _ hb hk]
 obtain ⟨a,b⟩:=s
 obtain ⟨c,d⟩:=t
 by_cases h1:a=c <;> by_cases h2:b=d <;> simp [h1,h2,br_true,br_false,bnd]
def vin (v:Vec) (r:Int):Prop:=0≤vat v r∧vat v r≤1048576
theorem rvr_l (k:Nat) (v:Vec):∀ (n i:Nat),i≤16→16<n+i→∃ b,z0U.l2 k n (i:Int) v=some b∧(b=true ↔ ∀ r:Nat,i≤r→r<16→vin v r)
 | 0,i,h,h'=>by omega
 | n+1,i,h,h'=>by
  rw [z0U.l2_eq,natOf_nat]
  have e1:ilt (i:Int) 16=decide (i<16):=ilt_nn i 16
  rw [e1,inB_nat]
  by_cases hi:i<16
  ·have hv:rd (.int .i64) v i=vat v (i:Int):=rfl
   rw [hv,iadd_nat (by omega),ilt_dec,ilt_dec]
   simp only [hi,decide_true,br_true]
   by_cases h1:vat v (i:Int)<0
   ·simp only [h1,decide_true,br_true]
    exact ⟨false,rfl,⟨fun h=>(by cases h),fun h=>by have:=(h i (Nat.le_refl _) hi).1;omega⟩⟩
   ·simp only [h1,decide_false,br_false]
    by_cases h2:1048576<vat v (i:Int)
    ·simp only [h2,decide_true,br_true]
     exact ⟨false,rfl,⟨fun h=>(by cases h),fun h=>by have:=(h i (Nat.le_refl _) hi).2;omega⟩⟩
    ·simp only [h2,decide_false,br_false]
     obtain ⟨b,hb,hbi⟩:=rvr_l k v n (i+1) (by omega) (by omega)
     refine ⟨b,hb,hbi.trans ⟨fun h r hr hr2=>?_,fun h r hr hr2=>h r (by omega) hr2⟩⟩
     by_cases he:r=i
     ·subst he;exact ⟨by omega,by omega⟩
     ·exact h r (by omega) hr2
  ·simp only [hi,decide_false,br_false]
   exact ⟨true,rfl,⟨fun _ r hr hr2=>by omega,fun _=>rfl⟩⟩
theorem vok_iff {v:Vec} (hl:v.length=16):VOk v ↔ ∀ r:Nat,0≤r→r<16→vin v r:=by
 constructor
 ·intro h r _ hr;exact ⟨h.lo r (by omega) (by omega),h.hi r (by omega) (by omega)⟩
 ·intro h
  refine ⟨hl,fun r h0 h1=>?_,fun r h0 h1=>?_⟩
  ·obtain ⟨a,rfl⟩:=Int.eq_ofNat_of_zero_le h0;exact (h a (by omega) (by omega)).1
  ·obtain ⟨a,rfl⟩:=Int.eq_ofNat_of_zero_le h0;exact (h a (by omega) (by omega)).2
theorem rvr_is (k:Nat) (v:Vec) (hl:v.length=16) (hk:17<k):∃ b,z0U.f k v=some b∧(b=true ↔ VOk v):=by
 rw [z0U.f_eq,vok_iff hl]
 exact rvr_l k v k 0 (by omega) (by omega)
theorem vr_l (k:Nat) (v:Vec):∀ (n i:Nat),i≤16→16<n+i→∃ b,z24.l2 k n v (i:Int)=some b∧(b=true ↔ ∀ r:Nat,i≤r→r<16→vin v r)
 | 0,i,h,h'=>by omega
 | n+1,i,h,h'=>by
  rw [z24.l2_eq,natOf_nat]
  have e1:ilt (i:Int) 16=decide (i<16):=ilt_nn i 16
  rw [e1,inB_nat]
  by_cases hi:i<16
  ·have hv:rd (.int .i64) v i=vat v (i:Int):=rfl
   rw [hv,iadd_nat (by omega),ilt_dec,ilt_dec]
   simp only [hi,decide_true,br_true]
   by_cases h1:vat v (i:Int)<0
   ·simp only [h1,decide_true,br_true]
    exact ⟨false,rfl,⟨fun h=>(by cases h),fun h=>by have:=(h i (Nat.le_refl _) hi).1;omega⟩⟩
   ·simp only [h1,decide_false,br_false]
    by_cases h2:1048576<vat v (i:Int)
    ·simp only [h2,decide_true,br_true]
     exact ⟨false,rfl,⟨fun h=>(by cases h),fun h=>by have:=(h i (Nat.le_refl _) hi).2;omega⟩⟩
    ·simp only [h2,decide_false,br_false]
     obtain ⟨b,hb,hbi⟩:=vr_l k v n (i+1) (by omega) (by omega)
     refine ⟨b,hb,hbi.trans ⟨fun h r hr hr2=>?_,fun h r hr hr2=>h r (by omega) hr2⟩⟩
     by_cases he:r=i
     ·subst he;exact ⟨by omega,by omega⟩
     ·exact h r (by omega) hr2
  ·simp only [hi,decide_false,br_false]
   exact ⟨true,rfl,⟨fun _ r hr hr2=>by omega,fun _=>rfl⟩⟩
theorem vr_is (k:Nat) (v:Vec) (hl:v.length=16) (hk:17<k):∃ b,z24.f k v=some b∧(b=true ↔ VOk v):=by
 rw [z24.f_eq,vok_iff hl]
 exact vr_l k v k 0 (by omega) (by omega)
def okAt (s:DSet) (j:Nat) (h:j<s.2.length):Prop:=rightD s.2[j]=true∧vat s.1 s.2[j].1+1<s.2[j].2∧(∀ h0:0<j,dotLt (s.2[j - 1]'(by omega)) s.2[j]=true)
theorem can_iff {s:DSet} (hv:VOk s.1):Can s ↔ ∀ j (h:j<s.2.length),0≤j→okAt s j h:=by
 constructor
 ·intro hs j h _
  exact ⟨hs.rt _ (List.getElem_mem h),hs.gap _ (List.getElem_mem h),fun h0=>srt_get hs.srt (by omega) h (by omega)⟩
 ·intro h
  refine ⟨hv,fun d hd=>?_,fun d hd=>?_,?_⟩
  ·obtain ⟨j,hj,rfl⟩:=List.getElem_of_mem hd;exact (h j hj (Nat.zero_le _)).1
  ·obtain ⟨j,hj,rfl⟩:=List.getElem_of_mem hd;exact (h j hj (Nat.zero_le _)).2.1
  ·have key:∀ t i (hi:i<s.2.length) (hj:i+1+t<s.2.length),dotLt s.2[i] s.2[i+1+t]=true:=by
    intro t
    induction t with
    | zero=>intro i hi hj;exact (h (i+1) hj (Nat.zero_le _)).2.2 (by omega)
    | succ t ih =>
     intro i hi hj
     have h1:=ih i hi (by omega)
     have h2:=(h (i+1+(t+1)) hj (Nat.zero_le _)).2.2 (by omega)
     exact dotLt_swo.trans _ _ _ h1 h2
   rw [List.pairwise_iff_getElem]
   intro i j hi hj hij
   have:=key (j - i - 1) i hi (by omega)
   have e:i+1+(j - i - 1)=j:=by omega
   simp only [e] at this;exact this
theorem cmp_m1 (a b:Dot):bnot (ieq (cmpD a b) (-1))=!dotLt a b:=by
 have h1:∀ x y:Int,cmpI x y=-1∨cmpI x y=0∨cmpI x y=1:=fun x y=>by unfold cmpI;split <;> (try split) <;> simp
 have h:cmpD a b=-1∨cmpD a b=0∨cmpD a b=1:=by unfold cmpD;split <;> exact h1 _ _
 show bnot (ieq (cmpD a b) (-1))=!decide (cmpD a b<0)
 rcases h with h | h | h <;> rw [h] <;> rfl
theorem rr_l (k:Nat) (s:DSet) (hl:s.2.length<1000000) (hv:VOk s.1):∀ (n i:Nat),i≤s.2.length→s.2.length<n+i→∃ b,z0A.l4 k n (i:Int) s=some b∧(b=true ↔ ∀ j (h:j<s.2.length),i≤j→okAt s j h)
 | 0,i,h,h'=>by omega
 | n+1,i,h,h'=>by
  rw [z0A.l4_eq,ilt_nat,inL_nat,natOf_nat]
  by_cases hi:i<s.2.length
  ·rw [rd_at' (e:=tDot) hi,rright_is,iadd_nat (by omega)]
   simp only [hi,decide_true,br_true,bnd_some]
   cases hr:rightD s.2[i] with
   | false =>
    have e:bnot false=true:=rfl
    rw [e]
    exact ⟨false,rfl,⟨fun h=>(by cases h),fun h=>by rw [(h i hi (Nat.le_refl _)).1] at hr;cases hr⟩⟩
   | true =>
    have e:bnot true=false:=rfl
    obtain ⟨r0,r1,r2,r3⟩:=(rightD_iff s.2[i]).1 hr
    have hvv:rd (.int .i64) s.1 (natOf s.2[i].1)=vat s.1 s.2[i].1:=rfl
    rw [e,inB16 r0 r1,hvv,isub_s (by omega) (by omega) (by omega) (by omega),ile_dec]
    simp only [br_true,br_false]
    by_cases hg:s.2[i].2 - 1≤vat s.1 s.2[i].1
    ·simp only [hg,decide_true,br_true]
     exact ⟨false,rfl,⟨fun h=>(by cases h),fun h=>by have:=(h i hi (Nat.le_refl _)).2.1;omega⟩⟩
    ·simp only [hg,decide_false,br_false]
     obtain ⟨b,hb,hbi⟩:=rr_l k s hl hv n (i+1) (by omega) (by omega)
     have step:(∀ h0:0<i,dotLt (s.2[i - 1]'(by omega)) s.2[i]=true)→(b=true ↔ ∀ j (h:j<s.2.length),i≤j→okAt s j h):=fun hlt=>hbi.trans ⟨fun h j hj hij=>by
      by_cases he:j=i
      ·subst he;exact ⟨hr,by omega,hlt⟩
      ·exact h j hj (by omega),fun h j hj hij=>h j hj (by omega)⟩
     by_cases h0:0<i
     ·have e2:ilt 0 (i:Int)=true:=by simp [ilt];omega
      have e3:isub .i64 (i:Int) 1=((i - 1:Nat):Int):=by rw [isub_s (by omega) (by omega) (by omega) (by omega)];omega
      have hi1:i - 1<s.2.length:=by omega
      rw [e2,e3,inL_nat,natOf_nat,rd_at' (e:=tDot) hi1,rcmp_is]
      simp only [hi1,decide_true,br_true,bnd_some,cmp_m1]
      cases hc:dotLt s.2[i - 1] s.2[i] with
      | true=>exact ⟨b,hb,step fun _=>hc⟩
      | false=>exact ⟨false,rfl,⟨fun h=>(by cases h),fun h=>by have:=(h i hi (Nat.le_refl _)).2.2 h0;rw [hc] at this;cases this⟩⟩
     ·have e2:ilt 0 (i:Int)=false:=by simp [ilt];omega
      rw [e2]
      exact ⟨b,hb,step fun h=>absurd h h0⟩
  ·simp only [hi,decide_false,br_false]
   exact ⟨true,rfl,⟨fun _ j hj hij=>by omega,fun _=>rfl⟩⟩
theorem rr_is (k:Nat) (s:DSet) (hl:s.1.length=16) (hk:5000<k) (hk2:k<1000000):∃ b,z0A.f k s=some b∧(b=true ↔ Can s∧s.2.length≤4096):=by
 obtain ⟨b,hb,hbi⟩:=rvr_is k s.1 hl (by omega)
 rw [z0A.f_eq,hb]
 simp only [bnd_some]
 cases b with
 | false=>exact ⟨false,rfl,⟨fun h=>(by cases h),fun h=>hbi.2 h.1.vok⟩⟩
 | true =>
  have hv:=hbi.1 rfl
  have e:bnot true=false:=rfl
  have e2:ilt 4096 (ilen s.2)=decide (4096<s.2.length):=ilt_nat 4096 s.2
  rw [e,e2]
  simp only [br_false]
  by_cases h:4096<s.2.length
  ·simp only [h,decide_true,br_true]
   exact ⟨false,rfl,⟨fun h=>(by cases h),fun h=>by omega⟩⟩
  ·simp only [h,decide_false,br_false]
   obtain ⟨b,hb,hbi⟩:=rr_l k s (by omega) hv k 0 (by omega) (by omega)
   exact ⟨b,hb,hbi.trans ⟨fun h2=>⟨(can_iff hv).2 h2,by omega⟩,fun h2=>(can_iff hv).1 h2.1⟩⟩
end Go.Proofs.YtggcagclpkhlhaaGreatDoor
end
noncomputable section
/- Whether a set is right, how many dots there are, and the next one's number. -/
namespace Go.Proofs.YtggcagclpkhlhaaGreatDoor
open Pal
theorem dr_l (k:Nat) (s:DSet) (hl:s.2.length<1000000) (hv:VOk s.1):∀ (n i:Nat),i≤s.2.length→s.2.length<n+i→∃ b,z1m.l4 (k+3) n s.2 (ilen s.2) (i:Int) s=some b∧(b=true ↔ ∀ j (h:j<s.2.length),i≤j→okAt s j h)
 | 0,i,h,h'=>by omega
 | n+1,i,h,h'=>by
  rw [z1m.l4_eq,ilt_nat,inL_nat,natOf_nat]
  by_cases hi:i<s.2.length
  ·rw [rd_at' (e:=tDot) hi,right_is,iadd_nat (by omega)]
   simp only [hi,decide_true,br_true,bnd_some]
   cases hr:rightD s.2[i] with
   | false =>
    have e:bnot false=true:=rfl
    rw [e]
    exact ⟨false,rfl,⟨fun h=>(by cases h),fun h=>by rw [(h i hi (Nat.le_refl _)).1] at hr;cases hr⟩⟩
   | true =>
    have e:bnot true=false:=rfl
    obtain ⟨r0,r1,r2,r3⟩:=(rightD_iff s.2[i]).1 hr
    have hvv:rd (.int .i64) s.1 (natOf s.2[i].1)=vat s.1 s.2[i].1:=rfl
    have v0:=hv.lo s.2[i].1 r0 r1
    have v1:=hv.hi s.2[i].1 r0 r1
    rw [e,inB16 r0 r1,hvv,iadd_s (by omega) (by omega) (by omega) (by omega),ile_dec]
    simp only [br_true,br_false]
    by_cases hg:s.2[i].2≤vat s.1 s.2[i].1+1
    ·simp only [hg,decide_true,br_true]
     exact ⟨false,rfl,⟨fun h=>(by cases h),fun h=>by have:=(h i hi (Nat.le_refl _)).2.1;omega⟩⟩
    ·simp only [hg,decide_false,br_false]
     obtain ⟨b,hb,hbi⟩:=dr_l k s hl hv n (i+1) (by omega) (by omega)
     have step:(∀ h0:0<i,dotLt (s.2[i - 1]'(by omega)) s.2[i]=true)→(b=true ↔ ∀ j (h:j<s.2.length),i≤j→okAt s j h):=fun hlt=>hbi.trans ⟨fun h j hj hij=>by
      by_cases he:j=i
      ·subst he;exact ⟨hr,by omega,hlt⟩
      ·exact h j hj (by omega),fun h j hj hij=>h j hj (by omega)⟩
     by_cases h0:0<i
     ·have e2:ilt 0 (i:Int)=true:=by simp [ilt];omega
      have e3:isub .i64 (i:Int) 1=((i - 1:Nat):Int):=by rw [isub_s (by omega) (by omega) (by omega) (by omega)];omega
      have hi1:i - 1<s.2.length:=by omega
      have e4:∀ a b:Dot,ile 0 (cmpD a b)=!dotLt a b:=fun a b=>by
       show decide (0≤cmpD a b)=!decide (cmpD a b<0)
       by_cases h:cmpD a b<0
       ·rw [decide_eq_true h,decide_eq_false (by omega)];rfl
       ·rw [decide_eq_false h,decide_eq_true (by omega)];rfl
      rw [e2,e3,inL_nat,natOf_nat,rd_at' (e:=tDot) hi1,cmpD_is]
      simp only [hi1,decide_true,br_true,bnd_some,e4]
      cases hc:dotLt s.2[i - 1] s.2[i] with
      | true=>exact ⟨b,hb,step fun _=>hc⟩
      | false=>exact ⟨false,rfl,⟨fun h=>(by cases h),fun h=>by have:=(h i hi (Nat.le_refl _)).2.2 h0;rw [hc] at this;cases this⟩⟩
     ·have e2:ilt 0 (i:Int)=false:=by simp [ilt];omega
      rw [e2]
      exact ⟨b,hb,step fun h=>absurd h h0⟩
  ·simp only [hi,decide_false,br_false]
   exact ⟨true,rfl,⟨fun _ j hj hij=>by omega,fun _=>rfl⟩⟩
theorem dr_is (k:Nat) (s:DSet) (hl:s.1.length=16) (hk:5000<k) (hk2:k<1000000):∃ b,z1m.f k s=some b∧(b=true ↔ Can s∧s.2.length≤4096):=by
 obtain ⟨b,hb,hbi⟩:=vr_is k s.1 hl (by omega)
 rw [z1m.f_eq,hb]
 simp only [bnd_some]
 cases b with
 | false=>exact ⟨false,rfl,⟨fun h=>(by cases h),fun h=>hbi.2 h.1.vok⟩⟩
 | true =>
  have hv:=hbi.1 rfl
  have e:bnot true=false:=rfl
  have e2:ilt 4096 (ilen s.2)=decide (4096<s.2.length):=ilt_nat 4096 s.2
  rw [e,e2]
  simp only [br_false]
  by_cases h:4096<s.2.length
  ·simp only [h,decide_true,br_true]
   exact ⟨false,rfl,⟨fun h=>(by cases h),fun h=>by omega⟩⟩
  ·simp only [h,decide_false,br_false]
   obtain ⟨q,rfl⟩:∃ q,k=q+3:=⟨k - 3,by omega⟩
   obtain ⟨b,hb,hbi⟩:=dr_l q s (by omega) hv (q+3) 0 (by omega) (by omega)
   exact ⟨b,hb,hbi.trans ⟨fun h2=>⟨(can_iff hv).2 h2,by omega⟩,fun h2=>(can_iff hv).1 h2.1⟩⟩
end Go.Proofs.YtggcagclpkhlhaaGreatDoor
end
noncomputable section
/- Unions, and what is within what. -/
namespace Go.Proofs.YtggcagclpkhlhaaGreatDoor
open Pal
def vmax (v u:Vec):Vec:=(List.range 16).map fun (i:Nat)=>max (vat v (i:Int)) (vat u (i:Int))
theorem vmax_len (v u:Vec):(vmax v u).length=16:=by simp [vmax]
theorem vmax_at (v u:Vec) (r:Int) (h0:0≤r) (h1:r<16):vat (vmax v u) r=max (vat v r) (vat u r):=by
 obtain ⟨a,rfl⟩:=Int.eq_ofNat_of_zero_le h0
 rw [vat_get (by rw [vmax_len];omega)]
 simp [vmax]
theorem vmax_ok {v u:Vec} (hv:VOk v) (hu:VOk u):VOk (vmax v u) :=
 ⟨vmax_len v u,fun r h0 h1=>by rw [vmax_at v u r h0 h1];have:=hv.lo r h0 h1;omega,fun r h0 h1=>by rw [vmax_at v u r h0 h1];have:=hv.hi r h0 h1;have:=hu.hi r h0 h1;omega⟩
def upTo (v u m:Vec) (i:Nat):Prop:=m.length=16∧∀ r:Int,0≤r→r<16→vat m r=if r<(i:Int) then max (vat v r) (vat u r) else vat v r
theorem upTo_end {v u m:Vec} (h:upTo v u m 16):m=vmax v u:=vec_ext h.1 (vmax_len v u) fun r h0 h1=>by rw [h.2 r h0 h1,if_pos (by omega),vmax_at v u r h0 h1]
theorem upTo_step {v u m:Vec} {i:Nat} {x:Int} (h:upTo v u m i) (hi:i<16) (hx:x=max (vat v (i:Int)) (vat u (i:Int))):upTo v u (upd m i x) (i+1):=by
 refine ⟨by simp [upd,h.1],fun r h0 h1=>?_⟩
 have:=vat_upd (v:=m) (r:=(i:Int)) (x:=x) (by omega) (by rw [h.1];omega) r h0
 rw [natOf_nat] at this
 rw [this]
 by_cases e:r=(i:Int)
 ·rw [if_pos e,if_pos (by omega),hx,e]
 ·rw [if_neg e,h.2 r h0 h1]
  by_cases e2:r<(i:Int)
  ·rw [if_pos e2,if_pos (by omega)]
  ·rw [if_neg e2,if_neg (by omega)]
theorem imax_is (a b:Int):imax a b=max a b:=by unfold imax;split <;> omega
theorem both_l (k:Nat) (v u za:Vec):∀ (n i:Nat) (m:Vec),i≤16→16<n+i→upTo v u m i→z0f.l2 k n (i:Int) m u za=some (vmax v u)
 | 0,i,_,h,h',_=>by omega
 | n+1,i,m,h,h',hm=>by
  rw [z0f.l2_eq,natOf_nat]
  have e1:ilt (i:Int) 16=decide (i<16):=ilt_nn i 16
  rw [e1,inB_nat]
  by_cases hi:i<16
  ·have h1:rd (.int .i64) m i=vat m (i:Int):=rfl
   have h2:rd (.int .i64) u i=vat u (i:Int):=rfl
   have h3:vat m (i:Int)=vat v (i:Int):=by rw [hm.2 i (by omega) (by omega),if_neg (by omega)]
   rw [h1,h2,h3,z1k.f_eq,imax_is,iadd_nat (by omega)]
   simp only [hi,decide_true,br_true,bnd_some]
   exact both_l k v u za n (i+1) _ (by omega) (by omega) (upTo_step hm hi rfl)
  ·have:i=16:=by omega
   subst this
   simp only [Nat.lt_irrefl,decide_false,br_false]
   rw [upTo_end hm]
theorem join_is (k:Nat) (v u:Vec) (hv:v.length=16) (hk:17<k):z2k.f k v u=some (vmax v u):=by
 rw [z2k.f_eq,z0f.f_eq]
 have:=both_l k v u (zarr 16 0) k 0 v (by omega) (by omega) ⟨hv,fun r h0 _=>by rw [if_neg (by omega)]⟩
 rw [show z0f.l2 k k 0 v u (zarr 16 0)=_ from this];rfl
def unionD (s t:DSet):DSet:=mk (vmax s.1 t.1) (isort dotLt (s.2++t.2))
theorem unionD_can {s t:DSet} (hs:Can s) (ht:Can t):Can (unionD s t)∧(∀ x,Mem (unionD s t) x ↔ Mem s x∨Mem t x)∧(unionD s t).2.length≤s.2.length+t.2.length:=by
 have hmem:∀ d,d ∈ isort dotLt (s.2++t.2) ↔ d ∈ s.2∨d ∈ t.2:=fun d=>by rw [(isort_perm dotLt _).mem_iff,List.mem_append]
 obtain ⟨h1,h2,h3,_⟩:=mk_can (vmax_ok hs.vok ht.vok) (isort dotLt (s.2++t.2)) (fun d hd=>((hmem d).1 hd).elim (hs.rt d) (ht.rt d)) (isort_sorted dotLt_swo _)
 refine ⟨h1,fun x=>?_,?_⟩
 ·rw [show Mem (unionD s t) x ↔ _ from h2 x,hmem]
  constructor
  ·rintro ⟨a,b | b | b⟩
   ·obtain ⟨q0,q1,_,_⟩:=(rightD_iff x).1 a
    rw [vmax_at _ _ x.1 q0 q1] at b
    rcases (by omega:x.2≤vat s.1 x.1∨x.2≤vat t.1 x.1) with h | h
    ·exact .inl ⟨a,.inl h⟩
    ·exact .inr ⟨a,.inl h⟩
   ·exact .inl ⟨a,.inr b⟩
   ·exact .inr ⟨a,.inr b⟩
  ·rintro (⟨a,b⟩ | ⟨a,b⟩)
   ·obtain ⟨q0,q1,_,_⟩:=(rightD_iff x).1 a
    refine ⟨a,b.imp (fun h=>?_) .inl⟩
    rw [vmax_at _ _ x.1 q0 q1];omega
   ·obtain ⟨q0,q1,_,_⟩:=(rightD_iff x).1 a
    refine ⟨a,b.imp (fun h=>?_) .inr⟩
    rw [vmax_at _ _ x.1 q0 q1];omega
 ·refine Nat.le_trans h3 ?_
  rw [(isort_perm dotLt _).length_eq,List.length_append];exact Nat.le_refl _
theorem concat_is (k:Nat) (a b:List Dot) (ha:a.length≤1000000) (hb:b.length≤1000000) (hk:3≤k):z0d.f k (a::(b::[]))=some (a++b):=by
 obtain ⟨q,rfl⟩:∃ q,k=q+1+1+1:=⟨k - 3,by omega⟩
 rw [z0d.f_eq,z0d.l3_eq,z0d.l3_eq,z0d.l3_eq]
 rw [z0d.l11_eq,z0d.l11_eq,z0d.l11_eq]
 have i1:iadd .i64 0 1=1:=rfl
 have i2:iadd .i64 1 1=2:=rfl
 have l2:ilen (a::(b::[]))=2:=rfl
 have r0:rd (.slc tDot) (a::(b::[])) (natOf 0)=a:=rfl
 have r1:rd (.slc tDot) (a::(b::[])) (natOf 1)=b:=rfl
 have n0:inL 0 (a::(b::[]))=true:=rfl
 have n1:inL 1 (a::(b::[]))=true:=rfl
 have t0:ilt 0 2=true:=rfl
 have t1:ilt 1 2=true:=rfl
 have t2:ilt 2 2=false:=rfl
 have s0:iadd .i64 0 (ilen a)=ilen a:=by rw [iadd_s (by omega) (by omega) (by unfold ilen;omega) (by unfold ilen;omega),Int.zero_add]
 have s1:iadd .i64 (ilen a) (ilen b)=ilen a+ilen b:=iadd_s (by unfold ilen;omega) (by unfold ilen;omega) (by unfold ilen;omega) (by unfold ilen;omega)
 have g0:ilt (ilen a) 0=false:=decide_eq_false (by unfold ilen;omega)
 have g1:ilt (ilen a+ilen b) 0=false:=decide_eq_false (by unfold ilen;omega)
 have g2:ilt 4294967296 (ilen a+ilen b)=false:=decide_eq_false (by unfold ilen;omega)
 have m0:room ([]:List Int) ([]:List Int)=true:=rfl
 have m1:room ([]:List Dot) a=true:=decide_eq_true (by show 0+a.length≤4294967296;omega)
 have m2:room (app ([]:List Dot) a) b=true:=decide_eq_true (by show a.length+b.length≤4294967296;omega)
 rw [i1,l2,i2,r0,r1,n0,n1,t0,t1,t2,s0,s1,g0,g1,g2,m0,m1,m2]
 simp only [br_true,br_false,app,List.nil_append]
theorem union_is (k:Nat) (s t:DSet) (hs:Can s) (ht:Can t) (hl:s.2.length+t.2.length<k) (h17:17<k) (hk:k<1000000):z1w.f k s t=some (unionD s t):=by
 have hmem:∀ d,d ∈ isort dotLt (s.2++t.2) ↔ d ∈ s.2∨d ∈ t.2:=fun d=>by rw [(isort_perm dotLt _).mem_iff,List.mem_append]
 rw [z1w.f_eq,concat_is k _ _ (by omega) (by omega) (by omega)]
 simp only [bnd_some]
 have e:room ([]:List Int) (s.2++t.2)=true:=by simp [room];omega
 rw [e,join_is k _ _ hs.vok.len h17]
 simp only [br_true,bnd_some]
 rw [made_is k _ (by rw [(isort_perm dotLt _).length_eq,List.length_append];exact hl) hk (fun d hd=>((hmem d).1 hd).elim (hs.rt d) (ht.rt d)) (isort_sorted dotLt_swo _) _ (vmax_ok hs.vok ht.vok)]
 rfl
theorem puts_can:∀ (l:List Dot) (s:DSet),Can s→(∀ d ∈ l,rightD d=true)→Can (l.foldl putD s)∧(∀ x,Mem (l.foldl putD s) x ↔ Mem s x∨x ∈ l)∧(l.foldl putD s).2.length≤s.2.length+l.length
 | [],s,hs,_=>⟨hs,fun x=>by simp,Nat.le_refl _⟩
 | d::l,s,hs,hr=>by
  obtain ⟨a,b,c⟩:=putD_can hs d
  obtain ⟨p,q,r⟩:=puts_can l (putD s d) a (fun e he=>hr e (List.mem_cons_of_mem _ he))
  refine ⟨p,fun x=>?_,by simp only [List.length_cons];show ((d::l).foldl putD s).2.length≤_;simp only [List.foldl_cons];omega⟩
  show Mem (l.foldl putD (putD s d)) x ↔ _
  rw [q,b,List.mem_cons]
  have hd:=hr d (by simp)
  constructor
  ·rintro ((h | ⟨_,h⟩) | h)
   ·exact .inl h
   ·exact .inr (.inl h)
   ·exact .inr (.inr h)
  ·rintro (h | h | h)
   ·exact .inl (.inl h)
   ·exact .inl (.inr ⟨hd,h⟩)
   ·exact .inr h
end Go.Proofs.YtggcagclpkhlhaaGreatDoor
end
noncomputable section
/- That runs answer; binary search. -/
namespace Go.Proofs.YtggcagclpkhlhaaGreatDoor.Pal
open Go
def Tot {α:Type} (x:Option α):Prop:=∃ r,x=some r
theorem some_tot {α:Type} (a:α):Tot (some a):=⟨a,rfl⟩
theorem br_tot {α:Type} {b:Bool} {x y:Option α} (h1:Tot x) (h2:Tot y):Tot (br b x y):=by cases b <;> assumption
theorem bnd_tot {α β:Type} {x:Option α} {f:α→Option β} (h1:Tot x) (h2:∀ r,x=some r→Tot (f r)):Tot (bnd x f):=by
 obtain ⟨r,rfl⟩:=h1
 exact h2 r rfl
theorem bnd_tot' {α β:Type} {x:Option α} {f:α→Option β} (h1:Tot x) (h2:∀ r,Tot (f r)):Tot (bnd x f):=bnd_tot h1 fun r _=>h2 r
theorem loop_tot {ρ:Type} (N:Nat) (L:Nat→Nat→Option ρ) (hs:∀ n i,i<N→Tot (L n (i+1))→Tot (L (n+1) i)) (he:∀ n,Tot (L (n+1) N)):∀ n i,i≤N→N<n+i→Tot (L n i)
 | 0,i,h,h'=>by omega
 | n+1,i,h,h'=>by
  by_cases hi:i<N
  ·exact hs n i hi (loop_tot N L hs he n (i+1) (by omega) (by omega))
  ·have:i=N:=by omega
   subst this;exact he n
theorem bs_gen {α ρ:Type} (l:List α) (lt:α→Bool) (hm:l.Pairwise (fun a b=>lt b=true→lt a=true)) (L:Nat→Nat→Nat→Option ρ) (E:Nat→Option ρ)
  (hs:∀ n i j,i<j→j≤l.length→∀ h:(i+j) / 2<l.length,L (n+1) i j=if lt l[(i+j) / 2]=true then L n ((i+j) / 2+1) j else L n i ((i+j) / 2)) (he:∀ n i,i≤l.length→L (n+1) i i=E i) :
  ∀ n i j,i≤j→j≤l.length→j<n+i→(∀ t (h:t<l.length),t<i→lt l[t]=true)→(∀ t (h:t<l.length),j≤t→lt l[t]=false) →
   ∃ p,p≤l.length∧(∀ t (h:t<l.length),t<p→lt l[t]=true)∧(∀ t (h:t<l.length),p≤t→lt l[t]=false)∧L n i j=E p
 | 0,i,j,h,_,h',_,_=>by omega
 | n+1,i,j,hij,hj,hn,h1,h2=>by
  have mono:∀ s t (hs:s<l.length) (ht:t<l.length),s<t→lt l[t]=true→lt l[s]=true:=fun s t hs ht hst=>List.pairwise_iff_getElem.1 hm s t hs ht hst
  by_cases e:i=j
  ·subst e
   exact ⟨i,hj,h1,h2,he n i hj⟩
  ·have hlt:i<j:=by omega
   have hm':(i+j) / 2<l.length:=by omega
   have:=hs n i j hlt hj hm'
   cases hc:lt l[(i+j) / 2] with
   | true =>
    rw [hc,if_pos rfl] at this
    rw [this]
    exact bs_gen l lt hm L E hs he n ((i+j) / 2+1) j (by omega) hj (by omega) (fun t ht htm=>by
     rcases Nat.lt_or_ge t ((i+j) / 2) with h | h
     ·exact mono t _ ht hm' h hc
     ·have:t=(i+j) / 2:=by omega
      subst this;exact hc) h2
   | false =>
    rw [hc] at this
    simp only [Bool.false_eq_true,if_false] at this
    rw [this]
    exact bs_gen l lt hm L E hs he n i ((i+j) / 2) (by omega) (by omega) (by omega) h1 (fun t ht htm=>by
     rcases Nat.lt_or_ge ((i+j) / 2) t with h | h
     ·cases hh:lt l[t] with
      | false=>rfl
      | true=>have:=mono _ t hm' ht h hh;rw [hc] at this;cases this
     ·have:t=(i+j) / 2:=by omega
      subst this;exact hc)
end Go.Proofs.YtggcagclpkhlhaaGreatDoor.Pal
end
