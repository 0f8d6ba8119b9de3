/- The functions that the statement reaches, and what they come to. Part 2. -/
import Derived.Test.YtggcagclpkhlhaaGreatDoorFw1
import Derived.Test.YtggcagclpkhlhaaGreatDoorFw2
import Derived.Test.YtggcagclpkhlhaaGreatDoorFw3
import Derived.Test.YtggcagclpkhlhaaGreatDoorRecordTells1
set_option linter.unusedVariables false
set_option linter.unusedSimpArgs false
set_option linter.unusedSectionVars false
noncomputable section
/- The program's functions, as plain equations. -/
namespace Go.Proofs.YtggcagclpkhlhaaGreatDoor
open Pal
set_option maxRecDepth 100000
@[reducible] def pack_Open.sg:Sg:=⟨[.dat .str],[],.new,[tpackReader]⟩
@[reducible] def pack_Reader_fine.sg:Sg:=⟨[.ref],[tpackReader],.dat .bool,[tpackReader]⟩
@[reducible] def pack_Reader_Fail.sg:Sg:=⟨[.ref,.dat (.int .i64)],[tpackReader],.unit,[tpackReader]⟩
@[reducible] def pack_Reader_Int.sg:Sg:=⟨[.ref],[tpackReader],.dat (.int .i64),[tpackReader]⟩
@[reducible] def pack_Reader_Fault.sg:Sg:=⟨[.ref],[tpackReader],.dat (.int .i64),[tpackReader]⟩
@[reducible] def dot_Read.sg:Sg:=⟨[.ref],[tpackReader],.dat tDot,[tpackReader]⟩
@[reducible] def pack_Reader_Many.sg:Sg:=⟨[.ref,.dat (.int .i64)],[tpackReader],.dat (.int .i64),[tpackReader]⟩
@[reducible] def pack_Reader_Text.sg:Sg:=⟨[.ref],[tpackReader],.dat .str,[tpackReader]⟩
def z2o.body:Go.Code:=Tryz.f247.body.getD .skip
def z2o.rs:List Go.ResultVar:=Tryz.f247.results.toList
def z2o.regs:List (Nat × RInfo):=[(0,ri [0] []),(1,ri [0,3] []),(2,ri [0,3] []),(3,ri [2] []),(4,ri [2] [])]
def z2o.cx (k:Nat):Cx:=⟨tt,pp,[],z2o.regs,k,mm⟩
@[reducible] def z2o.sg:Sg:=⟨[.dat (.int .i32)],[],.dat .bool,[]⟩
def z2o.f (k:Nat) (a0:Ty.D (.int .i32)):Option (Sg.Out z2o.sg):=Sg.fn z2o.sg (z2o.cx k) z2o.body z2o.rs a0
theorem z2o.f_eq (k:Nat) (a0:Ty.D (.int .i32)):z2o.f k a0=br (ilt a0 32) (br (ilt a0 32) (some false) (some (bnot (ieq a0 65533)))) (br (ile 127 a0) (br (ilt a0 160) (some false) (some (bnot (ieq a0 65533)))) (some (bnot (ieq a0 65533)))):=by kernel_rfl
def z2o.e (k:Nat):Entry:=Sg.entry z2o.sg fun x=>z2o.f k x
theorem z2o.ok (k:Nat):CallOK Tryz.prog 247 (z2o.e k):=fn_ok (c:=z2o.cx k) (code:=z2o.body) (TT.of tt_ok pp_ok mm_ok) (fns_ok trivial) mixed Tryz.func247 (by kernel_rfl) (by kernel_rfl) (by kernel_rfl) (by kernel_rfl) (by kernel_rfl) (by kernel_rfl) (fun x=>by kernel_rfl)
def z16.body:Go.Code:=Tryz.f223.body.getD .skip
def z16.rs:List Go.ResultVar:=Tryz.f223.results.toList
def z16.regs:List (Nat × RInfo):=[(0,ri [0] []),(1,⟨[3,4],[9],[5],[],0,[],[],[],[],[]⟩),(2,ri [3,23] [9]),(3,ri [2] []),(4,ri [24,25,26] [9]),(5,⟨[24,25,26,27],[9],[],[],0,[24,25,26],[9],[],[],[]⟩),(6,ri [6,24,25,26] [9]),(7,ri [24,25,26,32] [9]),(8,ri [2] []),(9,ri [24,25,26] [9]),(10,ri [2] [])]
def z16.cx (k:Nat):Cx:=⟨tt,pp,[(246,runesE),(247,(z2o.e k))],z16.regs,k,mm⟩
@[reducible] def z16.sg:Sg:=⟨[.dat .str],[],.dat .bool,[]⟩
def z16.f (k:Nat) (a0:Ty.D .str):Option (Sg.Out z16.sg):=Sg.fn z16.sg (z16.cx k) z16.body z16.rs a0
def z16.l5 (k:Nat) (n:Nat) (x24:Ty.D (.slc (.int .i32))) (x25:Ty.D (.int .i64)) (x26:Ty.D (.int .i64)):Option (Sg.Out z16.sg):=loopAt (z16.cx k) z16.body [1,1,1,0,1,0] 5 [24,25,26] [9] [] (Sg.K z16.sg (z16.cx k) z16.rs) n ⟨[(24,.dat (.slc (.int .i32)) x24),(25,.dat (.int .i64) x25),(26,.dat (.int .i64) x26)],[]⟩
theorem z16.f_eq (k:Nat) (a0:Ty.D .str):z16.f k a0=bnd (runesB a0) fun r0=>br (bnot r0.2) (some false) (br (ieq (ilen r0.1) 0) (some false) (br (ilt 24 (ilen r0.1)) (some false) (z16.l5 k k r0.1 (ilen r0.1) 0))):=by kernel_rfl
theorem z16.l5_eq (k:Nat) (n5:Nat) (x24:Ty.D (.slc (.int .i32))) (x25:Ty.D (.int .i64)) (x26:Ty.D (.int .i64)):z16.l5 k (n5+1) x24 x25 x26=br (ilt x26 x25) (br (inL x26 x24) (bnd (z2o.f k (rd (.int .i32) x24 (natOf x26))) fun r0=>br (bnot r0) (some false) (z16.l5 k n5 x24 x25 (iadd .i64 x26 1))) none) (some true):=by kernel_rfl
def z16.e (k:Nat):Entry:=Sg.entry z16.sg fun x=>z16.f k x
theorem z16.ok (k:Nat):CallOK Tryz.prog 223 (z16.e k):=fn_ok (c:=z16.cx k) (code:=z16.body) (TT.of tt_ok pp_ok mm_ok) (fns_ok ⟨runes_ok,(z2o.ok k),trivial⟩) mixed Tryz.func223 (by kernel_rfl) (by kernel_rfl) (by kernel_rfl) (by kernel_rfl) (by kernel_rfl) (by kernel_rfl) (fun x=>by kernel_rfl)
def z0x.body:Go.Code:=Tryz.f222.body.getD .skip
def z0x.rs:List Go.ResultVar:=Tryz.f222.results.toList
def z0x.regs:List (Nat × RInfo):=[(0,ri [0] []),(1,ri [2] [])]
def z0x.cx (k:Nat):Cx:=⟨tt,pp,[(223,(z16.e k))],z0x.regs,k,mm⟩
@[reducible] def z0x.sg:Sg:=⟨[.dat .str],[],.dat .bool,[]⟩
def z0x.f (k:Nat) (a0:Ty.D .str):Option (Sg.Out z0x.sg):=Sg.fn z0x.sg (z0x.cx k) z0x.body z0x.rs a0
theorem z0x.f_eq (k:Nat) (a0:Ty.D .str):z0x.f k a0=bnd (z16.f k a0) fun r0=>some (bnot r0):=by kernel_rfl
def z0x.e (k:Nat):Entry:=Sg.entry z0x.sg fun x=>z0x.f k x
theorem z0x.ok (k:Nat):CallOK Tryz.prog 222 (z0x.e k):=fn_ok (c:=z0x.cx k) (code:=z0x.body) (TT.of tt_ok pp_ok mm_ok) (fns_ok ⟨(z16.ok k),trivial⟩) mixed Tryz.func222 (by kernel_rfl) (by kernel_rfl) (by kernel_rfl) (by kernel_rfl) (by kernel_rfl) (by kernel_rfl) (fun x=>by kernel_rfl)
def z0c.body:Go.Code:=Tryz.f245.body.getD .skip
def z0c.rs:List Go.ResultVar:=Tryz.f245.results.toList
def z0c.regs:List (Nat × RInfo):=[(0,ri [0,1] []),(1,ri [0,1,7,8] []),(2,⟨[0,1,7,8,9],[],[],[],0,[0,1,7,8],[],[],[],[]⟩),(3,ri [0,1,5,7,8] []),(4,ri [0,1,5,7,8,16] [16]),(5,ri [4] []),(6,ri [0,1,7,8] []),(7,ri [4] [])]
def z0c.cx (k:Nat):Cx:=⟨tt,pp,[(222,(z0x.e k))],z0c.regs,k,mm⟩
@[reducible] def z0c.sg:Sg:=⟨[.dat (.slc .str),.fn 222 0],[],.dat (.int .i64),[]⟩
def z0c.f (k:Nat) (a0:Ty.D (.slc .str)):Option (Sg.Out z0c.sg):=Sg.fn z0c.sg (z0c.cx k) z0c.body z0c.rs a0
def z0c.l2 (k:Nat) (n:Nat) (x0:Ty.D (.slc .str)) (x7:Ty.D (.int .i64)) (x8:Ty.D (.int .i64)):Option (Sg.Out z0c.sg):=loopAt (z0c.cx k) z0c.body [1,0,1,0] 2 [0,1,7,8] [] [] (Sg.K z0c.sg (z0c.cx k) z0c.rs) n ⟨[(0,.dat (.slc .str) x0),(1,.fn 222 []),(7,.dat (.int .i64) x7),(8,.dat (.int .i64) x8)],[]⟩
theorem z0c.f_eq (k:Nat) (a0:Ty.D (.slc .str)):z0c.f k a0=z0c.l2 k k a0 (ilen a0) 0:=by kernel_rfl
theorem z0c.l2_eq (k:Nat) (n2:Nat) (x0:Ty.D (.slc .str)) (x7:Ty.D (.int .i64)) (x8:Ty.D (.int .i64)):z0c.l2 k (n2+1) x0 x7 x8=br (ilt x8 x7) (br (inL x8 x0) (bnd (z0x.f k (rd .str x0 (natOf x8))) fun r0=>br r0 (some x8) (z0c.l2 k n2 x0 x7 (iadd .i64 x8 1))) none) (some (-1)):=by kernel_rfl
def z0c.e (k:Nat):Entry:=Sg.entry z0c.sg fun x=>z0c.f k x
theorem z0c.ok (k:Nat):CallOK Tryz.prog 245 (z0c.e k):=fn_ok (c:=z0c.cx k) (code:=z0c.body) (TT.of tt_ok pp_ok mm_ok) (fns_ok ⟨(z0x.ok k),trivial⟩) mixed Tryz.func245 (by kernel_rfl) (by kernel_rfl) (by kernel_rfl) (by kernel_rfl) (by kernel_rfl) (by kernel_rfl) (fun x=>by kernel_rfl)
def z09.body:Go.Code:=Tryz.f221.body.getD .skip
def z09.rs:List Go.ResultVar:=Tryz.f221.results.toList
def z09.regs:List (Nat × RInfo):=[(0,ri [0,1] []),(1,ri [4] [])]
def z09.cx (k:Nat):Cx:=⟨tt,pp,[(245,(z0c.e k)),(222,(z0x.e k))],z09.regs,k,mm⟩
@[reducible] def z09.sg:Sg:=⟨[.dat (.slc .str),.fn 222 0],[],.dat .bool,[]⟩
def z09.f (k:Nat) (a0:Ty.D (.slc .str)):Option (Sg.Out z09.sg):=Sg.fn z09.sg (z09.cx k) z09.body z09.rs a0
theorem z09.f_eq (k:Nat) (a0:Ty.D (.slc .str)):z09.f k a0=bnd (z0c.f k a0) fun r0=>some (ile 0 r0):=by kernel_rfl
def z09.e (k:Nat):Entry:=Sg.entry z09.sg fun x=>z09.f k x
theorem z09.ok (k:Nat):CallOK Tryz.prog 221 (z09.e k):=fn_ok (c:=z09.cx k) (code:=z09.body) (TT.of tt_ok pp_ok mm_ok) (fns_ok ⟨(z0c.ok k),(z0x.ok k),trivial⟩) mixed Tryz.func221 (by kernel_rfl) (by kernel_rfl) (by kernel_rfl) (by kernel_rfl) (by kernel_rfl) (by kernel_rfl) (fun x=>by kernel_rfl)
def z1H.body:Go.Code:=Tryz.f172.body.getD .skip
def z1H.rs:List Go.ResultVar:=Tryz.f172.results.toList
def z1H.regs:List (Nat × RInfo):=[(0,ri [0] []),(1,ri [0,3] []),(2,ri [2] []),(3,ri [0,7] []),(4,ri [2] []),(5,ri [11] [13]),(6,ri [2] []),(7,ri [2] [])]
def z1H.cx (k:Nat):Cx:=⟨tt,pp,[(221,(z09.e k)),(222,(z0x.e k))],z1H.regs,k,mm⟩
@[reducible] def z1H.sg:Sg:=⟨[.dat (.slc .str)],[],.dat (.int .i64),[]⟩
def z1H.f (k:Nat) (a0:Ty.D (.slc .str)):Option (Sg.Out z1H.sg):=Sg.fn z1H.sg (z1H.cx k) z1H.body z1H.rs a0
theorem z1H.f_eq (k:Nat) (a0:Ty.D (.slc .str)):z1H.f k a0=br (ieq (ilen a0) 0) (some 8) (br (ilt 8 (ilen a0)) (some 9) (bnd (z09.f k a0) fun r0=>br r0 (some 8) (some 0))):=by kernel_rfl
def z1H.e (k:Nat):Entry:=Sg.entry z1H.sg fun x=>z1H.f k x
theorem z1H.ok (k:Nat):CallOK Tryz.prog 172 (z1H.e k):=fn_ok (c:=z1H.cx k) (code:=z1H.body) (TT.of tt_ok pp_ok mm_ok) (fns_ok ⟨(z09.ok k),(z0x.ok k),trivial⟩) mixed Tryz.func172 (by kernel_rfl) (by kernel_rfl) (by kernel_rfl) (by kernel_rfl) (by kernel_rfl) (by kernel_rfl) (fun x=>by kernel_rfl)
@[reducible] def path_Read.sg:Sg:=⟨[.ref],[tpackReader],.own .str,[tpackReader]⟩
@[reducible] def value_Unfold.sg:Sg:=⟨[.dat (.int .i64)],[],.dat (.int .i64),[]⟩
def z0I.body:Go.Code:=Tryz.f224.body.getD .skip
def z0I.rs:List Go.ResultVar:=Tryz.f224.results.toList
def z0I.regs:List (Nat × RInfo):=[(0,ri [1] [1]),(1,ri [1,6] [1]),(2,ri [1,6,7] [1]),(3,ri [2] [27]),(4,ri [1,6,22] [1]),(5,⟨[1,4],[1,27],[6],[],0,[],[],[],[],[]⟩),(6,ri [2] [27]),(7,ri [1,42] [1]),(8,ri [2] [27]),(9,ri [2] [27])]
def z0I.cx (k:Nat):Cx:=⟨tt,pp,[(246,runesE)],z0I.regs,k,mm⟩
@[reducible] def z0I.sg:Sg:=⟨[.dat tValue],[],.dat .bool,[]⟩
def z0I.f (k:Nat) (a0:Ty.D tValue):Option (Sg.Out z0I.sg):=Sg.fn z0I.sg (z0I.cx k) z0I.body z0I.rs a0
theorem z0I.f_eq (k:Nat) (a0:Ty.D tValue):z0I.f k a0=br (ieq a0.1 1) (br (seq a0.2.2 []) (br (ile (-2147483647) a0.2.1) (some (ile a0.2.1 2147483647)) (some false)) (some false)) (br (ieq a0.1 2) (bnd (runesB a0.2.2) fun r0=>br r0.2 (br (ieq a0.2.1 0) (some (ile (ilen a0.2.2) 64)) (some false)) (some false)) (br (ieq a0.1 3) (br (seq a0.2.2 []) (br (ieq a0.2.1 0) (some true) (some (ieq a0.2.1 1))) (some false)) (some false))):=by kernel_rfl
def z0I.e (k:Nat):Entry:=Sg.entry z0I.sg fun x=>z0I.f k x
theorem z0I.ok (k:Nat):CallOK Tryz.prog 224 (z0I.e k):=fn_ok (c:=z0I.cx k) (code:=z0I.body) (TT.of tt_ok pp_ok mm_ok) (fns_ok ⟨runes_ok,trivial⟩) mixed Tryz.func224 (by kernel_rfl) (by kernel_rfl) (by kernel_rfl) (by kernel_rfl) (by kernel_rfl) (by kernel_rfl) (fun x=>by kernel_rfl)
@[reducible] def value_Read.sg:Sg:=⟨[.ref],[tpackReader],.dat tValue,[tpackReader]⟩
@[reducible] def op_seen.sg:Sg:=⟨[.ref],[tpackReader],.own tUndo,[tpackReader]⟩
def z2c.body:Go.Code:=Tryz.f173.body.getD .skip
def z2c.rs:List Go.ResultVar:=Tryz.f173.results.toList
def z2c.regs:List (Nat × RInfo):=[(0,⟨[1],[1],[0],[],0,[],[],[],[],[]⟩),(1,ri [1,10] [1]),(2,ri [2] [17]),(3,ri [2] [17])]
def z2c.cx (k:Nat):Cx:=⟨tt,pp,[(224,(z0I.e k))],z2c.regs,k,mm⟩
@[reducible] def z2c.sg:Sg:=⟨[.dat tOp],[],.dat .bool,[]⟩
def z2c.f (k:Nat) (a0:Ty.D tOp):Option (Sg.Out z2c.sg):=Sg.fn z2c.sg (z2c.cx k) z2c.body z2c.rs a0
theorem z2c.f_eq (k:Nat) (a0:Ty.D tOp):z2c.f k a0=br (ieq a0.1 3) (some (deq tValue a0.2.2.1 (0,(0,[])))) (br (ieq a0.1 5) (some (deq tValue a0.2.2.1 (0,(0,[])))) (bnd (z0I.f k a0.2.2.1) fun r0=>some r0)):=by kernel_rfl
def z2c.e (k:Nat):Entry:=Sg.entry z2c.sg fun x=>z2c.f k x
theorem z2c.ok (k:Nat):CallOK Tryz.prog 173 (z2c.e k):=fn_ok (c:=z2c.cx k) (code:=z2c.body) (TT.of tt_ok pp_ok mm_ok) (fns_ok ⟨(z0I.ok k),trivial⟩) mixed Tryz.func173 (by kernel_rfl) (by kernel_rfl) (by kernel_rfl) (by kernel_rfl) (by kernel_rfl) (by kernel_rfl) (fun x=>by kernel_rfl)
def z28.body:Go.Code:=Tryz.f174.body.getD .skip
def z28.rs:List Go.ResultVar:=Tryz.f174.results.toList
def z28.regs:List (Nat × RInfo):=[(0,⟨[1],[1],[0],[],0,[],[],[],[],[]⟩),(1,ri [1,5] [1]),(2,ri [2] []),(3,ri [2] [])]
def z28.cx (k:Nat):Cx:=⟨tt,pp,[],z28.regs,k,mm⟩
@[reducible] def z28.sg:Sg:=⟨[.dat tOp],[],.dat .bool,[]⟩
def z28.f (k:Nat) (a0:Ty.D tOp):Option (Sg.Out z28.sg):=Sg.fn z28.sg (z28.cx k) z28.body z28.rs a0
theorem z28.f_eq (k:Nat) (a0:Ty.D tOp):z28.f k a0=br (ieq a0.1 3) (br (bnot (ieq a0.2.2.2.1 0)) (br (ile (-2147483647) a0.2.2.2.1) (some (ile a0.2.2.2.1 2147483647)) (some false)) (some false)) (some (ieq a0.2.2.2.1 0)):=by kernel_rfl
def z28.e (k:Nat):Entry:=Sg.entry z28.sg fun x=>z28.f k x
theorem z28.ok (k:Nat):CallOK Tryz.prog 174 (z28.e k):=fn_ok (c:=z28.cx k) (code:=z28.body) (TT.of tt_ok pp_ok mm_ok) (fns_ok trivial) mixed Tryz.func174 (by kernel_rfl) (by kernel_rfl) (by kernel_rfl) (by kernel_rfl) (by kernel_rfl) (by kernel_rfl) (fun x=>by kernel_rfl)
def z2n.body:Go.Code:=Tryz.f225.body.getD .skip
def z2n.rs:List Go.ResultVar:=Tryz.f225.results.toList
def z2n.regs:List (Nat × RInfo):=[(0,ri [2,3] [2,3]),(1,rq [4] [16] 12)]
def z2n.cx (k:Nat):Cx:=⟨tt,pp,[(176,(z0H.e k)),(227,(z0j.e k)),(226,(z1s.e k))],z2n.regs,k,mm⟩
@[reducible] def z2n.sg:Sg:=⟨[.dat tUndo,.dat tUndo],[],.dat (.int .i64),[]⟩
def z2n.f (k:Nat) (a0:Ty.D tUndo) (a1:Ty.D tUndo):Option (Sg.Out z2n.sg):=Sg.fn z2n.sg (z2n.cx k) z2n.body z2n.rs (a0,a1)
theorem z2n.f_eq (k:Nat) (a0:Ty.D tUndo) (a1:Ty.D tUndo):z2n.f k a0 a1=bnd (z0H.f k a0.1 a1.1) fun r0=>bnd (z0j.f k a0.2 a1.2) fun r1=>bnd (z1s.f k (r0::(r1::[]))) fun r2=>some r2:=by kernel_rfl
def z2n.e (k:Nat):Entry:=Sg.entry z2n.sg fun x=>z2n.f k x.1 x.2
theorem z2n.ok (k:Nat):CallOK Tryz.prog 225 (z2n.e k):=fn_ok (c:=z2n.cx k) (code:=z2n.body) (TT.of tt_ok pp_ok mm_ok) (fns_ok ⟨(z0H.ok k),(z0j.ok k),(z1s.ok k),trivial⟩) mixed Tryz.func225 (by kernel_rfl) (by kernel_rfl) (by kernel_rfl) (by kernel_rfl) (by kernel_rfl) (by kernel_rfl) (fun x=>by kernel_rfl)
def z2w.body:Go.Code:=Tryz.f175.body.getD .skip
def z2w.rs:List Go.ResultVar:=Tryz.f175.results.toList
def z2w.regs:List (Nat × RInfo):=[(0,ri [0] []),(1,ri [0,5,6,7] []),(2,⟨[0,5,6,7,8],[],[],[],0,[0,5,6,7],[],[],[],[]⟩),(3,ri [0,3,4,5,6,7] [4]),(4,rq [0,5,6,7,39] [] 28),(5,ri [2] []),(6,ri [0,5,6,7] []),(7,ri [2] [])]
def z2w.cx (k:Nat):Cx:=⟨tt,pp,[(119,(z1P.e k)),(225,(z2n.e k))],z2w.regs,k,mm⟩
@[reducible] def z2w.sg:Sg:=⟨[.dat (.slc tUndo)],[],.dat .bool,[]⟩
def z2w.f (k:Nat) (a0:Ty.D (.slc tUndo)):Option (Sg.Out z2w.sg):=Sg.fn z2w.sg (z2w.cx k) z2w.body z2w.rs a0
def z2w.l2 (k:Nat) (n:Nat) (x0:Ty.D (.slc tUndo)) (x5:Ty.D (.slc tUndo)) (x6:Ty.D (.int .i64)) (x7:Ty.D (.int .i64)):Option (Sg.Out z2w.sg):=loopAt (z2w.cx k) z2w.body [1,0,1,0] 2 [0,5,6,7] [] [] (Sg.K z2w.sg (z2w.cx k) z2w.rs) n ⟨[(0,.dat (.slc tUndo) x0),(5,.dat (.slc tUndo) x5),(6,.dat (.int .i64) x6),(7,.dat (.int .i64) x7)],[]⟩
theorem z2w.f_eq (k:Nat) (a0:Ty.D (.slc tUndo)):z2w.f k a0=z2w.l2 k k a0 a0 (ilen a0) 0:=by kernel_rfl
theorem z2w.l2_eq (k:Nat) (n2:Nat) (x0:Ty.D (.slc tUndo)) (x5:Ty.D (.slc tUndo)) (x6:Ty.D (.int .i64)) (x7:Ty.D (.int .i64)):z2w.l2 k (n2+1) x0 x5 x6 x7=br (ilt x7 x6) (br (inL x7 x5) (bnd (z1P.f k ((rd tUndo x5 (natOf x7)).1)) fun r0=>br (bnot r0) (some false) (br (ilt ((rd tUndo x5 (natOf x7)).2) 0) (some false) (br (ile 16 ((rd tUndo x5 (natOf x7)).2)) (some false) (br (ilt 0 x7) (br (inL (isub .i64 x7 1) x0) (bnd (z2n.f k (rd tUndo x0 (natOf (isub .i64 x7 1))) (rd tUndo x5 (natOf x7))) fun r1=>br (ile 0 r1) (some false) (z2w.l2 k n2 x0 x5 x6 (iadd .i64 x7 1))) none) (z2w.l2 k n2 x0 x5 x6 (iadd .i64 x7 1)))))) none) (some true):=by kernel_rfl
def z2w.e (k:Nat):Entry:=Sg.entry z2w.sg fun x=>z2w.f k x
theorem z2w.ok (k:Nat):CallOK Tryz.prog 175 (z2w.e k):=fn_ok (c:=z2w.cx k) (code:=z2w.body) (TT.of tt_ok pp_ok mm_ok) (fns_ok ⟨(z1P.ok k),(z2n.ok k),trivial⟩) mixed Tryz.func175 (by kernel_rfl) (by kernel_rfl) (by kernel_rfl) (by kernel_rfl) (by kernel_rfl) (by kernel_rfl) (fun x=>by kernel_rfl)
def z2q.body:Go.Code:=Tryz.f121.body.getD .skip
def z2q.rs:List Go.ResultVar:=Tryz.f121.results.toList
def z2q.regs:List (Nat × RInfo):=[(0,⟨[1],[1],[0],[],0,[],[],[],[],[]⟩),(1,ri [1,12] [1]),(2,ri [2] [15]),(3,ri [1,3] [1,15]),(4,ri [1,3,17] [1,15]),(5,ri [2] [15]),(6,ri [1,4] [1]),(7,ri [1,4,32] [1]),(8,ri [1,4,32] [1]),(9,ri [1,32] [1]),(10,ri [2] [15]),(11,ri [1,47] [1]),(12,ri [2] [15]),(13,ri [52] []),(14,ri [2] [15]),(15,ri [2] [15])]
def z2q.cx (k:Nat):Cx:=⟨tt,pp,[(172,(z1H.e k)),(173,(z2c.e k)),(174,(z28.e k)),(175,(z2w.e k))],z2q.regs,k,mm⟩
@[reducible] def z2q.sg:Sg:=⟨[.dat tOp],[],.dat (.int .i64),[]⟩
def z2q.f (k:Nat) (a0:Ty.D tOp):Option (Sg.Out z2q.sg):=Sg.fn z2q.sg (z2q.cx k) z2q.body z2q.rs a0
theorem z2q.f_eq (k:Nat) (a0:Ty.D tOp):z2q.f k a0=br (ilt a0.1 1) (some 18) (br (ilt 5 a0.1) (some 18) (bnd (z1H.f k a0.2.1) fun r0=>br (bnot (ieq r0 0)) (some r0) (br (ieq a0.1 1) (bnd (z2c.f k a0) fun r1=>br (bnot r1) (br (bnot r1) (some 2) (br (ilt 256 (ilen a0.2.2.2.2)) (some 7) (bnd (z2w.f k a0.2.2.2.2) fun r2=>br (bnot r2) (some 2) (some 0)))) (bnd (z28.f k a0) fun r3=>br (bnot r3) (br (bnot r3) (some 2) (br (ilt 256 (ilen a0.2.2.2.2)) (some 7) (bnd (z2w.f k a0.2.2.2.2) fun r4=>br (bnot r4) (some 2) (some 0)))) (br (bnot true) (br (ilt 0 (ilen a0.2.2.2.2)) (some 2) (br (ilt 256 (ilen a0.2.2.2.2)) (some 7) (bnd (z2w.f k a0.2.2.2.2) fun r5=>br (bnot r5) (some 2) (some 0)))) (br (ilt 256 (ilen a0.2.2.2.2)) (some 7) (bnd (z2w.f k a0.2.2.2.2) fun r6=>br (bnot r6) (some 2) (some 0)))))) (br (ieq a0.1 4) (bnd (z2c.f k a0) fun r7=>br (bnot r7) (br (bnot r7) (some 2) (br (ilt 256 (ilen a0.2.2.2.2)) (some 7) (bnd (z2w.f k a0.2.2.2.2) fun r8=>br (bnot r8) (some 2) (some 0)))) (bnd (z28.f k a0) fun r9=>br (bnot r9) (br (bnot r9) (some 2) (br (ilt 256 (ilen a0.2.2.2.2)) (some 7) (bnd (z2w.f k a0.2.2.2.2) fun r10=>br (bnot r10) (some 2) (some 0)))) (br (bnot true) (br (ilt 0 (ilen a0.2.2.2.2)) (some 2) (br (ilt 256 (ilen a0.2.2.2.2)) (some 7) (bnd (z2w.f k a0.2.2.2.2) fun r11=>br (bnot r11) (some 2) (some 0)))) (br (ilt 256 (ilen a0.2.2.2.2)) (some 7) (bnd (z2w.f k a0.2.2.2.2) fun r12=>br (bnot r12) (some 2) (some 0)))))) (bnd (z2c.f k a0) fun r13=>br (bnot r13) (br (bnot r13) (some 2) (br (ilt 256 (ilen a0.2.2.2.2)) (some 7) (bnd (z2w.f k a0.2.2.2.2) fun r14=>br (bnot r14) (some 2) (some 0)))) (bnd (z28.f k a0) fun r15=>br (bnot r15) (br (bnot r15) (some 2) (br (ilt 256 (ilen a0.2.2.2.2)) (some 7) (bnd (z2w.f k a0.2.2.2.2) fun r16=>br (bnot r16) (some 2) (some 0)))) (br (bnot (ieq a0.1 5)) (br (ilt 0 (ilen a0.2.2.2.2)) (some 2) (br (ilt 256 (ilen a0.2.2.2.2)) (some 7) (bnd (z2w.f k a0.2.2.2.2) fun r17=>br (bnot r17) (some 2) (some 0)))) (br (ilt 256 (ilen a0.2.2.2.2)) (some 7) (bnd (z2w.f k a0.2.2.2.2) fun r18=>br (bnot r18) (some 2) (some 0)))))))))):=by kernel_rfl
def z2q.e (k:Nat):Entry:=Sg.entry z2q.sg fun x=>z2q.f k x
theorem z2q.ok (k:Nat):CallOK Tryz.prog 121 (z2q.e k):=fn_ok (c:=z2q.cx k) (code:=z2q.body) (TT.of tt_ok pp_ok mm_ok) (fns_ok ⟨(z1H.ok k),(z2c.ok k),(z28.ok k),(z2w.ok k),trivial⟩) mixed Tryz.func121 (by kernel_rfl) (by kernel_rfl) (by kernel_rfl) (by kernel_rfl) (by kernel_rfl) (by kernel_rfl) (fun x=>by kernel_rfl)
@[reducible] def op_Read.sg:Sg:=⟨[.ref],[tpackReader],.dat tOp,[tpackReader]⟩
def z2t.body:Go.Code:=Tryz.f120.body.getD .skip
def z2t.rs:List Go.ResultVar:=Tryz.f120.results.toList
def z2t.regs:List (Nat × RInfo):=[(0,⟨[1],[1],[0],[],0,[],[],[],[],[]⟩),(1,ri [2] [])]
def z2t.cx (k:Nat):Cx:=⟨tt,pp,[],z2t.regs,k,mm⟩
@[reducible] def z2t.sg:Sg:=⟨[.dat tOp],[],.dat .bool,[]⟩
def z2t.f (k:Nat) (a0:Ty.D tOp):Option (Sg.Out z2t.sg):=Sg.fn z2t.sg (z2t.cx k) z2t.body z2t.rs a0
theorem z2t.f_eq (k:Nat) (a0:Ty.D tOp):z2t.f k a0=br (ieq a0.1 0) (br (ieq (ilen a0.2.1) 0) (br (deq tValue a0.2.2.1 (0,(0,[]))) (br (ieq a0.2.2.2.1 0) (some (ieq (ilen a0.2.2.2.2) 0)) (some false)) (some false)) (some false)) (some false):=by kernel_rfl
def z2t.e (k:Nat):Entry:=Sg.entry z2t.sg fun x=>z2t.f k x
theorem z2t.ok (k:Nat):CallOK Tryz.prog 120 (z2t.e k):=fn_ok (c:=z2t.cx k) (code:=z2t.body) (TT.of tt_ok pp_ok mm_ok) (fns_ok trivial) mixed Tryz.func120 (by kernel_rfl) (by kernel_rfl) (by kernel_rfl) (by kernel_rfl) (by kernel_rfl) (by kernel_rfl) (fun x=>by kernel_rfl)
def z1R.body:Go.Code:=Tryz.f50.body.getD .skip
def z1R.rs:List Go.ResultVar:=Tryz.f50.results.toList
def z1R.regs:List (Nat × RInfo):=[(0,⟨[1],[1],[0],[],0,[],[],[],[],[]⟩),(1,ri [1,6] [1]),(2,ri [1,6] [1]),(3,ri [1,6] [1]),(4,ri [2] [51]),(5,ri [1,27] [1]),(6,ri [2] [51]),(7,ri [1,32] [1]),(8,ri [2] [51]),(9,ri [1,38,39,40] [1]),(10,⟨[1,38,39,40,41],[1],[],[],0,[1,38,39,40],[1],[],[],[]⟩),(11,⟨[1,4,38,39,40],[1,4],[3],[],0,[],[],[],[],[]⟩),(12,ri [1,4,38,39,40,49] [1,4,48]),(13,ri [1,5,38,39,40] [1,51]),(14,ri [1,5,38,39,40,53] [1,51]),(15,ri [2] [51]),(16,ri [1,38,39,40] [1]),(17,ri [2] [51])]
def z1R.cx (k:Nat):Cx:=⟨tt,pp,[(119,(z1P.e k)),(120,(z2t.e k)),(121,(z2q.e k))],z1R.regs,k,mm⟩
@[reducible] def z1R.sg:Sg:=⟨[.dat tTxn],[],.dat (.int .i64),[]⟩
def z1R.f (k:Nat) (a0:Ty.D tTxn):Option (Sg.Out z1R.sg):=Sg.fn z1R.sg (z1R.cx k) z1R.body z1R.rs a0
def z1R.l10 (k:Nat) (n:Nat) (x38:Ty.D (.slc tOp)) (x39:Ty.D (.int .i64)) (x40:Ty.D (.int .i64)) (m1:Ty.D tTxn):Option (Sg.Out z1R.sg):=loopAt (z1R.cx k) z1R.body [1,1,0,1,0] 10 [1,38,39,40] [1] [] (Sg.K z1R.sg (z1R.cx k) z1R.rs) n ⟨[(1,.ref 1 []),(38,.dat (.slc tOp) x38),(39,.dat (.int .i64) x39),(40,.dat (.int .i64) x40)],[(1,.dat tTxn m1)]⟩
theorem z1R.f_eq (k:Nat) (a0:Ty.D tTxn):z1R.f k a0=bnd (z1P.f k a0.1) fun r0=>br (bnot r0) (br (bnot r0) (some 2) (br (ieq (ilen a0.2.2.2.2) 0) (some 11) (br (ilt 16 (ilen a0.2.2.2.2)) (some 7) (z1R.l10 k k a0.2.2.2.2 (ilen a0.2.2.2.2) 0 a0)))) (br (ilt a0.2.1 0) (some 2) (br (ile 8 a0.2.1) (br (ile 8 a0.2.1) (some 2) (br (ieq (ilen a0.2.2.2.2) 0) (some 11) (br (ilt 16 (ilen a0.2.2.2.2)) (some 7) (z1R.l10 k k a0.2.2.2.2 (ilen a0.2.2.2.2) 0 a0)))) (br (ilt a0.2.2.1 1) (some 2) (br (ilt 1099511627776 a0.2.2.1) (some 2) (br (ieq (ilen a0.2.2.2.2) 0) (some 11) (br (ilt 16 (ilen a0.2.2.2.2)) (some 7) (z1R.l10 k k a0.2.2.2.2 (ilen a0.2.2.2.2) 0 a0))))))):=by kernel_rfl
theorem z1R.l10_eq (k:Nat) (n10:Nat) (x38:Ty.D (.slc tOp)) (x39:Ty.D (.int .i64)) (x40:Ty.D (.int .i64)) (m1:Ty.D tTxn):z1R.l10 k (n10+1) x38 x39 x40 m1=br (ilt x40 x39) (br (inL x40 x38) (br m1.2.2.2.1 (bnd (z2t.f k (rd tOp x38 (natOf x40))) fun r0=>br r0 (z1R.l10 k n10 x38 x39 (iadd .i64 x40 1) m1) (bnd (z2q.f k (rd tOp x38 (natOf x40))) fun r1=>br (bnot (ieq r1 0)) (some r1) (z1R.l10 k n10 x38 x39 (iadd .i64 x40 1) m1))) (bnd (z2q.f k (rd tOp x38 (natOf x40))) fun r2=>br (bnot (ieq r2 0)) (some r2) (z1R.l10 k n10 x38 x39 (iadd .i64 x40 1) m1))) none) (some 0):=by kernel_rfl
def z1R.e (k:Nat):Entry:=Sg.entry z1R.sg fun x=>z1R.f k x
theorem z1R.ok (k:Nat):CallOK Tryz.prog 50 (z1R.e k):=fn_ok (c:=z1R.cx k) (code:=z1R.body) (TT.of tt_ok pp_ok mm_ok) (fns_ok ⟨(z1P.ok k),(z2t.ok k),(z2q.ok k),trivial⟩) mixed Tryz.func50 (by kernel_rfl) (by kernel_rfl) (by kernel_rfl) (by kernel_rfl) (by kernel_rfl) (by kernel_rfl) (fun x=>by kernel_rfl)
@[reducible] def txn_Read.sg:Sg:=⟨[.ref],[tpackReader],.dat tTxn,[tpackReader]⟩
def z2f.body:Go.Code:=Tryz.f125.body.getD .skip
def z2f.rs:List Go.ResultVar:=Tryz.f125.results.toList
def z2f.regs:List (Nat × RInfo):=[(0,ri [0] []),(1,ri [0,5,6,7] []),(2,⟨[0,5,6,7,8],[],[],[],0,[0,5,6,7],[],[],[],[]⟩),(3,⟨[0,3,4,5,6,7],[4],[5],[],0,[],[],[],[],[]⟩),(4,rq [0,5,6,7,25] [] 14),(5,ri [2] []),(6,ri [0,5,6,7] []),(7,ri [2] [])]
def z2f.cx (k:Nat):Cx:=⟨tt,pp,[(176,(z0H.e k))],z2f.regs,k,mm⟩
@[reducible] def z2f.sg:Sg:=⟨[.dat (.slc tTxn)],[],.dat .bool,[]⟩
def z2f.f (k:Nat) (a0:Ty.D (.slc tTxn)):Option (Sg.Out z2f.sg):=Sg.fn z2f.sg (z2f.cx k) z2f.body z2f.rs a0
def z2f.l2 (k:Nat) (n:Nat) (x0:Ty.D (.slc tTxn)) (x5:Ty.D (.slc tTxn)) (x6:Ty.D (.int .i64)) (x7:Ty.D (.int .i64)):Option (Sg.Out z2f.sg):=loopAt (z2f.cx k) z2f.body [1,0,1,0] 2 [0,5,6,7] [] [] (Sg.K z2f.sg (z2f.cx k) z2f.rs) n ⟨[(0,.dat (.slc tTxn) x0),(5,.dat (.slc tTxn) x5),(6,.dat (.int .i64) x6),(7,.dat (.int .i64) x7)],[]⟩
theorem z2f.f_eq (k:Nat) (a0:Ty.D (.slc tTxn)):z2f.f k a0=z2f.l2 k k a0 a0 (ilen a0) 0:=by kernel_rfl
theorem z2f.l2_eq (k:Nat) (n2:Nat) (x0:Ty.D (.slc tTxn)) (x5:Ty.D (.slc tTxn)) (x6:Ty.D (.int .i64)) (x7:Ty.D (.int .i64)):z2f.l2 k (n2+1) x0 x5 x6 x7=br (ilt x7 x6) (br (inL x7 x5) (br (ilt 0 x7) (br (inL (isub .i64 x7 1) x0) (bnd (z0H.f k ((rd tTxn x0 (natOf (isub .i64 x7 1))).1) ((rd tTxn x5 (natOf x7)).1)) fun r0=>br (ile 0 r0) (some false) (z2f.l2 k n2 x0 x5 x6 (iadd .i64 x7 1))) none) (z2f.l2 k n2 x0 x5 x6 (iadd .i64 x7 1))) none) (some true):=by kernel_rfl
def z2f.e (k:Nat):Entry:=Sg.entry z2f.sg fun x=>z2f.f k x
theorem z2f.ok (k:Nat):CallOK Tryz.prog 125 (z2f.e k):=fn_ok (c:=z2f.cx k) (code:=z2f.body) (TT.of tt_ok pp_ok mm_ok) (fns_ok ⟨(z0H.ok k),trivial⟩) mixed Tryz.func125 (by kernel_rfl) (by kernel_rfl) (by kernel_rfl) (by kernel_rfl) (by kernel_rfl) (by kernel_rfl) (fun x=>by kernel_rfl)
@[reducible] def txn_ReadList.sg:Sg:=⟨[.ref,.dat (.int .i64)],[tpackReader],.own tTxn,[tpackReader]⟩
def z0m.body:Go.Code:=Tryz.f122.body.getD .skip
def z0m.rs:List Go.ResultVar:=Tryz.f122.results.toList
def z0m.regs:List (Nat × RInfo):=[(0,ri [2,3] [2,3]),(1,ri [4] [9])]
def z0m.cx (k:Nat):Cx:=⟨tt,pp,[(176,(z0H.e k))],z0m.regs,k,mm⟩
@[reducible] def z0m.sg:Sg:=⟨[.dat tUndo,.dat tUndo],[],.dat (.int .i64),[]⟩
def z0m.f (k:Nat) (a0:Ty.D tUndo) (a1:Ty.D tUndo):Option (Sg.Out z0m.sg):=Sg.fn z0m.sg (z0m.cx k) z0m.body z0m.rs (a0,a1)
theorem z0m.f_eq (k:Nat) (a0:Ty.D tUndo) (a1:Ty.D tUndo):z0m.f k a0 a1=bnd (z0H.f k a0.1 a1.1) fun r0=>some r0:=by kernel_rfl
def z0m.e (k:Nat):Entry:=Sg.entry z0m.sg fun x=>z0m.f k x.1 x.2
theorem z0m.ok (k:Nat):CallOK Tryz.prog 122 (z0m.e k):=fn_ok (c:=z0m.cx k) (code:=z0m.body) (TT.of tt_ok pp_ok mm_ok) (fns_ok ⟨(z0H.ok k),trivial⟩) mixed Tryz.func122 (by kernel_rfl) (by kernel_rfl) (by kernel_rfl) (by kernel_rfl) (by kernel_rfl) (by kernel_rfl) (fun x=>by kernel_rfl)
def z0O.body:Go.Code:=Tryz.f52.body.getD .skip
def z0O.rs:List Go.ResultVar:=Tryz.f52.results.toList
def z0O.regs:List (Nat × RInfo):=[(0,ri [0] []),(1,ri [0,5,6,7] []),(2,⟨[0,5,6,7,8],[],[],[],0,[0,5,6,7],[],[],[],[]⟩),(3,ri [0,3,4,5,6,7] [4]),(4,rq [0,5,6,7,39] [] 28),(5,ri [2] []),(6,ri [0,5,6,7] []),(7,ri [2] [])]
def z0O.cx (k:Nat):Cx:=⟨tt,pp,[(119,(z1P.e k)),(122,(z0m.e k))],z0O.regs,k,mm⟩
@[reducible] def z0O.sg:Sg:=⟨[.dat (.slc tUndo)],[],.dat .bool,[]⟩
def z0O.f (k:Nat) (a0:Ty.D (.slc tUndo)):Option (Sg.Out z0O.sg):=Sg.fn z0O.sg (z0O.cx k) z0O.body z0O.rs a0
def z0O.l2 (k:Nat) (n:Nat) (x0:Ty.D (.slc tUndo)) (x5:Ty.D (.slc tUndo)) (x6:Ty.D (.int .i64)) (x7:Ty.D (.int .i64)):Option (Sg.Out z0O.sg):=loopAt (z0O.cx k) z0O.body [1,0,1,0] 2 [0,5,6,7] [] [] (Sg.K z0O.sg (z0O.cx k) z0O.rs) n ⟨[(0,.dat (.slc tUndo) x0),(5,.dat (.slc tUndo) x5),(6,.dat (.int .i64) x6),(7,.dat (.int .i64) x7)],[]⟩
theorem z0O.f_eq (k:Nat) (a0:Ty.D (.slc tUndo)):z0O.f k a0=z0O.l2 k k a0 a0 (ilen a0) 0:=by kernel_rfl
theorem z0O.l2_eq (k:Nat) (n2:Nat) (x0:Ty.D (.slc tUndo)) (x5:Ty.D (.slc tUndo)) (x6:Ty.D (.int .i64)) (x7:Ty.D (.int .i64)):z0O.l2 k (n2+1) x0 x5 x6 x7=br (ilt x7 x6) (br (inL x7 x5) (bnd (z1P.f k ((rd tUndo x5 (natOf x7)).1)) fun r0=>br (bnot r0) (some false) (br (ilt ((rd tUndo x5 (natOf x7)).2) 1) (some false) (br (ilt 64 ((rd tUndo x5 (natOf x7)).2)) (some false) (br (ilt 0 x7) (br (inL (isub .i64 x7 1) x0) (bnd (z0m.f k (rd tUndo x0 (natOf (isub .i64 x7 1))) (rd tUndo x5 (natOf x7))) fun r1=>br (ile 0 r1) (some false) (z0O.l2 k n2 x0 x5 x6 (iadd .i64 x7 1))) none) (z0O.l2 k n2 x0 x5 x6 (iadd .i64 x7 1)))))) none) (some true):=by kernel_rfl
def z0O.e (k:Nat):Entry:=Sg.entry z0O.sg fun x=>z0O.f k x
theorem z0O.ok (k:Nat):CallOK Tryz.prog 52 (z0O.e k):=fn_ok (c:=z0O.cx k) (code:=z0O.body) (TT.of tt_ok pp_ok mm_ok) (fns_ok ⟨(z1P.ok k),(z0m.ok k),trivial⟩) mixed Tryz.func52 (by kernel_rfl) (by kernel_rfl) (by kernel_rfl) (by kernel_rfl) (by kernel_rfl) (by kernel_rfl) (fun x=>by kernel_rfl)
@[reducible] def tally_Read.sg:Sg:=⟨[.ref,.dat (.int .i64)],[tpackReader],.own tUndo,[tpackReader]⟩
@[reducible] def dots_ReadList.sg:Sg:=⟨[.ref,.dat (.int .i64)],[tpackReader],.own tDot,[tpackReader]⟩
@[reducible] def record_ReadDelta.sg:Sg:=⟨[.ref],[tpackReader],.dat tDelta,[tpackReader]⟩
def z24.body:Go.Code:=Tryz.f184.body.getD .skip
def z24.rs:List Go.ResultVar:=Tryz.f184.results.toList
def z24.regs:List (Nat × RInfo):=[(0,ri [1] [1]),(1,ri [5,6] []),(2,⟨[5,6,7],[],[],[],0,[5,6],[],[],[],[]⟩),(3,ri [4,5,6] []),(4,ri [5,6,14] []),(5,ri [2] []),(6,ri [5,6] []),(7,ri [2] [])]
def z24.cx (k:Nat):Cx:=⟨tt,pp,[],z24.regs,k,mm⟩
@[reducible] def z24.sg:Sg:=⟨[.dat tVec],[],.dat .bool,[]⟩
def z24.f (k:Nat) (a0:Ty.D tVec):Option (Sg.Out z24.sg):=Sg.fn z24.sg (z24.cx k) z24.body z24.rs a0
def z24.l2 (k:Nat) (n:Nat) (x5:Ty.D tVec) (x6:Ty.D (.int .i64)):Option (Sg.Out z24.sg):=loopAt (z24.cx k) z24.body [1,0,1,0] 2 [5,6] [] [] (Sg.K z24.sg (z24.cx k) z24.rs) n ⟨[(5,.dat tVec x5),(6,.dat (.int .i64) x6)],[]⟩
theorem z24.f_eq (k:Nat) (a0:Ty.D tVec):z24.f k a0=z24.l2 k k a0 0:=by kernel_rfl
theorem z24.l2_eq (k:Nat) (n2:Nat) (x5:Ty.D tVec) (x6:Ty.D (.int .i64)):z24.l2 k (n2+1) x5 x6=br (ilt x6 16) (br (inB x6 16) (br (ilt (rd (.int .i64) x5 (natOf x6)) 0) (some false) (br (ilt 1048576 (rd (.int .i64) x5 (natOf x6))) (some false) (z24.l2 k n2 x5 (iadd .i64 x6 1)))) none) (some true):=by kernel_rfl
def z24.e (k:Nat):Entry:=Sg.entry z24.sg fun x=>z24.f k x
theorem z24.ok (k:Nat):CallOK Tryz.prog 184 (z24.e k):=fn_ok (c:=z24.cx k) (code:=z24.body) (TT.of tt_ok pp_ok mm_ok) (fns_ok trivial) mixed Tryz.func184 (by kernel_rfl) (by kernel_rfl) (by kernel_rfl) (by kernel_rfl) (by kernel_rfl) (by kernel_rfl) (fun x=>by kernel_rfl)
@[reducible] def vec_Read.sg:Sg:=⟨[.ref],[tpackReader],.dat tVec,[tpackReader]⟩
def z1m.body:Go.Code:=Tryz.f133.body.getD .skip
def z1m.rs:List Go.ResultVar:=Tryz.f133.results.toList
def z1m.regs:List (Nat × RInfo):=[(0,⟨[1],[1],[0],[],0,[],[],[],[],[]⟩),(1,ri [1,14] [1]),(2,ri [2] []),(3,ri [1,16,17,18] [1]),(4,⟨[1,16,17,18,19],[1],[],[],0,[1,16,17,18],[1],[],[],[]⟩),(5,ri [1,3,4,16,17,18] [1,4]),(6,rq [1,16,17,18,51] [1] 29),(7,ri [2] []),(8,ri [1,16,17,18] [1]),(9,ri [2] [])]
def z1m.cx (k:Nat):Cx:=⟨tt,pp,[(184,(z24.e k)),(119,(z1P.e k)),(176,(z0H.e k))],z1m.regs,k,mm⟩
@[reducible] def z1m.sg:Sg:=⟨[.dat tDots],[],.dat .bool,[]⟩
def z1m.f (k:Nat) (a0:Ty.D tDots):Option (Sg.Out z1m.sg):=Sg.fn z1m.sg (z1m.cx k) z1m.body z1m.rs a0
def z1m.l4 (k:Nat) (n:Nat) (x16:Ty.D (.slc tDot)) (x17:Ty.D (.int .i64)) (x18:Ty.D (.int .i64)) (m1:Ty.D tDots):Option (Sg.Out z1m.sg):=loopAt (z1m.cx k) z1m.body [1,1,0,1,0] 4 [1,16,17,18] [1] [] (Sg.K z1m.sg (z1m.cx k) z1m.rs) n ⟨[(1,.ref 1 []),(16,.dat (.slc tDot) x16),(17,.dat (.int .i64) x17),(18,.dat (.int .i64) x18)],[(1,.dat tDots m1)]⟩
theorem z1m.f_eq (k:Nat) (a0:Ty.D tDots):z1m.f k a0=bnd (z24.f k a0.1) fun r0=>br (bnot r0) (some false) (br (ilt 4096 (ilen a0.2)) (some false) (z1m.l4 k k a0.2 (ilen a0.2) 0 a0)):=by kernel_rfl
theorem z1m.l4_eq (k:Nat) (n4:Nat) (x16:Ty.D (.slc tDot)) (x17:Ty.D (.int .i64)) (x18:Ty.D (.int .i64)) (m1:Ty.D tDots):z1m.l4 k (n4+1) x16 x17 x18 m1=br (ilt x18 x17) (br (inL x18 x16) (bnd (z1P.f k (rd tDot x16 (natOf x18))) fun r0=>br (bnot r0) (some false) (br (inB ((rd tDot x16 (natOf x18)).1) 16) (br (ile ((rd tDot x16 (natOf x18)).2) (iadd .i64 (rd (.int .i64) m1.1 (natOf ((rd tDot x16 (natOf x18)).1))) 1)) (some false) (br (ilt 0 x18) (br (inL (isub .i64 x18 1) m1.2) (bnd (z0H.f k (rd tDot m1.2 (natOf (isub .i64 x18 1))) (rd tDot x16 (natOf x18))) fun r1=>br (ile 0 r1) (some false) (z1m.l4 k n4 x16 x17 (iadd .i64 x18 1) m1)) none) (z1m.l4 k n4 x16 x17 (iadd .i64 x18 1) m1))) none)) none) (some true):=by kernel_rfl
def z1m.e (k:Nat):Entry:=Sg.entry z1m.sg fun x=>z1m.f k x
theorem z1m.ok (k:Nat):CallOK Tryz.prog 133 (z1m.e k):=fn_ok (c:=z1m.cx k) (code:=z1m.body) (TT.of tt_ok pp_ok mm_ok) (fns_ok ⟨(z24.ok k),(z1P.ok k),(z0H.ok k),trivial⟩) mixed Tryz.func133 (by kernel_rfl) (by kernel_rfl) (by kernel_rfl) (by kernel_rfl) (by kernel_rfl) (by kernel_rfl) (fun x=>by kernel_rfl)
@[reducible] def dots_Read.sg:Sg:=⟨[.ref],[tpackReader],.dat tDots,[tpackReader]⟩
def z0E.body:Go.Code:=Tryz.f130.body.getD .skip
def z0E.rs:List Go.ResultVar:=Tryz.f130.results.toList
def z0E.regs:List (Nat × RInfo):=[(0,ri [0] []),(1,ri [0,3] []),(2,ri [3,6,7,8] []),(3,⟨[3,6,7,8,9],[],[],[],0,[3,6,7,8],[],[],[],[]⟩),(4,⟨[3,5,6,7,8],[5],[3],[],0,[],[],[],[],[]⟩),(5,⟨[3,6,7,8],[],[0,4,5],[],0,[],[],[],[],[]⟩),(6,ri [3,6,7,8] []),(7,⟨[2],[],[0,1],[],0,[],[],[],[],[]⟩)]
def z0E.cx (k:Nat):Cx:=⟨tt,pp,[],z0E.regs,k,mm⟩
@[reducible] def z0E.sg:Sg:=⟨[.dat (.slc tTxn)],[],.own tDot,[]⟩
def z0E.f (k:Nat) (a0:Ty.D (.slc tTxn)):Option (Sg.Out z0E.sg):=Sg.fn z0E.sg (z0E.cx k) z0E.body z0E.rs a0
def z0E.l3 (k:Nat) (n:Nat) (x3:List (Ty.D tDot)) (x6:Ty.D (.slc tTxn)) (x7:Ty.D (.int .i64)) (x8:Ty.D (.int .i64)):Option (Sg.Out z0E.sg):=loopAt (z0E.cx k) z0E.body [1,1,0,1,0] 3 [3,6,7,8] [] [] (Sg.K z0E.sg (z0E.cx k) z0E.rs) n ⟨[(3,.own tDot x3),(6,.dat (.slc tTxn) x6),(7,.dat (.int .i64) x7),(8,.dat (.int .i64) x8)],[]⟩
theorem z0E.f_eq (k:Nat) (a0:Ty.D (.slc tTxn)):z0E.f k a0=z0E.l3 k k [] a0 (ilen a0) 0:=by kernel_rfl
theorem z0E.l3_eq (k:Nat) (n3:Nat) (x3:List (Ty.D tDot)) (x6:Ty.D (.slc tTxn)) (x7:Ty.D (.int .i64)) (x8:Ty.D (.int .i64)):z0E.l3 k (n3+1) x3 x6 x7 x8=br (ilt x8 x7) (br (inL x8 x6) (br (room x3 ((rd tTxn x6 (natOf x8)).1::[])) (z0E.l3 k n3 (app x3 ((rd tTxn x6 (natOf x8)).1::[])) x6 x7 (iadd .i64 x8 1)) none) none) (some x3):=by kernel_rfl
def z0E.e (k:Nat):Entry:=Sg.entry z0E.sg fun x=>z0E.f k x
theorem z0E.ok (k:Nat):CallOK Tryz.prog 130 (z0E.e k):=fn_ok (c:=z0E.cx k) (code:=z0E.body) (TT.of tt_ok pp_ok mm_ok) (fns_ok trivial) mixed Tryz.func130 (by kernel_rfl) (by kernel_rfl) (by kernel_rfl) (by kernel_rfl) (by kernel_rfl) (by kernel_rfl) (fun x=>by kernel_rfl)
def z1U.body:Go.Code:=Tryz.f183.body.getD .skip
def z1U.rs:List Go.ResultVar:=Tryz.f183.results.toList
def z1U.regs:List (Nat × RInfo):=[(0,ri [1,2,4] [2,4]),(1,⟨[1,4,5],[4,5],[3],[],0,[],[],[],[],[]⟩),(2,ri [4,5,10,11,12] [4,5]),(3,⟨[4,5,10,11,12,13],[4,5],[],[],0,[4,5,10,11,12],[4,5],[],[],[]⟩),(4,ri [4,5,7,10,11,12] [4,5,7]),(5,rq [4,5,7,10,11,12,16] [4,5,7] 9),(6,rq [4,5,7,10,11,12,25] [4,5,7] 10),(7,ri [4,5,10,11,12] [4,5]),(8,rq [4,5,7,10,11,12,41] [4,5,7] 17),(9,⟨[4,5,10,11,12],[4,5],[1,4,6],[],0,[],[],[],[],[]⟩),(10,ri [4,5,10,11,12] [4,5]),(11,⟨[4],[4],[1],[],0,[],[],[],[],[]⟩)]
def z1U.cx (k:Nat):Cx:=⟨tt,pp,[],z1U.regs,k,mm⟩
@[reducible] def z1U.sg:Sg:=⟨[.dat tVec,.dat (.slc tDot)],[],.dat tDots,[]⟩
def z1U.f (k:Nat) (a0:Ty.D tVec) (a1:Ty.D (.slc tDot)):Option (Sg.Out z1U.sg):=Sg.fn z1U.sg (z1U.cx k) z1U.body z1U.rs (a0,a1)
def z1U.l3 (k:Nat) (n:Nat) (x10:Ty.D (.slc tDot)) (x11:Ty.D (.int .i64)) (x12:Ty.D (.int .i64)) (m4a:Ty.D tVec) (m4b:List (Ty.D tDot)) (m5a:Ty.D tVec) (m5b:List (Ty.D tDot)):Option (Sg.Out z1U.sg):=loopAt (z1U.cx k) z1U.body [1,1,0,1,0] 3 [4,5,10,11,12] [4,5] [] (Sg.K z1U.sg (z1U.cx k) z1U.rs) n ⟨[(4,.ref 4 []),(5,.ref 5 []),(10,.dat (.slc tDot) x10),(11,.dat (.int .i64) x11),(12,.dat (.int .i64) x12)],[(4,.pr (.dat tVec m4a) (.own tDot m4b)),(5,.pr (.dat tVec m5a) (.own tDot m5b))]⟩
theorem z1U.f_eq (k:Nat) (a0:Ty.D tVec) (a1:Ty.D (.slc tDot)):z1U.f k a0 a1=z1U.l3 k k a1 (ilen a1) 0 (zarr 16 0) [] a0 []:=by kernel_rfl
theorem z1U.l3_eq (k:Nat) (n3:Nat) (x10:Ty.D (.slc tDot)) (x11:Ty.D (.int .i64)) (x12:Ty.D (.int .i64)) (m4a:Ty.D tVec) (m4b:List (Ty.D tDot)) (m5a:Ty.D tVec) (m5b:List (Ty.D tDot)):z1U.l3 k (n3+1) x10 x11 x12 m4a m4b m5a m5b=br (ilt x12 x11) (br (inL x12 x10) (br (inB ((rd tDot x10 (natOf x12)).1) 16) (br (ile ((rd tDot x10 (natOf x12)).2) (rd (.int .i64) m5a (natOf ((rd tDot x10 (natOf x12)).1)))) (z1U.l3 k n3 x10 x11 (iadd .i64 x12 1) m4a m4b m5a m5b) (br (inB ((rd tDot x10 (natOf x12)).1) 16) (br (ieq ((rd tDot x10 (natOf x12)).2) (iadd .i64 (rd (.int .i64) m5a (natOf ((rd tDot x10 (natOf x12)).1))) 1)) (br (inB ((rd tDot x10 (natOf x12)).1) 16) (z1U.l3 k n3 x10 x11 (iadd .i64 x12 1) m4a m4b (upd m5a (natOf ((rd tDot x10 (natOf x12)).1)) ((rd tDot x10 (natOf x12)).2)) m5b) none) (br (ieq (ilen m5b) 0) (br (room m5b ((rd tDot x10 (natOf x12))::[])) (z1U.l3 k n3 x10 x11 (iadd .i64 x12 1) m4a m4b m5a (app m5b ((rd tDot x10 (natOf x12))::[]))) none) (br (inL (isub .i64 (ilen m5b) 1) m5b) (br (bnot (deq tDot (rd tDot m5b (natOf (isub .i64 (ilen m5b) 1))) (rd tDot x10 (natOf x12)))) (br (room m5b ((rd tDot x10 (natOf x12))::[])) (z1U.l3 k n3 x10 x11 (iadd .i64 x12 1) m4a m4b m5a (app m5b ((rd tDot x10 (natOf x12))::[]))) none) (z1U.l3 k n3 x10 x11 (iadd .i64 x12 1) m4a m4b m5a m5b)) none))) none)) none) none) (some (m5a,m5b)):=by kernel_rfl
def z1U.e (k:Nat):Entry:=Sg.entry z1U.sg fun x=>z1U.f k x.1 x.2
theorem z1U.ok (k:Nat):CallOK Tryz.prog 183 (z1U.e k):=fn_ok (c:=z1U.cx k) (code:=z1U.body) (TT.of tt_ok pp_ok mm_ok) (fns_ok trivial) mixed Tryz.func183 (by kernel_rfl) (by kernel_rfl) (by kernel_rfl) (by kernel_rfl) (by kernel_rfl) (by kernel_rfl) (fun x=>by kernel_rfl)
def z2s.body:Go.Code:=Tryz.f129.body.getD .skip
def z2s.rs:List Go.ResultVar:=Tryz.f129.results.toList
def z2s.regs:List (Nat × RInfo):=[(0,ri [0,2] [2,5]),(1,⟨[0,2],[2,5],[2,3],[],0,[],[],[],[],[]⟩),(2,⟨[0,2],[2,5],[0,1],[0],0,[],[],[],[],[]⟩),(3,⟨[2],[2],[3],[],0,[],[],[0,2],[],[]⟩)]
def z2s.cx (k:Nat):Cx:=⟨tt,pp,[(138,(cloneE tDot)),(180,(delE tDot 181 dotKeep)),(182,(sortE tDot 176 dotLt)),(176,(z0H.e k)),(183,(z1U.e k))],z2s.regs,k,mm⟩
@[reducible] def z2s.sg:Sg:=⟨[.dat (.slc tDot)],[],.dat tDots,[]⟩
def z2s.f (k:Nat) (a0:Ty.D (.slc tDot)):Option (Sg.Out z2s.sg):=Sg.fn z2s.sg (z2s.cx k) z2s.body z2s.rs a0
theorem z2s.f_eq (k:Nat) (a0:Ty.D (.slc tDot)):z2s.f k a0=br (room ([]:List Int) a0) (br (room ([]:List Int) a0) (br (room ([]:List Int) (kept dotKeep a0)) (bnd (z1U.f k (zarr 16 0) (isort dotLt (kept dotKeep a0))) fun r0=>some r0) none) none) none:=by kernel_rfl
def z2s.e (k:Nat):Entry:=Sg.entry z2s.sg fun x=>z2s.f k x
theorem z2s.ok (k:Nat):CallOK Tryz.prog 129 (z2s.e k):=fn_ok (c:=z2s.cx k) (code:=z2s.body) (TT.of tt_ok pp_ok mm_ok) (fns_ok ⟨cloneDot_ok,delDot_ok,sortDot_ok,(z0H.ok k),(z1U.ok k),trivial⟩) mixed Tryz.func129 (by kernel_rfl) (by kernel_rfl) (by kernel_rfl) (by kernel_rfl) (by kernel_rfl) (by kernel_rfl) (fun x=>by kernel_rfl)
def z0e.body:Go.Code:=Tryz.f179.body.getD .skip
def z0e.rs:List Go.ResultVar:=Tryz.f179.results.toList
def z0e.regs:List (Nat × RInfo):=[(0,ri [0,1] []),(1,ri [0,1,10] []),(2,ri [4] []),(3,ri [0,1,12,13] []),(4,⟨[0,1,12,13,14],[],[],[],0,[0,1,12,13],[],[],[],[]⟩),(5,ri [0,1,5,12,13] []),(6,rq [0,1,12,13,24] [] 9),(7,ri [4] []),(8,ri [0,1,12,13] []),(9,ri [4] [])]
def z0e.cx (k:Nat):Cx:=⟨tt,pp,[],z0e.regs,k,mm⟩
@[reducible] def z0e.sg:Sg:=⟨[.dat (.slc tDot),.dat (.slc tDot)],[],.dat .bool,[]⟩
def z0e.f (k:Nat) (a0:Ty.D (.slc tDot)) (a1:Ty.D (.slc tDot)):Option (Sg.Out z0e.sg):=Sg.fn z0e.sg (z0e.cx k) z0e.body z0e.rs (a0,a1)
def z0e.l4 (k:Nat) (n:Nat) (x0:Ty.D (.slc tDot)) (x1:Ty.D (.slc tDot)) (x12:Ty.D (.int .i64)) (x13:Ty.D (.int .i64)):Option (Sg.Out z0e.sg):=loopAt (z0e.cx k) z0e.body [1,1,0,1,0] 4 [0,1,12,13] [] [] (Sg.K z0e.sg (z0e.cx k) z0e.rs) n ⟨[(0,.dat (.slc tDot) x0),(1,.dat (.slc tDot) x1),(12,.dat (.int .i64) x12),(13,.dat (.int .i64) x13)],[]⟩
theorem z0e.f_eq (k:Nat) (a0:Ty.D (.slc tDot)) (a1:Ty.D (.slc tDot)):z0e.f k a0 a1=br (bnot (ieq (ilen a0) (ilen a1))) (some false) (z0e.l4 k k a0 a1 (ilen a0) 0):=by kernel_rfl
theorem z0e.l4_eq (k:Nat) (n4:Nat) (x0:Ty.D (.slc tDot)) (x1:Ty.D (.slc tDot)) (x12:Ty.D (.int .i64)) (x13:Ty.D (.int .i64)):z0e.l4 k (n4+1) x0 x1 x12 x13=br (ilt x13 x12) (br (inL x13 x0) (br (inL x13 x1) (br (bnot (deq tDot (rd tDot x0 (natOf x13)) (rd tDot x1 (natOf x13)))) (some false) (z0e.l4 k n4 x0 x1 x12 (iadd .i64 x13 1))) none) none) (some true):=by kernel_rfl
def z0e.e (k:Nat):Entry:=Sg.entry z0e.sg fun x=>z0e.f k x.1 x.2
theorem z0e.ok (k:Nat):CallOK Tryz.prog 179 (z0e.e k):=fn_ok (c:=z0e.cx k) (code:=z0e.body) (TT.of tt_ok pp_ok mm_ok) (fns_ok trivial) mixed Tryz.func179 (by kernel_rfl) (by kernel_rfl) (by kernel_rfl) (by kernel_rfl) (by kernel_rfl) (by kernel_rfl) (fun x=>by kernel_rfl)
def z1O.body:Go.Code:=Tryz.f128.body.getD .skip
def z1O.rs:List Go.ResultVar:=Tryz.f128.results.toList
def z1O.regs:List (Nat × RInfo):=[(0,⟨[2,3],[2,3],[0,1],[],0,[],[],[],[],[]⟩),(1,ri [4] [15])]
def z1O.cx (k:Nat):Cx:=⟨tt,pp,[(179,(z0e.e k))],z1O.regs,k,mm⟩
@[reducible] def z1O.sg:Sg:=⟨[.dat tDots,.dat tDots],[],.dat .bool,[]⟩
def z1O.f (k:Nat) (a0:Ty.D tDots) (a1:Ty.D tDots):Option (Sg.Out z1O.sg):=Sg.fn z1O.sg (z1O.cx k) z1O.body z1O.rs (a0,a1)
theorem z1O.f_eq (k:Nat) (a0:Ty.D tDots) (a1:Ty.D tDots):z1O.f k a0 a1=br (deq tVec a0.1 a1.1) (bnd (z0e.f k a0.2 a1.2) fun r0=>some r0) (some false):=by kernel_rfl
def z1O.e (k:Nat):Entry:=Sg.entry z1O.sg fun x=>z1O.f k x.1 x.2
theorem z1O.ok (k:Nat):CallOK Tryz.prog 128 (z1O.e k):=fn_ok (c:=z1O.cx k) (code:=z1O.body) (TT.of tt_ok pp_ok mm_ok) (fns_ok ⟨(z0e.ok k),trivial⟩) mixed Tryz.func128 (by kernel_rfl) (by kernel_rfl) (by kernel_rfl) (by kernel_rfl) (by kernel_rfl) (by kernel_rfl) (fun x=>by kernel_rfl)
def z0n.body:Go.Code:=Tryz.f131.body.getD .skip
def z0n.rs:List Go.ResultVar:=Tryz.f131.results.toList
def z0n.regs:List (Nat × RInfo):=[(0,⟨[1],[1],[0],[],0,[],[],[],[],[]⟩),(1,ri [2] [])]
def z0n.cx (k:Nat):Cx:=⟨tt,pp,[(50,(z1R.e k))],z0n.regs,k,mm⟩
@[reducible] def z0n.sg:Sg:=⟨[.dat tTxn],[],.dat .bool,[]⟩
def z0n.f (k:Nat) (a0:Ty.D tTxn):Option (Sg.Out z0n.sg):=Sg.fn z0n.sg (z0n.cx k) z0n.body z0n.rs a0
theorem z0n.f_eq (k:Nat) (a0:Ty.D tTxn):z0n.f k a0=bnd (z1R.f k a0) fun r0=>some (bnot (ieq r0 0)):=by kernel_rfl
def z0n.e (k:Nat):Entry:=Sg.entry z0n.sg fun x=>z0n.f k x
theorem z0n.ok (k:Nat):CallOK Tryz.prog 131 (z0n.e k):=fn_ok (c:=z0n.cx k) (code:=z0n.body) (TT.of tt_ok pp_ok mm_ok) (fns_ok ⟨(z1R.ok k),trivial⟩) mixed Tryz.func131 (by kernel_rfl) (by kernel_rfl) (by kernel_rfl) (by kernel_rfl) (by kernel_rfl) (by kernel_rfl) (fun x=>by kernel_rfl)
def z0a.body:Go.Code:=Tryz.f177.body.getD .skip
def z0a.rs:List Go.ResultVar:=Tryz.f177.results.toList
def z0a.regs:List (Nat × RInfo):=[(0,ri [0,1] []),(1,ri [0,1,7,8] []),(2,⟨[0,1,7,8,9],[],[],[],0,[0,1,7,8],[],[],[],[]⟩),(3,ri [0,1,5,7,8] []),(4,ri [0,1,5,7,8,16] [16]),(5,ri [4] []),(6,ri [0,1,7,8] []),(7,ri [4] [])]
def z0a.cx (k:Nat):Cx:=⟨tt,pp,[(131,(z0n.e k))],z0a.regs,k,mm⟩
@[reducible] def z0a.sg:Sg:=⟨[.dat (.slc tTxn),.fn 131 0],[],.dat (.int .i64),[]⟩
def z0a.f (k:Nat) (a0:Ty.D (.slc tTxn)):Option (Sg.Out z0a.sg):=Sg.fn z0a.sg (z0a.cx k) z0a.body z0a.rs a0
def z0a.l2 (k:Nat) (n:Nat) (x0:Ty.D (.slc tTxn)) (x7:Ty.D (.int .i64)) (x8:Ty.D (.int .i64)):Option (Sg.Out z0a.sg):=loopAt (z0a.cx k) z0a.body [1,0,1,0] 2 [0,1,7,8] [] [] (Sg.K z0a.sg (z0a.cx k) z0a.rs) n ⟨[(0,.dat (.slc tTxn) x0),(1,.fn 131 []),(7,.dat (.int .i64) x7),(8,.dat (.int .i64) x8)],[]⟩
theorem z0a.f_eq (k:Nat) (a0:Ty.D (.slc tTxn)):z0a.f k a0=z0a.l2 k k a0 (ilen a0) 0:=by kernel_rfl
theorem z0a.l2_eq (k:Nat) (n2:Nat) (x0:Ty.D (.slc tTxn)) (x7:Ty.D (.int .i64)) (x8:Ty.D (.int .i64)):z0a.l2 k (n2+1) x0 x7 x8=br (ilt x8 x7) (br (inL x8 x0) (bnd (z0n.f k (rd tTxn x0 (natOf x8))) fun r0=>br r0 (some x8) (z0a.l2 k n2 x0 x7 (iadd .i64 x8 1))) none) (some (-1)):=by kernel_rfl
def z0a.e (k:Nat):Entry:=Sg.entry z0a.sg fun x=>z0a.f k x
theorem z0a.ok (k:Nat):CallOK Tryz.prog 177 (z0a.e k):=fn_ok (c:=z0a.cx k) (code:=z0a.body) (TT.of tt_ok pp_ok mm_ok) (fns_ok ⟨(z0n.ok k),trivial⟩) mixed Tryz.func177 (by kernel_rfl) (by kernel_rfl) (by kernel_rfl) (by kernel_rfl) (by kernel_rfl) (by kernel_rfl) (fun x=>by kernel_rfl)
def z06.body:Go.Code:=Tryz.f126.body.getD .skip
def z06.rs:List Go.ResultVar:=Tryz.f126.results.toList
def z06.regs:List (Nat × RInfo):=[(0,ri [0,1] []),(1,ri [4] [])]
def z06.cx (k:Nat):Cx:=⟨tt,pp,[(177,(z0a.e k)),(131,(z0n.e k))],z06.regs,k,mm⟩
@[reducible] def z06.sg:Sg:=⟨[.dat (.slc tTxn),.fn 131 0],[],.dat .bool,[]⟩
def z06.f (k:Nat) (a0:Ty.D (.slc tTxn)):Option (Sg.Out z06.sg):=Sg.fn z06.sg (z06.cx k) z06.body z06.rs a0
theorem z06.f_eq (k:Nat) (a0:Ty.D (.slc tTxn)):z06.f k a0=bnd (z0a.f k a0) fun r0=>some (ile 0 r0):=by kernel_rfl
def z06.e (k:Nat):Entry:=Sg.entry z06.sg fun x=>z06.f k x
theorem z06.ok (k:Nat):CallOK Tryz.prog 126 (z06.e k):=fn_ok (c:=z06.cx k) (code:=z06.body) (TT.of tt_ok pp_ok mm_ok) (fns_ok ⟨(z0a.ok k),(z0n.ok k),trivial⟩) mixed Tryz.func126 (by kernel_rfl) (by kernel_rfl) (by kernel_rfl) (by kernel_rfl) (by kernel_rfl) (by kernel_rfl) (fun x=>by kernel_rfl)
def z0r.body:Go.Code:=Tryz.f132.body.getD .skip
def z0r.rs:List Go.ResultVar:=Tryz.f132.results.toList
def z0r.regs:List (Nat × RInfo):=[(0,ri [1] [1]),(1,ri [2] [])]
def z0r.cx (k:Nat):Cx:=⟨tt,pp,[(119,(z1P.e k))],z0r.regs,k,mm⟩
@[reducible] def z0r.sg:Sg:=⟨[.dat tDot],[],.dat .bool,[]⟩
def z0r.f (k:Nat) (a0:Ty.D tDot):Option (Sg.Out z0r.sg):=Sg.fn z0r.sg (z0r.cx k) z0r.body z0r.rs a0
theorem z0r.f_eq (k:Nat) (a0:Ty.D tDot):z0r.f k a0=bnd (z1P.f k a0) fun r0=>some (bnot r0):=by kernel_rfl
def z0r.e (k:Nat):Entry:=Sg.entry z0r.sg fun x=>z0r.f k x
theorem z0r.ok (k:Nat):CallOK Tryz.prog 132 (z0r.e k):=fn_ok (c:=z0r.cx k) (code:=z0r.body) (TT.of tt_ok pp_ok mm_ok) (fns_ok ⟨(z1P.ok k),trivial⟩) mixed Tryz.func132 (by kernel_rfl) (by kernel_rfl) (by kernel_rfl) (by kernel_rfl) (by kernel_rfl) (by kernel_rfl) (fun x=>by kernel_rfl)
def z0b.body:Go.Code:=Tryz.f178.body.getD .skip
def z0b.rs:List Go.ResultVar:=Tryz.f178.results.toList
def z0b.regs:List (Nat × RInfo):=[(0,ri [0,1] []),(1,ri [0,1,7,8] []),(2,⟨[0,1,7,8,9],[],[],[],0,[0,1,7,8],[],[],[],[]⟩),(3,ri [0,1,5,7,8] []),(4,ri [0,1,5,7,8,16] [16]),(5,ri [4] []),(6,ri [0,1,7,8] []),(7,ri [4] [])]
def z0b.cx (k:Nat):Cx:=⟨tt,pp,[(132,(z0r.e k))],z0b.regs,k,mm⟩
@[reducible] def z0b.sg:Sg:=⟨[.dat (.slc tDot),.fn 132 0],[],.dat (.int .i64),[]⟩
def z0b.f (k:Nat) (a0:Ty.D (.slc tDot)):Option (Sg.Out z0b.sg):=Sg.fn z0b.sg (z0b.cx k) z0b.body z0b.rs a0
def z0b.l2 (k:Nat) (n:Nat) (x0:Ty.D (.slc tDot)) (x7:Ty.D (.int .i64)) (x8:Ty.D (.int .i64)):Option (Sg.Out z0b.sg):=loopAt (z0b.cx k) z0b.body [1,0,1,0] 2 [0,1,7,8] [] [] (Sg.K z0b.sg (z0b.cx k) z0b.rs) n ⟨[(0,.dat (.slc tDot) x0),(1,.fn 132 []),(7,.dat (.int .i64) x7),(8,.dat (.int .i64) x8)],[]⟩
theorem z0b.f_eq (k:Nat) (a0:Ty.D (.slc tDot)):z0b.f k a0=z0b.l2 k k a0 (ilen a0) 0:=by kernel_rfl
theorem z0b.l2_eq (k:Nat) (n2:Nat) (x0:Ty.D (.slc tDot)) (x7:Ty.D (.int .i64)) (x8:Ty.D (.int .i64)):z0b.l2 k (n2+1) x0 x7 x8=br (ilt x8 x7) (br (inL x8 x0) (bnd (z0r.f k (rd tDot x0 (natOf x8))) fun r0=>br r0 (some x8) (z0b.l2 k n2 x0 x7 (iadd .i64 x8 1))) none) (some (-1)):=by kernel_rfl
def z0b.e (k:Nat):Entry:=Sg.entry z0b.sg fun x=>z0b.f k x
theorem z0b.ok (k:Nat):CallOK Tryz.prog 178 (z0b.e k):=fn_ok (c:=z0b.cx k) (code:=z0b.body) (TT.of tt_ok pp_ok mm_ok) (fns_ok ⟨(z0r.ok k),trivial⟩) mixed Tryz.func178 (by kernel_rfl) (by kernel_rfl) (by kernel_rfl) (by kernel_rfl) (by kernel_rfl) (by kernel_rfl) (fun x=>by kernel_rfl)
def z05.body:Go.Code:=Tryz.f127.body.getD .skip
def z05.rs:List Go.ResultVar:=Tryz.f127.results.toList
def z05.regs:List (Nat × RInfo):=[(0,ri [0,1] []),(1,ri [4] [])]
def z05.cx (k:Nat):Cx:=⟨tt,pp,[(178,(z0b.e k)),(132,(z0r.e k))],z05.regs,k,mm⟩
@[reducible] def z05.sg:Sg:=⟨[.dat (.slc tDot),.fn 132 0],[],.dat .bool,[]⟩
def z05.f (k:Nat) (a0:Ty.D (.slc tDot)):Option (Sg.Out z05.sg):=Sg.fn z05.sg (z05.cx k) z05.body z05.rs a0
theorem z05.f_eq (k:Nat) (a0:Ty.D (.slc tDot)):z05.f k a0=bnd (z0b.f k a0) fun r0=>some (ile 0 r0):=by kernel_rfl
def z05.e (k:Nat):Entry:=Sg.entry z05.sg fun x=>z05.f k x
theorem z05.ok (k:Nat):CallOK Tryz.prog 127 (z05.e k):=fn_ok (c:=z05.cx k) (code:=z05.body) (TT.of tt_ok pp_ok mm_ok) (fns_ok ⟨(z0b.ok k),(z0r.ok k),trivial⟩) mixed Tryz.func127 (by kernel_rfl) (by kernel_rfl) (by kernel_rfl) (by kernel_rfl) (by kernel_rfl) (by kernel_rfl) (fun x=>by kernel_rfl)
def z0K.body:Go.Code:=Tryz.f54.body.getD .skip
def z0K.rs:List Go.ResultVar:=Tryz.f54.results.toList
def z0K.regs:List (Nat × RInfo):=[(0,⟨[1],[1],[0],[],0,[],[],[],[],[]⟩),(1,rq [1,30] [1] 26),(2,ri [2] [49,53]),(3,ri [1,33] [1,33]),(4,ri [2] [49,53]),(5,ri [1,35,36] [1]),(6,⟨[1,35,36,37],[1],[],[],0,[1,35,36],[1],[],[],[]⟩),(7,⟨[1,4,35,36],[1],[1],[],0,[],[],[],[],[]⟩),(8,ri [1,35,36,45] [1,44]),(9,ri [2] [49,53]),(10,ri [1,35,36] [1]),(11,ri [2] [49,53])]
def z0K.cx (k:Nat):Cx:=⟨tt,pp,[(125,(z2f.e k)),(52,(z0O.e k)),(130,(z0E.e k)),(129,(z2s.e k)),(128,(z1O.e k)),(126,(z06.e k)),(131,(z0n.e k)),(127,(z05.e k)),(132,(z0r.e k)),(133,(z1m.e k))],z0K.regs,k,mm⟩
@[reducible] def z0K.sg:Sg:=⟨[.dat tState],[],.dat .bool,[]⟩
def z0K.f (k:Nat) (a0:Ty.D tState):Option (Sg.Out z0K.sg):=Sg.fn z0K.sg (z0K.cx k) z0K.body z0K.rs a0
def z0K.l6 (k:Nat) (n:Nat) (x35:Ty.D (.arr 8 (.slc tDot))) (x36:Ty.D (.int .i64)) (m1:Ty.D tState):Option (Sg.Out z0K.sg):=loopAt (z0K.cx k) z0K.body [1,1,1,0,1,0] 6 [1,35,36] [1] [] (Sg.K z0K.sg (z0K.cx k) z0K.rs) n ⟨[(1,.ref 1 []),(35,.dat (.arr 8 (.slc tDot)) x35),(36,.dat (.int .i64) x36)],[(1,.dat tState m1)]⟩
theorem z0K.f_eq (k:Nat) (a0:Ty.D tState):z0K.f k a0=br (ilt 1000 (ilen a0.1)) (some false) (bnd (z2f.f k a0.1) fun r0=>br (bnot r0) (some false) (bnd (z0O.f k a0.2.1) fun r1=>br (bnot r1) (some false) (bnd (z0E.f k a0.1) fun r2=>bnd (z2s.f k r2) fun r3=>bnd (z1O.f k a0.2.2.1 r3) fun r4=>br (bnot r4) (some false) (bnd (z06.f k a0.1) fun r5=>br r5 (some false) (z0K.l6 k k a0.2.2.2.2 0 a0))))):=by kernel_rfl
theorem z0K.l6_eq (k:Nat) (n6:Nat) (x35:Ty.D (.arr 8 (.slc tDot))) (x36:Ty.D (.int .i64)) (m1:Ty.D tState):z0K.l6 k (n6+1) x35 x36 m1=br (ilt x36 8) (br (inB x36 8) (br (ilt 1000 (ilen (rd (.slc tDot) x35 (natOf x36)))) (some false) (bnd (z05.f k (rd (.slc tDot) x35 (natOf x36))) fun r0=>br r0 (some false) (z0K.l6 k n6 x35 (iadd .i64 x36 1) m1))) none) (bnd (z1m.f k m1.2.2.1) fun r1=>br r1 (bnd (z1m.f k m1.2.2.2.1) fun r2=>some r2) (some false)):=by kernel_rfl
def z0K.e (k:Nat):Entry:=Sg.entry z0K.sg fun x=>z0K.f k x
theorem z0K.ok (k:Nat):CallOK Tryz.prog 54 (z0K.e k):=fn_ok (c:=z0K.cx k) (code:=z0K.body) (TT.of tt_ok pp_ok mm_ok) (fns_ok ⟨(z2f.ok k),(z0O.ok k),(z0E.ok k),(z2s.ok k),(z1O.ok k),(z06.ok k),(z0n.ok k),(z05.ok k),(z0r.ok k),(z1m.ok k),trivial⟩) mixed Tryz.func54 (by kernel_rfl) (by kernel_rfl) (by kernel_rfl) (by kernel_rfl) (by kernel_rfl) (by kernel_rfl) (fun x=>by kernel_rfl)
@[reducible] def state_Read.sg:Sg:=⟨[.ref],[tpackReader],.dat tState,[tpackReader]⟩
@[reducible] def pack_Reader_Left.sg:Sg:=⟨[.ref],[tpackReader],.dat (.int .i64),[tpackReader]⟩
@[reducible] def pack_Reader_End.sg:Sg:=⟨[.ref],[tpackReader],.dat (.int .i64),[tpackReader]⟩
def z13.body:Go.Code:=Tryz.f51.body.getD .skip
def z13.rs:List Go.ResultVar:=Tryz.f51.results.toList
def z13.regs:List (Nat × RInfo):=[(0,ri [0] []),(1,ri [2] [])]
def z13.cx (k:Nat):Cx:=⟨tt,pp,[],z13.regs,k,mm⟩
@[reducible] def z13.sg:Sg:=⟨[.dat (.int .i64)],[],.dat .bool,[]⟩
def z13.f (k:Nat) (a0:Ty.D (.int .i64)):Option (Sg.Out z13.sg):=Sg.fn z13.sg (z13.cx k) z13.body z13.rs a0
theorem z13.f_eq (k:Nat) (a0:Ty.D (.int .i64)):z13.f k a0=br (ile 0 a0) (some (ilt a0 8)) (some false):=by kernel_rfl
def z13.e (k:Nat):Entry:=Sg.entry z13.sg fun x=>z13.f k x
theorem z13.ok (k:Nat):CallOK Tryz.prog 51 (z13.e k):=fn_ok (c:=z13.cx k) (code:=z13.body) (TT.of tt_ok pp_ok mm_ok) (fns_ok trivial) mixed Tryz.func51 (by kernel_rfl) (by kernel_rfl) (by kernel_rfl) (by kernel_rfl) (by kernel_rfl) (by kernel_rfl) (fun x=>by kernel_rfl)
def z0l.body:Go.Code:=Tryz.f123.body.getD .skip
def z0l.rs:List Go.ResultVar:=Tryz.f123.results.toList
def z0l.regs:List (Nat × RInfo):=[(0,⟨[1],[1],[0],[],0,[],[],[],[],[]⟩),(1,ri [2] [])]
def z0l.cx (k:Nat):Cx:=⟨tt,pp,[(50,(z1R.e k))],z0l.regs,k,mm⟩
@[reducible] def z0l.sg:Sg:=⟨[.dat tTxn],[],.dat .bool,[]⟩
def z0l.f (k:Nat) (a0:Ty.D tTxn):Option (Sg.Out z0l.sg):=Sg.fn z0l.sg (z0l.cx k) z0l.body z0l.rs a0
theorem z0l.f_eq (k:Nat) (a0:Ty.D tTxn):z0l.f k a0=bnd (z1R.f k a0) fun r0=>some (bnot (ieq r0 0)):=by kernel_rfl
def z0l.e (k:Nat):Entry:=Sg.entry z0l.sg fun x=>z0l.f k x
theorem z0l.ok (k:Nat):CallOK Tryz.prog 123 (z0l.e k):=fn_ok (c:=z0l.cx k) (code:=z0l.body) (TT.of tt_ok pp_ok mm_ok) (fns_ok ⟨(z1R.ok k),trivial⟩) mixed Tryz.func123 (by kernel_rfl) (by kernel_rfl) (by kernel_rfl) (by kernel_rfl) (by kernel_rfl) (by kernel_rfl) (fun x=>by kernel_rfl)
def z08.body:Go.Code:=Tryz.f177.body.getD .skip
def z08.rs:List Go.ResultVar:=Tryz.f177.results.toList
def z08.regs:List (Nat × RInfo):=[(0,ri [0,1] []),(1,ri [0,1,7,8] []),(2,⟨[0,1,7,8,9],[],[],[],0,[0,1,7,8],[],[],[],[]⟩),(3,ri [0,1,5,7,8] []),(4,ri [0,1,5,7,8,16] [16]),(5,ri [4] []),(6,ri [0,1,7,8] []),(7,ri [4] [])]
def z08.cx (k:Nat):Cx:=⟨tt,pp,[(123,(z0l.e k))],z08.regs,k,mm⟩
@[reducible] def z08.sg:Sg:=⟨[.dat (.slc tTxn),.fn 123 0],[],.dat (.int .i64),[]⟩
def z08.f (k:Nat) (a0:Ty.D (.slc tTxn)):Option (Sg.Out z08.sg):=Sg.fn z08.sg (z08.cx k) z08.body z08.rs a0
def z08.l2 (k:Nat) (n:Nat) (x0:Ty.D (.slc tTxn)) (x7:Ty.D (.int .i64)) (x8:Ty.D (.int .i64)):Option (Sg.Out z08.sg):=loopAt (z08.cx k) z08.body [1,0,1,0] 2 [0,1,7,8] [] [] (Sg.K z08.sg (z08.cx k) z08.rs) n ⟨[(0,.dat (.slc tTxn) x0),(1,.fn 123 []),(7,.dat (.int .i64) x7),(8,.dat (.int .i64) x8)],[]⟩
theorem z08.f_eq (k:Nat) (a0:Ty.D (.slc tTxn)):z08.f k a0=z08.l2 k k a0 (ilen a0) 0:=by kernel_rfl
theorem z08.l2_eq (k:Nat) (n2:Nat) (x0:Ty.D (.slc tTxn)) (x7:Ty.D (.int .i64)) (x8:Ty.D (.int .i64)):z08.l2 k (n2+1) x0 x7 x8=br (ilt x8 x7) (br (inL x8 x0) (bnd (z0l.f k (rd tTxn x0 (natOf x8))) fun r0=>br r0 (some x8) (z08.l2 k n2 x0 x7 (iadd .i64 x8 1))) none) (some (-1)):=by kernel_rfl
def z08.e (k:Nat):Entry:=Sg.entry z08.sg fun x=>z08.f k x
theorem z08.ok (k:Nat):CallOK Tryz.prog 177 (z08.e k):=fn_ok (c:=z08.cx k) (code:=z08.body) (TT.of tt_ok pp_ok mm_ok) (fns_ok ⟨(z0l.ok k),trivial⟩) mixed Tryz.func177 (by kernel_rfl) (by kernel_rfl) (by kernel_rfl) (by kernel_rfl) (by kernel_rfl) (by kernel_rfl) (fun x=>by kernel_rfl)
def z03.body:Go.Code:=Tryz.f126.body.getD .skip
def z03.rs:List Go.ResultVar:=Tryz.f126.results.toList
def z03.regs:List (Nat × RInfo):=[(0,ri [0,1] []),(1,ri [4] [])]
def z03.cx (k:Nat):Cx:=⟨tt,pp,[(177,(Entry.alt z0a.sg (z0a.e k) (z08.e k))),(123,(z0l.e k))],z03.regs,k,mm⟩
@[reducible] def z03.sg:Sg:=⟨[.dat (.slc tTxn),.fn 123 0],[],.dat .bool,[]⟩
def z03.f (k:Nat) (a0:Ty.D (.slc tTxn)):Option (Sg.Out z03.sg):=Sg.fn z03.sg (z03.cx k) z03.body z03.rs a0
theorem z03.f_eq (k:Nat) (a0:Ty.D (.slc tTxn)):z03.f k a0=bnd (z08.f k a0) fun r0=>some (ile 0 r0):=by kernel_rfl
def z03.e (k:Nat):Entry:=Sg.entry z03.sg fun x=>z03.f k x
theorem z03.ok (k:Nat):CallOK Tryz.prog 126 (z03.e k):=fn_ok (c:=z03.cx k) (code:=z03.body) (TT.of tt_ok pp_ok mm_ok) (fns_ok ⟨(alt_ok (z0a.ok k) (z08.ok k)),(z0l.ok k),trivial⟩) mixed Tryz.func126 (by kernel_rfl) (by kernel_rfl) (by kernel_rfl) (by kernel_rfl) (by kernel_rfl) (by kernel_rfl) (fun x=>by kernel_rfl)
def z0k.body:Go.Code:=Tryz.f124.body.getD .skip
def z0k.rs:List Go.ResultVar:=Tryz.f124.results.toList
def z0k.regs:List (Nat × RInfo):=[(0,ri [1] [1]),(1,ri [2] [])]
def z0k.cx (k:Nat):Cx:=⟨tt,pp,[(119,(z1P.e k))],z0k.regs,k,mm⟩
@[reducible] def z0k.sg:Sg:=⟨[.dat tDot],[],.dat .bool,[]⟩
def z0k.f (k:Nat) (a0:Ty.D tDot):Option (Sg.Out z0k.sg):=Sg.fn z0k.sg (z0k.cx k) z0k.body z0k.rs a0
theorem z0k.f_eq (k:Nat) (a0:Ty.D tDot):z0k.f k a0=bnd (z1P.f k a0) fun r0=>some (bnot r0):=by kernel_rfl
def z0k.e (k:Nat):Entry:=Sg.entry z0k.sg fun x=>z0k.f k x
theorem z0k.ok (k:Nat):CallOK Tryz.prog 124 (z0k.e k):=fn_ok (c:=z0k.cx k) (code:=z0k.body) (TT.of tt_ok pp_ok mm_ok) (fns_ok ⟨(z1P.ok k),trivial⟩) mixed Tryz.func124 (by kernel_rfl) (by kernel_rfl) (by kernel_rfl) (by kernel_rfl) (by kernel_rfl) (by kernel_rfl) (fun x=>by kernel_rfl)
def z07.body:Go.Code:=Tryz.f178.body.getD .skip
def z07.rs:List Go.ResultVar:=Tryz.f178.results.toList
def z07.regs:List (Nat × RInfo):=[(0,ri [0,1] []),(1,ri [0,1,7,8] []),(2,⟨[0,1,7,8,9],[],[],[],0,[0,1,7,8],[],[],[],[]⟩),(3,ri [0,1,5,7,8] []),(4,ri [0,1,5,7,8,16] [16]),(5,ri [4] []),(6,ri [0,1,7,8] []),(7,ri [4] [])]
def z07.cx (k:Nat):Cx:=⟨tt,pp,[(124,(z0k.e k))],z07.regs,k,mm⟩
@[reducible] def z07.sg:Sg:=⟨[.dat (.slc tDot),.fn 124 0],[],.dat (.int .i64),[]⟩
def z07.f (k:Nat) (a0:Ty.D (.slc tDot)):Option (Sg.Out z07.sg):=Sg.fn z07.sg (z07.cx k) z07.body z07.rs a0
def z07.l2 (k:Nat) (n:Nat) (x0:Ty.D (.slc tDot)) (x7:Ty.D (.int .i64)) (x8:Ty.D (.int .i64)):Option (Sg.Out z07.sg):=loopAt (z07.cx k) z07.body [1,0,1,0] 2 [0,1,7,8] [] [] (Sg.K z07.sg (z07.cx k) z07.rs) n ⟨[(0,.dat (.slc tDot) x0),(1,.fn 124 []),(7,.dat (.int .i64) x7),(8,.dat (.int .i64) x8)],[]⟩
theorem z07.f_eq (k:Nat) (a0:Ty.D (.slc tDot)):z07.f k a0=z07.l2 k k a0 (ilen a0) 0:=by kernel_rfl
theorem z07.l2_eq (k:Nat) (n2:Nat) (x0:Ty.D (.slc tDot)) (x7:Ty.D (.int .i64)) (x8:Ty.D (.int .i64)):z07.l2 k (n2+1) x0 x7 x8=br (ilt x8 x7) (br (inL x8 x0) (bnd (z0k.f k (rd tDot x0 (natOf x8))) fun r0=>br r0 (some x8) (z07.l2 k n2 x0 x7 (iadd .i64 x8 1))) none) (some (-1)):=by kernel_rfl
def z07.e (k:Nat):Entry:=Sg.entry z07.sg fun x=>z07.f k x
theorem z07.ok (k:Nat):CallOK Tryz.prog 178 (z07.e k):=fn_ok (c:=z07.cx k) (code:=z07.body) (TT.of tt_ok pp_ok mm_ok) (fns_ok ⟨(z0k.ok k),trivial⟩) mixed Tryz.func178 (by kernel_rfl) (by kernel_rfl) (by kernel_rfl) (by kernel_rfl) (by kernel_rfl) (by kernel_rfl) (fun x=>by kernel_rfl)
def z04.body:Go.Code:=Tryz.f127.body.getD .skip
def z04.rs:List Go.ResultVar:=Tryz.f127.results.toList
def z04.regs:List (Nat × RInfo):=[(0,ri [0,1] []),(1,ri [4] [])]
def z04.cx (k:Nat):Cx:=⟨tt,pp,[(178,(Entry.alt z0b.sg (z0b.e k) (z07.e k))),(124,(z0k.e k))],z04.regs,k,mm⟩
@[reducible] def z04.sg:Sg:=⟨[.dat (.slc tDot),.fn 124 0],[],.dat .bool,[]⟩
def z04.f (k:Nat) (a0:Ty.D (.slc tDot)):Option (Sg.Out z04.sg):=Sg.fn z04.sg (z04.cx k) z04.body z04.rs a0
theorem z04.f_eq (k:Nat) (a0:Ty.D (.slc tDot)):z04.f k a0=bnd (z07.f k a0) fun r0=>some (ile 0 r0):=by kernel_rfl
def z04.e (k:Nat):Entry:=Sg.entry z04.sg fun x=>z04.f k x
theorem z04.ok (k:Nat):CallOK Tryz.prog 127 (z04.e k):=fn_ok (c:=z04.cx k) (code:=z04.body) (TT.of tt_ok pp_ok mm_ok) (fns_ok ⟨(alt_ok (z0b.ok k) (z07.ok k)),(z0k.ok k),trivial⟩) mixed Tryz.func127 (by kernel_rfl) (by kernel_rfl) (by kernel_rfl) (by kernel_rfl) (by kernel_rfl) (by kernel_rfl) (fun x=>by kernel_rfl)
def z0t.body:Go.Code:=Tryz.f53.body.getD .skip
def z0t.rs:List Go.ResultVar:=Tryz.f53.results.toList
def z0t.regs:List (Nat × RInfo):=[(0,⟨[1],[1],[0],[],0,[],[],[],[],[]⟩),(1,ri [1,3] [1]),(2,ri [1,3,4] [1]),(3,ri [2] [12,24])]
def z0t.cx (k:Nat):Cx:=⟨tt,pp,[(123,(z0l.e k)),(124,(z0k.e k)),(125,(z2f.e k)),(126,(Entry.alt z06.sg (z06.e k) (z03.e k))),(52,(z0O.e k)),(127,(Entry.alt z05.sg (z05.e k) (z04.e k)))],z0t.regs,k,mm⟩
@[reducible] def z0t.sg:Sg:=⟨[.dat tDelta],[],.dat .bool,[]⟩
def z0t.f (k:Nat) (a0:Ty.D tDelta):Option (Sg.Out z0t.sg):=Sg.fn z0t.sg (z0t.cx k) z0t.body z0t.rs a0
theorem z0t.f_eq (k:Nat) (a0:Ty.D tDelta):z0t.f k a0=br (ile (ilen a0.1) 1000) (bnd (z2f.f k a0.1) fun r0=>br r0 (bnd (z03.f k a0.1) fun r1=>br (bnot r1) (bnd (z0O.f k a0.2.1) fun r2=>br r2 (bnd (z04.f k a0.2.2) fun r3=>some (bnot r3)) (some false)) (some false)) (some false)) (some false):=by kernel_rfl
def z0t.e (k:Nat):Entry:=Sg.entry z0t.sg fun x=>z0t.f k x
theorem z0t.ok (k:Nat):CallOK Tryz.prog 53 (z0t.e k):=fn_ok (c:=z0t.cx k) (code:=z0t.body) (TT.of tt_ok pp_ok mm_ok) (fns_ok ⟨(z0l.ok k),(z0k.ok k),(z2f.ok k),(alt_ok (z06.ok k) (z03.ok k)),(z0O.ok k),(alt_ok (z05.ok k) (z04.ok k)),trivial⟩) mixed Tryz.func53 (by kernel_rfl) (by kernel_rfl) (by kernel_rfl) (by kernel_rfl) (by kernel_rfl) (by kernel_rfl) (fun x=>by kernel_rfl)
def z0v.body:Go.Code:=Tryz.f13.body.getD .skip
def z0v.rs:List Go.ResultVar:=Tryz.f13.results.toList
def z0v.regs:List (Nat × RInfo):=[(0,⟨[1],[1],[0],[],0,[],[],[],[],[]⟩),(1,ri [1,4] [1]),(2,ri [1,4,5] [1]),(3,ri [2] [15,20,36,41]),(4,ri [1,4,11] [1]),(5,ri [2] [15,20,36,41]),(6,ri [1,4,32] [1]),(7,ri [2] [15,20,36,41]),(8,ri [1,37] [1]),(9,ri [2] [15,20,36,41]),(10,ri [2] [15,20,36,41])]
def z0v.cx (k:Nat):Cx:=⟨tt,pp,[(50,(z1R.e k)),(51,(z13.e k)),(52,(z0O.e k)),(53,(z0t.e k)),(54,(z0K.e k))],z0v.regs,k,mm⟩
@[reducible] def z0v.sg:Sg:=⟨[.dat tRecord],[],.dat .bool,[]⟩
def z0v.f (k:Nat) (a0:Ty.D tRecord):Option (Sg.Out z0v.sg):=Sg.fn z0v.sg (z0v.cx k) z0v.body z0v.rs a0
theorem z0v.f_eq (k:Nat) (a0:Ty.D tRecord):z0v.f k a0=br (ieq a0.1 1) (bnd (z1R.f k a0.2.1) fun r0=>some (ieq r0 0)) (br (ieq a0.1 2) (bnd (z13.f k a0.2.2.1) fun r1=>br r1 (bnd (z0O.f k (a0.2.2.2.1::[])) fun r2=>br r2 (br (ile 0 a0.2.2.2.2.1) (some (ile a0.2.2.2.2.1 2)) (some false)) (some false)) (some false)) (br (ieq a0.1 3) (bnd (z0t.f k a0.2.2.2.2.2.1) fun r3=>some r3) (br (ieq a0.1 4) (bnd (z0K.f k a0.2.2.2.2.2.2) fun r4=>some r4) (some false)))):=by kernel_rfl
def z0v.e (k:Nat):Entry:=Sg.entry z0v.sg fun x=>z0v.f k x
theorem z0v.ok (k:Nat):CallOK Tryz.prog 13 (z0v.e k):=fn_ok (c:=z0v.cx k) (code:=z0v.body) (TT.of tt_ok pp_ok mm_ok) (fns_ok ⟨(z1R.ok k),(z13.ok k),(z0O.ok k),(z0t.ok k),(z0K.ok k),trivial⟩) mixed Tryz.func13 (by kernel_rfl) (by kernel_rfl) (by kernel_rfl) (by kernel_rfl) (by kernel_rfl) (by kernel_rfl) (fun x=>by kernel_rfl)
@[reducible] def record_Parse.sg:Sg:=⟨[.dat .str],[],.t2 (.dat tRecord) (.dat (.int .i64)),[]⟩
end Go.Proofs.YtggcagclpkhlhaaGreatDoor
end
noncomputable section
/- The program's functions, as plain equations. -/
namespace Go.Proofs.YtggcagclpkhlhaaGreatDoor
open Pal
set_option maxRecDepth 100000
@[reducible] def ref02_Reader_Int.sg:Sg:=⟨[.ref],[tref02Reader],.dat (.int .i64),[tref02Reader]⟩
def z0W.body:Go.Code:=Tryz.f77.body.getD .skip
def z0W.rs:List Go.ResultVar:=Tryz.f77.results.toList
def z0W.regs:List (Nat × RInfo):=[(0,ri [1] [1]),(1,ri [2] [])]
def z0W.cx (k:Nat):Cx:=⟨tt,pp,[],z0W.regs,k,mm⟩
@[reducible] def z0W.sg:Sg:=⟨[.dat tDot],[],.dat .bool,[]⟩
def z0W.f (k:Nat) (a0:Ty.D tDot):Option (Sg.Out z0W.sg):=Sg.fn z0W.sg (z0W.cx k) z0W.body z0W.rs a0
theorem z0W.f_eq (k:Nat) (a0:Ty.D tDot):z0W.f k a0=br (ile 0 a0.1) (br (ile a0.1 15) (br (ile 1 a0.2) (some (ile a0.2 1048576)) (some false)) (some false)) (some false):=by kernel_rfl
def z0W.e (k:Nat):Entry:=Sg.entry z0W.sg fun x=>z0W.f k x
theorem z0W.ok (k:Nat):CallOK Tryz.prog 77 (z0W.e k):=fn_ok (c:=z0W.cx k) (code:=z0W.body) (TT.of tt_ok pp_ok mm_ok) (fns_ok trivial) mixed Tryz.func77 (by kernel_rfl) (by kernel_rfl) (by kernel_rfl) (by kernel_rfl) (by kernel_rfl) (by kernel_rfl) (fun x=>by kernel_rfl)
@[reducible] def ref04_Read.sg:Sg:=⟨[.ref],[tref02Reader],.dat tDot,[tref02Reader]⟩
@[reducible] def ref02_Reader_Fail.sg:Sg:=⟨[.ref,.dat (.int .i64)],[tref02Reader],.unit,[tref02Reader]⟩
@[reducible] def ref02_Reader_Many.sg:Sg:=⟨[.ref,.dat (.int .i64)],[tref02Reader],.dat (.int .i64),[tref02Reader]⟩
@[reducible] def ref02_Reader_Text.sg:Sg:=⟨[.ref],[tref02Reader],.dat .str,[tref02Reader]⟩
def z1D.body:Go.Code:=Tryz.f244.body.getD .skip
def z1D.rs:List Go.ResultVar:=Tryz.f244.results.toList
def z1D.regs:List (Nat × RInfo):=[(0,ri [0] []),(1,ri [0,10] []),(2,ri [2,3] []),(3,ri [0,4] []),(4,ri [0,4] []),(6,ri [0,4,14] []),(7,ri [2,3] []),(8,ri [0,4,18] []),(9,ri [0,4,5,6] []),(10,ri [0,4,27] []),(11,ri [0,4,5,6] []),(12,ri [0,4,36] []),(13,ri [0,4,5,6] []),(5,ri [2,3] []),(14,ri [0,4,5,6,48] []),(15,ri [2,3] []),(16,ri [0,4,5,6,7] []),(17,⟨[0,4,5,6,7,51],[],[],[],0,[0,4,5,6,7],[],[],[],[]⟩),(19,ri [0,4,5,6,7,63] []),(20,ri [2,3] []),(21,ri [0,4,5,6,7] []),(18,ri [0,4,5,6,7] []),(22,ri [4,5,86] []),(23,ri [2,3] []),(24,ri [2,3] [])]
def z1D.cx (k:Nat):Cx:=⟨tt,pp,[],z1D.regs,k,mm⟩
@[reducible] def z1D.sg:Sg:=⟨[.dat .str],[],.t2 (.dat (.int .i64)) (.dat (.int .i64)),[]⟩
def z1D.f (k:Nat) (a0:Ty.D .str):Option (Sg.Out z1D.sg):=Sg.fn z1D.sg (z1D.cx k) z1D.body z1D.rs a0
def z1D.l17 (k:Nat) (n:Nat) (x0:Ty.D .str) (x4:Ty.D (.int .i64)) (x5:Ty.D (.int .i64)) (x6:Ty.D (.int .i64)) (x7:Ty.D (.int .i64)):Option (Sg.Out z1D.sg):=loopAt (z1D.cx k) z1D.body [1,1,1,1,1,1,0,1,0] 17 [0,4,5,6,7] [] [] (Sg.K z1D.sg (z1D.cx k) z1D.rs) n ⟨[(0,.dat .str x0),(4,.dat (.int .i64) x4),(5,.dat (.int .i64) x5),(6,.dat (.int .i64) x6),(7,.dat (.int .i64) x7)],[]⟩
theorem z1D.f_eq (k:Nat) (a0:Ty.D .str):z1D.f k a0=br (ieq (ilen a0) 0) (some (0,0)) (br (inL 0 a0) (br (ilt (iwrap .i64 (byteAt a0 0)) 128) (some ((iwrap .i64 (byteAt a0 0)),1)) (br (ile 194 (iwrap .i64 (byteAt a0 0))) (br (ilt (iwrap .i64 (byteAt a0 0)) 224) (br (ilt (ilen a0) 2) (some (0,0)) (z1D.l17 k k a0 (isub .i64 (iwrap .i64 (byteAt a0 0)) 192) 2 128 1)) (br (ile 224 (iwrap .i64 (byteAt a0 0))) (br (ilt (iwrap .i64 (byteAt a0 0)) 240) (br (ilt (ilen a0) 3) (some (0,0)) (z1D.l17 k k a0 (isub .i64 (iwrap .i64 (byteAt a0 0)) 224) 3 2048 1)) (br (ile 240 (iwrap .i64 (byteAt a0 0))) (br (ilt (iwrap .i64 (byteAt a0 0)) 245) (br (ilt (ilen a0) 4) (some (0,0)) (z1D.l17 k k a0 (isub .i64 (iwrap .i64 (byteAt a0 0)) 240) 4 65536 1)) (some (0,0))) (some (0,0)))) (br (ile 240 (iwrap .i64 (byteAt a0 0))) (br (ilt (iwrap .i64 (byteAt a0 0)) 245) (br (ilt (ilen a0) 4) (some (0,0)) (z1D.l17 k k a0 (isub .i64 (iwrap .i64 (byteAt a0 0)) 240) 4 65536 1)) (some (0,0))) (some (0,0))))) (br (ile 224 (iwrap .i64 (byteAt a0 0))) (br (ilt (iwrap .i64 (byteAt a0 0)) 240) (br (ilt (ilen a0) 3) (some (0,0)) (z1D.l17 k k a0 (isub .i64 (iwrap .i64 (byteAt a0 0)) 224) 3 2048 1)) (br (ile 240 (iwrap .i64 (byteAt a0 0))) (br (ilt (iwrap .i64 (byteAt a0 0)) 245) (br (ilt (ilen a0) 4) (some (0,0)) (z1D.l17 k k a0 (isub .i64 (iwrap .i64 (byteAt a0 0)) 240) 4 65536 1)) (some (0,0))) (some (0,0)))) (br (ile 240 (iwrap .i64 (byteAt a0 0))) (br (ilt (iwrap .i64 (byteAt a0 0)) 245) (br (ilt (ilen a0) 4) (some (0,0)) (z1D.l17 k k a0 (isub .i64 (iwrap .i64 (byteAt a0 0)) 240) 4 65536 1)) (some (0,0))) (some (0,0)))))) none):=by kernel_rfl
theorem z1D.l17_eq (k:Nat) (n17:Nat) (x0:Ty.D .str) (x4:Ty.D (.int .i64)) (x5:Ty.D (.int .i64)) (x6:Ty.D (.int .i64)) (x7:Ty.D (.int .i64)):z1D.l17 k (n17+1) x0 x4 x5 x6 x7=br (ilt x7 x5) (br (inL x7 x0) (br (ilt (byteAt x0 x7) 128) (some (0,0)) (br (inL x7 x0) (br (ilt 191 (byteAt x0 x7)) (some (0,0)) (br (inL x7 x0) (z1D.l17 k n17 x0 (isub .i64 (iadd .i64 (imul .i64 64 x4) (iwrap .i64 (byteAt x0 x7))) 128) x5 x6 (iadd .i64 x7 1)) none)) none)) none) (br (ilt x4 x6) (some (0,0)) (br (ilt 1114111 x4) (some (0,0)) (br (ile 55296 x4) (br (ile x4 57343) (some (0,0)) (some (x4,x5))) (some (x4,x5))))):=by kernel_rfl
def z1D.e (k:Nat):Entry:=Sg.entry z1D.sg fun x=>z1D.f k x
theorem z1D.ok (k:Nat):CallOK Tryz.prog 244 (z1D.e k):=fn_ok (c:=z1D.cx k) (code:=z1D.body) (TT.of tt_ok pp_ok mm_ok) (fns_ok trivial) mixed Tryz.func244 (by kernel_rfl) (by kernel_rfl) (by kernel_rfl) (by kernel_rfl) (by kernel_rfl) (by kernel_rfl) (fun x=>by kernel_rfl)
def z0D.body:Go.Code:=Tryz.f219.body.getD .skip
def z0D.rs:List Go.ResultVar:=Tryz.f219.results.toList
def z0D.regs:List (Nat × RInfo):=[(0,ri [0] []),(1,ri [0,4] []),(2,ri [0,4,5] []),(3,⟨[0,4,5,11],[],[],[],0,[0,4,5],[],[],[],[]⟩),(4,ri [0,4,5,6,7] [16]),(5,ri [0,4,5,6,7,20] [16]),(6,ri [2,3] []),(7,⟨[0,4,5,7],[16],[0,3,4],[],0,[],[],[],[],[]⟩),(8,ri [0,4,5] []),(9,⟨[2,3],[],[0,1],[],0,[],[],[],[],[]⟩)]
def z0D.cx (k:Nat):Cx:=⟨tt,pp,[(244,(z1D.e k))],z0D.regs,k,mm⟩
@[reducible] def z0D.sg:Sg:=⟨[.dat .str],[],.t2 (.dat (.slc (.int .i64))) (.dat .bool),[]⟩
def z0D.f (k:Nat) (a0:Ty.D .str):Option (Sg.Out z0D.sg):=Sg.fn z0D.sg (z0D.cx k) z0D.body z0D.rs a0
def z0D.l3 (k:Nat) (n:Nat) (x0:Ty.D .str) (x4:List (Ty.D (.int .i64))) (x5:Ty.D (.int .i64)):Option (Sg.Out z0D.sg):=loopAt (z0D.cx k) z0D.body [1,1,0,1,0] 3 [0,4,5] [] [] (Sg.K z0D.sg (z0D.cx k) z0D.rs) n ⟨[(0,.dat .str x0),(4,.own (.int .i64) x4),(5,.dat (.int .i64) x5)],[]⟩
theorem z0D.f_eq (k:Nat) (a0:Ty.D .str):z0D.f k a0=z0D.l3 k k a0 [] 0:=by kernel_rfl
theorem z0D.l3_eq (k:Nat) (n3:Nat) (x0:Ty.D .str) (x4:List (Ty.D (.int .i64))) (x5:Ty.D (.int .i64)):z0D.l3 k (n3+1) x0 x4 x5=br (ilt x5 (ilen x0)) (br (inS x5 (ilen x0) (ilen x0)) (bnd (z1D.f k (piece x0 x5 (ilen x0))) fun r0=>br (ieq r0.2 0) (some ([],false)) (br (room x4 (r0.1::[])) (z0D.l3 k n3 x0 (app x4 (r0.1::[])) (iadd .i64 x5 r0.2)) none)) none) (some (x4,true)):=by kernel_rfl
def z0D.e (k:Nat):Entry:=Sg.entry z0D.sg fun x=>z0D.f k x
theorem z0D.ok (k:Nat):CallOK Tryz.prog 219 (z0D.e k):=fn_ok (c:=z0D.cx k) (code:=z0D.body) (TT.of tt_ok pp_ok mm_ok) (fns_ok ⟨(z1D.ok k),trivial⟩) mixed Tryz.func219 (by kernel_rfl) (by kernel_rfl) (by kernel_rfl) (by kernel_rfl) (by kernel_rfl) (by kernel_rfl) (fun x=>by kernel_rfl)
def z1W.body:Go.Code:=Tryz.f243.body.getD .skip
def z1W.rs:List Go.ResultVar:=Tryz.f243.results.toList
def z1W.regs:List (Nat × RInfo):=[(0,ri [0] []),(1,ri [2] [])]
def z1W.cx (k:Nat):Cx:=⟨tt,pp,[],z1W.regs,k,mm⟩
@[reducible] def z1W.sg:Sg:=⟨[.dat (.int .i64)],[],.dat .bool,[]⟩
def z1W.f (k:Nat) (a0:Ty.D (.int .i64)):Option (Sg.Out z1W.sg):=Sg.fn z1W.sg (z1W.cx k) z1W.body z1W.rs a0
theorem z1W.f_eq (k:Nat) (a0:Ty.D (.int .i64)):z1W.f k a0=br (ile 32 a0) (br (ilt a0 127) (some (bnot (ieq a0 65533))) (br (ilt 159 a0) (some (bnot (ieq a0 65533))) (some false))) (some false):=by kernel_rfl
def z1W.e (k:Nat):Entry:=Sg.entry z1W.sg fun x=>z1W.f k x
theorem z1W.ok (k:Nat):CallOK Tryz.prog 243 (z1W.e k):=fn_ok (c:=z1W.cx k) (code:=z1W.body) (TT.of tt_ok pp_ok mm_ok) (fns_ok trivial) mixed Tryz.func243 (by kernel_rfl) (by kernel_rfl) (by kernel_rfl) (by kernel_rfl) (by kernel_rfl) (by kernel_rfl) (fun x=>by kernel_rfl)
def z12.body:Go.Code:=Tryz.f218.body.getD .skip
def z12.rs:List Go.ResultVar:=Tryz.f218.results.toList
def z12.regs:List (Nat × RInfo):=[(0,ri [0] []),(1,⟨[3,4],[8],[5],[],0,[],[],[],[],[]⟩),(2,ri [3,4,5] [8]),(3,⟨[3,4,5,14],[8],[],[],0,[3,4,5],[8],[],[],[]⟩),(5,ri [3,4,5,22] [8]),(6,ri [2] [8]),(4,ri [3,4,5] [8]),(7,ri [2] [8])]
def z12.cx (k:Nat):Cx:=⟨tt,pp,[(219,(z0D.e k)),(243,(z1W.e k))],z12.regs,k,mm⟩
@[reducible] def z12.sg:Sg:=⟨[.dat .str],[],.dat .bool,[]⟩
def z12.f (k:Nat) (a0:Ty.D .str):Option (Sg.Out z12.sg):=Sg.fn z12.sg (z12.cx k) z12.body z12.rs a0
def z12.l3 (k:Nat) (n:Nat) (x3:Ty.D (.slc (.int .i64))) (x4:Ty.D .bool) (x5:Ty.D (.int .i64)):Option (Sg.Out z12.sg):=loopAt (z12.cx k) z12.body [1,1,0,1,0] 3 [3,4,5] [8] [] (Sg.K z12.sg (z12.cx k) z12.rs) n ⟨[(3,.dat (.slc (.int .i64)) x3),(4,.dat .bool x4),(5,.dat (.int .i64) x5)],[]⟩
theorem z12.f_eq (k:Nat) (a0:Ty.D .str):z12.f k a0=bnd (z0D.f k a0) fun r0=>z12.l3 k k r0.1 r0.2 0:=by kernel_rfl
theorem z12.l3_eq (k:Nat) (n3:Nat) (x3:Ty.D (.slc (.int .i64))) (x4:Ty.D .bool) (x5:Ty.D (.int .i64)):z12.l3 k (n3+1) x3 x4 x5=br (ilt x5 (ilen x3)) (br (inL x5 x3) (bnd (z1W.f k (rd (.int .i64) x3 (natOf x5))) fun r0=>br (bnot r0) (some false) (z12.l3 k n3 x3 x4 (iadd .i64 x5 1))) none) (br x4 (br (ile 1 (ilen x3)) (some (ile (ilen x3) 24)) (some false)) (some false)):=by kernel_rfl
def z12.e (k:Nat):Entry:=Sg.entry z12.sg fun x=>z12.f k x
theorem z12.ok (k:Nat):CallOK Tryz.prog 218 (z12.e k):=fn_ok (c:=z12.cx k) (code:=z12.body) (TT.of tt_ok pp_ok mm_ok) (fns_ok ⟨(z0D.ok k),(z1W.ok k),trivial⟩) mixed Tryz.func218 (by kernel_rfl) (by kernel_rfl) (by kernel_rfl) (by kernel_rfl) (by kernel_rfl) (by kernel_rfl) (fun x=>by kernel_rfl)
def z0B.body:Go.Code:=Tryz.f168.body.getD .skip
def z0B.rs:List Go.ResultVar:=Tryz.f168.results.toList
def z0B.regs:List (Nat × RInfo):=[(0,ri [0] []),(1,ri [0,6] []),(2,ri [2] []),(3,ri [0,9] []),(4,ri [2] []),(5,ri [0,3] []),(6,⟨[0,3,13],[],[],[],0,[0,3],[],[],[],[]⟩),(8,ri [0,3,21] []),(9,ri [2] []),(7,ri [0,3] []),(10,ri [2] [])]
def z0B.cx (k:Nat):Cx:=⟨tt,pp,[(218,(z12.e k))],z0B.regs,k,mm⟩
@[reducible] def z0B.sg:Sg:=⟨[.dat (.slc .str)],[],.dat (.int .i64),[]⟩
def z0B.f (k:Nat) (a0:Ty.D (.slc .str)):Option (Sg.Out z0B.sg):=Sg.fn z0B.sg (z0B.cx k) z0B.body z0B.rs a0
def z0B.l6 (k:Nat) (n:Nat) (x0:Ty.D (.slc .str)) (x3:Ty.D (.int .i64)):Option (Sg.Out z0B.sg):=loopAt (z0B.cx k) z0B.body [1,1,1,0,1,0] 6 [0,3] [] [] (Sg.K z0B.sg (z0B.cx k) z0B.rs) n ⟨[(0,.dat (.slc .str) x0),(3,.dat (.int .i64) x3)],[]⟩
theorem z0B.f_eq (k:Nat) (a0:Ty.D (.slc .str)):z0B.f k a0=br (ieq (ilen a0) 0) (some 8) (br (ilt 8 (ilen a0)) (some 9) (z0B.l6 k k a0 0)):=by kernel_rfl
theorem z0B.l6_eq (k:Nat) (n6:Nat) (x0:Ty.D (.slc .str)) (x3:Ty.D (.int .i64)):z0B.l6 k (n6+1) x0 x3=br (ilt x3 (ilen x0)) (br (inL x3 x0) (bnd (z12.f k (rd .str x0 (natOf x3))) fun r0=>br (bnot r0) (some 8) (z0B.l6 k n6 x0 (iadd .i64 x3 1))) none) (some 0):=by kernel_rfl
def z0B.e (k:Nat):Entry:=Sg.entry z0B.sg fun x=>z0B.f k x
theorem z0B.ok (k:Nat):CallOK Tryz.prog 168 (z0B.e k):=fn_ok (c:=z0B.cx k) (code:=z0B.body) (TT.of tt_ok pp_ok mm_ok) (fns_ok ⟨(z12.ok k),trivial⟩) mixed Tryz.func168 (by kernel_rfl) (by kernel_rfl) (by kernel_rfl) (by kernel_rfl) (by kernel_rfl) (by kernel_rfl) (fun x=>by kernel_rfl)
@[reducible] def ref10_Read.sg:Sg:=⟨[.ref],[tref02Reader],.own .str,[tref02Reader]⟩
@[reducible] def ref09_Unfold.sg:Sg:=⟨[.dat (.int .i64)],[],.dat (.int .i64),[]⟩
def z0V.body:Go.Code:=Tryz.f169.body.getD .skip
def z0V.rs:List Go.ResultVar:=Tryz.f169.results.toList
def z0V.regs:List (Nat × RInfo):=[(0,ri [1] [1]),(1,ri [1,7] [1]),(2,ri [2] [27]),(3,ri [1,23] [1]),(4,⟨[1,4],[1,27],[6],[],0,[],[],[],[],[]⟩),(5,ri [2] [27]),(6,ri [2] [27])]
def z0V.cx (k:Nat):Cx:=⟨tt,pp,[(219,(z0D.e k))],z0V.regs,k,mm⟩
@[reducible] def z0V.sg:Sg:=⟨[.dat tValue],[],.dat .bool,[]⟩
def z0V.f (k:Nat) (a0:Ty.D tValue):Option (Sg.Out z0V.sg):=Sg.fn z0V.sg (z0V.cx k) z0V.body z0V.rs a0
theorem z0V.f_eq (k:Nat) (a0:Ty.D tValue):z0V.f k a0=br (ieq a0.1 1) (br (seq a0.2.2 []) (br (ile (-2147483647) a0.2.1) (some (ile a0.2.1 2147483647)) (some false)) (some false)) (br (ieq a0.1 2) (bnd (z0D.f k a0.2.2) fun r0=>br (ieq a0.2.1 0) (br r0.2 (some (ile (ilen a0.2.2) 64)) (some false)) (some false)) (br (ieq a0.1 3) (br (seq a0.2.2 []) (br (ile 0 a0.2.1) (some (ile a0.2.1 1)) (some false)) (some false)) (some false))):=by kernel_rfl
def z0V.e (k:Nat):Entry:=Sg.entry z0V.sg fun x=>z0V.f k x
theorem z0V.ok (k:Nat):CallOK Tryz.prog 169 (z0V.e k):=fn_ok (c:=z0V.cx k) (code:=z0V.body) (TT.of tt_ok pp_ok mm_ok) (fns_ok ⟨(z0D.ok k),trivial⟩) mixed Tryz.func169 (by kernel_rfl) (by kernel_rfl) (by kernel_rfl) (by kernel_rfl) (by kernel_rfl) (by kernel_rfl) (fun x=>by kernel_rfl)
@[reducible] def ref09_Read.sg:Sg:=⟨[.ref],[tref02Reader],.dat tValue,[tref02Reader]⟩
def z1o.body:Go.Code:=Tryz.f171.body.getD .skip
def z1o.rs:List Go.ResultVar:=Tryz.f171.results.toList
def z1o.regs:List (Nat × RInfo):=[(0,ri [0,1] []),(1,ri [0,1,7] []),(2,ri [4] []),(3,ri [10] []),(4,ri [4] []),(5,ri [4] [])]
def z1o.cx (k:Nat):Cx:=⟨tt,pp,[],z1o.regs,k,mm⟩
@[reducible] def z1o.sg:Sg:=⟨[.dat (.int .i64),.dat (.int .i64)],[],.dat (.int .i64),[]⟩
def z1o.f (k:Nat) (a0:Ty.D (.int .i64)) (a1:Ty.D (.int .i64)):Option (Sg.Out z1o.sg):=Sg.fn z1o.sg (z1o.cx k) z1o.body z1o.rs (a0,a1)
theorem z1o.f_eq (k:Nat) (a0:Ty.D (.int .i64)) (a1:Ty.D (.int .i64)):z1o.f k a0 a1=br (ilt a0 a1) (some (-1)) (br (ilt a1 a0) (some 1) (some 0)):=by kernel_rfl
def z1o.e (k:Nat):Entry:=Sg.entry z1o.sg fun x=>z1o.f k x.1 x.2
theorem z1o.ok (k:Nat):CallOK Tryz.prog 171 (z1o.e k):=fn_ok (c:=z1o.cx k) (code:=z1o.body) (TT.of tt_ok pp_ok mm_ok) (fns_ok trivial) mixed Tryz.func171 (by kernel_rfl) (by kernel_rfl) (by kernel_rfl) (by kernel_rfl) (by kernel_rfl) (by kernel_rfl) (fun x=>by kernel_rfl)
def z0p.body:Go.Code:=Tryz.f118.body.getD .skip
def z0p.rs:List Go.ResultVar:=Tryz.f118.results.toList
def z0p.regs:List (Nat × RInfo):=[(0,ri [2,3] [2,3]),(1,ri [2,3,9] [2,3]),(2,ri [4] [14,19]),(3,ri [4] [14,19])]
def z0p.cx (k:Nat):Cx:=⟨tt,pp,[(171,(z1o.e k))],z0p.regs,k,mm⟩
@[reducible] def z0p.sg:Sg:=⟨[.dat tDot,.dat tDot],[],.dat (.int .i64),[]⟩
def z0p.f (k:Nat) (a0:Ty.D tDot) (a1:Ty.D tDot):Option (Sg.Out z0p.sg):=Sg.fn z0p.sg (z0p.cx k) z0p.body z0p.rs (a0,a1)
theorem z0p.f_eq (k:Nat) (a0:Ty.D tDot) (a1:Ty.D tDot):z0p.f k a0 a1=br (bnot (ieq a0.1 a1.1)) (bnd (z1o.f k a0.1 a1.1) fun r0=>some r0) (bnd (z1o.f k a0.2 a1.2) fun r1=>some r1):=by kernel_rfl
def z0p.e (k:Nat):Entry:=Sg.entry z0p.sg fun x=>z0p.f k x.1 x.2
theorem z0p.ok (k:Nat):CallOK Tryz.prog 118 (z0p.e k):=fn_ok (c:=z0p.cx k) (code:=z0p.body) (TT.of tt_ok pp_ok mm_ok) (fns_ok ⟨(z1o.ok k),trivial⟩) mixed Tryz.func118 (by kernel_rfl) (by kernel_rfl) (by kernel_rfl) (by kernel_rfl) (by kernel_rfl) (by kernel_rfl) (fun x=>by kernel_rfl)
def z1j.body:Go.Code:=Tryz.f220.body.getD .skip
def z1j.rs:List Go.ResultVar:=Tryz.f220.results.toList
def z1j.regs:List (Nat × RInfo):=[(0,ri [2,3] [2,3]),(1,ri [2,3,10] [2,3]),(2,ri [4] [15,20]),(3,ri [4] [15,20])]
def z1j.cx (k:Nat):Cx:=⟨tt,pp,[(118,(z0p.e k)),(171,(z1o.e k))],z1j.regs,k,mm⟩
@[reducible] def z1j.sg:Sg:=⟨[.dat tUndo,.dat tUndo],[],.dat (.int .i64),[]⟩
def z1j.f (k:Nat) (a0:Ty.D tUndo) (a1:Ty.D tUndo):Option (Sg.Out z1j.sg):=Sg.fn z1j.sg (z1j.cx k) z1j.body z1j.rs (a0,a1)
theorem z1j.f_eq (k:Nat) (a0:Ty.D tUndo) (a1:Ty.D tUndo):z1j.f k a0 a1=bnd (z0p.f k a0.1 a1.1) fun r0=>br (bnot (ieq r0 0)) (bnd (z0p.f k a0.1 a1.1) fun r1=>some r1) (bnd (z1o.f k a0.2 a1.2) fun r2=>some r2):=by kernel_rfl
def z1j.e (k:Nat):Entry:=Sg.entry z1j.sg fun x=>z1j.f k x.1 x.2
theorem z1j.ok (k:Nat):CallOK Tryz.prog 220 (z1j.e k):=fn_ok (c:=z1j.cx k) (code:=z1j.body) (TT.of tt_ok pp_ok mm_ok) (fns_ok ⟨(z0p.ok k),(z1o.ok k),trivial⟩) mixed Tryz.func220 (by kernel_rfl) (by kernel_rfl) (by kernel_rfl) (by kernel_rfl) (by kernel_rfl) (by kernel_rfl) (fun x=>by kernel_rfl)
def z19.body:Go.Code:=Tryz.f170.body.getD .skip
def z19.rs:List Go.ResultVar:=Tryz.f170.results.toList
def z19.regs:List (Nat × RInfo):=[(0,ri [0] []),(1,ri [0,3] []),(2,⟨[0,3,7],[],[],[],0,[0,3],[],[],[],[]⟩),(4,ri [0,3,32] []),(5,ri [2] []),(6,rq [0,3,47] [] 15),(7,ri [2] []),(3,ri [0,3] []),(8,ri [2] [])]
def z19.cx (k:Nat):Cx:=⟨tt,pp,[(77,(z0W.e k)),(220,(z1j.e k))],z19.regs,k,mm⟩
@[reducible] def z19.sg:Sg:=⟨[.dat (.slc tUndo)],[],.dat .bool,[]⟩
def z19.f (k:Nat) (a0:Ty.D (.slc tUndo)):Option (Sg.Out z19.sg):=Sg.fn z19.sg (z19.cx k) z19.body z19.rs a0
def z19.l2 (k:Nat) (n:Nat) (x0:Ty.D (.slc tUndo)) (x3:Ty.D (.int .i64)):Option (Sg.Out z19.sg):=loopAt (z19.cx k) z19.body [1,0,1,0] 2 [0,3] [] [] (Sg.K z19.sg (z19.cx k) z19.rs) n ⟨[(0,.dat (.slc tUndo) x0),(3,.dat (.int .i64) x3)],[]⟩
theorem z19.f_eq (k:Nat) (a0:Ty.D (.slc tUndo)):z19.f k a0=z19.l2 k k a0 0:=by kernel_rfl
theorem z19.l2_eq (k:Nat) (n2:Nat) (x0:Ty.D (.slc tUndo)) (x3:Ty.D (.int .i64)):z19.l2 k (n2+1) x0 x3=br (ilt x3 (ilen x0)) (br (inL x3 x0) (bnd (z0W.f k ((rd tUndo x0 (natOf x3)).1)) fun r0=>br (bnot r0) (some false) (br (inL x3 x0) (br (ilt ((rd tUndo x0 (natOf x3)).2) 0) (some false) (br (inL x3 x0) (br (ilt 15 ((rd tUndo x0 (natOf x3)).2)) (some false) (br (ilt 0 x3) (br (inL (isub .i64 x3 1) x0) (br (inL x3 x0) (bnd (z1j.f k (rd tUndo x0 (natOf (isub .i64 x3 1))) (rd tUndo x0 (natOf x3))) fun r1=>br (bnot (ieq r1 (-1))) (some false) (z19.l2 k n2 x0 (iadd .i64 x3 1))) none) none) (z19.l2 k n2 x0 (iadd .i64 x3 1)))) none)) none)) none) (some true):=by kernel_rfl
def z19.e (k:Nat):Entry:=Sg.entry z19.sg fun x=>z19.f k x
theorem z19.ok (k:Nat):CallOK Tryz.prog 170 (z19.e k):=fn_ok (c:=z19.cx k) (code:=z19.body) (TT.of tt_ok pp_ok mm_ok) (fns_ok ⟨(z0W.ok k),(z1j.ok k),trivial⟩) mixed Tryz.func170 (by kernel_rfl) (by kernel_rfl) (by kernel_rfl) (by kernel_rfl) (by kernel_rfl) (by kernel_rfl) (fun x=>by kernel_rfl)
def z0X.body:Go.Code:=Tryz.f115.body.getD .skip
def z0X.rs:List Go.ResultVar:=Tryz.f115.results.toList
def z0X.regs:List (Nat × RInfo):=[(0,⟨[1],[1],[0],[],0,[],[],[],[],[]⟩),(1,ri [1,12] [1]),(2,ri [2] [15]),(3,ri [1,3] [1,15]),(4,ri [1,3,17] [1,15]),(5,ri [2] [15]),(6,ri [1,4] [1,4]),(7,ri [1,33] [1]),(8,ri [2] [15]),(9,ri [1,47] [1]),(10,ri [2] [15]),(11,ri [1,75] [1]),(12,ri [2] [15]),(13,ri [1,89] [1]),(14,ri [2] [15]),(15,ri [1,93] [1]),(16,ri [2] [15]),(17,ri [97] []),(18,ri [2] [15]),(19,ri [2] [15])]
def z0X.cx (k:Nat):Cx:=⟨tt,pp,[(168,(z0B.e k)),(169,(z0V.e k)),(170,(z19.e k))],z0X.regs,k,mm⟩
@[reducible] def z0X.sg:Sg:=⟨[.dat tOp],[],.dat (.int .i64),[]⟩
def z0X.f (k:Nat) (a0:Ty.D tOp):Option (Sg.Out z0X.sg):=Sg.fn z0X.sg (z0X.cx k) z0X.body z0X.rs a0
theorem z0X.f_eq (k:Nat) (a0:Ty.D tOp):z0X.f k a0=br (ilt a0.1 1) (some 18) (br (ilt 5 a0.1) (some 18) (bnd (z0B.f k a0.2.1) fun r0=>br (bnot (ieq r0 0)) (some r0) (br (ieq a0.1 3) (br (bnot (deq tValue a0.2.2.1 (0,(0,[])))) (some 2) (br (bnot (ieq a0.1 3)) (br (bnot (ieq a0.1 5)) (bnd (z0V.f k a0.2.2.1) fun r1=>br (bnot r1) (some 2) (br (bnot (ieq a0.1 3)) (br (bnot (ieq a0.2.2.2.1 0)) (some 2) (br (ieq a0.1 3) (br (ieq a0.2.2.2.1 0) (some 2) (br (ilt 2147483647 a0.2.2.2.1) (some 2) (br (ilt a0.2.2.2.1 (-2147483647)) (some 2) (br (ieq a0.1 2) (br (ilt 0 (ilen a0.2.2.2.2)) (some 2) (br (ilt 256 (ilen a0.2.2.2.2)) (some 7) (bnd (z19.f k a0.2.2.2.2) fun r2=>br (bnot r2) (some 2) (some 0)))) (br (ieq a0.1 3) (br (ilt 0 (ilen a0.2.2.2.2)) (some 2) (br (ilt 256 (ilen a0.2.2.2.2)) (some 7) (bnd (z19.f k a0.2.2.2.2) fun r3=>br (bnot r3) (some 2) (some 0)))) (br (ilt 256 (ilen a0.2.2.2.2)) (some 7) (bnd (z19.f k a0.2.2.2.2) fun r4=>br (bnot r4) (some 2) (some 0)))))))) (br (ieq a0.1 2) (br (ilt 0 (ilen a0.2.2.2.2)) (some 2) (br (ilt 256 (ilen a0.2.2.2.2)) (some 7) (bnd (z19.f k a0.2.2.2.2) fun r5=>br (bnot r5) (some 2) (some 0)))) (br (ieq a0.1 3) (br (ilt 0 (ilen a0.2.2.2.2)) (some 2) (br (ilt 256 (ilen a0.2.2.2.2)) (some 7) (bnd (z19.f k a0.2.2.2.2) fun r6=>br (bnot r6) (some 2) (some 0)))) (br (ilt 256 (ilen a0.2.2.2.2)) (some 7) (bnd (z19.f k a0.2.2.2.2) fun r7=>br (bnot r7) (some 2) (some 0))))))) (br (ieq a0.1 3) (br (ieq a0.2.2.2.1 0) (some 2) (br (ilt 2147483647 a0.2.2.2.1) (some 2) (br (ilt a0.2.2.2.1 (-2147483647)) (some 2) (br (ieq a0.1 2) (br (ilt 0 (ilen a0.2.2.2.2)) (some 2) (br (ilt 256 (ilen a0.2.2.2.2)) (some 7) (bnd (z19.f k a0.2.2.2.2) fun r8=>br (bnot r8) (some 2) (some 0)))) (br (ieq a0.1 3) (br (ilt 0 (ilen a0.2.2.2.2)) (some 2) (br (ilt 256 (ilen a0.2.2.2.2)) (some 7) (bnd (z19.f k a0.2.2.2.2) fun r9=>br (bnot r9) (some 2) (some 0)))) (br (ilt 256 (ilen a0.2.2.2.2)) (some 7) (bnd (z19.f k a0.2.2.2.2) fun r10=>br (bnot r10) (some 2) (some 0)))))))) (br (ieq a0.1 2) (br (ilt 0 (ilen a0.2.2.2.2)) (some 2) (br (ilt 256 (ilen a0.2.2.2.2)) (some 7) (bnd (z19.f k a0.2.2.2.2) fun r11=>br (bnot r11) (some 2) (some 0)))) (br (ieq a0.1 3) (br (ilt 0 (ilen a0.2.2.2.2)) (some 2) (br (ilt 256 (ilen a0.2.2.2.2)) (some 7) (bnd (z19.f k a0.2.2.2.2) fun r12=>br (bnot r12) (some 2) (some 0)))) (br (ilt 256 (ilen a0.2.2.2.2)) (some 7) (bnd (z19.f k a0.2.2.2.2) fun r13=>br (bnot r13) (some 2) (some 0)))))))) (br (bnot (ieq a0.1 3)) (br (bnot (ieq a0.2.2.2.1 0)) (some 2) (br (ieq a0.1 3) (br (ieq a0.2.2.2.1 0) (some 2) (br (ilt 2147483647 a0.2.2.2.1) (some 2) (br (ilt a0.2.2.2.1 (-2147483647)) (some 2) (br (ieq a0.1 2) (br (ilt 0 (ilen a0.2.2.2.2)) (some 2) (br (ilt 256 (ilen a0.2.2.2.2)) (some 7) (bnd (z19.f k a0.2.2.2.2) fun r14=>br (bnot r14) (some 2) (some 0)))) (br (ieq a0.1 3) (br (ilt 0 (ilen a0.2.2.2.2)) (some 2) (br (ilt 256 (ilen a0.2.2.2.2)) (some 7) (bnd (z19.f k a0.2.2.2.2) fun r15=>br (bnot r15) (some 2) (some 0)))) (br (ilt 256 (ilen a0.2.2.2.2)) (some 7) (bnd (z19.f k a0.2.2.2.2) fun r16=>br (bnot r16) (some 2) (some 0)))))))) (br (ieq a0.1 2) (br (ilt 0 (ilen a0.2.2.2.2)) (some 2) (br (ilt 256 (ilen a0.2.2.2.2)) (some 7) (bnd (z19.f k a0.2.2.2.2) fun r17=>br (bnot r17) (some 2) (some 0)))) (br (ieq a0.1 3) (br (ilt 0 (ilen a0.2.2.2.2)) (some 2) (br (ilt 256 (ilen a0.2.2.2.2)) (some 7) (bnd (z19.f k a0.2.2.2.2) fun r18=>br (bnot r18) (some 2) (some 0)))) (br (ilt 256 (ilen a0.2.2.2.2)) (some 7) (bnd (z19.f k a0.2.2.2.2) fun r19=>br (bnot r19) (some 2) (some 0))))))) (br (ieq a0.1 3) (br (ieq a0.2.2.2.1 0) (some 2) (br (ilt 2147483647 a0.2.2.2.1) (some 2) (br (ilt a0.2.2.2.1 (-2147483647)) (some 2) (br (ieq a0.1 2) (br (ilt 0 (ilen a0.2.2.2.2)) (some 2) (br (ilt 256 (ilen a0.2.2.2.2)) (some 7) (bnd (z19.f k a0.2.2.2.2) fun r20=>br (bnot r20) (some 2) (some 0)))) (br (ieq a0.1 3) (br (ilt 0 (ilen a0.2.2.2.2)) (some 2) (br (ilt 256 (ilen a0.2.2.2.2)) (some 7) (bnd (z19.f k a0.2.2.2.2) fun r21=>br (bnot r21) (some 2) (some 0)))) (br (ilt 256 (ilen a0.2.2.2.2)) (some 7) (bnd (z19.f k a0.2.2.2.2) fun r22=>br (bnot r22) (some 2) (some 0)))))))) (br (ieq a0.1 2) (br (ilt 0 (ilen a0.2.2.2.2)) (some 2) (br (ilt 256 (ilen a0.2.2.2.2)) (some 7) (bnd (z19.f k a0.2.2.2.2) fun r23=>br (bnot r23) (some 2) (some 0)))) (br (ieq a0.1 3) (br (ilt 0 (ilen a0.2.2.2.2)) (some 2) (br (ilt 256 (ilen a0.2.2.2.2)) (some 7) (bnd (z19.f k a0.2.2.2.2) fun r24=>br (bnot r24) (some 2) (some 0)))) (br (ilt 256 (ilen a0.2.2.2.2)) (some 7) (bnd (z19.f k a0.2.2.2.2) fun r25=>br (bnot r25) (some 2) (some 0)))))))) (br (bnot (ieq a0.1 3)) (br (bnot (ieq a0.2.2.2.1 0)) (some 2) (br (ieq a0.1 3) (br (ieq a0.2.2.2.1 0) (some 2) (br (ilt 2147483647 a0.2.2.2.1) (some 2) (br (ilt a0.2.2.2.1 (-2147483647)) (some 2) (br (ieq a0.1 2) (br (ilt 0 (ilen a0.2.2.2.2)) (some 2) (br (ilt 256 (ilen a0.2.2.2.2)) (some 7) (bnd (z19.f k a0.2.2.2.2) fun r26=>br (bnot r26) (some 2) (some 0)))) (br (ieq a0.1 3) (br (ilt 0 (ilen a0.2.2.2.2)) (some 2) (br (ilt 256 (ilen a0.2.2.2.2)) (some 7) (bnd (z19.f k a0.2.2.2.2) fun r27=>br (bnot r27) (some 2) (some 0)))) (br (ilt 256 (ilen a0.2.2.2.2)) (some 7) (bnd (z19.f k a0.2.2.2.2) fun r28=>br (bnot r28) (some 2) (some 0)))))))) (br (ieq a0.1 2) (br (ilt 0 (ilen a0.2.2.2.2)) (some 2) (br (ilt 256 (ilen a0.2.2.2.2)) (some 7) (bnd (z19.f k a0.2.2.2.2) fun r29=>br (bnot r29) (some 2) (some 0)))) (br (ieq a0.1 3) (br (ilt 0 (ilen a0.2.2.2.2)) (some 2) (br (ilt 256 (ilen a0.2.2.2.2)) (some 7) (bnd (z19.f k a0.2.2.2.2) fun r30=>br (bnot r30) (some 2) (some 0)))) (br (ilt 256 (ilen a0.2.2.2.2)) (some 7) (bnd (z19.f k a0.2.2.2.2) fun r31=>br (bnot r31) (some 2) (some 0))))))) (br (ieq a0.1 3) (br (ieq a0.2.2.2.1 0) (some 2) (br (ilt 2147483647 a0.2.2.2.1) (some 2) (br (ilt a0.2.2.2.1 (-2147483647)) (some 2) (br (ieq a0.1 2) (br (ilt 0 (ilen a0.2.2.2.2)) (some 2) (br (ilt 256 (ilen a0.2.2.2.2)) (some 7) (bnd (z19.f k a0.2.2.2.2) fun r32=>br (bnot r32) (some 2) (some 0)))) (br (ieq a0.1 3) (br (ilt 0 (ilen a0.2.2.2.2)) (some 2) (br (ilt 256 (ilen a0.2.2.2.2)) (some 7) (bnd (z19.f k a0.2.2.2.2) fun r33=>br (bnot r33) (some 2) (some 0)))) (br (ilt 256 (ilen a0.2.2.2.2)) (some 7) (bnd (z19.f k a0.2.2.2.2) fun r34=>br (bnot r34) (some 2) (some 0)))))))) (br (ieq a0.1 2) (br (ilt 0 (ilen a0.2.2.2.2)) (some 2) (br (ilt 256 (ilen a0.2.2.2.2)) (some 7) (bnd (z19.f k a0.2.2.2.2) fun r35=>br (bnot r35) (some 2) (some 0)))) (br (ieq a0.1 3) (br (ilt 0 (ilen a0.2.2.2.2)) (some 2) (br (ilt 256 (ilen a0.2.2.2.2)) (some 7) (bnd (z19.f k a0.2.2.2.2) fun r36=>br (bnot r36) (some 2) (some 0)))) (br (ilt 256 (ilen a0.2.2.2.2)) (some 7) (bnd (z19.f k a0.2.2.2.2) fun r37=>br (bnot r37) (some 2) (some 0))))))))) (br (ieq a0.1 5) (br (bnot (deq tValue a0.2.2.1 (0,(0,[])))) (some 2) (br (bnot (ieq a0.1 3)) (br (bnot (ieq a0.1 5)) (bnd (z0V.f k a0.2.2.1) fun r38=>br (bnot r38) (some 2) (br (bnot (ieq a0.1 3)) (br (bnot (ieq a0.2.2.2.1 0)) (some 2) (br (ieq a0.1 3) (br (ieq a0.2.2.2.1 0) (some 2) (br (ilt 2147483647 a0.2.2.2.1) (some 2) (br (ilt a0.2.2.2.1 (-2147483647)) (some 2) (br (ieq a0.1 2) (br (ilt 0 (ilen a0.2.2.2.2)) (some 2) (br (ilt 256 (ilen a0.2.2.2.2)) (some 7) (bnd (z19.f k a0.2.2.2.2) fun r39=>br (bnot r39) (some 2) (some 0)))) (br (ieq a0.1 3) (br (ilt 0 (ilen a0.2.2.2.2)) (some 2) (br (ilt 256 (ilen a0.2.2.2.2)) (some 7) (bnd (z19.f k a0.2.2.2.2) fun r40=>br (bnot r40) (some 2) (some 0)))) (br (ilt 256 (ilen a0.2.2.2.2)) (some 7) (bnd (z19.f k a0.2.2.2.2) fun r41=>br (bnot r41) (some 2) (some 0)))))))) (br (ieq a0.1 2) (br (ilt 0 (ilen a0.2.2.2.2)) (some 2) (br (ilt 256 (ilen a0.2.2.2.2)) (some 7) (bnd (z19.f k a0.2.2.2.2) fun r42=>br (bnot r42) (some 2) (some 0)))) (br (ieq a0.1 3) (br (ilt 0 (ilen a0.2.2.2.2)) (some 2) (br (ilt 256 (ilen a0.2.2.2.2)) (some 7) (bnd (z19.f k a0.2.2.2.2) fun r43=>br (bnot r43) (some 2) (some 0)))) (br (ilt 256 (ilen a0.2.2.2.2)) (some 7) (bnd (z19.f k a0.2.2.2.2) fun r44=>br (bnot r44) (some 2) (some 0))))))) (br (ieq a0.1 3) (br (ieq a0.2.2.2.1 0) (some 2) (br (ilt 2147483647 a0.2.2.2.1) (some 2) (br (ilt a0.2.2.2.1 (-2147483647)) (some 2) (br (ieq a0.1 2) (br (ilt 0 (ilen a0.2.2.2.2)) (some 2) (br (ilt 256 (ilen a0.2.2.2.2)) (some 7) (bnd (z19.f k a0.2.2.2.2) fun r45=>br (bnot r45) (some 2) (some 0)))) (br (ieq a0.1 3) (br (ilt 0 (ilen a0.2.2.2.2)) (some 2) (br (ilt 256 (ilen a0.2.2.2.2)) (some 7) (bnd (z19.f k a0.2.2.2.2) fun r46=>br (bnot r46) (some 2) (some 0)))) (br (ilt 256 (ilen a0.2.2.2.2)) (some 7) (bnd (z19.f k a0.2.2.2.2) fun r47=>br (bnot r47) (some 2) (some 0)))))))) (br (ieq a0.1 2) (br (ilt 0 (ilen a0.2.2.2.2)) (some 2) (br (ilt 256 (ilen a0.2.2.2.2)) (some 7) (bnd (z19.f k a0.2.2.2.2) fun r48=>br (bnot r48) (some 2) (some 0)))) (br (ieq a0.1 3) (br (ilt 0 (ilen a0.2.2.2.2)) (some 2) (br (ilt 256 (ilen a0.2.2.2.2)) (some 7) (bnd (z19.f k a0.2.2.2.2) fun r49=>br (bnot r49) (some 2) (some 0)))) (br (ilt 256 (ilen a0.2.2.2.2)) (some 7) (bnd (z19.f k a0.2.2.2.2) fun r50=>br (bnot r50) (some 2) (some 0)))))))) (br (bnot (ieq a0.1 3)) (br (bnot (ieq a0.2.2.2.1 0)) (some 2) (br (ieq a0.1 3) (br (ieq a0.2.2.2.1 0) (some 2) (br (ilt 2147483647 a0.2.2.2.1) (some 2) (br (ilt a0.2.2.2.1 (-2147483647)) (some 2) (br (ieq a0.1 2) (br (ilt 0 (ilen a0.2.2.2.2)) (some 2) (br (ilt 256 (ilen a0.2.2.2.2)) (some 7) (bnd (z19.f k a0.2.2.2.2) fun r51=>br (bnot r51) (some 2) (some 0)))) (br (ieq a0.1 3) (br (ilt 0 (ilen a0.2.2.2.2)) (some 2) (br (ilt 256 (ilen a0.2.2.2.2)) (some 7) (bnd (z19.f k a0.2.2.2.2) fun r52=>br (bnot r52) (some 2) (some 0)))) (br (ilt 256 (ilen a0.2.2.2.2)) (some 7) (bnd (z19.f k a0.2.2.2.2) fun r53=>br (bnot r53) (some 2) (some 0)))))))) (br (ieq a0.1 2) (br (ilt 0 (ilen a0.2.2.2.2)) (some 2) (br (ilt 256 (ilen a0.2.2.2.2)) (some 7) (bnd (z19.f k a0.2.2.2.2) fun r54=>br (bnot r54) (some 2) (some 0)))) (br (ieq a0.1 3) (br (ilt 0 (ilen a0.2.2.2.2)) (some 2) (br (ilt 256 (ilen a0.2.2.2.2)) (some 7) (bnd (z19.f k a0.2.2.2.2) fun r55=>br (bnot r55) (some 2) (some 0)))) (br (ilt 256 (ilen a0.2.2.2.2)) (some 7) (bnd (z19.f k a0.2.2.2.2) fun r56=>br (bnot r56) (some 2) (some 0))))))) (br (ieq a0.1 3) (br (ieq a0.2.2.2.1 0) (some 2) (br (ilt 2147483647 a0.2.2.2.1) (some 2) (br (ilt a0.2.2.2.1 (-2147483647)) (some 2) (br (ieq a0.1 2) (br (ilt 0 (ilen a0.2.2.2.2)) (some 2) (br (ilt 256 (ilen a0.2.2.2.2)) (some 7) (bnd (z19.f k a0.2.2.2.2) fun r57=>br (bnot r57) (some 2) (some 0)))) (br (ieq a0.1 3) (br (ilt 0 (ilen a0.2.2.2.2)) (some 2) (br (ilt 256 (ilen a0.2.2.2.2)) (some 7) (bnd (z19.f k a0.2.2.2.2) fun r58=>br (bnot r58) (some 2) (some 0)))) (br (ilt 256 (ilen a0.2.2.2.2)) (some 7) (bnd (z19.f k a0.2.2.2.2) fun r59=>br (bnot r59) (some 2) (some 0)))))))) (br (ieq a0.1 2) (br (ilt 0 (ilen a0.2.2.2.2)) (some 2) (br (ilt 256 (ilen a0.2.2.2.2)) (some 7) (bnd (z19.f k a0.2.2.2.2) fun r60=>br (bnot r60) (some 2) (some 0)))) (br (ieq a0.1 3) (br (ilt 0 (ilen a0.2.2.2.2)) (some 2) (br (ilt 256 (ilen a0.2.2.2.2)) (some 7) (bnd (z19.f k a0.2.2.2.2) fun r61=>br (bnot r61) (some 2) (some 0)))) (br (ilt 256 (ilen a0.2.2.2.2)) (some 7) (bnd (z19.f k a0.2.2.2.2) fun r62=>br (bnot r62) (some 2) (some 0)))))))) (br (bnot (ieq a0.1 3)) (br (bnot (ieq a0.2.2.2.1 0)) (some 2) (br (ieq a0.1 3) (br (ieq a0.2.2.2.1 0) (some 2) (br (ilt 2147483647 a0.2.2.2.1) (some 2) (br (ilt a0.2.2.2.1 (-2147483647)) (some 2) (br (ieq a0.1 2) (br (ilt 0 (ilen a0.2.2.2.2)) (some 2) (br (ilt 256 (ilen a0.2.2.2.2)) (some 7) (bnd (z19.f k a0.2.2.2.2) fun r63=>br (bnot r63) (some 2) (some 0)))) (br (ieq a0.1 3) (br (ilt 0 (ilen a0.2.2.2.2)) (some 2) (br (ilt 256 (ilen a0.2.2.2.2)) (some 7) (bnd (z19.f k a0.2.2.2.2) fun r64=>br (bnot r64) (some 2) (some 0)))) (br (ilt 256 (ilen a0.2.2.2.2)) (some 7) (bnd (z19.f k a0.2.2.2.2) fun r65=>br (bnot r65) (some 2) (some 0)))))))) (br (ieq a0.1 2) (br (ilt 0 (ilen a0.2.2.2.2)) (some 2) (br (ilt 256 (ilen a0.2.2.2.2)) (some 7) (bnd (z19.f k a0.2.2.2.2) fun r66=>br (bnot r66) (some 2) (some 0)))) (br (ieq a0.1 3) (br (ilt 0 (ilen a0.2.2.2.2)) (some 2) (br (ilt 256 (ilen a0.2.2.2.2)) (some 7) (bnd (z19.f k a0.2.2.2.2) fun r67=>br (bnot r67) (some 2) (some 0)))) (br (ilt 256 (ilen a0.2.2.2.2)) (some 7) (bnd (z19.f k a0.2.2.2.2) fun r68=>br (bnot r68) (some 2) (some 0))))))) (br (ieq a0.1 3) (br (ieq a0.2.2.2.1 0) (some 2) (br (ilt 2147483647 a0.2.2.2.1) (some 2) (br (ilt a0.2.2.2.1 (-2147483647)) (some 2) (br (ieq a0.1 2) (br (ilt 0 (ilen a0.2.2.2.2)) (some 2) (br (ilt 256 (ilen a0.2.2.2.2)) (some 7) (bnd (z19.f k a0.2.2.2.2) fun r69=>br (bnot r69) (some 2) (some 0)))) (br (ieq a0.1 3) (br (ilt 0 (ilen a0.2.2.2.2)) (some 2) (br (ilt 256 (ilen a0.2.2.2.2)) (some 7) (bnd (z19.f k a0.2.2.2.2) fun r70=>br (bnot r70) (some 2) (some 0)))) (br (ilt 256 (ilen a0.2.2.2.2)) (some 7) (bnd (z19.f k a0.2.2.2.2) fun r71=>br (bnot r71) (some 2) (some 0)))))))) (br (ieq a0.1 2) (br (ilt 0 (ilen a0.2.2.2.2)) (some 2) (br (ilt 256 (ilen a0.2.2.2.2)) (some 7) (bnd (z19.f k a0.2.2.2.2) fun r72=>br (bnot r72) (some 2) (some 0)))) (br (ieq a0.1 3) (br (ilt 0 (ilen a0.2.2.2.2)) (some 2) (br (ilt 256 (ilen a0.2.2.2.2)) (some 7) (bnd (z19.f k a0.2.2.2.2) fun r73=>br (bnot r73) (some 2) (some 0)))) (br (ilt 256 (ilen a0.2.2.2.2)) (some 7) (bnd (z19.f k a0.2.2.2.2) fun r74=>br (bnot r74) (some 2) (some 0))))))))) (br (bnot (ieq a0.1 3)) (br (bnot (ieq a0.1 5)) (bnd (z0V.f k a0.2.2.1) fun r75=>br (bnot r75) (some 2) (br (bnot (ieq a0.1 3)) (br (bnot (ieq a0.2.2.2.1 0)) (some 2) (br (ieq a0.1 3) (br (ieq a0.2.2.2.1 0) (some 2) (br (ilt 2147483647 a0.2.2.2.1) (some 2) (br (ilt a0.2.2.2.1 (-2147483647)) (some 2) (br (ieq a0.1 2) (br (ilt 0 (ilen a0.2.2.2.2)) (some 2) (br (ilt 256 (ilen a0.2.2.2.2)) (some 7) (bnd (z19.f k a0.2.2.2.2) fun r76=>br (bnot r76) (some 2) (some 0)))) (br (ieq a0.1 3) (br (ilt 0 (ilen a0.2.2.2.2)) (some 2) (br (ilt 256 (ilen a0.2.2.2.2)) (some 7) (bnd (z19.f k a0.2.2.2.2) fun r77=>br (bnot r77) (some 2) (some 0)))) (br (ilt 256 (ilen a0.2.2.2.2)) (some 7) (bnd (z19.f k a0.2.2.2.2) fun r78=>br (bnot r78) (some 2) (some 0)))))))) (br (ieq a0.1 2) (br (ilt 0 (ilen a0.2.2.2.2)) (some 2) (br (ilt 256 (ilen a0.2.2.2.2)) (some 7) (bnd (z19.f k a0.2.2.2.2) fun r79=>br (bnot r79) (some 2) (some 0)))) (br (ieq a0.1 3) (br (ilt 0 (ilen a0.2.2.2.2)) (some 2) (br (ilt 256 (ilen a0.2.2.2.2)) (some 7) (bnd (z19.f k a0.2.2.2.2) fun r80=>br (bnot r80) (some 2) (some 0)))) (br (ilt 256 (ilen a0.2.2.2.2)) (some 7) (bnd (z19.f k a0.2.2.2.2) fun r81=>br (bnot r81) (some 2) (some 0))))))) (br (ieq a0.1 3) (br (ieq a0.2.2.2.1 0) (some 2) (br (ilt 2147483647 a0.2.2.2.1) (some 2) (br (ilt a0.2.2.2.1 (-2147483647)) (some 2) (br (ieq a0.1 2) (br (ilt 0 (ilen a0.2.2.2.2)) (some 2) (br (ilt 256 (ilen a0.2.2.2.2)) (some 7) (bnd (z19.f k a0.2.2.2.2) fun r82=>br (bnot r82) (some 2) (some 0)))) (br (ieq a0.1 3) (br (ilt 0 (ilen a0.2.2.2.2)) (some 2) (br (ilt 256 (ilen a0.2.2.2.2)) (some 7) (bnd (z19.f k a0.2.2.2.2) fun r83=>br (bnot r83) (some 2) (some 0)))) (br (ilt 256 (ilen a0.2.2.2.2)) (some 7) (bnd (z19.f k a0.2.2.2.2) fun r84=>br (bnot r84) (some 2) (some 0)))))))) (br (ieq a0.1 2) (br (ilt 0 (ilen a0.2.2.2.2)) (some 2) (br (ilt 256 (ilen a0.2.2.2.2)) (some 7) (bnd (z19.f k a0.2.2.2.2) fun r85=>br (bnot r85) (some 2) (some 0)))) (br (ieq a0.1 3) (br (ilt 0 (ilen a0.2.2.2.2)) (some 2) (br (ilt 256 (ilen a0.2.2.2.2)) (some 7) (bnd (z19.f k a0.2.2.2.2) fun r86=>br (bnot r86) (some 2) (some 0)))) (br (ilt 256 (ilen a0.2.2.2.2)) (some 7) (bnd (z19.f k a0.2.2.2.2) fun r87=>br (bnot r87) (some 2) (some 0)))))))) (br (bnot (ieq a0.1 3)) (br (bnot (ieq a0.2.2.2.1 0)) (some 2) (br (ieq a0.1 3) (br (ieq a0.2.2.2.1 0) (some 2) (br (ilt 2147483647 a0.2.2.2.1) (some 2) (br (ilt a0.2.2.2.1 (-2147483647)) (some 2) (br (ieq a0.1 2) (br (ilt 0 (ilen a0.2.2.2.2)) (some 2) (br (ilt 256 (ilen a0.2.2.2.2)) (some 7) (bnd (z19.f k a0.2.2.2.2) fun r88=>br (bnot r88) (some 2) (some 0)))) (br (ieq a0.1 3) (br (ilt 0 (ilen a0.2.2.2.2)) (some 2) (br (ilt 256 (ilen a0.2.2.2.2)) (some 7) (bnd (z19.f k a0.2.2.2.2) fun r89=>br (bnot r89) (some 2) (some 0)))) (br (ilt 256 (ilen a0.2.2.2.2)) (some 7) (bnd (z19.f k a0.2.2.2.2) fun r90=>br (bnot r90) (some 2) (some 0)))))))) (br (ieq a0.1 2) (br (ilt 0 (ilen a0.2.2.2.2)) (some 2) (br (ilt 256 (ilen a0.2.2.2.2)) (some 7) (bnd (z19.f k a0.2.2.2.2) fun r91=>br (bnot r91) (some 2) (some 0)))) (br (ieq a0.1 3) (br (ilt 0 (ilen a0.2.2.2.2)) (some 2) (br (ilt 256 (ilen a0.2.2.2.2)) (some 7) (bnd (z19.f k a0.2.2.2.2) fun r92=>br (bnot r92) (some 2) (some 0)))) (br (ilt 256 (ilen a0.2.2.2.2)) (some 7) (bnd (z19.f k a0.2.2.2.2) fun r93=>br (bnot r93) (some 2) (some 0))))))) (br (ieq a0.1 3) (br (ieq a0.2.2.2.1 0) (some 2) (br (ilt 2147483647 a0.2.2.2.1) (some 2) (br (ilt a0.2.2.2.1 (-2147483647)) (some 2) (br (ieq a0.1 2) (br (ilt 0 (ilen a0.2.2.2.2)) (some 2) (br (ilt 256 (ilen a0.2.2.2.2)) (some 7) (bnd (z19.f k a0.2.2.2.2) fun r94=>br (bnot r94) (some 2) (some 0)))) (br (ieq a0.1 3) (br (ilt 0 (ilen a0.2.2.2.2)) (some 2) (br (ilt 256 (ilen a0.2.2.2.2)) (some 7) (bnd (z19.f k a0.2.2.2.2) fun r95=>br (bnot r95) (some 2) (some 0)))) (br (ilt 256 (ilen a0.2.2.2.2)) (some 7) (bnd (z19.f k a0.2.2.2.2) fun r96=>br (bnot r96) (some 2) (some 0)))))))) (br (ieq a0.1 2) (br (ilt 0 (ilen a0.2.2.2.2)) (some 2) (br (ilt 256 (ilen a0.2.2.2.2)) (some 7) (bnd (z19.f k a0.2.2.2.2) fun r97=>br (bnot r97) (some 2) (some 0)))) (br (ieq a0.1 3) (br (ilt 0 (ilen a0.2.2.2.2)) (some 2) (br (ilt 256 (ilen a0.2.2.2.2)) (some 7) (bnd (z19.f k a0.2.2.2.2) fun r98=>br (bnot r98) (some 2) (some 0)))) (br (ilt 256 (ilen a0.2.2.2.2)) (some 7) (bnd (z19.f k a0.2.2.2.2) fun r99=>br (bnot r99) (some 2) (some 0)))))))) (br (bnot (ieq a0.1 3)) (br (bnot (ieq a0.2.2.2.1 0)) (some 2) (br (ieq a0.1 3) (br (ieq a0.2.2.2.1 0) (some 2) (br (ilt 2147483647 a0.2.2.2.1) (some 2) (br (ilt a0.2.2.2.1 (-2147483647)) (some 2) (br (ieq a0.1 2) (br (ilt 0 (ilen a0.2.2.2.2)) (some 2) (br (ilt 256 (ilen a0.2.2.2.2)) (some 7) (bnd (z19.f k a0.2.2.2.2) fun r100=>br (bnot r100) (some 2) (some 0)))) (br (ieq a0.1 3) (br (ilt 0 (ilen a0.2.2.2.2)) (some 2) (br (ilt 256 (ilen a0.2.2.2.2)) (some 7) (bnd (z19.f k a0.2.2.2.2) fun r101=>br (bnot r101) (some 2) (some 0)))) (br (ilt 256 (ilen a0.2.2.2.2)) (some 7) (bnd (z19.f k a0.2.2.2.2) fun r102=>br (bnot r102) (some 2) (some 0)))))))) (br (ieq a0.1 2) (br (ilt 0 (ilen a0.2.2.2.2)) (some 2) (br (ilt 256 (ilen a0.2.2.2.2)) (some 7) (bnd (z19.f k a0.2.2.2.2) fun r103=>br (bnot r103) (some 2) (some 0)))) (br (ieq a0.1 3) (br (ilt 0 (ilen a0.2.2.2.2)) (some 2) (br (ilt 256 (ilen a0.2.2.2.2)) (some 7) (bnd (z19.f k a0.2.2.2.2) fun r104=>br (bnot r104) (some 2) (some 0)))) (br (ilt 256 (ilen a0.2.2.2.2)) (some 7) (bnd (z19.f k a0.2.2.2.2) fun r105=>br (bnot r105) (some 2) (some 0))))))) (br (ieq a0.1 3) (br (ieq a0.2.2.2.1 0) (some 2) (br (ilt 2147483647 a0.2.2.2.1) (some 2) (br (ilt a0.2.2.2.1 (-2147483647)) (some 2) (br (ieq a0.1 2) (br (ilt 0 (ilen a0.2.2.2.2)) (some 2) (br (ilt 256 (ilen a0.2.2.2.2)) (some 7) (bnd (z19.f k a0.2.2.2.2) fun r106=>br (bnot r106) (some 2) (some 0)))) (br (ieq a0.1 3) (br (ilt 0 (ilen a0.2.2.2.2)) (some 2) (br (ilt 256 (ilen a0.2.2.2.2)) (some 7) (bnd (z19.f k a0.2.2.2.2) fun r107=>br (bnot r107) (some 2) (some 0)))) (br (ilt 256 (ilen a0.2.2.2.2)) (some 7) (bnd (z19.f k a0.2.2.2.2) fun r108=>br (bnot r108) (some 2) (some 0)))))))) (br (ieq a0.1 2) (br (ilt 0 (ilen a0.2.2.2.2)) (some 2) (br (ilt 256 (ilen a0.2.2.2.2)) (some 7) (bnd (z19.f k a0.2.2.2.2) fun r109=>br (bnot r109) (some 2) (some 0)))) (br (ieq a0.1 3) (br (ilt 0 (ilen a0.2.2.2.2)) (some 2) (br (ilt 256 (ilen a0.2.2.2.2)) (some 7) (bnd (z19.f k a0.2.2.2.2) fun r110=>br (bnot r110) (some 2) (some 0)))) (br (ilt 256 (ilen a0.2.2.2.2)) (some 7) (bnd (z19.f k a0.2.2.2.2) fun r111=>br (bnot r111) (some 2) (some 0)))))))))))):=by kernel_rfl
def z0X.e (k:Nat):Entry:=Sg.entry z0X.sg fun x=>z0X.f k x
theorem z0X.ok (k:Nat):CallOK Tryz.prog 115 (z0X.e k):=fn_ok (c:=z0X.cx k) (code:=z0X.body) (TT.of tt_ok pp_ok mm_ok) (fns_ok ⟨(z0B.ok k),(z0V.ok k),(z19.ok k),trivial⟩) mixed Tryz.func115 (by kernel_rfl) (by kernel_rfl) (by kernel_rfl) (by kernel_rfl) (by kernel_rfl) (by kernel_rfl) (fun x=>by kernel_rfl)
@[reducible] def ref11_Read.sg:Sg:=⟨[.ref],[tref02Reader],.dat tOp,[tref02Reader]⟩
def z1t.body:Go.Code:=Tryz.f116.body.getD .skip
def z1t.rs:List Go.ResultVar:=Tryz.f116.results.toList
def z1t.regs:List (Nat × RInfo):=[(0,⟨[1],[1],[0],[],0,[],[],[],[],[]⟩),(1,ri [1,3] [1,3]),(2,ri [2] [])]
def z1t.cx (k:Nat):Cx:=⟨tt,pp,[],z1t.regs,k,mm⟩
@[reducible] def z1t.sg:Sg:=⟨[.dat tOp],[],.dat .bool,[]⟩
def z1t.f (k:Nat) (a0:Ty.D tOp):Option (Sg.Out z1t.sg):=Sg.fn z1t.sg (z1t.cx k) z1t.body z1t.rs a0
theorem z1t.f_eq (k:Nat) (a0:Ty.D tOp):z1t.f k a0=br (ieq a0.1 0) (br (ieq (ilen a0.2.1) 0) (br (deq tValue a0.2.2.1 (0,(0,[]))) (br (ieq a0.2.2.2.1 0) (some (ieq (ilen a0.2.2.2.2) 0)) (some false)) (some false)) (some false)) (some false):=by kernel_rfl
def z1t.e (k:Nat):Entry:=Sg.entry z1t.sg fun x=>z1t.f k x
theorem z1t.ok (k:Nat):CallOK Tryz.prog 116 (z1t.e k):=fn_ok (c:=z1t.cx k) (code:=z1t.body) (TT.of tt_ok pp_ok mm_ok) (fns_ok trivial) mixed Tryz.func116 (by kernel_rfl) (by kernel_rfl) (by kernel_rfl) (by kernel_rfl) (by kernel_rfl) (by kernel_rfl) (fun x=>by kernel_rfl)
def z0z.body:Go.Code:=Tryz.f48.body.getD .skip
def z0z.rs:List Go.ResultVar:=Tryz.f48.results.toList
def z0z.regs:List (Nat × RInfo):=[(0,⟨[1],[1],[0],[],0,[],[],[],[],[]⟩),(1,ri [1,28] [1]),(2,ri [2] [49]),(3,ri [1,32] [1]),(4,ri [2] [49]),(5,ri [1,36] [1]),(6,ri [2] [49]),(7,ri [1,3] [1]),(8,⟨[1,3,41],[1],[],[],0,[1,3],[1],[],[],[]⟩),(10,ri [1,3,4] [1,49]),(11,ri [1,3,4,64] [1,49]),(12,ri [2] [49]),(9,ri [1,3] [1]),(13,ri [2] [49])]
def z0z.cx (k:Nat):Cx:=⟨tt,pp,[(77,(z0W.e k)),(115,(z0X.e k)),(116,(z1t.e k))],z0z.regs,k,mm⟩
@[reducible] def z0z.sg:Sg:=⟨[.dat tTxn],[],.dat (.int .i64),[]⟩
def z0z.f (k:Nat) (a0:Ty.D tTxn):Option (Sg.Out z0z.sg):=Sg.fn z0z.sg (z0z.cx k) z0z.body z0z.rs a0
def z0z.l8 (k:Nat) (n:Nat) (x3:Ty.D (.int .i64)) (m1:Ty.D tTxn):Option (Sg.Out z0z.sg):=loopAt (z0z.cx k) z0z.body [1,1,1,1,0,1,0] 8 [1,3] [1] [] (Sg.K z0z.sg (z0z.cx k) z0z.rs) n ⟨[(1,.ref 1 []),(3,.dat (.int .i64) x3)],[(1,.dat tTxn m1)]⟩
theorem z0z.f_eq (k:Nat) (a0:Ty.D tTxn):z0z.f k a0=bnd (z0W.f k a0.1) fun r0=>br (bnot r0) (some 2) (br (ilt a0.2.1 0) (some 2) (br (ilt 7 a0.2.1) (some 2) (br (ilt a0.2.2.1 1) (some 2) (br (ilt 1099511627776 a0.2.2.1) (some 2) (br (ieq (ilen a0.2.2.2.2) 0) (some 11) (br (ilt 16 (ilen a0.2.2.2.2)) (some 7) (z0z.l8 k k 0 a0))))))):=by kernel_rfl
theorem z0z.l8_eq (k:Nat) (n8:Nat) (x3:Ty.D (.int .i64)) (m1:Ty.D tTxn):z0z.l8 k (n8+1) x3 m1=br (ilt x3 (ilen m1.2.2.2.2)) (br (inL x3 m1.2.2.2.2) (bnd (z0X.f k (rd tOp m1.2.2.2.2 (natOf x3))) fun r0=>br (bnot (ieq r0 0)) (br m1.2.2.2.1 (br (inL x3 m1.2.2.2.2) (bnd (z1t.f k (rd tOp m1.2.2.2.2 (natOf x3))) fun r1=>br (bnot r1) (some r0) (z0z.l8 k n8 (iadd .i64 x3 1) m1)) none) (br (bnot false) (some r0) (z0z.l8 k n8 (iadd .i64 x3 1) m1))) (z0z.l8 k n8 (iadd .i64 x3 1) m1)) none) (some 0):=by kernel_rfl
def z0z.e (k:Nat):Entry:=Sg.entry z0z.sg fun x=>z0z.f k x
theorem z0z.ok (k:Nat):CallOK Tryz.prog 48 (z0z.e k):=fn_ok (c:=z0z.cx k) (code:=z0z.body) (TT.of tt_ok pp_ok mm_ok) (fns_ok ⟨(z0W.ok k),(z0X.ok k),(z1t.ok k),trivial⟩) mixed Tryz.func48 (by kernel_rfl) (by kernel_rfl) (by kernel_rfl) (by kernel_rfl) (by kernel_rfl) (by kernel_rfl) (fun x=>by kernel_rfl)
@[reducible] def ref12_Read.sg:Sg:=⟨[.ref],[tref02Reader],.dat tTxn,[tref02Reader]⟩
def z0T.body:Go.Code:=Tryz.f75.body.getD .skip
def z0T.rs:List Go.ResultVar:=Tryz.f75.results.toList
def z0T.regs:List (Nat × RInfo):=[(0,ri [0] []),(1,ri [0,3] []),(2,⟨[0,3,7],[],[],[],0,[0,3],[],[],[],[]⟩),(4,rq [0,3,22] [] 13),(5,ri [2] []),(3,ri [0,3] []),(6,ri [2] [])]
def z0T.cx (k:Nat):Cx:=⟨tt,pp,[(118,(z0p.e k))],z0T.regs,k,mm⟩
@[reducible] def z0T.sg:Sg:=⟨[.dat (.slc tTxn)],[],.dat .bool,[]⟩
def z0T.f (k:Nat) (a0:Ty.D (.slc tTxn)):Option (Sg.Out z0T.sg):=Sg.fn z0T.sg (z0T.cx k) z0T.body z0T.rs a0
def z0T.l2 (k:Nat) (n:Nat) (x0:Ty.D (.slc tTxn)) (x3:Ty.D (.int .i64)):Option (Sg.Out z0T.sg):=loopAt (z0T.cx k) z0T.body [1,0,1,0] 2 [0,3] [] [] (Sg.K z0T.sg (z0T.cx k) z0T.rs) n ⟨[(0,.dat (.slc tTxn) x0),(3,.dat (.int .i64) x3)],[]⟩
theorem z0T.f_eq (k:Nat) (a0:Ty.D (.slc tTxn)):z0T.f k a0=z0T.l2 k k a0 1:=by kernel_rfl
theorem z0T.l2_eq (k:Nat) (n2:Nat) (x0:Ty.D (.slc tTxn)) (x3:Ty.D (.int .i64)):z0T.l2 k (n2+1) x0 x3=br (ilt x3 (ilen x0)) (br (inL (isub .i64 x3 1) x0) (br (inL x3 x0) (bnd (z0p.f k ((rd tTxn x0 (natOf (isub .i64 x3 1))).1) ((rd tTxn x0 (natOf x3)).1)) fun r0=>br (bnot (ieq r0 (-1))) (some false) (z0T.l2 k n2 x0 (iadd .i64 x3 1))) none) none) (some true):=by kernel_rfl
def z0T.e (k:Nat):Entry:=Sg.entry z0T.sg fun x=>z0T.f k x
theorem z0T.ok (k:Nat):CallOK Tryz.prog 75 (z0T.e k):=fn_ok (c:=z0T.cx k) (code:=z0T.body) (TT.of tt_ok pp_ok mm_ok) (fns_ok ⟨(z0p.ok k),trivial⟩) mixed Tryz.func75 (by kernel_rfl) (by kernel_rfl) (by kernel_rfl) (by kernel_rfl) (by kernel_rfl) (by kernel_rfl) (fun x=>by kernel_rfl)
@[reducible] def ref12_ReadList.sg:Sg:=⟨[.ref,.dat (.int .i64)],[tref02Reader],.own tTxn,[tref02Reader]⟩
def z23.body:Go.Code:=Tryz.f117.body.getD .skip
def z23.rs:List Go.ResultVar:=Tryz.f117.results.toList
def z23.regs:List (Nat × RInfo):=[(0,ri [1] [1]),(1,ri [2] [5])]
def z23.cx (k:Nat):Cx:=⟨tt,pp,[(77,(z0W.e k))],z23.regs,k,mm⟩
@[reducible] def z23.sg:Sg:=⟨[.dat tUndo],[],.dat .bool,[]⟩
def z23.f (k:Nat) (a0:Ty.D tUndo):Option (Sg.Out z23.sg):=Sg.fn z23.sg (z23.cx k) z23.body z23.rs a0
theorem z23.f_eq (k:Nat) (a0:Ty.D tUndo):z23.f k a0=bnd (z0W.f k a0.1) fun r0=>br r0 (br (ile 1 a0.2) (some (ile a0.2 64)) (some false)) (some false):=by kernel_rfl
def z23.e (k:Nat):Entry:=Sg.entry z23.sg fun x=>z23.f k x
theorem z23.ok (k:Nat):CallOK Tryz.prog 117 (z23.e k):=fn_ok (c:=z23.cx k) (code:=z23.body) (TT.of tt_ok pp_ok mm_ok) (fns_ok ⟨(z0W.ok k),trivial⟩) mixed Tryz.func117 (by kernel_rfl) (by kernel_rfl) (by kernel_rfl) (by kernel_rfl) (by kernel_rfl) (by kernel_rfl) (fun x=>by kernel_rfl)
def z0Y.body:Go.Code:=Tryz.f49.body.getD .skip
def z0Y.rs:List Go.ResultVar:=Tryz.f49.results.toList
def z0Y.regs:List (Nat × RInfo):=[(0,ri [0] []),(1,ri [0,3] []),(2,⟨[0,3,7],[],[],[],0,[0,3],[],[],[],[]⟩),(4,rq [0,3,34] [] 25),(5,ri [2] []),(3,ri [0,3] []),(6,ri [2] [])]
def z0Y.cx (k:Nat):Cx:=⟨tt,pp,[(117,(z23.e k)),(118,(z0p.e k))],z0Y.regs,k,mm⟩
@[reducible] def z0Y.sg:Sg:=⟨[.dat (.slc tUndo)],[],.dat .bool,[]⟩
def z0Y.f (k:Nat) (a0:Ty.D (.slc tUndo)):Option (Sg.Out z0Y.sg):=Sg.fn z0Y.sg (z0Y.cx k) z0Y.body z0Y.rs a0
def z0Y.l2 (k:Nat) (n:Nat) (x0:Ty.D (.slc tUndo)) (x3:Ty.D (.int .i64)):Option (Sg.Out z0Y.sg):=loopAt (z0Y.cx k) z0Y.body [1,0,1,0] 2 [0,3] [] [] (Sg.K z0Y.sg (z0Y.cx k) z0Y.rs) n ⟨[(0,.dat (.slc tUndo) x0),(3,.dat (.int .i64) x3)],[]⟩
theorem z0Y.f_eq (k:Nat) (a0:Ty.D (.slc tUndo)):z0Y.f k a0=z0Y.l2 k k a0 0:=by kernel_rfl
theorem z0Y.l2_eq (k:Nat) (n2:Nat) (x0:Ty.D (.slc tUndo)) (x3:Ty.D (.int .i64)):z0Y.l2 k (n2+1) x0 x3=br (ilt x3 (ilen x0)) (br (inL x3 x0) (bnd (z23.f k (rd tUndo x0 (natOf x3))) fun r0=>br (bnot r0) (some false) (br (ilt 0 x3) (br (inL (isub .i64 x3 1) x0) (br (inL x3 x0) (bnd (z0p.f k ((rd tUndo x0 (natOf (isub .i64 x3 1))).1) ((rd tUndo x0 (natOf x3)).1)) fun r1=>br (bnot (ieq r1 (-1))) (some false) (z0Y.l2 k n2 x0 (iadd .i64 x3 1))) none) none) (z0Y.l2 k n2 x0 (iadd .i64 x3 1)))) none) (some true):=by kernel_rfl
def z0Y.e (k:Nat):Entry:=Sg.entry z0Y.sg fun x=>z0Y.f k x
theorem z0Y.ok (k:Nat):CallOK Tryz.prog 49 (z0Y.e k):=fn_ok (c:=z0Y.cx k) (code:=z0Y.body) (TT.of tt_ok pp_ok mm_ok) (fns_ok ⟨(z23.ok k),(z0p.ok k),trivial⟩) mixed Tryz.func49 (by kernel_rfl) (by kernel_rfl) (by kernel_rfl) (by kernel_rfl) (by kernel_rfl) (by kernel_rfl) (fun x=>by kernel_rfl)
@[reducible] def ref08_Read.sg:Sg:=⟨[.ref,.dat (.int .i64)],[tref02Reader],.own tUndo,[tref02Reader]⟩
@[reducible] def ref06_ReadList.sg:Sg:=⟨[.ref,.dat (.int .i64)],[tref02Reader],.own tDot,[tref02Reader]⟩
@[reducible] def ref23_ReadDelta.sg:Sg:=⟨[.ref],[tref02Reader],.dat tDelta,[tref02Reader]⟩
def z0U.body:Go.Code:=Tryz.f153.body.getD .skip
def z0U.rs:List Go.ResultVar:=Tryz.f153.results.toList
def z0U.regs:List (Nat × RInfo):=[(0,ri [1] [1]),(1,ri [1,3] [1]),(2,⟨[1,3,5],[1],[],[],0,[1,3],[1],[],[],[]⟩),(4,ri [1,3,17] [1]),(5,ri [2] []),(3,ri [1,3] [1]),(6,ri [2] [])]
def z0U.cx (k:Nat):Cx:=⟨tt,pp,[],z0U.regs,k,mm⟩
@[reducible] def z0U.sg:Sg:=⟨[.dat tVec],[],.dat .bool,[]⟩
def z0U.f (k:Nat) (a0:Ty.D tVec):Option (Sg.Out z0U.sg):=Sg.fn z0U.sg (z0U.cx k) z0U.body z0U.rs a0
def z0U.l2 (k:Nat) (n:Nat) (x3:Ty.D (.int .i64)) (m1:Ty.D tVec):Option (Sg.Out z0U.sg):=loopAt (z0U.cx k) z0U.body [1,0,1,0] 2 [1,3] [1] [] (Sg.K z0U.sg (z0U.cx k) z0U.rs) n ⟨[(1,.ref 1 []),(3,.dat (.int .i64) x3)],[(1,.dat tVec m1)]⟩
theorem z0U.f_eq (k:Nat) (a0:Ty.D tVec):z0U.f k a0=z0U.l2 k k 0 a0:=by kernel_rfl
theorem z0U.l2_eq (k:Nat) (n2:Nat) (x3:Ty.D (.int .i64)) (m1:Ty.D tVec):z0U.l2 k (n2+1) x3 m1=br (ilt x3 16) (br (inB x3 16) (br (ilt (rd (.int .i64) m1 (natOf x3)) 0) (some false) (br (inB x3 16) (br (ilt 1048576 (rd (.int .i64) m1 (natOf x3))) (some false) (z0U.l2 k n2 (iadd .i64 x3 1) m1)) none)) none) (some true):=by kernel_rfl
def z0U.e (k:Nat):Entry:=Sg.entry z0U.sg fun x=>z0U.f k x
theorem z0U.ok (k:Nat):CallOK Tryz.prog 153 (z0U.e k):=fn_ok (c:=z0U.cx k) (code:=z0U.body) (TT.of tt_ok pp_ok mm_ok) (fns_ok trivial) mixed Tryz.func153 (by kernel_rfl) (by kernel_rfl) (by kernel_rfl) (by kernel_rfl) (by kernel_rfl) (by kernel_rfl) (fun x=>by kernel_rfl)
@[reducible] def ref05_Read.sg:Sg:=⟨[.ref],[tref02Reader],.dat tVec,[tref02Reader]⟩
def z0A.body:Go.Code:=Tryz.f76.body.getD .skip
def z0A.rs:List Go.ResultVar:=Tryz.f76.results.toList
def z0A.regs:List (Nat × RInfo):=[(0,⟨[1],[1],[0],[],0,[],[],[],[],[]⟩),(1,ri [1,14] [1]),(2,ri [2] []),(3,ri [1,3] [1]),(4,⟨[1,3,19],[1],[],[],0,[1,3],[1],[],[],[]⟩),(6,ri [1,3,4] [1,4]),(7,rq [1,3,4,40] [1,4] 14),(8,ri [2] []),(9,rq [1,3,53] [1] 13),(10,ri [2] []),(5,ri [1,3] [1]),(11,ri [2] [])]
def z0A.cx (k:Nat):Cx:=⟨tt,pp,[(153,(z0U.e k)),(77,(z0W.e k)),(118,(z0p.e k))],z0A.regs,k,mm⟩
@[reducible] def z0A.sg:Sg:=⟨[.dat tDots],[],.dat .bool,[]⟩
def z0A.f (k:Nat) (a0:Ty.D tDots):Option (Sg.Out z0A.sg):=Sg.fn z0A.sg (z0A.cx k) z0A.body z0A.rs a0
def z0A.l4 (k:Nat) (n:Nat) (x3:Ty.D (.int .i64)) (m1:Ty.D tDots):Option (Sg.Out z0A.sg):=loopAt (z0A.cx k) z0A.body [1,1,0,1,0] 4 [1,3] [1] [] (Sg.K z0A.sg (z0A.cx k) z0A.rs) n ⟨[(1,.ref 1 []),(3,.dat (.int .i64) x3)],[(1,.dat tDots m1)]⟩
theorem z0A.f_eq (k:Nat) (a0:Ty.D tDots):z0A.f k a0=bnd (z0U.f k a0.1) fun r0=>br (bnot r0) (some false) (br (ilt 4096 (ilen a0.2)) (some false) (z0A.l4 k k 0 a0)):=by kernel_rfl
theorem z0A.l4_eq (k:Nat) (n4:Nat) (x3:Ty.D (.int .i64)) (m1:Ty.D tDots):z0A.l4 k (n4+1) x3 m1=br (ilt x3 (ilen m1.2)) (br (inL x3 m1.2) (bnd (z0W.f k (rd tDot m1.2 (natOf x3))) fun r0=>br (bnot r0) (some false) (br (inB ((rd tDot m1.2 (natOf x3)).1) 16) (br (ile (isub .i64 ((rd tDot m1.2 (natOf x3)).2) 1) (rd (.int .i64) m1.1 (natOf ((rd tDot m1.2 (natOf x3)).1)))) (some false) (br (ilt 0 x3) (br (inL (isub .i64 x3 1) m1.2) (bnd (z0p.f k (rd tDot m1.2 (natOf (isub .i64 x3 1))) (rd tDot m1.2 (natOf x3))) fun r1=>br (bnot (ieq r1 (-1))) (some false) (z0A.l4 k n4 (iadd .i64 x3 1) m1)) none) (z0A.l4 k n4 (iadd .i64 x3 1) m1))) none)) none) (some true):=by kernel_rfl
def z0A.e (k:Nat):Entry:=Sg.entry z0A.sg fun x=>z0A.f k x
theorem z0A.ok (k:Nat):CallOK Tryz.prog 76 (z0A.e k):=fn_ok (c:=z0A.cx k) (code:=z0A.body) (TT.of tt_ok pp_ok mm_ok) (fns_ok ⟨(z0U.ok k),(z0W.ok k),(z0p.ok k),trivial⟩) mixed Tryz.func76 (by kernel_rfl) (by kernel_rfl) (by kernel_rfl) (by kernel_rfl) (by kernel_rfl) (by kernel_rfl) (fun x=>by kernel_rfl)
@[reducible] def ref06_Read.sg:Sg:=⟨[.ref],[tref02Reader],.dat tDots,[tref02Reader]⟩
def z1X.body:Go.Code:=Tryz.f238.body.getD .skip
def z1X.rs:List Go.ResultVar:=Tryz.f238.results.toList
def z1X.regs:List (Nat × RInfo):=[(0,ri [2,3] [2,3]),(1,rq [4] [6] 11)]
def z1X.cx (k:Nat):Cx:=⟨tt,pp,[(77,(z0W.e k))],z1X.regs,k,mm⟩
@[reducible] def z1X.sg:Sg:=⟨[.dat tVec,.dat tDot],[],.dat .bool,[]⟩
def z1X.f (k:Nat) (a0:Ty.D tVec) (a1:Ty.D tDot):Option (Sg.Out z1X.sg):=Sg.fn z1X.sg (z1X.cx k) z1X.body z1X.rs (a0,a1)
theorem z1X.f_eq (k:Nat) (a0:Ty.D tVec) (a1:Ty.D tDot):z1X.f k a0 a1=bnd (z0W.f k a1) fun r0=>br r0 (br (inB a1.1 16) (some (ile a1.2 (rd (.int .i64) a0 (natOf a1.1)))) none) (some false):=by kernel_rfl
def z1X.e (k:Nat):Entry:=Sg.entry z1X.sg fun x=>z1X.f k x.1 x.2
theorem z1X.ok (k:Nat):CallOK Tryz.prog 238 (z1X.e k):=fn_ok (c:=z1X.cx k) (code:=z1X.body) (TT.of tt_ok pp_ok mm_ok) (fns_ok ⟨(z0W.ok k),trivial⟩) mixed Tryz.func238 (by kernel_rfl) (by kernel_rfl) (by kernel_rfl) (by kernel_rfl) (by kernel_rfl) (by kernel_rfl) (fun x=>by kernel_rfl)
def z1Y.body:Go.Code:=Tryz.f202.body.getD .skip
def z1Y.rs:List Go.ResultVar:=Tryz.f202.results.toList
def z1Y.regs:List (Nat × RInfo):=[(0,⟨[2,3],[2,3],[0],[],0,[],[],[],[],[]⟩),(1,ri [2,3,9] [2,3,9]),(2,ri [4] []),(3,ri [2,3,5] [2,3]),(4,⟨[2,3,5,14],[2,3],[],[],0,[2,3,5],[2,3],[],[],[]⟩),(6,rq [2,3,5,23] [2,3] 7),(7,ri [4] []),(5,ri [2,3,5] [2,3]),(8,ri [4] [])]
def z1Y.cx (k:Nat):Cx:=⟨tt,pp,[(238,(z1X.e k))],z1Y.regs,k,mm⟩
@[reducible] def z1Y.sg:Sg:=⟨[.dat tDots,.dat tDot],[],.dat .bool,[]⟩
def z1Y.f (k:Nat) (a0:Ty.D tDots) (a1:Ty.D tDot):Option (Sg.Out z1Y.sg):=Sg.fn z1Y.sg (z1Y.cx k) z1Y.body z1Y.rs (a0,a1)
def z1Y.l4 (k:Nat) (n:Nat) (x5:Ty.D (.int .i64)) (m2:Ty.D tDots) (m3:Ty.D tDot):Option (Sg.Out z1Y.sg):=loopAt (z1Y.cx k) z1Y.body [1,1,0,1,0] 4 [2,3,5] [2,3] [] (Sg.K z1Y.sg (z1Y.cx k) z1Y.rs) n ⟨[(2,.ref 2 []),(3,.ref 3 []),(5,.dat (.int .i64) x5)],[(2,.dat tDots m2),(3,.dat tDot m3)]⟩
theorem z1Y.f_eq (k:Nat) (a0:Ty.D tDots) (a1:Ty.D tDot):z1Y.f k a0 a1=bnd (z1X.f k a0.1 a1) fun r0=>br r0 (some true) (z1Y.l4 k k 0 a0 a1):=by kernel_rfl
theorem z1Y.l4_eq (k:Nat) (n4:Nat) (x5:Ty.D (.int .i64)) (m2:Ty.D tDots) (m3:Ty.D tDot):z1Y.l4 k (n4+1) x5 m2 m3=br (ilt x5 (ilen m2.2)) (br (inL x5 m2.2) (br (deq tDot (rd tDot m2.2 (natOf x5)) m3) (some true) (z1Y.l4 k n4 (iadd .i64 x5 1) m2 m3)) none) (some false):=by kernel_rfl
def z1Y.e (k:Nat):Entry:=Sg.entry z1Y.sg fun x=>z1Y.f k x.1 x.2
theorem z1Y.ok (k:Nat):CallOK Tryz.prog 202 (z1Y.e k):=fn_ok (c:=z1Y.cx k) (code:=z1Y.body) (TT.of tt_ok pp_ok mm_ok) (fns_ok ⟨(z1X.ok k),trivial⟩) mixed Tryz.func202 (by kernel_rfl) (by kernel_rfl) (by kernel_rfl) (by kernel_rfl) (by kernel_rfl) (by kernel_rfl) (fun x=>by kernel_rfl)
def z0w.body:Go.Code:=Tryz.f203.body.getD .skip
def z0w.rs:List Go.ResultVar:=Tryz.f203.results.toList
def z0w.regs:List (Nat × RInfo):=[(0,⟨[1,2],[1,2],[0],[],0,[],[],[],[],[]⟩),(1,⟨[1,2,3],[1,2,3],[4],[],0,[],[],[],[],[]⟩),(2,ri [1,2,3,4] [1,2,3]),(3,⟨[1,2,3,4,13],[1,2,3],[],[],0,[1,2,3,4],[1,2,3],[],[],[]⟩),(5,ri [1,2,3,4,5] [1,2,3,5]),(6,rq [1,2,3,4,5,29] [1,2,3,5] 9),(7,ri [1,2,3,4] [1,2,3]),(8,rq [1,2,3,4,5,43] [1,2,3,5] 8),(9,⟨[1,2,3,4],[1,2,3],[1,4,6],[],0,[],[],[],[],[]⟩),(4,ri [1,2,3,4] [1,2,3]),(10,⟨[2],[2],[1],[],0,[],[],[],[],[]⟩)]
def z0w.cx (k:Nat):Cx:=⟨tt,pp,[],z0w.regs,k,mm⟩
@[reducible] def z0w.sg:Sg:=⟨[.dat tDots],[],.dat tDots,[]⟩
def z0w.f (k:Nat) (a0:Ty.D tDots):Option (Sg.Out z0w.sg):=Sg.fn z0w.sg (z0w.cx k) z0w.body z0w.rs a0
def z0w.l3 (k:Nat) (n:Nat) (x4:Ty.D (.int .i64)) (m1:Ty.D tDots) (m2a:Ty.D tVec) (m2b:List (Ty.D tDot)) (m3a:Ty.D tVec) (m3b:List (Ty.D tDot)):Option (Sg.Out z0w.sg):=loopAt (z0w.cx k) z0w.body [1,1,0,1,0] 3 [1,2,3,4] [1,2,3] [] (Sg.K z0w.sg (z0w.cx k) z0w.rs) n ⟨[(1,.ref 1 []),(2,.ref 2 []),(3,.ref 3 []),(4,.dat (.int .i64) x4)],[(1,.dat tDots m1),(2,.pr (.dat tVec m2a) (.own tDot m2b)),(3,.pr (.dat tVec m3a) (.own tDot m3b))]⟩
theorem z0w.f_eq (k:Nat) (a0:Ty.D tDots):z0w.f k a0=z0w.l3 k k 0 a0 (zarr 16 0) [] a0.1 []:=by kernel_rfl
theorem z0w.l3_eq (k:Nat) (n3:Nat) (x4:Ty.D (.int .i64)) (m1:Ty.D tDots) (m2a:Ty.D tVec) (m2b:List (Ty.D tDot)) (m3a:Ty.D tVec) (m3b:List (Ty.D tDot)):z0w.l3 k (n3+1) x4 m1 m2a m2b m3a m3b=br (ilt x4 (ilen m1.2)) (br (inL x4 m1.2) (br (inB ((rd tDot m1.2 (natOf x4)).1) 16) (br (ieq ((rd tDot m1.2 (natOf x4)).2) (iadd .i64 (rd (.int .i64) m3a (natOf ((rd tDot m1.2 (natOf x4)).1))) 1)) (br (inB ((rd tDot m1.2 (natOf x4)).1) 16) (z0w.l3 k n3 (iadd .i64 x4 1) m1 m2a m2b (upd m3a (natOf ((rd tDot m1.2 (natOf x4)).1)) ((rd tDot m1.2 (natOf x4)).2)) m3b) none) (br (inB ((rd tDot m1.2 (natOf x4)).1) 16) (br (ilt (rd (.int .i64) m3a (natOf ((rd tDot m1.2 (natOf x4)).1))) ((rd tDot m1.2 (natOf x4)).2)) (br (room m3b ((rd tDot m1.2 (natOf x4))::[])) (z0w.l3 k n3 (iadd .i64 x4 1) m1 m2a m2b m3a (app m3b ((rd tDot m1.2 (natOf x4))::[]))) none) (z0w.l3 k n3 (iadd .i64 x4 1) m1 m2a m2b m3a m3b)) none)) none) none) (some (m3a,m3b)):=by kernel_rfl
def z0w.e (k:Nat):Entry:=Sg.entry z0w.sg fun x=>z0w.f k x
theorem z0w.ok (k:Nat):CallOK Tryz.prog 203 (z0w.e k):=fn_ok (c:=z0w.cx k) (code:=z0w.body) (TT.of tt_ok pp_ok mm_ok) (fns_ok trivial) mixed Tryz.func203 (by kernel_rfl) (by kernel_rfl) (by kernel_rfl) (by kernel_rfl) (by kernel_rfl) (by kernel_rfl) (fun x=>by kernel_rfl)
def z2a.body:Go.Code:=Tryz.f150.body.getD .skip
def z2a.rs:List Go.ResultVar:=Tryz.f150.results.toList
def z2a.regs:List (Nat × RInfo):=[(0,⟨[2,3,4],[2,3,4],[0],[],0,[],[],[],[],[]⟩),(1,ri [2,3,4,15] [2,3,4,14]),(2,⟨[4],[4],[1],[],0,[],[],[],[],[]⟩),(3,ri [2,3,4,5] [2,3,4]),(4,ri [2,3,4,5,6] [2,3,4]),(5,ri [2,3,4,5,6,7] [2,3,4]),(6,⟨[2,3,4,5,6,7,21],[2,3,4],[],[],0,[2,3,4,5,6,7],[2,3,4],[],[],[]⟩),(8,rq [2,3,4,5,6,7,35] [2,3,4] 12),(9,⟨[2,3,4,5,7],[2,3,4],[0,3,4],[],0,[],[],[],[],[]⟩),(10,ri [2,3,4,5,6,7] [2,3,4]),(11,⟨[2,3,4,5,6,7],[2,3,4],[0,7,8],[],0,[],[],[],[],[]⟩),(7,ri [2,3,4,5,6,7] [2,3,4]),(12,ri [2,3,4,5,49] [2,3,4]),(13,⟨[2,4,5],[2,4],[0,3,4],[],0,[],[],[],[],[]⟩),(14,⟨[4],[4],[5],[],0,[],[],[],[],[]⟩)]
def z2a.cx (k:Nat):Cx:=⟨tt,pp,[(77,(z0W.e k)),(202,(z1Y.e k)),(118,(z0p.e k)),(203,(z0w.e k))],z2a.regs,k,mm⟩
@[reducible] def z2a.sg:Sg:=⟨[.dat tDots,.dat tDot],[],.dat tDots,[]⟩
def z2a.f (k:Nat) (a0:Ty.D tDots) (a1:Ty.D tDot):Option (Sg.Out z2a.sg):=Sg.fn z2a.sg (z2a.cx k) z2a.body z2a.rs (a0,a1)
def z2a.l6 (k:Nat) (n:Nat) (x5:List (Ty.D tDot)) (x6:Ty.D .bool) (x7:Ty.D (.int .i64)) (m2:Ty.D tDots) (m3:Ty.D tDot) (m4a:Ty.D tVec) (m4b:List (Ty.D tDot)):Option (Sg.Out z2a.sg):=loopAt (z2a.cx k) z2a.body [1,1,1,1,0,1,0] 6 [2,3,4,5,6,7] [2,3,4] [] (Sg.K z2a.sg (z2a.cx k) z2a.rs) n ⟨[(2,.ref 2 []),(3,.ref 3 []),(4,.ref 4 []),(5,.own tDot x5),(6,.dat .bool x6),(7,.dat (.int .i64) x7)],[(2,.dat tDots m2),(3,.dat tDot m3),(4,.pr (.dat tVec m4a) (.own tDot m4b))]⟩
theorem z2a.f_eq (k:Nat) (a0:Ty.D tDots) (a1:Ty.D tDot):z2a.f k a0 a1=bnd (z0W.f k a1) fun r0=>br (bnot r0) (some a0) (bnd (z1Y.f k a0 a1) fun r1=>br r1 (some a0) (z2a.l6 k k [] false 0 a0 a1 (zarr 16 0) [])):=by kernel_rfl
theorem z2a.l6_eq (k:Nat) (n6:Nat) (x5:List (Ty.D tDot)) (x6:Ty.D .bool) (x7:Ty.D (.int .i64)) (m2:Ty.D tDots) (m3:Ty.D tDot) (m4a:Ty.D tVec) (m4b:List (Ty.D tDot)):z2a.l6 k (n6+1) x5 x6 x7 m2 m3 m4a m4b=br (ilt x7 (ilen m2.2)) (br (bnot x6) (br (inL x7 m2.2) (bnd (z0p.f k m3 (rd tDot m2.2 (natOf x7))) fun r0=>br (ilt r0 0) (br (room x5 (m3::[])) (br (inL x7 m2.2) (br (room (app x5 (m3::[])) ((rd tDot m2.2 (natOf x7))::[])) (z2a.l6 k n6 (app (app x5 (m3::[])) ((rd tDot m2.2 (natOf x7))::[])) true (iadd .i64 x7 1) m2 m3 m4a m4b) none) none) none) (br (inL x7 m2.2) (br (room x5 ((rd tDot m2.2 (natOf x7))::[])) (z2a.l6 k n6 (app x5 ((rd tDot m2.2 (natOf x7))::[])) x6 (iadd .i64 x7 1) m2 m3 m4a m4b) none) none)) none) (br (inL x7 m2.2) (br (room x5 ((rd tDot m2.2 (natOf x7))::[])) (z2a.l6 k n6 (app x5 ((rd tDot m2.2 (natOf x7))::[])) x6 (iadd .i64 x7 1) m2 m3 m4a m4b) none) none)) (br (bnot x6) (br (room x5 (m3::[])) (bnd (z0w.f k (m2.1,(app x5 (m3::[])))) fun r1=>some r1) none) (bnd (z0w.f k (m2.1,x5)) fun r2=>some r2)):=by kernel_rfl
def z2a.e (k:Nat):Entry:=Sg.entry z2a.sg fun x=>z2a.f k x.1 x.2
theorem z2a.ok (k:Nat):CallOK Tryz.prog 150 (z2a.e k):=fn_ok (c:=z2a.cx k) (code:=z2a.body) (TT.of tt_ok pp_ok mm_ok) (fns_ok ⟨(z0W.ok k),(z1Y.ok k),(z0p.ok k),(z0w.ok k),trivial⟩) mixed Tryz.func150 (by kernel_rfl) (by kernel_rfl) (by kernel_rfl) (by kernel_rfl) (by kernel_rfl) (by kernel_rfl) (fun x=>by kernel_rfl)
def z0y.body:Go.Code:=Tryz.f78.body.getD .skip
def z0y.rs:List Go.ResultVar:=Tryz.f78.results.toList
def z0y.regs:List (Nat × RInfo):=[(0,ri [0,2] [2]),(1,⟨[0,2,3],[2,3],[2],[],0,[],[],[],[],[]⟩),(2,ri [0,2,3,4] [2,3]),(3,⟨[0,2,3,4,9],[2,3],[],[],0,[0,2,10000003,4],[2,10000003],[],[],[]⟩),(5,⟨[0,2,3,4],[2,3],[7],[],7,[],[],[],[[],[],[],[],[],[],[0,5],[0,5]],[]⟩),(4,ri [0,2,3,4] [2,3]),(6,⟨[2],[2],[1],[],0,[],[],[],[],[]⟩)]
def z0y.cx (k:Nat):Cx:=⟨tt,pp,[(150,(z2a.e k))],z0y.regs,k,mm⟩
@[reducible] def z0y.sg:Sg:=⟨[.dat (.slc tTxn)],[],.dat tDots,[]⟩
def z0y.f (k:Nat) (a0:Ty.D (.slc tTxn)):Option (Sg.Out z0y.sg):=Sg.fn z0y.sg (z0y.cx k) z0y.body z0y.rs a0
def z0y.l3 (k:Nat) (n:Nat) (x0:Ty.D (.slc tTxn)) (x4:Ty.D (.int .i64)) (m2a:Ty.D tVec) (m2b:List (Ty.D tDot)) (m3:Ty.D tDots):Option (Sg.Out z0y.sg):=loopAt (z0y.cx k) z0y.body [1,1,0,1,0] 3 [0,2,10000003,4] [2,10000003] [] (Sg.K z0y.sg (z0y.cx k) z0y.rs) n ⟨[(0,.dat (.slc tTxn) x0),(2,.ref 2 []),(3,.ref 3 []),(4,.dat (.int .i64) x4)],[(2,.pr (.dat tVec m2a) (.own tDot m2b)),(3,.dat tDots m3)]⟩
theorem z0y.f_eq (k:Nat) (a0:Ty.D (.slc tTxn)):z0y.f k a0=z0y.l3 k k a0 0 (zarr 16 0) [] ((zarr 16 0),[]):=by kernel_rfl
theorem z0y.l3_eq (k:Nat) (n3:Nat) (x0:Ty.D (.slc tTxn)) (x4:Ty.D (.int .i64)) (m2a:Ty.D tVec) (m2b:List (Ty.D tDot)) (m3:Ty.D tDots):z0y.l3 k (n3+1) x0 x4 m2a m2b m3=br (ilt x4 (ilen x0)) (br (inL x4 x0) (bnd (z2a.f k m3 ((rd tTxn x0 (natOf x4)).1)) fun r0=>z0y.l3 k n3 x0 (iadd .i64 x4 1) m2a m2b r0) none) (some m3):=by kernel_rfl
def z0y.e (k:Nat):Entry:=Sg.entry z0y.sg fun x=>z0y.f k x
theorem z0y.ok (k:Nat):CallOK Tryz.prog 78 (z0y.e k):=fn_ok (c:=z0y.cx k) (code:=z0y.body) (TT.of tt_ok pp_ok mm_ok) (fns_ok ⟨(z2a.ok k),trivial⟩) mixed Tryz.func78 (by kernel_rfl) (by kernel_rfl) (by kernel_rfl) (by kernel_rfl) (by kernel_rfl) (by kernel_rfl) (fun x=>by kernel_rfl)
def z1h.body:Go.Code:=Tryz.f68.body.getD .skip
def z1h.rs:List Go.ResultVar:=Tryz.f68.results.toList
def z1h.regs:List (Nat × RInfo):=[(0,ri [0,1] []),(1,ri [0,1,10] []),(2,ri [4] []),(3,ri [0,1,5] []),(4,⟨[0,1,5,14],[],[],[],0,[0,1,5],[],[],[],[]⟩),(6,rq [0,1,5,25] [] 9),(7,ri [4] []),(5,ri [0,1,5] []),(8,ri [4] [])]
def z1h.cx (k:Nat):Cx:=⟨tt,pp,[],z1h.regs,k,mm⟩
@[reducible] def z1h.sg:Sg:=⟨[.dat (.slc tDot),.dat (.slc tDot)],[],.dat .bool,[]⟩
def z1h.f (k:Nat) (a0:Ty.D (.slc tDot)) (a1:Ty.D (.slc tDot)):Option (Sg.Out z1h.sg):=Sg.fn z1h.sg (z1h.cx k) z1h.body z1h.rs (a0,a1)
def z1h.l4 (k:Nat) (n:Nat) (x0:Ty.D (.slc tDot)) (x1:Ty.D (.slc tDot)) (x5:Ty.D (.int .i64)):Option (Sg.Out z1h.sg):=loopAt (z1h.cx k) z1h.body [1,1,0,1,0] 4 [0,1,5] [] [] (Sg.K z1h.sg (z1h.cx k) z1h.rs) n ⟨[(0,.dat (.slc tDot) x0),(1,.dat (.slc tDot) x1),(5,.dat (.int .i64) x5)],[]⟩
theorem z1h.f_eq (k:Nat) (a0:Ty.D (.slc tDot)) (a1:Ty.D (.slc tDot)):z1h.f k a0 a1=br (bnot (ieq (ilen a0) (ilen a1))) (some false) (z1h.l4 k k a0 a1 0):=by kernel_rfl
theorem z1h.l4_eq (k:Nat) (n4:Nat) (x0:Ty.D (.slc tDot)) (x1:Ty.D (.slc tDot)) (x5:Ty.D (.int .i64)):z1h.l4 k (n4+1) x0 x1 x5=br (ilt x5 (ilen x0)) (br (inL x5 x0) (br (inL x5 x1) (br (bnot (deq tDot (rd tDot x0 (natOf x5)) (rd tDot x1 (natOf x5)))) (some false) (z1h.l4 k n4 x0 x1 (iadd .i64 x5 1))) none) none) (some true):=by kernel_rfl
def z1h.e (k:Nat):Entry:=Sg.entry z1h.sg fun x=>z1h.f k x.1 x.2
theorem z1h.ok (k:Nat):CallOK Tryz.prog 68 (z1h.e k):=fn_ok (c:=z1h.cx k) (code:=z1h.body) (TT.of tt_ok pp_ok mm_ok) (fns_ok trivial) mixed Tryz.func68 (by kernel_rfl) (by kernel_rfl) (by kernel_rfl) (by kernel_rfl) (by kernel_rfl) (by kernel_rfl) (fun x=>by kernel_rfl)
def z18.body:Go.Code:=Tryz.f71.body.getD .skip
def z18.rs:List Go.ResultVar:=Tryz.f71.results.toList
def z18.regs:List (Nat × RInfo):=[(0,⟨[2,3],[2,3],[0,1],[],0,[],[],[],[],[]⟩),(1,ri [4] [15])]
def z18.cx (k:Nat):Cx:=⟨tt,pp,[(68,(z1h.e k))],z18.regs,k,mm⟩
@[reducible] def z18.sg:Sg:=⟨[.dat tDots,.dat tDots],[],.dat .bool,[]⟩
def z18.f (k:Nat) (a0:Ty.D tDots) (a1:Ty.D tDots):Option (Sg.Out z18.sg):=Sg.fn z18.sg (z18.cx k) z18.body z18.rs (a0,a1)
theorem z18.f_eq (k:Nat) (a0:Ty.D tDots) (a1:Ty.D tDots):z18.f k a0 a1=br (deq tVec a0.1 a1.1) (bnd (z1h.f k a0.2 a1.2) fun r0=>some r0) (some false):=by kernel_rfl
def z18.e (k:Nat):Entry:=Sg.entry z18.sg fun x=>z18.f k x.1 x.2
theorem z18.ok (k:Nat):CallOK Tryz.prog 71 (z18.e k):=fn_ok (c:=z18.cx k) (code:=z18.body) (TT.of tt_ok pp_ok mm_ok) (fns_ok ⟨(z1h.ok k),trivial⟩) mixed Tryz.func71 (by kernel_rfl) (by kernel_rfl) (by kernel_rfl) (by kernel_rfl) (by kernel_rfl) (by kernel_rfl) (fun x=>by kernel_rfl)
def z0C.body:Go.Code:=Tryz.f19.body.getD .skip
def z0C.rs:List Go.ResultVar:=Tryz.f19.results.toList
def z0C.regs:List (Nat × RInfo):=[(0,⟨[1],[1],[0],[],0,[],[],[],[],[]⟩),(1,ri [1,27] [1]),(2,ri [2] [72,79]),(3,ri [1,3] [1]),(4,⟨[1,3,32],[1],[],[],0,[1,3],[1],[],[],[]⟩),(6,ri [1,3,41] [1]),(7,ri [2] [72,79]),(5,ri [1,3] [1]),(8,ri [1,4] [1]),(9,⟨[1,4,43],[1],[],[],0,[1,4],[1],[],[],[]⟩),(11,ri [1,4,51] [1]),(12,ri [2] [72,79]),(13,ri [1,4,5] [1]),(14,⟨[1,4,5,58],[1],[],[],0,[1,4,5],[1],[],[],[]⟩),(16,ri [1,4,5,69] [1]),(17,ri [2] [72,79]),(15,ri [1,4,5] [1]),(10,ri [1,4] [1]),(18,rq [2] [72,79] 11)]
def z0C.cx (k:Nat):Cx:=⟨tt,pp,[(75,(z0T.e k)),(49,(z0Y.e k)),(76,(z0A.e k)),(48,(z0z.e k)),(77,(z0W.e k)),(78,(z0y.e k)),(71,(z18.e k))],z0C.regs,k,mm⟩
@[reducible] def z0C.sg:Sg:=⟨[.dat tState],[],.dat .bool,[]⟩
def z0C.f (k:Nat) (a0:Ty.D tState):Option (Sg.Out z0C.sg):=Sg.fn z0C.sg (z0C.cx k) z0C.body z0C.rs a0
def z0C.l4 (k:Nat) (n:Nat) (x3:Ty.D (.int .i64)) (m1:Ty.D tState):Option (Sg.Out z0C.sg):=loopAt (z0C.cx k) z0C.body [1,1,0,1,0] 4 [1,3] [1] [] (Sg.K z0C.sg (z0C.cx k) z0C.rs) n ⟨[(1,.ref 1 []),(3,.dat (.int .i64) x3)],[(1,.dat tState m1)]⟩
def z0C.l9 (k:Nat) (n:Nat) (x4:Ty.D (.int .i64)) (m1:Ty.D tState):Option (Sg.Out z0C.sg):=loopAt (z0C.cx k) z0C.body [1,1,1,0,1,0] 9 [1,4] [1] [] (Sg.K z0C.sg (z0C.cx k) z0C.rs) n ⟨[(1,.ref 1 []),(4,.dat (.int .i64) x4)],[(1,.dat tState m1)]⟩
def z0C.l14 (k:Nat) (n9:Nat) (n:Nat) (x4:Ty.D (.int .i64)) (x5:Ty.D (.int .i64)) (m1:Ty.D tState):Option (Sg.Out z0C.sg):=loopAt (z0C.cx k) z0C.body [1,1,1,0,1,0,0,1,0,0,1,1,0] 14 [1,4,5] [1] [n9] (Sg.K z0C.sg (z0C.cx k) z0C.rs) n ⟨[(1,.ref 1 []),(4,.dat (.int .i64) x4),(5,.dat (.int .i64) x5)],[(1,.dat tState m1)]⟩
theorem z0C.f_eq (k:Nat) (a0:Ty.D tState):z0C.f k a0=br (ilt 1000 (ilen a0.1)) (some false) (bnd (z0T.f k a0.1) fun r0=>br (bnot r0) (some false) (bnd (z0Y.f k a0.2.1) fun r1=>br (bnot r1) (some false) (bnd (z0A.f k a0.2.2.2.1) fun r2=>br (bnot r2) (some false) (z0C.l4 k k 0 a0)))):=by kernel_rfl
theorem z0C.l4_eq (k:Nat) (n4:Nat) (x3:Ty.D (.int .i64)) (m1:Ty.D tState):z0C.l4 k (n4+1) x3 m1=br (ilt x3 (ilen m1.1)) (br (inL x3 m1.1) (bnd (z0z.f k (rd tTxn m1.1 (natOf x3))) fun r0=>br (bnot (ieq r0 0)) (some false) (z0C.l4 k n4 (iadd .i64 x3 1) m1)) none) (z0C.l9 k k 0 m1):=by kernel_rfl
theorem z0C.l9_eq (k:Nat) (n9:Nat) (x4:Ty.D (.int .i64)) (m1:Ty.D tState):z0C.l9 k (n9+1) x4 m1=br (ilt x4 8) (br (inB x4 8) (br (ilt 1000 (ilen (rd (.slc tDot) m1.2.2.2.2 (natOf x4)))) (some false) (z0C.l14 k n9 k x4 0 m1)) none) (bnd (z0A.f k m1.2.2.1) fun r0=>br r0 (bnd (z0y.f k m1.1) fun r1=>bnd (z18.f k m1.2.2.1 r1) fun r2=>some r2) (some false)):=by kernel_rfl
theorem z0C.l14_eq (k:Nat) (n9:Nat) (n14:Nat) (x4:Ty.D (.int .i64)) (x5:Ty.D (.int .i64)) (m1:Ty.D tState):z0C.l14 k n9 (n14+1) x4 x5 m1=br (inB x4 8) (br (ilt x5 (ilen (rd (.slc tDot) m1.2.2.2.2 (natOf x4)))) (br (inB x4 8) (br (inL x5 (rd (.slc tDot) m1.2.2.2.2 (natOf x4))) (bnd (z0W.f k (rd tDot (rd (.slc tDot) m1.2.2.2.2 (natOf x4)) (natOf x5))) fun r0=>br (bnot r0) (some false) (z0C.l14 k n9 n14 x4 (iadd .i64 x5 1) m1)) none) none) (z0C.l9 k n9 (iadd .i64 x4 1) m1)) none:=by kernel_rfl
def z0C.e (k:Nat):Entry:=Sg.entry z0C.sg fun x=>z0C.f k x
theorem z0C.ok (k:Nat):CallOK Tryz.prog 19 (z0C.e k):=fn_ok (c:=z0C.cx k) (code:=z0C.body) (TT.of tt_ok pp_ok mm_ok) (fns_ok ⟨(z0T.ok k),(z0Y.ok k),(z0A.ok k),(z0z.ok k),(z0W.ok k),(z0y.ok k),(z18.ok k),trivial⟩) mixed Tryz.func19 (by kernel_rfl) (by kernel_rfl) (by kernel_rfl) (by kernel_rfl) (by kernel_rfl) (by kernel_rfl) (fun x=>by kernel_rfl)
end Go.Proofs.YtggcagclpkhlhaaGreatDoor
end
